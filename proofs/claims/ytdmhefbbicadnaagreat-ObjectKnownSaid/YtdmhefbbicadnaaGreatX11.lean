import Derived.Test.YtdmhefbbicadnaaGreatX10
/-! The evaluator, part 11: drawn regions that make new blocks: the run of a plan. -/
namespace Go.Lift

noncomputable section

/-- The number that is kept for an allocation. -/
def sg (AL : List Nat) (N z : Nat) : Nat := N + AL.idxOf z

def cschZ (P : Program) (ops : Array Oper) (AL : List Nat) : List ItemZ → Bx (CallF → Nat → Zs → Mem → Tr Value → VS → Option Res)
  | [] => ⟨fun _ _ _ _ E T => some (.normal, E, T)⟩
  | .rd i isr :: rest => ⟨fun call N W M E T => match (frd P ops i).f E T with
      | some v => frc v fun v => (cschZ P ops AL rest).f call N W (match isr with | true => (i, E, v) :: M | false => M) ((fput (dstOf ops i)).f E v) T
      | none => none⟩
  | .pen z :: rest => match ops[z]? with
    | some o => (match o.guard with
      | none => ⟨fun call N W M E T => match alcO P o (sg AL N z) E, T.get (sg AL N z) with
        | some (v, k), none => (cschZ P ops AL rest).f call N ((z, v, k) :: W) M E T
        | _, _ => none⟩
      | some _ => ⟨fun _ _ _ _ _ _ => none⟩)
    | none => ⟨fun _ _ _ _ _ _ => none⟩
  | .eff j ps :: rest => ⟨fun call N W M E T => (cgop P ops j).f call E T fun v T' => match recheck P ops ps M T' && W.all (fun q => (T'.get (sg AL N q.1)).isNone) with
    | true => frc v fun v => (cschZ P ops AL rest).f call N W M ((fput (dstOf ops j)).f E v) T'
    | false => none⟩
  | .alc i :: rest => ⟨fun call N W M E T => match W.find? (fun q => q.1 == i) with
    | some q => (cschZ P ops AL rest).f call N (W.filter fun q => q.1 != i) M ((fput (dstOf ops i)).f E q.2.1) (T.set (sg AL N i) q.2.2)
    | none => none⟩

end

end Go.Lift
