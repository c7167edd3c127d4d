import Derived.Test.YtdmhefbbicadnaaGreatX7
/-! The evaluator, part 8: operations and regions as closures. -/
namespace Go.Lift

noncomputable section
variable {R : Type}

theorem fstore_s {P : Program} {t : TypeId} {a v : Value} {T : VS} {K : VS → Option R} {r : R} (h : (fstore P t).f a v T K = some r) : xstore P t a v T K = some r := by
  unfold fstore at h
  cases hd : decide ((P.info? t).map (·.size) = some 1) <;> simp only [hd] at h
  case true =>
    have hsz := of_decide_eq_true hd
    split at h
    · rename_i b o
      rw [tget_eq] at h
      split at h
      · rename_i ro es c hb
        split at h
        · split at h
          · exact h
          · exact h
          · rename_i hna hnt
            split at h
            · rename_i c' hp
              obtain ⟨h1, h2⟩ := putN_s hp
              obtain ⟨hcells, hone⟩ := oneCell_of hna hnt
              unfold xstore
              simp only [VS.get, hb]
              rw [if_pos ⟨by rw [hcells]; exact hsz, by rw [hcells]; exact h1, by rw [hcells]; simp [hone]⟩]
              rw [hcells]
              rw [tset_eq, h2] at h
              exact h
            · cases h
        · cases h
      · cases h
    · cases h
  case false => exact h

def foff (P : Program) (s : TypeId) (i : Nat) : Option Nat :=
  match P.underlying s with
  | some (.struct fs) => (match fs[i]? with
    | some f => (match sizeO P f.type with
      | some (_ + 1) => some f.offset
      | _ => none)
    | none => none)
  | _ => none

def felem (P : Program) (t : TypeId) : Option Nat :=
  match P.underlying t with
  | some (.slice e) => sizeO P e
  | _ => none

def isSl (P : Program) (t : TypeId) : Bool := match P.underlying t with | some (.slice _) => true | _ => false
def intTo (P : Program) (s d : TypeId) : Option IntKind := match P.underlying s, P.underlying d with
  | some (.int _), some (.int k) => some k
  | _, _ => none

def lenArg (P : Program) (c : Call) : Option Operand :=
  match c.callee, c.args.toList, c.argTypes.toList with
  | .builtin .len, [x], [t] => (match isSl P t with | true => some x | false => none)
  | _, _, _ => none

def fop (P : Program) (o : Oper) : Bx (Tr Value → VS → (Value → VS → Option R) → Option R) :=
  match o.op with
  | .move x => ⟨fun E T K => (fev x).f E fun v => K v T⟩
  | .assign x => ⟨fun E T K => (fev x).f E fun v => K v T⟩
  | .nilCheck x => ⟨fun E T K => (fev x).f E fun v => xnil v fun v => K v T⟩
  | .extract x i => ⟨fun E T K => (fev x).f E fun v => xextract v i fun v => K v T⟩
  | .binOp op t x y _ => (match fint op with
    | some f => ⟨fun E T K => (fev x).f E fun v => (fev y).f E fun u => (match v with
      | .int k a => (match u with
        | .int k' b => cond (keq k k') (K (f k a b) T) none
        | _ => none)
      | v => xbin P (isC x || isC y) op t v u fun v => K v T)⟩
    | none => ⟨fun E T K => (fev x).f E fun v => (fev y).f E fun u => xbin P (isC x || isC y) op t v u fun v => K v T⟩)
  | .fieldAddr s x i => (match foff P s i with
    | some d => ⟨fun E T K => (fev x).f E fun v => (match v with
      | .pointer (some ⟨b, o, none⟩) => K (.pointer (some ⟨b, Nat.add o d, none⟩)) T
      | _ => none)⟩
    | none => ⟨fun _ _ _ => none⟩)
  | .indexAddr t x i => (match felem P t with
    | some s => ⟨fun E T K => (fev x).f E fun v => (fev i).f E fun u => (match v with
      | .slice (some ⟨b, o, none⟩) l _ => (match u with
        | .int _ (.ofNat m) => cond (Nat.blt m l) (K (.pointer (some ⟨b, Nat.add o (Nat.mul m s), none⟩)) T) none
        | _ => none)
      | _ => none)⟩
    | none => ⟨fun E T K => xop P E o T K⟩)
  | .load t x => ⟨fun E T K => (fev x).f E fun v => (fload P t).f v T fun v => K v T⟩
  | .store t x y => ⟨fun E T K => (fev x).f E fun v => (fev y).f E fun u => (fstore P t).f v u T fun T => K undef T⟩
  | .convert s d x => (match intTo P s d with
    | some k => ⟨fun E T K => (fev x).f E fun v => (match v with
      | .int _ n => K (.int k (fwrap k n)) T
      | _ => none)⟩
    | none => ⟨fun E T K => xop P E o T K⟩)
  | .call c => (match lenArg P c with
    | some x => ⟨fun E T K => (fev x).f E fun v => (match v with
      | .slice _ l _ => K (.int .i64 l) T
      | _ => none)⟩
    | none => ⟨fun E T K => xop P E o T K⟩)
  | _ => ⟨fun E T K => xop P E o T K⟩

theorem fop_s {P : Program} {o : Oper} {E : Tr Value} {T : VS} {K : Value → VS → Option R} {r : R} (h : (fop P o).f E T K = some r) : xop P E o T K = some r := by
  obtain ⟨dst, op, type, pos, after, guard⟩ := o
  unfold fop at h
  cases op <;> simp only at h
  case move x => rw [fev_eq] at h; exact h
  case assign x => rw [fev_eq] at h; exact h
  case nilCheck x => rw [fev_eq] at h; exact h
  case extract x i => rw [fev_eq] at h; exact h
  case binOp op t x y z =>
    show (xev1 E x fun v => xev1 E y fun u => xbin P (isC x || isC y) op t v u fun v => K v T) = some r
    cases hf : fint op with
    | none => rw [hf] at h; simp only [fev_eq] at h; exact h
    | some f =>
      rw [hf] at h
      simp only [fev_eq] at h
      unfold xev1 at h ⊢
      split at h
      · dsimp only at h ⊢
        split at h
        · split at h
          · split at h
            · rename_i k a _ _ k' b _
              cases hk : keq k k' with
              | false => rw [hk] at h; cases h
              | true =>
                rw [hk] at h
                rw [fint_s hf _ _ _ _ _ hk]
                exact h
            · cases h
          · exact h
        · cases h
      · cases h
  case fieldAddr s x i =>
    show (xev1 E x fun v => xfieldAddr P s v i fun v => K v T) = some r
    cases hd : foff P s i with
    | none => rw [hd] at h; cases h
    | some d =>
      rw [hd] at h
      simp only [fev_eq] at h
      unfold foff at hd
      unfold xev1 at h ⊢
      split at h
      · dsimp only at h ⊢
        split at h
        · unfold xfieldAddr
          split at hd
          · rename_i h1
            simp only [h1]
            split at hd
            · rename_i h2
              simp only [h2]
              split at hd
              · rename_i h3
                simp only [h3]
                obtain rfl := Option.some.inj hd
                exact h
              · cases hd
            · cases hd
          · cases hd
        · cases h
      · cases h
  case indexAddr t x i =>
    cases hf : felem P t with
    | none => rw [hf] at h; exact h
    | some s =>
      show (xev1 E x fun v => xev1 E i fun u => xindexAddr P t v u fun v => K v T) = some r
      rw [hf] at h
      simp only [fev_eq] at h
      unfold felem at hf
      unfold xev1 at h ⊢
      split at h
      · dsimp only at h ⊢
        split at h
        · split at h
          · rename_i b o l cp _
            split at h
            · rename_i ik m _
              unfold xindexAddr
              simp only
              split at hf
              · rename_i h1
                simp only [h1, hf]
                cases hb : Nat.blt m l with
                | false => rw [hb] at h; cases h
                | true =>
                  rw [hb] at h
                  have hlt := blt_s hb
                  rw [if_pos ⟨by simp only [Int.ofNat_eq_natCast]; omega, by simp only [Int.ofNat_eq_natCast]; omega⟩]
                  exact h
              · cases hf
            · cases h
          · cases h
        · cases h
      · cases h
  case load t x =>
    show (xev1 E x fun v => xload P t v T fun v => K v T) = some r
    rw [fev_eq] at h
    unfold xev1 at h ⊢
    split at h
    · exact fload_s h
    · cases h
  case store t x y =>
    show (xev1 E x fun v => xev1 E y fun u => xstore P t v u T fun T => K undef T) = some r
    simp only [fev_eq] at h
    unfold xev1 at h ⊢
    split at h
    · dsimp only at h ⊢
      split at h
      · exact fstore_s h
      · cases h
    · cases h
  case convert s d x =>
    cases hf : intTo P s d with
    | none => rw [hf] at h; exact h
    | some k =>
      rw [hf] at h
      simp only [fev_eq] at h
      unfold intTo at hf
      split at hf
      · rename_i h1 h2
        obtain rfl := Option.some.inj hf
        unfold xop
        have hcl : cls P ⟨dst, .convert s d x, type, pos, after, guard⟩ = .a := by simp only [cls, h1, h2]
        simp only [hcl]
        show (xev1 E x fun v => xcvA P s d v fun v => K v T) = some r
        unfold xev1 at h ⊢
        split at h
        · dsimp only at h ⊢
          split at h
          · simp only [xcvA, h1, h2]
            rw [fwrap_eq] at h
            exact h
          · cases h
        · cases h
      · cases hf
  case call c =>
    cases hf : lenArg P c with
    | none => rw [hf] at h; exact h
    | some y =>
      rw [hf] at h
      simp only [fev_eq] at h
      unfold lenArg at hf
      split at hf
      · rename_i x t h1 h2 h3
        unfold isSl at hf
        split at hf
        · obtain rfl := Option.some.inj hf
          rename_i hs
          split at hs
          · rename_i hu
            have hcl : cls P ⟨dst, .call c, type, pos, after, guard⟩ = .a := by simp only [cls, h1, h3, hu]
            unfold xop
            simp only [hcl]
            unfold xlopA
            simp only [h1, h2, h3]
            unfold xev1 at h ⊢
            split at h
            · dsimp only at h ⊢
              split at h
              · simp only [xlenA, hu]
                exact h
              · cases h
            · cases h
          · cases hs
        · cases hf
      · cases hf
  all_goals exact h

end

end Go.Lift
