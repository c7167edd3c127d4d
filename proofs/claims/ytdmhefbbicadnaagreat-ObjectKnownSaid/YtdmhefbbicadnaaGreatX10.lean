import Derived.Test.YtdmhefbbicadnaaGreatX9
import Derived.Test.YtdmhefbbicadnaaGreatL17
/-! The evaluator, part 10: drawn regions that make new blocks, beside calls. -/
namespace Go.Lift

inductive ItemZ where
  | rd (i : Nat) (r : Bool)
  | pen (z : Nat)
  | eff (j : Nat) (ps : List Nat)
  | alc (i : Nat)

def apB (ops : Array Oper) (i j : Nat) : Bool :=
  match ops[i]?, ops[j]? with
  | some x, some y => x.apart ops y
  | _, _ => false

theorem apB_s {ops : Array Oper} {i j : Nat} (h : apB ops i j = true) : looksNot ops j (dstOf ops i) ∧ (∀ t, dstOf ops i = some t → dstOf ops j ≠ some t) ∧ looksNot ops i (dstOf ops j) := by
  unfold apB at h
  split at h
  · rename_i x y hx hy
    obtain ⟨h1, h2, h3⟩ := Oper.apart_spec h
    rw [dstOf_eq hx, dstOf_eq hy]
    refine ⟨fun o t ho ht => ?_, h2, fun o t ho ht => ?_⟩
    · rw [hy] at ho
      obtain rfl := Option.some.inj ho
      exact h1 t ht
    · rw [hx] at ho
      obtain rfl := Option.some.inj ho
      exact h3 t ht
  · cases h

def listN : List Nat → Array Bool → Array Bool
  | [], l => l
  | i :: Z, l => listN Z (l.setIfInBounds i true)

theorem listZ_eq : ∀ (Z : Zs) (l : Array Bool), listZ Z l = listN (Z.map (·.1)) l
  | [], _ => rfl
  | _ :: Z, l => listZ_eq Z _

def planZ (P : Program) (ops : Array Oper) (A : Nat → Bool) : List ItemZ → Array Bool → List Nat → List Nat → Bool
  | [], listed, _, PV => (Region.ready .any ops listed).isEmpty && PV.isEmpty
  | .rd i isr :: rest, listed, L, PV => (Region.ready .any ops listed).contains i && Region.free .any ops listed i && !isEffO P ops i && (isr || isA P ops i) && !A i && PV.all (fun z => apB ops z i) &&
      planZ P ops A rest (listed.setIfInBounds i true) (match isr with | true => i :: L | false => L) PV
  | .pen z :: rest, listed, L, PV => (Region.ready .any ops listed).contains z && A z && isEffO P ops z && !PV.contains z && PV.all (fun y => apB ops y z) && planZ P ops A rest listed L (z :: PV)
  | .eff j ps :: rest, listed, L, PV => (Region.ready .any ops listed).contains j && !A j && (Region.ready .any ops (listN PV listed)).all (fun k => k == j) && PV.all (fun z => apB ops z j) &&
      L.all (fun p => ps.contains p || excused P ops listed j p) && planZ P ops A rest (listed.setIfInBounds j true) L PV
  | .alc i :: rest, listed, L, PV => (Region.ready .any ops listed).contains i && A i && PV.contains i && (Region.ready .any ops (listN (PV.erase i) listed)).all (fun k => k == i) &&
      planZ P ops A rest (listed.setIfInBounds i true) L (PV.erase i)

/-- How many operations a plan carries out. -/
def moves : List ItemZ → Nat
  | [] => 0
  | .pen _ :: rest => moves rest
  | _ :: rest => moves rest + 1

theorem ready_listN {ops : Array Oper} {j : Nat} : ∀ (Z : List Nat) (l : Array Bool), j ∈ Region.ready .any ops l → j ∉ Z → j ∈ Region.ready .any ops (listN Z l)
  | [], _, h, _ => h
  | i :: Z, l, h, hn => ready_listN Z _ (ready_mono h fun e => hn (by simp [e])) fun hm => hn (by simp [hm])

theorem listN_append : ∀ (Z Y : List Nat) (l : Array Bool), listN (Z ++ Y) l = listN Y (listN Z l)
  | [], _, _ => rfl
  | _ :: Z, Y, l => listN_append Z Y _

theorem listN_perm {Z Y : List Nat} (h : Z.Perm Y) : ∀ l, listN Z l = listN Y l := by
  induction h with
  | nil => intro l; rfl
  | cons x _ ih => intro l; exact ih _
  | swap x y Z =>
    intro l
    simp only [listN]
    by_cases hxy : x = y
    · subst hxy; rfl
    · rw [Array.setIfInBounds_comm _ _ fun e => hxy e.symm]
  | trans _ _ ih1 ih2 => intro l; rw [ih1, ih2]

/-! ### What an allocation makes -/

/-- The operand, if it is plain. -/
def sval (E : Tr Value) (x : Operand) : Option Value :=
  match xeval E x with
  | some v => (match scal v with | true => some v | false => none)
  | none => none

def alcO (P : Program) (o : Oper) (s : Nat) (E : Tr Value) : Option (Value × Blk) :=
  match o.op with
  | .makeMap _ none => some (.map (some s), .map [])
  | .alloc t => (match zeroOf P t with
    | some z => some (.pointer (some ⟨s, 0, none⟩), .cells false 0 z.cells.toList)
    | none => none)
  | .makeSlice t l c => (match sval E l, sval E c with
    | some (.int _ n), some (.int _ m) => (match P.underlying t with
      | some (.slice e) => (match elemO P e with
        | some (es, bytes, zc) => if n = m ∧ 0 ≤ n ∧ fits n.toNat bytes then some (.slice (some ⟨s, 0, none⟩) n.toNat n.toNat, .cells false es (zrow zc n.toNat)) else none
        | none => none)
      | _ => none)
    | _, _ => none)
  | _ => none

/-- The plain operands alone. -/
def plainE (n : Nat) (E : Tr Value) (o : Oper) (ops : Array Oper) : Env :=
  ⟨n, fun t => match (o.looksAt ops).contains t with
    | true => (match E.get t with
      | some v => (match scal v with | true => some v | false => none)
      | none => none)
    | false => none⟩

theorem plainE_s {n : Nat} {E : Tr Value} {o : Oper} {ops : Array Oper} {t : Nat} {x : Value} (h : eget (plainE n E o ops) t = some x) : eget (eden n E) t = some x ∧ scal x = true ∧ t ∈ o.looksAt ops := by
  simp only [eget, plainE] at h
  split at h
  · rename_i hc
    split at h
    · rename_i v hv
      split at h
      · rename_i hs
        obtain rfl := Option.some.inj h
        exact ⟨hv, hs, by simpa using hc⟩
      · cases h
    · cases h
  · cases h

theorem plainE_eval {n : Nat} {E : Tr Value} {o : Oper} {ops : Array Oper} {x : Operand} {v : Value} (hx : x ∈ o.op.operands) (h : sval E x = some v) : aeval (plainE n E o ops) x = some v := by
  unfold sval at h
  split at h
  · rename_i u hu
    split at h
    · rename_i hs
      obtain rfl := Option.some.inj h
      cases x with
      | tmp t =>
        have hm : t ∈ o.looksAt ops := List.mem_append_left _ (List.mem_filterMap.2 ⟨.tmp t, by simpa using hx, rfl⟩)
        have hc : (o.looksAt ops).contains t = true := by simpa using hm
        have hu : E.get t = some u := hu
        simp only [aeval, eget, plainE, hc, hu, hs]
      | const c => rw [← hu]; simp only [aeval, xeval]; cases cst c <;> rfl
      | func f => exact hu
      | global g => cases hu
    · cases h
  · cases h

theorem alcO_s {P : Program} {ops : Array Oper} {i s n : Nat} {o : Oper} {E : Tr Value} {v : Value} {k : Blk} (ho : ops[i]? = some o) (hg : o.guard = none) (h : alcO P o s E = some (v, k)) : Al P ops i s (eden n E) v k := by
  have base : ∀ (hk : k.rw = true), (lopW P (plainE n E o ops) o (Heap.void s) fun u H' => u = v ∧ H' = (Heap.void s).alloc k) → Al P ops i s (eden n E) v k :=
    fun hk hl => ⟨o, plainE n E o ops, ho, hg, hk, hl, rfl, fun t x ht => plainE_s ht⟩
  unfold alcO at h
  have hev : ∀ x v, x ∈ o.op.operands → sval E x = some v → aeval (plainE n E o ops) x = some v := fun x v hx hv => plainE_eval hx hv
  unfold lopW at base
  cases hop : o.op <;> simp only [hop] at h base hev <;> (try (cases h; done))
  case alloc t =>
    split at h
    · rename_i z hz
      simp only [Option.some.injEq, Prod.mk.injEq] at h
      obtain ⟨rfl, rfl⟩ := h
      simp only [hz] at base
      exact base rfl ⟨rfl, rfl⟩
    · cases h
  case makeMap t r =>
    cases r with
    | none =>
      simp only [Option.some.injEq, Prod.mk.injEq] at h
      obtain ⟨rfl, rfl⟩ := h
      exact base rfl ⟨rfl, rfl⟩
    | some x => cases h
  case makeSlice t l c =>
    split at h
    · rename_i k1 nn k2 mm hl hc
      split at h
      · rename_i e hu
        split at h
        · rename_i es bytes zc he
          split at h
          · rename_i hcond
            simp only [Option.some.injEq, Prod.mk.injEq] at h
            obtain ⟨rfl, rfl⟩ := h
            refine base rfl ?_
            have h1 := hev l _ (by simp [Op.operands]) hl
            have h2 := hev c _ (by simp [Op.operands]) hc
            simp only [ev1, h1, h2, amakeSlice, hu, he]
            exact ⟨hcond.1, hcond.2.1, hcond.2.2, rfl, rfl⟩
          · cases h
        · cases h
      · cases h
    · cases h

end Go.Lift
