import Derived.Test.YtdmhefbbicadnaaGreatX2
import Derived.Test.YtdmhefbbicadnaaGreatL12
/-! The evaluator, part 3: operations with calls; regions. -/
namespace Go.Lift

inductive OpRes where
  | val (v : Value) (T : VS)
  | pan (ch : List PanicEntry) (T : VS)

/-- What is called: a function; yield, of a loop. -/
inductive Cal where
  | fn (g : FuncId)
  | yl (l : Nat)

abbrev CallF := Cal → List Value → VS → Option (AEnd × VS)

def acallC (P : Program) (c : Cal) (args : List Value) (H : Heap) (K : AEnd → Heap → Prop) : Prop :=
  match c with
  | .fn g => acall P g args H K
  | .yl l => ayield P l args H K

/-- What the evaluator says of a call is so. -/
def CallOK (P : Program) (call : CallF) : Prop := ∀ g args T en T', call g args T = some (en, T') → ∀ K : AEnd → Heap → Prop, K en T'.den → acallC P g args T.den K

def xcallV (call : CallF) (P : Program) (t : TypeId) (f : Value) (args : List Value) (T : VS) : Option OpRes :=
  match f with
  | .func (.func g) x y => (match callOK P g with
    | true => (match call (.fn g) (x.toList ++ args ++ y.toList) T with
      | some (.returned v, T') => xshp P t v fun u => some (.val u T')
      | some (.panicked ch, T') => some (.pan ch T')
      | none => none)
    | false => none)
  | .func (.yield l) x y => (match x.toList, y.toList with
    | [], [] => (match call (.yl l) args T with
      | some (.returned v, T') => some (.val v T')
      | _ => none)
    | _, _ => none)
  | _ => none

def xop1 (call : CallF) (P : Program) (E : Tr Value) (o : Oper) (T : VS) : Option OpRes :=
  match cls P o with
  | .c => (match o.op with
    | .call c => (match c.callee with
      | .value f => xev1 E f fun fv => xevL E c.args.toList fun vs => xcallV call P o.type fv vs T
      | _ => none)
    | _ => none)
  | .p => (match o.op with
    | .panic x => xev1 E x fun v => (match v with
      | .iface t u => some (.pan [{ v := .iface t u, recovered := false }] T)
      | _ => none)
    | _ => none)
  | _ => xop P E o T fun v T' => some (.val v T')

def xgop (call : CallF) (P : Program) (ops : Array Oper) (i : Nat) (E : Tr Value) (T : VS) : Option OpRes :=
  match ops[i]? with
  | none => none
  | some o => match o.guard with
    | none => xop1 call P E o T
    | some (g, b) => match ((ops[g]?).bind (·.dst)).bind E.get with
      | some (.bool t) => if t = b then xop1 call P E o T else some (.val undef T)
      | some (.tuple _) => some (.val undef T)
      | _ => none

def OpRes.holds (G : Value → Heap → Prop) (Kp : List PanicEntry → Heap → Prop) : OpRes → Prop
  | .val v T => G v T.den
  | .pan ch T => Kp ch T.den

section
variable {N : Nat} {call : CallF} {P : Program} {E : Tr Value} {T : VS} {G : Value → Heap → Prop} {Kp : List PanicEntry → Heap → Prop} {res : OpRes} {ops : Array Oper}

theorem xop1_s {o : Oper} (hc : CallOK P call) (h : xop1 call P E o T = some res) (hk : res.holds G Kp) : lop P (eden N E) o T.den G Kp := by
  unfold xop1 at h
  split at h
  · rename_i hcls
    unfold lop
    simp only [hcls]
    split at h
    · rename_i c hop
      simp only [hop]
      split at h
      · rename_i f hf
        simp only [hf]
        refine xev1_s h fun fv h => xevL_s h fun vs h => ?_
        unfold xcallV at h
        unfold acallV
        split at h
        · simp only
          split at h
          · rename_i hok
            simp only [hok]
            split at h
            · rename_i v T' hcall
              refine hc _ _ _ _ _ hcall _ ?_
              exact xshp_s h fun u hu => by
                obtain rfl := Option.some.inj hu
                exact hk
            · rename_i ch T' hcall
              obtain rfl := Option.some.inj h
              exact hc _ _ _ _ _ hcall _ hk
            · cases h
          · cases h
        · rename_i l x y
          simp only
          split at h
          · rename_i hx hy
            split at h
            · rename_i v T' hcall
              obtain rfl := Option.some.inj h
              refine ⟨by rw [← Array.toList_inj]; exact hx, by rw [← Array.toList_inj]; exact hy, ?_⟩
              exact hc _ _ _ _ _ hcall _ hk
            · cases h
          · cases h
        · cases h
      · cases h
    · cases h
  · rename_i hcls
    unfold lop
    simp only [hcls]
    split at h
    · rename_i x hop
      simp only [hop]
      refine xev1_s h fun v h => ?_
      unfold apanic
      split at h
      · obtain rfl := Option.some.inj h
        exact hk
      · cases h
    · cases h
  · exact xop_s h fun u T' hu => by
      obtain rfl := Option.some.inj hu
      exact hk

theorem xgop_s {i : Nat} (hc : CallOK P call) (h : xgop call P ops i E T = some res) (hk : res.holds G Kp) : gop P ops i (eden N E) T.den G Kp := by
  unfold xgop at h
  unfold gop
  split at h
  · cases h
  · rename_i o ho
    simp only [ho]
    split at h
    · rename_i hg
      simp only [hg]
      exact xop1_s hc h hk
    · rename_i g b hg
      simp only [hg]
      have he : ((ops[g]?).bind (·.dst)).bind (eget (eden N E)) = ((ops[g]?).bind (·.dst)).bind E.get := rfl
      rw [he]
      split at h
      · rename_i t ht
        simp only [ht]
        split at h
        · rename_i hb
          rw [if_pos hb]
          exact xop1_s hc h hk
        · rename_i hb
          rw [if_neg hb]
          obtain rfl := Option.some.inj h
          exact hk
      · rename_i ht
        simp only [ht]
        obtain rfl := Option.some.inj h
        exact hk
      · cases h
end

/-! ### Regions in the text's order -/

abbrev Res := AExit × (Tr Value) × VS

/-- A number is worked out before it is kept. -/
def frc {α : Type} (v : Value) (next : Value → α) : α :=
  match v with
  | .int k n => (match n with
    | .ofNat m => (match m with
      | 0 => next (.int k (.ofNat 0))
      | m + 1 => next (.int k (.ofNat (m + 1))))
    | .negSucc m => (match m with
      | 0 => next (.int k (.negSucc 0))
      | m + 1 => next (.int k (.negSucc (m + 1)))))
  | .bool b => (match b with
    | true => next (.bool true)
    | false => next (.bool false))
  | v => next v

theorem frc_eq {α : Type} (v : Value) (next : Value → α) : frc v next = next v := by
  unfold frc
  split
  · split
    · split <;> rfl
    · split <;> rfl
  · split <;> rfl
  · rfl

def evOps (call : CallF) (P : Program) (ops : Array Oper) : List Nat → Tr Value → VS → Option Res
  | [], E, T => some (.normal, E, T)
  | i :: rest, E, T => match xgop call P ops i E T with
    | some (.val v T') => frc v fun v => evOps call P ops rest (eput E (dstOf ops i) v) T'
    | some (.pan ch T') => some (.panic ch, E, T')
    | none => none

theorem eden_bare (N : Nat) (E : Tr Value) : (eden N E).bare = eden N .leaf := rfl

section
variable {N : Nat} {call : CallF} {P : Program} {ops : Array Oper} {K : AExit → Env → Heap → Prop}

theorem evOps_s (hc : CallOK P call) : ∀ {l : List Nat} {E : Tr Value} {T : VS} {x : AExit} {E' : Tr Value} {T' : VS}, evOps call P ops l E T = some (x, E', T') → K x (eden N E') T'.den → aops P ops K l (eden N E) T.den
  | [], E, T, x, E', T', h, hk => by
    simp only [evOps, Option.some.injEq, Prod.mk.injEq] at h
    obtain ⟨rfl, rfl, rfl⟩ := h
    exact hk
  | i :: rest, E, T, x, E', T', h, hk => by
    unfold evOps at h
    unfold aops
    split at h
    · rename_i v T1 hg
      rw [frc_eq] at h
      refine xgop_s hc hg ?_
      show aops P ops K rest ((eden N E).put (dstOf ops i) v) T1.den
      rw [eden_put]
      exact evOps_s hc h hk
    · rename_i ch T1 hg
      simp only [Option.some.injEq, Prod.mk.injEq] at h
      obtain ⟨rfl, rfl, rfl⟩ := h
      exact xgop_s hc hg hk
    · cases h
end

/-! ### Regions in every order -/

def isEffO (P : Program) (ops : Array Oper) (k : Nat) : Bool :=
  match ops[k]? with
  | some o => (match cls P o with | .a | .r => false | _ => true)
  | none => false

inductive Item where
  | rd (i : Nat) (r : Bool)
  | eff (j : Nat) (ps : List Nat)

/-- Reading operations, by themselves: does it read the heap at all? -/
def xrd {R : Type} (P : Program) (ops : Array Oper) (i : Nat) (E : Tr Value) (T : VS) (K : Value → Option R) : Option R :=
  match ops[i]? with
  | none => none
  | some o => match o.guard with
    | none => (match cls P o with | .a => xlopA P E o K | .r => xlopR P E o T K | _ => none)
    | some (g, b) => match ((ops[g]?).bind (·.dst)).bind E.get with
      | some (.bool t) => if t = b then (match cls P o with | .a => xlopA P E o K | .r => xlopR P E o T K | _ => none) else K undef
      | some (.tuple _) => K undef
      | _ => none

/-- The same where the heap is not read. -/
def isA (P : Program) (ops : Array Oper) (i : Nat) : Bool :=
  match ops[i]? with
  | some o => (match cls P o with | .a => true | _ => false)
  | none => false

theorem xrd_s {N : Nat} {P : Program} {ops : Array Oper} {i : Nat} {E : Tr Value} {T : VS} {v : Value} (h : xrd P ops i E T some = some v) : Yld P ops i (eden N E) T.den v := by
  intro K Kp hk
  unfold xrd at h
  unfold gop
  split at h
  · cases h
  · rename_i o ho
    simp only [ho]
    have key : (match cls P o with | .a => xlopA P E o some | .r => xlopR P E o T some | _ => none) = some v → lop P (eden N E) o T.den K Kp := by
      intro h
      unfold lop
      split at h
      · rename_i hcl
        simp only [hcl]
        exact xlopA_s h fun u hu => (Option.some.inj hu) ▸ hk
      · rename_i hcl
        simp only [hcl]
        exact xlopR_s h fun u hu => (Option.some.inj hu) ▸ hk
      · cases h
    split at h
    · rename_i hg
      simp only [hg]
      exact key h
    · rename_i g b hg
      simp only [hg]
      have he : ((ops[g]?).bind (·.dst)).bind (eget (eden N E)) = ((ops[g]?).bind (·.dst)).bind E.get := rfl
      rw [he]
      split at h
      · rename_i t ht
        simp only [ht]
        split at h
        · rename_i hb
          rw [if_pos hb]
          exact key h
        · rename_i hb
          rw [if_neg hb]
          exact (Option.some.inj h) ▸ hk
      · rename_i ht
        simp only [ht]
        exact (Option.some.inj h) ▸ hk
      · cases h

theorem xrd_a {P : Program} {ops : Array Oper} {i : Nat} {E : Tr Value} {T T' : VS} {R : Type} {K : Value → Option R} (ha : isA P ops i = true) : xrd P ops i E T K = xrd P ops i E T' K := by
  unfold isA at ha
  unfold xrd
  split at ha
  · rename_i o ho
    split at ha
    · rename_i hcl
      simp only [ho, hcl]
    · cases ha
  · cases ha

theorem isEffO_of_xrd {P : Program} {ops : Array Oper} {i : Nat} {o : Oper} (ho : ops[i]? = some o) (hcl : cls P o = .a ∨ cls P o = .r) : isEffO P ops i = false := by
  unfold isEffO
  rcases hcl with h | h <;> simp [ho, h]

end Go.Lift
