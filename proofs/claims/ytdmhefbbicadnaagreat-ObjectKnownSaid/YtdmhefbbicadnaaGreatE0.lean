import Derived.Test.YtdmhefbbicadnaaGreatX16
/-! The evaluator in pieces: calls whose end is known already, at heaps that are given. -/
namespace Go.Lift

noncomputable section

/-- Bytes, the lowest first. -/
def by8 : Nat → Nat → List Value
  | 0, _ => []
  | n + 1, x => .int .u8 (.ofNat (x % 256)) :: by8 n (x / 256)

def mkT (next : Nat) (l : List (Nat × Blk)) : VS := ⟨next, l.foldr (fun p t => t.set p.1 (some p.2)) .leaf⟩

def vEq (x y : Value) : Bool :=
  match x, y with
  | .int k a, .int k' b => keq k k' && feq a b
  | x, y => veq 30 x y

theorem vEq_s {x y : Value} (h : vEq x y = true) : x = y := by
  unfold vEq at h
  split at h
  · simp only [Bool.and_eq_true] at h
    rw [keq_s h.1]
    have := h.2
    rw [feq_eq] at this
    rw [beq_iff_eq.1 this]
  · exact veq_s h

def lEq : List Value → List Value → Bool
  | [], [] => true
  | x :: l, y :: m => match vEq x y with
    | true => lEq l m
    | false => false
  | _, _ => false

theorem lEq_s : ∀ {l m : List Value}, lEq l m = true → l = m
  | [], [], _ => rfl
  | x :: l, y :: m, h => by
    unfold lEq at h
    split at h
    · rename_i hv
      rw [vEq_s hv, lEq_s h]
    · cases h
  | [], _ :: _, h => by cases h
  | _ :: _, [], h => by cases h

def pEq : List (Value × Value) → List (Value × Value) → Bool
  | [], [] => true
  | x :: l, y :: m => match vEq x.1 y.1, vEq x.2 y.2 with
    | true, true => pEq l m
    | _, _ => false
  | _, _ => false

theorem pEq_s : ∀ {l m : List (Value × Value)}, pEq l m = true → l = m
  | [], [], _ => rfl
  | x :: l, y :: m, h => by
    unfold pEq at h
    split at h
    · rename_i h1 h2
      have := vEq_s h1
      have := vEq_s h2
      rw [show x = y from Prod.ext ‹_› ‹_›, pEq_s h]
    · cases h
  | [], _ :: _, h => by cases h
  | _ :: _, [], h => by cases h

def blkEq (x y : Blk) : Bool :=
  match x, y with
  | .cells ro es c, .cells ro' es' c' => (ro == ro') && Nat.beq es es' && lEq c c'
  | .map m, .map m' => pEq m m'
  | _, _ => false

theorem blkEq_s {x y : Blk} (h : blkEq x y = true) : x = y := by
  unfold blkEq at h
  split at h
  · simp only [Bool.and_eq_true, beq_iff_eq] at h
    rw [h.1.1, Nat.eq_of_beq_eq_true h.1.2, lEq_s h.2]
  · rw [pEq_s h]
  · cases h

def subT : List (Nat × Blk) → VS → Bool
  | [], _ => true
  | p :: l, T => match tget p.1 T.tr with
    | some k => (match blkEq k p.2 with
      | true => subT l T
      | false => false)
    | none => false

theorem subT_s : ∀ {l : List (Nat × Blk)} {T : VS}, subT l T = true → ∀ p ∈ l, T.get p.1 = some p.2
  | [], _, _, _, h => by cases h
  | q :: l, T, h, p, hp => by
    unfold subT at h
    rw [tget_eq] at h
    split at h
    · rename_i k hk
      split at h
      · rename_i hb
        rcases List.mem_cons.1 hp with rfl | hp
        · rw [← blkEq_s hb]; exact hk
        · exact subT_s h p hp
      · cases h
    · cases h

theorem mkT_get {next : Nat} : ∀ {l : List (Nat × Blk)} {b : Nat} {k : Blk}, (mkT next l).get b = some k → (b, k) ∈ l
  | [], b, k, h => by cases h
  | p :: l, b, k, h => by
    have h : ((l.foldr (fun p t => t.set p.1 (some p.2)) (.leaf : Tr Blk)).set p.1 (some p.2)).get b = some k := h
    rw [Tr.get_set] at h
    split at h
    · rename_i hb
      obtain rfl := Option.some.inj h
      rw [hb]
      simp
    · exact List.mem_cons_of_mem _ (mkT_get (next := next) h)

def noRO : Tr Blk → Bool
  | .leaf => true
  | .node l v r => (match v with
    | some (.cells true _ _) => false
    | _ => true) && noRO l && noRO r

theorem noRO_s : ∀ {t : Tr Blk}, noRO t = true → ∀ b es c, t.get b ≠ some (.cells true es c)
  | .leaf, _, b, es, c => by simp [Tr.get_leaf]
  | .node l v r, h, b, es, c => by
    simp only [noRO, Bool.and_eq_true] at h
    rw [Tr.get_node]
    split
    · intro hv
      rw [hv] at h
      simp at h
    · split
      · exact noRO_s h.1.2 _ _ _
      · exact noRO_s h.2 _ _ _

/-- A heap of which less is known. -/
theorem Weak.thin {T : VS} {next : Nat} {l : List (Nat × Blk)} (hs : subT l T = true) (hn : T.next = next) (hr : noRO T.tr = true) : Weak T.den (mkT next l).den := by
  intro φ w h
  have hsub : ∀ b k, (mkT next l).den.get b = some k → T.den.get b = some k := fun b k hb => subT_s hs _ (mkT_get hb)
  subst hn
  exact ⟨⟨h.zero, h.pos, h.fresh, fun b k hb => h.dom b k (hsub b k hb), fun b b' k k' i i' hb hb' => h.sep b b' k k' i i' (hsub b k hb) (hsub b' k' hb')⟩,
    ⟨Phi.le_refl _, Nat.le_refl _, fun _ _ _ => rfl, fun _ _ => rfl, fun b k i hb hi => .inr ⟨b, k, i, hsub b k hb, id, hi, rfl⟩, fun b es c hb => absurd hb (noRO_s hr b es c), Nat.le_refl _, rfl, rfl⟩⟩

/-- A call, its heap before and behind. -/
structure Ent where
  g : FuncId
  args : List Value
  n : Nat
  l : List (Nat × Blk)
  v : Value
  n' : Nat
  l' : List (Nat × Blk)

def EntOK (P : Program) (e : Ent) : Prop := ∀ K : AEnd → Heap → Prop, K (.returned e.v) (mkT e.n' e.l').den → acall P e.g e.args (mkT e.n e.l).den K

/-- The call is worked out. -/
def entRun (call : CallF) (e : Ent) : Bool :=
  match call (.fn e.g) e.args (mkT e.n e.l) with
  | some (.returned v, T') => vEq v e.v && Nat.beq T'.next e.n' && noRO T'.tr && subT e.l' T'
  | _ => false

theorem entRun_s {P : Program} {call : CallF} {e : Ent} (hc : CallOK P call) (h : entRun call e = true) : EntOK P e := by
  intro K hk
  unfold entRun at h
  split at h
  · rename_i v T' hcall
    simp only [Bool.and_eq_true] at h
    obtain ⟨⟨⟨h1, h2⟩, h3⟩, h4⟩ := h
    have hv := vEq_s h1
    subst hv
    refine acall_weak ?_
    exact hc _ _ _ _ _ hcall _ ⟨_, Weak.thin h4 (Nat.eq_of_beq_eq_true h2) h3, hk⟩
  · cases h

/-- What is found in the table. -/
def tabF (es : List Ent) (g : FuncId) (args : List Value) (T : VS) : Option (AEnd × VS) :=
  match es with
  | [] => none
  | e :: es => match Nat.beq e.n T.next && Nat.beq e.g g with
    | true => (match lEq args e.args && noRO T.tr && subT e.l T with
      | true => some (.returned e.v, mkT e.n' e.l')
      | false => tabF es g args T)
    | false => tabF es g args T

theorem tabF_s {P : Program} : ∀ {es : List Ent}, (∀ e ∈ es, EntOK P e) → ∀ {g : FuncId} {args : List Value} {T : VS} {en : AEnd} {T' : VS}, tabF es g args T = some (en, T') → ∀ K : AEnd → Heap → Prop, K en T'.den → acall P g args T.den K
  | [], _, _, _, _, _, _, h, _, _ => by cases h
  | e :: es, hes, g, args, T, en, T', h, K, hk => by
    unfold tabF at h
    split at h
    · rename_i hg
      simp only [Bool.and_eq_true] at hg
      split at h
      · rename_i hm
        simp only [Bool.and_eq_true] at hm
        simp only [Option.some.injEq, Prod.mk.injEq] at h
        obtain ⟨rfl, rfl⟩ := h
        have hg2 := Nat.eq_of_beq_eq_true hg.2
        have ha := lEq_s hm.1.1
        subst hg2
        subst ha
        exact acall_weak_in (Weak.thin hm.2 (Nat.eq_of_beq_eq_true hg.1).symm hm.1.2) (hes e (by simp) K hk)
      · exact tabF_s (fun e he => hes e (by simp [he])) h K hk
    · exact tabF_s (fun e he => hes e (by simp [he])) h K hk

/-- The laws of one's own, with a table before them; functions that have neither are worked out. -/
def withTab (fu d : Nat) (P : Program) (law : FuncId → Bool) (O : CallF → FuncId → List Value → VS → Option (AEnd × VS)) (es : List Ent) (call : CallF) (g : FuncId) (args : List Value) (T : VS) : Option (AEnd × VS) :=
  match law g with
  | true => O call g args T
  | false => match tabF es g args T with
    | some r => some r
    | none => (fnClo fu P d g).f call args T

theorem withTab_s {fu d : Nat} {P : Program} {law : FuncId → Bool} {O : CallF → FuncId → List Value → VS → Option (AEnd × VS)} {es : List Ent} (hm : P.follows .mixedOrders = true) (hO : OwnOK P O) (hes : ∀ e ∈ es, EntOK P e) : OwnOK P (withTab fu d P law O es) := by
  intro call hc g args T en T' h K hk
  unfold withTab at h
  split at h
  · exact hO call hc _ _ _ _ _ h K hk
  · split at h
    · rename_i r hr
      obtain rfl := Option.some.inj h
      exact tabF_s hes hr K hk
    · exact fnClo_s hm hc h K hk

end

end Go.Lift
