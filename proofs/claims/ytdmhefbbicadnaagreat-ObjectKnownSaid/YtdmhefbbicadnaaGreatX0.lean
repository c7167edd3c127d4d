import Derived.Test.YtdmhefbbicadnaaGreatL11
/-! The evaluator, part 0: trees by number; heaps and environments held as trees. -/
namespace Go.Lift

def Tr.left {α : Type} : Tr α → Tr α
  | .leaf => .leaf
  | .node l _ _ => l
def Tr.mid {α : Type} : Tr α → Option α
  | .leaf => none
  | .node _ v _ => v
def Tr.right {α : Type} : Tr α → Tr α
  | .leaf => .leaf
  | .node _ _ r => r

def Tr.setF {α : Type} (v : Option α) : Nat → Tr α → Nat → Tr α
  | 0, t, _ => t
  | f + 1, t, n => match t with
    | .leaf => (match n == 0 with
      | true => .node .leaf v .leaf
      | false => match n % 2 == 1 with
        | true => .node (setF v f .leaf (n / 2)) none .leaf
        | false => .node .leaf none (setF v f .leaf (n / 2 - 1)))
    | .node l m r => (match n == 0 with
      | true => .node l v r
      | false => match n % 2 == 1 with
        | true => .node (setF v f l (n / 2)) m r
        | false => .node l m (setF v f r (n / 2 - 1)))

def Tr.set {α : Type} (t : Tr α) (n : Nat) (v : Option α) : Tr α := Tr.setF v (n + 1) t n

theorem Tr.get_leaf {α : Type} (n : Nat) : (Tr.leaf : Tr α).get n = none := rfl

theorem Tr.get_node {α : Type} (l r : Tr α) (v : Option α) (n : Nat) : (Tr.node l v r).get n = if n = 0 then v else if n % 2 = 1 then l.get (n / 2) else r.get (n / 2 - 1) := by
  rw [Tr.get]
  by_cases h : n = 0
  · simp [h]
  · by_cases h2 : n % 2 = 1
    · have h0 : (n == 0) = false := by simpa using h
      simp [h0, h, h2]
    · have : (n % 2 == 1) = false := by simpa using h2
      have h0 : (n == 0) = false := by simpa using h
      simp [h0, this, h, h2]

theorem Tr.get_setF {α : Type} (v : Option α) : ∀ (f : Nat) (t : Tr α) (n m : Nat), n + 1 < 2 ^ f → (Tr.setF v f t n).get m = if m = n then v else t.get m
  | 0, t, n, m, h => by simp at h
  | f + 1, t, n, m, h => by
    have key : ∀ (l r : Tr α) (x : Option α), (match n == 0 with
      | true => Tr.node l v r
      | false => match n % 2 == 1 with
        | true => .node (setF v f l (n / 2)) x r
        | false => .node l x (setF v f r (n / 2 - 1))).get m = if m = n then v else (Tr.node l x r).get m := by
      intro l r x
      have h' : n + 1 < 2 * 2 ^ f := by rw [Nat.pow_succ] at h; omega
      by_cases h0 : n = 0
      · subst h0
        simp only [beq_self_eq_true, Tr.get_node]
        by_cases hm : m = 0 <;> simp [hm]
      · have e0 : (n == 0) = false := by simpa using h0
        by_cases h2 : n % 2 = 1
        · have e2 : (n % 2 == 1) = true := by simpa using h2
          simp only [e0, e2, Tr.get_node]
          rw [Tr.get_setF v f l (n / 2) (m / 2) (by omega)]
          by_cases hm : m = 0
          · simp [hm, Ne.symm h0]
          · by_cases hm2 : m % 2 = 1
            · simp only [hm, hm2, if_true, if_false]
              by_cases hmn : m = n
              · simp [hmn]
              · have : m / 2 ≠ n / 2 := by omega
                simp [hmn, this]
            · have hmn : m ≠ n := fun he => hm2 (he ▸ h2)
              simp [hm, hm2, hmn]
        · have e2 : (n % 2 == 1) = false := by simpa using h2
          simp only [e0, e2, Tr.get_node]
          rw [Tr.get_setF v f r (n / 2 - 1) (m / 2 - 1) (by omega)]
          by_cases hm : m = 0
          · simp [hm, Ne.symm h0]
          · by_cases hm2 : m % 2 = 1
            · have hmn : m ≠ n := fun he => h2 (he ▸ hm2)
              simp [hm, hm2, hmn]
            · simp only [hm, hm2, if_false]
              by_cases hmn : m = n
              · simp [hmn]
              · have : m / 2 - 1 ≠ n / 2 - 1 := by omega
                simp [hmn, this]
    cases t with
    | leaf =>
      have := key .leaf .leaf none
      rw [Tr.setF]
      rw [this, Tr.get_node]
      simp [Tr.get_leaf]
    | node l x r =>
      have := key l r x
      rw [Tr.setF]
      exact this

theorem Tr.get_set {α : Type} (t : Tr α) (n m : Nat) (v : Option α) : (t.set n v).get m = if m = n then v else t.get m :=
  Tr.get_setF v (n + 1) t n m Nat.lt_two_pow_self

/-- A heap held as a tree. -/
structure VS where
  next : Nat
  tr : Tr Blk

def VS.den (T : VS) : Heap := ⟨T.next, T.tr.get⟩
def VS.get (T : VS) (b : Nat) : Option Blk := T.tr.get b
def VS.set (T : VS) (b : Nat) (k : Blk) : VS := ⟨T.next, T.tr.set b (some k)⟩
def VS.drop (T : VS) (b : Nat) : VS := ⟨T.next, T.tr.set b none⟩
def VS.alloc (T : VS) (k : Blk) : VS := ⟨T.next + 1, T.tr.set T.next (some k)⟩

theorem VS.den_get (T : VS) (b : Nat) : T.den.get b = T.get b := rfl
theorem VS.den_next (T : VS) : T.den.next = T.next := rfl
theorem VS.den_set (T : VS) (b : Nat) (k : Blk) : T.den.set b k = (T.set b k).den := by
  simp only [VS.den, VS.set, Heap.set, Heap.mk.injEq, true_and]
  funext x
  rw [Tr.get_set]
theorem VS.den_drop (T : VS) (b : Nat) : T.den.drop b = (T.drop b).den := by
  simp only [VS.den, VS.drop, Heap.drop, Heap.mk.injEq, true_and]
  funext x
  rw [Tr.get_set]
theorem VS.den_alloc (T : VS) (k : Blk) : T.den.alloc k = (T.alloc k).den := by
  simp only [VS.den, VS.alloc, Heap.alloc, Heap.mk.injEq, true_and]
  funext x
  rw [Tr.get_set]
  rfl

/-- An environment held as a tree. -/
def eden (n : Nat) (E : Tr Value) : Env := ⟨n, E.get⟩
def eput (E : Tr Value) (d : Option Nat) (v : Value) : Tr Value :=
  match d with
  | none => E
  | some d => E.set d (some v)

theorem eden_put (n : Nat) (E : Tr Value) (d : Option Nat) (v : Value) : (eden n E).put d v = eden n (eput E d v) := by
  cases d with
  | none => rfl
  | some d =>
    simp only [eden, eput, Env.put, Env.mk.injEq, true_and]
    funext x
    rw [Tr.get_set]

def xeval (E : Tr Value) : Operand → Option Value
  | .tmp t => E.get t
  | .const v => match cst v with | true => some v | false => none
  | .func f => some (.func (.func f) #[] #[])
  | .global _ => none

theorem xeval_eq (n : Nat) (E : Tr Value) (x : Operand) : aeval (eden n E) x = xeval E x := by
  cases x with
  | tmp t => rfl
  | const v => simp only [aeval, xeval]; cases cst v <;> rfl
  | func f => rfl
  | global g => rfl

end Go.Lift
