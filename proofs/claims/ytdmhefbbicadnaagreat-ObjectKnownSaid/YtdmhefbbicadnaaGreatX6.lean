import Derived.Test.YtdmhefbbicadnaaGreatX5
/-! The evaluator, part 6: the same operations, laid so that the kernel works them out quickly: what is known of the code alone comes first. -/
namespace Go.Lift

noncomputable section

/-! ### Lists and trees -/

def nth {α : Type} (l : List α) : Nat → Option α :=
  List.rec (motive := fun _ => Nat → Option α) (fun _ => none) (fun a _ ih n => Nat.rec (motive := fun _ => Option α) (some a) (fun m _ => ih m) n) l

theorem nth_eq {α : Type} : ∀ (l : List α) (n : Nat), nth l n = l[n]?
  | [], _ => rfl
  | _ :: _, 0 => rfl
  | _ :: l, n + 1 => by
    show nth l n = _
    rw [nth_eq l n]; rfl

def putN {α : Type} (v : α) (l : List α) : Nat → Option (List α) :=
  List.rec (motive := fun _ => Nat → Option (List α)) (fun _ => none)
    (fun a t ih n => Nat.rec (motive := fun _ => Option (List α)) (some (v :: t)) (fun m _ => Option.rec (motive := fun _ => Option (List α)) none (fun t' => some (a :: t')) (ih m)) n) l

theorem putN_cons {α : Type} (v a : α) (t : List α) (m : Nat) : putN v (a :: t) (m + 1) = (putN v t m).map (a :: ·) := by
  show Option.rec (motive := fun _ => Option (List α)) none (fun t' => some (a :: t')) (putN v t m) = _
  cases putN v t m <;> rfl

theorem putN_s : ∀ {l : List Value} {n : Nat} {v : Value} {r : List Value}, putN v l n = some r → n + 1 ≤ l.length ∧ r = putL l n [v]
  | [], _, _, _, h => by cases h
  | a :: t, 0, v, r, h => by
    obtain rfl : v :: t = r := Option.some.inj h
    exact ⟨by simp, by simp [putL]⟩
  | a :: t, n + 1, v, r, h => by
    rw [putN_cons] at h
    cases hp : putN v t n with
    | none => rw [hp] at h; cases h
    | some t' =>
      rw [hp] at h
      obtain rfl : a :: t' = r := Option.some.inj h
      obtain ⟨h1, h2⟩ := putN_s hp
      refine ⟨by simp; omega, ?_⟩
      rw [h2]
      simp [putL]

/-- The way to a number in a tree. -/
def path : Nat → Nat → List Bool
  | 0, _ => []
  | f + 1, n => match n == 0 with
    | true => []
    | false => match n % 2 == 1 with
      | true => true :: path f (n / 2)
      | false => false :: path f (n / 2 - 1)

def pget {α : Type} (p : List Bool) : Tr α → Option α :=
  List.rec (motive := fun _ => Tr α → Option α) (fun t => Tr.rec (motive := fun _ => Option α) none (fun _ v _ _ _ => v) t)
    (fun b _ ih t => Tr.rec (motive := fun _ => Option α) none (fun l _ r _ _ => Bool.rec (motive := fun _ => Option α) (ih r) (ih l) b) t) p

theorem pget_eq {α : Type} : ∀ (f n : Nat) (t : Tr α), n < f → pget (path f n) t = t.get n
  | 0, n, t, h => by omega
  | f + 1, n, t, h => by
    unfold path
    cases t with
    | leaf =>
      by_cases h0 : n = 0
      · subst h0; rfl
      · have e0 : (n == 0) = false := by simpa using h0
        by_cases h2 : n % 2 = 1
        · have e2 : (n % 2 == 1) = true := by simpa using h2
          simp only [e0, e2]; rfl
        · have e2 : (n % 2 == 1) = false := by simpa using h2
          simp only [e0, e2]; rfl
    | node l v r =>
      rw [Tr.get_node]
      by_cases h0 : n = 0
      · subst h0; rfl
      · have e0 : (n == 0) = false := by simpa using h0
        by_cases h2 : n % 2 = 1
        · have e2 : (n % 2 == 1) = true := by simpa using h2
          simp only [e0, e2, h0, h2, if_true, if_false]
          exact pget_eq f _ l (by omega)
        · have e2 : (n % 2 == 1) = false := by simpa using h2
          simp only [e0, e2, h0, h2, if_false]
          exact pget_eq f _ r (by omega)

def pset {α : Type} (v : Option α) (p : List Bool) : Tr α → Tr α :=
  List.rec (motive := fun _ => Tr α → Tr α) (fun t => Tr.rec (motive := fun _ => Tr α) (.node .leaf v .leaf) (fun l _ r _ _ => .node l v r) t)
    (fun b _ ih t => Tr.rec (motive := fun _ => Tr α) (Bool.rec (motive := fun _ => Tr α) (.node .leaf none (ih .leaf)) (.node (ih .leaf) none .leaf) b)
      (fun l m r _ _ => Bool.rec (motive := fun _ => Tr α) (.node l m (ih r)) (.node (ih l) m r) b) t) p

theorem pset_eq {α : Type} (v : Option α) : ∀ (f n : Nat) (t : Tr α), n < f → pset v (path f n) t = Tr.setF v f t n
  | 0, n, t, h => by omega
  | f + 1, n, t, h => by
    unfold path
    cases t with
    | leaf =>
      by_cases h0 : n = 0
      · subst h0; rfl
      · have e0 : (n == 0) = false := by simpa using h0
        by_cases h2 : n % 2 = 1
        · have e2 : (n % 2 == 1) = true := by simpa using h2
          simp only [Tr.setF, e0, e2]
          show Tr.node (pset v (path f (n / 2)) .leaf) none .leaf = _
          rw [pset_eq v f _ _ (by omega)]
        · have e2 : (n % 2 == 1) = false := by simpa using h2
          simp only [Tr.setF, e0, e2]
          show Tr.node .leaf none (pset v (path f (n / 2 - 1)) .leaf) = _
          rw [pset_eq v f _ _ (by omega)]
    | node l m r =>
      by_cases h0 : n = 0
      · subst h0; rfl
      · have e0 : (n == 0) = false := by simpa using h0
        by_cases h2 : n % 2 = 1
        · have e2 : (n % 2 == 1) = true := by simpa using h2
          simp only [Tr.setF, e0, e2]
          show Tr.node (pset v (path f (n / 2)) l) m r = _
          rw [pset_eq v f _ _ (by omega)]
        · have e2 : (n % 2 == 1) = false := by simpa using h2
          simp only [Tr.setF, e0, e2]
          show Tr.node l m (pset v (path f (n / 2 - 1)) r) = _
          rw [pset_eq v f _ _ (by omega)]

def tget {α : Type} (n : Nat) : Tr α → Option α := pget (path (n + 1) n)
theorem tget_eq {α : Type} (n : Nat) (t : Tr α) : tget n t = t.get n := pget_eq _ _ _ (Nat.lt_succ_self n)
def tset {α : Type} (v : Option α) (n : Nat) : Tr α → Tr α := pset v (path (n + 1) n)
theorem tset_eq {α : Type} (v : Option α) (n : Nat) (t : Tr α) : tset v n t = t.set n v := pset_eq v _ _ _ (Nat.lt_succ_self n)

end

end Go.Lift
