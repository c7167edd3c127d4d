import Derived.Test.YtdmhefbbicadnaaGreatL16
/-! The lifted logic, part 17: new blocks made ahead of their time. -/
namespace Go.Lift

/-- What is made ahead of its time: which operation, its value, its block. -/
abbrev Zs := List (Nat × Value × Blk)

def putZ (ops : Array Oper) : Zs → Env → Env
  | [], e => e
  | q :: Z, e => putZ ops Z (e.put (dstOf ops q.1) q.2.1)

def setZ (σ : Nat → Nat) : Zs → Heap → Heap
  | [], H => H
  | q :: Z, H => setZ σ Z (H.set (σ q.1) q.2.2)

def listZ : Zs → Array Bool → Array Bool
  | [], l => l
  | q :: Z, l => listZ Z (l.setIfInBounds q.1 true)

theorem Heap.set_comm (H : Heap) {b b' : Nat} (k k' : Blk) (h : b ≠ b') : (H.set b k).set b' k' = (H.set b' k').set b k := by
  simp only [Heap.set, Heap.mk.injEq, true_and]
  funext x
  by_cases h1 : x = b'
  · subst h1; simp [Ne.symm h]
  · by_cases h2 : x = b <;> simp [h1, h2, h]

theorem Heap.set_drop (H : Heap) {b : Nat} (k : Blk) (h : H.get b = none) : (H.set b k).drop b = H := by
  obtain ⟨n, g⟩ := H
  simp only [Heap.set, Heap.drop, Heap.mk.injEq, true_and]
  funext x
  by_cases h1 : x = b
  · subst h1; simpa using h.symm
  · simp [h1]

section
variable {ops : Array Oper} {σ : Nat → Nat}

theorem putZ_put : ∀ (Z : Zs) (e : Env) (d : Option Nat) (v : Value), (∀ q ∈ Z, ∀ t, d = some t → dstOf ops q.1 ≠ some t) → putZ ops Z (e.put d v) = (putZ ops Z e).put d v
  | [], _, _, _, _ => rfl
  | q :: Z, e, d, v, h => by
    simp only [putZ]
    rw [Env.put_comm e v q.2.1 fun t ht => h q (by simp) t ht]
    exact putZ_put Z _ d v fun q hq => h q (by simp [hq])

theorem setZ_set : ∀ (Z : Zs) (H : Heap) (b : Nat) (k : Blk), (∀ q ∈ Z, σ q.1 ≠ b) → setZ σ Z (H.set b k) = (setZ σ Z H).set b k
  | [], _, _, _, _ => rfl
  | q :: Z, H, b, k, h => by
    simp only [setZ]
    rw [Heap.set_comm H k q.2.2 fun e => h q (by simp) e.symm]
    exact setZ_set Z _ b k fun q hq => h q (by simp [hq])

theorem listZ_set : ∀ (Z : Zs) (l : Array Bool) (i : Nat), (∀ q ∈ Z, q.1 ≠ i) → listZ Z (l.setIfInBounds i true) = (listZ Z l).setIfInBounds i true
  | [], _, _, _ => rfl
  | q :: Z, l, i, h => by
    simp only [listZ]
    rw [Array.setIfInBounds_comm _ _ fun e => h q (by simp) e.symm]
    exact listZ_set Z _ i fun q hq => h q (by simp [hq])

theorem putZ_mid (Z1 : Zs) (q : Nat × Value × Blk) (Z2 : Zs) (e : Env) (h : ∀ p ∈ Z1, ∀ t, dstOf ops q.1 = some t → dstOf ops p.1 ≠ some t) :
    putZ ops (Z1 ++ q :: Z2) e = putZ ops (Z1 ++ Z2) (e.put (dstOf ops q.1) q.2.1) := by
  induction Z1 generalizing e with
  | nil => rfl
  | cons p Z1 ih =>
    simp only [List.cons_append, putZ]
    rw [ih _ fun p hp => h p (by simp [hp]), Env.put_comm e q.2.1 p.2.1 fun t ht => h p (by simp) t ht]

theorem setZ_mid (Z1 : Zs) (q : Nat × Value × Blk) (Z2 : Zs) (H : Heap) (h : ∀ p ∈ Z1, σ p.1 ≠ σ q.1) :
    setZ σ (Z1 ++ q :: Z2) H = setZ σ (Z1 ++ Z2) (H.set (σ q.1) q.2.2) := by
  induction Z1 generalizing H with
  | nil => rfl
  | cons p Z1 ih =>
    simp only [List.cons_append, setZ]
    rw [ih _ fun p hp => h p (by simp [hp]), Heap.set_comm H q.2.2 p.2.2 fun e => h p (by simp) e.symm]

theorem listZ_mid (Z1 : Zs) (q : Nat × Value × Blk) (Z2 : Zs) (l : Array Bool) (h : ∀ p ∈ Z1, p.1 ≠ q.1) :
    listZ (Z1 ++ q :: Z2) l = listZ (Z1 ++ Z2) (l.setIfInBounds q.1 true) := by
  induction Z1 generalizing l with
  | nil => rfl
  | cons p Z1 ih =>
    simp only [List.cons_append, listZ]
    rw [ih _ fun p hp => h p (by simp [hp]), Array.setIfInBounds_comm _ _ fun e => h p (by simp) e.symm]

theorem setZ_next : ∀ (Z : Zs) (H : Heap), (setZ σ Z H).next = H.next
  | [], _ => rfl
  | _ :: Z, H => setZ_next Z _

theorem setZ_other : ∀ (Z : Zs) (H : Heap) (x : Nat), (∀ q ∈ Z, σ q.1 ≠ x) → (setZ σ Z H).get x = H.get x
  | [], _, _, _ => rfl
  | q :: Z, H, x, h => by
    simp only [setZ]
    rw [setZ_other Z _ x fun p hp => h p (by simp [hp]), set_get, if_neg fun e => h q (by simp) e.symm]

theorem setZ_self : ∀ (Z : Zs) (H : Heap) (q : Nat × Value × Blk), q ∈ Z → (Z.map fun p => σ p.1).Nodup → (setZ σ Z H).get (σ q.1) = some q.2.2
  | [], _, _, h, _ => by cases h
  | p :: Z, H, q, h, hn => by
    simp only [List.map_cons, List.nodup_cons] at hn
    simp only [setZ]
    rcases List.mem_cons.1 h with rfl | h
    · rw [setZ_other Z _ _ fun p hp e => hn.1 (List.mem_map.2 ⟨p, hp, e⟩), set_get, if_pos rfl]
    · exact setZ_self Z _ q h hn.2

theorem SubH.setZ (Z : Zs) (H : Heap) (h : ∀ q ∈ Z, H.get (σ q.1) = none) : SubH H (setZ σ Z H) := by
  intro b k hb
  rw [setZ_other Z H b fun q hq e => by rw [← e, h q hq] at hb; cases hb]
  exact hb

/-- Setting aside, in the order of the list's end first. -/
theorem dropL_setZ : ∀ (Z : Zs) (H : Heap), (∀ q ∈ Z, H.get (σ q.1) = none) → (Z.map fun p => σ p.1).Nodup → dropL (Z.map fun p => σ p.1) (setZ σ Z H) = H
  | [], _, _, _ => rfl
  | q :: Z, H, h, hn => by
    have hn' := hn
    simp only [List.map_cons, List.nodup_cons] at hn
    have hne : ∀ p ∈ Z, σ p.1 ≠ σ q.1 := fun p hp e => hn.1 (List.mem_map.2 ⟨p, hp, e⟩)
    simp only [List.map_cons, dropL, setZ]
    rw [setZ_set Z H _ _ hne, Heap.set_drop]
    · exact dropL_setZ Z H (fun p hp => h p (by simp [hp])) hn.2
    · rw [setZ_other Z H _ hne]; exact h q (by simp)

theorem okL_setZ : ∀ (Z : Zs) (H : Heap), (∀ q ∈ Z, H.get (σ q.1) = none) → (∀ q ∈ Z, q.2.2.rw = true) → (Z.map fun p => σ p.1).Nodup → okL (Z.map fun p => σ p.1) (setZ σ Z H)
  | [], _, _, _, _ => trivial
  | q :: Z, H, h, hr, hn => by
    have hn' := hn
    simp only [List.map_cons, List.nodup_cons] at hn
    have hne : ∀ p ∈ Z, σ p.1 ≠ σ q.1 := fun p hp e => hn.1 (List.mem_map.2 ⟨p, hp, e⟩)
    refine ⟨⟨q.2.2, setZ_self (q :: Z) H q (by simp) hn', hr q (by simp)⟩, ?_⟩
    simp only [setZ]
    rw [setZ_set Z H _ _ hne, Heap.set_drop]
    · exact okL_setZ Z H (fun p hp => h p (by simp [hp])) (fun p hp => hr p (by simp [hp])) hn.2
    · rw [setZ_other Z H _ hne]; exact h q (by simp)

theorem backL_setZ : ∀ (Z : Zs) (H H' : Heap), (∀ q ∈ Z, H.get (σ q.1) = none) → (Z.map fun p => σ p.1).Nodup → backL (Z.map fun p => σ p.1) (setZ σ Z H) H' = setZ σ Z H'
  | [], _, _, _, _ => rfl
  | q :: Z, H, H', h, hn => by
    have hn' := hn
    simp only [List.map_cons, List.nodup_cons] at hn
    have hne : ∀ p ∈ Z, σ p.1 ≠ σ q.1 := fun p hp e => hn.1 (List.mem_map.2 ⟨p, hp, e⟩)
    have hself := setZ_self (q :: Z) H q (by simp) hn'
    simp only [List.map_cons, backL, hself]
    simp only [setZ]
    rw [setZ_set Z H _ _ hne, Heap.set_drop]
    · rw [backL_setZ Z H H' (fun p hp => h p (by simp [hp])) hn.2, setZ_set Z H' _ _ hne]
    · rw [setZ_other Z H _ hne]; exact h q (by simp)
end

end Go.Lift
