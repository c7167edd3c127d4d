import Derived.Test.YtdmhefbbicadnaaGreatX11
/-! The evaluator, part 12: such a run is so in every order. -/
namespace Go.Lift

/-- What is known of the allocations that may be made now. -/
structure WInv (P : Program) (ops : Array Oper) (A : Nat → Bool) (σ : Nat → Nat) (n : Nat) (listed : Array Bool) (W : Zs) (E : Tr Value) (T : VS) : Prop where
  nd : (W.map (·.1)).Nodup
  a : ∀ q ∈ W, A q.1 = true
  rdy : ∀ q ∈ W, q.1 ∈ Region.ready .any ops listed
  al : ∀ q ∈ W, Al P ops q.1 (σ q.1) (eden n E) q.2.1 q.2.2
  free : ∀ q ∈ W, T.get (σ q.1) = none
  ap : ∀ q ∈ W, ∀ r ∈ W, q.1 ≠ r.1 → (∀ t, dstOf ops q.1 = some t → dstOf ops r.1 ≠ some t) ∧ looksNot ops r.1 (dstOf ops q.1)

theorem Al.rw' {P : Program} {ops : Array Oper} {i s : Nat} {e : Env} {v : Value} {k : Blk} (h : Al P ops i s e v k) : k.rw = true := by
  obtain ⟨_, _, _, _, h3, _⟩ := h
  exact h3

theorem WInv.sub {P : Program} {ops : Array Oper} {A : Nat → Bool} {σ : Nat → Nat} {n : Nat} {listed : Array Bool} {W W' : Zs} {E : Tr Value} {T : VS} (h : WInv P ops A σ n listed W E T) (hs : W'.Sublist W) : WInv P ops A σ n listed W' E T where
  nd := h.nd.sublist (hs.map _)
  a q hq := h.a q (hs.subset hq)
  rdy q hq := h.rdy q (hs.subset hq)
  al q hq := h.al q (hs.subset hq)
  free q hq := h.free q (hs.subset hq)
  ap q hq r hr := h.ap q (hs.subset hq) r (hs.subset hr)

/-- Behind an operation that is apart from all of them. -/
theorem WInv.step {P : Program} {ops : Array Oper} {A : Nat → Bool} {σ : Nat → Nat} {n : Nat} {listed : Array Bool} {W : Zs} {E : Tr Value} {T T' : VS} {i : Nat} {v : Value} (h : WInv P ops A σ n listed W E T)
    (hi : ∀ q ∈ W, q.1 ≠ i) (hap : ∀ q ∈ W, looksNot ops q.1 (dstOf ops i)) (hf : ∀ q ∈ W, T'.get (σ q.1) = none) : WInv P ops A σ n (listed.setIfInBounds i true) W (eput E (dstOf ops i) v) T' where
  nd := h.nd
  a := h.a
  rdy q hq := ready_mono (h.rdy q hq) (hi q hq)
  al q hq := by rw [← eden_put]; exact (h.al q hq).put' (hap q hq)
  free := hf
  ap := h.ap

/-- Every pending allocation has its place in the plan. -/
theorem planZ_len {P : Program} {ops : Array Oper} {A : Nat → Bool} : ∀ (plan : List ItemZ) (listed : Array Bool) (L PV : List Nat), planZ P ops A plan listed L PV = true → PV.length ≤ moves plan
  | [], _, _, PV, h => by
    simp only [planZ, Bool.and_eq_true, List.isEmpty_iff] at h
    rw [h.2]; simp [moves]
  | .rd i isr :: rest, listed, L, PV, h => by
    simp only [planZ, Bool.and_eq_true] at h
    have := planZ_len rest _ _ _ h.2
    simp only [moves]; omega
  | .pen z :: rest, listed, L, PV, h => by
    simp only [planZ, Bool.and_eq_true] at h
    have := planZ_len rest _ _ _ h.2
    simp only [List.length_cons] at this
    simp only [moves]; omega
  | .eff j ps :: rest, listed, L, PV, h => by
    simp only [planZ, Bool.and_eq_true] at h
    have := planZ_len rest _ _ _ h.2
    simp only [moves]; omega
  | .alc i :: rest, listed, L, PV, h => by
    simp only [planZ, Bool.and_eq_true, List.contains_iff_mem] at h
    have h1 := planZ_len rest _ _ _ h.2
    have h2 := List.length_erase_of_mem h.1.1.2
    simp only [moves]; omega

end Go.Lift
