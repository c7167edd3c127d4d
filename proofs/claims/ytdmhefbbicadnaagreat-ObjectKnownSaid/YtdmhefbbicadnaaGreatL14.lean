import Derived.Test.YtdmhefbbicadnaaGreatL13
/-! The lifted logic, part 14: every order, over moves of whatever kind. -/
namespace Go.Lift

abbrev Move := Nat → Env → Heap → (Value → Heap → Prop) → (List PanicEntry → Heap → Prop) → Prop

def PutOK (Mv : Move) (ops : Array Oper) : Prop := ∀ j d e v H K Kp, looksNot ops j d → Mv j (Env.put e d v) H K Kp → Mv j e H K Kp
def MonoOK (Mv : Move) : Prop := ∀ j e H (K K' : Value → Heap → Prop) (Kp Kp' : List PanicEntry → Heap → Prop), Mv j e H K Kp → (∀ v H, K v H → K' v H) → (∀ c H, Kp c H → Kp' c H) → Mv j e H K' Kp'

def aAnyM (E : Nat → Bool) (Mv : Move) (ops : Array Oper) (K : AExit → Env → Heap → Prop) : Nat → Obl → Array Bool → Env → Heap → Prop
  | 0, _, listed, e, H => Region.ready .any ops listed = [] ∧ K .normal e H
  | fuel + 1, L, listed, e, H =>
    (Region.ready .any ops listed = [] → K .normal e H) ∧
    ∀ i ∈ Region.ready .any ops listed, Mv i e H (fun v H' => keepsL E ops L listed i H H' ∧ aAnyM E Mv ops K fuel L (listed.setIfInBounds i true) (e.put (dstOf ops i) v) H')
      fun ch H' => K (.panic ch) e.bare H'

section
variable {P : Program} {ops : Array Oper} {K : AExit → Env → Heap → Prop} {E : Nat → Bool} {Mv : Move}

/-- **An operation that reads may be taken first**, if what may come up before it leaves what it reads. -/
theorem aAnyM_take (hput : PutOK Mv ops) (hmono : MonoOK Mv) (hyld : ∀ i e H v, Yld P ops i e H v → E i = false → ∀ K Kp, K v H → Mv i e H K Kp) {i : Nat} {oi : Oper} {v : Value} {S : Heap → Prop} (hi : ops[i]? = some oi) (hE : E i = false) : ∀ (fuel : Nat) (L : Obl) (listed : Array Bool) (e : Env) (H : Heap), Closed ops listed →
    (∀ j oj, ops[j]? = some oj → j ≠ i → listed.getD j true = false → (∀ e ∈ oj.after, Region.binds .any e = true → e.on ≠ i) → oi.apart ops oj = true) →
    i ∈ Region.ready .any ops listed → (∀ H, S H → Yld P ops i e H v) → S H →
    aAnyM E Mv ops K fuel ((i, S) :: L) (listed.setIfInBounds i true) (e.put (dstOf ops i) v) H → aAnyM E Mv ops K (fuel + 1) L listed e H := by
  intro fuel
  have weaken : ∀ (fuel : Nat) (L : Obl) (listed : Array Bool) (e : Env) (H : Heap), aAnyM E Mv ops K fuel ((i, S) :: L) listed e H → aAnyM E Mv ops K fuel L listed e H := by
    intro fuel
    induction fuel with
    | zero => intro L listed e H h; exact h
    | succ fuel ih =>
      intro L listed e H h
      refine ⟨h.1, fun j hj => ?_⟩
      exact hmono _ _ _ _ _ _ _ (h.2 j hj) (fun u H' k0 => ⟨fun p S' hp => k0.1 p S' (by simp [hp]), ih _ _ _ _ k0.2⟩) fun _ _ h => h
  have self : ∀ (fuel : Nat) (L : Obl) (listed : Array Bool) (e : Env) (H : Heap), (∀ H, S H → Yld P ops i e H v) → S H →
      aAnyM E Mv ops K fuel L (listed.setIfInBounds i true) (e.put (dstOf ops i) v) H →
      Mv i e H (fun v H' => keepsL E ops L listed i H H' ∧ aAnyM E Mv ops K fuel L (listed.setIfInBounds i true) (e.put (dstOf ops i) v) H') (fun ch H' => K (.panic ch) e.bare H') :=
    fun fuel L listed e H hy hS h => hyld i e H v (hy H hS) hE _ _ ⟨fun p S' hp => .inr id, h⟩
  induction fuel with
  | zero =>
    intro L listed e H hcl hfree hr hy hS h
    refine ⟨fun h0 => (by rw [h0] at hr; cases hr), fun j hj => ?_⟩
    by_cases hji : j = i
    · subst hji
      exact self _ _ _ _ _ hy hS h
    · have := ready_mono hj hji
      rw [h.1] at this
      cases this
  | succ fuel ih =>
    intro L listed e H hcl hfree hr hy hS h
    refine ⟨fun h0 => (by rw [h0] at hr; cases hr), fun j hj => ?_⟩
    by_cases hji : j = i
    · subst hji
      exact self _ _ _ _ _ hy hS (weaken _ _ _ _ _ h)
    · have hg := h.2 j (ready_mono hj hji)
      obtain ⟨hjun, oj, hoj, hall⟩ := mem_ready.1 hj
      have hiun : listed.getD i true = false := (mem_ready.1 hr).1
      have hiun' : listed.getD i false = false := by
        rcases Nat.lt_or_ge i listed.size with h' | h'
        · simpa [h'] using hiun
        · simp [h']
      have hnot : ∀ e ∈ oj.after, Region.binds .any e = true → e.on ≠ i := fun e he hb heq => by
        have h1 := hall e he hb
        rw [heq, hiun'] at h1
        cases h1
      obtain ⟨h1, h2, h3⟩ := Oper.apart_spec (hfree j oj hoj hji hjun hnot)
      have hlj : looksNot ops j (dstOf ops i) := fun o t ho ht => by
        rw [hoj] at ho
        obtain rfl := Option.some.inj ho
        exact h1 t (by rw [← dstOf_eq hi]; exact ht)
      have hli : looksNot ops i (dstOf ops j) := fun o t ho ht => by
        rw [hi] at ho
        obtain rfl := Option.some.inj ho
        exact h3 t (by rw [← dstOf_eq hoj]; exact ht)
      have hne : ∀ t, dstOf ops i = some t → dstOf ops j ≠ some t := fun t ht => by
        rw [dstOf_eq hi] at ht
        rw [dstOf_eq hoj]
        exact h2 t ht
      have hg := hput j _ e _ _ _ _ hlj hg
      refine hmono _ _ _ _ _ _ _ hg (fun u H' k0 => ?_) fun c H' kp => by rw [← put_bare e (dstOf ops i) v]; exact kp
      obtain ⟨q1, q2⟩ := k0
      have noI : ∀ k, ((listed.setIfInBounds i true).getD k false = true ∨ k = j) → Anc ops k i → False := by
        intro k hk ha
        have hl : listed.getD i false = true := by
          rcases hk with hk | hk
          · by_cases hki : i = k
            · subst hki; exact hcl.anc hr ha
            · rw [getD_set_ne false hki] at hk; exact hcl k hk i ha
          · subst hk; exact hcl.anc hj ha
        rw [hiun'] at hl
        cases hl
      have hS' : S H' := ((q1 i S (by simp)).resolve_left fun ⟨k, _, hk, ha⟩ => noI k hk ha) hS
      refine ⟨fun p S' hp => ?_, ?_⟩
      · rcases q1 p S' (by simp [hp]) with ⟨k, hEk, hk, ha⟩ | hq
        · have hki : k ≠ i := fun h => by rw [h, hE] at hEk; cases hEk
          refine .inl ⟨k, hEk, ?_, ha⟩
          rcases hk with hk | hk
          · rw [getD_set_ne false (Ne.symm hki)] at hk; exact .inl hk
          · exact .inr hk
        · exact .inr hq
      · have hfree' : ∀ k ok, ops[k]? = some ok → k ≠ i → (listed.setIfInBounds j true).getD k true = false →
            (∀ e ∈ ok.after, Region.binds .any e = true → e.on ≠ i) → oi.apart ops ok = true := fun k ok hk hki hun hno => by
          refine hfree k ok hk hki ?_ hno
          by_cases hjk : j = k
          · subst hjk; exact hjun
          · rw [getD_set_ne true hjk] at hun; exact hun
        refine ih L _ _ H' (hcl.set hj) hfree' (ready_mono hr (Ne.symm hji)) (fun H hS => (hy H hS).put hli) hS' ?_
        rw [Array.setIfInBounds_comm _ _ hji, Env.put_comm _ _ _ fun t ht => fun h => hne t h ht]
        exact q2
end

end Go.Lift
