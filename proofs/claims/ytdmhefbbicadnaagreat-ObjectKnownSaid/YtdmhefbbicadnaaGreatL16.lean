import Derived.Test.YtdmhefbbicadnaaGreatL15
/-! The lifted logic, part 16: what is read in a heap is read in a greater one. -/
namespace Go.Lift

def SubH (H H' : Heap) : Prop := ∀ b k, H.get b = some k → H'.get b = some k

section
variable {P : Program} {H H' : Heap} {K : Value → Prop}

theorem aload_sub (hs : SubH H H') {t : TypeId} {a : Value} (h : aload P t a H K) : aload P t a H' K := by
  unfold aload at h ⊢
  split at h
  · rename_i b o
    cases hg : H.get b with
    | none => rw [hg] at h; exact h.elim
    | some k => rw [hg] at h; simp only [hs b k hg]; exact h
  · exact h.elim

theorem sliceC_sub (hs : SubH H H') {s : Nat} {v : Value} {K : Nat → List Value → Prop} (h : sliceC H s v K) : sliceC H' s v K := by
  unfold sliceC at h ⊢
  split at h
  · exact h
  · rename_i b o l c
    (try simp only)
    rcases h with h | h
    · exact .inl h
    · refine .inr ?_
      cases hg : H.get b with
      | none => rw [hg] at h; exact h.elim
      | some k => rw [hg] at h; simp only [hs b k hg]; exact h
  · exact h
  · exact h.elim

theorem asl1_sub (hs : SubH H H') {s : Nat} {a : Option Addr} {l c j hh : Nat} (h : asl1 H s a l c j hh K) : asl1 H' s a l c j hh K := by
  unfold asl1 at h ⊢
  split at h
  · exact h
  · rename_i b o
    (try simp only)
    split at h
    · rename_i hj
      (try simp only [hj])
      cases hg : H.get b with
      | none => rw [hg] at h; exact h.elim
      | some k => rw [hg] at h; simp only [hs b k hg]; exact h
    · rename_i hj
      (try simp only [hj])
      exact h
  · exact h.elim

theorem asl2_sub (hs : SubH H H') {s : Nat} {a : Option Addr} {j hh m : Nat} (h : asl2 H s a j hh m K) : asl2 H' s a j hh m K := by
  unfold asl2 at h ⊢
  split at h
  · exact h
  · rename_i b o
    (try simp only)
    split at h
    · rename_i hj
      (try simp only [hj])
      cases hg : H.get b with
      | none => rw [hg] at h; exact h.elim
      | some k => rw [hg] at h; simp only [hs b k hg]; exact h
    · rename_i hj
      (try simp only [hj])
      exact h
  · exact h.elim

theorem bnd_mono {x : Option Value} {d m : Nat} {K K' : Nat → Prop} (h : bnd x d m K) (hk : ∀ n, K n → K' n) : bnd x d m K' := by
  unfold bnd at h ⊢
  split at h
  · exact hk _ h
  · exact ⟨h.1, hk _ h.2⟩
  · exact h.elim

theorem asliceS_sub (hs : SubH H H') {t : TypeId} {a : Option Addr} {l c : Nat} {lo hi mx : Option Value} (h : asliceS P H t a l c lo hi mx K) : asliceS P H' t a l c lo hi mx K := by
  unfold asliceS at h ⊢
  split at h
  · rename_i e he
    (try simp only)
    split at h
    · rename_i s hsz
      (try simp only)
      split at h
      · exact bnd_mono h fun hh h => bnd_mono h fun j h => asl1_sub hs h
      · exact bnd_mono h fun m h => ⟨h.1, bnd_mono h.2 fun hh h => bnd_mono h fun j h => asl2_sub hs h⟩
    · exact h.elim
  · exact h.elim

theorem alookup_sub (hs : SubH H H') {t : TypeId} {x k : Value} {ok : Bool} (h : alookup P t x k ok H K) : alookup P t x k ok H' K := by
  unfold alookup at h ⊢
  split at h
  · (try simp only)
    split at h
    · (try simp only)
      obtain ⟨hpk, h⟩ := h
      refine ⟨hpk, ?_⟩
      split at h
      · exact h
      · rename_i b
        (try simp only)
        cases hg : H.get b with
        | none => rw [hg] at h; exact h.elim
        | some k => rw [hg] at h; simp only [hs b k hg]; exact h
      · exact h.elim
    · exact h.elim
  · exact h.elim

theorem ev1_mono {e : Env} {x : Operand} {K K' : Value → Prop} (h : ev1 e x K) (hk : ∀ v, K v → K' v) : ev1 e x K' := by
  unfold ev1 at h ⊢
  split at h
  · exact hk _ h
  · exact h.elim

theorem evO_mono {e : Env} {x : Option Operand} {K K' : Option Value → Prop} (h : evO e x K) (hk : ∀ v, K v → K' v) : evO e x K' := by
  cases x with
  | none => exact hk _ h
  | some x => exact ev1_mono (K := fun v => K (some v)) h fun v h => hk _ h

theorem lopR_sub (hs : SubH H H') {e : Env} {o : Oper} (h : lopR P e o H K) : lopR P e o H' K := by
  obtain ⟨dst, op, type, pos, after, guard⟩ := o
  unfold lopR at h ⊢
  cases op <;> simp only at h ⊢
  case load t x => exact ev1_mono h fun v h => aload_sub hs h
  case slice t x lo hi mx =>
    refine ev1_mono h fun v h => evO_mono h fun lo h => evO_mono h fun hi h => evO_mono h fun mx h => ?_
    unfold aslice at h ⊢
    split at h
    · exact asliceS_sub hs h
    · exact h
    · exact h.elim
  case lookup t x k ok => exact ev1_mono h fun v h => ev1_mono h fun u h => alookup_sub hs h
  case convert s d x =>
    refine ev1_mono h fun v h => ?_
    unfold acvR at h ⊢
    split at h
    · (try simp only)
      split at h
      · (try simp only)
        exact sliceC_sub hs h
      · exact h.elim
    · exact h.elim
  case call c =>
    split at h
    · rename_i x t h1 h2 h3
      (try simp only [h1, h2, h3])
      split at h
      · rename_i hu
        (try simp only [hu])
        refine ev1_mono h fun v h => ?_
        unfold alenR at h ⊢
        split at h
        · exact h
        · rename_i b
          (try simp only)
          cases hg : H.get b with
          | none => rw [hg] at h; exact h.elim
          | some k => rw [hg] at h; simp only [hs b k hg]; exact h
        · exact h.elim
      · exact h.elim
    · exact h.elim
  all_goals exact h.elim

theorem lop_sub (hs : SubH H H') {e : Env} {o : Oper} (hcl : cls P o = .a ∨ cls P o = .r) {K : Value → Heap → Prop} {Kp : List PanicEntry → Heap → Prop} (h : lop P e o H (fun u _ => K u H') Kp) : lop P e o H' K Kp := by
  unfold lop at h ⊢
  rcases hcl with hcl | hcl
  · simp only [hcl] at h ⊢
    exact h
  · simp only [hcl] at h ⊢
    exact lopR_sub hs h

theorem Yld_sub {ops : Array Oper} {i : Nat} {e : Env} {v : Value} (hcl : ∀ o, ops[i]? = some o → cls P o = .a ∨ cls P o = .r) (hs : SubH H H') (h : Yld P ops i e H v) : Yld P ops i e H' v := by
  intro K Kp hk
  have := h (fun u _ => K u H') Kp hk
  unfold gop at this ⊢
  cases ho : ops[i]? with
  | none => rw [ho] at this; exact this.elim
  | some o =>
    rw [ho] at this
    simp only at this ⊢
    cases hg : o.guard with
    | none => rw [hg] at this; exact lop_sub hs (hcl o ho) this
    | some gb =>
      obtain ⟨g, b⟩ := gb
      rw [hg] at this
      simp only at this ⊢
      split at this
      · rename_i t ht
        (try simp only [ht])
        split at this
        · rename_i hb
          rw [if_pos hb]
          exact lop_sub hs (hcl o ho) this
        · rename_i hb
          rw [if_neg hb]
          exact this
      · rename_i ht
        (try simp only [ht])
        exact this
      · exact this.elim
end

end Go.Lift
