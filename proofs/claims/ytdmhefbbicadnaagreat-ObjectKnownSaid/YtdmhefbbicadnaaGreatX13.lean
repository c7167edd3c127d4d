import Derived.Test.YtdmhefbbicadnaaGreatX12
/-! The evaluator, part 13: the run of a plan with allocations is so in every order. -/
namespace Go.Lift

def OInv (P : Program) (ops : Array Oper) (n : Nat) (M : Mem) (O : Obl) : Prop :=
  ∀ p S, (p, S) ∈ O → (∀ H, S H) ∨ (isEffO P ops p = false ∧ ∃ Ep v, (p, Ep, v) ∈ M ∧ S = fun H => Yld P ops p (eden n Ep) H v)

theorem cls_of_eff {P : Program} {ops : Array Oper} {i : Nat} (h : isEffO P ops i = false) (o : Oper) (ho : ops[i]? = some o) : cls P o = .a ∨ cls P o = .r := by
  unfold isEffO at h
  rw [ho] at h
  simp only at h
  split at h
  · rename_i hc; exact .inl hc
  · rename_i hc; exact .inr hc
  · cases h

def early (m : Nat → Bool) (W : Zs) : Zs := W.filter fun q => m q.1

theorem mem_early {m : Nat → Bool} {W : Zs} {q : Nat × Value × Blk} (h : q ∈ early m W) : q ∈ W := (List.mem_filter.1 h).1

theorem early_sub (m : Nat → Bool) (W : Zs) : (early m W).Sublist W := List.filter_sublist

theorem getD_listN : ∀ (Z : List Nat) (l : Array Bool) (j : Nat), (listN Z l).getD j true = false → l.getD j true = false
  | [], _, _, h => h
  | i :: Z, l, j, h => by
    have h1 := getD_listN Z _ j h
    by_cases hij : i = j
    · subst hij
      rcases Nat.lt_or_ge i l.size with h' | h'
      · simp [h'] at h1
      · simp [h'] at h1
    · rw [getD_set_ne true hij] at h1; exact h1

theorem Yld_putZ {P : Program} {ops : Array Oper} {i : Nat} {H : Heap} {v : Value} : ∀ (Z : Zs) (e : Env), (∀ q ∈ Z, looksNot ops i (dstOf ops q.1)) → Yld P ops i e H v → Yld P ops i (putZ ops Z e) H v
  | [], _, _, h => h
  | q :: Z, e, hl, h => Yld_putZ Z _ (fun p hp => hl p (by simp [hp])) (h.put (hl q (by simp)))

section
variable {n : Nat} {call : CallF} {P : Program} {ops : Array Oper} {K : AExit → Env → Heap → Prop} {AL : List Nat} {N : Nat}

theorem rd_caseZ {A : Nat → Bool} {σ : Nat → Nat} (hAE : ∀ i, A i = true → isEffO P ops i = true) {i : Nat} {isr : Bool} {listed : Array Bool} {W : Zs} {M : Mem} {O : Obl} {E : Tr Value} {T : VS} {v : Value} {m : Nat → Bool} {fuel : Nat}
    (hr : i ∈ Region.ready .any ops listed) (hfr : Region.free .any ops listed i = true) (hE : isEffO P ops i = false) (hisr : isr = true ∨ isA P ops i = true) (hA : A i = false)
    (hap : ∀ q ∈ W, looksNot ops i (dstOf ops q.1) ∧ (∀ t, dstOf ops q.1 = some t → dstOf ops i ≠ some t) ∧ looksNot ops q.1 (dstOf ops i))
    (hcl : Closed ops (listZ (early m W) listed)) (hW : WInv P ops A σ n listed W E T) (hv : (frd P ops i).f E T = some v)
    (rest : ∀ O', OInv P ops n (match isr with | true => (i, E, v) :: M | false => M) O' →
      aAnyM (isEffO P ops) (MvZ P ops A σ) ops K fuel O' (listZ (early m W) (listed.setIfInBounds i true)) (putZ ops (early m W) (eden n (eput E (dstOf ops i) v))) (setZ σ (early m W) T.den))
    (hO : OInv P ops n M O) :
    aAnyM (isEffO P ops) (MvZ P ops A σ) ops K (fuel + 1) O (listZ (early m W) listed) (putZ ops (early m W) (eden n E)) (setZ σ (early m W) T.den) := by
  obtain ⟨_, oi, hoi, _⟩ := mem_ready.1 hr
  have hZi : ∀ q ∈ early m W, q.1 ≠ i := fun q hq e => by
    have := hW.a q (mem_early hq)
    rw [e, hA] at this
    cases this
  have hr' : i ∈ Region.ready .any ops (listZ (early m W) listed) := by
    rw [listZ_eq]
    refine ready_listN _ _ hr fun hm => ?_
    obtain ⟨q, hq, e⟩ := List.mem_map.1 hm
    exact hZi q hq e
  have hfree' : ∀ j oj, ops[j]? = some oj → j ≠ i → (listZ (early m W) listed).getD j true = false → (∀ e ∈ oj.after, Region.binds .any e = true → e.on ≠ i) → oi.apart ops oj = true := by
    intro j oj hj hji hun hno
    rw [listZ_eq] at hun
    exact Region.free_spec hoi hfr j oj hj hji (getD_listN _ _ _ hun) hno
  have hy0 : Yld P ops i (eden n E) T.den v := frd_s hE hv
  have hsub : SubH T.den (setZ σ (early m W) T.den) := SubH.setZ _ _ fun q hq => hW.free q (mem_early hq)
  have hlook : ∀ q ∈ early m W, looksNot ops i (dstOf ops q.1) := fun q hq => (hap q (mem_early hq)).1
  have hdst : ∀ q ∈ early m W, ∀ t, dstOf ops i = some t → dstOf ops q.1 ≠ some t := fun q hq t ht e => (hap q (mem_early hq)).2.1 t e ht
  cases isr with
  | true =>
    refine aAnyM_take (S := fun H => Yld P ops i (eden n E) H v) (v := v) MvZ.putOK MvZ.monoOK (MvZ.yld hAE) hoi hE fuel O _ _ _ hcl hfree' hr' (fun H hS => Yld_putZ _ _ hlook hS) (Yld_sub (cls_of_eff hE) hsub hy0) ?_
    have := rest ((i, fun H => Yld P ops i (eden n E) H v) :: O) fun p S hS => by
      rcases List.mem_cons.1 hS with hS | hS
      · simp only [Prod.mk.injEq] at hS
        obtain ⟨rfl, rfl⟩ := hS
        exact .inr ⟨hE, E, v, by simp, rfl⟩
      · rcases hO p S hS with h1 | ⟨h0, Ep, u, h1, h2⟩
        · exact .inl h1
        · exact .inr ⟨h0, Ep, u, by simp [h1], h2⟩
    rw [listZ_set _ _ _ hZi, ← eden_put, putZ_put _ _ _ _ hdst] at this
    exact this
  | false =>
    have ha : isA P ops i = true := by simpa using hisr
    refine aAnyM_take (S := fun _ => True) (v := v) MvZ.putOK MvZ.monoOK (MvZ.yld hAE) hoi hE fuel O _ _ _ hcl hfree' hr' (fun H _ => Yld_putZ _ _ hlook (Yld_a ha hy0)) trivial ?_
    have := rest ((i, fun _ => True) :: O) fun p S hS => by
      rcases List.mem_cons.1 hS with hS | hS
      · simp only [Prod.mk.injEq] at hS
        obtain ⟨rfl, rfl⟩ := hS
        exact .inl fun _ => trivial
      · exact hO p S hS
    rw [listZ_set _ _ _ hZi, ← eden_put, putZ_put _ _ _ _ hdst] at this
    exact this

theorem gop_putZ {i : Nat} {H : Heap} : ∀ (Z : Zs) (e : Env), (∀ q ∈ Z, looksNot ops i (dstOf ops q.1)) → gop P ops i (putZ ops Z e) H = gop P ops i e H
  | [], _, _ => rfl
  | q :: Z, e, hl => by
    simp only [putZ]
    rw [gop_putZ Z _ fun p hp => hl p (by simp [hp]), gop_put (hl q (by simp))]

theorem nodup_map_inj {α β : Type} {f : α → Nat} {g : Nat → β} : ∀ {l : List α}, (l.map f).Nodup → (∀ x ∈ l, ∀ y ∈ l, g (f x) = g (f y) → f x = f y) → (l.map fun x => g (f x)).Nodup
  | [], _, _ => by simp
  | a :: l, h, hg => by
    simp only [List.map_cons, List.nodup_cons] at h ⊢
    refine ⟨fun hm => ?_, nodup_map_inj h.2 fun x hx y hy => hg x (by simp [hx]) y (by simp [hy])⟩
    obtain ⟨b, hb, e⟩ := List.mem_map.1 hm
    exact h.1 (List.mem_map.2 ⟨b, hb, hg b (by simp [hb]) a (by simp) e⟩)

theorem WInv.nodupσ {A : Nat → Bool} {σ : Nat → Nat} {listed : Array Bool} {W : Zs} {E : Tr Value} {T : VS} (h : WInv P ops A σ n listed W E T) (hinj : ∀ i j, A i = true → A j = true → σ i = σ j → i = j) :
    (W.map fun q => σ q.1).Nodup :=
  nodup_map_inj (f := fun q => q.1) (g := σ) h.nd fun x hx y hy e => hinj _ _ (h.a x hx) (h.a y hy) e

/-- An effect, beside what was made early. -/
theorem mv_effZ {A : Nat → Bool} {σ : Nat → Nat} {j : Nat} {listed : Array Bool} {Z : Zs} {E : Tr Value} {T : VS} {K0 : Value → Heap → Prop} {Kp0 : List PanicEntry → Heap → Prop}
    (hA : A j = false) (hW : WInv P ops A σ n listed Z E T) (hinj : ∀ i j, A i = true → A j = true → σ i = σ j → i = j) (hlook : ∀ q ∈ Z, looksNot ops j (dstOf ops q.1)) (h : gop P ops j (eden n E) T.den K0 Kp0) :
    MvZ P ops A σ j (putZ ops Z (eden n E)) (setZ σ Z T.den) (fun v H2 => ∃ H', K0 v H' ∧ H2 = setZ σ Z H') Kp0 := by
  have hnd := hW.nodupσ hinj
  have hfree : ∀ q ∈ Z, T.den.get (σ q.1) = none := fun q hq => hW.free q hq
  refine .inr ⟨hA, Z.map fun p => σ p.1, K0, Kp0, okL_setZ Z _ hfree (fun q hq => (hW.al q hq).rw') hnd, ?_, fun v H' h => ⟨H', h, backL_setZ Z _ _ hfree hnd⟩, fun _ _ h => h⟩
  rw [dropL_setZ Z _ hfree hnd, gop_putZ Z _ hlook]
  exact h

/-- An allocation ahead of its time. -/
theorem mv_alcZ {A : Nat → Bool} {σ : Nat → Nat} {listed : Array Bool} {W : Zs} {E : Tr Value} {T : VS} {m : Nat → Bool} {q : Nat × Value × Blk} {K0 : Value → Heap → Prop} {Kp0 : List PanicEntry → Heap → Prop}
    (hW : WInv P ops A σ n listed W E T) (hinj : ∀ i j, A i = true → A j = true → σ i = σ j → i = j) (hq : q ∈ W) (hm : m q.1 = false) (h : K0 q.2.1 ((setZ σ (early m W) T.den).set (σ q.1) q.2.2)) :
    MvZ P ops A σ q.1 (putZ ops (early m W) (eden n E)) (setZ σ (early m W) T.den) K0 Kp0 := by
  have hne : ∀ p ∈ early m W, p.1 ≠ q.1 := fun p hp e => by
    have := (List.mem_filter.1 hp).2
    rw [e, hm] at this
    cases this
  have hal : ∀ (Z : Zs) (e : Env), (∀ p ∈ Z, looksNot ops q.1 (dstOf ops p.1)) → Al P ops q.1 (σ q.1) e q.2.1 q.2.2 → Al P ops q.1 (σ q.1) (putZ ops Z e) q.2.1 q.2.2 := by
    intro Z
    induction Z with
    | nil => intro e _ h; exact h
    | cons p Z ih => intro e hl h; exact ih _ (fun r hr => hl r (by simp [hr])) (h.put' (hl p (by simp)))
  refine .inl ⟨hW.a q hq, q.2.1, q.2.2, hal _ _ (fun p hp => (hW.ap p (mem_early hp) q hq (hne p hp)).2) (hW.al q hq), ?_, h⟩
  rw [setZ_other _ _ _ fun p hp e => hne p hp (hinj _ _ (hW.a p (mem_early hp)) (hW.a q hq) e)]
  exact hW.free q hq

theorem closed_listZ : ∀ (Z : Zs) (listed : Array Bool), Closed ops listed → (∀ q ∈ Z, q.1 ∈ Region.ready .any ops listed) → (Z.map (·.1)).Nodup → Closed ops (listZ Z listed)
  | [], _, h, _, _ => h
  | q :: Z, listed, h, hr, hn => by
    simp only [List.map_cons, List.nodup_cons] at hn
    refine closed_listZ Z _ (h.set (hr q (by simp))) (fun p hp => ready_mono (hr p (by simp [hp])) fun e => hn.1 (List.mem_map.2 ⟨p, hp, e⟩)) hn.2

theorem early_nil (m : Nat → Bool) : early m [] = [] := rfl

/-- Nothing is left to do. -/
theorem nil_caseZ {E : Nat → Bool} {Mv : Move} {fuel : Nat} {O : Obl} {listed : Array Bool} {e : Env} {H : Heap} (hr : Region.ready .any ops listed = []) (hk : K .normal e H) : aAnyM E Mv ops K fuel O listed e H := by
  cases fuel with
  | zero => exact ⟨hr, hk⟩
  | succ fuel => exact ⟨fun _ => hk, fun i hi => by rw [hr] at hi; cases hi⟩
end

end Go.Lift
