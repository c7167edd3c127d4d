import Derived.Test.YtdmhefbbicadnaaGreatX13
/-! The evaluator, part 14: the run of a plan with allocations, put together. -/
namespace Go.Lift

section
variable {n : Nat} {call : CallF} {P : Program} {ops : Array Oper} {K : AExit → Env → Heap → Prop} {AL : List Nat} {N : Nat}

theorem listN_true : ∀ (Z : List Nat) (l : Array Bool) (j : Nat), l.getD j false = true → (listN Z l).getD j false = true
  | [], _, _, h => h
  | _ :: Z, _, j, h => listN_true Z _ j (getD_set_true h)

theorem mem_listN : ∀ (Z : List Nat) (l : Array Bool) (j : Nat), j ∈ Z → j < l.size → (listN Z l).getD j false = true
  | [], _, _, h, _ => by cases h
  | i :: Z, l, j, h, hl => by
    rcases List.mem_cons.1 h with rfl | h
    · have : ∀ (Z : List Nat) (l : Array Bool), l.getD j false = true → (listN Z l).getD j false = true := by
        intro Z
        induction Z with
        | nil => intro l h; exact h
        | cons i Z ih => intro l h; exact ih _ (getD_set_true h)
      exact this Z _ (by simp [hl])
    · exact mem_listN Z _ j h (by simpa using hl)

/-- What is made early is no longer to be made. -/
theorem not_early {m : Nat → Bool} {listed : Array Bool} {W : Zs} {q : Nat × Value × Blk} (hq : q ∈ W) (hl : ∀ p ∈ W, p.1 ∈ Region.ready .any ops listed) (hr : q.1 ∈ Region.ready .any ops (listZ (early m W) listed)) : m q.1 = false := by
  cases hm : m q.1 with
  | false => rfl
  | true =>
    have hmem : q.1 ∈ (early m W).map (·.1) := List.mem_map.2 ⟨q, List.mem_filter.2 ⟨hq, hm⟩, rfl⟩
    have hlt : q.1 < listed.size := by
      have := (mem_ready.1 (hl q hq)).1
      rcases Nat.lt_or_ge q.1 listed.size with h' | h'
      · exact h'
      · simp [h'] at this
    have h1 := mem_listN _ listed _ hmem hlt
    rw [listZ_eq] at hr
    have h2 := (mem_ready.1 hr).1
    rcases Nat.lt_or_ge q.1 (listN ((early m W).map (·.1)) listed).size with h' | h'
    · simp [h'] at h1 h2
      rw [h1] at h2
      cases h2
    · simp [h'] at h1

theorem early_more {m : Nat → Bool} {W1 W2 : Zs} {q : Nat × Value × Blk} (hn : ((W1 ++ q :: W2).map (·.1)).Nodup) (hm : m q.1 = false) :
    early (fun i => if i = q.1 then true else m i) (W1 ++ q :: W2) = early m W1 ++ q :: early m W2 ∧ early m (W1 ++ q :: W2) = early m W1 ++ early m W2 := by
  have hne : ∀ p, (p ∈ W1 ∨ p ∈ W2) → p.1 ≠ q.1 := by
    intro p hp e
    rw [List.map_append, List.map_cons, List.nodup_append] at hn
    rcases hp with hp | hp
    · exact hn.2.2 p.1 (List.mem_map.2 ⟨p, hp, rfl⟩) q.1 (by simp) e
    · exact (List.nodup_cons.1 hn.2.1).1 (List.mem_map.2 ⟨p, hp, e⟩)
  unfold early
  rw [List.filter_append, List.filter_append, List.filter_cons_of_pos (by simp), List.filter_cons_of_neg (by simp [hm])]
  refine ⟨?_, rfl⟩
  congr 1
  · exact List.filter_congr fun p hp => by simp [hne p (.inl hp)]
  · congr 1
    exact List.filter_congr fun p hp => by simp [hne p (.inr hp)]

theorem early_state {A : Nat → Bool} {σ : Nat → Nat} {listed : Array Bool} {W : Zs} {E : Tr Value} {T : VS} {m : Nat → Bool} {q : Nat × Value × Blk} (hW : WInv P ops A σ n listed W E T)
    (hinj : ∀ i j, A i = true → A j = true → σ i = σ j → i = j) (hq : q ∈ W) (hm : m q.1 = false) (l : Array Bool) (e : Env) (H : Heap) :
    listZ (early (fun i => if i = q.1 then true else m i) W) l = (listZ (early m W) l).setIfInBounds q.1 true ∧
    putZ ops (early (fun i => if i = q.1 then true else m i) W) e = (putZ ops (early m W) e).put (dstOf ops q.1) q.2.1 ∧
    setZ σ (early (fun i => if i = q.1 then true else m i) W) H = (setZ σ (early m W) H).set (σ q.1) q.2.2 ∧
    (early (fun i => if i = q.1 then true else m i) W).length = (early m W).length + 1 := by
  have hne : ∀ p ∈ early m W, p.1 ≠ q.1 := fun p hp e => by
    have := (List.mem_filter.1 hp).2
    rw [e, hm] at this
    cases this
  have hdst : ∀ p ∈ early m W, ∀ t, dstOf ops q.1 = some t → dstOf ops p.1 ≠ some t := fun p hp t ht e => (hW.ap p (mem_early hp) q hq (hne p hp)).1 t e ht
  have hσ : ∀ p ∈ early m W, σ p.1 ≠ σ q.1 := fun p hp e => hne p hp (hinj _ _ (hW.a p (mem_early hp)) (hW.a q hq) e)
  obtain ⟨W1, W2, rfl⟩ := List.append_of_mem hq
  obtain ⟨h1, h2⟩ := early_more (m := m) hW.nd hm
  rw [h2] at hne hdst hσ
  rw [h1, h2]
  refine ⟨?_, ?_, ?_, by simp; omega⟩
  · rw [listZ_mid _ _ _ _ fun p hp => hne p (by simp [hp]), listZ_set _ _ _ hne]
  · rw [putZ_mid _ _ _ _ fun p hp => hdst p (by simp [hp]), putZ_put _ _ _ _ hdst]
  · rw [setZ_mid _ _ _ _ fun p hp => hσ p (by simp [hp]), setZ_set _ _ _ _ hσ]

/-- A state in which an allocation is made early, as one of the moves. -/
theorem alc_moveZ {A : Nat → Bool} {σ : Nat → Nat} {listed : Array Bool} {W : Zs} {E : Tr Value} {T : VS} {M : Mem} {O : Obl} {m : Nat → Bool} {fuel : Nat} {q : Nat × Value × Blk} (hW : WInv P ops A σ n listed W E T)
    (hinj : ∀ i j, A i = true → A j = true → σ i = σ j → i = j) (hq : q ∈ W) (hm : m q.1 = false) (hO : OInv P ops n M O)
    (h : aAnyM (isEffO P ops) (MvZ P ops A σ) ops K fuel O (listZ (early (fun i => if i = q.1 then true else m i) W) listed) (putZ ops (early (fun i => if i = q.1 then true else m i) W) (eden n E)) (setZ σ (early (fun i => if i = q.1 then true else m i) W) T.den)) :
    MvZ P ops A σ q.1 (putZ ops (early m W) (eden n E)) (setZ σ (early m W) T.den) (fun v H' => keepsL (isEffO P ops) ops O (listZ (early m W) listed) q.1 (setZ σ (early m W) T.den) H' ∧
      aAnyM (isEffO P ops) (MvZ P ops A σ) ops K fuel O ((listZ (early m W) listed).setIfInBounds q.1 true) ((putZ ops (early m W) (eden n E)).put (dstOf ops q.1) v) H') (fun ch H' => K (.panic ch) (putZ ops (early m W) (eden n E)).bare H') := by
  obtain ⟨h1, h2, h3, _⟩ := early_state hW hinj hq hm listed (eden n E) T.den
  rw [h1, h2, h3] at h
  refine mv_alcZ hW hinj hq hm ⟨fun p S hS => ?_, h⟩
  rcases hO p S hS with g | ⟨g0, Ep, v, _, rfl⟩
  · exact .inr fun _ => g _
  · refine .inr fun hy => Yld_sub (cls_of_eff g0) (fun b k hb => ?_) hy
    have hne : b ≠ σ q.1 := by
      rintro rfl
      rw [setZ_other _ _ _ fun p hp e => ?_] at hb
      · have := hW.free q hq
        rw [show T.den.get (σ q.1) = T.get (σ q.1) from rfl, this] at hb
        cases hb
      · have h5 := (List.mem_filter.1 hp).2
        rw [hinj _ _ (hW.a p (mem_early hp)) (hW.a q hq) e, hm] at h5
        cases h5
    rw [set_get, if_neg hne]
    exact hb

theorem early_len (m : Nat → Bool) (W : Zs) : (early m W).length ≤ W.length := List.length_filter_le _ _

/-- The allocation whose turn it is, made early before. -/
theorem alc_here {A : Nat → Bool} {listed : Array Bool} {W : Zs} {M : Mem} {O : Obl} {E : Tr Value} {T : VS} {m : Nat → Bool} {fuel : Nat} {q : Nat × Value × Blk} {rest : List ItemZ} {x : AExit} {E' : Tr Value} {T' : VS}
    (hAAL : A = fun i => AL.contains i) (hW : WInv P ops A (sg AL N) n listed W E T)
    (hinj : ∀ i j, A i = true → A j = true → sg AL N i = sg AL N j → i = j) (hq : q ∈ W) (hm : m q.1 = true)
    (hf : moves rest + 1 ≤ fuel + (early m W).length)
    (p5 : planZ P ops A rest (listed.setIfInBounds q.1 true) (M.map (·.1)) ((W.map (·.1)).erase q.1) = true)
    (h : (cschZ P ops AL (.alc q.1 :: rest)).f call N W M E T = some (x, E', T'))
    (next : ∀ (W' : Zs) (E1 : Tr Value) (T1 : VS), planZ P ops A rest (listed.setIfInBounds q.1 true) (M.map (·.1)) (W'.map (·.1)) = true → WInv P ops A (sg AL N) n (listed.setIfInBounds q.1 true) W' E1 T1 →
      moves rest ≤ fuel + (early m W').length → (cschZ P ops AL rest).f call N W' M E1 T1 = some (x, E', T') →
      aAnyM (isEffO P ops) (MvZ P ops A (sg AL N)) ops K fuel O (listZ (early m W') (listed.setIfInBounds q.1 true)) (putZ ops (early m W') (eden n E1)) (setZ (sg AL N) (early m W') T1.den)) :
    aAnyM (isEffO P ops) (MvZ P ops A (sg AL N)) ops K fuel O (listZ (early m W) listed) (putZ ops (early m W) (eden n E)) (setZ (sg AL N) (early m W) T.den) := by
  have huniq : ∀ r ∈ W, r.1 = q.1 → r = q := by
    have : ∀ (W : Zs), (W.map (·.1)).Nodup → q ∈ W → ∀ r ∈ W, r.1 = q.1 → r = q := by
      intro W
      induction W with
      | nil => intro _ h; cases h
      | cons p W ih =>
        intro hn hq r hr e
        simp only [List.map_cons, List.nodup_cons] at hn
        rcases List.mem_cons.1 hq with hq1 | hq1 <;> rcases List.mem_cons.1 hr with hr1 | hr1
        · rw [hq1, hr1]
        · exact absurd (List.mem_map.2 ⟨r, hr1, e.trans (by rw [hq1])⟩) hn.1
        · exact absurd (List.mem_map.2 ⟨q, hq1, e.symm.trans (by rw [hr1])⟩) hn.1
        · exact ih hn.2 hq1 r hr1 e
    exact this W hW.nd hq
  unfold cschZ at h
  have hfind : W.find? (fun r => r.1 == q.1) = some q := by
    cases hfd : W.find? (fun r => r.1 == q.1) with
    | none =>
      rw [List.find?_eq_none] at hfd
      have := hfd q hq
      simp at this
    | some r =>
      have h1 := List.find?_some hfd
      have h2 := List.mem_of_find?_eq_some hfd
      rw [huniq r h2 (by simpa using h1)]
  simp only [hfind, fput_eq] at h
  -- the mask without q
  have hm0 : (fun i => if i = q.1 then false else m i) q.1 = false := by simp
  have hst := early_state (m := fun i => if i = q.1 then false else m i) hW hinj hq hm0
  have hmm : (fun i => if i = q.1 then true else (fun i => if i = q.1 then false else m i) i) = m := by
    funext i
    by_cases hi : i = q.1
    · rw [if_pos hi, hi, hm]
    · simp [hi]
  rw [hmm] at hst
  have hsub : ∀ r ∈ W.filter (fun r => r.1 != q.1), r.1 ≠ q.1 := fun r hr => by simpa using (List.mem_filter.1 hr).2
  have hear : early m (W.filter fun r => r.1 != q.1) = early (fun i => if i = q.1 then false else m i) W := by
    unfold early
    rw [List.filter_filter]
    refine List.filter_congr fun r _ => ?_
    by_cases hr : r.1 = q.1 <;> simp [hr]
  have hWs := hW.sub (W' := W.filter fun r => r.1 != q.1) List.filter_sublist
  have hap : ∀ r ∈ W.filter (fun r => r.1 != q.1), looksNot ops r.1 (dstOf ops q.1) := fun r hr => (hW.ap q hq r (List.mem_filter.1 hr).1 fun e => hsub r hr e.symm).2
  have hW' : WInv P ops A (sg AL N) n (listed.setIfInBounds q.1 true) (W.filter fun r => r.1 != q.1) (eput E (dstOf ops q.1) q.2.1) (T.set (sg AL N q.1) q.2.2) :=
    hWs.step hsub hap fun r hr => by
      have := hWs.free r hr
      have hne : sg AL N r.1 ≠ sg AL N q.1 := fun e => hsub r hr (hinj _ _ (hWs.a r hr) (hW.a q hq) e)
      rw [← VS.den_get, ← VS.den_set, set_get, if_neg hne]
      exact this
  have hl := (hst listed (eden n E) T.den).2.2.2
  rw [← hear] at hl
  have herase : (W.map (·.1)).erase q.1 = (W.filter fun r => r.1 != q.1).map (·.1) := by
    rw [hW.nd.erase_eq_filter, List.filter_map]
    rfl
  rw [herase] at p5
  have := next _ _ _ p5 hW' (by omega) h
  rw [hear] at this
  rw [(hst listed (eden n E) T.den).1, (hst listed (eden n E) T.den).2.1, (hst listed (eden n E) T.den).2.2.1]
  have hne : ∀ p ∈ early (fun i => if i = q.1 then false else m i) W, p.1 ≠ q.1 := fun p hp e => by
    have := (List.mem_filter.1 hp).2
    rw [e] at this
    simp at this
  rw [← listZ_set _ _ _ hne, ← putZ_put _ _ _ _ (fun p hp t ht e => (hW.ap p (mem_early hp) q hq (hne p hp)).1 t e ht), ← setZ_set _ _ _ _ (fun p hp e => hne p hp (hinj _ _ (hW.a p (mem_early hp)) (hW.a q hq) e))]
  rw [← eden_put, ← VS.den_set] at this
  exact this

theorem cschZ_s (hc : CallOK P call) (hAE : ∀ i, AL.contains i = true → isEffO P ops i = true) (hinj : ∀ i j, AL.contains i = true → AL.contains j = true → sg AL N i = sg AL N j → i = j) :
    ∀ (plan : List ItemZ) {listed : Array Bool} {W : Zs} {M : Mem} {O : Obl} {E : Tr Value} {T : VS} {m : Nat → Bool} {fuel : Nat} {x : AExit} {E' : Tr Value} {T' : VS},
    planZ P ops (fun i => AL.contains i) plan listed (M.map (·.1)) (W.map (·.1)) = true → OInv P ops n M O → Closed ops listed → WInv P ops (fun i => AL.contains i) (sg AL N) n listed W E T →
    moves plan ≤ fuel + (early m W).length → (cschZ P ops AL plan).f call N W M E T = some (x, E', T') → K x (eden n (bareE x E')) T'.den →
    aAnyM (isEffO P ops) (MvZ P ops (fun i => AL.contains i) (sg AL N)) ops K fuel O (listZ (early m W) listed) (putZ ops (early m W) (eden n E)) (setZ (sg AL N) (early m W) T.den)
  | [], listed, W, M, O, E, T, m, fuel, x, E', T', hp, hO, hcl, hW, hf, h, hk => by
    simp only [planZ, Bool.and_eq_true, List.isEmpty_iff, List.map_eq_nil_iff] at hp
    obtain ⟨p1, rfl⟩ := hp
    simp only [cschZ, Option.some.injEq, Prod.mk.injEq] at h
    obtain ⟨rfl, rfl, rfl⟩ := h
    exact nil_caseZ p1 hk
  | .rd i isr :: rest, listed, W, M, O, E, T, m, fuel, x, E', T', hp, hO, hcl, hW, hf, h, hk => by
    simp only [planZ, Bool.and_eq_true, Bool.not_eq_true', Bool.or_eq_true, List.contains_iff_mem] at hp
    obtain ⟨⟨⟨⟨⟨⟨p1, p2⟩, p3⟩, p4⟩, p5⟩, p6⟩, p7⟩ := hp
    have hlen := planZ_len _ _ _ _ p7
    have hel := early_len m W
    simp only [List.length_map] at hlen
    simp only [moves] at hf
    obtain ⟨fuel, rfl⟩ : ∃ f, fuel = f + 1 := ⟨fuel - 1, by omega⟩
    unfold cschZ at h
    simp only at h
    split at h
    · rename_i v hv
      rw [frc_eq, fput_eq] at h
      have hap : ∀ q ∈ W, looksNot ops i (dstOf ops q.1) ∧ (∀ t, dstOf ops q.1 = some t → dstOf ops i ≠ some t) ∧ looksNot ops q.1 (dstOf ops i) := fun q hq => by
        exact apB_s (List.all_eq_true.1 p6 q.1 (List.mem_map.2 ⟨q, hq, rfl⟩))
      have hWi : ∀ q ∈ W, q.1 ≠ i := fun q hq e => by
        have := hW.a q hq
        rw [e] at this
        simp_all
      refine rd_caseZ hAE p1 p2 p3 p4 (by simpa using p5) hap (closed_listZ _ _ hcl (fun q hq => hW.rdy q (mem_early hq)) (hW.nd.sublist ((early_sub m W).map _))) hW hv (fun O' hO' => ?_) hO
      have hW' := hW.step (v := v) (T' := T) hWi (fun q hq => (hap q hq).2.2) hW.free
      cases isr with
      | true => exact cschZ_s hc hAE hinj rest (M := (i, E, v) :: M) p7 hO' (hcl.set p1) hW' (by omega) h hk
      | false => exact cschZ_s hc hAE hinj rest (M := M) p7 hO' (hcl.set p1) hW' (by omega) h hk
    · cases h
  | .pen z :: rest, listed, W, M, O, E, T, m, fuel, x, E', T', hp, hO, hcl, hW, hf, h, hk => by
    simp only [planZ, Bool.and_eq_true, Bool.not_eq_true', List.contains_iff_mem] at hp
    obtain ⟨⟨⟨⟨⟨p1, p2⟩, p3⟩, p4⟩, p5⟩, p6⟩ := hp
    have hz : ∀ q ∈ W, q.1 ≠ z := fun q hq e => by
      have hm : z ∈ W.map (·.1) := List.mem_map.2 ⟨q, hq, e⟩
      simp_all
    have hap : ∀ q ∈ W, looksNot ops z (dstOf ops q.1) ∧ (∀ t, dstOf ops q.1 = some t → dstOf ops z ≠ some t) ∧ looksNot ops q.1 (dstOf ops z) := fun q hq =>
      apB_s (List.all_eq_true.1 p5 q.1 (List.mem_map.2 ⟨q, hq, rfl⟩))
    unfold cschZ at h
    cases ho : ops[z]? with
    | none => rw [ho] at h; cases h
    | some o =>
      rw [ho] at h
      simp only at h
      cases hg : o.guard with
      | some gb => rw [hg] at h; cases h
      | none =>
        rw [hg] at h
        simp only at h
        split at h
        · rename_i v k hv hfree
          have hW' : WInv P ops (fun i => AL.contains i) (sg AL N) n listed ((z, v, k) :: W) E T := {
            nd := by
              simp only [List.map_cons, List.nodup_cons]
              exact ⟨fun hm => by obtain ⟨q, hq, e⟩ := List.mem_map.1 hm; exact hz q hq e, hW.nd⟩
            a := fun q hq => by
              rcases List.mem_cons.1 hq with rfl | hq
              · exact by simpa using p2
              · exact hW.a q hq
            rdy := fun q hq => by
              rcases List.mem_cons.1 hq with rfl | hq
              · exact p1
              · exact hW.rdy q hq
            al := fun q hq => by
              rcases List.mem_cons.1 hq with rfl | hq
              · exact alcO_s ho hg hv
              · exact hW.al q hq
            free := fun q hq => by
              rcases List.mem_cons.1 hq with rfl | hq
              · exact hfree
              · exact hW.free q hq
            ap := fun q hq r hr hne => by
              rcases List.mem_cons.1 hq with rfl | hq <;> rcases List.mem_cons.1 hr with rfl | hr
              · exact absurd rfl hne
              · exact ⟨fun t ht e => (hap r hr).2.1 t e ht, (hap r hr).2.2⟩
              · exact ⟨(hap q hq).2.1, (hap q hq).1⟩
              · exact hW.ap q hq r hr hne }
          have hear : early (fun i => if i = z then false else m i) ((z, v, k) :: W) = early m W := by
            unfold early
            rw [List.filter_cons_of_neg (by simp)]
            refine List.filter_congr fun q hq => ?_
            simp [hz q hq]
          have := cschZ_s hc hAE hinj rest (m := fun i => if i = z then false else m i) (fuel := fuel) p6 hO hcl hW' (by rw [hear]; exact hf) h hk
          rw [hear] at this
          exact this
        · cases h
  | .eff j ps :: rest, listed, W, M, O, E, T, m, fuel, x, E', T', hp, hO, hcl, hW, hf, h, hk => by
    have hp0 := hp
    simp only [planZ, Bool.and_eq_true, Bool.not_eq_true', List.contains_iff_mem] at hp
    obtain ⟨⟨⟨⟨⟨p1, p2⟩, p3⟩, p4⟩, p5⟩, p6⟩ := hp
    have hlen := planZ_len _ _ _ _ p6
    simp only [List.length_map] at hlen
    have hap : ∀ q ∈ W, looksNot ops j (dstOf ops q.1) ∧ (∀ t, dstOf ops q.1 = some t → dstOf ops j ≠ some t) ∧ looksNot ops q.1 (dstOf ops j) := fun q hq =>
      apB_s (List.all_eq_true.1 p4 q.1 (List.mem_map.2 ⟨q, hq, rfl⟩))
    have hWj : ∀ q ∈ W, q.1 ≠ j := fun q hq e => by
      have := hW.a q hq
      rw [e] at this
      simp_all
    simp only [moves] at hf
    induction fuel generalizing m with
    | zero => have := early_len m W; omega
    | succ fuel ih =>
      have hjr : j ∈ Region.ready .any ops (listZ (early m W) listed) := by
        rw [listZ_eq]
        refine ready_listN _ _ p1 fun hm => ?_
        obtain ⟨q, hq, e⟩ := List.mem_map.1 hm
        exact hWj q (mem_early hq) e
      refine ⟨fun h0 => (by rw [h0] at hjr; cases hjr), fun i hi => ?_⟩
      by_cases hiW : i ∈ W.map (·.1)
      · obtain ⟨q, hq, rfl⟩ := List.mem_map.1 hiW
        have hm := not_early hq hW.rdy hi
        have hlen2 := (early_state hW hinj hq hm listed (eden n E) T.den).2.2.2
        exact alc_moveZ hW hinj hq hm hO (ih _ (by rw [hlen2]; omega))
      · have hij : i = j := by
          rw [listZ_eq] at hi
          have h1 := ready_listN ((W.filter fun q => !m q.1).map (·.1)) _ hi fun hmem => by
            obtain ⟨q, hq, e⟩ := List.mem_map.1 hmem
            exact hiW (List.mem_map.2 ⟨q, (List.mem_filter.1 hq).1, e⟩)
          rw [← listN_append] at h1
          have hperm : ((early m W).map (·.1) ++ (W.filter fun q => !m q.1).map (·.1)).Perm (W.map (·.1)) := by
            rw [← List.map_append]
            exact (List.filter_append_perm _ W).map _
          rw [listN_perm hperm] at h1
          simpa using List.all_eq_true.1 p3 i h1
        subst hij
        unfold cschZ at h
        have hgop := cgop_s (N := n) (Kp := fun ch H' => K (.panic ch) (eden n E).bare H') (G := fun v H' => ∃ T1 : VS, H' = T1.den ∧ recheck P ops ps M T1 = true ∧ (∀ q ∈ W, T1.get (sg AL N q.1) = none) ∧
            (cschZ P ops AL rest).f call N W M (eput E (dstOf ops i) v) T1 = some (x, E', T')) hc h
          (fun v T1 h => by
            split at h
            · rename_i hck
              rw [frc_eq, fput_eq] at h
              simp only [Bool.and_eq_true] at hck
              exact ⟨T1, rfl, hck.1, fun q hq => by simpa using List.all_eq_true.1 hck.2 q hq, h⟩
            · cases h)
          (fun ch T1 he => by
            simp only [Prod.mk.injEq] at he
            obtain ⟨rfl, rfl, rfl⟩ := he
            exact hk)
        have hmv := mv_effZ (Z := early m W) (by simpa using p2) (hW.sub (early_sub m W)) hinj (fun q hq => (hap q (mem_early hq)).1) hgop
        have hbare : ∀ (Z : Zs) (e : Env), (putZ ops Z e).bare = e.bare := by
          intro Z
          induction Z with
          | nil => intro e; rfl
          | cons q Z ihZ => intro e; simp only [putZ]; rw [ihZ, put_bare]
        refine MvZ.monoOK _ _ _ _ _ _ _ hmv ?_ fun c H' hkp => by rw [hbare]; exact hkp
        rintro v H2 ⟨H', ⟨T1, rfl, hre, hfr, h⟩, rfl⟩
        have hZi : ∀ q ∈ early m W, q.1 ≠ i := fun q hq => hWj q (mem_early hq)
        have hdst : ∀ q ∈ early m W, ∀ t, dstOf ops i = some t → dstOf ops q.1 ≠ some t := fun q hq t ht e => (hap q (mem_early hq)).2.1 t e ht
        refine ⟨fun p S hS => ?_, ?_⟩
        · rcases hO p S hS with g | ⟨g0, Ep, u, hM, rfl⟩
          · exact .inr fun _ => g _
          · have hpm : p ∈ M.map (·.1) := List.mem_map.2 ⟨_, hM, rfl⟩
            have hpc := List.all_eq_true.1 p5 p hpm
            simp only [Bool.or_eq_true, List.contains_iff_mem] at hpc
            rcases hpc with hpc | hpc
            · refine .inr fun _ => ?_
              have := List.all_eq_true.1 hre _ hM
              simp only [Bool.or_eq_true, Bool.not_eq_true'] at this
              rcases this with hf' | hq
              · have hct : ps.contains p = true := by simpa using hpc
                rw [hct] at hf'
                cases hf'
              · split at hq
                · rename_i u2 hx
                  have := veq_s hq
                  subst this
                  exact Yld_sub (cls_of_eff g0) (SubH.setZ _ _ fun q hq => hfr q (mem_early hq)) (xrd_s hx)
                · cases hq
            · refine .inl ?_
              unfold excused at hpc
              obtain ⟨k, _, hk3⟩ := List.any_eq_true.1 hpc
              simp only [Bool.and_eq_true, Bool.or_eq_true, beq_iff_eq] at hk3
              refine ⟨k, hk3.1.1, ?_, ancB_s hk3.2⟩
              rcases hk3.1.2 with hk4 | hk4
              · left
                rw [listZ_eq]
                exact listN_true _ _ _ hk4
              · exact .inr hk4
        · rw [← listZ_set _ _ _ hZi, ← putZ_put _ _ _ _ hdst, eden_put]
          exact cschZ_s hc hAE hinj rest p6 hO (hcl.set p1) (hW.step hWj (fun q hq => (hap q hq).2.2) hfr) (by omega) h hk
  | .alc i :: rest, listed, W, M, O, E, T, m, fuel, x, E', T', hp, hO, hcl, hW, hf, h, hk => by
    have hp0 := hp
    simp only [planZ, Bool.and_eq_true, List.contains_iff_mem] at hp
    obtain ⟨⟨⟨⟨p1, p2⟩, p3⟩, p4⟩, p5⟩ := hp
    have hlen := planZ_len _ _ _ _ p5
    rw [List.length_erase_of_mem p3, List.length_map] at hlen
    simp only [moves] at hf
    obtain ⟨q, hq, hqi⟩ := List.mem_map.1 p3
    subst hqi
    have hWlen : 0 < W.length := List.length_pos_of_mem hq
    induction fuel generalizing m with
    | zero =>
      cases hm : m q.1 with
      | true => exact alc_here rfl hW hinj hq hm hf p5 h (fun W' E1 T1 hp5 hW' hf' h' => cschZ_s hc hAE hinj rest hp5 hO (hcl.set p1) hW' hf' h' hk)
      | false =>
        have : (early m W).length < W.length := by
          have := early_state hW hinj hq hm listed (eden n E) T.den
          have h2 := early_len (fun i => if i = q.1 then true else m i) W
          omega
        omega
    | succ fuel ih =>
      cases hm : m q.1 with
      | true => exact alc_here rfl hW hinj hq hm hf p5 h (fun W' E1 T1 hp5 hW' hf' h' => cschZ_s hc hAE hinj rest hp5 hO (hcl.set p1) hW' hf' h' hk)
      | false =>
        have hqr : q.1 ∈ Region.ready .any ops (listZ (early m W) listed) := by
          rw [listZ_eq]
          refine ready_listN _ _ p1 fun hmem => ?_
          obtain ⟨r, hr, e⟩ := List.mem_map.1 hmem
          have := (List.mem_filter.1 hr).2
          rw [e, hm] at this
          cases this
        refine ⟨fun h0 => (by rw [h0] at hqr; cases hqr), fun i hi => ?_⟩
        have hiW : i ∈ W.map (·.1) := by
          rcases Classical.em (i ∈ W.map (·.1)) with hiW | hiW
          · exact hiW
          · exfalso
            rw [listZ_eq] at hi
            have h1 := ready_listN ((W.filter fun p => !m p.1 && p.1 != q.1).map (·.1)) _ hi fun hmem => by
              obtain ⟨p, hp, e⟩ := List.mem_map.1 hmem
              exact hiW (List.mem_map.2 ⟨p, (List.mem_filter.1 hp).1, e⟩)
            rw [← listN_append] at h1
            have hperm : ((early m W).map (·.1) ++ (W.filter fun p => !m p.1 && p.1 != q.1).map (·.1)).Perm ((W.map (·.1)).erase q.1) := by
              have herase : (W.map (·.1)).erase q.1 = (W.filter fun r => r.1 != q.1).map (·.1) := by
                rw [hW.nd.erase_eq_filter, List.filter_map]
                rfl
              rw [herase, ← List.map_append]
              refine List.Perm.map _ ?_
              have e1 : early m W = (W.filter fun r => r.1 != q.1).filter fun p => m p.1 := by
                unfold early
                rw [List.filter_filter]
                refine List.filter_congr fun r _ => ?_
                by_cases hr : r.1 = q.1
                · simp [hr, hm]
                · simp [hr]
              have e2 : (W.filter fun p => !m p.1 && p.1 != q.1) = (W.filter fun r => r.1 != q.1).filter fun p => !m p.1 := by
                rw [List.filter_filter]
              rw [e1, e2]
              exact List.filter_append_perm _ _
            rw [listN_perm hperm] at h1
            have := List.all_eq_true.1 p4 i h1
            exact hiW (by rw [beq_iff_eq.1 this]; exact p3)
        obtain ⟨r, hr, rfl⟩ := List.mem_map.1 hiW
        have hmr := not_early hr hW.rdy hi
        have hlen2 := (early_state hW hinj hr hmr listed (eden n E) T.den).2.2.2
        exact alc_moveZ hW hinj hr hmr hO (ih _ (by rw [hlen2]; omega))
end

end Go.Lift
