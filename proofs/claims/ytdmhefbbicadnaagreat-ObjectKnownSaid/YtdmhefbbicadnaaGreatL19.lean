import Derived.Test.YtdmhefbbicadnaaGreatL18
/-! The lifted logic, part 19: a map is copied to a new one, entry by entry, in whatever order. -/
namespace Go.Lift

/-- Behind code less may be known. -/
theorem acode_post {rf : Bool} {P : Program} {c : Code} {K : AExit → Env → Heap → Prop} {e : Env} {H : Heap}
    (h : acode rf P c (fun ex e H => ∃ e' H', e'.n = e.n ∧ (∀ t v, eget e' t = some v → eget e t = some v) ∧ Weak H H' ∧ K ex e' H') e H) : acode rf P c K e H :=
  fun F hF hrf φ a w ha hw => wpIn_mono (h F hF hrf φ a w ha hw) fun _ _ _ ⟨ex, e', H', φ', ⟨e2, H2, h1, h2, h3, k⟩, r1, r2, r4, r5, r6, r7⟩ =>
    ⟨ex, e2, H2, φ', k, r1, r2.sub h1 h2, (h3 _ _ r4).1, r5.trans (h3 _ _ r4).2, r6, r7⟩

theorem Weak.refl (H : Heap) : Weak H H := fun _ _ h => ⟨h, Ext.refl _ _ _⟩
theorem Weak.trans {a b c : Heap} (h : Weak a b) (h' : Weak b c) : Weak a c := fun _ _ k => ⟨(h' _ _ (h _ _ k).1).1, (h _ _ k).2.trans (h' _ _ (h _ _ k).1).2⟩
theorem Weak.drop {H : Heap} {b : Nat} {k : Blk} (e : H.get b = some k) (hk : k.rw = true) : Weak H (H.drop b) := fun _ _ h => ⟨h.aside b, Ext.drop1 e hk⟩
theorem Weak.bump (H : Heap) (m : Nat) : Weak H (H.bump m) := fun _ _ h => h.bump m

theorem MapR.perm {φ : Phi} {m m' : List (Value × Value)} {es : Array MapEntry} {clock : Nat} (h : MapR φ m es clock) (p : m.Perm m') : MapR φ m' es clock := by
  obtain ⟨m0, a, b, c⟩ := h
  exact ⟨m0, a.trans p, (p.pairwise_iff fun {x y} h => keyPW_symm h).1 b, c⟩

/-- The order in which a map's entries are held is of no matter. -/
theorem Weak.perm {H : Heap} {b : Nat} {m m' : List (Value × Value)} (e : H.get b = some (.map m)) (p : m.Perm m') : Weak H (H.set b (.map m')) := by
  intro φ w h
  obtain ⟨i, hi, es, clock, h1, h2⟩ := h.dom b _ e
  have hp : HR φ H w ∧ Ext φ H w φ H w := ⟨h, Ext.refl _ _ _⟩
  refine ⟨⟨h.zero, h.pos, h.fresh, fun x k ex => ?_, fun x y k1 k2 i1 i2 ex ey p1 p2 hne hrw => ?_⟩, ⟨Phi.le_refl _, Nat.le_refl _, fun _ _ _ => rfl, fun _ _ => rfl, fun x k1 i1 e1 p1 => ?_, fun x es1 c1 e1 => ?_, Nat.le_refl _, rfl, rfl⟩⟩
  · rw [set_get] at ex
    by_cases hx : x = b
    · rw [if_pos hx] at ex
      obtain rfl := Option.some.inj ex
      exact ⟨i, hx ▸ hi, es, clock, h1, h2.perm p⟩
    · rw [if_neg hx] at ex
      exact h.dom x k ex
  · have g : ∀ x k, (H.set b (.map m')).get x = some k → ∃ k0, H.get x = some k0 ∧ k0.rw = k.rw := by
      intro x k hx
      rw [set_get] at hx
      by_cases hb : x = b
      · rw [if_pos hb] at hx
        obtain rfl := Option.some.inj hx
        exact ⟨.map m, hb ▸ e, rfl⟩
      · rw [if_neg hb] at hx; exact ⟨k, hx, rfl⟩
    obtain ⟨k1', g1, r1⟩ := g _ _ ex
    obtain ⟨k2', g2, _⟩ := g _ _ ey
    exact h.sep x y k1' k2' i1 i2 g1 g2 p1 p2 hne (r1.trans hrw)
  · rw [set_get] at e1
    by_cases hb : x = b
    · rw [hb] at p1
      exact .inr ⟨b, _, i, e, fun _ => rfl, hi, by rw [hi] at p1; exact congrArg BI.rb (Option.some.inj p1)⟩
    · rw [if_neg hb] at e1; exact .inr ⟨x, k1, i1, e1, id, p1, rfl⟩
  · rw [set_get, if_neg (by rintro rfl; rw [e] at e1; cases e1)]
    exact e1

/-! ### Operations that read, one behind the other -/

def ro (P : Program) (ops : Array Oper) (H : Heap) : List Nat → Env → Env → Prop
  | [], e, e' => e = e'
  | i :: l, e, e' => ∃ v, (∀ o, ops[i]? = some o → cls P o = .a ∨ cls P o = .r) ∧ Yld P ops i e H v ∧ ro P ops H l (e.put (dstOf ops i) v) e'

theorem ro_aops {P : Program} {ops : Array Oper} {K : AExit → Env → Heap → Prop} {H H' : Heap} (hs : SubH H H') : ∀ (l l2 : List Nat) (e e' : Env), ro P ops H l e e' → aops P ops K l2 e' H' → aops P ops K (l ++ l2) e H'
  | [], l2, e, e', h, h2 => by
    obtain rfl := h
    exact h2
  | i :: l, l2, e, e', ⟨v, hc, hy, h⟩, h2 => Yld_sub hc hs hy _ _ (ro_aops hs l l2 _ e' h h2)

def Env.le (e e' : Env) : Prop := ∀ t v, eget e t = some v → eget e' t = some v

theorem Env.le_put {e e' : Env} (h : e.le e') {d : Option Nat} {v : Value} (hd : ∀ t, d = some t → eget e t = none) : e.le (e'.put d v) := by
  intro t u ht
  cases d with
  | none => exact h t u ht
  | some d =>
    have : t ≠ d := by rintro rfl; rw [hd t rfl] at ht; cases ht
    simp only [eget, Env.put, if_neg this]
    exact h t u ht

theorem ro_le {P : Program} {ops : Array Oper} {H : Heap} {eb : Env} : ∀ (l : List Nat) (e e' : Env), (∀ i ∈ l, ∀ t, dstOf ops i = some t → eget eb t = none) → eb.le e → ro P ops H l e e' → eb.le e' ∧ e'.n = e.n
  | [], e, e', _, hle, h => by
    obtain rfl := h
    exact ⟨hle, rfl⟩
  | i :: l, e, e', hd, hle, ⟨v, _, _, h⟩ => by
    obtain ⟨h1, h2⟩ := ro_le l _ e' (fun j hj => hd j (by simp [hj])) (Env.le_put hle (hd i (by simp))) h
    exact ⟨h1, by rw [h2, Env.put_n]⟩

section
variable {rf : Bool} {P : Program} {D : MapLoop} {K : AExit → Env → Heap → Prop} {n0 : Nat}

/-- Such a loop's round: its entry is laid into another map, at its own key. -/
structure CopyAt (P : Program) (D : MapLoop) (n0 id5 k5 : Nat) (ops5 : Array Oper) (ou : Oper) (tU : TypeId) (xm xk xv : Operand) : Prop where
  hrest : D.rest = .region id5 ops5 false
  h5 : ops5.size = k5 + 1
  hu : ops5[k5]? = some ou
  opu : ou.op = .mapUpdate tU xm xk xv
  gu : ou.guard = none
  ok5 : dstsOK ops5 n0 = true

theorem acode_mapCopy {id5 k5 : Nat} {ops5 : Array Oper} {ou : Oper} {tU : TypeId} {xm xk xv : Operand} (hC : CopyAt P D n0 id5 k5 ops5 ou tU xm xk xv) {kt2 et2 : TypeId} {kd : TypeDesc} (hU : P.underlying tU = some (.map kt2 et2)) (hkd : P.underlying kt2 = some kd) (hpl : plainKey kd = true)
    {t : TypeId} {x : Operand} {kt et : TypeId} {b B : Nat} {m : List (Value × Value)} {e1 eb : Env} {H1 Hd : Heap} {g : Value × Value → Value}
    (hut : P.underlying t = some (.map kt et)) (hx : aeval e1 x = some (.map (some b))) (hb : H1.get b = some (.map m)) (hB : H1.get B = some (.map [])) (hbB : B ≠ b) (hbn : b ≠ H1.next) (hBn : B ≠ H1.next) (hn1 : e1.n = n0) (hnb : eb.n = n0)
    (hle : eb.le (e1.put (some D.ti) (.pointer (some ⟨H1.next, 0, none⟩)))) (hti : eget eb D.ti = some (.pointer (some ⟨H1.next, 0, none⟩)))
    (hw : eget eb D.tn = none ∧ eget eb D.tok = none ∧ eget eb D.te = none ∧ (∀ i t, dstOf D.ops4 i = some t → eget eb t = none) ∧ (∀ i t, dstOf ops5 i = some t → eget eb t = none))
    (hd : ∀ y k, Hd.get y = some k → H1.get y = some k ∧ y ≠ b ∧ y ≠ B ∧ y ≠ H1.next)
    (hent : ∀ y ∈ m, ∃ e4 e5, ro P D.ops4 Hd (List.range D.ops4.size).tail (eb.put (some D.te) (.tuple #[y.1, y.2])) e4 ∧ ro P ops5 Hd (List.range k5) e4 e5 ∧ aeval e5 xm = some (.map (some B)) ∧ aeval e5 xk = some y.1 ∧ aeval e5 xv = some (g y) ∧ Instr.sameNow kd y.1 y.1 = some true)
    (hK : ∀ e, e.n = n0 → eb.le e → ∀ X, X.Perm (m.map fun y => (y.1, g y)) → K .normal e ((H1.alloc .iter).set B (.map X))) :
    RangeAt rf P D n0 t x K e1 H1 := by
  refine ⟨kt, et, b, m, hut, hx, hb, hn1, fun hpw => ?_⟩
  have hHB : (H1.alloc .iter).get B = some (.map []) := by rw [alloc_get, if_neg hBn]; exact hB
  refine ⟨fun rem e H => eb.le e ∧ ∃ done : List (Value × Value), (done ++ rem).Perm m ∧ H = (H1.alloc .iter).set B (.map (done.map fun y => (y.1, g y))), ?_, ?_, ?_⟩
  · refine ⟨hle, [], by simp, ?_⟩
    obtain ⟨n, gg⟩ := H1
    simp only [Heap.alloc, Heap.set, Heap.mk.injEq, true_and, List.map_nil]
    funext y
    by_cases hy : y = B
    · subst hy; simpa [Heap.alloc] using hHB
    · simp [hy]
  · rintro rem1 y rem2 e H ⟨hle, done, hperm, rfl⟩ hHb hHit hHti hn
    have hym : y ∈ m := hperm.subset (by simp)
    obtain ⟨e4, e5, h4, h5, hm1, hk1, hv1, hsame⟩ := hent y hym
    refine ⟨eb.put (some D.te) (.tuple #[y.1, y.2]), by rw [Env.put_n, hnb, hn], ?_, ?_⟩
    · intro s v hs
      simp only [eget, Env.put] at hs ⊢
      by_cases h1 : s = D.te
      · rw [if_pos h1] at hs ⊢; exact hs
      · rw [if_neg h1] at hs ⊢
        by_cases h2 : s = D.tok
        · subst h2
          have := hw.2.1
          rw [show eb.get D.tok = none from this] at hs
          cases hs
        · rw [if_neg h2]
          by_cases h3 : s = D.tn
          · subst h3
            have := hw.1
            rw [show eb.get D.tn = none from this] at hs
            cases hs
          · rw [if_neg h3]
            exact hle s v hs
    · have hsub : SubH Hd (((((H1.alloc .iter).set B (.map (done.map fun y => (y.1, g y)))).drop H1.next)).drop b) := by
        intro z k hz
        obtain ⟨z1, z2, z3, z4⟩ := hd z k hz
        rw [drop_get, if_neg z2, drop_get, if_neg z4, set_get, if_neg z3, alloc_get, if_neg z4]
        exact z1
      have hle0 : eb.le (eb.put (some D.te) (.tuple #[y.1, y.2])) := Env.le_put (fun _ _ h => h) fun s hs => by obtain rfl := Option.some.inj hs; exact hw.2.2.1
      obtain ⟨hle4, hn4⟩ := ro_le _ _ _ (fun i _ => hw.2.2.2.1 i) hle0 h4
      obtain ⟨hle5, hn5⟩ := ro_le _ _ _ (fun i _ => hw.2.2.2.2 i) hle4 h5
      have hn5' : e5.n = n0 := by rw [hn5, hn4, Env.put_n, hnb]
      have key := ro_aops (K := fun
        | .normal, e1, H1' => acode rf P D.rest (blockK D.b1 fun
          | .normal, e2, H2 => eget e2 D.ti = some (.pointer (some ⟨H1.next, 0, none⟩)) ∧ e2.n = e.n ∧ (eb.le e2 ∧ ∃ done : List (Value × Value), (done ++ (rem1 ++ rem2)).Perm m ∧ backI b H1.next m H2 = (H1.alloc .iter).set B (.map (done.map fun y => (y.1, g y))))
          | .exit j, e2, H2 => j ≠ D.bid ∧ K (.exit j) e2 (backI b H1.next m H2)
          | ex, e2, H2 => K ex e2 (backI b H1.next m H2)) e1 H1'
        | .panic ch, e1, H1' => K (.panic ch) e1 (backI b H1.next m H1')
        | _, _, _ => False) hsub (List.range D.ops4.size).tail [] _ e4 h4 (by
        show acode rf P D.rest _ e4 _
        rw [hC.hrest]
        refine acode_region (by rw [hn4, Env.put_n, hnb]; exact hC.ok5) ?_
        rw [hC.h5, List.range_succ]
        refine ro_aops hsub (List.range k5) [k5] _ e5 h5 ?_
        -- the entry is laid
        unfold aops gop
        simp only [hC.hu, hC.gu]
        unfold lop
        have hcls : cls P ou = .w := by unfold cls; rw [hC.opu]
        simp only [hcls]
        unfold lopW
        simp only [hC.opu, ev1, hm1, hk1, hv1]
        unfold amapUpdate
        simp only [hU, hkd]
        have hgB : ((((H1.alloc .iter).set B (.map (done.map fun y => (y.1, g y)))).drop H1.next).drop b).get B = some (.map (done.map fun y => (y.1, g y))) := by
          rw [drop_get, if_neg hbB, drop_get, if_neg hBn, set_get, if_pos rfl]
        simp only [hgB]
        have hmiss : afind kd y.1 (done.map fun y => (y.1, g y)) 0 = some none := by
          refine afind_of_miss fun z hz => ?_
          obtain ⟨z0, hz0, rfl⟩ := List.mem_map.1 hz
          have hpw2 : (done ++ (rem1 ++ y :: rem2)).Pairwise (fun x y => keyPW x.1 y.1) := (hperm.pairwise_iff fun {a b} h => keyPW_symm h).2 hpw
          have hzy : keyPW z0.1 y.1 := (List.pairwise_append.1 hpw2).2.2 z0 hz0 y (by simp)
          obtain ⟨r', q1, q2⟩ := now_pw hsame (keyPW_symm hzy)
          rw [q2 rfl] at q1
          exact q1
        simp only [hmiss]
        refine ⟨hpl, ?_⟩
        show aops P ops5 _ [] _ _
        unfold aops
        have hle6 : eb.le (e5.put (dstOf ops5 k5) undef) := Env.le_put hle5 (hw.2.2.2.2 k5)
        refine ⟨hle6 _ _ hti, by rw [Env.put_n, hn5', hn], hle6, done ++ [y], ?_, ?_⟩
        · refine List.Perm.trans ?_ hperm
          rw [List.append_assoc]
          exact List.Perm.append_left _ (show (y :: (rem1 ++ rem2)).Perm (rem1 ++ y :: rem2) from List.perm_middle.symm)
        · have hbHit : (H1.alloc .iter).get H1.next = some .iter := by rw [alloc_get, if_pos rfl]
          have hbHb : (H1.alloc .iter).get b = some (.map m) := by rw [alloc_get, if_neg hbn]; exact hb
          simp only [backI, mput, List.map_append, List.map_cons, List.map_nil]
          generalize (H1.alloc .iter) = HH at hbHit hbHb
          obtain ⟨n, gg⟩ := HH
          have hbHit : gg H1.next = some .iter := hbHit
          have hbHb : gg b = some (.map m) := hbHb
          simp only [Heap.set, Heap.drop, Heap.mk.injEq, true_and]
          funext z
          by_cases z1 : z = H1.next
          · subst z1; simp [Ne.symm hBn, hbHit]
          · by_cases z2 : z = b
            · rw [z2]; simp [hbn, Ne.symm hbB, hbHb]
            · by_cases z3 : z = B <;> simp [z1, z2, z3, hBn, hbB])
      rw [List.append_nil] at key
      exact key
  · rintro e H ⟨hle, done, hperm, rfl⟩ _ _ hn
    refine hK _ (by rw [Env.put_n, Env.put_n, hn]) (Env.le_put (Env.le_put hle fun s hs => by obtain rfl := Option.some.inj hs; exact hw.1) fun s hs => by obtain rfl := Option.some.inj hs; exact hw.2.1) _ ?_
    rw [List.append_nil] at hperm
    exact hperm.map _
end

end Go.Lift
