import Derived.Test.YtdmhefbbicadnaaGreatL17
import Derived.Maps.RangeRun
/-! The lifted logic, part 18: a range over a map, in whatever order. -/
namespace Go.Lift

theorem filter_erase {l : List MapEntry} (hn : (l.map (·.born)).Nodup) : ∀ {j : Nat} {e : MapEntry}, l[j]? = some e → l.filter (fun x => x.born != e.born) = l.eraseIdx j := by
  induction l with
  | nil => intro j e h; simp at h
  | cons x l ih =>
    intro j e h
    simp only [List.map_cons, List.nodup_cons] at hn
    cases j with
    | zero =>
      simp at h
      subst h
      rw [List.filter_cons_of_neg (by simp), List.eraseIdx_cons_zero]
      refine List.filter_eq_self.2 fun y hy => ?_
      simp only [bne_iff_ne, ne_eq]
      exact fun q => hn.1 (List.mem_map.2 ⟨y, hy, q⟩)
    | succ j =>
      have h : l[j]? = some e := by simpa using h
      have hx : x.born ≠ e.born := fun q => hn.1 (List.mem_map.2 ⟨e, List.mem_of_getElem? h, q.symm⟩)
      rw [List.filter_cons_of_pos (by simpa using hx), ih hn.2 h, List.eraseIdx_cons_succ]

theorem leftOf_push (es : Array MapEntry) (seen : Array Nat) (b : Nat) : (leftOf es (seen.push b)).toList = (leftOf es seen).toList.filter (fun x => x.born != b) := by
  unfold leftOf
  simp only [Array.toList_filter]
  rw [List.filter_filter]
  refine List.filter_congr fun x _ => ?_
  simp only [Array.contains_push, Bool.not_or, bne]
  rw [Bool.and_comm]

/-- The entries still to come, in some order. -/
def LeftR (φ : Phi) (rem : List (Value × Value)) (left : List MapEntry) : Prop :=
  ∃ rem0 : List (Value × Value), rem0.Perm rem ∧ rem0.length = left.length ∧ ∀ (k : Nat) (x : Value × Value), rem0[k]? = some x → ∃ y : MapEntry, left[k]? = some y ∧ VR φ x.1 y.key ∧ VR φ x.2 y.val

theorem LeftR.mono {φ φ' : Phi} (h : φ.le φ') {rem : List (Value × Value)} {left : List MapEntry} (r : LeftR φ rem left) : LeftR φ' rem left := by
  obtain ⟨rem0, a, b, c⟩ := r
  exact ⟨rem0, a, b, fun k x hx => let ⟨y, e, p, q⟩ := c k x hx; ⟨y, e, p.mono h, q.mono h⟩⟩

theorem LeftR.take {φ : Phi} {rem : List (Value × Value)} {left : List MapEntry} (r : LeftR φ rem left) {j : Nat} {e : MapEntry} (h : left[j]? = some e) :
    ∃ rem1 x rem2, rem = rem1 ++ x :: rem2 ∧ VR φ x.1 e.key ∧ VR φ x.2 e.val ∧ LeftR φ (rem1 ++ rem2) (left.eraseIdx j) := by
  obtain ⟨rem0, hp, hl, hc⟩ := r
  have hj : j < left.length := (List.getElem?_eq_some_iff.1 h).1
  have hj0 : j < rem0.length := by omega
  have hx0 : rem0[j]? = some rem0[j] := List.getElem?_eq_getElem hj0
  obtain ⟨y, hy, h1, h2⟩ := hc j _ hx0
  rw [h] at hy
  obtain rfl := Option.some.inj hy
  obtain ⟨rem1, rem2, he⟩ := List.append_of_mem (hp.subset (List.mem_of_getElem? hx0))
  refine ⟨rem1, rem0[j], rem2, he, h1, h2, rem0.eraseIdx j, ?_, ?_, ?_⟩
  · have e0 := erase_perm rem0 j _ hx0
    have e1 : rem.Perm (rem0[j] :: (rem1 ++ rem2)) := by rw [he]; exact List.perm_middle
    exact (e0.symm.trans (hp.trans e1)).cons_inv
  · rw [List.length_eraseIdx, List.length_eraseIdx, if_pos hj0, if_pos hj, hl]
  · intro k x hk
    rw [List.getElem?_eraseIdx] at hk
    rw [List.getElem?_eraseIdx]
    split at hk
    · rename_i hkj
      rw [if_pos hkj]
      exact hc k x hk
    · rename_i hkj
      rw [if_neg hkj]
      exact hc (k + 1) x hk

/-- The loop of a range over a map. -/
structure MapLoop where
  id3 : Nat
  ops3 : Array Oper
  o0 : Oper
  o1 : Oper
  bid : Nat
  b1 : Nat
  id4 : Nat
  ops4 : Array Oper
  oe : Oper
  rest : Code
  ti : Nat
  tn : Nat
  tok : Nat
  te : Nat

def MapLoop.body (D : MapLoop) : Code :=
  .seq (.region D.id3 D.ops3 false) (.seq (.cond (.tmp D.tok) .skip (.exit D.bid)) (.block D.b1 (.seq (.region D.id4 D.ops4 false) D.rest)))

structure MapLoop.OK (D : MapLoop) (n : Nat) : Prop where
  h3 : D.ops3 = #[D.o0, D.o1]
  op0 : D.o0.op = .next (.tmp D.ti) false
  g0 : D.o0.guard = none
  d0 : D.o0.dst = some D.tn
  op1 : D.o1.op = .extract (.tmp D.tn) 0
  g1 : D.o1.guard = none
  d1 : D.o1.dst = some D.tok
  he : D.ops4[0]? = some D.oe
  ope : D.oe.op = .entry (.tmp D.ti)
  ge : D.oe.guard = none
  de : D.oe.dst = some D.te
  ok4 : dstsOK D.ops4 n = true
  nn : D.tn < n
  nok : D.tok < n
  ne : D.te < n
  i1 : D.ti ≠ D.tn
  i2 : D.ti ≠ D.tok

/-- What a round must do: entry (k, v) of those to come is met. -/
def roundI (rf : Bool) (P : Program) (D : MapLoop) (b it : Nat) (I : List (Value × Value) → Env → Heap → Prop) (K : AExit → Env → Heap → Prop) (back : Heap → Heap) (e : Env) (H : Heap) (rem1 rem2 : List (Value × Value)) (x : Value × Value) : Prop :=
  ∃ e0 : Env, e0.n = e.n ∧ (∀ t v, eget e0 t = some v → eget (((e.put (some D.tn) (.tuple #[.bool true, x.1, x.2])).put (some D.tok) (.bool true)).put (some D.te) (.tuple #[x.1, x.2])) t = some v) ∧
  aops P D.ops4 (fun
    | .normal, e1, H1 => acode rf P D.rest (blockK D.b1 fun
      | .normal, e2, H2 => eget e2 D.ti = some (.pointer (some ⟨it, 0, none⟩)) ∧ e2.n = e.n ∧ I (rem1 ++ rem2) e2 (back H2)
      | .exit j, e2, H2 => j ≠ D.bid ∧ K (.exit j) e2 (back H2)
      | ex, e2, H2 => K ex e2 (back H2)) e1 H1
    | .panic ch, e1, H1 => K (.panic ch) e1 (back H1)
    | _, _, _ => False) ((List.range D.ops4.size).tail) e0 H

theorem wpOpsIn_mono {F : Fence} {n : Nat} {P : Program} {ops : Array Oper} {Q Q' : Exit → Act → World → Prop} (hq : ∀ e a w, Q e a w → Q' e a w) : ∀ (l : List Nat) (a : Act) (w : World), wpOpsIn F n P ops Q l a w → wpOpsIn F n P ops Q' l a w
  | [], a, w, h => hq _ _ _ h
  | i :: rest, a, w, h => by
    have ih : ∀ a w, wpOpsIn F n P ops Q rest a w → wpOpsIn F n P ops Q' rest a w := wpOpsIn_mono hq rest
    have ho : LetsOut Q → LetsOut Q' := fun ⟨a, w, h⟩ => ⟨a, w, hq _ _ _ h⟩
    simp only [wpOpsIn] at h ⊢
    cases hoi : ops[i]? with
    | none => simp only [hoi] at h ⊢; exact ih _ _ h
    | some o =>
      simp only [hoi] at h ⊢
      by_cases hw : Region.wanted o (yielded ops a.tmps) = true
      · simp only [hw, if_true] at h ⊢
        refine ⟨h.1, ?_⟩
        have h := h.2
        generalize (o.semAt F.round a.eval).run P w = r at h
        cases r with
        | ok x w' =>
          cases x <;> simp only [Oper.uponIn] at h ⊢ <;>
            first
              | exact ih _ _ h
              | exact ⟨h.1, CallsIn.mono h.2 (fun e w'' he => by cases e <;> first | exact ih _ _ he | exact hq _ _ _ he | exact ho he)⟩
              | exact ⟨h.1, RowsIn.mono h.2 (fun _ _ he => ih _ _ he)⟩
              | exact ⟨h.1, RoundIn.mono h.2 (fun e w'' he => by cases e <;> first | exact ih _ _ he | exact hq _ _ _ he | exact ho he)⟩
              | exact h
        | halt x w' => cases x <;> simp only [Oper.uponIn] at h ⊢ <;> first | exact hq _ _ _ h | exact h
      · simp only [hw, if_false] at h ⊢
        exact ⟨h.1, ih _ _ h.2⟩

/-- An operation that yields a value, as the walk wants it. -/
theorem wpOpsIn_val {F : Fence} {P : Program} {ops : Array Oper} {Q : Exit → Act → World → Prop} {i : Nat} {l : List Nat} {o : Oper} {a : Act} {w w' : World} {v : Value} (hF : WF F) (ho : ops[i]? = some o) (hg : o.guard = none) (hnd : ∀ c, o.op ≠ .defer c)
    (hr : (execOp a.eval o).run P w = .ok (.value v) w') (h : wpOpsIn F 0 P ops Q l (a.put o.dst v) w') : wpOpsIn F 0 P ops Q (i :: l) a w := by
  simp only [wpOpsIn, ho]
  have hw : Region.wanted o (yielded ops a.tmps) = true := by simp [Region.wanted, hg]
  simp only [hw, if_true]
  refine ⟨fun f _ => hF.fn f, ?_⟩
  rw [Oper.semAt_eq _ _ _ hnd, hr]
  exact h

theorem DM.drop_mid {rf : Bool} {w w1 w2 : World} {ds ds2 : List Deferred} (hs : w.heap.size ≤ w1.heap.size) (d : DM rf w1 w2 ds ds2) : DM rf w w2 ds ds2 := by
  obtain ⟨rs, h1, h2, h3⟩ := d
  exact ⟨rs, h1, ⟨h2.nd, fun r hr => Nat.le_trans hs (h2.fresh r hr), h2.obj⟩, h3⟩

theorem setBlock_eq (w : World) (b : Nat) (o : Obj) : Go.ChangeMaps.setBlock w b o = pokeW w b o := rfl

/-- A block of one's own is another one: the real object is turned, as the block says. -/
theorem HR.pokeSame {φ : Phi} {H : Heap} {w w' : World} {l : Nat} {k : Blk} {i : BI} (h : HR φ H w) (e : H.get l = some k) (hk : k.rw = true) (hi : φ l = some i) (hp : ∃ o, w'.heap = (pokeW w i.rb o).heap) (hos : w'.os = w.os) (hout : w'.output = w.output) (hb : BlkR φ w' i k) :
    HR φ H w' ∧ Ext φ H w φ H w' := by
  obtain ⟨o, ho⟩ := hp
  have hne : ∀ r, i.rb ≠ r → w'.heap[r]? = w.heap[r]? := fun r hr => by rw [ho]; exact poke_ne hr
  refine ⟨⟨h.zero, h.pos, h.fresh, fun x kx ex => ?_, h.sep⟩, ⟨Phi.le_refl _, by rw [ho, poke_size]; exact Nat.le_refl _, fun r _ hn => hne r (hn l k i e hk hi), fun _ _ => rfl, fun x kx ix h1 h3 => .inr ⟨x, kx, ix, h1, id, h3, rfl⟩, fun _ _ _ h => h, Nat.le_refl _, hos, hout⟩⟩
  by_cases hx : x = l
  · subst hx
    rw [e] at ex
    obtain rfl := Option.some.inj ex
    exact ⟨i, hi, hb⟩
  · obtain ⟨j, hj, r⟩ := h.dom x kx ex
    exact ⟨j, hj, r.mono (Phi.le_refl _) (hne _ (h.sep l x k kx i j e ex hi hj (fun q => hx q.symm) hk))⟩

section
variable {rf : Bool} {P : Program} {D : MapLoop} {K : AExit → Env → Heap → Prop} {n0 b it : Nat} {m : List (Value × Value)} {I : List (Value × Value) → Env → Heap → Prop}

/-- What is behind a round. -/
def backI (b it : Nat) (m : List (Value × Value)) (H : Heap) : Heap := (H.set b (.map m)).set it .iter

def roundR (D : MapLoop) (b it n0 : Nat) (m : List (Value × Value)) (I : List (Value × Value) → Env → Heap → Prop) (K : AExit → Env → Heap → Prop) (rem : List (Value × Value)) : AExit → Env → Heap → Prop
  | .normal, e2, H2 => eget e2 D.ti = some (.pointer (some ⟨it, 0, none⟩)) ∧ e2.n = n0 ∧ I rem e2 (backI b it m H2)
  | .exit j, e2, H2 => j ≠ D.bid ∧ K (.exit j) e2 (backI b it m H2)
  | ex, e2, H2 => K ex e2 (backI b it m H2)

theorem mapRound {F : Fence} (hF : WF F) (hrf : rf = true → F.round = none) (hD : D.OK n0) {e : Env} {H : Heap} {rem1 rem2 : List (Value × Value)} {x : Value × Value} (hn : e.n = n0)
    (h : roundI rf P D b it I K (backI b it m) e H rem1 rem2 x) {φ : Phi} {a1 : Act} {w1 : World} {y : MapEntry} {r : Nat} (ha : ARel φ ((e.put (some D.tn) (.tuple #[.bool true, x.1, x.2])).put (some D.tok) (.bool true)) a1)
    (hk : VR φ x.1 y.key) (hv : VR φ x.2 y.val) (hw : HR φ H w1) (hti : a1.tmps.getD D.ti undef = .pointer (some ⟨r, 0, none⟩)) (hent : (Instr.entry (.pointer (some ⟨r, 0, none⟩))).run P w1 = .ok (.tuple #[y.key, y.val]) w1) :
    (Code.block D.b1 (.seq (.region D.id4 D.ops4 false) D.rest)).wpIn F 0 P (APost rf φ H w1 a1 (roundR D b it n0 m I K (rem1 ++ rem2))) a1 w1 := by
  obtain ⟨e0, hn0, hsub0, h⟩ := h
  have hrel : ARel φ (((e.put (some D.tn) (.tuple #[.bool true, x.1, x.2])).put (some D.tok) (.bool true)).put (some D.te) (.tuple #[x.1, x.2])) (a1.put (some D.te) (.tuple #[y.key, y.val])) :=
    ha.put (fun t ht => by obtain rfl := Option.some.inj ht; show D.te < e.n; rw [hn]; exact hD.ne) (VR.pair hk hv)
  have hsize : 0 < D.ops4.size := by
    have := (Array.getElem?_eq_some_iff.1 hD.he).1
    omega
  have hrange : List.range D.ops4.size = 0 :: (List.range D.ops4.size).tail := by
    obtain ⟨k, hk⟩ : ∃ k, D.ops4.size = k + 1 := ⟨D.ops4.size - 1, by omega⟩
    rw [hk, List.range_succ_eq_map]; rfl
  refine wpIn_block (wpIn_seq (wpIn_region ?_))
  rw [hrange]
  refine wpOpsIn_val hF hD.he hD.ge (fun c hc => by rw [hD.ope] at hc; cases hc) (v := .tuple #[y.key, y.val]) (w' := w1) ?_ ?_
  · unfold execOp
    rw [hD.ope]
    show (do pure (Next.value (← Instr.entry (a1.tmps.getD D.ti undef)))).run P w1 = _
    rw [hti]
    exact run_v hent
  rw [hD.de]
  have hrel := hrel.sub (e' := e0) hn0 hsub0
  have hok : dstsOK D.ops4 e0.n = true := by
    rw [hn0, hn]; exact hD.ok4
  have hsnd := aops_sound (rf := rf) hF (List.range D.ops4.size).tail _ H φ (a1.put (some D.te) (.tuple #[y.key, y.val])) w1 hok h hrel hw (Ext.refl _ _ _) rfl rfl
  refine wpOpsIn_mono ?_ _ _ _ hsnd
  have hsz0 : (a1.put (some D.te) (.tuple #[y.key, y.val])).tmps.size = a1.tmps.size := Act.put_size _ _ _
  rintro ex' a2 w2 ⟨ex, e2, H2, φ2, k2, r1, r2, r4, r5, r6, r7⟩
  have r6 : DM rf w1 w2 a1.defers a2.defers := r6
  cases ex with
  | normal =>
    cases ex' <;> simp only [XR] at r1
    refine wpIn_mono (k2 F hF hrf φ2 a2 w2 r2 r4) ?_
    rintro ex3' a3 w3 ⟨ex3, e3, H3, φ3, k3, s1, s2, s4, s5, s6, s7⟩
    have hd := r6.trans r4 r5.size s5 s6
    have hx := r5.trans s5
    have hz := s7.trans (r7.trans hsz0)
    cases ex3 with
    | exit j =>
      cases ex3' <;> simp only [XR] at s1
      subst s1
      simp only [Exit.inBlock]
      simp only [blockK] at k3
      split
      · rename_i hj
        rw [if_pos hj] at k3
        exact ⟨.normal, e3, H3, φ3, by rw [← hn]; exact k3, trivial, s2, s4, hx, hd, hz⟩
      · rename_i hj
        rw [if_neg hj] at k3
        exact ⟨.exit j, e3, H3, φ3, k3, rfl, s2, s4, hx, hd, hz⟩
    | normal => cases ex3' <;> simp only [XR] at s1; exact ⟨.normal, e3, H3, φ3, by rw [← hn]; exact k3, trivial, s2, s4, hx, hd, hz⟩
    | ret => cases ex3' <;> simp only [XR] at s1; exact ⟨.ret, e3, H3, φ3, k3, trivial, s2, s4, hx, hd, hz⟩
    | panic ch => cases ex3' <;> simp only [XR] at s1; exact ⟨.panic ch, e3, H3, φ3, k3, s1, s2, s4, hx, hd, hz⟩
  | panic ch =>
    cases ex' <;> simp only [XR] at r1
    exact ⟨.panic ch, e2, H2, φ2, k2, r1, r2, r4, r5, r6, r7.trans hsz0⟩
  | exit j => exact k2.elim
  | ret => exact k2.elim

theorem mapLoop_head {F : Fence} (hF : WF F) (hrf : rf = true → F.round = none) (hD : D.OK n0) (hbit : b ≠ it)
    (hstep : ∀ rem1 x rem2 e H, I (rem1 ++ x :: rem2) e H → H.get b = some (.map m) → H.get it = some .iter → eget e D.ti = some (.pointer (some ⟨it, 0, none⟩)) → e.n = n0 →
      roundI rf P D b it I K (backI b it m) e ((H.drop it).drop b) rem1 rem2 x)
    (hend : ∀ e H, I [] e H → H.get b = some (.map m) → H.get it = some .iter → e.n = n0 → K .normal ((e.put (some D.tn) (.tuple #[.bool false])).put (some D.tok) (.bool false)) H)
    {es : Array MapEntry} {clock : Nat} (hborn : ∀ y ∈ es.toList, y.born < clock) (hnd : (es.toList.map (·.born)).Nodup) :
    ∀ (n : Nat) (rem : List (Value × Value)) (e : Env) (H : Heap) (φ : Phi) (a : Act) (w : World) (ib ii : BI) (seen : Array Nat) (c0 : Nat), rem.length = n → I rem e H → H.get b = some (.map m) → H.get it = some .iter →
      eget e D.ti = some (.pointer (some ⟨it, 0, none⟩)) → e.n = n0 → ARel φ e a → HR φ H w → φ b = some ib → φ it = some ii → w.heap[ib.rb]? = some (.map es clock) → w.heap[ii.rb]? = some (.mapIter (some ib.rb) clock seen c0) → clock ≤ c0 →
      LeftR φ rem (leftOf es seen).toList → ∀ (fr : Frame) (k : List Go.Item) (cs : List Frame), fr.roundOf = F.round → F.fn fr.fn → F.room (cs.length + 1 + 0) →
      ∃ ex' a' w', APost rf φ H w a (fun | .normal, _, _ => False | .exit j, e, H => if j = D.bid then K .normal e H else K (.exit j) e H | ex, e, H => K ex e H) ex' a' w' ∧
        ArrivesIn (Machine.fenced P F) P (lone (fr.atR a (.code D.body :: .inLoop D.body :: k)) cs w) fr k cs ex' a' w' := by
  intro n
  induction n using Nat.strongRecOn with
  | _ n ih =>
    intro rem e H φ a w ib ii seen c0 hlen hI hb hi hti hn ha hw hib hii hmap hit hc0 hleft fr k cs hro hfn hroom
    -- the iterator
    obtain ⟨ii', hii', hoff, _⟩ := hw.dom it _ hi
    obtain rfl : ii = ii' := by rw [hii] at hii'; exact Option.some.inj hii'
    have htr : a.tmps.getD D.ti undef = .pointer (some ⟨ii.rb, 0, none⟩) := by
      have := (ha.2 D.ti _ hti).2
      generalize a.tmps.getD D.ti undef = z at this
      cases this with
      | ptr _ _ i' hi' =>
        rw [hii] at hi'
        obtain rfl := Option.some.inj hi'
        rw [hoff]
    have hsep : ib.rb ≠ ii.rb := hw.sep b it _ _ ib ii hb hi hib hii hbit rfl
    have hr3 : List.range D.ops3.size = [0, 1] := by rw [hD.h3]; rfl
    have hnn : ∀ t, some D.tn = some t → t < e.n := fun t ht => by obtain rfl := Option.some.inj ht; rw [hn]; exact hD.nn
    have hnok : ∀ t, some D.tok = some t → t < e.n := fun t ht => by obtain rfl := Option.some.inj ht; rw [hn]; exact hD.nok
    -- the two operations, whatever comes
    have two : ∀ (v : Value) (vs : Array Value) (t : Bool) (w1 : World) (Q : Exit → Act → World → Prop), v = .tuple vs → vs[0]? = some (.bool t) → (Instr.next (.pointer (some ⟨ii.rb, 0, none⟩)) false D.o0.type).run P w = .ok v w1 →
        Q .normal ((a.put (some D.tn) v).put (some D.tok) (.bool t)) w1 → (Code.region D.id3 D.ops3 false).wpIn F 0 P Q a w := by
      intro v vs t w1 Q hv hv0 hrun hq
      refine wpIn_region ?_
      rw [hr3]
      refine wpOpsIn_val hF (by rw [hD.h3]; rfl) hD.g0 (fun c hc => by rw [hD.op0] at hc; cases hc) (v := v) (w' := w1) ?_ ?_
      · unfold execOp
        rw [hD.op0]
        show (do pure (Next.value (← Instr.next (a.tmps.getD D.ti undef) false D.o0.type))).run P w = _
        rw [htr]
        exact run_v hrun
      rw [hD.d0]
      refine wpOpsIn_val hF (by rw [hD.h3]; rfl) hD.g1 (fun c hc => by rw [hD.op1] at hc; cases hc) (v := .bool t) (w' := w1) ?_ ?_
      · unfold execOp
        rw [hD.op1]
        show (do pure (Next.value (← Instr.extract ((a.put (some D.tn) v).tmps.getD D.tn undef) 0))).run P w1 = _
        have : (a.put (some D.tn) v).tmps.getD D.tn undef = v := by
          have hlt : D.tn < a.tmps.size := by rw [ha.1, hn]; exact hD.nn
          simp [Act.put, hlt]
        rw [this, hv]
        refine run_v ?_
        simp only [Instr.extract]
        rw [hv0]
        rfl
      rw [hD.d1]
      exact hq
    have hhead : ∀ (Q : Exit → Act → World → Prop), D.body.wpIn F 0 P (Exit.then (fun _ _ => False) Q) a w → (∀ e' a' w', Q e' a' w' → e' ≠ .normal → APost rf φ H w a (fun | .normal, _, _ => False | .exit j, e, H => if j = D.bid then K .normal e H else K (.exit j) e H | ex, e, H => K ex e H) e' a' w') →
        ∃ ex' a' w', APost rf φ H w a (fun | .normal, _, _ => False | .exit j, e, H => if j = D.bid then K .normal e H else K (.exit j) e H | ex, e, H => K ex e H) ex' a' w' ∧
        ArrivesIn (Machine.fenced P F) P (lone (fr.atR a (.code D.body :: .inLoop D.body :: k)) cs w) fr k cs ex' a' w' := by
      intro Q hwp hQ
      obtain ⟨ex', a', w', hq, harr⟩ := hwp fr (.inLoop D.body :: k) cs hro hfn hroom
      cases ex' with
      | normal => exact hq.elim
      | exit id => exact ⟨.exit id, a', w', hQ _ _ _ hq (by simp), .pass (x := .inLoop D.body) rfl (fun _ _ => .inl (by simp)) harr⟩
      | ret => exact ⟨.ret, a', w', hQ _ _ _ hq (by simp), .pass (x := .inLoop D.body) rfl (fun _ _ => .inl (by simp)) harr⟩
      | goto l => exact ⟨.goto l, a', w', hQ _ _ _ hq (by simp), .pass (x := .inLoop D.body) rfl (fun _ _ => .inl (by simp)) harr⟩
      | panic ch => exact ⟨.panic ch, a', w', hQ _ _ _ hq (by simp), .pass (x := .inLoop D.body) rfl (fun _ _ => .inl (by simp)) harr⟩
      | outgrown =>
        have := hQ _ _ _ hq (by simp)
        obtain ⟨ex, e', H', φ', k1, r1, _⟩ := this
        cases ex <;> simp only [XR] at r1
    rcases run_next_at (P := P) w D.o0.type ii.rb ib.rb clock c0 seen es clock hit hmap hborn hc0 with ⟨h0, hrun⟩ | ⟨y, hy, w1, hw1, hrun⟩
    · -- none is left
      have hrem : rem = [] := by
        obtain ⟨rem0, hp, hl, _⟩ := hleft
        have : rem0.length = 0 := by rw [hl]; simpa using h0
        rw [← List.length_eq_zero_iff, ← hp.length_eq, this]
      subst hrem
      have ha2 : ARel φ ((e.put (some D.tn) (.tuple #[.bool false])).put (some D.tok) (.bool false)) ((a.put (some D.tn) (.tuple #[.bool false])).put (some D.tok) (.bool false)) :=
        (ha.put hnn (VR.tuple_of (.cons (.bool _) .nil))).put hnok (.bool _)
      refine hhead (fun e' a' w' => e' = .exit D.bid ∧ a' = (a.put (some D.tn) (.tuple #[.bool false])).put (some D.tok) (.bool false) ∧ w' = w) ?_ ?_
      · refine wpIn_seq (two _ _ false w _ rfl rfl hrun ?_)
        refine wpIn_seq (wpIn_cond (t := false) ?_ (wpIn_exit ⟨rfl, rfl, rfl⟩))
        have hlt : D.tok < a.tmps.size := by rw [ha.1, hn]; exact hD.nok
        show ((a.put (some D.tn) (.tuple #[.bool false])).put (some D.tok) (.bool false)).tmps.getD D.tok undef = _
        simp [Act.put, hlt]
      · rintro e' a' w' ⟨rfl, rfl, rfl⟩ _
        refine ⟨.exit D.bid, _, H, φ, ?_, rfl, ha2, hw, Ext.refl _ _ _, .of_eq ?_, ?_⟩
        · simp only [if_true]
          exact hend e H hI hb hi hn
        · rw [Act.put_defers', Act.put_defers']
        · rw [Act.put_size, Act.put_size]
    · -- an entry comes
      rw [setBlock_eq] at hrun
      have hyl := hy
      unfold leftOf at hyl
      simp only [Array.toList_filter, List.mem_filter] at hyl
      obtain ⟨j, hj⟩ := List.mem_iff_getElem?.1 hy
      obtain ⟨rem1, x, rem2, hrem, hkx, hvx, hleft'⟩ := hleft.take hj
      have hheap1 : w1.heap = w.heap := by rcases hw1 with rfl | rfl <;> rfl
      have hos1 : w1.os = w.os ∧ w1.output = w.output := by rcases hw1 with rfl | rfl <;> exact ⟨rfl, rfl⟩
      have hltr : ii.rb < w.heap.size := hw.lt hi hii
      generalize hw2e : pokeW w1 ii.rb (.mapIter (some ib.rb) clock (seen.push y.born) clock) = w2 at hrun
      have hw2h : w2.heap = (pokeW w ii.rb (.mapIter (some ib.rb) clock (seen.push y.born) clock)).heap := by rw [← hw2e]; simp [pokeW, hheap1]
      have hit2 : w2.heap[ii.rb]? = some (.mapIter (some ib.rb) clock (seen.push y.born) clock) := by rw [hw2h]; exact poke_eq hltr
      have hmap2 : w2.heap[ib.rb]? = some (.map es clock) := by rw [hw2h, poke_ne hsep.symm]; exact hmap
      obtain ⟨hwp, hxp⟩ := hw.pokeSame (w' := w2) hi rfl hii ⟨_, hw2h⟩ (by rw [← hw2e]; exact hos1.1) (by rw [← hw2e]; exact hos1.2) ⟨hoff, _, _, _, _, hit2⟩
      have ha2 : ARel φ ((e.put (some D.tn) (.tuple #[.bool true, x.1, x.2])).put (some D.tok) (.bool true)) ((a.put (some D.tn) (.tuple #[.bool true, y.key, y.val])).put (some D.tok) (.bool true)) :=
        (ha.put hnn (VR.tuple_of (.cons (.bool _) (.cons hkx (.cons hvx .nil))))).put hnok (.bool _)
      -- the body, the map and the iterator set aside
      have hIs : I (rem1 ++ x :: rem2) e H := hrem ▸ hI
      have hround := hstep rem1 x rem2 e H hIs hb hi hti hn
      have hFl : okL [it, b] H := ⟨⟨_, hi, rfl⟩, ⟨_, by rw [drop_get, if_neg hbit]; exact hb, rfl⟩, trivial⟩
      have hd2 : HR φ ((H.drop it).drop b) w2 := HR.dropL [it, b] hwp
      have hti2 : ((a.put (some D.tn) (.tuple #[.bool true, y.key, y.val])).put (some D.tok) (.bool true)).tmps.getD D.ti undef = .pointer (some ⟨ii.rb, 0, none⟩) := by
        simp only [Act.put, Array.getD_eq_getD_getElem?]
        rw [Array.getElem?_setIfInBounds_ne (Ne.symm hD.i2), Array.getElem?_setIfInBounds_ne (Ne.symm hD.i1)]
        simpa [Array.getD_eq_getD_getElem?] using htr
      have hbody := mapRound hF hrf hD hn hround ha2 hkx hvx hd2 hti2 (run_entry_at w2 ii.rb ib.rb clock seen es clock y hit2 hmap2 hyl.1 hnd)
      -- one round, then on
      obtain ⟨ex', a', w', ⟨ex, e', H', φ', kk, r1, r2, r4, r5, r6, r7⟩, harr⟩ := (show D.body.wpIn F 0 P (APost rf φ ((H.drop it).drop b) w2 ((a.put (some D.tn) (.tuple #[.bool true, y.key, y.val])).put (some D.tok) (.bool true)) (roundR D b it n0 m I K (rem1 ++ rem2))) a w from by
        refine wpIn_seq (two _ _ true w2 _ rfl rfl hrun ?_)
        refine wpIn_seq (wpIn_cond (t := true) ?_ (wpIn_skip ?_))
        · have hlt : D.tok < a.tmps.size := by rw [ha.1, hn]; exact hD.nok
          show ((a.put (some D.tn) (.tuple #[.bool true, y.key, y.val])).put (some D.tok) (.bool true)).tmps.getD D.tok undef = _
          simp [Act.put, hlt]
        · exact hbody) fr (.inLoop D.body :: k) cs hro hfn hroom
      have hback : backL [it, b] H H' = backI b it m H' := by
        simp only [backL, hi, backI]
        rw [drop_get, if_neg hbit, hb]
      obtain ⟨q1, q2⟩ := HR.backL [it, b] hwp hFl r4 r5
      rw [hback] at q1 q2
      have hxt := hxp.trans q2
      have hdefs : DM rf w w' a.defers a'.defers := by
        have : DM rf w2 w' a.defers a'.defers := by
          rw [Act.put_defers', Act.put_defers'] at r6
          exact r6
        exact this.drop_mid hxp.size
      have hsz : a'.tmps.size = a.tmps.size := by rw [r7, Act.put_size, Act.put_size]
      cases ex with
      | normal =>
        cases ex' <;> simp only [XR] at r1
        obtain ⟨k1, k2, k3⟩ := kk
        -- what was set aside stands as it stood
        have hkeep : ∀ (l : Nat) (kl : Blk) (il : BI), H.get l = some kl → kl.rw = true → φ l = some il → ((H.drop it).drop b).get l = none → w'.heap[il.rb]? = w2.heap[il.rb]? := by
          intro l kl il hl hrw hil hno
          refine r5.kept il.rb (hwp.lt hl hil) fun z kz iz hz hzrw piz heq => ?_
          have hz2 : H.get z = some kz := by
            rw [drop_get] at hz
            split at hz
            · cases hz
            · rw [drop_get] at hz
              split at hz
              · cases hz
              · exact hz
          by_cases hzl : z = l
          · subst hzl
            rw [hno] at hz; cases hz
          · exact hwp.sep z l kz kl iz il hz2 hl piz hil hzl hzrw heq
        have hmap3 : w'.heap[ib.rb]? = some (.map es clock) := (hkeep b _ ib hb rfl hib (by rw [drop_get, if_pos rfl])).trans hmap2
        have hit3 : w'.heap[ii.rb]? = some (.mapIter (some ib.rb) clock (seen.push y.born) clock) := (hkeep it _ ii hi rfl hii (by rw [drop_get, if_neg (fun q => hbit q.symm), drop_get, if_pos rfl])).trans hit2
        have hleft3 : LeftR φ' (rem1 ++ rem2) (leftOf es (seen.push y.born)).toList := by
          rw [leftOf_push]
          have hnl : ((leftOf es seen).toList.map (·.born)).Nodup := by
            unfold leftOf
            rw [Array.toList_filter]
            exact hnd.sublist (List.filter_sublist.map _)
          rw [filter_erase hnl hj]
          exact hleft'.mono q2.phi
        have hlt : (rem1 ++ rem2).length < n := by rw [← hlen, hrem]; simp
        obtain ⟨ex2', a2, w3, ⟨ex2, e2, H2, φ2, kk2, s1, s2, s4, s5, s6, s7⟩, harr2⟩ := ih _ hlt (rem1 ++ rem2) e' (backI b it m H') φ' a' w' ib ii _ clock rfl k3
          (by simp only [backI]; rw [set_get, if_neg hbit, set_get, if_pos rfl]) (by simp only [backI]; rw [set_get, if_pos rfl]) k1 k2 r2 q1 (q2.phi _ _ hib) (q2.phi _ _ hii) hmap3 hit3 (Nat.le_refl _) hleft3 fr k cs hro hfn hroom
        exact ⟨ex2', a2, w3, ⟨ex2, e2, H2, φ2, kk2, s1, s2, s4, hxt.trans s5, hdefs.trans q1 hxt.size s5 s6, s7.trans hsz⟩, .of_steps (StepsIn.trans harr (.one (fenced_calm hfn hroom rfl) stepR_inLoop)) harr2⟩
      | exit id =>
        cases ex' <;> simp only [XR] at r1
        subst r1
        obtain ⟨k1, k2⟩ := kk
        exact ⟨.exit id, a', w', ⟨.exit id, e', _, φ', by simp only [if_neg k1]; exact k2, rfl, r2, q1, hxt, hdefs, hsz⟩, .pass (x := .inLoop D.body) rfl (fun _ _ => .inl (by simp)) harr⟩
      | ret =>
        cases ex' <;> simp only [XR] at r1
        exact ⟨.ret, a', w', ⟨.ret, e', _, φ', kk, trivial, r2, q1, hxt, hdefs, hsz⟩, .pass (x := .inLoop D.body) rfl (fun _ _ => .inl (by simp)) harr⟩
      | panic ch =>
        cases ex' with
        | panic ch' => exact ⟨.panic ch', a', w', ⟨.panic ch, e', _, φ', kk, r1, r2, q1, hxt, hdefs, hsz⟩, .pass (x := .inLoop D.body) rfl (fun _ _ => .inl (by simp)) harr⟩
        | _ => simp only [XR] at r1

/-- What is known where the range begins. -/
structure RangeAt (rf : Bool) (P : Program) (D : MapLoop) (n0 : Nat) (t : TypeId) (x : Operand) (K : AExit → Env → Heap → Prop) (e : Env) (H : Heap) : Prop where
  go : ∃ kt et b m, P.underlying t = some (.map kt et) ∧ aeval e x = some (.map (some b)) ∧ H.get b = some (.map m) ∧ e.n = n0 ∧ (m.Pairwise (fun x y => keyPW x.1 y.1) → ∃ I : List (Value × Value) → Env → Heap → Prop,
    I m (e.put (some D.ti) (.pointer (some ⟨H.next, 0, none⟩))) (H.alloc .iter) ∧
    (∀ rem1 x rem2 e1 H1, I (rem1 ++ x :: rem2) e1 H1 → H1.get b = some (.map m) → H1.get H.next = some .iter → eget e1 D.ti = some (.pointer (some ⟨H.next, 0, none⟩)) → e1.n = n0 →
      roundI rf P D b H.next I K (backI b H.next m) e1 ((H1.drop H.next).drop b) rem1 rem2 x) ∧
    (∀ e1 H1, I [] e1 H1 → H1.get b = some (.map m) → H1.get H.next = some .iter → e1.n = n0 → K .normal ((e1.put (some D.tn) (.tuple #[.bool false])).put (some D.tok) (.bool false)) H1))

def rangeK2 (rf : Bool) (P : Program) (D : MapLoop) (n0 : Nat) (t : TypeId) (x : Operand) (K : AExit → Env → Heap → Prop) : AExit → Env → Heap → Prop
  | .normal, e, H => RangeAt rf P D n0 t x K e H
  | ex, e, H => K ex e H

theorem wpOpsIn_append {F : Fence} {P : Program} {ops : Array Oper} {Q : Exit → Act → World → Prop} : ∀ (l1 l2 : List Nat) (a : Act) (w : World),
    wpOpsIn F 0 P ops (Exit.then (wpOpsIn F 0 P ops Q l2) Q) l1 a w → wpOpsIn F 0 P ops Q (l1 ++ l2) a w
  | [], l2, a, w, h => h
  | i :: l1, l2, a, w, h => by
    have ih := fun a w => wpOpsIn_append (F := F) (P := P) (ops := ops) (Q := Q) l1 l2 a w
    simp only [List.cons_append, wpOpsIn] at h ⊢
    cases hoi : ops[i]? with
    | none => simp only [hoi] at h ⊢; exact ih _ _ h
    | some o =>
      simp only [hoi] at h ⊢
      by_cases hw : Region.wanted o (yielded ops a.tmps) = true
      · simp only [hw, if_true] at h ⊢
        refine ⟨h.1, ?_⟩
        have h := h.2
        have hlet : LetsOut (Exit.then (wpOpsIn F 0 P ops Q l2) Q) → LetsOut Q := fun ⟨a, w, h⟩ => ⟨a, w, h⟩
        generalize (o.semAt F.round a.eval).run P w = r at h
        cases r with
        | ok x w' =>
          cases x <;> simp only [Oper.uponIn] at h ⊢ <;>
            first
              | exact ih _ _ h
              | exact ⟨h.1, CallsIn.mono h.2 (fun e w'' he => by cases e <;> first | exact ih _ _ he | exact he | exact hlet he)⟩
              | exact ⟨h.1, RowsIn.mono h.2 (fun _ _ he => ih _ _ he)⟩
              | exact ⟨h.1, RoundIn.mono h.2 (fun e w'' he => by cases e <;> first | exact ih _ _ he | exact he | exact hlet he)⟩
              | exact h
        | halt x w' => cases x <;> simp only [Oper.uponIn] at h ⊢ <;> exact h
      · simp only [hw, if_false] at h ⊢
        exact ⟨h.1, ih _ _ h.2⟩

/-- **A range over a map.** -/
theorem acode_mapRange {id2 n : Nat} {ops2 : Array Oper} {orr : Oper} {t : TypeId} {x : Operand} {e : Env} {H : Heap} (hD : D.OK n0) (hn0 : e.n = n0) (hsz : ops2.size = n + 1) (hor : ops2[n]? = some orr) (hop : orr.op = .range t x) (hg : orr.guard = none)
    (hd : orr.dst = some D.ti) (hti : D.ti < n0) (hok : dstsOK ops2 n0 = true) (h : aops P ops2 (rangeK2 rf P D n0 t x K) (List.range n) e H) :
    acode rf P (.seq (.region id2 ops2 false) (.block D.bid (.loop D.body))) K e H := by
  intro F hF hrf φ0 a0 w0 ha0 hw0
  refine wpIn_seq (wpIn_region ?_)
  rw [hsz, List.range_succ]
  refine wpOpsIn_append _ _ _ _ ?_
  refine wpOpsIn_mono ?_ _ _ _ (aops_sound (rf := rf) hF (List.range n) e H φ0 a0 w0 (by rw [hn0]; exact hok) h ha0 hw0 (Ext.refl _ _ _) rfl rfl)
  rintro ex' a w ⟨ex, e1, H1, φ, kk, r1, ha, hw, hx, hdm, hs⟩
  cases ex with
  | exit j => cases ex' <;> simp only [XR] at r1; subst r1; exact ⟨.exit j, e1, H1, φ, kk, rfl, ha, hw, hx, hdm, hs⟩
  | ret => cases ex' <;> simp only [XR] at r1; exact ⟨.ret, e1, H1, φ, kk, trivial, ha, hw, hx, hdm, hs⟩
  | panic ch => cases ex' <;> simp only [XR] at r1; exact ⟨.panic ch, e1, H1, φ, kk, r1, ha, hw, hx, hdm, hs⟩
  | normal =>
    cases ex' <;> simp only [XR] at r1
    obtain ⟨kt, et, b, m, hu, hxe, hb, hn, hgo⟩ := kk.go
    have hv := ha.eval hxe
    generalize hxv : a.eval x = v at hv
    cases hv with
    | map _ ib hib =>
      obtain ⟨es, clock, q1, m0, hperm, hpw, hA1, hA2, hA3, hA4⟩ := hw.map hb hib
      obtain ⟨I, hI, hstep, hend⟩ := hgo hpw
      have hbl := hw.get_lt hb
      -- the iterator is made
      have hk : BlkR (φ.add H1.next ⟨w.heap.size, 0, 0, 0⟩) (w.alloc (.mapIter (some ib.rb) clock #[] clock)) ⟨w.heap.size, 0, 0, 0⟩ .iter := ⟨rfl, some ib.rb, clock, #[], clock, heap_alloc_new w _⟩
      obtain ⟨hw2, hx2⟩ := hw.alloc (i := ⟨w.heap.size, 0, 0, 0⟩) rfl hk
      have hself : (φ.add H1.next ⟨w.heap.size, 0, 0, 0⟩) H1.next = some ⟨w.heap.size, 0, 0, 0⟩ := if_pos rfl
      have hib2 : (φ.add H1.next ⟨w.heap.size, 0, 0, 0⟩) b = some ib := by
        show (if b = H1.next then _ else φ b) = _
        rw [if_neg (by omega)]; exact hib
      refine wpOpsIn_val hF hor hg (fun c hc => by rw [hop] at hc; cases hc) (v := .pointer (some ⟨w.heap.size, 0, none⟩)) (w' := w.alloc (.mapIter (some ib.rb) clock #[] clock)) ?_ ?_
      · unfold execOp
        rw [hop]
        show (do pure (Next.value (← Instr.range t (a.eval x)))).run P w = _
        rw [hxv]
        exact run_v (run_range_map w t kt et ib.rb es clock hu q1)
      rw [hd]
      show (Code.block D.bid (.loop D.body)).wpIn F 0 P (APost rf φ0 H w0 a0 K) (a.put (some D.ti) (.pointer (some ⟨w.heap.size, 0, none⟩))) (w.alloc (.mapIter (some ib.rb) clock #[] clock))
      have ha2 : ARel (φ.add H1.next ⟨w.heap.size, 0, 0, 0⟩) (e1.put (some D.ti) (.pointer (some ⟨H1.next, 0, none⟩))) (a.put (some D.ti) (.pointer (some ⟨w.heap.size, 0, none⟩))) :=
        (ha.mono hx2.phi).put (fun s hs => by obtain rfl := Option.some.inj hs; rw [hn]; exact hti) (VR.ptr H1.next 0 ⟨w.heap.size, 0, 0, 0⟩ hself)
      have hborn : ∀ y ∈ es.toList, y.born < clock := fun y hy => by
        obtain ⟨j, hj⟩ := List.mem_iff_getElem?.1 hy
        exact hA3 j y (by simpa using hj)
      have hnd : (es.toList.map (·.born)).Nodup := by
        refine List.pairwise_iff_getElem.2 fun i j hi hj hij => ?_
        simp only [List.getElem_map]
        have hi' : i < es.size := by simpa using hi
        have hj' : j < es.size := by simpa using hj
        have := hA4 i j es[i] es[j] (by simp [hi']) (by simp [hj']) hij
        simp only [Array.getElem_toList]
        omega
      have hleft : LeftR (φ.add H1.next ⟨w.heap.size, 0, 0, 0⟩) m (leftOf es #[]).toList := by
        have : (leftOf es #[]) = es := by unfold leftOf; simp
        rw [this]
        exact ⟨m0, hperm, by simpa using hA1, fun k x hx => by
          obtain ⟨y, hy, p, q⟩ := hA2 k x hx
          exact ⟨y, by simpa using hy, p.mono hx2.phi, q.mono hx2.phi⟩⟩
      refine wpIn_block ?_
      intro fr k cs hro hfn hroom
      obtain ⟨ex', a', w', ⟨ex, e', H', φ', kk', s1, s2, s4, s5, s6, s7⟩, harr⟩ := mapLoop_head hF hrf hD (b := b) (it := H1.next) (m := m) (I := I) (K := K) (by omega) hstep hend hborn hnd m.length m (e1.put (some D.ti) (.pointer (some ⟨H1.next, 0, none⟩))) (H1.alloc .iter)
        (φ.add H1.next ⟨w.heap.size, 0, 0, 0⟩) (a.put (some D.ti) (.pointer (some ⟨w.heap.size, 0, none⟩))) (w.alloc (.mapIter (some ib.rb) clock #[] clock)) ib ⟨w.heap.size, 0, 0, 0⟩ #[] clock rfl hI
        (by rw [alloc_get, if_neg (by omega)]; exact hb) (by rw [alloc_get, if_pos rfl]) (by simp [eget, Env.put]) hn ha2 hw2 hib2 hself ((heap_alloc_old w _ (hw.lt hb hib)).trans q1) (heap_alloc_new w _) (Nat.le_refl _) hleft fr k cs hro hfn hroom
      have hxt := (hx.trans hx2).trans s5
      have hdt : DM rf w0 w' a0.defers a'.defers := by
        have s6' : DM rf (w.alloc (.mapIter (some ib.rb) clock #[] clock)) w' a.defers a'.defers := by
          rw [Act.put_defers'] at s6; exact s6
        exact hdm.trans hw hx.size (hx2.trans s5) (s6'.drop_mid hx2.size)
      have hst : a'.tmps.size = a0.tmps.size := by rw [s7, Act.put_size]; exact hs
      refine ⟨ex', a', w', ?_, .of_steps (.one (fenced_calm hfn hroom rfl) stepR_loop) harr⟩
      cases ex with
      | normal => exact kk'.elim
      | exit j =>
        cases ex' <;> simp only [XR] at s1
        subst s1
        simp only [Exit.inBlock]
        simp only at kk'
        split
        · rename_i hj
          rw [if_pos hj] at kk'
          exact ⟨.normal, e', H', φ', kk', trivial, s2, s4, hxt, hdt, hst⟩
        · rename_i hj
          rw [if_neg hj] at kk'
          exact ⟨.exit j, e', H', φ', kk', rfl, s2, s4, hxt, hdt, hst⟩
      | ret => cases ex' <;> simp only [XR] at s1; exact ⟨.ret, e', H', φ', kk', trivial, s2, s4, hxt, hdt, hst⟩
      | panic ch => cases ex' <;> simp only [XR] at s1; exact ⟨.panic ch, e', H', φ', kk', s1, s2, s4, hxt, hdt, hst⟩
end

end Go.Lift
