import Derived.Test.YtdmhefbbicadnaaGreatX16
import Derived.Lib.SlKeysI
import Derived.Below
/-! The keys of a map, sorted: what the library's contract says of it, over abstract heaps. -/
namespace Go.Lift
open Go.MapKept Go.WideShapes Go.RowKit Go.Maps
open Go.WideElems (Fit rd rg)

/-- Later worlds in which all that was there stands as it stood. -/
theorem HR.below {φ : Phi} {H : Heap} {w w' : World} (h : HR φ H w) (hb : Below w.heap.size w w') : HR φ H w' ∧ Ext φ H w φ H w' := by
  refine ⟨⟨h.zero, h.pos, h.fresh, fun b k e => ?_, h.sep⟩, ⟨Phi.le_refl _, hb.size, fun r hr _ => hb.block r hr, fun _ _ => rfl, fun b k i h1 h3 => .inr ⟨b, k, i, h1, id, h3, rfl⟩, fun _ _ _ h => h, Nat.le_refl _, hb.os, hb.output⟩⟩
  obtain ⟨i, hi, q⟩ := h.dom b k e
  exact ⟨i, hi, q.mono (Phi.le_refl _) (hb.block _ q.lt)⟩

/-- A block that the run has made is taken note of. -/
theorem HR.adopt {φ : Phi} {H : Heap} {w w' : World} (h : HR φ H w) (hb : Below w.heap.size w w') {k : Blk} {i : BI} (hi : w.heap.size ≤ i.rb) (hk : BlkR (φ.add H.next i) w' i k) :
    HR (φ.add H.next i) (H.alloc k) w' ∧ Ext φ H w (φ.add H.next i) (H.alloc k) w' := by
  obtain ⟨h', hx⟩ := h.below hb
  have hle : φ.le (φ.add H.next i) := Phi.le_add h.no_next
  refine ⟨⟨?_, Nat.succ_pos _, ?_, ?_, ?_⟩, ⟨hle, hb.size, fun r hr _ => hb.block r hr, fun x hx => if_neg (Nat.ne_of_lt hx), ?_, ?_, Nat.le_succ _, hb.os, hb.output⟩⟩
  · unfold Phi.add; rw [if_neg (Nat.ne_of_lt h.pos)]; exact h.zero
  · intro b j e
    unfold Phi.add at e
    show b < H.next + 1
    split at e
    · omega
    · have := h.fresh b j e; omega
  · intro b kk e
    rw [alloc_get] at e
    split at e
    · rename_i hbn
      obtain rfl : k = kk := Option.some.inj e
      exact ⟨i, by simp [Phi.add, hbn], hk⟩
    · rename_i hbn
      obtain ⟨j, hj, r⟩ := h'.dom b kk e
      exact ⟨j, by simp [Phi.add, hbn, hj], r.mono hle rfl⟩
  · intro b b' k1 k2 i1 i2 e1 e2 p1 p2 hne hrw
    rw [alloc_get] at e1 e2
    unfold Phi.add at p1 p2
    by_cases hbn : b = H.next
    · by_cases hbn' : b' = H.next
      · exact absurd (hbn.trans hbn'.symm) hne
      · rw [if_pos hbn] at p1; rw [if_neg hbn'] at p2 e2
        obtain rfl : i = i1 := Option.some.inj p1
        have := h.lt e2 p2
        omega
    · rw [if_neg hbn] at p1 e1
      by_cases hbn' : b' = H.next
      · rw [if_pos hbn'] at p2
        obtain rfl : i = i2 := Option.some.inj p2
        have := h.lt e1 p1
        omega
      · rw [if_neg hbn'] at p2 e2
        exact h.sep b b' k1 k2 i1 i2 e1 e2 p1 p2 hne hrw
  · intro b k1 i1 e1 p1
    rw [alloc_get] at e1
    unfold Phi.add at p1
    by_cases hbn : b = H.next
    · rw [if_pos hbn] at p1
      obtain rfl : i = i1 := Option.some.inj p1
      exact .inl hi
    · rw [if_neg hbn] at p1 e1
      exact .inr ⟨b, k1, i1, e1, id, p1, rfl⟩
  · intro b es c e
    have := h.get_lt e
    rw [alloc_get, if_neg (by omega)]
    exact e

/-- What the library's contract says of slices.Sorted at maps.Keys. -/
def SortedLaw (P : Program) (fS gk : FuncId) (kt : TypeId) : Prop :=
  ∀ (w : World) (Bm b nn : Nat) (D0 : DataW Unit), Bm < w.heap.size → w.cell? ⟨Bm, 0, none⟩ = some (.map (some b)) → w.ownsMap P kt (fun _ => some (.nil, [])) b nn D0 → Maps.size D0 ≤ maxLen → Maps.size D0 * 8 ≤ 140737488355328 →
    Calls P fS #[.func (.func gk) #[] #[.pointer (some ⟨Bm, 0, none⟩)]] w fun e w' => ∃ (v : Value) (ss : List Int) (te : TypeId), e = .returned v ∧ ss.Perm (intKeys D0) ∧
      w'.ownsRow w.heap.size te 1 v ss.length ((ss.mergeSort (fun x y => decide (x ≤ y))).map encZ) ∧ (v = .slice none 0 0 ↔ ss = []) ∧ Below w.heap.size w w'

def ins (a : Int) : List Int → List Int
  | [] => [a]
  | b :: l => match flt b a with
    | true => b :: ins a l
    | false => a :: b :: l

def isort : List Int → List Int
  | [] => []
  | a :: l => ins a (isort l)

theorem ins_perm (a : Int) : ∀ l, (ins a l).Perm (a :: l)
  | [] => .refl _
  | b :: l => by
    unfold ins
    cases flt b a
    · exact .refl _
    · exact ((ins_perm a l).cons b).trans (.swap _ _ _)

theorem isort_perm : ∀ l, (isort l).Perm l
  | [] => .refl _
  | a :: l => (ins_perm a _).trans ((isort_perm l).cons a)

theorem ins_sorted (a : Int) : ∀ l : List Int, l.Pairwise (· ≤ ·) → (ins a l).Pairwise (· ≤ ·)
  | [], _ => by simp [ins]
  | b :: l, h => by
    obtain ⟨h1, h2⟩ := List.pairwise_cons.1 h
    unfold ins
    have hf := flt_eq b a
    cases hb : flt b a with
    | true =>
      rw [hb] at hf
      have hba : b < a := by simpa using hf.symm
      refine List.pairwise_cons.2 ⟨fun x hx => ?_, ins_sorted a l h2⟩
      rcases List.mem_cons.1 ((ins_perm a l).subset hx) with rfl | hx
      · omega
      · exact h1 x hx
    | false =>
      rw [hb] at hf
      have hba : ¬ b < a := by simpa using hf.symm
      refine List.pairwise_cons.2 ⟨fun x hx => ?_, h⟩
      rcases List.mem_cons.1 hx with rfl | hx
      · omega
      · have := h1 x hx; omega

theorem isort_sorted : ∀ l, (isort l).Pairwise (· ≤ ·)
  | [] => .nil
  | a :: l => ins_sorted a _ (isort_sorted l)

theorem isort_merge {l ss : List Int} (h : ss.Perm l) : isort l = ss.mergeSort (fun x y => decide (x ≤ y)) := by
  refine List.Perm.eq_of_pairwise (le := (· ≤ ·)) (fun a b _ _ h1 h2 => by omega) (isort_sorted l) ?_ ((isort_perm l).trans (h.symm.trans (List.mergeSort_perm _ _).symm))
  have := List.pairwise_mergeSort (le := fun x y : Int => decide (x ≤ y)) (fun a b c h1 h2 => by simp at h1 h2 ⊢; omega) (fun a b => by simp; omega) ss
  exact this.imp fun h => by simpa using h

def keysOf : List (Value × Value) → Option (List Int)
  | [] => some []
  | (.int .i64 n, _) :: l => (match flt n 9223372036854775808, flt n (-9223372036854775808), keysOf l with
    | true, false, some r => some (n :: r)
    | _, _, _ => none)
  | _ => none

theorem keysOf_s : ∀ {m : List (Value × Value)} {ks : List Int}, keysOf m = some ks → m.map (·.1) = ks.map encZ ∧ ∀ k ∈ ks, (Lit.int .i64 k).wf = true
  | [], ks, h => by
    simp only [keysOf, Option.some.injEq] at h
    subst h
    exact ⟨rfl, by simp⟩
  | (.int .i64 n, v) :: m, ks, h => by
    unfold keysOf at h
    split at h
    · rename_i r h1 h2 h3
      obtain rfl := Option.some.inj h
      obtain ⟨g1, g2⟩ := keysOf_s h3
      refine ⟨by simp [g1], fun k hk => ?_⟩
      rcases List.mem_cons.1 hk with rfl | hk
      · rw [flt_eq] at h1 h2
        simp only [decide_eq_true_eq, decide_eq_false_iff_not] at h1 h2
        have e1 : IntKind.i64.min = -9223372036854775808 := rfl
        have e2 : IntKind.i64.max = 9223372036854775807 := rfl
        simp only [Lit.wf, e1, e2, Bool.and_eq_true, decide_eq_true_eq]
        omega
      · exact g2 k hk
    · cases h
  | (.int .i8 _, _) :: _, _, h => by simp [keysOf] at h
  | (.int .i16 _, _) :: _, _, h => by simp [keysOf] at h
  | (.int .i32 _, _) :: _, _, h => by simp [keysOf] at h
  | (.int .u8 _, _) :: _, _, h => by simp [keysOf] at h
  | (.int .u16 _, _) :: _, _, h => by simp [keysOf] at h
  | (.int .u32 _, _) :: _, _, h => by simp [keysOf] at h
  | (.int .u64 _, _) :: _, _, h => by simp [keysOf] at h
  | (.bool _, _) :: _, _, h => by simp [keysOf] at h
  | (.float _ _, _) :: _, _, h => by simp [keysOf] at h
  | (.complex _ _ _, _) :: _, _, h => by simp [keysOf] at h
  | (.string _, _) :: _, _, h => by simp [keysOf] at h
  | (.pointer _, _) :: _, _, h => by simp [keysOf] at h
  | (.slice _ _ _, _) :: _, _, h => by simp [keysOf] at h
  | (.map _, _) :: _, _, h => by simp [keysOf] at h
  | (.chan _, _) :: _, _, h => by simp [keysOf] at h
  | (.func _ _ _, _) :: _, _, h => by simp [keysOf] at h
  | (.nilFunc, _) :: _, _, h => by simp [keysOf] at h
  | (.nilIface, _) :: _, _, h => by simp [keysOf] at h
  | (.iface _ _, _) :: _, _, h => by simp [keysOf] at h
  | (.agg _, _) :: _, _, h => by simp [keysOf] at h
  | (.tuple _, _) :: _, _, h => by simp [keysOf] at h

def sortedO (gk : FuncId) (args : List Value) (T : VS) : Option (AEnd × VS) :=
  match args with
  | [.func (.func g) x y] => (match g == gk, x.toList, y.toList with
    | true, [], [.pointer (some ⟨c, 0, none⟩)] => (match T.get c with
      | some (.cells false 0 (.map (some b) :: _)) => (match T.get b with
        | some (.map m) => (match keysOf m, Nat.ble m.length 1048576 with
          | some ks, true => (match isort ks with
            | [] => some (.returned (.slice none 0 0), T)
            | k :: s => some (.returned (.slice (some ⟨T.next, 0, none⟩) (s.length + 1) (s.length + 2)), T.alloc (.cells false 1 ((k :: s).map encZ))))
          | _, _ => none)
        | _ => none)
      | _ => none)
    | _, _, _ => none)
  | _ => none

theorem sortedO_s {P : Program} {fS gk : FuncId} {kt : TypeId} (hL : SortedLaw P fS gk kt) (hkt : P.underlying kt = some (.int .i64)) {args : List Value} {T : VS} {en : AEnd} {T' : VS} (h : sortedO gk args T = some (en, T'))
    (K : AEnd → Heap → Prop) (hk : K en T'.den) : acall P fS args T.den K := by
  intro φ args' w hargs hw
  unfold sortedO at h
  split at h
  case h_2 => cases h
  rename_i g x y
  split at h
  case h_2 => cases h
  rename_i c hg hx hy
  have hg : g = gk := by simpa using hg
  subst hg
  split at h
  case h_2 => cases h
  rename_i b cs hc
  split at h
  case h_2 => cases h
  rename_i m hm
  split at h
  case h_2 => cases h
  rename_i ks hks hlen
  have hlen : m.length ≤ 1048576 := Nat.le_of_ble_eq_true hlen
  obtain ⟨v', rest, rfl, hv, hr⟩ := hargs.inv_cons
  obtain rfl := hr.inv_nil
  have hc : T.den.get c = _ := hc
  have hm : T.den.get b = _ := hm
  cases hv with
  | func _ _ x' _ y' hxs hys ex ey =>
    have hx2 := VRs.of_arr hxs ex
    have hy2 := VRs.of_arr hys ey
    rw [hx] at hx2
    rw [hy] at hy2
    have hx' : x' = #[] := by rw [← Array.toList_inj]; exact hx2.inv_nil
    obtain ⟨p', yr, hye, hp, hyr⟩ := hy2.inv_cons
    obtain rfl := hyr.inv_nil
    have hy' : y' = #[p'] := by rw [← Array.toList_inj]; exact hye
    subst hx'
    subst hy'
    cases hp with
    | ptr _ _ ic hic =>
      obtain ⟨ic', hic', rc, elem, fz, q1, q2, q3, q4, q5⟩ := hw.dom c _ hc
      obtain rfl : ic = ic' := by rw [hic] at hic'; exact Option.some.inj hic'
      have hoff := q5 rfl
      obtain ⟨mv, hmv, hmr⟩ := q2 0 _ rfl
      rw [hoff] at hmv
      cases hmr with
      | map _ ib hib =>
        obtain ⟨es, clock, r1, m0, hperm, hpw, hA1, hA2, hA3, hA4⟩ := hw.map hm hib
        -- the real keys
        obtain ⟨k1, k2⟩ := keysOf_s hks
        have hkeys : ∀ e ∈ es.toList, ∃ n, e.key = encZ n ∧ (Lit.int .i64 n).wf = true := by
          intro e he
          obtain ⟨j, hj⟩ := List.mem_iff_getElem?.1 he
          have hjl : j < m0.length := by
            have := (List.getElem?_eq_some_iff.1 hj).1
            rw [hA1]; simpa using this
          obtain ⟨e', he', hkr, _⟩ := hA2 j m0[j] (List.getElem?_eq_getElem hjl)
          have : e' = e := by
            have hj2 : es[j]? = some e := by simpa using hj
            rw [he'] at hj2
            exact Option.some.inj hj2
          subst this
          have hmem : m0[j] ∈ m := hperm.subset (List.getElem_mem hjl)
          have : m0[j].1 ∈ m.map (·.1) := List.mem_map.2 ⟨_, hmem, rfl⟩
          rw [k1] at this
          obtain ⟨n, hn, he⟩ := List.mem_map.1 this
          rw [← he] at hkr
          generalize e'.key = kk at hkr
          cases hkr
          exact ⟨n, rfl, k2 n hn⟩
        have hrd : ∀ e ∈ es.toList, ∃ n, e.key = encZ n ∧ rd (H := Unit) P kt (fun _ => some (.nil, [])) e = some (.int .i64 n, .nil) := by
          intro e he
          obtain ⟨n, h1, h2⟩ := hkeys e he
          refine ⟨n, h1, ?_⟩
          simp [rd, h1, encZ, keyOf_int_mk hkt h2]
        have hborn : ∀ e ∈ es.toList, e.born < clock := fun e he => by
          obtain ⟨j, hj⟩ := List.mem_iff_getElem?.1 he
          exact hA3 j e (by simpa using hj)
        have hnd : (es.toList.map (·.born)).Nodup := by
          refine List.pairwise_iff_getElem.2 fun i j hi hj hij => ?_
          simp only [List.getElem_map]
          have hi' : i < es.size := by simpa using hi
          have hj' : j < es.size := by simpa using hj
          have := hA4 i j es[i] es[j] (by simp [hi']) (by simp [hj']) hij
          simp only [Array.getElem_toList]
          omega
        -- the keys, abstract and real
        have hkl : es.toList.map (·.key) = m0.map (·.1) := by
          apply List.ext_getElem?
          intro j
          rw [List.getElem?_map, List.getElem?_map]
          cases hj : m0[j]? with
          | none =>
            have : es.toList[j]? = none := by
              rw [List.getElem?_eq_none_iff] at hj ⊢
              simp only [Array.length_toList]
              omega
            rw [this]
            rfl
          | some z =>
            obtain ⟨e', he', hkr, _⟩ := hA2 j z hj
            have : es.toList[j]? = some e' := by simpa using he'
            rw [this]
            simp only [Option.map_some, Option.some.injEq]
            have hmem : z ∈ m := hperm.subset (List.mem_of_getElem? hj)
            have : z.1 ∈ m.map (·.1) := List.mem_map.2 ⟨_, hmem, rfl⟩
            rw [k1] at this
            obtain ⟨n, _, he⟩ := List.mem_map.1 this
            rw [← he] at hkr ⊢
            generalize e'.key = kk at hkr
            cases hkr
            rfl
        have hknd : (es.toList.map (·.key)).Nodup := by
          rw [hkl]
          have : (m0.map (·.1)).Pairwise keyPW := List.pairwise_map.2 ((hperm.pairwise_iff fun {a b} h => keyPW_symm h).2 hpw)
          refine this.imp fun {a b} hab e => ?_
          subst e
          cases a <;> simp [keyPW] at hab
        have hsz : es.size ≤ 1048576 := by rw [← hA1, hperm.length_eq]; exact hlen
        let D0 : DataW Unit := .map ((es.toList.map (rg P kt fun _ => some (.nil, []))).foldr DataW.insert [])
        have hown : w.ownsMap P kt (fun _ => some (.nil, [])) ib.rb es.size D0 := by
          refine ⟨es, clock, r1, ⟨?_, ⟨hborn, hnd, hknd⟩, fun e he => ?_⟩, Nat.le_refl _, rfl⟩
          · exact Nat.le_trans hsz (by decide)
          · obtain ⟨n, _, h2⟩ := hrd e he
            exact ⟨_, h2⟩
        have hsize : Maps.size D0 = es.size := by
          show ((es.toList.map (rg P kt fun _ => some (.nil, []))).foldr DataW.insert []).length = es.size
          rw [length_sorted]; simp
        have hint : (intKeys D0).Perm ks := by
          show (((es.toList.map (rg P kt fun _ => some (.nil, []))).foldr DataW.insert []).map fun p => intOf p.1).Perm ks
          refine ((sorted_perm _).map _).trans ?_
          have e1 : ((es.toList.map (rg (H := Unit) P kt fun _ => some (.nil, []))).map fun p => intOf p.1).map encZ = es.toList.map (·.key) := by
            rw [List.map_map, List.map_map]
            refine List.map_congr_left fun e he => ?_
            obtain ⟨n, h1, h2⟩ := hrd e he
            simp only [Function.comp, rg, h2, Option.getD_some, intOf, h1]
          have e2 : (((es.toList.map (rg (H := Unit) P kt fun _ => some (.nil, []))).map fun p => intOf p.1).map encZ).Perm (ks.map encZ) := by
            rw [e1, hkl, ← k1]
            exact hperm.map _
          have hid : ∀ l : List Int, (l.map encZ).map (fun v : Value => match v with | .int _ n => n | _ => 0) = l := by
            intro l
            induction l with
            | nil => rfl
            | cons a l ih => simp only [List.map_cons, ih]
          have e3 := e2.map fun v : Value => match v with | .int _ n => n | _ => 0
          rw [hid, hid] at e3
          exact e3
        have hcell : w.cell? ⟨ic.rb, 0, none⟩ = some (.map (some ib.rb)) := by
          simp only [World.cell?, q1]
          simpa using hmv
        have hlaw := hL w ic.rb ib.rb es.size D0 (hw.lt hc hic) hcell hown (by rw [hsize]; exact Nat.le_trans hsz (by decide)) (by rw [hsize]; omega)
        have hz : (⟨ic.rb, ic.off + 0, none⟩ : Addr) = ⟨ic.rb, 0, none⟩ := by rw [hoff]
        rw [hz]
        refine hlaw.mono ?_
        rintro e w' ⟨v, ss, te, rfl, hss, hrow, hnil, hbel⟩
        have hsort := isort_merge (hss.trans hint)
        split at h
        · rename_i hs0
          simp only [Option.some.injEq, Prod.mk.injEq] at h
          obtain ⟨rfl, rfl⟩ := h
          have hss0 : ss = [] := by
            have h1 := (List.mergeSort_perm ss (fun x y => decide (x ≤ y))).length_eq
            rw [← hsort, hs0] at h1
            exact List.eq_nil_of_length_eq_zero h1.symm
          obtain rfl := hnil.2 hss0
          obtain ⟨g1, g2⟩ := hw.below hbel
          exact ⟨_, _, φ, hk, .nilsl, g1, g2⟩
        · rename_i k0 s hs1
          simp only [Option.some.injEq, Prod.mk.injEq] at h
          obtain ⟨rfl, rfl⟩ := h
          have hll : ss.length = s.length + 1 := by
            have h1 := (List.mergeSort_perm ss (fun x y => decide (x ≤ y))).length_eq
            rw [← hsort, hs1] at h1
            simpa using h1.symm
          rw [← hsort, hs1] at hrow
          obtain ⟨_, ⟨_, hz0⟩ | ⟨gb, cap, cur, rfl, hbase, hgb, p1, p2, p3, p4⟩⟩ := hrow
          · omega
          · rw [Nat.mul_one] at p3 p4
            have hp4 : ∀ (j : Nat) (z : Value), ((k0 :: s).map encZ)[j]? = some z → cur[j]? = some z := by
              intro j z hz
              rw [← p4, List.getElem?_take] at hz
              split at hz
              · simpa using hz
              · cases hz
            have hblk : BlkR (φ.add T.den.next ⟨gb, 0, cur.size, 1⟩) w' ⟨gb, 0, cur.size, 1⟩ (.cells false 1 ((k0 :: s).map encZ)) := by
              refine ⟨cur, te, (0, 0), hgb, fun j z hz => ⟨z, ?_, ?_⟩, fun _ => ⟨rfl, ?_, .inl rfl⟩, rfl, fun q => by cases q⟩
              · rw [Nat.zero_add]; exact hp4 j z hz
              · obtain ⟨n, _, rfl⟩ := List.mem_map.1 (List.mem_of_getElem? hz)
                exact .int _ _
              · simp only [List.length_map, List.length_cons]; omega
            obtain ⟨g1, g2⟩ := hw.adopt hbel (i := ⟨gb, 0, cur.size, 1⟩) hbase hblk
            rw [VS.den_alloc] at g1 g2
            refine ⟨_, _, _, hk, ?_, g1, g2⟩
            rw [hll]
            have := VR.sl (φ := φ.add T.den.next ⟨gb, 0, cur.size, 1⟩) T.den.next 0 (s.length + 1) (s.length + 2) cap ⟨gb, 0, cur.size, 1⟩ (by simp [Phi.add]) (by omega) (by omega) (by simp only; omega)
            exact this

end Go.Lift
