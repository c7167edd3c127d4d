import Derived.Test.YtdmhefbbicadnaaGreatL7
/-! The lifted logic, part 8: maps that are written, conversions, interfaces, functions as values. -/
namespace Go.Lift

theorem HR.setMap {φ : Phi} {H : Heap} {w : World} (h : HR φ H w) {b : Nat} {m m' : List (Value × Value)} {i : BI} (e : H.get b = some (.map m)) (hi : φ b = some i) {es' : Array MapEntry} {clock' : Nat}
    (hm : MapR φ m' es' clock') :
    HR φ (H.set b (.map m')) { w with heap := w.heap.setIfInBounds i.rb (.map es' clock') } ∧ Ext φ H w φ (H.set b (.map m')) { w with heap := w.heap.setIfInBounds i.rb (.map es' clock') } := by
  have hlt := h.lt e hi
  have hsame : ({ w with heap := w.heap.setIfInBounds i.rb (.map es' clock') } : World).heap[i.rb]? = some (.map es' clock') := by simp [hlt]
  have hne : ∀ r, i.rb ≠ r → ({ w with heap := w.heap.setIfInBounds i.rb (.map es' clock') } : World).heap[r]? = w.heap[r]? := fun r hr => by simp [Array.getElem?_setIfInBounds_ne hr]
  constructor
  · refine ⟨h.zero, h.pos, h.fresh, ?_, ?_⟩
    · intro x k ex
      rw [set_get] at ex
      by_cases hx : x = b
      · rw [if_pos hx] at ex
        obtain rfl := Option.some.inj ex
        exact ⟨i, hx ▸ hi, es', clock', hsame, hm⟩
      · rw [if_neg hx] at ex
        obtain ⟨j, hj, r⟩ := h.dom x k ex
        exact ⟨j, hj, r.mono (Phi.le_refl _) (hne _ (h.sep b x (.map m) k i j e ex hi hj (fun q => hx q.symm) rfl))⟩
    · intro x y k1 k2 i1 i2 ex ey p1 p2 hxy hrw
      have g : ∀ x k, (H.set b (.map m')).get x = some k → ∃ k0, H.get x = some k0 ∧ k0.rw = k.rw := by
        intro x k hx
        rw [set_get] at hx
        by_cases hb : x = b
        · rw [if_pos hb] at hx
          obtain rfl := Option.some.inj hx
          exact ⟨.map m, hb ▸ e, rfl⟩
        · rw [if_neg hb] at hx; exact ⟨k, hx, rfl⟩
      obtain ⟨k1', g1, r1⟩ := g _ _ ex
      obtain ⟨k2', g2, _⟩ := g _ _ ey
      exact h.sep x y k1' k2' i1 i2 g1 g2 p1 p2 hxy (r1.trans hrw)
  · refine ⟨Phi.le_refl _, by simp, ?_, fun _ _ => rfl, ?_, ?_, Nat.le_refl _, rfl, rfl⟩
    · intro r hr hn
      exact hne r (hn b _ i e rfl hi)
    · intro x k1 i1 e1 p1
      rw [set_get] at e1
      by_cases hb : x = b
      · rw [hb] at p1
        exact .inr ⟨b, _, i, e, fun _ => rfl, hi, by rw [hi] at p1; exact congrArg BI.rb (Option.some.inj p1)⟩
      · rw [if_neg hb] at e1; exact .inr ⟨x, k1, i1, e1, id, p1, rfl⟩
    · intro x es1 c1 e1
      rw [set_get, if_neg (by rintro rfl; rw [e] at e1; cases e1)]
      exact e1

def amakeMap (H : Heap) (K : Value → Heap → Prop) : Prop := K (.map (some H.next)) (H.alloc (.map []))

theorem amakeMap_sound {P : Program} {t : TypeId} {H : Heap} {K : Value → Heap → Prop} {φ : Phi} {w : World} (h : amakeMap H K) (hw : HR φ H w) :
    ∃ u' w', (Instr.makeMap t none).run P w = .ok u' w' ∧ ∃ u H' φ', K u H' ∧ VR φ' u u' ∧ HR φ' H' w' ∧ Ext φ H w φ' H' w' := by
  have hk : BlkR (φ.add H.next ⟨w.heap.size, 0, 0, 0⟩) (w.alloc (.map #[] 0)) ⟨w.heap.size, 0, 0, 0⟩ (.map []) := by
    refine ⟨#[], 0, ?_, [], .refl _, .nil, rfl, fun k x hx => by simp at hx, fun j y hy => by simp at hy, fun j k y z hy => by simp at hy⟩
    show (w.heap.push _)[w.heap.size]? = _
    rw [Array.getElem?_push, if_pos rfl]
  obtain ⟨r1, r2⟩ := hw.alloc (i := ⟨w.heap.size, 0, 0, 0⟩) rfl hk
  refine ⟨.map (some w.heap.size), w.alloc (.map #[] 0), rfl, _, _, _, h, ?_, r1, r2⟩
  exact VR.map (φ := φ.add H.next ⟨w.heap.size, 0, 0, 0⟩) H.next ⟨w.heap.size, 0, 0, 0⟩ (by simp [Phi.add])

/-- An entry is stored. -/
def mput (m : List (Value × Value)) (k v : Value) : Option (Nat × Value) → List (Value × Value)
  | some (j, _) => m.set j (k, v)
  | none => m ++ [(k, v)]

def amapUpdate (P : Program) (t : TypeId) (x k v : Value) (H : Heap) (K : Heap → Prop) : Prop :=
  match P.underlying t, x with
  | some (.map kt _), .map (some b) =>
    (match P.underlying kt with
    | some kd => plainKey kd = true ∧
      (match H.get b with
      | some (.map m) => (match afind kd k m 0 with
        | some r => K (H.set b (.map (mput m k v r)))
        | none => False)
      | _ => False)
    | none => False)
  | _, _ => False

theorem ba_eq {a b : ByteArray} (h : (a == b) = true) : a = b := by
  obtain ⟨x⟩ := a
  obtain ⟨y⟩ := b
  have : x = y := Array.eq_of_isEqv x y (by simpa [BEq.beq, ByteArray.beq] using h)
  rw [this]

theorem now_true {kd : TypeDesc} {k a : Value} (h : Instr.sameNow kd k a = some true) : k = a := by
  unfold Instr.sameNow at h
  split at h
  · split at h
    · rename_i hk
      simp at h
      rw [hk, h]
    · cases h
  · rw [ba_eq (Option.some.inj h)]
  · simp at h; rw [h]
  · cases h

theorem pw_set {kd : TypeDesc} {k v u : Value} {m : List (Value × Value)} {j : Nat} (hpw : m.Pairwise (fun x y => keyPW x.1 y.1)) (hf : afind kd k m 0 = some (some (j, u))) : (m.set j (k, v)).Pairwise (fun x y => keyPW x.1 y.1) := by
  obtain ⟨_, e, h1, h2, h3⟩ := afind_hit hf
  rw [Nat.sub_zero] at h1
  have hk := now_true h2
  have h4 : (m.map (·.1)).Pairwise keyPW := List.pairwise_map.2 hpw
  have h5 : (m.set j (k, v)).map (·.1) = m.map (·.1) := by
    apply List.ext_getElem?
    intro i
    rw [List.getElem?_map, List.getElem?_map, List.getElem?_set]
    split
    · rename_i hji
      subst hji
      rw [h1]
      have := (List.getElem?_eq_some_iff.1 h1).1
      simp [this, hk]
    · rfl
  exact List.pairwise_map.1 (h5 ▸ h4)

theorem sameBits_of_now {kd : TypeDesc} {a b : Value} (h : Instr.sameNow kd a b = some true) (n : Nat) : Instr.sameBits n b a = true := by
  unfold Instr.sameNow at h
  split at h
  · split at h
    · rename_i hk
      simp only [Option.some.injEq, beq_iff_eq] at h
      subst hk; subst h
      simp [Instr.sameBits]
    · cases h
  · simp only [Option.some.injEq] at h
    have := ba_eq h
    subst this
    simpa [Instr.sameBits] using h
  · simp only [Option.some.injEq, beq_iff_eq] at h; subst h; simp [Instr.sameBits]
  · cases h

theorem findNow_same {kd : TypeDesc} {k : Value} : ∀ {es : List MapEntry} {i j : Nat} {v : Value}, Instr.findNow kd k es i = some (some (j, v)) →
    i ≤ j ∧ ∃ y, es[j - i]? = some y ∧ Instr.sameNow kd k y.key = some true ∧ y.val = v
  | [], i, j, v, h => by simp [Instr.findNow] at h
  | e :: es, i, j, v, h => by
    simp only [Instr.findNow] at h
    split at h
    · rename_i hs
      simp only [Option.some.injEq, Prod.mk.injEq] at h
      obtain ⟨rfl, rfl⟩ := h
      exact ⟨Nat.le_refl _, e, by simp, hs, rfl⟩
    · obtain ⟨h1, y, h2, h3⟩ := findNow_same h
      refine ⟨by omega, y, ?_, h3⟩
      rw [show j - i = (j - (i + 1)) + 1 by omega]
      simpa using h2
    · cases h

theorem run_setObj {P : Program} {w : World} {r : Nat} {o o' : Obj} (h : w.heap[r]? = some o) (hc : ∀ c e f, o ≠ .cells c e f) : (setObj r o').run P w = .ok () { w with heap := w.heap.setIfInBounds r o' } := by
  simp only [setObj, Sem.run, h]

theorem amapUpdate_sound {P : Program} {t : TypeId} {x x' k k' v v' : Value} {H : Heap} {K : Heap → Prop} {φ : Phi} {w : World} (h : amapUpdate P t x k v H K)
    (hx : VR φ x x') (hk : VR φ k k') (hv : VR φ v v') (hw : HR φ H w) :
    ∃ w', (Instr.mapUpdate t x' k' v').run P w = .ok () w' ∧ ∃ H', K H' ∧ HR φ H' w' ∧ Ext φ H w φ H' w' := by
  unfold amapUpdate at h
  split at h
  · rename_i kt et b hu
    cases hx
    rename_i i hi
    split at h
    · rename_i kd hkd
      obtain ⟨hp, h⟩ := h
      split at h
      · rename_i m hm
        obtain ⟨es, clock, q1, m0, hperm, hpw, q2, q3, q4, q5⟩ := hw.map hm hi
        have hget := run_getObj (P := P) q1 (by intros; simp)
        have q2' : m0.length = es.toList.length := by simpa using q2
        have q3' : ∀ (j : Nat) (x : Value × Value), m0[j]? = some x → ∃ y : MapEntry, es.toList[j]? = some y ∧ VR φ x.1 y.key ∧ VR φ x.2 y.val := fun j x hx => by simpa using q3 j x hx
        split at h
        · rename_i r hf
          cases r with
          | none =>
            have g1 : Instr.findNow kd k' es.toList 0 = some none := afind_sound (φ := φ) hk (afind_perm hperm hpw hf) q2' q3'
            have hm' : MapR φ (m ++ [(k, v)]) (es.push { key := k', val := v', born := clock }) (clock + 1) := by
              refine ⟨m0 ++ [(k, v)], hperm.append_right _, ?_, by simp [q2], ?_, ?_, ?_⟩
              · refine List.pairwise_append.2 ⟨hpw, by simp, fun a ha b hb => ?_⟩
                obtain rfl : b = (k, v) := by simpa using hb
                exact keyPW_symm (now_false (afind_miss hf a ha))
              · intro j y hy
                rcases Nat.lt_or_ge j m0.length with hj | hj
                · rw [List.getElem?_append_left hj] at hy
                  obtain ⟨z, hz, hz1, hz2⟩ := q3 j y hy
                  refine ⟨z, ?_, hz1, hz2⟩
                  rw [Array.getElem?_push, if_neg (by omega)]
                  exact hz
                · rw [List.getElem?_append_right hj] at hy
                  have : j = m0.length := by
                    have := (List.getElem?_eq_some_iff.1 hy).1
                    simp at this; omega
                  subst this
                  simp at hy
                  subst hy
                  exact ⟨_, by rw [Array.getElem?_push, if_pos q2], hk, hv⟩
              · intro j y hy
                rw [Array.getElem?_push] at hy
                split at hy
                · obtain rfl := Option.some.inj hy; simp
                · have := q4 j y hy; omega
              · intro j l y z hy hz hjl
                rw [Array.getElem?_push] at hy hz
                split at hy
                · rename_i hj
                  split at hz
                  · omega
                  · have := (Array.getElem?_eq_some_iff.1 hz).1; omega
                · split at hz
                  · obtain rfl := Option.some.inj hz
                    exact q4 j y hy
                  · exact q5 j l y z hy hz hjl
            obtain ⟨r1, r2⟩ := hw.setMap hm hi hm'
            refine ⟨_, ?_, _, h, r1, r2⟩
            unfold Instr.mapUpdate
            simp [run_underlying_some hu, hget, run_checkKey hkd hp, run_findKey hkd g1, run_setObj q1 (by intros; simp)]
          | some jv =>
            obtain ⟨j, u⟩ := jv
            obtain ⟨j0, hf0, hset⟩ := afind_perm hperm hpw hf
            obtain ⟨u', g1, g2, g3, g4⟩ := afind_sound (φ := φ) hk hf0 q2' q3'
            obtain ⟨_, y, hy, hsame, _⟩ := findNow_same g1
            rw [Nat.sub_zero] at hy
            have hy' : es[j0]? = some y := by simpa using hy
            have hm' : MapR φ (m.set j (k, v)) (es.modify j0 fun e => { e with key := k', val := v' }) clock := by
              refine ⟨m0.set j0 (k, v), hset _, ?_, by simp [q2], ?_, ?_, ?_⟩
              · exact pw_set hpw hf
              · intro l z hz
                rw [List.getElem?_set] at hz
                by_cases hjl : j0 = l
                · subst hjl
                  rw [if_pos rfl] at hz
                  split at hz
                  · obtain rfl := Option.some.inj hz
                    exact ⟨{ y with key := k', val := v' }, by simp [Array.getElem?_modify, hy'], hk, hv⟩
                  · cases hz
                · rw [if_neg hjl] at hz
                  obtain ⟨e, he, h1, h2⟩ := q3 l z hz
                  exact ⟨e, by simp [Array.getElem?_modify, hjl, he], h1, h2⟩
              · intro l z hz
                rw [Array.getElem?_modify] at hz
                split at hz
                · cases he : es[l]? with
                  | none => rw [he] at hz; cases hz
                  | some e => rw [he] at hz; simp at hz; subst hz; exact q4 l e he
                · exact q4 l z hz
              · intro l1 l2 z1 z2 hz1 hz2 hl
                have born : ∀ (l : Nat) (z : MapEntry), (es.modify j0 fun e => { e with key := k', val := v' })[l]? = some z → ∃ e : MapEntry, es[l]? = some e ∧ e.born = z.born := by
                  intro l z hz
                  rw [Array.getElem?_modify] at hz
                  split at hz
                  · cases he : es[l]? with
                    | none => rw [he] at hz; cases hz
                    | some e => rw [he] at hz; simp at hz; subst hz; exact ⟨e, rfl, rfl⟩
                  · exact ⟨z, hz, rfl⟩
                obtain ⟨e1, he1, hb1⟩ := born l1 z1 hz1
                obtain ⟨e2, he2, hb2⟩ := born l2 z2 hz2
                rw [← hb1, ← hb2]
                exact q5 l1 l2 e1 e2 he1 he2 hl
            obtain ⟨r1, r2⟩ := hw.setMap hm hi hm'
            refine ⟨_, ?_, _, h, r1, r2⟩
            have hstay : (Instr.keyThatStays (((es[j0]?).map (·.key)).getD k') k').run P w = .ok k' w := by
              unfold Instr.keyThatStays
              rw [hy']
              simp only [Option.map_some, Option.getD_some]
              rw [if_pos (sameBits_of_now hsame 10000)]
              rfl
            unfold Instr.mapUpdate
            simp [run_underlying_some hu, hget, run_checkKey hkd hp, run_findKey hkd g1, run_setObj q1 (by intros; simp), hstay]
        · exact h.elim
      · exact h.elim
    · exact h.elim
  · exact h.elim

/-! ### Conversions -/

def bytesL : List Value → Option (List UInt8)
  | [] => some []
  | .int .u8 n :: l => (bytesL l).map (UInt8.ofNat n.toNat :: ·)
  | _ => none

theorem bytesL_spec {φ : Phi} : ∀ {xs xs' : List Value} {bs : List UInt8}, bytesL xs = some bs → VRs φ xs xs' → ∃ ns : List Int, xs' = ns.map (Value.int .u8) ∧ bs = ns.map fun n => UInt8.ofNat n.toNat
  | [], xs', bs, h, r => by
    simp only [bytesL, Option.some.injEq] at h
    subst h
    exact ⟨[], by rw [r.inv_nil]; rfl, rfl⟩
  | v :: l, xs', bs, h, r => by
    obtain ⟨v', x', rfl, hv, hx⟩ := r.inv_cons
    unfold bytesL at h
    split at h
    · rename_i heq; cases heq
    · rename_i n l' heq
      injection heq with e1 e2
      subst e1; subst e2
      cases hb : bytesL l with
      | none => rw [hb] at h; cases h
      | some b =>
        rw [hb] at h
        simp only [Option.map_some, Option.some.injEq] at h
        subst h
        obtain ⟨ns, h1, h2⟩ := bytesL_spec hb hx
        cases hv
        exact ⟨n :: ns, by simp [h1], by simp [h2]⟩
    · cases h

theorem foldl_push_bytes : ∀ (ns : List Int) (s : ByteArray), (ns.foldl (fun r n => r.push (UInt8.ofNat n.toNat)) s) = ⟨s.data ++ (ns.map fun n => UInt8.ofNat n.toNat).toArray⟩
  | [], s => by simp
  | n :: ns, s => by
    rw [List.foldl_cons, foldl_push_bytes ns]
    congr 1
    simp [ByteArray.push]

def aconvert (P : Program) (src dst : TypeId) (x : Value) (H : Heap) (K : Value → Heap → Prop) : Prop :=
  match x with
  | .int _ n => (match P.underlying src, P.underlying dst with
    | some (.int _), some (.int k) => K (.int k (k.wrap n)) H
    | _, _ => False)
  | .slice a l c => (match P.underlying src, P.underlying dst with
    | some (.slice e), some .string => (match P.underlying e with
      | some (.int .u8) => sliceC H 1 (.slice a l c) fun _ xs => (match bytesL xs with
        | some bs => K (.string ⟨bs.toArray⟩) H
        | none => False)
      | _ => False)
    | some (.slice _), some (.slice e) => (match P.underlying e, a with
      | some (.int .u8), some ⟨b, o, none⟩ => src = dst ∧ (match H.get b with
        | some (.cells false _ _) => K (.slice (some ⟨b, o, none⟩) l c) H
        | _ => False)
      | _, _ => False)
    | _, _ => False)
  | .string s => (match P.underlying src, P.underlying dst with
    | some .string, some .string => K (.string s) H
    | some .string, some (.slice e) => (match P.underlying e with
      | some (.int .u8) => K (.slice (some ⟨H.next, 0, none⟩) s.size (s.size + 1)) (H.alloc (.cells false 1 (s.data.toList.map fun b => .int .u8 b.toNat)))
      | _ => False)
    | _, _ => False)
  | _ => False

theorem HR.mark {φ : Phi} {H : Heap} {w : World} (h : HR φ H w) {b es : Nat} {c : List Value} {i : BI} (e : H.get b = some (.cells false es c)) (hi : φ b = some i) :
    ∃ el n, w.shape? i.rb = some (el, n) ∧ HR φ H (w.freeze ⟨i.rb, n, none⟩ 1) ∧ Ext φ H w φ H (w.freeze ⟨i.rb, n, none⟩ 1) := by
  obtain ⟨i', hi', rc, elem, fz, h1, h2, h3, h4⟩ := h.dom b _ e
  obtain rfl : i = i' := by rw [hi] at hi'; exact Option.some.inj hi'
  obtain ⟨h3a, h3c, h3d⟩ := h3 rfl
  have hlt := (Array.getElem?_eq_some_iff.1 h1).1
  have hsame : (w.freeze ⟨i.rb, rc.size, none⟩ 1).heap[i.rb]? = some (.cells rc elem (if fz.1 == fz.2 then (rc.size, rc.size + 1) else (min fz.1 rc.size, max fz.2 (rc.size + 1)))) := by
    simp only [World.freeze, Nat.one_ne_zero, if_false, Array.getElem?_modify, if_true, h1, Option.map_some]
  have hne : ∀ r, i.rb ≠ r → (w.freeze ⟨i.rb, rc.size, none⟩ 1).heap[r]? = w.heap[r]? := fun r hr => by
    simp only [World.freeze, Nat.one_ne_zero, if_false, Array.getElem?_modify, if_neg hr]
  have hsize : (w.freeze ⟨i.rb, rc.size, none⟩ 1).heap.size = w.heap.size := by
    simp [World.freeze]
  refine ⟨elem, rc.size, by simp only [World.shape?, h1], ⟨h.zero, h.pos, h.fresh, fun x k ex => ?_, h.sep⟩, ⟨Phi.le_refl _, by rw [hsize]; exact Nat.le_refl _, fun r _ hn => hne r (hn b _ i e rfl hi), fun _ _ => rfl, fun x k j ex hj => .inr ⟨x, k, j, ex, id, hj, rfl⟩, fun _ _ _ h => h, Nat.le_refl _, rfl, rfl⟩⟩
  by_cases hx : x = b
  · subst hx
    rw [e] at ex
    obtain rfl := Option.some.inj ex
    refine ⟨i, hi, rc, elem, _, hsame, h2, fun _ => ⟨h3a, h3c, ?_⟩, h4⟩
    right
    by_cases hz : fz.1 = fz.2
    · simp [hz, h3a]
    · have : (fz.1 == fz.2) = false := by simpa using hz
      simp only [this, Bool.false_eq_true, if_false]
      rcases h3d with h3d | h3d
      · exact absurd h3d hz
      · rw [h3a]; omega
  · obtain ⟨j, hj, r⟩ := h.dom x k ex
    exact ⟨j, hj, r.mono (Phi.le_refl _) (hne _ (h.sep b x _ k i j e ex hi hj (fun q => hx q.symm) rfl))⟩

theorem aconvert_sound {P : Program} {src dst : TypeId} {x x' : Value} {H : Heap} {K : Value → Heap → Prop} {φ : Phi} {w : World} (h : aconvert P src dst x H K) (hx : VR φ x x') (hw : HR φ H w) :
    ∃ u' w', (convert src dst x').run P w = .ok u' w' ∧ ∃ u H' φ', K u H' ∧ VR φ' u u' ∧ HR φ' H' w' ∧ Ext φ H w φ' H' w' := by
  unfold aconvert at h
  split at h
  · split at h
    · rename_i k0 k hs hd
      cases hx
      refine ⟨_, w, ?_, _, _, φ, h, .int _ _, hw, Ext.refl _ _ _⟩
      simp [convert, run_underlying_some hs, run_underlying_some hd, Conv.intToInt]
    · exact h.elim
  · rename_i a l c
    split at h
    · rename_i e hs hd
      split at h
      · rename_i he
        obtain ⟨n, xs, xs', hK, hv, hl, hlen, hcs, hn, _⟩ := sliceC_sound (P := P) h hx hw
        obtain rfl := hn _ _ _ rfl
        split at hK
        · rename_i bs hb
          obtain ⟨ns, e1, e2⟩ := bytesL_spec hb hv
          subst e1; subst e2
          refine ⟨.string ⟨(ns.map fun n => UInt8.ofNat n.toNat).toArray⟩, w, ?_, _, _, φ, hK, .string _, hw, Ext.refl _ _ _⟩
          obtain ⟨a', c', rfl⟩ : ∃ a' c', x' = .slice a' n c' := by
            cases hx <;> exact ⟨_, _, rfl⟩
          rw [run_convert_bytes_string w src dst e a' n c' hs he hd]
          cases a' with
          | none =>
            simp only [Builtin.firstCells, Sem.run_pure] at hcs
            injection hcs with hcs
            have : ns = [] := by
              have := congrArg Array.size hcs
              simp at this
              exact List.eq_nil_of_length_eq_zero this.symm
            subst this
            rfl
          | some ad =>
            have hld : (loadCells ad n).run P w = .ok (ns.map (Value.int .u8)).toArray w := by
              simpa [Builtin.firstCells] using hcs
            rw [run_bytesToString w ad n c' ns hld, foldl_push_bytes]
            simp [ByteArray.empty, ByteArray.emptyWithCapacity]
            rfl
        · exact hK.elim
      · exact h.elim
    · rename_i e1 e hs hd
      split at h
      · rename_i b o he
        obtain ⟨hsd, h⟩ := h
        split at h
        · rename_i es cs hb
          cases hx with
          | sl _ _ _ _ c' i hib hl ht hz =>
            obtain ⟨el, n, hsh, r1, r2⟩ := hw.mark hb hib
            refine ⟨.slice (some ⟨i.rb, i.off + o, none⟩) l c', w.freeze ⟨i.rb, n, none⟩ 1, ?_, _, _, φ, h, .sl b o l c c' i hib hl ht hz, r1, r2⟩
            have hbeq : (src == dst) = true := by simpa using hsd
            unfold convert
            simp only [Sem.run_bind, run_underlying_some hs, run_underlying_some hd, Result.andThen_ok, run_underlying_some he, hbeq, markStringish, run_shape, hsh, run_freeze, Sem.run_pure]
          | nowhere _ _ c' hc => exact absurd rfl (hw.get_pos hb)
        · exact h.elim
      · exact h.elim
    · exact h.elim
  · rename_i s
    cases hx
    split at h
    · rename_i hs hd
      refine ⟨_, w, ?_, _, _, φ, h, .string _, hw, Ext.refl _ _ _⟩
      simp [convert, run_underlying_some hs, run_underlying_some hd]
    · rename_i e hs hd
      split at h
      · rename_i he
        have hge : s.size ≤ grownCap w s.size 0 e := grownCap_ge w s.size 0 e
        generalize hcap : grownCap w s.size 0 e = cap at hge
        have hcap' : (Question.appendCap s.size 0 e).cut (w.tape w.drawn (Question.appendCap s.size 0 e)) = cap := hcap
        have hbl : (s.data.toList.map fun b => Value.int .u8 b.toNat).length = s.size := by simp
        have hvr : VRs φ (s.data.toList.map fun b => Value.int .u8 b.toNat) (s.data.toList.map fun b => Value.int .u8 b.toNat) := by
          refine ⟨rfl, fun k v hk => ⟨v, hk, ?_⟩⟩
          rw [List.getElem?_map] at hk
          cases hx : s.data.toList[k]? with
          | none => rw [hx] at hk; cases hk
          | some b => rw [hx] at hk; rw [← Option.some.inj hk]; exact .int _ _
        have hw2 : HR φ H w.drew := hw.drawn rfl
        have hcl : ((s.data.toList.map fun b => Value.int .u8 b.toNat) ++ List.replicate (cap - s.size) (Value.int .u8 0)).length = cap := by simp only [List.length_append, hbl, List.length_replicate]; omega
        obtain ⟨r1, r2⟩ := hw2.alloc_cells (spare := List.replicate (cap - s.size) (Value.int .u8 0)) hvr false 1 e (cap, cap + 1) (.inr (by rw [hcl]; exact Nat.le_refl _))
        have hwe : (w.drew.alloc (.cells ((s.data.toList.map fun b => Value.int .u8 b.toNat) ++ List.replicate (cap - s.size) (Value.int .u8 0)).toArray e (cap, cap + 1))) =
            (w.drew.alloc (.cells ((s.data.map fun b => Value.int .u8 b.toNat) ++ Array.replicate (cap - s.size) (Value.int .u8 0)) e)).freeze ⟨w.heap.size, cap, none⟩ 1 := by
          have hrow : ((s.data.toList.map fun b => Value.int .u8 b.toNat) ++ List.replicate (cap - s.size) (Value.int .u8 0)).toArray = ((s.data.map fun b => Value.int .u8 b.toNat) ++ Array.replicate (cap - s.size) (Value.int .u8 0)) := by
            apply Array.ext'; simp
          rw [hrow]
          generalize ((s.data.map fun b => Value.int .u8 b.toNat) ++ Array.replicate (cap - s.size) (Value.int .u8 0)) = row
          unfold World.freeze
          rw [if_neg (by decide)]
          refine congrArg (fun hp => ({ w.drew with heap := hp } : World)) (?_ : w.drew.heap.push _ = _)
          have ha : (w.drew.alloc (.cells row e)).heap = w.drew.heap.push (.cells row e) := rfl
          rw [ha]
          apply Array.ext
          · simp
          · intro j h1 h2
            simp only [Array.size_push] at h1
            rw [Array.getElem_modify]
            simp only [Array.getElem_push]
            by_cases hj : w.heap.size = j
            · subst hj
              simp
            · have : j < w.heap.size := by
                have : w.drew.heap.size = w.heap.size := rfl
                omega
              rw [if_neg hj]
              simp [this]
        refine ⟨.slice (some ⟨w.heap.size, 0, none⟩) s.size cap, (w.drew.alloc (.cells ((s.data.map fun b => Value.int .u8 b.toNat) ++ Array.replicate (cap - s.size) (Value.int .u8 0)) e)).freeze ⟨w.heap.size, cap, none⟩ 1, ?_, _, _, φ.add H.next ⟨w.heap.size, 0, cap, 1⟩, h, ?_, ?_, ?_⟩
        · have hbs : (s.data.map fun b => Value.int .u8 b.toNat).size = s.size := by simp
          simp only [convert, Sem.run_bind, run_underlying_some hs, run_underlying_some hd, run_underlying_some he, Result.andThen_ok, Conv.stringToBytes, run_choose, Question.forced, Bool.false_eq_true, if_false, hcap', newRow, run_newObj, Sem.run_pure, markStringish, run_shape]
          have hsh : ({ { w with drawn := w.drawn + 1 } with heap := w.heap.push (.cells ((s.data.map fun b => Value.int .u8 b.toNat) ++ Array.replicate (cap - s.size) (Value.int .u8 0)) e) } : World).shape? w.heap.size = some (e, cap) := by
            simp only [World.shape?, Array.getElem?_push, if_true]
            simp only [Array.size_append, hbs, Array.size_replicate]
            rw [show s.size + (cap - s.size) = cap by omega]
          rw [hsh]
          rfl
        · have := VR.sl (φ := φ.add H.next ⟨w.heap.size, 0, cap, 1⟩) H.next 0 s.size (s.size + 1) cap ⟨w.heap.size, 0, cap, 1⟩ (by simp [Phi.add]) hge (by omega) (by simp)
          simpa using this
        · rw [← hwe]; rw [hcl] at r1; exact r1
        · rw [← hwe]; rw [hcl] at r2; exact (Ext.drawn (w := w) (w' := w.drew) rfl rfl rfl).trans r2
      · exact h.elim
    · exact h.elim
  · exact h.elim

/-! ### Interfaces, functions as values -/

def amakeInterface (P : Program) (t : TypeId) (x : Value) (K : Value → Prop) : Prop :=
  match P.underlying t with
  | some (.interface _) => False
  | some _ => K (.iface t x)
  | none => False

theorem amakeInterface_sound {P : Program} {t : TypeId} {x x' : Value} {K : Value → Prop} {φ : Phi} (h : amakeInterface P t x K) (hx : VR φ x x') :
    ∃ u u', (∀ w, (Instr.makeInterface t x').run P w = .ok u' w) ∧ K u ∧ VR φ u u' := by
  unfold amakeInterface at h
  split at h
  · exact h.elim
  · rename_i d hn hu
    refine ⟨_, .iface t x', ?_, h, .iface _ _ _ hx⟩
    intro w
    unfold Instr.makeInterface
    rw [Sem.run_bind, run_underlying_some hu]
    cases d <;> first | rfl | exact (hn _ rfl).elim
  · exact h.elim

def atypeAssert (P : Program) (t : TypeId) (x : Value) (ok : Bool) (K : Value → Prop) : Prop :=
  ok = true ∧ (match P.underlying t with
  | some (.interface _) => False
  | some _ => (match x with
    | .iface u v => (match decide (u = t) with
      | true => K (.tuple #[v, .bool true])
      | false => (match zeroOf P t with | some z => K (.tuple #[z, .bool false]) | none => False))
    | .nilIface => (match zeroOf P t with | some z => K (.tuple #[z, .bool false]) | none => False)
    | _ => False)
  | none => False)

theorem atypeAssert_sound {P : Program} {t xt : TypeId} {x x' : Value} {ok : Bool} {K : Value → Prop} {φ : Phi} (h : atypeAssert P t x ok K) (hx : VR φ x x') :
    ∃ u u', (∀ w, (Instr.typeAssert x' xt t ok).run P w = .ok u' w) ∧ K u ∧ VR φ u u' := by
  unfold atypeAssert at h
  obtain ⟨rfl, h⟩ := h
  split at h
  · exact h.elim
  · rename_i d hn hu
    split at h
    · rename_i u v
      cases hx
      rename_i v' hv
      split at h
      · rename_i hd
        obtain rfl := of_decide_eq_true hd
        refine ⟨_, .tuple #[v', .bool true], ?_, h, VR.pair hv (.bool _)⟩
        intro w
        unfold Instr.typeAssert
        rw [Sem.run_bind, run_underlying_some hu]
        cases d <;> first | (simp; done) | exact (hn _ rfl).elim
      · rename_i hd
        have hd := of_decide_eq_false hd
        split at h
        · rename_i z hz
          have z2 := (run_zeroValue hz default).2
          refine ⟨_, .tuple #[z, .bool false], ?_, h, VR.pair (VR.refl_cst z2) (.bool _)⟩
          intro w
          unfold Instr.typeAssert
          rw [Sem.run_bind, run_underlying_some hu]
          cases d <;> first | (simp [hd, (run_zeroValue hz w).1]; done) | exact (hn _ rfl).elim
        · exact h.elim
    · cases hx
      split at h
      · rename_i z hz
        have z2 := (run_zeroValue hz default).2
        refine ⟨_, .tuple #[z, .bool false], ?_, h, VR.pair (VR.refl_cst z2) (.bool _)⟩
        intro w
        unfold Instr.typeAssert
        rw [Sem.run_bind, run_underlying_some hu]
        cases d <;> first | (simp [(run_zeroValue hz w).1]; done) | exact (hn _ rfl).elim
      · exact h.elim
    · exact h.elim
  · exact h.elim

end Go.Lift
