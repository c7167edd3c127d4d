import Derived.Laws.Append
import Derived.Test.YtdmhefbbicadnaaGreatL5
/-! The lifted logic, part 6: rows that are made, append. -/
namespace Go.Lift

theorem alloc_get (H : Heap) (k : Blk) (x : Nat) : (H.alloc k).get x = if x = H.next then some k else H.get x := rfl
theorem drop_get (H : Heap) (b x : Nat) : (H.drop b).get x = if x = b then none else H.get x := rfl
theorem set_get (H : Heap) (b x : Nat) (k : Blk) : (H.set b k).get x = if x = b then some k else H.get x := rfl
theorem drop_next (H : Heap) (b : Nat) : (H.drop b).next = H.next := rfl
theorem set_next (H : Heap) (b : Nat) (k : Blk) : (H.set b k).next = H.next := rfl
theorem alloc_next (H : Heap) (k : Blk) : (H.alloc k).next = H.next + 1 := rfl

/-- A row of cells grows where it lies; its elder name is given up. -/
theorem HR.extend {φ : Phi} {H : Heap} {w : World} (h : HR φ H w) {b o k es : Nat} {cs xs xs' : List Value} {i : BI} (e : H.get b = some (.cells false es cs)) (hi : φ b = some i)
    (hl : o + k ≤ cs.length) (hxr : VRs φ xs xs') (hroom : i.off + o + k + xs.length ≤ i.rsize) (hes : es ≠ 0) :
    HR (φ.add H.next ⟨i.rb, i.off + o, i.rsize, i.es⟩) ((H.drop b).alloc (.cells false es ((cs.drop o).take k ++ xs))) (Go.Lift.putW w i.rb (i.off + o + k) xs') ∧
    Ext φ H w (φ.add H.next ⟨i.rb, i.off + o, i.rsize, i.es⟩) ((H.drop b).alloc (.cells false es ((cs.drop o).take k ++ xs))) (Go.Lift.putW w i.rb (i.off + o + k) xs') := by
  obtain ⟨i', hi', rc, elem, fz, h1, h2, h3, h3b⟩ := h.dom b _ e
  obtain rfl : i = i' := by rw [hi] at hi'; exact Option.some.inj hi'
  obtain ⟨h3a, h3c, h3d⟩ := h3 rfl
  have hle : φ.le (φ.add H.next ⟨i.rb, i.off + o, i.rsize, i.es⟩) := Phi.le_add h.no_next
  have hxl : xs'.length = xs.length := hxr.1.symm
  have hbn : b < H.next := h.get_lt e
  have getn : ∀ x kk, ((H.drop b).alloc (.cells false es ((cs.drop o).take k ++ xs))).get x = some kk → x ≠ H.next → x ≠ b ∧ H.get x = some kk := by
    intro x kk hx hne
    rw [alloc_get, drop_next, if_neg hne, drop_get] at hx
    by_cases hb : x = b
    · rw [if_pos hb] at hx; cases hx
    · rw [if_neg hb] at hx; exact ⟨hb, hx⟩
  constructor
  · refine ⟨?_, Nat.succ_pos _, ?_, ?_, ?_⟩
    · unfold Phi.add; rw [if_neg (Nat.ne_of_lt h.pos)]; exact h.zero
    · intro x j ej
      unfold Phi.add at ej
      show x < H.next + 1
      split at ej
      · omega
      · have := h.fresh x j ej; omega
    · intro x kk ex
      by_cases hx : x = H.next
      · have : kk = .cells false es ((cs.drop o).take k ++ xs) := by
          rw [alloc_get, drop_next, if_pos hx] at ex
          exact (Option.some.inj ex).symm
        subst this
        refine ⟨⟨i.rb, i.off + o, i.rsize, i.es⟩, by simp [Phi.add, hx], putA rc (i.off + o + k) xs', elem, fz, putW_heap_same h1, fun j v hv => ?_, fun _ => ⟨by rw [putA_size]; exact h3a, ?_, h3d⟩, h3b.1, fun q => absurd q hes⟩
        · have htl : ((cs.drop o).take k).length = k := by simp; omega
          rcases Nat.lt_or_ge j k with hj | hj
          · rw [List.getElem?_append_left (by omega), List.getElem?_take, if_pos hj, List.getElem?_drop] at hv
            obtain ⟨v', e', r⟩ := h2 _ v hv
            refine ⟨v', ?_, r.mono hle⟩
            simp only
            rw [putA_lt _ _ _ _ (by omega), ← e']
            congr 1; omega
          · rw [List.getElem?_append_right (by omega), htl] at hv
            obtain ⟨v', e', r⟩ := hxr.2 _ v hv
            have hjl : j - k < xs'.length := (List.getElem?_eq_some_iff.1 e').1
            refine ⟨v', ?_, r.mono hle⟩
            simp only
            rw [show i.off + o + j = i.off + o + k + (j - k) by omega, putA_in _ _ _ _ (by omega) hjl]
            exact e'
        · simp; omega
      · obtain ⟨hb, ex'⟩ := getn x kk ex hx
        obtain ⟨j, hj, r⟩ := h.dom x kk ex'
        exact ⟨j, by simp [Phi.add, hx, hj], r.mono hle (putW_heap_ne (h.sep b x (.cells false es cs) kk i j e ex' hi hj (fun q => hb q.symm) rfl))⟩
    · intro x x' k1 k2 i1 i2 e1 e2 p1 p2 hne hrw
      have hold : ∀ y j, φ y = some j → y ≠ H.next := fun y j hy hh => by rw [hh, h.no_next] at hy; cases hy
      by_cases hx : x = H.next
      · by_cases hx' : x' = H.next
        · exact absurd (hx.trans hx'.symm) hne
        · obtain ⟨hb', e2'⟩ := getn x' k2 e2 hx'
          simp only [Phi.add, hx, if_true, hx', if_false] at p1 p2
          obtain rfl := Option.some.inj p1
          exact h.sep b x' (.cells false es cs) k2 i i2 e e2' hi p2 (fun q => hb' q.symm) rfl
      · obtain ⟨hb, e1'⟩ := getn x k1 e1 hx
        simp only [Phi.add, hx, if_false] at p1
        by_cases hx' : x' = H.next
        · simp only [Phi.add, hx', if_true] at p2
          obtain rfl := Option.some.inj p2
          exact h.sep x b k1 (.cells false es cs) i1 i e1' e p1 hi hb hrw
        · obtain ⟨hb', e2'⟩ := getn x' k2 e2 hx'
          simp only [Phi.add, hx', if_false] at p2
          exact h.sep x x' k1 k2 i1 i2 e1' e2' p1 p2 hne hrw
  · refine ⟨hle, by rw [putW_size]; exact Nat.le_refl _, ?_, fun x hx => if_neg (Nat.ne_of_lt hx), ?_, ?_, Nat.le_succ _, rfl, rfl⟩
    · intro r hr hn
      exact putW_heap_ne (hn b _ i e rfl hi)
    · intro x k1 i1 e1 p1
      by_cases hx : x = H.next
      · simp only [Phi.add, hx, if_true] at p1
        obtain rfl := Option.some.inj p1
        exact .inr ⟨b, _, i, e, fun _ => rfl, hi, rfl⟩
      · obtain ⟨hb, e1'⟩ := getn x k1 e1 hx
        simp only [Phi.add, hx, if_false] at p1
        exact .inr ⟨x, k1, i1, e1', id, p1, rfl⟩
    · intro x es1 c1 e1
      have hxn : x ≠ H.next := by have := h.get_lt e1; omega
      have hxb : x ≠ b := by rintro rfl; rw [e] at e1; cases e1
      rw [alloc_get, drop_next, if_neg hxn, drop_get, if_neg hxb]
      exact e1

/-! ### The cells of a slice, or a string's bytes -/

def sliceC (H : Heap) (s : Nat) (v : Value) (K : Nat → List Value → Prop) : Prop :=
  match v with
  | .slice none l _ => l = 0 ∧ K 0 []
  | .slice (some ⟨b, o, none⟩) l _ =>
    (l = 0 ∧ K 0 []) ∨ (match H.get b with
      | some (.cells _ es c) => es = s ∧ o + l * s ≤ c.length ∧ K l ((c.drop o).take (l * s))
      | _ => False)
  | .string st => s = 1 ∧ K st.size (st.data.toList.map fun b => .int .u8 b.toNat)
  | _ => False

theorem sliceC_sound {P : Program} {H : Heap} {s : Nat} {v v' : Value} {K : Nat → List Value → Prop} {φ : Phi} {w : World} (h : sliceC H s v K) (hv : VR φ v v') (hw : HR φ H w) :
    ∃ n xs xs', K n xs ∧ VRs φ xs xs' ∧ xs.length = n * s ∧ (Builtin.lenOf v').run P w = .ok n w ∧ (Builtin.firstCells s n v').run P w = .ok xs'.toArray w ∧ (∀ a l c, v = .slice a l c → n = l) ∧
      (∀ w2 : World, (∀ ad l c, v' = .slice (some ad) l c → w2.heap[ad.block]? = w.heap[ad.block]?) → (Builtin.firstCells s n v').run P w2 = .ok xs'.toArray w2) := by
  unfold sliceC at h
  split at h
  · rename_i l c
    cases hv
    exact ⟨0, [], [], h.2, .nil, by simp, rfl, rfl, (fun a l c e => by cases e; rfl), fun _ _ => rfl⟩
  · rename_i b o l c
    rcases h with ⟨rfl, h⟩ | h
    · refine ⟨0, [], [], h, .nil, by simp, ?_, ?_, (fun a l c e => by cases e; rfl), ?_⟩
      · cases hv <;> rfl
      · cases hv <;> simp [Builtin.firstCells, loadCells, loadCellsFrom]
      · intro w2 _; cases hv <;> simp [Builtin.firstCells, loadCells, loadCellsFrom]
    · split at h
      · rename_i ro es cs hb
        obtain ⟨rfl, hl, h⟩ := h
        cases hv with
        | sl _ _ _ _ c' i hi h1 h2 h3 =>
          obtain ⟨vs', hrun, hvs⟩ := hw.loadCells (P := P) hb hi hl
          exact ⟨l, _, vs', h, hvs, by simp only [List.length_take, List.length_drop]; omega, rfl, hrun w rfl, (fun a l c e => by cases e; rfl), fun w2 h2 => hrun w2 (h2 _ _ _ rfl)⟩
        | nowhere a _ c' hc =>
          have := hw.get_pos hb
          exact absurd rfl this
      · exact h.elim
  · rename_i st
    cases hv
    obtain ⟨rfl, h⟩ := h
    refine ⟨_, _, st.data.toList.map (fun b => Value.int .u8 b.toNat), h, ⟨rfl, fun k v hk => ⟨v, hk, ?_⟩⟩, by simp, rfl, ?_, (fun a l c e => by cases e), ?_⟩
    · obtain ⟨b, hb⟩ : ∃ b : UInt8, v = .int .u8 b.toNat := by
        rw [List.getElem?_map] at hk
        cases hx : st.data.toList[k]? with
        | none => rw [hx] at hk; cases hk
        | some b => rw [hx] at hk; exact ⟨b, (Option.some.inj hk).symm⟩
      subst hb
      exact .int _ _
    · simp only [Builtin.firstCells, Sem.run_pure]
      have : st.extract 0 st.size = st := by
        apply ByteArray.ext
        simp
      rw [this]
      congr 1
      apply Array.ext'
      simp
    · intro w2 _
      simp only [Builtin.firstCells, Sem.run_pure]
      have : st.extract 0 st.size = st := by
        apply ByteArray.ext
        simp
      rw [this]
      congr 1
      apply Array.ext'
      simp
  · exact h.elim

/-! ### append -/

/-- A row of zeros. -/
def zrow (zc : List Value) (n : Nat) : List Value := (List.replicate n zc).flatten

theorem VRs.zrow {φ : Phi} {zc : List Value} (h : VRs φ zc zc) : ∀ n, VRs φ (zrow zc n) (zrow zc n)
  | 0 => .nil
  | n + 1 => by
    have : Lift.zrow zc (n + 1) = zc ++ Lift.zrow zc n := by simp [Lift.zrow, List.replicate_succ]
    rw [this]
    exact h.append (VRs.zrow h n)

theorem zrow_length (zc : List Value) (n : Nat) : (zrow zc n).length = n * zc.length := by
  simp [zrow]

theorem zeroCells_eq (z : Array Value) : ∀ n, (Builtin.zeroCells z n) = (zrow z.toList n).toArray := by
  intro n
  apply Array.ext'
  induction n with
  | zero => simp [Builtin.zeroCells, zrow]
  | succ n ih =>
    simp only [Builtin.zeroCells, zrow] at ih ⊢
    rw [Nat.add_mul, Nat.one_mul]
    have hr : (Array.range (n * z.size + z.size)).toList = (Array.range (n * z.size)).toList ++ (List.range z.size).map (n * z.size + ·) := by
      simp [List.range_add]
    rw [Array.toList_map, hr, List.map_append]
    rw [Array.toList_map] at ih
    rw [ih]
    have hl : ((List.range z.size).map (n * z.size + ·)).map (fun i => z[i % z.size]!) = z.toList := by
      rw [List.map_map]
      apply List.ext_getElem
      · simp
      · intro i h1 h2
        simp at h1
        simp only [List.getElem_map, List.getElem_range, Function.comp_apply]
        have : (n * z.size + i) % z.size = i := by rw [Nat.mul_comm, Nat.mul_add_mod]; exact Nat.mod_eq_of_lt h1
        rw [this]
        simp [h1]
    rw [hl]
    have : (List.replicate (n + 1) z.toList).flatten = (List.replicate n z.toList).flatten ++ z.toList := by
      rw [List.replicate_succ', List.flatten_append]; simp
    rw [this]

/-- What a type's elements are: cells, bytes, the zero's cells. -/
def elemO (P : Program) (e : TypeId) : Option (Nat × Nat × List Value) :=
  match P.info? e, zeroOf P e with
  | some i, some z => if z.cells.size = i.size then some (i.size, i.bytes, z.cells.toList) else none
  | _, _ => none

theorem elemO_spec {P : Program} {e : TypeId} {s by_ : Nat} {zc : List Value} (h : elemO P e = some (s, by_, zc)) (φ : Phi) (w : World) :
    (sizeOf e).run P w = .ok s w ∧ (∃ i, (typeInfo e).run P w = .ok i w ∧ i.bytes = by_) ∧ (∃ z, (zeroValue e).run P w = .ok z w ∧ z.cells.toList = zc) ∧ zc.length = s ∧ VRs φ zc zc := by
  unfold elemO at h
  split at h
  · rename_i i z hi hz
    split at h
    · rename_i hsz
      simp only [Option.some.injEq, Prod.mk.injEq] at h
      obtain ⟨rfl, rfl, rfl⟩ := h
      obtain ⟨hz1, hz2⟩ := run_zeroValue hz w
      refine ⟨run_sizeOf_some (by simp [hi]) w, ⟨i, by simp [typeInfo, hi], rfl⟩, ⟨z, hz1, rfl⟩, by simpa using hsz, (VR.refl_cst hz2).cells⟩
    · cases h
  · cases h

def fits (n b : Nat) : Prop := (2 * n + 192) * b ≤ 2 ^ 48 ∧ n ≤ 2 ^ 47 ∧ 0 < b

theorem slicecap_le (need old : Nat) (h : old < need) : Builtin.nextslicecap need old ≤ 2 * need + 192 := by
  unfold Builtin.nextslicecap
  split
  · omega
  · split
    · omega
    · have key : ∀ r c, c < need → Builtin.growBy need r c ≤ 2 * need + 192 := by
        intro r
        induction r with
        | zero => intro c hc; simp [Builtin.growBy]; omega
        | succ r ih =>
          intro c hc
          simp only [Builtin.growBy]
          rw [if_neg (by omega)]
          rcases Nat.lt_or_ge (c + (c + 768) / 4) need with hlt | hge
          · exact ih _ hlt
          · cases r with
            | zero => simp only [Builtin.growBy]; omega
            | succ r => simp only [Builtin.growBy]; rw [if_pos hge]; omega
      exact key 4 old h

/-- What append makes of a slice and some cells. -/
def aapp (H : Heap) (es bytes : Nat) (s : Value) (n : Nat) (xs : List Value) (K : Value → Heap → Prop) : Prop :=
  match s with
  | .slice base l c =>
    (n = 0 ∧ K (.slice base l c) H) ∨
    (0 < n ∧ fits (l + n) bytes ∧
      (match base with
      | none => K (.slice (some ⟨H.next, 0, none⟩) (0 + n) (0 + n + 1)) (H.alloc (.cells false es xs))
      | some ⟨b, o, none⟩ =>
        (c = l ∧ sliceC H es (.slice (some ⟨b, o, none⟩) l c) fun _ old => K (.slice (some ⟨H.next, 0, none⟩) (l + n) (l + n + 1)) (H.alloc (.cells false es (old ++ xs)))) ∨
        (match H.get b with
        | some (.cells false es' cs) => es' = es ∧ es ≠ 0 ∧ o + l * es ≤ cs.length ∧ cs.all (·.oneCell') = true ∧
            K (.slice (some ⟨H.next, 0, none⟩) (l + n) (l + n + 1)) ((H.drop b).alloc (.cells false es ((cs.drop o).take (l * es) ++ xs)))
        | _ => False)
      | _ => False))
  | _ => False


theorem run_lenOf_slice {P : Program} {a : Option Addr} {l c : Nat} (w : World) : (Builtin.lenOf (.slice a l c)).run P w = .ok l w := rfl

def sliceLike (P : Program) (t : TypeId) : Prop := (∃ e, P.underlying t = some (.slice e)) ∨ P.underlying t = some .string

/-- What an append's second argument comes to: so many elements, in these cells. -/
def AX (P : Program) (xT : TypeId) (i0 : TypeInfo) (z x' : Value) (n : Nat) (w w1 : World) (cells : Array Value) : Prop :=
  (sliceLike P xT ∧ (Builtin.lenOf x').run P w = .ok n w ∧ (Builtin.firstCells i0.size n x').run P w1 = .ok cells w1) ∨
  (∃ k ik, P.underlying xT = some (.int k) ∧ x' = .int ik (n : Int) ∧ IntKind.i64.wrap (n : Int) = n ∧ n * i0.bytes ≤ 2 ^ 48 ∧ z.cells.size = i0.size ∧ cells = Builtin.zeroCells z.cells n)

theorem ax_zero {z : Value} {n s : Nat} (hs : z.cells.size = s) (h : n * s = 0) : Builtin.zeroCells z.cells n = #[] := by
  subst hs
  apply Array.ext'
  simp [Builtin.zeroCells, h]

theorem run_append_in {P : Program} {sT xT elem : TypeId} {i0 : TypeInfo} {z : Value} {l c' n : Nat} {a' : Addr} {x' : Value} {xs' : List Value} {w w1 : World} {rest : TypeId}
    (hT : P.underlying sT = some (.slice elem)) (hX : AX P xT i0 z x' n w w xs'.toArray) (hi : P.info? elem = some i0) (hz : i0.zero = some z)
    (hle : l + n ≤ c')
    (hst : (storeCells (a'.add (l * i0.size)) xs').run P w = .ok () w1) :
    (Builtin.append_ #[sT, xT] rest #[.slice (some a') l c', x']).run P w = .ok (.slice (some a') (l + n) c') w1 := by
  rcases hX with ⟨⟨e2, hX⟩ | hX, hlen, hcs⟩ | ⟨k, ik, hX, rfl, hwr, hb, hsz, hcs⟩
  · simp [Builtin.append_, run_underlying_some hT, run_underlying_some hX, sizeOf, typeInfo, hi, hlen, hle, hcs, hst]
  · simp [Builtin.append_, run_underlying_some hT, run_underlying_some hX, sizeOf, typeInfo, hi, hlen, hle, hcs, hst]
  · have hneg : ¬ ((n : Int) < 0) := by omega
    have hbig : ¬ (281474976710656 < (n : Int) * (i0.bytes : Int)) := by
      have h1 : n * i0.bytes ≤ 281474976710656 := hb
      rw [← Int.natCast_mul]
      omega
    by_cases h0 : n * i0.size = 0
    · have := ax_zero hsz h0
      rw [this] at hcs
      have hx0 : xs' = [] := by simpa using congrArg Array.toList hcs
      subst hx0
      simp [Builtin.append_, run_underlying_some hT, run_underlying_some hX, sizeOf, typeInfo, hi, asInt, asIntOf, hwr, hneg, hbig, hle, h0, hst]
    · simp [Builtin.append_, run_underlying_some hT, run_underlying_some hX, sizeOf, typeInfo, hi, asInt, asIntOf, hwr, hneg, hbig, hle, h0, zeroValue, hz, ← hcs, hst]

theorem run_append_none {P : Program} {sT xT elem : TypeId} {i0 : TypeInfo} {z : Value} {l c' : Nat} {x' : Value} {w : World} {rest : TypeId}
    (hT : P.underlying sT = some (.slice elem)) (hX : AX P xT i0 z x' 0 w w #[]) (hi : P.info? elem = some i0) (hle : l ≤ c') :
    (Builtin.append_ #[sT, xT] rest #[.slice none l c', x']).run P w = .ok (.slice none l c') w := by
  rcases hX with ⟨⟨e2, hX⟩ | hX, hlen, hcs⟩ | ⟨k, ik, hX, rfl, hwr, hb, hsz, hcs⟩
  · simp [Builtin.append_, run_underlying_some hT, run_underlying_some hX, sizeOf, typeInfo, hi, hlen, hle, hcs]
  · simp [Builtin.append_, run_underlying_some hT, run_underlying_some hX, sizeOf, typeInfo, hi, hlen, hle, hcs]
  · have hw0 : IntKind.i64.wrap 0 = 0 := hwr
    simp [Builtin.append_, run_underlying_some hT, run_underlying_some hX, sizeOf, typeInfo, hi, asInt, asIntOf, hw0, hle]

theorem run_append_new {P : Program} {sT xT elem : TypeId} {i0 : TypeInfo} {z : Value} {l c' n : Nat} {a' : Option Addr} {x' : Value} {old new : Array Value} {w : World} {rest : TypeId}
    (hT : P.underlying sT = some (.slice elem)) (hX : AX P xT i0 z x' n w w.drew new) (hi : P.info? elem = some i0) (hz : i0.zero = some z)
    (hold : (Builtin.firstCells i0.size l (.slice a' l c')).run P w.drew = .ok old w.drew) (hlt : c' < l + n) (hfit : fits (l + n) i0.bytes) :
    (Builtin.append_ #[sT, xT] rest #[.slice a' l c', x']).run P w =
      .ok (.slice (some ⟨w.heap.size, 0, none⟩) (l + n) (grownCap w (l + n) c' elem)) (w.drew.alloc (.cells (old ++ new ++ Builtin.zeroCells z.cells (grownCap w (l + n) c' elem - (l + n))) elem)) := by
  obtain ⟨f1, f2, f3⟩ := hfit
  have hn : ¬ (l + n ≤ c') := by omega
  have hcap := slicecap_le (l + n) c' hlt
  have h48' : ¬ (281474976710656 < Builtin.nextslicecap (l + n) c' * i0.bytes) := by
    have : Builtin.nextslicecap (l + n) c' * i0.bytes ≤ (2 * (l + n) + 192) * i0.bytes := Nat.mul_le_mul_right _ hcap
    omega
  have hb : i0.bytes ≠ 0 := by omega
  rcases hX with ⟨⟨e2, hX⟩ | hX, hlen, hnew⟩ | ⟨k, ik, hX, rfl, hwr, hb2, hsz, hcs⟩
  · simp [Builtin.append_, run_underlying_some hT, run_underlying_some hX, sizeOf, typeInfo, zeroValue, hi, hz, hlen, hn, h48', hb, Question.forced, hnew, hold, newRow, grownCap]
  · simp [Builtin.append_, run_underlying_some hT, run_underlying_some hX, sizeOf, typeInfo, zeroValue, hi, hz, hlen, hn, h48', hb, Question.forced, hnew, hold, newRow, grownCap]
  · have hneg : ¬ ((n : Int) < 0) := by omega
    have hbig : ¬ (281474976710656 < (n : Int) * (i0.bytes : Int)) := by
      have h1 : n * i0.bytes ≤ 281474976710656 := hb2
      rw [← Int.natCast_mul]
      omega
    have hmax2 : ¬ (9223372036854775807 < (l : Int) + (n : Int)) := by omega
    by_cases h0 : n * i0.size = 0
    · have := ax_zero hsz h0
      rw [this] at hcs
      subst hcs
      simp [Builtin.append_, run_underlying_some hT, run_underlying_some hX, sizeOf, typeInfo, zeroValue, hi, hz, asInt, asIntOf, hwr, hneg, hbig, hn, h48', hb, hmax2, h0, Question.forced, hold, newRow, grownCap]
    · simp [Builtin.append_, run_underlying_some hT, run_underlying_some hX, sizeOf, typeInfo, zeroValue, hi, hz, asInt, asIntOf, hwr, hneg, hbig, hn, h48', hb, hmax2, h0, Question.forced, hold, newRow, grownCap, ← hcs]

theorem grownCap_ge (w : World) (need old : Nat) (e : TypeId) : need ≤ grownCap w need old e := by
  simp [grownCap, Question.cut]

/-- The second half of append, behind its arguments' reading: the run. -/
theorem aapp_sound {P : Program} {sT xT elem : TypeId} {H : Heap} {es bytes n : Nat} {zc xs : List Value} {s s' x' : Value} {K : Value → Heap → Prop} {φ : Phi} {w : World} {rest : TypeId}
    (h : aapp H es bytes s n xs K) (hT : P.underlying sT = some (.slice elem)) (hE : elemO P elem = some (es, bytes, zc)) (hs : VR φ s s') (hw : HR φ H w)
    (hread0 : ∀ i0 z, P.info? elem = some i0 → i0.zero = some z → z.cells.size = i0.size → i0.size = es → i0.bytes = bytes → z.cells.toList = zc →
      ∀ w1 : World, w1.heap = w.heap → ∃ xs' : List Value, AX P xT i0 z x' n w w1 xs'.toArray ∧ VRs φ xs xs') (hxl : xs.length = n * es) (hone : xs.all (·.oneCell') = true) :
    ∃ u' w', (Builtin.append_ #[sT, xT] rest #[s', x']).run P w = .ok u' w' ∧ ∃ u H' φ', K u H' ∧ VR φ' u u' ∧ HR φ' H' w' ∧ Ext φ H w φ' H' w' := by
  have hE' := hE
  unfold elemO at hE'
  split at hE'
  case h_2 => cases hE'
  rename_i i0 z hi hz0
  split at hE'
  case isFalse => cases hE'
  rename_i hsz
  simp only [Option.some.injEq, Prod.mk.injEq] at hE'
  obtain ⟨rfl, rfl, rfl⟩ := hE'
  have hz : i0.zero = some z := by
    unfold zeroOf at hz0
    rw [hi] at hz0
    simp only [Option.bind_some] at hz0
    cases hzz : i0.zero with
    | none => rw [hzz] at hz0; cases hz0
    | some z' =>
      rw [hzz] at hz0
      simp only at hz0
      split at hz0
      · exact hz0
      · cases hz0
  obtain ⟨_, _, _, _, e5⟩ := elemO_spec hE φ w
  have hread := hread0 i0 z hi hz hsz rfl rfl rfl
  -- a new row: what it is in the world, and what abstract heap goes with it
  have fresh : ∀ (a' : Option Addr) (l c' : Nat) (old : List Value), c' < l + n → fits (l + n) i0.bytes → old.length = l * i0.size →
      (∃ old' : List Value, (Builtin.firstCells i0.size l (.slice a' l c')).run P w.drew = .ok old'.toArray w.drew ∧ VRs φ old old') → ∀ H2, HR φ H2 w → Ext φ H w φ H2 w → H2.next = H.next →
      K (.slice (some ⟨H.next, 0, none⟩) (l + n) (l + n + 1)) (H2.alloc (.cells false i0.size (old ++ xs))) →
      ∃ u' w', (Builtin.append_ #[sT, xT] rest #[.slice a' l c', x']).run P w = .ok u' w' ∧ ∃ u H' φ', K u H' ∧ VR φ' u u' ∧ HR φ' H' w' ∧ Ext φ H w φ' H' w' := by
    intro a' l c' old hlt hfit hol ⟨old', hold, hvo⟩ H2 hw2 hext hnx hK
    obtain ⟨xs', hnew, hvx⟩ := hread w.drew rfl
    have hrun := run_append_new (rest := rest) hT hnew hi hz hold hlt hfit
    rw [zeroCells_eq] at hrun
    have hge := grownCap_ge w (l + n) c' elem
    generalize hcap : grownCap w (l + n) c' elem = cap at hrun hge
    have hw3 : HR φ H2 w.drew := hw2.drawn rfl
    obtain ⟨r1, r2⟩ := hw3.alloc_cells (c := old ++ xs) (c' := old' ++ xs') (spare := zrow z.cells.toList (cap - (l + n))) (hvo.append hvx) false i0.size elem (0, 0) (.inl rfl)
    refine ⟨_, _, hrun, _, _, φ.add H2.next ⟨w.heap.size, 0, (old' ++ xs' ++ zrow z.cells.toList (cap - (l + n))).length, i0.size⟩, hK, ?_, ?_, ?_⟩
    · have hl2 : (old' ++ xs' ++ zrow z.cells.toList (cap - (l + n))).length = cap * i0.size := by
        have g1 : old'.length = l * i0.size := by rw [← hvo.1]; exact hol
        have g2 : xs'.length = n * i0.size := by rw [← hvx.1]; exact hxl
        have g3 : (zrow z.cells.toList (cap - (l + n))).length = (cap - (l + n)) * i0.size := by rw [zrow_length, Array.length_toList, hsz]
        simp only [List.length_append, g1, g2, g3, ← Nat.add_mul]
        congr 1; omega
      have := VR.sl (φ := φ.add H2.next ⟨w.heap.size, 0, (old' ++ xs' ++ zrow z.cells.toList (cap - (l + n))).length, i0.size⟩) H.next 0 (l + n) (l + n + 1) cap
        ⟨w.heap.size, 0, (old' ++ xs' ++ zrow z.cells.toList (cap - (l + n))).length, i0.size⟩ (by simp [Phi.add, hnx]) hge (by omega) (by simp only [hl2]; omega)
      simpa using this
    · have e : old'.toArray ++ xs'.toArray ++ (zrow z.cells.toList (cap - (l + n))).toArray = (old' ++ xs' ++ zrow z.cells.toList (cap - (l + n))).toArray := by simp
      rw [e]; exact r1
    · have e : old'.toArray ++ xs'.toArray ++ (zrow z.cells.toList (cap - (l + n))).toArray = (old' ++ xs' ++ zrow z.cells.toList (cap - (l + n))).toArray := by simp
      rw [e]; exact (hext.trans (Ext.drawn (w' := w.drew) rfl rfl rfl)).trans r2
  unfold aapp at h
  split at h
  · rename_i base l c
    rcases h with ⟨rfl, hK⟩ | ⟨hn, hfit, h⟩
    · -- nothing is appended
      have hxs0 : xs = [] := List.eq_nil_of_length_eq_zero (by omega)
      subst hxs0
      obtain ⟨xs', hnew, hvx⟩ := hread w rfl
      have : xs' = [] := hvx.inv_nil
      subst this
      have : ∃ c', s' = .slice (match s' with | .slice a _ _ => a | _ => none) l c' ∧ l ≤ c' := by
        cases hs with
        | nilsl => exact ⟨_, rfl, Nat.le_refl _⟩
        | sl b o _ _ c' i hi hl ht hz => exact ⟨_, rfl, hl⟩
        | nowhere a _ c' hc => exact ⟨_, rfl, Nat.zero_le _⟩
      obtain ⟨c', hs', hlc⟩ := this
      generalize (match s' with | .slice a _ _ => a | _ => none) = a' at hs'
      subst hs'
      refine ⟨.slice a' l c', w, ?_, _, _, _, hK, hs, hw, Ext.refl _ _ _⟩
      cases a' with
      | none => exact run_append_none (rest := rest) hT hnew hi hlc
      | some a => exact run_append_in (rest := rest) (n := 0) hT hnew hi hz hlc rfl
    · cases hs with
      | nilsl =>
        simp only at h
        exact fresh none 0 0 [] (by omega) hfit (by simp) ⟨[], rfl, .nil⟩ H hw (Ext.refl _ _ _) rfl (by simpa using h)
      | nowhere a _ c' hc =>
        simp only at h
        rcases h with ⟨rfl, h⟩ | h
        · obtain rfl := hc rfl
          obtain ⟨n0, old, old', hK, hvo, hol, hlo, hfo, hnl, _⟩ := sliceC_sound (P := P) h (VR.nowhere a 0 0 fun _ => rfl) (hw.drawn (w' := w.drew) rfl)
          obtain rfl := hnl _ _ _ rfl
          exact fresh (some a) 0 0 old (by omega) hfit hol ⟨old', hfo, hvo⟩ H hw (Ext.refl _ _ _) rfl hK
        · split at h
          · rename_i hb; exact absurd rfl (hw.get_pos hb)
          · exact h.elim
      | sl b o _ _ c' i hib hl ht hz1 =>
        simp only at h
        rcases h with ⟨rfl, h⟩ | h
        · obtain rfl := ht rfl
          obtain ⟨n0, old, old', hK, hvo, hol, hlo, hfo, hnl, _⟩ := sliceC_sound (P := P) h (VR.sl b o c' c' c' i hib hl ht hz1) (hw.drawn (w' := w.drew) rfl)
          obtain rfl := hnl _ _ _ rfl
          exact fresh (some _) n0 n0 old (by omega) hfit hol ⟨old', hfo, hvo⟩ H hw (Ext.refl _ _ _) rfl hK
        · split at h
          · rename_i es' cs hb
            obtain ⟨rfl, hes0, hoc, hall, hK⟩ := h
            have hes : i0.size = i.es := hw.es hb hib
            by_cases hin : l + n ≤ c'
            · -- in place
              obtain ⟨xs', hnew, hvx⟩ := hread w rfl
              have hroom : i.off + o + l * i0.size + xs.length ≤ i.rsize := by
                have : (l + n) * i.es ≤ c' * i.es := Nat.mul_le_mul_right _ hin
                rw [Nat.add_mul] at this
                rw [hxl, hes]; omega
              obtain ⟨r1, r2⟩ := hw.extend hb hib hoc hvx hroom hes0
              obtain ⟨i', hi', rc, el, fz, q1, q2, q3, q4⟩ := hw.dom b _ hb
              obtain rfl : i = i' := by rw [hib] at hi'; exact Option.some.inj hi'
              obtain ⟨q3a, q3b, q3c⟩ := q3 rfl
              have hst := run_storeCells (P := P) xs' w i.rb (i.off + o + l * i0.size) 0 rc el fz q1 (by rw [← hvx.1]; omega) (fun j hj => by rcases q3c with q3c | q3c <;> omega) (hvx.oneCell hone)
              have hrun := run_append_in (rest := rest) (a' := ⟨i.rb, i.off + o, none⟩) hT hnew hi hz hin (by rw [addr_add]; exact hst)
              refine ⟨_, _, hrun, _, _, φ.add H.next ⟨i.rb, i.off + o, i.rsize, i.es⟩, hK, ?_, r1, r2⟩
              have := VR.sl (φ := φ.add H.next ⟨i.rb, i.off + o, i.rsize, i.es⟩) H.next 0 (l + n) (l + n + 1) c' ⟨i.rb, i.off + o, i.rsize, i.es⟩ (by simp [Phi.add]) hin (by omega) (by simp only; omega)
              simpa using this
            · -- a new row; the elder name goes
              have hweak : HR φ (H.drop b) w ∧ Ext φ H w φ (H.drop b) w := by
                constructor
                · refine ⟨hw.zero, hw.pos, hw.fresh, fun x k ex => ?_, fun x y k1 k2 i1 i2 ex ey => ?_⟩
                  · rw [drop_get] at ex
                    split at ex
                    · cases ex
                    · exact hw.dom x k ex
                  · rw [drop_get] at ex ey
                    split at ex
                    · cases ex
                    · split at ey
                      · cases ey
                      · exact hw.sep x y k1 k2 i1 i2 ex ey
                · refine ⟨Phi.le_refl _, Nat.le_refl _, fun _ _ _ => rfl, fun _ _ => rfl, fun x k j ex hj => ?_, fun x e1 c1 ex => ?_, Nat.le_refl _, rfl, rfl⟩
                  · rw [drop_get] at ex
                    split at ex
                    · cases ex
                    · exact .inr ⟨x, k, j, ex, id, hj, rfl⟩
                  · rw [drop_get, if_neg (by rintro rfl; rw [hb] at ex; cases ex)]
                    exact ex
              have hs0 : sliceC H i0.size (.slice (some ⟨b, o, none⟩) l c) fun m old => m = l ∧ old = (cs.drop o).take (l * i0.size) := by
                unfold sliceC
                simp only
                right
                rw [hb]
                simp [hoc]
              obtain ⟨n0, old, old', ⟨rfl, rfl⟩, hvo, hol, hlo, hfo, _, _⟩ := sliceC_sound (P := P) hs0 (VR.sl b o l c c' i hib hl ht hz1) (hw.drawn (w' := w.drew) rfl)
              exact fresh (some _) n0 c' _ (by omega) hfit hol ⟨old', hfo, hvo⟩ (H.drop b) hweak.1 hweak.2 rfl hK
          · exact h.elim
  · exact h.elim

end Go.Lift
