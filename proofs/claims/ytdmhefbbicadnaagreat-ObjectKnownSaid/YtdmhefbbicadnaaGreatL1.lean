import Derived.Laws.Sem
import Derived.Laws.World
import Derived.Test.YtdmhefbbicadnaaGreatL0
/-! The lifted logic, part 1: how the model's world turns, and the relation with it: stores, new blocks, growing. -/
namespace Go.Lift

def putL (c : List Value) (o : Nat) : List Value → List Value
  | [] => c
  | v :: vs => putL (c.set o v) (o + 1) vs

def putA (rc : Array Value) (k : Nat) : List Value → Array Value
  | [] => rc
  | v :: vs => putA (rc.setIfInBounds k v) (k + 1) vs

theorem putL_length (vs : List Value) : ∀ (c : List Value) (o : Nat), (putL c o vs).length = c.length := by
  induction vs with
  | nil => intros; rfl
  | cons v vs ih => intro c o; simp [putL, ih]

theorem putA_size (vs : List Value) : ∀ (c : Array Value) (o : Nat), (putA c o vs).size = c.size := by
  induction vs with
  | nil => intros; rfl
  | cons v vs ih => intro c o; simp [putA, ih]

theorem putA_lt (vs : List Value) : ∀ (c : Array Value) (o j : Nat), j < o → (putA c o vs)[j]? = c[j]? := by
  induction vs with
  | nil => intros; rfl
  | cons v vs ih => intro c o j h; simp only [putA]; rw [ih _ _ _ (by omega), Array.getElem?_setIfInBounds_ne (by omega)]

theorem putA_ge (vs : List Value) : ∀ (c : Array Value) (o j : Nat), o + vs.length ≤ j → (putA c o vs)[j]? = c[j]? := by
  induction vs with
  | nil => intros; rfl
  | cons v vs ih => intro c o j h; simp at h; simp only [putA]; rw [ih _ _ _ (by omega), Array.getElem?_setIfInBounds_ne (by omega)]

theorem putA_in (vs : List Value) : ∀ (c : Array Value) (o k : Nat), o + vs.length ≤ c.size → k < vs.length → (putA c o vs)[o + k]? = vs[k]? := by
  induction vs with
  | nil => intro c o k _ h; simp at h
  | cons v vs ih =>
    intro c o k h hk
    simp at h hk
    simp only [putA]
    cases k with
    | zero => rw [putA_lt _ _ _ _ (by omega)]; simp [show o < c.size by omega]
    | succ k =>
      rw [show o + (k + 1) = (o + 1) + k by omega, ih _ _ _ (by simp; omega) (by omega)]
      simp

theorem putL_lt (vs : List Value) : ∀ (c : List Value) (o j : Nat), j < o → (putL c o vs)[j]? = c[j]? := by
  induction vs with
  | nil => intros; rfl
  | cons v vs ih => intro c o j h; simp only [putL]; rw [ih _ _ _ (by omega), List.getElem?_set_ne (by omega)]

theorem putL_ge (vs : List Value) : ∀ (c : List Value) (o j : Nat), o + vs.length ≤ j → (putL c o vs)[j]? = c[j]? := by
  induction vs with
  | nil => intros; rfl
  | cons v vs ih => intro c o j h; simp at h; simp only [putL]; rw [ih _ _ _ (by omega), List.getElem?_set_ne (by omega)]

theorem putL_in (vs : List Value) : ∀ (c : List Value) (o k : Nat), o + vs.length ≤ c.length → k < vs.length → (putL c o vs)[o + k]? = vs[k]? := by
  induction vs with
  | nil => intro c o k _ h; simp at h
  | cons v vs ih =>
    intro c o k h hk
    simp at h hk
    simp only [putL]
    cases k with
    | zero => rw [putL_lt _ _ _ _ (by omega)]; simp [show o < c.length by omega]
    | succ k =>
      rw [show o + (k + 1) = (o + 1) + k by omega, ih _ _ _ (by simp; omega) (by omega)]
      simp

def putW (w : World) (r k : Nat) (vs : List Value) : World :=
  { w with heap := w.heap.modify r fun
      | .cells c e f => .cells (putA c k vs) e f
      | o => o }

theorem putW_heap_same {w : World} {r k : Nat} {vs : List Value} {rc : Array Value} {e : TypeId} {f : Nat × Nat} (h : w.heap[r]? = some (.cells rc e f)) :
    (putW w r k vs).heap[r]? = some (.cells (putA rc k vs) e f) := by
  have hr : r < w.heap.size := (Array.getElem?_eq_some_iff.1 h).1
  have hg : w.heap[r] = .cells rc e f := (Array.getElem?_eq_some_iff.1 h).2
  simp [putW, Array.getElem?_modify, h]

theorem putW_heap_ne {w : World} {r k s : Nat} {vs : List Value} (h : r ≠ s) : (putW w r k vs).heap[s]? = w.heap[s]? := by
  simp [putW, Array.getElem?_modify, h]

theorem putW_size {w : World} {r k : Nat} {vs : List Value} : (putW w r k vs).heap.size = w.heap.size := by simp [putW]

theorem setCell_putW {w : World} {r k : Nat} {v : Value} : w.setCell ⟨r, k, none⟩ v = putW w r k [v] := by
  unfold World.setCell putW
  simp only [putA]
  congr 1

theorem putW_putW {w : World} {r k : Nat} {v : Value} {vs : List Value} : putW (putW w r k [v]) r (k + 1) vs = putW w r k (v :: vs) := by
  unfold putW
  congr 1
  apply Array.ext
  · simp
  · intro j h1 h2
    simp only [Array.size_modify] at h1
    by_cases hj : r = j
    · subst hj
      simp only [Array.getElem_modify, if_true]
      cases w.heap[r] <;> simp [putA]
    · simp [Array.getElem_modify, hj]

theorem putW_nil {w : World} {r k : Nat} : putW w r k [] = w := by
  have : (w.heap.modify r fun | .cells c e f => .cells (putA c k []) e f | o => o) = w.heap := by
    apply Array.ext
    · simp
    · intro j h1 h2
      by_cases hj : r = j
      · subst hj
        simp only [Array.getElem_modify, if_true]
        cases w.heap[r] <;> simp [putA]
      · simp [Array.getElem_modify, hj]
  unfold putW
  rw [this]

theorem addr_add (r k n : Nat) : (⟨r, k, none⟩ : Addr).add n = ⟨r, k + n, none⟩ := by
  unfold Addr.add
  split
  · subst_vars; simp
  · rfl

theorem run_storeCells {P : Program} (vs : List Value) : ∀ (w : World) (r k i : Nat) (rc : Array Value) (e : TypeId) (f : Nat × Nat),
    w.heap[r]? = some (.cells rc e f) → k + i + vs.length ≤ rc.size → (∀ j, j < rc.size → ¬ (f.1 ≤ j ∧ j < f.2)) → (∀ v ∈ vs, v.oneCell' = true) →
    (storeCells ⟨r, k, none⟩ vs i).run P w = .ok () (putW w r (k + i) vs) := by
  induction vs with
  | nil => intro w r k i rc e f _ _ _ _; simp [storeCells, putW_nil]
  | cons v vs ih =>
    intro w r k i rc e f h hl hf hv
    simp at hl
    have hlt : k + i < rc.size := by omega
    have hc : w.cell? ⟨r, k + i, none⟩ = some rc[k + i] := by simp [World.cell?, h, hlt]
    have hz : w.frozen? ⟨r, k + i, none⟩ = false := by
      have := hf (k + i) hlt
      simp only [World.frozen?, h]
      rw [Bool.eq_false_iff]
      simpa using this
    simp only [storeCells, Sem.run_bind, addr_add]
    rw [run_store P w _ v .plain (hv v (by simp))]
    simp only [hc, hz, Result.andThen_ok, Bool.false_eq_true, if_false]
    rw [setCell_putW]
    have h' := putW_heap_same (k := k + i) (vs := [v]) h
    rw [ih (putW w r (k + i) [v]) r k (i + 1) _ e f h' (by rw [putA_size]; omega) (fun j hj => hf j (by rw [putA_size] at hj; exact hj)) (fun u hu => hv u (by simp [hu]))]
    rw [show k + (i + 1) = k + i + 1 by omega, putW_putW]

theorem run_loadCellsFrom {P : Program} {w : World} (vs : List Value) : ∀ (r k i : Nat) (acc : Array Value),
    (∀ (j : Nat) (v : Value), vs[j]? = some v → w.cell? ⟨r, k + (i + j), none⟩ = some v) →
    (loadCellsFrom ⟨r, k, none⟩ i vs.length acc).run P w = .ok (acc ++ vs.toArray) w := by
  induction vs with
  | nil => intro r k i acc _; simp [loadCellsFrom]
  | cons v vs ih =>
    intro r k i acc h
    have h0 := h 0 v (by simp)
    simp only [List.length_cons, loadCellsFrom, Sem.run_bind, addr_add, run_load]
    simp only [Nat.add_zero] at h0
    simp only [h0, Result.andThen_ok]
    rw [ih r k (i + 1) (acc.push v) (fun j u hu => by rw [show k + (i + 1 + j) = k + (i + (j + 1)) by omega]; exact h (j + 1) u (by simpa using hu))]
    simp

theorem run_loadCells {P : Program} {w : World} {r k : Nat} {vs : List Value}
    (h : ∀ (j : Nat) (v : Value), vs[j]? = some v → w.cell? ⟨r, k + j, none⟩ = some v) :
    (loadCells ⟨r, k, none⟩ vs.length).run P w = .ok vs.toArray w := by
  unfold loadCells
  rw [run_loadCellsFrom vs r k 0 #[] (by simpa using h)]
  simp

/-- Cells of an abstract block, loaded. -/
theorem HR.loadCells {P : Program} {φ : Phi} {H : Heap} {w : World} (h : HR φ H w) {b o n : Nat} {ro : Bool} {es : Nat} {c : List Value} {i : BI}
    (e : H.get b = some (.cells ro es c)) (hi : φ b = some i) (hn : o + n ≤ c.length) :
    ∃ vs' : List Value, (∀ w2 : World, w2.heap[i.rb]? = w.heap[i.rb]? → (Go.loadCells ⟨i.rb, i.off + o, none⟩ n).run P w2 = .ok vs'.toArray w2) ∧ VRs φ ((c.drop o).take n) vs' := by
  have hall : ∀ j, j < n → ∃ v v', c[o + j]? = some v ∧ w.cell? ⟨i.rb, i.off + (o + j), none⟩ = some v' ∧ VR φ v v' := by
    intro j hj
    have hlt : o + j < c.length := by omega
    obtain ⟨v', h1, h2⟩ := h.cell e hi (v := c[o + j]) (o := o + j) (by simp [hlt])
    exact ⟨_, v', by simp [hlt], h1, h2⟩
  have key : ∀ m, m ≤ n → ∃ vs' : List Value, vs'.length = m ∧ ∀ j, j < m → ∃ v v', c[o + j]? = some v ∧ vs'[j]? = some v' ∧ w.cell? ⟨i.rb, i.off + o + j, none⟩ = some v' ∧ VR φ v v' := by
    intro m
    induction m with
    | zero => intro _; exact ⟨[], rfl, fun j hj => by omega⟩
    | succ m ih =>
      intro hm
      obtain ⟨vs', hl, hh⟩ := ih (by omega)
      obtain ⟨v, v', h1, h2, h3⟩ := hall m (by omega)
      refine ⟨vs' ++ [v'], by simp [hl], fun j hj => ?_⟩
      by_cases hjm : j < m
      · obtain ⟨u, u', g1, g2, g3, g4⟩ := hh j hjm
        exact ⟨u, u', g1, by rw [List.getElem?_append_left (by omega)]; exact g2, g3, g4⟩
      · obtain rfl : j = m := by omega
        exact ⟨v, v', h1, by rw [← hl]; simp, by rw [show i.off + o + j = i.off + (o + j) by omega]; exact h2, h3⟩
  obtain ⟨vs', hl, hh⟩ := key n (Nat.le_refl _)
  refine ⟨vs', ?_, by simp [hl]; omega, fun k v hv => ?_⟩
  · intro w2 hw2
    have hcell : ∀ off, w2.cell? ⟨i.rb, off, none⟩ = w.cell? ⟨i.rb, off, none⟩ := fun off => by simp [World.cell?, hw2]
    rw [← hl]
    refine run_loadCells fun j v hv => ?_
    rw [hcell]
    have hj : j < n := by
      have := (List.getElem?_eq_some_iff.1 hv).1
      omega
    obtain ⟨u, u', _, g2, g3, _⟩ := hh j hj
    rw [hv] at g2
    exact (Option.some.inj g2) ▸ g3
  · rw [List.getElem?_take] at hv
    split at hv
    · rename_i hk
      rw [List.getElem?_drop] at hv
      obtain ⟨u, u', g1, g2, _, g4⟩ := hh k hk
      rw [hv] at g1
      exact ⟨u', g2, (Option.some.inj g1) ▸ g4⟩
    · cases hv

/-! ### New blocks -/

def Phi.add (φ : Phi) (b : Nat) (i : BI) : Phi := fun x => if x = b then some i else φ x

theorem Phi.le_add {φ : Phi} {b : Nat} {i : BI} (h : φ b = none) : φ.le (φ.add b i) := by
  intro x j e
  unfold Phi.add
  split
  · subst_vars; rw [h] at e; cases e
  · exact e

theorem HR.no_next {φ : Phi} {H : Heap} {w : World} (h : HR φ H w) : φ H.next = none := by
  cases e : φ H.next with
  | none => rfl
  | some i => exact absurd (h.fresh _ _ e) (Nat.lt_irrefl _)

theorem BlkR.mono {φ φ' : Phi} {w w' : World} {i : BI} {k : Blk} (hle : φ.le φ') (hh : w'.heap[i.rb]? = w.heap[i.rb]?) (h : BlkR φ w i k) : BlkR φ' w' i k := by
  cases k with
  | cells ro es c =>
    obtain ⟨rc, elem, fz, h1, h2, h3, h4⟩ := h
    exact ⟨rc, elem, fz, hh ▸ h1, fun k v hv => let ⟨v', e, r⟩ := h2 k v hv; ⟨v', e, r.mono hle⟩, h3, h4⟩
  | map m =>
    obtain ⟨es, clock, h1, h2⟩ := h
    exact ⟨es, clock, hh ▸ h1, h2.mono hle⟩
  | loop n E ps asg body jump =>
    obtain ⟨fn, tmps, d, h1, h2, h3⟩ := h
    exact ⟨fn, tmps, d, hh ▸ h1, h2, fun t v ht => ⟨(h3 t v ht).1, (h3 t v ht).2.mono hle⟩⟩
  | iter =>
    obtain ⟨h0, m, s, c, l, h1⟩ := h
    exact ⟨h0, m, s, c, l, hh ▸ h1⟩

theorem BlkR.lt {φ : Phi} {w : World} {i : BI} {k : Blk} (h : BlkR φ w i k) : i.rb < w.heap.size := by
  cases k with
  | cells ro es c => obtain ⟨rc, elem, fz, h1, _⟩ := h; exact (Array.getElem?_eq_some_iff.1 h1).1
  | map m => obtain ⟨es, clock, h1, _⟩ := h; exact (Array.getElem?_eq_some_iff.1 h1).1
  | loop n E ps asg body jump => obtain ⟨fn, tmps, d, h1, _⟩ := h; exact (Array.getElem?_eq_some_iff.1 h1).1
  | iter => obtain ⟨_, m, s, c, l, h1⟩ := h; exact (Array.getElem?_eq_some_iff.1 h1).1

theorem HR.lt {φ : Phi} {H : Heap} {w : World} (h : HR φ H w) {b : Nat} {k : Blk} {i : BI} (e : H.get b = some k) (hi : φ b = some i) : i.rb < w.heap.size := by
  obtain ⟨i', hi', r⟩ := h.dom b k e
  obtain rfl : i = i' := by rw [hi] at hi'; exact Option.some.inj hi'
  exact r.lt

/-- A new object in the world, of which the abstract heap takes note. -/
theorem HR.alloc {φ : Phi} {H : Heap} {w : World} (h : HR φ H w) {o : Obj} {k : Blk} {i : BI} (hrb : i.rb = w.heap.size)
    (hk : BlkR (φ.add H.next i) (w.alloc o) i k) : HR (φ.add H.next i) (H.alloc k) (w.alloc o) ∧ Ext φ H w (φ.add H.next i) (H.alloc k) (w.alloc o) := by
  have hle : φ.le (φ.add H.next i) := Phi.le_add h.no_next
  have hsz : (w.alloc o).heap.size = w.heap.size + 1 := World.size_alloc _ _
  have hold : ∀ r, r < w.heap.size → (w.alloc o).heap[r]? = w.heap[r]? := fun r hr => by
    show (w.heap.push o)[r]? = _
    rw [Array.getElem?_push, if_neg (Nat.ne_of_lt hr)]
  constructor
  · refine ⟨?_, Nat.succ_pos _, ?_, ?_, ?_⟩
    · unfold Phi.add; rw [if_neg (Nat.ne_of_lt h.pos)]; exact h.zero
    · intro b j e
      unfold Phi.add at e
      show b < H.next + 1
      split at e
      · omega
      · have := h.fresh b j e; omega
    · intro b kk e
      simp only [Heap.alloc] at e
      split at e
      · rename_i hb
        obtain rfl : k = kk := Option.some.inj e
        exact ⟨i, by simp [Phi.add, hb], hk⟩
      · rename_i hb
        obtain ⟨j, hj, r⟩ := h.dom b kk e
        exact ⟨j, by simp [Phi.add, hb, hj], r.mono hle (hold _ r.lt)⟩
    · intro b b' k1 k2 i1 i2 e1 e2 p1 p2 hne hrw
      simp only [Heap.alloc] at e1 e2
      unfold Phi.add at p1 p2
      by_cases hb : b = H.next
      · by_cases hb' : b' = H.next
        · exact absurd (hb.trans hb'.symm) hne
        · rw [if_pos hb] at p1; rw [if_neg hb'] at p2 e2
          obtain rfl : i = i1 := Option.some.inj p1
          have := h.lt e2 p2
          omega
      · rw [if_neg hb] at p1 e1
        by_cases hb' : b' = H.next
        · rw [if_pos hb'] at p2
          obtain rfl : i = i2 := Option.some.inj p2
          have := h.lt e1 p1
          omega
        · rw [if_neg hb'] at p2 e2
          exact h.sep b b' k1 k2 i1 i2 e1 e2 p1 p2 hne hrw
  · refine ⟨hle, by omega, fun r hr _ => hold r hr, fun x hx => if_neg (Nat.ne_of_lt hx), ?_, ?_, Nat.le_succ _, rfl, rfl⟩
    · intro b k1 i1 e1 p1
      simp only [Heap.alloc] at e1
      unfold Phi.add at p1
      by_cases hb : b = H.next
      · rw [if_pos hb] at p1
        obtain rfl : i = i1 := Option.some.inj p1
        exact .inl (by omega)
      · rw [if_neg hb] at p1 e1
        exact .inr ⟨b, k1, i1, e1, id, p1, rfl⟩
    · intro b es c e
      have := h.get_lt e
      simp only [Heap.alloc]
      rw [if_neg (by omega)]
      exact e

/-- A new row of cells, spare ones behind. -/
theorem HR.alloc_cells {φ : Phi} {H : Heap} {w : World} (h : HR φ H w) {c c' spare : List Value} (hc : VRs φ c c') (ro : Bool) (es : Nat) (elem : TypeId) (fz : Nat × Nat)
    (hz : fz.1 = fz.2 ∨ (c' ++ spare).length ≤ fz.1) :
    HR (φ.add H.next ⟨w.heap.size, 0, (c' ++ spare).length, es⟩) (H.alloc (.cells ro es c)) (w.alloc (.cells (c' ++ spare).toArray elem fz)) ∧
    Ext φ H w (φ.add H.next ⟨w.heap.size, 0, (c' ++ spare).length, es⟩) (H.alloc (.cells ro es c)) (w.alloc (.cells (c' ++ spare).toArray elem fz)) := by
  refine h.alloc (i := ⟨w.heap.size, 0, (c' ++ spare).length, es⟩) rfl ⟨(c' ++ spare).toArray, elem, fz, ?_, ?_, ?_, rfl, fun _ => rfl⟩
  · show (w.heap.push _)[w.heap.size]? = _
    rw [Array.getElem?_push, if_pos rfl]
  · intro k v hv
    obtain ⟨v', e, r⟩ := hc.2 k v hv
    have hk : k < c'.length := (List.getElem?_eq_some_iff.1 e).1
    refine ⟨v', ?_, r.mono (Phi.le_add h.no_next)⟩
    simp only [Nat.zero_add, List.getElem?_toArray]
    rw [List.getElem?_append_left hk]
    exact e
  · intro _
    exact ⟨by simp, by simp [hc.1], hz⟩

/-! ### Stores -/

theorem HR.putW {φ : Phi} {H : Heap} {w : World} (h : HR φ H w) {b o es : Nat} {c vs vs' : List Value} {i : BI} (e : H.get b = some (.cells false es c)) (hi : φ b = some i)
    (hv : VRs φ vs vs') (hl : o + vs.length ≤ c.length) :
    HR φ (H.set b (.cells false es (putL c o vs))) (putW w i.rb (i.off + o) vs') ∧ Ext φ H w φ (H.set b (.cells false es (putL c o vs))) (putW w i.rb (i.off + o) vs') := by
  obtain ⟨i', hi', rc, elem, fz, h1, h2, h3, h3b⟩ := h.dom b _ e
  obtain rfl : i = i' := by rw [hi] at hi'; exact Option.some.inj hi'
  obtain ⟨h3a, h3c, h3d⟩ := h3 rfl
  have hvl : vs'.length = vs.length := hv.1.symm
  constructor
  · refine ⟨h.zero, h.pos, h.fresh, ?_, ?_⟩
    · intro b' k' e'
      simp only [Heap.set] at e'
      by_cases hb : b' = b
      · rw [if_pos hb] at e'
        obtain rfl := Option.some.inj e'
        refine ⟨i, hb ▸ hi, putA rc (i.off + o) vs', elem, fz, putW_heap_same h1, fun k v hkv => ?_, fun _ => ⟨by rw [putA_size]; exact h3a, by rw [putL_length]; exact h3c, h3d⟩, h3b⟩
        have hk : k < c.length := by
          have := (List.getElem?_eq_some_iff.1 hkv).1
          rw [putL_length] at this
          exact this
        rcases Nat.lt_or_ge k o with hko | hko
        · rw [putL_lt _ _ _ _ hko] at hkv
          obtain ⟨v', e', r⟩ := h2 k v hkv
          exact ⟨v', by rw [putA_lt _ _ _ _ (by omega)]; exact e', r⟩
        · rcases Nat.lt_or_ge k (o + vs.length) with hk2 | hk2
          · rw [show k = o + (k - o) by omega, putL_in _ _ _ _ hl (by omega)] at hkv
            obtain ⟨v', e', r⟩ := hv.2 _ v hkv
            refine ⟨v', ?_, r⟩
            rw [show i.off + k = i.off + o + (k - o) by omega, putA_in _ _ _ _ (by omega) (by omega)]
            exact e'
          · rw [putL_ge _ _ _ _ hk2] at hkv
            obtain ⟨v', e', r⟩ := h2 k v hkv
            exact ⟨v', by rw [putA_ge _ _ _ _ (by omega)]; exact e', r⟩
      · rw [if_neg hb] at e'
        obtain ⟨j, hj, r⟩ := h.dom b' k' e'
        exact ⟨j, hj, r.mono (Phi.le_refl _) (putW_heap_ne (h.sep b b' (.cells false es c) k' i j e e' hi hj (fun x => hb x.symm) rfl))⟩
    · intro b1 b2 k1 k2 i1 i2 e1 e2 p1 p2 hne hrw
      have g : ∀ x k, (H.set b (.cells false es (putL c o vs))).get x = some k → ∃ k0, H.get x = some k0 ∧ k0.rw = k.rw := by
        intro x k hx
        simp only [Heap.set] at hx
        by_cases hb : x = b
        · rw [if_pos hb] at hx
          obtain rfl := Option.some.inj hx
          exact ⟨.cells false es c, hb ▸ e, rfl⟩
        · rw [if_neg hb] at hx; exact ⟨k, hx, rfl⟩
      obtain ⟨k1', g1, r1⟩ := g _ _ e1
      obtain ⟨k2', g2, _⟩ := g _ _ e2
      exact h.sep b1 b2 k1' k2' i1 i2 g1 g2 p1 p2 hne (r1.trans hrw)
  · refine ⟨Phi.le_refl _, by rw [putW_size]; exact Nat.le_refl _, ?_, fun _ _ => rfl, ?_, ?_, Nat.le_refl _, rfl, rfl⟩
    · intro r hr hn
      exact putW_heap_ne (hn b _ i e rfl hi)
    · intro b1 k1 i1 e1 p1
      simp only [Heap.set] at e1
      by_cases hb : b1 = b
      · rw [hb] at p1
        exact .inr ⟨b, _, i, e, fun _ => rfl, hi, by rw [hi] at p1; exact congrArg BI.rb (Option.some.inj p1)⟩
      · rw [if_neg hb] at e1; exact .inr ⟨b1, k1, i1, e1, id, p1, rfl⟩
    · intro b1 es1 c1 e1
      simp only [Heap.set]
      by_cases hb : b1 = b
      · subst hb; rw [e] at e1; cases e1
      · rw [if_neg hb]; exact e1

/-- Storing abstract cells: the run. -/
theorem HR.run_store {P : Program} {φ : Phi} {H : Heap} {w : World} (h : HR φ H w) {b o es : Nat} {c vs vs' : List Value} {i : BI} (e : H.get b = some (.cells false es c)) (hi : φ b = some i)
    (hv : VRs φ vs vs') (hl : o + vs.length ≤ c.length) (hone : ∀ v ∈ vs', v.oneCell' = true) :
    (storeCells ⟨i.rb, i.off + o, none⟩ vs').run P w = .ok () (Go.Lift.putW w i.rb (i.off + o) vs') := by
  obtain ⟨i', hi', rc, elem, fz, h1, h2, h3, h3b⟩ := h.dom b _ e
  obtain rfl : i = i' := by rw [hi] at hi'; exact Option.some.inj hi'
  obtain ⟨h3a, h3c, h3d⟩ := h3 rfl
  have := run_storeCells (P := P) vs' w i.rb (i.off + o) 0 rc elem fz h1 (by rw [← hv.1]; omega) (fun j hj => by rcases h3d with h3d | h3d <;> omega) hone
  simpa using this

theorem VR.oneCell {φ : Phi} {v v' : Value} (h : VR φ v v') (ho : v.oneCell' = true) : v'.oneCell' = true := by
  cases h <;> simp_all [Value.oneCell']

theorem VRs.oneCell {φ : Phi} {vs vs' : List Value} (h : VRs φ vs vs') (ho : vs.all (·.oneCell') = true) : ∀ v ∈ vs', v.oneCell' = true := by
  intro v hv
  obtain ⟨k, hk⟩ := List.mem_iff_getElem?.1 hv
  have hkl : k < vs.length := by have := (List.getElem?_eq_some_iff.1 hk).1; rw [h.1]; exact this
  obtain ⟨v', e, r⟩ := h.2 k vs[k] (by simp [hkl])
  rw [hk] at e
  obtain rfl := Option.some.inj e
  exact r.oneCell (List.all_eq_true.1 ho _ (List.getElem_mem hkl))

end Go.Lift
