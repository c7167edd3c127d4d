import GoSem.Dispatch
import Derived.Test.YtdmhefbbicadnaaGreatL2
/-! The lifted logic, part 3: operations on the abstract heap, and that the model's do the same: loads, stores, new variables, structs. -/
namespace Go.Lift

/-! ### Values of a type's kind -/

def shp1 (d : Option TypeDesc) (v : Value) (K : Value → Prop) : Prop :=
  match d with
  | some (.int k) => (match v with | .int k' n => k = k' ∧ K (.int k n) | _ => False)
  | some .bool => (match v with | .bool b => K (.bool b) | _ => False)
  | some .string => (match v with | .string s => K (.string s) | _ => False)
  | some (.pointer _) => (match v with | .pointer a => K (.pointer a) | _ => False)
  | some (.slice _) => (match v with | .slice a l c => K (.slice a l c) | _ => False)
  | some (.map _ _) => (match v with | .map r => K (.map r) | _ => False)
  | _ => K v

theorem shp1_elim {d : Option TypeDesc} {v : Value} {K : Value → Prop} (h : shp1 d v K) : K v := by
  unfold shp1 at h
  split at h
  · split at h
    · obtain ⟨rfl, h⟩ := h; exact h
    · exact h.elim
  all_goals first
    | exact h
    | (split at h <;> first | exact h | exact h.elim)

def shpL : List (Option TypeDesc) → List Value → (List Value → Prop) → Prop
  | [], [], K => K []
  | d :: ds, v :: vs, K => shp1 d v fun u => shpL ds vs fun us => K (u :: us)
  | _, _, _ => False

theorem shpL_elim : ∀ {ds : List (Option TypeDesc)} {vs : List Value} {K : List Value → Prop}, shpL ds vs K → K vs
  | [], [], _, h => h
  | [], _ :: _, _, h => h.elim
  | _ :: _, [], _, h => h.elim
  | d :: ds, v :: vs, K, h => by
    have h' : shpL ds vs fun us => K (v :: us) := shp1_elim (K := fun u => shpL ds vs fun us => K (u :: us)) h
    exact shpL_elim (K := fun us => K (v :: us)) h'

/-- The kinds of a type's cells. -/
def cellDs (P : Program) : Nat → TypeId → List (Option TypeDesc)
  | 0, _ => []
  | n + 1, t => match P.underlying t with
    | some (.struct fs) => fs.toList.flatMap fun f => cellDs P n f.type
    | some (.array k e) => (List.replicate k (cellDs P n e)).flatten
    | d => [d]

def isAggD : Option TypeDesc → Bool
  | some (.struct _) | some (.array _ _) => true
  | _ => false

/-- A value of a type that is no tuple. -/
def shpC (P : Program) (t : TypeId) (v : Value) (K : Value → Prop) : Prop :=
  match isAggD (P.underlying t) with
  | true => (match v with | .agg cs => shpL (cellDs P 20 t) cs.toList fun l => K (.agg l.toArray) | _ => False)
  | false => shp1 (P.underlying t) v K

theorem shpC_elim {P : Program} {t : TypeId} {v : Value} {K : Value → Prop} (h : shpC P t v K) : K v := by
  unfold shpC at h
  split at h
  · split at h
    · have := shpL_elim h; simpa using this
    · exact h.elim
  · exact shp1_elim h

def shpT (P : Program) : List TypeId → List Value → (List Value → Prop) → Prop
  | [], [], K => K []
  | t :: ts, v :: vs, K => shpC P t v fun u => shpT P ts vs fun us => K (u :: us)
  | _, _, _ => False

theorem shpT_elim {P : Program} : ∀ {ts : List TypeId} {vs : List Value} {K : List Value → Prop}, shpT P ts vs K → K vs
  | [], [], _, h => h
  | [], _ :: _, _, h => h.elim
  | _ :: _, [], _, h => h.elim
  | t :: ts, v :: vs, K, h => by
    have h' : shpT P ts vs fun us => K (v :: us) := shpC_elim (K := fun u => shpT P ts vs fun us => K (u :: us)) h
    exact shpT_elim (K := fun us => K (v :: us)) h'

/-- A value of a call's result type. -/
def shp (P : Program) (t : TypeId) (v : Value) (K : Value → Prop) : Prop :=
  match P.underlying t with
  | some (.tuple ts) => (match v with | .tuple vs => shpT P ts.toList vs.toList fun l => K (.tuple l.toArray) | _ => False)
  | _ => shpC P t v K

theorem shp_elim {P : Program} {t : TypeId} {v : Value} {K : Value → Prop} (h : shp P t v K) : K v := by
  unfold shp at h
  split at h
  · split at h
    · have := shpT_elim h; simpa using this
    · exact h.elim
  · exact shpC_elim h

/-! ### Loads -/

def ldL (c : List Value) (o : Nat) : List (Option TypeDesc) → (List Value → Prop) → Prop
  | [], K => K []
  | d :: ds, K => match c[o]? with
    | some v => shp1 d v fun u => ldL c (o + 1) ds fun us => K (u :: us)
    | none => False

theorem ldL_elim {c : List Value} : ∀ {ds : List (Option TypeDesc)} {o : Nat} {K : List Value → Prop}, o ≤ c.length → ldL c o ds K → o + ds.length ≤ c.length ∧ K ((c.drop o).take ds.length)
  | [], o, K, ho, h => ⟨by simpa using ho, by simpa [ldL] using h⟩
  | d :: ds, o, K, ho, h => by
    simp only [ldL] at h
    split at h
    · rename_i v hv
      have hlt : o < c.length := (List.getElem?_eq_some_iff.1 hv).1
      obtain ⟨h1, h2⟩ := ldL_elim (by omega) (shp1_elim h)
      refine ⟨by simp; omega, ?_⟩
      have e : c.drop o = v :: c.drop (o + 1) := by
        rw [List.drop_eq_getElem_cons hlt]
        congr 1
        exact (List.getElem?_eq_some_iff.1 hv).2
      rw [e]
      simpa using h2
    · exact h.elim

theorem ldL_some {c : List Value} {d : Option TypeDesc} {ds : List (Option TypeDesc)} {o : Nat} {K : List Value → Prop} (h : ldL c o (d :: ds) K) : o < c.length := by
  simp only [ldL] at h
  split at h
  · rename_i v hv; exact (List.getElem?_eq_some_iff.1 hv).1
  · exact h.elim

/-- A load of a type at an address. -/
def aload (P : Program) (t : TypeId) (a : Value) (H : Heap) (K : Value → Prop) : Prop :=
  match a with
  | .pointer (some ⟨b, o, none⟩) =>
    (match H.get b with
    | some (.cells _ _ c) =>
      (match isAggD (P.underlying t) with
      | true => (P.info? t).map (·.size) = some (cellDs P 20 t).length ∧ o ≤ c.length ∧ ldL c o (cellDs P 20 t) fun l => K (.agg l.toArray)
      | false => (P.underlying t).isSome = true ∧ (match c[o]? with
        | some v => shp1 (P.underlying t) v K
        | none => False))
    | _ => False)
  | _ => False

theorem run_underlying_some {P : Program} {t : TypeId} {d : TypeDesc} (h : P.underlying t = some d) (w : World) : (underlying t).run P w = .ok d w := by
  simp [underlying, h]

theorem run_sizeOf_some {P : Program} {t : TypeId} {n : Nat} (h : (P.info? t).map (·.size) = some n) (w : World) : (sizeOf t).run P w = .ok n w := by
  cases hi : P.info? t with
  | none => rw [hi] at h; cases h
  | some i =>
    rw [hi] at h
    simp only [Option.map_some, Option.some.injEq] at h
    simp [sizeOf, typeInfo, hi, h]

theorem run_isAgg {P : Program} {t : TypeId} {d : TypeDesc} (h : P.underlying t = some d) (w : World) : (isAgg t).run P w = .ok (isAggD (some d)) w := by
  unfold isAgg
  rw [Sem.run_bind, run_underlying_some h]
  cases d <;> rfl

theorem aload_sound {P : Program} {t : TypeId} {a a' : Value} {H : Heap} {K : Value → Prop} {φ : Phi} {w : World} (h : aload P t a H K) (ha : VR φ a a') (hw : HR φ H w) :
    ∃ u u', (∀ w2 : World, (∀ ad, a' = .pointer (some ad) → w2.heap[ad.block]? = w.heap[ad.block]?) → (Instr.loadAt t a').run P w2 = .ok u' w2) ∧ K u ∧ VR φ u u' := by
  unfold aload at h
  split at h
  · rename_i b o
    cases ha with
    | ptr _ _ i hi =>
      split at h
      · rename_i ro es c hc
        have hs : ∀ w, (Instr.sureAddr (.pointer (some ⟨i.rb, i.off + o, none⟩))).run P w = .ok ⟨i.rb, i.off + o, none⟩ w := fun _ => rfl
        split at h
        · rename_i hagg
          obtain ⟨hsz, ho, h⟩ := h
          obtain ⟨hlen, hK⟩ := ldL_elim ho h
          obtain ⟨vs', hrun, hvs⟩ := hw.loadCells (P := P) hc hi hlen
          cases hu : P.underlying t with
          | none => rw [hu] at hagg; cases hagg
          | some d =>
            rw [hu] at hagg
            refine ⟨_, .agg vs'.toArray, ?_, hK, VR.agg_of (by simpa using hvs)⟩
            intro w2 hw2
            have hrun := hrun w2 (hw2 _ rfl)
            simp only [Instr.loadAt, Sem.run_bind, hs, Result.andThen_ok, loadVar, run_isAgg hu, hagg, if_true, run_sizeOf_some hsz, hrun, Sem.run_pure]
        · rename_i hagg
          obtain ⟨hsome, h⟩ := h
          split at h
          · rename_i v hv
            obtain ⟨v', hcell, hvr⟩ := hw.cell hc hi hv
            cases hu : P.underlying t with
            | none => rw [hu] at hsome; cases hsome
            | some d =>
              rw [hu] at hagg
              refine ⟨v, v', ?_, shp1_elim h, hvr⟩
              intro w2 hw2
              have hcell : w2.cell? ⟨i.rb, i.off + o, none⟩ = some v' := by rw [← hcell]; simp [World.cell?, hw2 _ rfl]
              simp only [Instr.loadAt, Sem.run_bind, hs, Result.andThen_ok, loadVar, run_isAgg hu, hagg, if_false, run_load, hcell, Bool.false_eq_true]
          · exact h.elim
      · exact h.elim
  · exact h.elim

/-! ### Stores -/

def astore (P : Program) (t : TypeId) (a v : Value) (H : Heap) (K : Heap → Prop) : Prop :=
  match a with
  | .pointer (some ⟨b, o, none⟩) =>
    (match H.get b with
    | some (.cells false es c) =>
      (P.info? t).map (·.size) = some v.cells.size ∧ o + v.cells.size ≤ c.length ∧ v.cells.toList.all (·.oneCell') = true ∧ K (H.set b (.cells false es (putL c o v.cells.toList)))
    | _ => False)
  | _ => False

theorem astore_sound {P : Program} {t : TypeId} {a a' v v' : Value} {H : Heap} {K : Heap → Prop} {φ : Phi} {w : World} (h : astore P t a v H K) (ha : VR φ a a') (hv : VR φ v v') (hw : HR φ H w) :
    ∃ w', (Instr.storeAt t a' v').run P w = .ok () w' ∧ ∃ H', K H' ∧ HR φ H' w' ∧ Ext φ H w φ H' w' := by
  unfold astore at h
  split at h
  · rename_i b o
    cases ha with
    | ptr _ _ i hi =>
      split at h
      · rename_i es c hc
        obtain ⟨h1, h2, h3, h4⟩ := h
        have hs : (Instr.sureAddr (.pointer (some ⟨i.rb, i.off + o, none⟩))).run P w = .ok ⟨i.rb, i.off + o, none⟩ w := rfl
        have hcv := hv.cells
        have hsz : v'.cells.size = v.cells.size := by have := hcv.1; simpa using this.symm
        obtain ⟨r1, r2⟩ := hw.putW hc hi hcv (by simpa using h2)
        refine ⟨_, ?_, _, h4, r1, r2⟩
        simp only [Instr.storeAt, Sem.run_bind, hs, Result.andThen_ok, storeVar, run_sizeOf_some h1, hsz, ne_eq, not_true, if_false]
        exact hw.run_store hc hi hcv (by simpa using h2) (hcv.oneCell h3)
      · exact h.elim
  · exact h.elim

/-! ### New variables -/

def zeroOf (P : Program) (t : TypeId) : Option Value := match (P.info? t).bind (·.zero) with
  | some z => if cst z then some z else none
  | none => none

theorem run_zeroValue {P : Program} {t : TypeId} {z : Value} (h : zeroOf P t = some z) (w : World) : (zeroValue t).run P w = .ok z w ∧ cst z = true := by
  unfold zeroOf at h
  cases hi : P.info? t with
  | none => rw [hi] at h; simp at h
  | some i =>
    rw [hi] at h
    simp only [Option.bind_some] at h
    cases hz : i.zero with
    | none => rw [hz] at h; simp at h
    | some z' =>
      rw [hz] at h
      simp only at h
      split at h
      · obtain rfl := Option.some.inj h
        exact ⟨by simp [zeroValue, typeInfo, hi, hz], by assumption⟩
      · cases h

/-- The address of a new variable that holds a value's cells. -/
def anew (v : Value) (H : Heap) (K : Value → Heap → Prop) : Prop :=
  K (.pointer (some ⟨H.next, 0, none⟩)) (H.alloc (.cells false 0 v.cells.toList))

theorem anew_sound {P : Program} {t : TypeId} {v v' : Value} {H : Heap} {K : Value → Heap → Prop} {φ : Phi} {w : World} (h : anew v H K) (hv : VR φ v v') (hw : HR φ H w) :
    ∃ a w', (newVar t v').run P w = .ok a w' ∧ ∃ u H' φ', K u H' ∧ VR φ' u (.pointer (some a)) ∧ HR φ' H' w' ∧ Ext φ H w φ' H' w' := by
  have hz : ((0, 0) : Nat × Nat).1 = ((0, 0) : Nat × Nat).2 ∨ (v'.cells.toList ++ []).length ≤ ((0, 0) : Nat × Nat).1 := .inl rfl
  obtain ⟨r1, r2⟩ := hw.alloc_cells (spare := []) hv.cells false 0 t (0, 0) hz
  refine ⟨⟨w.heap.size, 0, none⟩, w.alloc (.cells v'.cells t), ?_, _, _, φ.add H.next ⟨w.heap.size, 0, (v'.cells.toList ++ []).length, 0⟩, h, ?_, ?_, ?_⟩
  · simp [newVar, newRow]
  · have := VR.ptr (φ := φ.add H.next ⟨w.heap.size, 0, (v'.cells.toList ++ []).length, 0⟩) H.next 0 ⟨w.heap.size, 0, (v'.cells.toList ++ []).length, 0⟩ (by simp [Phi.add])
    simpa using this
  · simpa using r1
  · simpa using r2

/-! ### Structs -/

theorem VRs.set {φ : Phi} {x x' : List Value} (r : VRs φ x x') {k : Nat} {v v' : Value} (hv : VR φ v v') : VRs φ (x.set k v) (x'.set k v') := by
  refine ⟨by simp [r.1], fun j u hu => ?_⟩
  rw [List.getElem?_set] at hu
  rw [List.getElem?_set]
  by_cases hkj : k = j
  · rw [if_pos hkj] at hu ⊢
    split at hu
    · rename_i hlt
      rw [if_pos (by rw [← r.1]; exact hlt)]
      exact ⟨v', rfl, (Option.some.inj hu) ▸ hv⟩
    · cases hu
  · rw [if_neg hkj] at hu ⊢
    exact r.2 j u hu

/-- Cells put in at places (Instr.fill, over lists). -/
def fillL (place : Nat → Option (Nat × Nat)) (cells : List Value) : List (Nat × Value) → Option (List Value)
  | [] => some cells
  | (i, v) :: rest =>
    match place i with
    | none => none
    | some (off, size) =>
      if v.cells.size ≠ size || off + v.cells.size > cells.length then none
      else fillL place (putL cells off v.cells.toList) rest

theorem foldl_set_zipIdx (vs : List Value) : ∀ (c : Array Value) (off k : Nat),
    (vs.zipIdx k).foldl (fun cs (x : Value × Nat) => cs.setIfInBounds (off + x.2) x.1) c = putA c (off + k) vs := by
  induction vs with
  | nil => intros; rfl
  | cons v vs ih => intro c off k; simp only [List.zipIdx_cons, List.foldl_cons, putA]; rw [ih]; rfl

theorem putA_toList (vs : List Value) : ∀ (c : Array Value) (o : Nat), (putA c o vs).toList = putL c.toList o vs := by
  induction vs with
  | nil => intros; rfl
  | cons v vs ih => intro c o; simp [putA, putL, ih]

theorem VRs.putL {φ : Phi} {vs vs' : List Value} : ∀ {c c' : List Value} {o : Nat}, VRs φ c c' → VRs φ vs vs' → VRs φ (putL c o vs) (putL c' o vs') := by
  induction vs generalizing vs' with
  | nil => intro c c' o h hv; rw [hv.inv_nil]; exact h
  | cons v vs ih =>
    intro c c' o h hv
    obtain ⟨v', x', rfl, h1, h2⟩ := hv.inv_cons
    exact ih (h.set h1) h2

theorem fill_sound {φ : Phi} {place : Nat → Option (Nat × Nat)} : ∀ {parts parts' : List (Nat × Value)} {cells cells' r : List Value},
    fillL place cells parts = some r → VRs φ cells cells' → parts.length = parts'.length →
    (∀ (k : Nat) (x : Nat × Value), parts[k]? = some x → ∃ x' : Nat × Value, parts'[k]? = some x' ∧ x'.1 = x.1 ∧ VR φ x.2 x'.2) →
    ∃ r' : List Value, Instr.fill place cells'.toArray parts' = some r'.toArray ∧ VRs φ r r'
  | [], parts', cells, cells', r, h, hc, hl, hp => by
    have : parts' = [] := List.eq_nil_of_length_eq_zero (by simpa using hl.symm)
    subst this
    simp only [fillL, Option.some.injEq] at h
    subst h
    exact ⟨cells', rfl, hc⟩
  | (i, v) :: rest, parts', cells, cells', r, h, hc, hl, hp => by
    cases parts' with
    | nil => simp at hl
    | cons x' rest' =>
      obtain ⟨y, hy, he, hv⟩ := hp 0 (i, v) (by simp)
      simp at hy
      subst hy
      obtain ⟨i', v'⟩ := x'
      simp only at he hv
      subst he
      simp only [fillL] at h
      simp only [Instr.fill]
      cases hpl : place i' with
      | none => rw [hpl] at h; cases h
      | some os =>
        obtain ⟨off, size⟩ := os
        rw [hpl] at h
        simp only at h ⊢
        have hcv := hv.cells
        have hsz : v'.cells.size = v.cells.size := by have := hcv.1; simpa using this.symm
        have hcl : cells'.length = cells.length := hc.1.symm
        split at h
        · cases h
        · rename_i hcond
          rw [if_neg (by simpa [hsz, hcl] using hcond)]
          have key : (v'.cells.zipIdx.foldl (fun cs (x : Value × Nat) => cs.setIfInBounds (off + x.2) x.1) cells'.toArray) = (putL cells' off v'.cells.toList).toArray := by
            rw [← Array.foldl_toList]
            have : v'.cells.zipIdx.toList = v'.cells.toList.zipIdx := by simp
            rw [this, foldl_set_zipIdx]
            apply Array.ext'
            rw [putA_toList]
            simp
          have key2 : (v'.cells.zipIdx.foldl (fun cs (c, j) => cs.setIfInBounds (off + j) c) cells'.toArray) = (putL cells' off v'.cells.toList).toArray := key
          rw [key2]
          exact fill_sound h (VRs.putL hc hcv) (by simpa using hl) (fun k x hx => by simpa using hp (k + 1) x (by simpa using hx))

/-- Values of operands with a number each. -/
def avals (ρ : Operand → Option Value) : List (Nat × Operand) → Option (List (Nat × Value))
  | [] => some []
  | (i, x) :: rest => match ρ x, avals ρ rest with
    | some v, some l => some ((i, v) :: l)
    | _, _ => none

theorem avals_sound {φ : Phi} {e : Env} {a : Act} (ha : ARel φ e a) : ∀ {ps : List (Nat × Operand)} {l : List (Nat × Value)}, avals (aeval e) ps = some l →
    l.length = (ps.map fun p => (p.1, a.eval p.2)).length ∧
    ∀ (k : Nat) (x : Nat × Value), l[k]? = some x → ∃ x' : Nat × Value, (ps.map fun p => (p.1, a.eval p.2))[k]? = some x' ∧ x'.1 = x.1 ∧ VR φ x.2 x'.2
  | [], l, h => by simp only [avals, Option.some.injEq] at h; subst h; exact ⟨rfl, fun k x h => by simp at h⟩
  | (i, x) :: rest, l, h => by
    simp only [avals] at h
    split at h
    · rename_i v l' hv hl'
      obtain rfl := Option.some.inj h
      obtain ⟨h1, h2⟩ := avals_sound ha hl'
      refine ⟨by simp at h1 ⊢; exact h1, fun k y hy => ?_⟩
      cases k with
      | zero => simp at hy; subst hy; exact ⟨(i, a.eval x), by simp, rfl, ha.eval hv⟩
      | succ k => simp only [List.getElem?_cons_succ] at hy; simpa using h2 k y hy
    · cases h

/-- Where a struct's fields lie. -/
def placesOf (P : Program) : List Field → Option (List (Nat × Nat))
  | [] => some []
  | f :: fs => match (P.info? f.type).map (·.size), placesOf P fs with
    | some n, some l => some ((f.offset, n) :: l)
    | _, _ => none

theorem run_places {P : Program} (w : World) : ∀ {fs : List Field} {l : List (Nat × Nat)}, placesOf P fs = some l →
    (fs.mapM (m := Sem) fun f => do pure (f.offset, ← sizeOf f.type)).run P w = .ok l w
  | [], l, h => by simp only [placesOf, Option.some.injEq] at h; subst h; rfl
  | f :: fs, l, h => by
    simp only [placesOf] at h
    split at h
    · rename_i n l' hn hl'
      obtain rfl := Option.some.inj h
      rw [List.mapM_cons]
      simp only [Sem.run_bind, run_sizeOf_some hn, Result.andThen_ok, Sem.run_pure, run_places w hl']
    · cases h

def abuild (P : Program) (t : TypeId) (parts : List (Nat × Value)) (K : Value → Prop) : Prop :=
  match zeroOf P t with
  | some z => (match P.underlying t with
    | some (.struct fs) => (match placesOf P fs.toList with
      | some places => (match fillL (fun i => places.toArray[i]?) z.cells.toList parts with
        | some r => K (.agg r.toArray)
        | none => False)
      | none => False)
    | _ => False)
  | none => False

theorem abuild_sound {P : Program} {t : TypeId} {parts : List (Nat × Value)} {parts' : Array (Nat × Value)} {K : Value → Prop} {φ : Phi} (h : abuild P t parts K)
    (hl : parts.length = parts'.toList.length) (hp : ∀ (k : Nat) (x : Nat × Value), parts[k]? = some x → ∃ x' : Nat × Value, parts'.toList[k]? = some x' ∧ x'.1 = x.1 ∧ VR φ x.2 x'.2) :
    ∃ u u', (∀ w, (Instr.build t parts').run P w = .ok u' w) ∧ K u ∧ VR φ u u' := by
  unfold abuild at h
  split at h
  · rename_i z hz
    have hz2 := (run_zeroValue hz default).2
    split at h
    · rename_i fs hu
      split at h
      · rename_i places hpl
        split at h
        · rename_i r hr
          obtain ⟨r', hr', hvr⟩ := fill_sound (φ := φ) hr (VR.refl_cst hz2).cells hl hp
          refine ⟨_, .agg r'.toArray, ?_, h, VR.agg_of (by simpa using hvr)⟩
          intro w
          have hz1 := (run_zeroValue hz w).1
          have hm : (fs.mapM (m := Sem) fun f => do pure (f.offset, ← sizeOf f.type)).run P w = .ok places.toArray w := by
            rw [← Array.toArray_toList (xs := fs), List.mapM_toArray]
            simp only [Sem.run_map, run_places w hpl, Result.andThen_ok]
          have hz' : Instr.fill (fun i => places.toArray[i]?) z.cells parts'.toList = some r'.toArray := by simpa using hr'
          unfold Instr.build
          simp only [Sem.run_bind, hz1, Result.andThen_ok, run_underlying_some hu, hm]
          rw [hz']
          rfl
        · exact h.elim
      · exact h.elim
    · exact h.elim
  · exact h.elim

end Go.Lift
