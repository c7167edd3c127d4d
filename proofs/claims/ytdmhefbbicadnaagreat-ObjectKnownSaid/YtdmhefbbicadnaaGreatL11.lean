import Derived.Test.YtdmhefbbicadnaaGreatL10
/-! The lifted logic, part 11: regions, in the order of the text and in every order that the language allows. -/
namespace Go.Lift

/-- An operation with its guard. -/
def gop (P : Program) (ops : Array Oper) (i : Nat) (e : Env) (H : Heap) (K : Value → Heap → Prop) (Kp : List PanicEntry → Heap → Prop) : Prop :=
  match ops[i]? with
  | none => False
  | some o => match o.guard with
    | none => lop P e o H K Kp
    | some (g, b) => match ((ops[g]?).bind (·.dst)).bind (eget e) with
      | some (.bool t) => if t = b then lop P e o H K Kp else K undef H
      | some (.tuple _) => K undef H
      | _ => False

/-- The temporary of operation i. -/
def dstOf (ops : Array Oper) (i : Nat) : Option Nat := (ops[i]?).bind (·.dst)

theorem VR.undef {φ : Phi} : VR φ undef undef := .tuple _ _ rfl fun j h => by simp at h

theorem gop_sound {P : Program} {ops : Array Oper} {i : Nat} {e : Env} {H : Heap} {K : Value → Heap → Prop} {Kp : List PanicEntry → Heap → Prop} {φ : Phi} {a : Act} {w : World}
    (h : gop P ops i e H K Kp) (ha : ARel φ e a) (hw : HR φ H w) {next : Act → World → Prop} {Q : Exit → Act → World → Prop}
    (hn : ∀ v v' H' φ' w', K v H' → VR φ' v v' → HR φ' H' w' → Ext φ H w φ' H' w' → next (a.put (dstOf ops i) v') w')
    (hp : ∀ ch ch' H' φ' w', Kp ch H' → CR φ' ch ch' → HR φ' H' w' → Ext φ H w φ' H' w' → Q (.panic ch') a w') {F : Fence} (hF : WF F) : wpOpIn F 0 P ops Q i next a w := by
  unfold gop at h
  unfold wpOpIn
  split at h
  · exact h.elim
  · rename_i o ho
    have hd : dstOf ops i = o.dst := by simp [dstOf, ho]
    rw [hd] at hn
    simp only [ho]
    split at h
    · rename_i hg
      have hwt : Region.wanted o (yielded ops a.tmps) = true := by simp [Region.wanted, hg]
      simp only [hwt, if_true]
      exact lop_sound h ha hw hn hp hF
    · rename_i g b hg
      have key : ∀ v, ((ops[g]?).bind (·.dst)).bind (eget e) = some v → ∃ v', ((ops[g]?).bind (·.dst)).bind (a.tmps[·]?) = some v' ∧ VR φ v v' := by
        intro v hv
        cases hx : (ops[g]?).bind (·.dst) with
        | none => rw [hx] at hv; cases hv
        | some d =>
          rw [hx] at hv
          simp only [Option.bind_some] at hv ⊢
          obtain ⟨h1, h2⟩ := ha.2 d v hv
          have hlt : d < a.tmps.size := by rw [ha.1]; exact h1
          exact ⟨a.tmps[d], by simp [hlt], by simpa [hlt] using h2⟩
      split at h
      · rename_i t ht
        obtain ⟨v', h1, h2⟩ := key _ ht
        cases h2
        have hy : yielded ops a.tmps g = some t := by unfold yielded; rw [h1]
        have hwt : Region.wanted o (yielded ops a.tmps) = decide (t = b) := by
          simp only [Region.wanted, hg, hy]
          cases t <;> cases b <;> rfl
        split at h
        · rename_i hb
          simp only [hwt, hb, decide_true, if_true]
          exact lop_sound h ha hw hn hp hF
        · rename_i hb
          simp only [hwt, hb, decide_false, Bool.false_eq_true, if_false]
          exact ⟨fun f _ => hF.fn f, hn undef undef H φ w h .undef hw (Ext.refl _ _ _)⟩
      · rename_i vs ht
        obtain ⟨v', h1, h2⟩ := key _ ht
        have hy : yielded ops a.tmps g = none := by unfold yielded; rw [h1]; cases h2; rfl
        have hwt : Region.wanted o (yielded ops a.tmps) = false := by simp [Region.wanted, hg, hy]
        simp only [hwt, Bool.false_eq_true, if_false]
        exact ⟨fun f _ => hF.fn f, hn undef undef H φ w h .undef hw (Ext.refl _ _ _)⟩
      · exact h.elim

/-! ### In the text's order -/

def dstsOK (ops : Array Oper) (n : Nat) : Bool := ops.all fun o => match o.dst with | none => true | some d => d < n

theorem dstsOK_spec {ops : Array Oper} {n : Nat} (h : dstsOK ops n = true) (i t : Nat) (ht : dstOf ops i = some t) : t < n := by
  unfold dstOf at ht
  cases ho : ops[i]? with
  | none => rw [ho] at ht; cases ht
  | some o =>
    rw [ho] at ht
    simp only [Option.bind_some] at ht
    obtain ⟨hi, rfl⟩ := Array.getElem?_eq_some_iff.1 ho
    have := Array.all_eq_true.1 h i hi
    rw [ht] at this
    simpa using this

def aops (P : Program) (ops : Array Oper) (K : AExit → Env → Heap → Prop) : List Nat → Env → Heap → Prop
  | [], e, H => K .normal e H
  | i :: rest, e, H => gop P ops i e H (fun v H' => aops P ops K rest (e.put (dstOf ops i) v) H') fun ch H' => K (.panic ch) e H'

theorem Env.put_n (e : Env) (d : Option Nat) (v : Value) : (e.put d v).n = e.n := by cases d <;> rfl
theorem Act.put_size (a : Act) (d : Option Nat) (v : Value) : (a.put d v).tmps.size = a.tmps.size := by cases d <;> simp [Act.put]
theorem Act.put_defers' (a : Act) (d : Option Nat) (v : Value) : (a.put d v).defers = a.defers := by cases d <;> rfl

section
variable {P : Program} {ops : Array Oper} {K : AExit → Env → Heap → Prop}

theorem aops_sound {rf : Bool} {F : Fence} (hF : WF F) {φ0 : Phi} {H0 : Heap} {w0 : World} {a0 : Act} : ∀ (l : List Nat) (e : Env) (H : Heap) (φ : Phi) (a : Act) (w : World), dstsOK ops e.n = true →
    aops P ops K l e H → ARel φ e a → HR φ H w → Ext φ0 H0 w0 φ H w → a.defers = a0.defers → a.tmps.size = a0.tmps.size → wpOpsIn F 0 P ops (APost rf φ0 H0 w0 a0 K) l a w
  | [], e, H, φ, a, w, _, h, ha, hw, hx, hd, hs => ⟨.normal, e, H, φ, h, trivial, ha, hw, hx, .of_eq hd, hs⟩
  | i :: rest, e, H, φ, a, w, hok, h, ha, hw, hx, hd, hs => by
    rw [wpOpsIn_cons]
    refine gop_sound (hF := hF) h ha hw (fun v v' H' φ' w' k r hw' hx' => ?_) fun ch ch' H' φ' w' k r hw' hx' => ?_
    · refine aops_sound hF rest _ H' φ' _ w' (by rw [Env.put_n]; exact hok) k ((ha.mono hx'.phi).put (fun t ht => dstsOK_spec hok i t ht) r) hw' (hx.trans hx') ?_ ?_
      · rw [Act.put_defers']; exact hd
      · rw [Act.put_size]; exact hs
    · exact ⟨.panic ch, e, H', φ', k, r, ha.mono hx'.phi, hw', hx.trans hx', .of_eq hd, hs⟩

theorem acode_region {rf : Bool} {id : Nat} {e : Env} {H : Heap} (hok : dstsOK ops e.n = true) (h : aops P ops K (List.range ops.size) e H) : acode rf P (.region id ops false) K e H :=
  fun F hF _ φ a w ha hw => wpIn_region (aops_sound hF _ e H φ a w hok h ha hw (Ext.refl _ _ _) rfl rfl)

/-! ### In every order -/

def aAny (P : Program) (ops : Array Oper) (K : AExit → Env → Heap → Prop) : Nat → Array Bool → Env → Heap → Prop
  | 0, listed, e, H => Region.ready .any ops listed = [] ∧ K .normal e H
  | fuel + 1, listed, e, H =>
    (Region.ready .any ops listed = [] → K .normal e H) ∧
    ∀ i ∈ Region.ready .any ops listed, gop P ops i e H (fun v H' => aAny P ops K fuel (listed.setIfInBounds i true) (e.put (dstOf ops i) v) H') fun ch H' => K (.panic ch) e.bare H'

theorem aAny_sound {rf : Bool} {F : Fence} (hF : WF F) {φ0 : Phi} {H0 : Heap} {w0 : World} {a0 : Act} : ∀ (fuel : Nat) (listed : Array Bool) (e : Env) (H : Heap) (φ : Phi) (a : Act) (w : World), dstsOK ops e.n = true →
    aAny P ops K fuel listed e H → ARel φ e a → HR φ H w → Ext φ0 H0 w0 φ H w → a.defers = a0.defers → a.tmps.size = a0.tmps.size → wpAnyIn F 0 P .any ops (APost rf φ0 H0 w0 a0 K) fuel listed a w
  | 0, listed, e, H, φ, a, w, _, h, ha, hw, hx, hd, hs => ⟨h.1, .normal, e, H, φ, h.2, trivial, ha, hw, hx, .of_eq hd, hs⟩
  | fuel + 1, listed, e, H, φ, a, w, hok, h, ha, hw, hx, hd, hs => by
    refine ⟨fun hr => ⟨.normal, e, H, φ, h.1 hr, trivial, ha, hw, hx, .of_eq hd, hs⟩, fun i hi => ?_⟩
    refine gop_sound (hF := hF) (h.2 i hi) ha hw (fun v v' H' φ' w' k r hw' hx' => ?_) fun ch ch' H' φ' w' k r hw' hx' => ?_
    · refine aAny_sound hF fuel _ _ H' φ' _ w' (by rw [Env.put_n]; exact hok) k ((ha.mono hx'.phi).put (fun t ht => dstsOK_spec hok i t ht) r) hw' (hx.trans hx') ?_ ?_
      · rw [Act.put_defers']; exact hd
      · rw [Act.put_size]; exact hs
    · exact ⟨.panic ch, e.bare, H', φ', k, r, .bare ha.1, hw', hx.trans hx', .of_eq hd, hs⟩

theorem acode_region_any {rf : Bool} {id : Nat} {e : Env} {H : Heap} (hm : P.follows .mixedOrders = true) (hok : dstsOK ops e.n = true)
    (h : aAny P ops K ops.size (Array.replicate ops.size false) e H) : acode rf P (.region id ops true) K e H :=
  fun F hF _ φ a w ha hw => wpIn_region_any hm (aAny_sound hF _ _ e H φ a _ hok h ha (hw.drawn rfl) (Ext.drawn rfl rfl rfl) rfl rfl)
end

/-! ### What an operation does not look at -/

section
variable {e e' : Env}

theorem ev1_congr {x : Operand} (h : aeval e x = aeval e' x) : @ev1 e x = @ev1 e' x := by
  funext K
  simp only [ev1, h]

theorem evO_congr {x : Option Operand} (h : ∀ y, x = some y → aeval e y = aeval e' y) : @evO e x = @evO e' x := by
  funext K
  cases x with
  | none => rfl
  | some y => simp only [evO, ev1_congr (h y rfl)]

theorem evL_congr {l : List Operand} (h : ∀ x ∈ l, aeval e x = aeval e' x) : @evL e l = @evL e' l := by
  induction l with
  | nil => rfl
  | cons x l ih =>
    funext K
    simp only [evL]
    rw [ev1_congr (h x (by simp)), ih fun y hy => h y (by simp [hy])]

theorem apick_congr {t : Value} {x y : Operand} (hx : aeval e x = aeval e' x) (hy : aeval e y = aeval e' y) : apick e t x y = apick e' t x y := by
  funext K
  simp only [apick, ev1_congr hx, ev1_congr hy]

theorem avals_congr {l : List (Nat × Operand)} (h : ∀ p ∈ l, aeval e p.2 = aeval e' p.2) : avals (aeval e) l = avals (aeval e') l := by
  induction l with
  | nil => rfl
  | cons p l ih =>
    obtain ⟨i, x⟩ := p
    simp only [avals]
    rw [h (i, x) (by simp), ih fun y hy => h y (by simp [hy])]

theorem arr_list {α : Type} {x : Array α} {l : List α} (h : x.toList = l) {y : α} (hy : y ∈ l) : y ∈ x := by
  subst h; exact Array.mem_toList_iff.1 hy

theorem lopA_congr {P : Program} {o : Oper} (h : ∀ x ∈ o.op.operands, aeval e x = aeval e' x) : @lopA P e o = @lopA P e' o := by
  funext K
  obtain ⟨dst, op, type, pos, after, guard⟩ := o
  simp only at h
  cases op <;> simp only [lopA] <;> simp only [Op.operands] at h
  case move x => rw [ev1_congr (h x (by simp))]
  case assign x => rw [ev1_congr (h x (by simp))]
  case pick c x y =>
    rw [ev1_congr (h c (by simp))]
    have : ∀ t, apick e t x y = apick e' t x y := fun t => apick_congr (h x (by simp)) (h y (by simp))
    simp only [this]
  case build t ps => rw [avals_congr fun p hp => h p.2 (by simpa using ⟨p.1, by simpa using hp⟩)]
  case nilCheck x => rw [ev1_congr (h x (by simp))]
  case binOp op t x y z => rw [ev1_congr (h x (by simp)), ev1_congr (h y (by simp))]
  case unOp op t x => rw [ev1_congr (h x (by simp))]
  case makeInterface t x => rw [ev1_congr (h x (by simp))]
  case makeFunc fn x y => rw [evL_congr fun z hz => h z (by simp at hz ⊢; exact .inl hz), evL_congr (l := y.toList) fun z hz => h z (by simp at hz ⊢; exact .inr hz)]
  case fieldAddr s x i => rw [ev1_congr (h x (by simp))]
  case field t x i => rw [ev1_congr (h x (by simp))]
  case indexAddr t x i => rw [ev1_congr (h x (by simp)), ev1_congr (h i (by simp))]
  case index t x i => rw [ev1_congr (h x (by simp)), ev1_congr (h i (by simp))]
  case extract x i => rw [ev1_congr (h x (by simp))]
  case typeAssert x a t ok => rw [ev1_congr (h x (by simp))]
  case convert s d x => rw [ev1_congr (h x (by simp))]
  case call c =>
    have hargs : ∀ x ∈ c.args.toList, aeval e x = aeval e' x := fun x hx => h x (by simp [Call.operands] ; exact .inr (by simpa using hx))
    split
    · rename_i x t h1 h2 h3; rw [ev1_congr (hargs x (by rw [h2]; simp))]
    · rename_i x t h1 h2 h3; rw [ev1_congr (hargs x (by rw [h2]; simp))]
    · rename_i x y h1 h2; rw [ev1_congr (hargs x (by rw [h2]; simp)), ev1_congr (hargs y (by rw [h2]; simp))]
    · rename_i x y h1 h2; rw [ev1_congr (hargs x (by rw [h2]; simp)), ev1_congr (hargs y (by rw [h2]; simp))]
    · rfl

theorem lopR_congr {P : Program} {o : Oper} {H : Heap} (h : ∀ x ∈ o.op.operands, aeval e x = aeval e' x) : @lopR P e o H = @lopR P e' o H := by
  funext K
  obtain ⟨dst, op, type, pos, after, guard⟩ := o
  simp only at h
  cases op <;> simp only [lopR] <;> simp only [Op.operands] at h
  case load t x => rw [ev1_congr (h x (by simp))]
  case slice t x lo hi mx =>
    rw [ev1_congr (h x (by simp)), evO_congr (x := lo) fun y hy => h y (by simp [hy]), evO_congr (x := hi) fun y hy => h y (by simp [hy]), evO_congr (x := mx) fun y hy => h y (by simp [hy])]
  case lookup t x k ok => rw [ev1_congr (h x (by simp)), ev1_congr (h k (by simp))]
  case convert s d x => rw [ev1_congr (h x (by simp))]
  case call c =>
    have hargs : ∀ x ∈ c.args.toList, aeval e x = aeval e' x := fun x hx => h x (by simp [Call.operands] ; exact .inr (by simpa using hx))
    split
    · rename_i x t h1 h2 h3
      split
      · rw [ev1_congr (hargs x (by rw [h2]; simp))]
      · rfl
    · rfl

theorem lopW_congr {P : Program} {o : Oper} {H : Heap} (h : ∀ x ∈ o.op.operands, aeval e x = aeval e' x) : @lopW P e o H = @lopW P e' o H := by
  funext K
  obtain ⟨dst, op, type, pos, after, guard⟩ := o
  simp only at h
  cases op <;> simp only [lopW] <;> simp only [Op.operands] at h
  case box t x => rw [ev1_congr (h x (by simp))]
  case makeMap t r => cases r <;> rfl
  case buildSlice t n ps => rw [avals_congr fun p hp => h p.2 (by simpa using ⟨p.1, by simpa using hp⟩)]
  case store t x y => rw [ev1_congr (h x (by simp)), ev1_congr (h y (by simp))]
  case makeSlice t x y => rw [ev1_congr (h x (by simp)), ev1_congr (h y (by simp))]
  case mapUpdate t m k x => rw [ev1_congr (h m (by simp)), ev1_congr (h k (by simp)), ev1_congr (h x (by simp))]
  case insert t m k x => rw [ev1_congr (h m (by simp)), ev1_congr (h k (by simp)), ev1_congr (h x (by simp))]
  case convert s d x => rw [ev1_congr (h x (by simp))]
  case call c =>
    have hargs : ∀ x ∈ c.args.toList, aeval e x = aeval e' x := fun x hx => h x (by simp [Call.operands] ; exact .inr (by simpa using hx))
    split
    · rename_i x y s t h1 h2 h3; rw [ev1_congr (hargs x (by rw [h2]; simp)), ev1_congr (hargs y (by rw [h2]; simp))]
    · rfl

theorem lop_congr {P : Program} {o : Oper} {H : Heap} (h : ∀ x ∈ o.op.operands, aeval e x = aeval e' x) : lop P e o H = lop P e' o H := by
  funext K Kp
  unfold lop
  rw [lopA_congr h, lopR_congr h, lopW_congr h]
  obtain ⟨dst, op, type, pos, after, guard⟩ := o
  simp only at h
  cases op <;> simp only
  case call c =>
    simp only [Op.operands] at h
    cases hc : c.callee <;> simp only
    case value f =>
      have h1 : aeval e f = aeval e' f := h f (by simp [Call.operands, hc])
      have h2 : ∀ x ∈ c.args.toList, aeval e x = aeval e' x := fun x hx => h x (by simp [Call.operands] ; exact .inr (by simpa using hx))
      rw [ev1_congr h1, evL_congr h2]
  case panic x =>
    simp only [Op.operands] at h
    rw [ev1_congr (h x (by simp))]

end

/-! ### Commuting reads -/

def looksNot (ops : Array Oper) (i : Nat) (d : Option Nat) : Prop := ∀ o t, ops[i]? = some o → d = some t → t ∉ o.looksAt ops

theorem gop_put {P : Program} {ops : Array Oper} {i : Nat} {e : Env} {H : Heap} {d : Option Nat} {v : Value} (h : looksNot ops i d) : gop P ops i (e.put d v) H = gop P ops i e H := by
  funext K Kp
  cases d with
  | none => rfl
  | some d =>
    unfold gop
    cases ho : ops[i]? with
    | none => rfl
    | some o =>
      have hno := h o d ho rfl
      have hop : ∀ x ∈ o.op.operands, aeval (e.put (some d) v) x = aeval e x := by
        intro x hx
        cases x with
        | tmp t =>
          have : t ≠ d := fun he => hno (by
            subst he
            exact List.mem_append_left _ (List.mem_filterMap.2 ⟨.tmp t, by simpa using hx, rfl⟩))
          simp [aeval, eget, Env.put, this]
        | const u => rfl
        | func f => rfl
        | global g => rfl
      simp only [lop_congr hop]
      cases hg : o.guard with
      | none => rfl
      | some gb =>
        obtain ⟨g, b⟩ := gb
        simp only
        have : ((ops[g]?).bind (·.dst)).bind (eget (e.put (some d) v)) = ((ops[g]?).bind (·.dst)).bind (eget e) := by
          cases hx : (ops[g]?).bind (·.dst) with
          | none => rfl
          | some t =>
            have : t ≠ d := fun he => hno (by
              subst he
              exact List.mem_append_right _ (by rw [hg]; simp [hx]))
            simp [eget, Env.put, this]
        rw [this]

/-- The same, closed upwards. -/
def gopM (P : Program) (ops : Array Oper) (i : Nat) (e : Env) (H : Heap) (K : Value → Heap → Prop) (Kp : List PanicEntry → Heap → Prop) : Prop :=
  ∃ K0 Kp0, gop P ops i e H K0 Kp0 ∧ (∀ v H, K0 v H → K v H) ∧ ∀ c H, Kp0 c H → Kp c H

inductive Anc (ops : Array Oper) : Nat → Nat → Prop
  | edge {j k : Nat} {o : Oper} {ed : Edge} (h : ops[j]? = some o) (he : ed ∈ o.after) (hb : Region.binds .any ed = true) (hk : ed.on = k) : Anc ops j k
  | step {j k p : Nat} {o : Oper} {ed : Edge} (h : ops[j]? = some o) (he : ed ∈ o.after) (hb : Region.binds .any ed = true) (hk : ed.on = k) (r : Anc ops k p) : Anc ops j p

def Closed (ops : Array Oper) (listed : Array Bool) : Prop := ∀ j, listed.getD j false = true → ∀ p, Anc ops j p → listed.getD p false = true

theorem Closed.anc {ops : Array Oper} {listed : Array Bool} (hc : Closed ops listed) {j : Nat} (hj : j ∈ Region.ready .any ops listed) {p : Nat} (h : Anc ops j p) : listed.getD p false = true := by
  obtain ⟨_, o, ho, hall⟩ := mem_ready.1 hj
  cases h with
  | edge h he hb hk =>
    rw [ho] at h
    obtain rfl := Option.some.inj h
    exact hk ▸ hall _ he hb
  | step h he hb hk r =>
    rw [ho] at h
    obtain rfl := Option.some.inj h
    exact hc _ (hall _ he hb) _ (hk ▸ r)

theorem Closed.set {ops : Array Oper} {listed : Array Bool} (hc : Closed ops listed) {i : Nat} (hi : i ∈ Region.ready .any ops listed) : Closed ops (listed.setIfInBounds i true) := by
  intro j hj p hp
  refine getD_set_true ?_
  by_cases hij : i = j
  · subst hij; exact hc.anc hi hp
  · rw [getD_set_ne false hij] at hj; exact hc j hj p hp

theorem Closed.none {ops : Array Oper} {n : Nat} : Closed ops (Array.replicate n false) := by
  intro j hj
  by_cases h : j < n <;> simp [h] at hj

abbrev Obl := List (Nat × (Heap → Prop))

/-- Operation j, carried out where these are listed, leaves what the readers in L read, but for those that must stand ahead. -/
def keepsL (E : Nat → Bool) (ops : Array Oper) (L : Obl) (listed : Array Bool) (j : Nat) (H H' : Heap) : Prop :=
  ∀ p S, (p, S) ∈ L → (∃ k, E k = true ∧ (listed.getD k false = true ∨ k = j) ∧ Anc ops k p) ∨ (S H → S H')

def aAnyL (E : Nat → Bool) (P : Program) (ops : Array Oper) (K : AExit → Env → Heap → Prop) : Nat → Obl → Array Bool → Env → Heap → Prop
  | 0, _, listed, e, H => Region.ready .any ops listed = [] ∧ K .normal e H
  | fuel + 1, L, listed, e, H =>
    (Region.ready .any ops listed = [] → K .normal e H) ∧
    ∀ i ∈ Region.ready .any ops listed, gopM P ops i e H (fun v H' => keepsL E ops L listed i H H' ∧ aAnyL E P ops K fuel L (listed.setIfInBounds i true) (e.put (dstOf ops i) v) H')
      fun ch H' => K (.panic ch) e.bare H'

section
variable {P : Program} {ops : Array Oper} {K : AExit → Env → Heap → Prop} {E : Nat → Bool}

theorem aAnyL_sound {rf : Bool} {F : Fence} (hF : WF F) {φ0 : Phi} {H0 : Heap} {w0 : World} {a0 : Act} : ∀ (fuel : Nat) (L : Obl) (listed : Array Bool) (e : Env) (H : Heap) (φ : Phi) (a : Act) (w : World), dstsOK ops e.n = true →
    aAnyL E P ops K fuel L listed e H → ARel φ e a → HR φ H w → Ext φ0 H0 w0 φ H w → a.defers = a0.defers → a.tmps.size = a0.tmps.size → wpAnyIn F 0 P .any ops (APost rf φ0 H0 w0 a0 K) fuel listed a w
  | 0, L, listed, e, H, φ, a, w, _, h, ha, hw, hx, hd, hs => ⟨h.1, .normal, e, H, φ, h.2, trivial, ha, hw, hx, .of_eq hd, hs⟩
  | fuel + 1, L, listed, e, H, φ, a, w, hok, h, ha, hw, hx, hd, hs => by
    refine ⟨fun hr => ⟨.normal, e, H, φ, h.1 hr, trivial, ha, hw, hx, .of_eq hd, hs⟩, fun i hi => ?_⟩
    obtain ⟨K0, Kp0, hg, hk, hkp⟩ := h.2 i hi
    refine gop_sound (hF := hF) hg ha hw (fun v v' H' φ' w' k r hw' hx' => ?_) fun ch ch' H' φ' w' k r hw' hx' => ?_
    · refine aAnyL_sound hF fuel L _ _ H' φ' _ w' (by rw [Env.put_n]; exact hok) (hk _ _ k).2 ((ha.mono hx'.phi).put (fun t ht => dstsOK_spec hok i t ht) r) hw' (hx.trans hx') ?_ ?_
      · rw [Act.put_defers']; exact hd
      · rw [Act.put_size]; exact hs
    · exact ⟨.panic ch, e.bare, H', φ', hkp _ _ k, r, .bare ha.1, hw', hx.trans hx', .of_eq hd, hs⟩

theorem acode_region_anyL {rf : Bool} {id : Nat} {e : Env} {H : Heap} (hm : P.follows .mixedOrders = true) (hok : dstsOK ops e.n = true)
    (h : aAnyL E P ops K ops.size [] (Array.replicate ops.size false) e H) : acode rf P (.region id ops true) K e H :=
  fun F hF _ φ a w ha hw => wpIn_region_any hm (aAnyL_sound hF _ _ _ e H φ a _ hok h ha (hw.drawn rfl) (Ext.drawn rfl rfl rfl) rfl rfl)

theorem dstOf_eq {i : Nat} {o : Oper} (h : ops[i]? = some o) : dstOf ops i = o.dst := by simp [dstOf, h]

theorem put_bare (e : Env) (d : Option Nat) (v : Value) : (e.put d v).bare = e.bare := by cases d <;> rfl

/-- In such a state operation i yields v, and leaves the heap. -/
def Yld (P : Program) (ops : Array Oper) (i : Nat) (e : Env) (H : Heap) (v : Value) : Prop := ∀ K Kp, K v H → gop P ops i e H K Kp

theorem Yld.put {i : Nat} {e : Env} {H : Heap} {v : Value} {d : Option Nat} {u : Value} (hy : Yld P ops i e H v) (h : looksNot ops i d) : Yld P ops i (e.put d u) H v := by
  intro K Kp hk
  rw [gop_put h]
  exact hy K Kp hk

/-- **An operation that reads may be taken first**, if what may come up before it leaves what it reads. -/
theorem aAnyL_take {i : Nat} {oi : Oper} {v : Value} {S : Heap → Prop} (hi : ops[i]? = some oi) (hE : E i = false) : ∀ (fuel : Nat) (L : Obl) (listed : Array Bool) (e : Env) (H : Heap), Closed ops listed →
    (∀ j oj, ops[j]? = some oj → j ≠ i → listed.getD j true = false → (∀ e ∈ oj.after, Region.binds .any e = true → e.on ≠ i) → oi.apart ops oj = true) →
    i ∈ Region.ready .any ops listed → (∀ H, S H → Yld P ops i e H v) → S H →
    aAnyL E P ops K fuel ((i, S) :: L) (listed.setIfInBounds i true) (e.put (dstOf ops i) v) H → aAnyL E P ops K (fuel + 1) L listed e H := by
  intro fuel
  have weaken : ∀ (fuel : Nat) (L : Obl) (listed : Array Bool) (e : Env) (H : Heap), aAnyL E P ops K fuel ((i, S) :: L) listed e H → aAnyL E P ops K fuel L listed e H := by
    intro fuel
    induction fuel with
    | zero => intro L listed e H h; exact h
    | succ fuel ih =>
      intro L listed e H h
      refine ⟨h.1, fun j hj => ?_⟩
      obtain ⟨K0, Kp0, hg, hk, hkp⟩ := h.2 j hj
      exact ⟨K0, Kp0, hg, fun u H' k0 => ⟨fun p S' hp => (hk u H' k0).1 p S' (by simp [hp]), ih _ _ _ _ (hk u H' k0).2⟩, hkp⟩
  have self : ∀ (fuel : Nat) (L : Obl) (listed : Array Bool) (e : Env) (H : Heap), (∀ H, S H → Yld P ops i e H v) → S H →
      aAnyL E P ops K fuel L (listed.setIfInBounds i true) (e.put (dstOf ops i) v) H →
      gopM P ops i e H (fun v H' => keepsL E ops L listed i H H' ∧ aAnyL E P ops K fuel L (listed.setIfInBounds i true) (e.put (dstOf ops i) v) H') (fun ch H' => K (.panic ch) e.bare H') :=
    fun fuel L listed e H hy hS h => ⟨_, fun ch H' => K (.panic ch) e.bare H', hy H hS (fun u H' => u = v ∧ H' = H) _ ⟨rfl, rfl⟩, fun u H' ⟨h1, h2⟩ => by
        subst h1; subst h2; exact ⟨fun p S' hp => .inr id, h⟩, fun _ _ h => h⟩
  induction fuel with
  | zero =>
    intro L listed e H hcl hfree hr hy hS h
    refine ⟨fun h0 => (by rw [h0] at hr; cases hr), fun j hj => ?_⟩
    by_cases hji : j = i
    · subst hji
      exact self _ _ _ _ _ hy hS h
    · have := ready_mono hj hji
      rw [h.1] at this
      cases this
  | succ fuel ih =>
    intro L listed e H hcl hfree hr hy hS h
    refine ⟨fun h0 => (by rw [h0] at hr; cases hr), fun j hj => ?_⟩
    by_cases hji : j = i
    · subst hji
      exact self _ _ _ _ _ hy hS (weaken _ _ _ _ _ h)
    · obtain ⟨K0, Kp0, hg, hk, hkp⟩ := h.2 j (ready_mono hj hji)
      obtain ⟨hjun, oj, hoj, hall⟩ := mem_ready.1 hj
      have hiun : listed.getD i true = false := (mem_ready.1 hr).1
      have hiun' : listed.getD i false = false := by
        rcases Nat.lt_or_ge i listed.size with h' | h'
        · simpa [h'] using hiun
        · simp [h']
      have hnot : ∀ e ∈ oj.after, Region.binds .any e = true → e.on ≠ i := fun e he hb heq => by
        have h1 := hall e he hb
        rw [heq, hiun'] at h1
        cases h1
      obtain ⟨h1, h2, h3⟩ := Oper.apart_spec (hfree j oj hoj hji hjun hnot)
      have hlj : looksNot ops j (dstOf ops i) := fun o t ho ht => by
        rw [hoj] at ho
        obtain rfl := Option.some.inj ho
        exact h1 t (by rw [← dstOf_eq hi]; exact ht)
      have hli : looksNot ops i (dstOf ops j) := fun o t ho ht => by
        rw [hi] at ho
        obtain rfl := Option.some.inj ho
        exact h3 t (by rw [← dstOf_eq hoj]; exact ht)
      have hne : ∀ t, dstOf ops i = some t → dstOf ops j ≠ some t := fun t ht => by
        rw [dstOf_eq hi] at ht
        rw [dstOf_eq hoj]
        exact h2 t ht
      rw [gop_put hlj] at hg
      refine ⟨K0, Kp0, hg, fun u H' k0 => ?_, fun c H' kp => by rw [← put_bare e (dstOf ops i) v]; exact hkp c H' kp⟩
      obtain ⟨q1, q2⟩ := hk u H' k0
      have noI : ∀ k, ((listed.setIfInBounds i true).getD k false = true ∨ k = j) → Anc ops k i → False := by
        intro k hk ha
        have hl : listed.getD i false = true := by
          rcases hk with hk | hk
          · by_cases hki : i = k
            · subst hki; exact hcl.anc hr ha
            · rw [getD_set_ne false hki] at hk; exact hcl k hk i ha
          · subst hk; exact hcl.anc hj ha
        rw [hiun'] at hl
        cases hl
      have hS' : S H' := ((q1 i S (by simp)).resolve_left fun ⟨k, _, hk, ha⟩ => noI k hk ha) hS
      refine ⟨fun p S' hp => ?_, ?_⟩
      · rcases q1 p S' (by simp [hp]) with ⟨k, hEk, hk, ha⟩ | hq
        · have hki : k ≠ i := fun h => by rw [h, hE] at hEk; cases hEk
          refine .inl ⟨k, hEk, ?_, ha⟩
          rcases hk with hk | hk
          · rw [getD_set_ne false (Ne.symm hki)] at hk; exact .inl hk
          · exact .inr hk
        · exact .inr hq
      · have hfree' : ∀ k ok, ops[k]? = some ok → k ≠ i → (listed.setIfInBounds j true).getD k true = false →
            (∀ e ∈ ok.after, Region.binds .any e = true → e.on ≠ i) → oi.apart ops ok = true := fun k ok hk hki hun hno => by
          refine hfree k ok hk hki ?_ hno
          by_cases hjk : j = k
          · subst hjk; exact hjun
          · rw [getD_set_ne true hjk] at hun; exact hun
        refine ih L _ _ H' (hcl.set hj) hfree' (ready_mono hr (Ne.symm hji)) (fun H hS => (hy H hS).put hli) hS' ?_
        rw [Array.setIfInBounds_comm _ _ hji, Env.put_comm _ _ _ fun t ht => fun h => hne t h ht]
        exact q2
end

end Go.Lift
