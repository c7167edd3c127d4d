import Derived.Test.YtdmhefbbicadnaaGreatL1
import Derived.OrdersIn
import Derived.RangeFuncLeaves
/-! The lifted logic, part 2: calls and code over abstract heaps; the rules of control. -/
namespace Go.Lift

/-- What is known of the temporaries: how many there are, and what some of them hold. -/
structure Env where
  n : Nat
  get : Nat → Option Value

def eget (e : Env) (t : Nat) : Option Value := e.get t

def Env.put (e : Env) (d : Option Nat) (v : Value) : Env :=
  match d with
  | none => e
  | some d => { e with get := fun t => if t = d then some v else e.get t }

/-- Nothing is known. -/
def Env.bare (e : Env) : Env := { e with get := fun _ => none }

inductive AExit where
  | normal
  | exit (id : Nat)
  | ret
  | panic (chain : List PanicEntry)

inductive AEnd where
  | returned (v : Value)
  | panicked (chain : List PanicEntry)

def CR (φ : Phi) (x x' : List PanicEntry) : Prop :=
  x.length = x'.length ∧ ∀ (k : Nat) (p : PanicEntry), x[k]? = some p → ∃ p' : PanicEntry, x'[k]? = some p' ∧ VR φ p.v p'.v ∧ p'.recovered = p.recovered ∧ p'.goexit = p.goexit

theorem CR.mono {φ φ' : Phi} (h : φ.le φ') {x x' : List PanicEntry} (r : CR φ x x') : CR φ' x x' :=
  ⟨r.1, fun k p e => let ⟨p', e', a, b, c⟩ := r.2 k p e; ⟨p', e', a.mono h, b, c⟩⟩

def ARel (φ : Phi) (e : Env) (a : Act) : Prop := a.tmps.size = e.n ∧ ∀ t v, eget e t = some v → t < e.n ∧ VR φ v (a.tmps.getD t undef)

theorem ARel.mono {φ φ' : Phi} (h : φ.le φ') {e : Env} {a : Act} (r : ARel φ e a) : ARel φ' e a :=
  ⟨r.1, fun t v he => ⟨(r.2 t v he).1, (r.2 t v he).2.mono h⟩⟩

theorem ARel.bare {φ : Phi} {e : Env} {a : Act} (r : a.tmps.size = e.n) : ARel φ e.bare a := ⟨r, fun _ _ h => by cases h⟩

theorem ARel.sub {φ : Phi} {e e' : Env} {a : Act} (r : ARel φ e a) (hn : e'.n = e.n) (h : ∀ t v, eget e' t = some v → eget e t = some v) : ARel φ e' a :=
  ⟨by rw [hn]; exact r.1, fun t v he => by rw [hn]; exact r.2 t v (h t v he)⟩

theorem ARel.put {φ : Phi} {e : Env} {a : Act} (r : ARel φ e a) {d : Option Nat} {v v' : Value} (hd : ∀ t, d = some t → t < e.n) (hv : VR φ v v') : ARel φ (e.put d v) (a.put d v') := by
  cases d with
  | none => exact r
  | some d =>
    refine ⟨by simpa [Act.put, Env.put] using r.1, fun t u h => ?_⟩
    have hdn := hd d rfl
    have hsz := r.1
    simp only [eget, Env.put] at h
    by_cases hdt : t = d
    · subst hdt
      rw [if_pos rfl] at h
      obtain rfl := Option.some.inj h
      refine ⟨hdn, ?_⟩
      simpa [Act.put, hsz, hdn] using hv
    · rw [if_neg hdt] at h
      obtain ⟨h1, h2⟩ := r.2 t u h
      refine ⟨h1, ?_⟩
      simpa [Act.put, Array.getElem?_setIfInBounds_ne (Ne.symm hdt)] using h2

theorem Env.put_comm (e : Env) {d d' : Option Nat} (u v : Value) (h : ∀ t, d = some t → d' ≠ some t) : (e.put d u).put d' v = (e.put d' v).put d u := by
  cases d with
  | none => cases d' <;> rfl
  | some d =>
    cases d' with
    | none => rfl
    | some d' =>
      have : d' ≠ d := fun h' => h d rfl (by rw [h'])
      simp only [Env.put, Env.mk.injEq, true_and]
      funext t
      by_cases h1 : t = d
      · subst h1; simp [Ne.symm this]
      · by_cases h2 : t = d' <;> simp [h1, h2, this]

def XR (φ : Phi) : AExit → Exit → Prop
  | .normal, .normal => True
  | .exit i, .exit j => i = j
  | .ret, .ret => True
  | .panic x, .panic x' => CR φ x x'
  | _, _ => False

def ER (φ : Phi) : AEnd → Ending → Prop
  | .returned v, .returned v' => VR φ v v'
  | .panicked x, .panicked x' => CR φ x x'
  | _, _ => False

/-- The fences of this logic: no bounds; in a round or not. -/
def WF (F : Fence) : Prop := ∃ ro, F = { Fence.wide with round := ro }

theorem WF.wide : WF Fence.wide := ⟨none, rfl⟩
theorem WF.fn {F : Fence} (h : WF F) (f : FuncId) : F.fn f := by obtain ⟨ro, rfl⟩ := h; trivial
theorem WF.room {F : Fence} (h : WF F) (n : Nat) : F.room n := by obtain ⟨ro, rfl⟩ := h; exact room_wide n
theorem WF.depth {F : Fence} (h : WF F) : ¬ F.depth.isSome = true := by obtain ⟨ro, rfl⟩ := h; simp [Fence.wide]
theorem WF.fenced {F : Fence} (h : WF F) (P : Program) : Machine.fenced P F = Machine.fenced P Fence.wide := by obtain ⟨ro, rfl⟩ := h; rfl
theorem WF.of_none {F : Fence} (h : WF F) (hr : F.round = none) : F = Fence.wide := by obtain ⟨ro, rfl⟩ := h; simp at hr; subst hr; rfl
theorem WF.inRound (l : Nat) : WF (Fence.wide.inRound l) := ⟨some l, rfl⟩

theorem WF.calls {F : Fence} (h : WF F) {n : Nat} {P : Program} {f : FuncId} {args : Array Value} {w : World} {R : Ending → World → Prop} : CallsIn F n P f args w R ↔ Calls P f args w R := by
  obtain ⟨ro, rfl⟩ := h
  exact callsIn_wide

/-- What a range over a function leaves among the deferred calls. -/
def markD (r : Nat) : Deferred := { target := .collected r, args := #[] }

structure Marks (w w' : World) (rs : List Nat) : Prop where
  nd : rs.Nodup
  fresh : ∀ r ∈ rs, w.heap.size ≤ r
  obj : ∀ r ∈ rs, w'.heap[r]? = some (.deferred (some []))

def DM (rf : Bool) (w w' : World) (ds ds' : List Deferred) : Prop := ∃ rs, ds' = rs.map markD ++ ds ∧ Marks w w' rs ∧ (rf = false → rs = [])

theorem DM.of_eq {rf : Bool} {w w' : World} {ds ds' : List Deferred} (h : ds' = ds) : DM rf w w' ds ds' := ⟨[], h, ⟨.nil, by simp, by simp⟩, fun _ => rfl⟩
theorem DM.refl {rf : Bool} {w : World} {ds : List Deferred} : DM rf w w ds ds := .of_eq rfl
theorem DM.eq {w w' : World} {ds ds' : List Deferred} (h : DM false w w' ds ds') : ds' = ds := by
  obtain ⟨rs, h1, _, h3⟩ := h
  rw [h1, h3 rfl]; rfl

theorem HR.not_dfr {φ : Phi} {H : Heap} {w : World} (h : HR φ H w) {r : Nat} {x : Option (List Deferred)} (hr : w.heap[r]? = some (.deferred x)) {b : Nat} {k : Blk} {i : BI} (e : H.get b = some k) (hi : φ b = some i) : i.rb ≠ r := by
  rintro rfl
  obtain ⟨i', hi', q⟩ := h.dom b k e
  obtain rfl : i = i' := by rw [hi] at hi'; exact Option.some.inj hi'
  cases k with
  | cells ro es c => obtain ⟨rc, elem, fz, h1, _⟩ := q; rw [hr] at h1; cases h1
  | map m => obtain ⟨es, clock, h1, _⟩ := q; rw [hr] at h1; cases h1
  | loop n E ps asg body jump => obtain ⟨fn, tmps, d, h1, _⟩ := q; rw [hr] at h1; cases h1
  | iter => obtain ⟨_, m, s, c, l, h1⟩ := q; rw [hr] at h1; cases h1

theorem DM.later {rf : Bool} {w w1 w2 : World} {ds ds1 : List Deferred} {φ1 φ2 : Phi} {H1 H2 : Heap} (d : DM rf w w1 ds ds1) (h : HR φ1 H1 w1) (x : Ext φ1 H1 w1 φ2 H2 w2) : DM rf w w2 ds ds1 := by
  obtain ⟨rs, h1, h2, h3⟩ := d
  refine ⟨rs, h1, ⟨h2.nd, h2.fresh, fun r hr => ?_⟩, h3⟩
  have := h2.obj r hr
  rw [x.kept r (Array.getElem?_eq_some_iff.1 this).1 fun b k i e _ hi => h.not_dfr this e hi]
  exact this

theorem DM.trans {rf : Bool} {w w1 w2 : World} {ds ds1 ds2 : List Deferred} {φ1 φ2 : Phi} {H1 H2 : Heap} (d : DM rf w w1 ds ds1) (h : HR φ1 H1 w1) (hs : w.heap.size ≤ w1.heap.size) (x : Ext φ1 H1 w1 φ2 H2 w2)
    (d2 : DM rf w1 w2 ds1 ds2) : DM rf w w2 ds ds2 := by
  have hlt : ∀ rs, Marks w w1 rs → ∀ r ∈ rs, r < w1.heap.size := fun rs m r hr => (Array.getElem?_eq_some_iff.1 (m.obj r hr)).1
  obtain ⟨rs0, h10, h20, _⟩ := d
  obtain ⟨rs, h1, h2, h3⟩ := DM.later ⟨rs0, h10, h20, (by assumption)⟩ h x
  obtain ⟨rs2, g1, g2, g3⟩ := d2
  have hrs : rs.map markD = rs0.map markD := by
    have := h1.symm.trans h10
    exact List.append_cancel_right this
  have hmem : ∀ r ∈ rs, r ∈ rs0 := fun r hr => by
    have : markD r ∈ rs0.map markD := hrs ▸ List.mem_map.2 ⟨r, hr, rfl⟩
    obtain ⟨r', hr', e⟩ := List.mem_map.1 this
    simp only [markD, Deferred.mk.injEq, Target.collected.injEq, and_true] at e
    exact e ▸ hr'
  refine ⟨rs2 ++ rs, by rw [g1, h1]; simp, ⟨?_, fun r hr => ?_, fun r hr => ?_⟩, fun q => by rw [g3 q, h3 q]; rfl⟩
  · refine List.nodup_append.2 ⟨g2.nd, h2.nd, fun a ha b hb e => ?_⟩
    have h4 := g2.fresh a ha
    have h5 := hlt rs0 h20 b (hmem b hb)
    omega
  · rcases List.mem_append.1 hr with hr | hr
    · exact Nat.le_trans hs (g2.fresh r hr)
    · exact h2.fresh r hr
  · rcases List.mem_append.1 hr with hr | hr
    · exact g2.obj r hr
    · exact h2.obj r hr

/-- What is to hold behind a piece of code. -/
def APost (rf : Bool) (φ : Phi) (H : Heap) (w : World) (a : Act) (K : AExit → Env → Heap → Prop) : Exit → Act → World → Prop := fun ex' a' w' =>
  ∃ ex e' H' φ', K ex e' H' ∧ XR φ' ex ex' ∧ ARel φ' e' a' ∧ HR φ' H' w' ∧ Ext φ H w φ' H' w' ∧ DM rf w w' a.defers a'.defers ∧ a'.tmps.size = a.tmps.size

/-- Code over abstract heaps; 'rf': it may hold a range over a function (and is then no part of a round). -/
def acode (rf : Bool) (P : Program) (c : Code) (K : AExit → Env → Heap → Prop) (e : Env) (H : Heap) : Prop :=
  ∀ F, WF F → (rf = true → F.round = none) → ∀ φ a w, ARel φ e a → HR φ H w → c.wpIn F 0 P (APost rf φ H w a K) a w

def acall (P : Program) (f : FuncId) (args : List Value) (H : Heap) (K : AEnd → Heap → Prop) : Prop :=
  ∀ φ args' w, VRs φ args args' → HR φ H w →
    Calls P f args'.toArray w fun e' w' => ∃ e H' φ', K e H' ∧ ER φ' e e' ∧ HR φ' H' w' ∧ Ext φ H w φ' H' w'

section
variable {rf : Bool} {P : Program} {K K' : AExit → Env → Heap → Prop} {e : Env} {H : Heap}

theorem acode_mono {c : Code} (h : acode rf P c K e H) (hk : ∀ ex e H, K ex e H → K' ex e H) : acode rf P c K' e H :=
  fun F hF hrf φ a w ha hw => wpIn_mono (h F hF hrf φ a w ha hw) fun _ _ _ ⟨ex, e', H', φ', k, r⟩ => ⟨ex, e', H', φ', hk _ _ _ k, r⟩

theorem acode_env {c : Code} {e' : Env} (h : acode rf P c K e' H) (hn : e'.n = e.n) (he : ∀ t v, eget e' t = some v → eget e t = some v) : acode rf P c K e H :=
  fun F hF hrf φ a w ha hw => h F hF hrf φ a w (ha.sub hn he) hw

theorem acall_mono {f : FuncId} {args : List Value} {K K' : AEnd → Heap → Prop} (h : acall P f args H K) (hk : ∀ e H', K e H' → K' e H') : acall P f args H K' :=
  fun φ args' w ha hw => (h φ args' w ha hw).mono fun _ _ ⟨e, H', φ', k, r⟩ => ⟨e, H', φ', hk _ _ k, r⟩

/-- What the relation itself tells of every call: read-only blocks stay, ids are not given twice. -/
theorem acall_ext {f : FuncId} {args : List Value} {K : AEnd → Heap → Prop}
    (h : acall P f args H fun e H' => (∀ b es c, H.get b = some (.cells true es c) → H'.get b = some (.cells true es c)) → H.next ≤ H'.next → K e H') : acall P f args H K :=
  fun φ args' w ha hw => (h φ args' w ha hw).mono fun _ _ ⟨e, H', φ', k, r1, r2, r3⟩ => ⟨e, H', φ', k r3.ro r3.next, r1, r2, r3⟩

/-- Another abstract heap may be taken behind a call, if it stands in the same worlds. -/
def Weak (H H' : Heap) : Prop := ∀ φ w, HR φ H w → HR φ H' w ∧ Ext φ H w φ H' w

theorem acall_weak {f : FuncId} {args : List Value} {K : AEnd → Heap → Prop}
    (h : acall P f args H fun e H' => ∃ H2, Weak H' H2 ∧ K e H2) : acall P f args H K :=
  fun φ args' w ha hw => (h φ args' w ha hw).mono fun _ _ ⟨e, _, φ', ⟨H2, hw2, k⟩, r1, r2, r3⟩ => ⟨e, H2, φ', k, r1, (hw2 _ _ r2).1, r3.trans (hw2 _ _ r2).2⟩

theorem acall_weak_in {f : FuncId} {args : List Value} {K : AEnd → Heap → Prop} {H2 : Heap} (hw2 : Weak H H2) (h : acall P f args H2 K) : acall P f args H K :=
  fun φ args' w ha hw => (h φ args' w ha (hw2 _ _ hw).1).mono fun _ _ ⟨e, H', φ', k, r1, r2, r3⟩ => ⟨e, H', φ', k, r1, r2, (hw2 _ _ hw).2.trans r3⟩

theorem acode_weak_in {c : Code} {H2 : Heap} (hw2 : Weak H H2) (h : acode rf P c K e H2) : acode rf P c K e H :=
  fun F hF hrf φ a w ha hw => wpIn_mono (h F hF hrf φ a w ha (hw2 _ _ hw).1) fun _ _ _ ⟨ex, e', H', φ', k, r1, r2, r4, r5, r6⟩ =>
    ⟨ex, e', H', φ', k, r1, r2, r4, (hw2 _ _ hw).2.trans r5, r6⟩

theorem acode_skip (h : K .normal e H) : acode rf P .skip K e H := fun F hF hrf φ a w ha hw =>
  wpIn_skip ⟨.normal, e, H, φ, h, trivial, ha, hw, Ext.refl _ _ _, .refl, rfl⟩

theorem acode_exit {id : Nat} (h : K (.exit id) e H) : acode rf P (.exit id) K e H := fun F hF hrf φ a w ha hw =>
  wpIn_exit ⟨.exit id, e, H, φ, h, rfl, ha, hw, Ext.refl _ _ _, .refl, rfl⟩

theorem acode_ret (h : K .ret e H) : acode rf P .ret K e H := fun F hF hrf φ a w ha hw =>
  wpIn_ret ⟨.ret, e, H, φ, h, trivial, ha, hw, Ext.refl _ _ _, .refl, rfl⟩

/-- What stands behind the first of two pieces. -/
def thenK (rf : Bool) (P : Program) (y : Code) (K : AExit → Env → Heap → Prop) : AExit → Env → Heap → Prop
  | .normal, e, H => acode rf P y K e H
  | ex, e, H => K ex e H

theorem acode_seq {x y : Code} (h : acode rf P x (thenK rf P y K) e H) : acode rf P (.seq x y) K e H := by
  intro F hF hrf φ a w ha hw
  refine wpIn_seq (wpIn_mono (h F hF hrf φ a w ha hw) ?_)
  rintro ex' a' w' ⟨ex, e', H', φ', k, r1, r2, r4, r5, r6, r7⟩
  cases ex with
  | normal =>
    cases ex' <;> simp only [XR] at r1
    refine wpIn_mono (k F hF hrf φ' a' w' r2 r4) ?_
    rintro ex2' a2 w2 ⟨ex2, e2, H2, φ2, k2, s1, s2, s4, s5, s6, s7⟩
    exact ⟨ex2, e2, H2, φ2, k2, s1, s2, s4, r5.trans s5, r6.trans r4 r5.size s5 s6, s7.trans r7⟩
  | exit id =>
    cases ex' <;> simp only [XR] at r1
    exact ⟨.exit id, e', H', φ', k, r1, r2, r4, r5, r6, r7⟩
  | ret =>
    cases ex' <;> simp only [XR] at r1
    exact ⟨.ret, e', H', φ', k, trivial, r2, r4, r5, r6, r7⟩
  | panic ch =>
    cases ex' <;> simp only [XR] at r1
    exact ⟨.panic ch, e', H', φ', k, r1, r2, r4, r5, r6, r7⟩

/-- What an operand holds. -/
def cst : Value → Bool
  | .bool _ | .int _ _ | .float _ _ | .string _ | .pointer none | .map none | .nilFunc | .nilIface => true
  | .slice none 0 0 => true
  | .tuple vs => vs.isEmpty
  | .agg cs => cs.all fun
    | .bool _ | .int _ _ | .float _ _ | .string _ | .pointer none | .map none | .nilFunc | .nilIface => true
    | .slice none 0 0 => true
    | _ => false
  | .iface _ (.string _) => true
  | _ => false

theorem VR.refl_cst1 {φ : Phi} {v : Value} (h : (match v with
    | .bool _ | .int _ _ | .float _ _ | .string _ | .pointer none | .map none | .nilFunc | .nilIface => true
    | .slice none 0 0 => true
    | _ => false) = true) : VR φ v v := by
  split at h <;> first | (cases h; done) | constructor

theorem VR.refl_cst {φ : Phi} {v : Value} (h : cst v = true) : VR φ v v := by
  unfold cst at h
  split at h
  case h_10 vs =>
    simp at h; subst h; exact VR.tuple _ _ rfl fun j h => by simp at h
  case h_11 cs =>
    exact VR.agg _ _ rfl fun j h1 _ => VR.refl_cst1 ((Array.all_eq_true.1 h) j h1)
  case h_12 => exact VR.iface _ _ _ (.string _)
  all_goals first | (cases h; done) | constructor

def aeval (e : Env) : Operand → Option Value
  | .tmp t => eget e t
  | .const v => if cst v then some v else none
  | .func f => some (.func (.func f) #[] #[])
  | .global _ => none

theorem ARel.eval {φ : Phi} {a : Act} (r : ARel φ e a) {x : Operand} {v : Value} (h : aeval e x = some v) : VR φ v (a.eval x) := by
  cases x with
  | tmp t => exact (r.2 t v h).2
  | const u =>
    simp only [aeval] at h
    split at h
    · obtain rfl := Option.some.inj h; exact VR.refl_cst (by assumption)
    · cases h
  | global g => cases h
  | func f =>
    obtain rfl := Option.some.inj h
    exact .func f #[] #[] #[] #[] rfl rfl (fun j h => by simp at h) (fun j h => by simp at h)

theorem acode_cond {c : Operand} {x y : Code} {t : Bool} (hc : aeval e c = some (.bool t)) (h : acode rf P (if t then x else y) K e H) : acode rf P (.cond c x y) K e H := by
  intro F hF hrf φ a w ha hw
  have := ha.eval hc
  refine wpIn_cond (t := t) (by generalize a.eval c = z at this; cases this; rfl) (h F hF hrf φ a w ha hw)

def blockK (id : Nat) (K : AExit → Env → Heap → Prop) : AExit → Env → Heap → Prop
  | .exit j, e, H => if j = id then K .normal e H else K (.exit j) e H
  | ex, e, H => K ex e H

theorem acode_block {id : Nat} {c : Code} (h : acode rf P c (blockK id K) e H) : acode rf P (.block id c) K e H := by
  intro F hF hrf φ a w ha hw
  refine wpIn_block (wpIn_mono (h F hF hrf φ a w ha hw) ?_)
  rintro ex' a' w' ⟨ex, e', H', φ', k, r1, r2, r4, r5, r6, r7⟩
  cases ex with
  | exit j =>
    cases ex' <;> simp only [XR] at r1
    subst r1
    simp only [Exit.inBlock]
    simp only [blockK] at k
    split
    · rename_i hj
      rw [if_pos hj] at k
      exact ⟨.normal, e', H', φ', k, trivial, r2, r4, r5, r6, r7⟩
    · rename_i hj
      rw [if_neg hj] at k
      exact ⟨.exit j, e', H', φ', k, rfl, r2, r4, r5, r6, r7⟩
  | normal => cases ex' <;> simp only [XR] at r1; exact ⟨.normal, e', H', φ', k, trivial, r2, r4, r5, r6, r7⟩
  | ret => cases ex' <;> simp only [XR] at r1; exact ⟨.ret, e', H', φ', k, trivial, r2, r4, r5, r6, r7⟩
  | panic ch => cases ex' <;> simp only [XR] at r1; exact ⟨.panic ch, e', H', φ', k, r1, r2, r4, r5, r6, r7⟩

/-- A loop: an invariant with a measure. -/
def loopK (I : Nat → Env → Heap → Prop) (n : Nat) (K : AExit → Env → Heap → Prop) : AExit → Env → Heap → Prop
  | .normal, e, H => ∃ m, m < n ∧ I m e H
  | ex, e, H => K ex e H

theorem acode_loop {c : Code} (I : Nat → Env → Heap → Prop) {n : Nat} (h0 : I n e H) (round : ∀ n e H, I n e H → acode rf P c (loopK I n K) e H) : acode rf P (.loop c) K e H := by
  intro F hF hrf φ a w ha hw
  have key : ∀ n e H, I n e H → ∀ φ1 a1 w1, ARel φ1 e a1 → HR φ1 H w1 → ∀ (b : Frame) (k : List Item) (cs : List Frame), b.roundOf = F.round → F.fn b.fn → F.room (cs.length + 1 + 0) → ∃ ex' a' w', APost rf φ1 H w1 a1 K ex' a' w' ∧
      ArrivesIn (Machine.fenced P F) P (lone (b.atR a1 (.code c :: .inLoop c :: k)) cs w1) b k cs ex' a' w' := by
    intro n
    induction n using Nat.strongRecOn with
    | _ n ih =>
      intro e H hI φ1 a1 w1 ha1 hw1 b k cs hro hb hr
      obtain ⟨ex', a', w', ⟨ex, e', H', φ', kk, r1, r2, r4, r5, r6, r7⟩, harr⟩ := round n e H hI F hF hrf φ1 a1 w1 ha1 hw1 b (.inLoop c :: k) cs hro hb hr
      cases ex with
      | normal =>
        cases ex' <;> simp only [XR] at r1
        obtain ⟨m, hm, hI'⟩ := kk
        obtain ⟨ex2', a2, w2, ⟨ex2, e2, H2, φ2, k2, s1, s2, s4, s5, s6, s7⟩, harr2⟩ := ih m hm e' H' hI' φ' a' w' r2 r4 b k cs hro hb hr
        exact ⟨ex2', a2, w2, ⟨ex2, e2, H2, φ2, k2, s1, s2, s4, r5.trans s5, r6.trans r4 r5.size s5 s6, s7.trans r7⟩, .of_steps (StepsIn.trans harr (.one (fenced_calm hb hr rfl) stepR_inLoop)) harr2⟩
      | exit id =>
        cases ex' <;> simp only [XR] at r1
        subst r1
        exact ⟨.exit id, a', w', ⟨.exit id, e', H', φ', kk, rfl, r2, r4, r5, r6, r7⟩, .pass (x := .inLoop c) rfl (fun _ _ => .inl (by simp)) harr⟩
      | ret =>
        cases ex' <;> simp only [XR] at r1
        exact ⟨.ret, a', w', ⟨.ret, e', H', φ', kk, trivial, r2, r4, r5, r6, r7⟩, .pass (x := .inLoop c) rfl (fun _ _ => .inl (by simp)) harr⟩
      | panic ch =>
        cases ex' with
        | panic ch' => exact ⟨.panic ch', a', w', ⟨.panic ch, e', H', φ', kk, r1, r2, r4, r5, r6, r7⟩, .pass (x := .inLoop c) rfl (fun _ _ => .inl (by simp)) harr⟩
        | _ => simp only [XR] at r1
  intro b k cs hro hb hr
  obtain ⟨ex', a', w', hq, harr⟩ := key n e H h0 φ a w ha hw b k cs hro hb hr
  exact ⟨ex', a', w', hq, .of_steps (.one (fenced_calm hb hr rfl) stepR_loop) harr⟩
end
end Go.Lift
