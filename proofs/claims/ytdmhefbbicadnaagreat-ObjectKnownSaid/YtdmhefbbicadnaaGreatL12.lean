import Derived.Test.YtdmhefbbicadnaaGreatL11
import Derived.Laws.Sem
/-! The lifted logic, part 12: from a function's body to its calls. -/
namespace Go.Lift

def envOf (args : List Value) (n : Nat) : Env := ⟨n, fun i => args[i]?⟩

def ares1 (P : Program) (e : Env) (H : Heap) (x : ResultVar) (K : Value → Prop) : Prop :=
  match x with
  | .tmp t => (match eget e t with | some v => K v | none => False)
  | .cell a t => (match eget e a with | some v => aload P t v H K | none => False)

def aresL (P : Program) (e : Env) (H : Heap) : List ResultVar → (List Value → Prop) → Prop
  | [], K => K []
  | x :: xs, K => ares1 P e H x fun v => aresL P e H xs fun vs => K (v :: vs)

/-- What a function hands back. -/
def ares (P : Program) (fn : Func) (e : Env) (H : Heap) (K : Value → Prop) : Prop :=
  aresL P e H fn.results.toList fun l => match l with
    | [v] => K v
    | l => K (.tuple l.toArray)

section
variable {P : Program} {e : Env} {H : Heap} {φ : Phi} {a : Act} {w : World}

def resF (tmps : Array Value) : ResultVar → Sem Value
  | .tmp t => pure (tmps.getD t undef)
  | .cell a t => do loadVar t (← asAddr (tmps.getD a undef))

theorem ares1_sound {x : ResultVar} {K : Value → Prop} (h : ares1 P e H x K) (ha : ARel φ e a) (hw : HR φ H w) :
    ∃ u u', (resF a.tmps x).run P w = .ok u' w ∧ K u ∧ VR φ u u' := by
  unfold ares1 at h
  cases x with
  | tmp t =>
    simp only at h
    split at h
    · rename_i v hv
      exact ⟨v, _, rfl, h, (ha.2 t v hv).2⟩
    · exact h.elim
  | cell t ty =>
    simp only at h
    split at h
    · rename_i v hv
      have hr := (ha.2 t v hv).2
      obtain ⟨u, u', g1, g2, g3⟩ := aload_sound h hr hw
      refine ⟨u, u', ?_, g2, g3⟩
      have g1 := g1 w fun _ _ => rfl
      have hp : ∃ ad, a.tmps.getD t undef = .pointer (some ad) := by
        unfold aload at h
        split at h
        · generalize a.tmps.getD t undef = z at hr
          cases hr
          exact ⟨_, rfl⟩
        · exact h.elim
      obtain ⟨ad, had⟩ := hp
      rw [had] at g1
      show (do loadVar ty (← asAddr (a.tmps.getD t undef))).run P w = _
      rw [had]
      simpa [Instr.loadAt, Instr.sureAddr, asAddr] using g1
    · exact h.elim

theorem aresL_sound (ha : ARel φ e a) (hw : HR φ H w) : ∀ {xs : List ResultVar} {K : List Value → Prop}, aresL P e H xs K →
    ∃ l l', (xs.mapM (resF a.tmps)).run P w = .ok l' w ∧ K l ∧ VRs φ l l'
  | [], K, h => ⟨[], [], rfl, h, .nil⟩
  | x :: xs, K, h => by
    obtain ⟨u, u', g1, k, r⟩ := ares1_sound (K := fun v => aresL P e H xs fun vs => K (v :: vs)) h ha hw
    obtain ⟨l, l', g2, k2, r2⟩ := aresL_sound (K := fun vs => K (u :: vs)) ha hw k
    refine ⟨u :: l, u' :: l', ?_, k2, .cons r r2⟩
    simp [List.mapM_cons, g1, g2]

theorem ares_sound {fn : Func} {K : Value → Prop} (h : ares P fn e H K) (ha : ARel φ e a) (hw : HR φ H w) :
    ∃ u u', (results fn a.tmps).run P w = .ok u' w ∧ K u ∧ VR φ u u' := by
  obtain ⟨l, l', g, k, r⟩ := aresL_sound ha hw h
  have hm : (fn.results.mapM (resF a.tmps)).run P w = .ok l'.toArray w := by
    rw [Array.mapM_eq_mapM_toList]
    simp [g]
  have hres : results fn a.tmps = (do
    let vs ← fn.results.mapM (resF a.tmps)
    pure (if h : vs.size = 1 then vs[0] else .tuple vs)) := rfl
  rw [hres, Sem.run_bind, hm]
  simp only [Result.andThen_ok, Sem.run_pure]
  cases l with
  | nil =>
    rw [r.inv_nil]
    exact ⟨_, _, rfl, k, .tuple_of (by simpa using VRs.nil)⟩
  | cons v l =>
    obtain ⟨v', m, rfl, hv, hr⟩ := r.inv_cons
    cases l with
    | nil =>
      rw [hr.inv_nil]
      exact ⟨_, _, rfl, k, hv⟩
    | cons u l =>
      obtain ⟨u', m, rfl, hu, hr⟩ := hr.inv_cons
      refine ⟨_, _, rfl, k, ?_⟩
      simp only [List.size_toArray, List.length_cons]
      rw [dif_neg (by omega)]
      exact .tuple_of (by simpa using VRs.cons hv (VRs.cons hu hr))
end

def bodyK (P : Program) (fn : Func) (K : AEnd → Heap → Prop) : AExit → Env → Heap → Prop
  | .normal, e, H | .ret, e, H => ares P fn e H fun v => K (.returned v) H
  | .panic ch, _, H => K (.panicked ch) H
  | .exit _, _, _ => False

/-! ### A range over a function leaves its mark -/

theorem HR.pokeD {φ : Phi} {H : Heap} {w : World} (h : HR φ H w) {r : Nat} {x : Option (List Deferred)} (hr : w.heap[r]? = some (.deferred x)) (o : Obj) : HR φ H (pokeW w r o) where
  zero := h.zero
  pos := h.pos
  fresh := h.fresh
  dom b k e := by
    obtain ⟨i, hi, q⟩ := h.dom b k e
    exact ⟨i, hi, q.mono (Phi.le_refl _) (poke_ne (fun e' => h.not_dfr hr e hi e'.symm))⟩
  sep := h.sep

theorem Ext.pokeD {φ φ' : Phi} {H H' : Heap} {w w' : World} (x : Ext φ H w φ' H' w') {r : Nat} (hr : w.heap.size ≤ r) (o : Obj) : Ext φ H w φ' H' (pokeW w' r o) :=
  ⟨x.phi, by rw [poke_size]; exact x.size, fun s hs hn => by rw [poke_ne (by omega)]; exact x.kept s hs hn, x.back, x.live, x.ro, x.next, x.os, x.out⟩

theorem leavesM_marks {P : Program} {fn : Func} {tmps : Array Value} {R : Ending → World → Prop} {u : FrameMode} (hu : u ≠ .run) {φ0 φ : Phi} {H0 H : Heap} {w0 : World} : ∀ (rs : List Nat) (w : World), rs.Nodup → (∀ r ∈ rs, w0.heap.size ≤ r) →
    (∀ r ∈ rs, w.heap[r]? = some (.deferred (some []))) → HR φ H w → Ext φ0 H0 w0 φ H w → (∀ w', HR φ H w' → Ext φ0 H0 w0 φ H w' → LeavesIn Fence.wide 0 P fn tmps R [] u w') →
    LeavesInM Fence.wide 0 P fn tmps R (rs.map markD) u w
  | [], w, _, _, _, hw, hx, h => h w hw hx
  | r :: rs, w, hn, hf, ho, hw, hx, h => by
    obtain ⟨hn1, hn2⟩ := List.nodup_cons.1 hn
    have hr := ho r (by simp)
    refine ⟨hu, .inl ⟨r, pokeW w r (.deferred none), rfl, ?_, ?_⟩⟩
    · unfold Instr.takeDeferred
      simp [run_getObj hr (by intros; simp), run_setObj hr (by intros; simp), pokeW]
    · exact leavesM_marks hu rs _ hn2 (fun s hs => hf s (by simp [hs])) (fun s hs => by rw [poke_ne (fun e => hn1 (by rw [e]; exact hs))]; exact ho s (by simp [hs])) (hw.pokeD hr _) (hx.pokeD (hf r (by simp)) _) h

theorem acall_of_acode {P : Program} {f : FuncId} {fn : Func} {c : Code} {args : List Value} {H : Heap} {K : AEnd → Heap → Prop}
    (hf : P.funcs[f]? = some fn) (hb : fn.body = some c) (hn : args.length ≤ fn.ntmps) (h : acode true P c (bodyK P fn K) (envOf args fn.ntmps) H) : acall P f args H K := by
  intro φ args' w hargs hw
  have hsz : args'.length = args.length := hargs.1.symm
  refine callsIn_wide.1 (callsIn_of_wp_marks (n := 0) hf hb trivial (wpIn_mono (h Fence.wide WF.wide (fun _ => rfl) φ { tmps := args'.toArray ++ Array.replicate (fn.ntmps - args'.toArray.size) undef, defers := [] } w ⟨?_, ?_⟩ hw) ?_))
  · simp [envOf]; omega
  · intro t v hv
    obtain ⟨v', e', r⟩ := hargs.2 t v hv
    have ht : t < args'.length := by
      rcases Nat.lt_or_ge t args'.length with h' | h'
      · exact h'
      · simp [h'] at e'
    refine ⟨by simp only [envOf]; omega, ?_⟩
    have : (args'.toArray ++ Array.replicate (fn.ntmps - args'.toArray.size) undef).getD t undef = v' := by
      simp only [Array.getD_eq_getD_getElem?]
      rw [Array.getElem?_append_left (by simpa using ht)]
      simp [e']
    rw [this]
    exact r
  · rintro ex' a' w' ⟨ex, e', H', φ', k, r1, r2, r4, r5, ⟨rs, d1, d2, _⟩, r7⟩
    have hd : a'.defers = rs.map markD := by rw [d1]; simp
    have hres : ∀ (k : ares P fn e' H' fun v => K (.returned v) H'), LeavesInM Fence.wide 0 P fn a'.tmps (fun e w' => ∃ e0 H' φ', K e0 H' ∧ ER φ' e0 e ∧ HR φ' H' w' ∧ Ext φ H w φ' H' w') a'.defers .returning w' := by
      intro k
      rw [hd]
      refine leavesM_marks (by simp) rs w' d2.nd d2.fresh d2.obj r4 r5 fun w2 hw2 hx2 => ?_
      obtain ⟨u, u', g1, g2, g3⟩ := ares_sound k r2 hw2
      exact ⟨u', g1, .returned u, H', φ', g2, g3, hw2, hx2⟩
    cases ex with
    | normal => cases ex' <;> simp only [XR] at r1; exact hres k
    | ret => cases ex' <;> simp only [XR] at r1; exact hres k
    | panic ch =>
      cases ex' <;> simp only [XR] at r1
      show LeavesInM Fence.wide 0 P fn a'.tmps _ a'.defers (.panicking _) w'
      rw [hd]
      exact leavesM_marks (by simp) rs w' d2.nd d2.fresh d2.obj r4 r5 fun w2 hw2 hx2 => ⟨.panicked ch, H', φ', k, r1, hw2, hx2⟩
    | exit id => exact k.elim

/-! ### Range over a function -/

theorem HR.other {φ : Phi} {H : Heap} {w : World} (h : HR φ H w) (o : Obj) : HR φ H (w.alloc o) ∧ Ext φ H w φ H (w.alloc o) := by
  have hold : ∀ r, r < w.heap.size → (w.alloc o).heap[r]? = w.heap[r]? := fun r hr => by
    show (w.heap.push o)[r]? = _
    rw [Array.getElem?_push, if_neg (Nat.ne_of_lt hr)]
  refine ⟨⟨h.zero, h.pos, h.fresh, fun b k e => ?_, h.sep⟩, ⟨Phi.le_refl _, by rw [World.size_alloc]; omega, fun r hr _ => hold r hr, fun _ _ => rfl, fun b k i h1 h3 => .inr ⟨b, k, i, h1, id, h3, rfl⟩, fun _ _ _ h => h, Nat.le_refl _, rfl, rfl⟩⟩
  obtain ⟨i, hi, q⟩ := h.dom b k e
  exact ⟨i, hi, q.mono (Phi.le_refl _) (hold _ q.lt)⟩

/-- What is to hold when the function that was ranged over is done. -/
def rangeK (L : Nat) (e : Env) (K : AExit → Env → Heap → Prop) : AEnd → Heap → Prop
  | .returned _, H => (match H.get L with
    | some (.loop _ _ _ _ _ none) => K .normal e (H.drop L)
    | some (.loop _ _ _ _ _ (some .ret)) => K .ret e (H.drop L)
    | some (.loop _ _ _ _ _ (some (.exit id))) => K (.exit id) e (H.drop L)
    | _ => False)
  | .panicked ch, H => K (.panic ch) e H

theorem run_endLoop {P : Program} {w : World} {r fn d : Nat} {jump : Option Code} {tmps : Array Value} {ps : Array Tmp} {asg body : Code}
    (h : w.heap[r]? = some (.loop { state := if jump.isNone then .ready else .done, pending := jump, fn := fn, tmps := tmps, params := ps, assign := asg, body := body, defers := d })) :
    (Instr.endLoop r).run P w = .ok jump (pokeW w r (.loop { state := .exhausted, pending := jump, fn := fn, tmps := tmps, params := ps, assign := asg, body := body, defers := d })) := by
  have hg : (Instr.getLoop r).run P w = .ok { state := if jump.isNone then .ready else .done, pending := jump, fn := fn, tmps := tmps, params := ps, assign := asg, body := body, defers := d } w := by
    unfold Instr.getLoop
    simp [run_getObj h (by intros; simp)]
  unfold Instr.endLoop
  cases jump <;> simp [hg, run_setObj h (by intros; simp), pokeW]

theorem acode_rangeFunc {P : Program} {g : Operand} {f : FuncId} {x y : Array Value} {ps : Array Tmp} {asg body : Code} {K : AExit → Env → Heap → Prop} {e : Env} {H : Heap} {E : Tr Value}
    (hg : aeval e g = some (.func (.func f) x y)) (hok : callOK P f = true) (hE : ∀ t v, E.get t = some v → eget e t = some v)
    (h : acall P f (x.toList ++ [.func (.yield H.next) #[] #[]] ++ y.toList) (H.alloc (.loop e.n E ps asg body none)) (rangeK H.next e K)) : acode true P (.rangeFunc g ps asg body) K e H := by
  intro F hF hrf φ a w ha hw
  obtain rfl := hF.of_none (hrf rfl)
  refine wpIn_rangeFunc fun fn _ => ?_
  -- the two objects
  obtain ⟨hw1, hx1⟩ := hw.other (.deferred (some []))
  have hr1 : (w.alloc (.deferred (some []))).heap[w.heap.size]? = some (.deferred (some [])) := by
    show (w.heap.push _)[w.heap.size]? = _
    rw [Array.getElem?_push, if_pos rfl]
  let lp : Loop := { state := .ready, pending := none, fn := fn, tmps := a.tmps, params := ps, assign := asg, body := body, defers := w.heap.size }
  have hk : BlkR (φ.add H.next ⟨(w.alloc (.deferred (some []))).heap.size, 0, 0, 0⟩) ((w.alloc (.deferred (some []))).alloc (.loop lp)) ⟨(w.alloc (.deferred (some []))).heap.size, 0, 0, 0⟩ (.loop e.n E ps asg body none) := by
    refine ⟨fn, a.tmps, w.heap.size, ?_, ha.1, fun t v ht => ⟨(ha.2 t v (hE t v ht)).1, (ha.2 t v (hE t v ht)).2.mono (Phi.le_add hw.no_next)⟩⟩
    show ((w.alloc (.deferred (some []))).heap.push _)[(w.alloc (.deferred (some []))).heap.size]? = _
    rw [Array.getElem?_push, if_pos rfl]
    rfl
  obtain ⟨hw2, hx2⟩ := hw1.alloc (i := ⟨(w.alloc (.deferred (some []))).heap.size, 0, 0, 0⟩) rfl hk
  have hv := ha.eval hg
  generalize hgv : a.eval g = g' at hv
  cases hv with
  | func _ _ x' _ y' hx hy ex ey =>
    have hxr := (VRs.of_arr hx ex).mono (Phi.le_add (i := ⟨(w.alloc (.deferred (some []))).heap.size, 0, 0, 0⟩) hw.no_next)
    have hyr := (VRs.of_arr hy ey).mono (Phi.le_add (i := ⟨(w.alloc (.deferred (some []))).heap.size, 0, 0, 0⟩) hw.no_next)
    have hself : (φ.add H.next ⟨(w.alloc (.deferred (some []))).heap.size, 0, 0, 0⟩) H.next = some ⟨(w.alloc (.deferred (some []))).heap.size, 0, 0, 0⟩ := if_pos rfl
    have hy0 : VRs (φ.add H.next ⟨(w.alloc (.deferred (some []))).heap.size, 0, 0, 0⟩) [Value.func (.yield H.next) #[] #[]] [Value.func (.yield (w.alloc (.deferred (some []))).heap.size) #[] #[]] := .cons (.yield _ _ hself) .nil
    have hargs := (hxr.append hy0).append hyr
    have hcall := h _ _ _ hargs hw2
    refine ⟨(w.alloc (.deferred (some []))).heap.size, [markD w.heap.size], (w.alloc (.deferred (some []))).alloc (.loop lp), { target := .fn (.func f) y', args := x' ++ #[.func (.yield (w.alloc (.deferred (some []))).heap.size) #[] #[]] },
      (w.alloc (.deferred (some []))).alloc (.loop lp), f, x' ++ #[.func (.yield (w.alloc (.deferred (some []))).heap.size) #[] #[]] ++ y', (w.alloc (.deferred (some []))).alloc (.loop lp), ?_, ?_, fun _ _ => trivial, ?_, fun hd => absurd hd WF.wide.depth, callsIn_wide.2 ?_⟩
    · rfl
    · show (resolve a.eval (rangeCall g _) 0).run P _ = _
      unfold resolve
      simp only [rangeCall, Sem.run_bind, hgv, Deferred.ofValue, Sem.run_pure, Result.andThen_ok]
      simp [Act.eval]
    · unfold callOK at hok
      split at hok
      · rename_i fn' hfn
        simp only [Bool.and_eq_true, Bool.not_eq_true'] at hok
        have : fn'.body.isNone = false := by cases hbb : fn'.body <;> simp_all
        simp only [invoke, callFunc, Sem.run_bind, run_program, Result.andThen_ok, hfn, hok.2, Bool.false_eq_true, if_false]
        simp [this]
      · cases hok
    · have e1 : (x'.toList ++ [Value.func (.yield (w.alloc (.deferred (some []))).heap.size) #[] #[]] ++ y'.toList).toArray = x' ++ #[.func (.yield (w.alloc (.deferred (some []))).heap.size) #[] #[]] ++ y' := by
        rw [← Array.toList_inj]; simp
      rw [e1] at hcall
      refine hcall.mono ?_
      rintro e' w3 ⟨en, H', φ', kk, er, hr', hx'⟩
      have hdm : ∀ w4, w4.heap[w.heap.size]? = w3.heap[w.heap.size]? → DM true w w4 a.defers ([markD w.heap.size] ++ a.defers) := by
        intro w4 h4
        refine ⟨[w.heap.size], rfl, ⟨by simp, by simp, fun r hr => ?_⟩, by simp⟩
        obtain rfl : r = w.heap.size := by simpa using hr
        rw [h4, hx'.kept w.heap.size (by rw [World.size_alloc, World.size_alloc]; omega) fun b k i hb _ hi heq => ?_]
        · show ((w.alloc (.deferred (some []))).heap.push _)[w.heap.size]? = _
          rw [Array.getElem?_push, if_neg (by rw [World.size_alloc]; omega)]
          exact hr1
        · refine hw2.not_dfr (r := w.heap.size) (x := some []) ?_ hb hi heq
          show ((w.alloc (.deferred (some []))).heap.push _)[w.heap.size]? = _
          rw [Array.getElem?_push, if_neg (by rw [World.size_alloc]; omega)]
          exact hr1
      have hxx := (hx1.trans hx2).trans hx'
      cases en with
      | panicked ch =>
        cases e' <;> simp only [ER] at er
        exact ⟨.panic ch, e, H', φ', kk, er, ha.mono hxx.phi, hr', hxx, hdm _ rfl, rfl⟩
      | returned v =>
        cases e' <;> simp only [ER] at er
        -- the record
        have recd : ∀ n E1 ps1 asg1 body1 jump, H'.get H.next = some (.loop n E1 ps1 asg1 body1 jump) →
            ∃ w4, (Instr.endLoop (w.alloc (.deferred (some []))).heap.size).run P w3 = .ok jump w4 ∧ HR φ' (H'.drop H.next) w4 ∧ Ext φ H w φ' (H'.drop H.next) w4 ∧ w4.heap[w.heap.size]? = w3.heap[w.heap.size]? := by
          intro n E1 ps1 asg1 body1 jump hget
          have hi' : φ' H.next = some ⟨(w.alloc (.deferred (some []))).heap.size, 0, 0, 0⟩ := hx'.phi _ _ hself
          obtain ⟨i2, hi2, fn1, tmps1, d1, p1, p2, p3⟩ := hr'.dom _ _ hget
          have e2 := Option.some.inj (hi'.symm.trans hi2)
          subst e2
          refine ⟨pokeW w3 (w.alloc (.deferred (some []))).heap.size (.loop { state := .exhausted, pending := jump, fn := fn1, tmps := tmps1, params := ps1, assign := asg1, body := body1, defers := d1 }), ?_, ?_, ?_, ?_⟩
          · exact run_endLoop p1
          · exact hr'.poke hget rfl hi' _
          · refine ⟨hxx.phi, by rw [poke_size]; exact hxx.size, fun r hrr hn => ?_, hxx.back, fun b k i hb hi => ?_, fun b es c hb => ?_, hxx.next, hxx.os, hxx.out⟩
            · rw [poke_ne (by rw [World.size_alloc]; omega)]
              exact hxx.kept r hrr hn
            · rw [drop_get] at hb
              split at hb
              · cases hb
              · exact hxx.live b k i hb hi
            · have := hw.get_lt hb
              rw [drop_get, if_neg (by omega)]
              exact hxx.ro b es c hb
          · exact poke_ne (by rw [World.size_alloc]; omega)
        unfold rangeK at kk
        simp only at kk
        split at kk
        · rename_i hget
          obtain ⟨w4, g1, g2, g3, g4⟩ := recd _ _ _ _ _ _ hget
          exact ⟨none, w4, g1, .normal, e, _, φ', kk, trivial, ha.mono hxx.phi, g2, g3, hdm _ g4, rfl⟩
        · rename_i hget
          obtain ⟨w4, g1, g2, g3, g4⟩ := recd _ _ _ _ _ _ hget
          exact ⟨some .ret, w4, g1, wpIn_ret ⟨.ret, e, _, φ', kk, trivial, ha.mono hxx.phi, g2, g3, hdm _ g4, rfl⟩⟩
        · rename_i id hget
          obtain ⟨w4, g1, g2, g3, g4⟩ := recd _ _ _ _ _ _ hget
          exact ⟨some (.exit id), w4, g1, wpIn_exit ⟨.exit id, e, _, φ', kk, rfl, ha.mono hxx.phi, g2, g3, hdm _ g4, rfl⟩⟩
        · exact kk.elim

end Go.Lift
