import Derived.Test.YtdmhefbbicadnaaGreatX16
import Derived.Recover
/-! A function that calls another one with a deferred function behind it that recovers: worked out. -/
namespace Go.Lift

structure DoDat where
  fB : FuncId
  fnD : Func
  fnB : Func
  r0 : Code
  rA : Code
  r3 : Code
  c5 : Code
  bk : Code
  id4 : Nat
  idr : Nat
  o0 : Oper
  o1 : Oper
  orec : Oper
  c : Call
  cr : Call
  t8 : Nat
  t2 : Nat
  t3 : Nat
  tr : Nat

structure DoOK (P : Program) (fD : FuncId) (D : DoDat) : Prop where
  hD : P.funcs[fD]? = some D.fnD
  hDb : D.fnD.body = some (.seq D.r0 (.seq D.rA (.seq D.r3 (.seq (.region D.id4 #[D.o0, D.o1] false) D.c5))))
  o0op : D.o0.op = .move (.tmp D.t3)
  o0g : D.o0.guard = none
  o0d : D.o0.dst = some D.t8
  o1op : D.o1.op = .defer D.c
  o1g : D.o1.guard = none
  o1d : D.o1.dst = none
  cc : D.c.callee = .value (.func D.fB)
  ca : D.c.args = #[.tmp D.t8, .tmp D.t2]
  hB : P.funcs[D.fB]? = some D.fnB
  hBb : D.fnB.body = some (.seq (.region D.idr #[D.orec] false) D.bk)
  rop : D.orec.op = .call D.cr
  rg : D.orec.guard = none
  rd : D.orec.dst = some D.tr
  rc : D.cr.callee = .builtin .recover
  nB : 2 ≤ D.fnB.ntmps
  trB : D.tr < D.fnB.ntmps
  resB : D.fnB.results = #[]
  t8D : D.t8 < D.fnD.ntmps
  nD : 1 ≤ D.fnD.ntmps
  g0 : regionsOK D.fnD.ntmps D.r0 = true
  gA : regionsOK D.fnD.ntmps D.rA = true
  g3 : regionsOK D.fnD.ntmps D.r3 = true
  g5 : regionsOK D.fnD.ntmps D.c5 = true
  gB : regionsOK D.fnB.ntmps D.bk = true
  m0 : noRF D.r0 = true
  mA : noRF D.rA = true
  m3 : noRF D.r3 = true
  m5 : noRF D.c5 = true
  mB : noRF D.bk = true
  okB : callOK P D.fB = true
  ne : D.t8 ≠ D.t2

theorem res_none {P : Program} {fn : Func} {tmps : Array Value} {w : World} (h : fn.results = #[]) : (results fn tmps).run P w = .ok (.tuple #[]) w := by
  simp [results, h]

noncomputable section

def doBack (fu d : Nat) (P : Program) (D : DoDat) (call : CallF) (g ep v : Value) (E5 : Tr Value) (T5 : VS) : Option (AEnd × VS) :=
  match (Go.Lift.cc fu P D.fnB.ntmps d D.bk).f call (eput (veOf [g, ep]) (some D.tr) v) T5 with
  | some (.normal, _, T6) => xres P D.fnD E5 T6 fun v => some (.returned v, T6)
  | some (.ret, _, T6) => xres P D.fnD E5 T6 fun v => some (.returned v, T6)
  | _ => none

def doO (fu d : Nat) (P : Program) (D : DoDat) (call : CallF) (args : List Value) (T : VS) : Option (AEnd × VS) :=
  match args with
  | [fv] => (match (Go.Lift.cc fu P D.fnD.ntmps d D.r0).f call (veOf [fv]) T with
    | some (.normal, E1, T1) => (match (Go.Lift.cc fu P D.fnD.ntmps d D.rA).f call E1 T1 with
      | some (.normal, E2, T2) => (match (Go.Lift.cc fu P D.fnD.ntmps d D.r3).f call E2 T2 with
        | some (.normal, E3, T3) => (match E3.get D.t3, E3.get D.t2 with
          | some g, some ep => (match (Go.Lift.cc fu P D.fnD.ntmps d D.c5).f call (eput E3 (some D.t8) g) T3 with
            | some (.ret, E5, T5) => doBack fu d P D call g ep .nilIface E5 T5
            | some (.panic [p], E5, T5) => (match p.recovered, p.goexit with
              | false, false => doBack fu d P D call g ep p.v E5 T5
              | _, _ => none)
            | _ => none)
          | _, _ => none)
        | _ => none)
      | _ => none)
    | _ => none)
  | _ => none

section
variable {fu d : Nat} {P : Program} {D : DoDat} {fD : FuncId} {call : CallF}

/-- The deferred function, behind a return or a panic. -/
theorem doBack_s (hm : P.follows .mixedOrders = true) (hc : CallOK P call) (h : DoOK P fD D) {g ep v : Value} {E5 : Tr Value} {T5 : VS} {en : AEnd} {T' : VS} (hb : doBack fu d P D call g ep v E5 T5 = some (en, T'))
    {K : AEnd → Heap → Prop} (hk : K en T'.den) {φ0 φ : Phi} {H0 : Heap} {w0 w : World} {g' ep' v' : Value} {tmps : Array Value} {ds : List Deferred} (hw : HR φ T5.den w) (hx : Ext φ0 H0 w0 φ T5.den w)
    (he : ARel φ (eden D.fnD.ntmps E5) { tmps := tmps, defers := ds }) (hg : VR φ g g') (hep : VR φ ep ep') (hv : VR φ v v') {u u' : FrameMode}
    (hu : u ≠ .run) (hset : settle u' = .returning)
    (hrec : ∀ (c₀ : Frame) (cs : List Frame), c₀.mode = u → (recoverD (c₀ :: cs) = some (v', { c₀ with mode := u' } :: cs)) ∨ (recoverD (c₀ :: cs) = none ∧ v' = .nilIface ∧ u' = u)) :
    Leaves P D.fnD tmps (fun e' w' => ∃ e H' φ', K e H' ∧ ER φ' e e' ∧ HR φ' H' w' ∧ Ext φ0 H0 w0 φ' H' w') [{ target := .fn (.func D.fB) #[], args := #[g', ep'] }] u w := by
  have hinv : (invoke (.fn (.func D.fB) #[]) #[g', ep']).run P w = .ok (.enter D.fB #[g', ep']) w := by
    have hok := h.okB
    unfold callOK at hok
    rw [h.hB] at hok
    simp only [Bool.and_eq_true, Bool.not_eq_true'] at hok
    have hnb : D.fnB.body.isNone = false := by rw [h.hBb]; rfl
    simp only [invoke, callFunc, Sem.run_bind, run_program, Result.andThen_ok, h.hB, hok.2, Bool.false_eq_true, if_false]
    simp [hnb]
  refine leaves_cons hu hinv ?_
  refine callsD_of_wpS h.hB h.hBb fun c₀ cs hc₀ => ?_
  refine wpS_seq (wpS_region ?_)
  have hrun : ∀ ρ : Operand → Value, (execOp ρ D.orec).run P w = .ok .recover w := by
    intro ρ
    unfold execOp
    rw [h.rop]
    simp [resolve, h.rc, invoke, builtin]
  -- behind recover
  have rest : ∀ cs', cs' = { c₀ with mode := u' } :: cs →
      Code.wpS P D.bk (bodyPostS P D.fnB c₀ cs fun
        | .returned _, u', w' => Leaves P D.fnD tmps (fun e' w' => ∃ e H' φ', K e H' ∧ ER φ' e e' ∧ HR φ' H' w' ∧ Ext φ0 H0 w0 φ' H' w') [] (settle u') w'
        | .panicked chain, u', w' => Leaves P D.fnD tmps (fun e' w' => ∃ e H' φ', K e H' ∧ ER φ' e e' ∧ HR φ' H' w' ∧ Ext φ0 H0 w0 φ' H' w') [] (raised u' chain) w'
        | .outgrown, _, w' => ∃ e H' φ', K e H' ∧ ER φ' e .outgrown ∧ HR φ' H' w' ∧ Ext φ0 H0 w0 φ' H' w')
        (Act.put { tmps := #[g', ep'] ++ Array.replicate (D.fnB.ntmps - (#[g', ep'] : Array Value).size) undef, defers := [] } D.orec.dst v') cs' w := by
    intro cs' hcs'
    refine wpS_of_wp ?_
    have harel : ARel φ (eden D.fnB.ntmps (eput (veOf [g, ep]) (some D.tr) v)) (Act.put { tmps := #[g', ep'] ++ Array.replicate (D.fnB.ntmps - (#[g', ep'] : Array Value).size) undef, defers := [] } D.orec.dst v') := by
      rw [← eden_put, h.rd]
      refine ARel.put ?_ (fun t ht => by obtain rfl := Option.some.inj ht; exact h.trB) hv
      have hn := h.nB
      refine ⟨by simp [eden]; omega, fun t x hx => ?_⟩
      rw [veOf_den] at hx
      simp only [eget, envOf] at hx
      match t, hx with
      | 0, hx => obtain rfl : g = x := by simpa using hx
                 exact ⟨by simp only [eden]; omega, by simpa [Array.getElem?_append] using hg⟩
      | 1, hx => obtain rfl : ep = x := by simpa using hx
                 exact ⟨by simp only [eden]; omega, by simpa [Array.getElem?_append] using hep⟩
      | t + 2, hx => simp at hx
    -- the results, from the first function's temporaries
    have fin : ∀ {T6 : VS}, (xres P D.fnD E5 T6 fun v => some (AEnd.returned v, T6)) = some (en, T') → ∀ {φ6 w6}, HR φ6 T6.den w6 → Ext φ T5.den w φ6 T6.den w6 →
        Leaves P D.fnD tmps (fun e' w' => ∃ e H' φ', K e H' ∧ ER φ' e e' ∧ HR φ' H' w' ∧ Ext φ0 H0 w0 φ' H' w') [] (settle u') w6 := by
      intro T6 hr φ6 w6 hw6 hx6
      rw [hset]
      have hares : ares P D.fnD (eden D.fnD.ntmps E5) T6.den fun v => en = .returned v ∧ T' = T6 := xres_s hr fun x hx => by
        simp only [Option.some.injEq, Prod.mk.injEq] at hx
        exact ⟨hx.1.symm, hx.2.symm⟩
      obtain ⟨x, x', g1, ⟨g2, g3⟩, g4⟩ := ares_sound hares (he.mono hx6.phi) hw6
      subst g2; subst g3
      exact ⟨x', g1, _, _, φ6, hk, g4, hw6, hx.trans hx6⟩
    unfold doBack at hb
    split at hb
    · rename_i E6 T6 hcc
      have hac := cc_s (rf := false) hm hc d D.bk _ _ _ _ _ hcc h.gB (.inr h.mB) (fun x e H => x = .normal ∧ H = T6.den) ⟨rfl, rfl⟩
      refine wp_mono (wpIn_wide.1 (hac Fence.wide WF.wide (by simp) φ _ w harel hw)) ?_
      rintro ex' a' w' ⟨ex, e', H', φ', ⟨rfl, rfl⟩, r1, r2, r4, r5, r6, r7⟩
      cases ex' <;> simp only [XR] at r1
      exact ⟨by rw [r6.eq, Act.put_defers'], u', hcs', .tuple #[], res_none h.resB, fin hb r4 r5⟩
    · rename_i E6 T6 hcc
      have hac := cc_s (rf := false) hm hc d D.bk _ _ _ _ _ hcc h.gB (.inr h.mB) (fun x e H => x = .ret ∧ H = T6.den) ⟨rfl, rfl⟩
      refine wp_mono (wpIn_wide.1 (hac Fence.wide WF.wide (by simp) φ _ w harel hw)) ?_
      rintro ex' a' w' ⟨ex, e', H', φ', ⟨rfl, rfl⟩, r1, r2, r4, r5, r6, r7⟩
      cases ex' <;> simp only [XR] at r1
      exact ⟨by rw [r6.eq, Act.put_defers'], u', hcs', .tuple #[], res_none h.resB, fin hb r4 r5⟩
    · cases hb
  have hwant : ∀ y, Region.wanted D.orec y = true := fun y => by simp [Region.wanted, h.rg]
  show wpOpsS P #[D.orec] _ [0] _ _ _
  unfold wpOpsS
  simp only [List.getElem?_toArray, List.getElem?_cons_zero, hwant, if_true, hrun]
  rcases hrec c₀ cs hc₀ with hr | ⟨hr, hv', hu'⟩
  · rw [hr]
    exact rest _ rfl
  · rw [hr]
    have : ({ c₀ with mode := u' } : Frame) = c₀ := by rw [hu', ← hc₀]
    have h2 := rest (c₀ :: cs) (by rw [this])
    rw [hv'] at h2
    exact h2

theorem doO_s (hm : P.follows .mixedOrders = true) (hc : CallOK P call) (h : DoOK P fD D) {args : List Value} {T : VS} {en : AEnd} {T' : VS} (hb : doO fu d P D call args T = some (en, T'))
    {K : AEnd → Heap → Prop} (hk : K en T'.den) : acall P fD args T.den K := by
  intro φ args' w hargs hw
  unfold doO at hb
  split at hb
  case h_2 => cases hb
  rename_i fv
  split at hb
  case h_2 => cases hb
  rename_i E1 T1 hc1
  split at hb
  case h_2 => cases hb
  rename_i E2 T2 hc2
  split at hb
  case h_2 => cases hb
  rename_i E3 T3 hc3
  split at hb
  case h_2 => cases hb
  rename_i g ep hgE hepE
  obtain ⟨f', x', rfl, hf, hr⟩ := hargs.inv_cons
  obtain rfl := hr.inv_nil
  refine calls_of_wp_defers h.hD h.hDb ?_
  have ha0 : ARel φ (eden D.fnD.ntmps (veOf [fv])) { tmps := [f'].toArray ++ Array.replicate (D.fnD.ntmps - [f'].toArray.size) undef, defers := [] } := by
    have hn := h.nD
    refine ⟨by simp [eden]; omega, fun t x hx => ?_⟩
    rw [veOf_den] at hx
    simp only [eget, envOf] at hx
    match t, hx with
    | 0, hx => obtain rfl : fv = x := by simpa using hx
               exact ⟨by simp only [eden]; omega, by simpa [Array.getElem?_append] using hf⟩
    | t + 1, hx => simp at hx
  have a1 := cc_s (rf := false) hm hc d D.r0 _ _ _ _ _ hc1 h.g0 (.inr h.m0) (fun x e H => x = .normal ∧ e = eden D.fnD.ntmps E1 ∧ H = T1.den) ⟨rfl, rfl, rfl⟩
  refine wp_seq (wp_mono (wpIn_wide.1 (a1 Fence.wide WF.wide (by simp) φ _ w ha0 hw)) ?_)
  rintro ex' b1 w1 ⟨ex, e', H', φ1, ⟨rfl, rfl, rfl⟩, r1, r2, r4, r5, r6, r7⟩
  cases ex' <;> simp only [XR] at r1
  have a2 := cc_s (rf := false) hm hc d D.rA _ _ _ _ _ hc2 h.gA (.inr h.mA) (fun x e H => x = .normal ∧ e = eden D.fnD.ntmps E2 ∧ H = T2.den) ⟨rfl, rfl, rfl⟩
  refine wp_seq (wp_mono (wpIn_wide.1 (a2 Fence.wide WF.wide (by simp) φ1 _ w1 r2 r4)) ?_)
  rintro ex' b2 w2 ⟨ex, e', H', φ2, ⟨rfl, rfl, rfl⟩, r1', s2, s4, s5, s6, s7⟩
  cases ex' <;> simp only [XR] at r1'
  have a3 := cc_s (rf := false) hm hc d D.r3 _ _ _ _ _ hc3 h.g3 (.inr h.m3) (fun x e H => x = .normal ∧ e = eden D.fnD.ntmps E3 ∧ H = T3.den) ⟨rfl, rfl, rfl⟩
  refine wp_seq (wp_mono (wpIn_wide.1 (a3 Fence.wide WF.wide (by simp) φ2 _ w2 s2 s4)) ?_)
  rintro ex' b3 w3 ⟨ex, e', H', φ3, ⟨rfl, rfl, rfl⟩, r1'', t2, t4, t5, t6, t7⟩
  cases ex' <;> simp only [XR] at r1''
  have hdef : b3.defers = [] := by rw [t6.eq, s6.eq, r6.eq]
  have hx3 : Ext φ T.den w φ3 T3.den w3 := (r5.trans s5).trans t5
  -- the deferred call
  have hg3 := (t2.2 D.t3 g hgE).2
  have hep3 := (t2.2 D.t2 ep hepE).2
  have hw0 : ∀ y, Region.wanted D.o0 y = true := fun y => by simp [Region.wanted, h.o0g]
  have hw1 : ∀ y, Region.wanted D.o1 y = true := fun y => by simp [Region.wanted, h.o1g]
  have e0 : (execOp b3.eval D.o0).run P w3 = .ok (.value (b3.tmps.getD D.t3 undef)) w3 := by
    unfold execOp
    rw [h.o0op]
    rfl
  let b4 : Act := b3.put (some D.t8) (b3.tmps.getD D.t3 undef)
  have ha4 : ARel φ3 (eden D.fnD.ntmps (eput E3 (some D.t8) g)) b4 := by
    rw [← eden_put]
    exact t2.put (fun t ht => by obtain rfl := Option.some.inj ht; exact h.t8D) hg3
  have hlt8 : D.t8 < b3.tmps.size := by rw [t2.1]; exact h.t8D
  have v8 : b4.eval (.tmp D.t8) = b3.tmps.getD D.t3 undef := by
    show b4.tmps.getD D.t8 undef = _
    simp [b4, Act.put, hlt8]
  have v2 : b4.eval (.tmp D.t2) = b3.tmps.getD D.t2 undef := by
    show b4.tmps.getD D.t2 undef = _
    simp [b4, Act.put, Array.getElem?_setIfInBounds_ne h.ne]
  have e1 : (execOp b4.eval D.o1).run P w3 = .ok (.defer { target := .fn (.func D.fB) #[], args := #[b3.tmps.getD D.t3 undef, b3.tmps.getD D.t2 undef] }) w3 := by
    unfold execOp
    rw [h.o1op]
    have hfv : b4.eval (.func D.fB) = .func (.func D.fB) #[] #[] := rfl
    simp [resolve, h.cc, h.ca, hfv, Deferred.ofValue, v8, v2]
  refine wp_seq (wp_region ?_)
  show wpOps P #[D.o0, D.o1] _ [0, 1] b3 w3
  rw [wpOps_cons]
  unfold wpOp
  simp only [List.getElem?_toArray, List.getElem?_cons_zero, hw0, if_true]
  refine .inl ?_
  unfold Oper.wp
  rw [e0, Oper.upon_value, h.o0d]
  rw [wpOps_cons]
  unfold wpOp
  simp only [List.getElem?_toArray, List.getElem?_cons_succ, List.getElem?_cons_zero, hw1, if_true]
  refine .inl ?_
  unfold Oper.wp
  show D.o1.upon P b4 _ _ ((execOp b4.eval D.o1).run P w3)
  rw [e1, Oper.upon_defer, h.o1d]
  show Exit.then _ _ .normal _ w3
  simp only [Exit.then, Act.put]
  let b5 : Act := { b4 with defers := { target := .fn (.func D.fB) #[], args := #[b3.tmps.getD D.t3 undef, b3.tmps.getD D.t2 undef] } :: b4.defers }
  have ha5 : ARel φ3 (eden D.fnD.ntmps (eput E3 (some D.t8) g)) b5 := ha4
  have hd5 : b5.defers = [{ target := .fn (.func D.fB) #[], args := #[b3.tmps.getD D.t3 undef, b3.tmps.getD D.t2 undef] }] := by
    show _ :: b4.defers = _
    have : b4.defers = b3.defers := Act.put_defers' _ _ _
    rw [this, hdef]
  show Code.wp P D.c5 _ b5 w3
  split at hb
  · rename_i E5 T5 hc5
    have a5 := cc_s (rf := false) hm hc d D.c5 _ _ _ _ _ hc5 h.g5 (.inr h.m5) (fun x e H => x = .ret ∧ e = eden D.fnD.ntmps E5 ∧ H = T5.den) ⟨rfl, rfl, rfl⟩
    refine wp_mono (wpIn_wide.1 (a5 Fence.wide WF.wide (by simp) φ3 _ w3 ha5 t4)) ?_
    rintro ex' b6 w6 ⟨ex, e', H', φ6, ⟨rfl, rfl, rfl⟩, q1, q2, q4, q5, q6, q7⟩
    cases ex' <;> simp only [XR] at q1
    show Leaves P D.fnD b6.tmps _ b6.defers .returning w6
    rw [q6.eq, hd5]
    exact doBack_s hm hc h hb hk q4 (hx3.trans q5) (ds := []) ⟨q2.1, q2.2⟩ (hg3.mono q5.phi) (hep3.mono q5.phi) .nilIface (u' := .returning) (by simp) rfl fun c₀ cs hc₀ => by
      right
      exact ⟨by simp [recoverD, hc₀], rfl, rfl⟩
  · rename_i p E5 T5 hc5
    split at hb
    · rename_i hp1 hp2
      have a5 := cc_s (rf := false) hm hc d D.c5 _ _ _ _ _ hc5 h.g5 (.inr h.m5) (fun x e H => x = .panic [p] ∧ e = eden D.fnD.ntmps E5 ∧ H = T5.den) ⟨rfl, rfl, rfl⟩
      refine wp_mono (wpIn_wide.1 (a5 Fence.wide WF.wide (by simp) φ3 _ w3 ha5 t4)) ?_
      rintro ex' b6 w6 ⟨ex, e', H', φ6, ⟨rfl, rfl, rfl⟩, q1, q2, q4, q5, q6, q7⟩
      cases ex' <;> simp only [XR] at q1
      rename_i chain'
      obtain ⟨hl, hel⟩ := q1
      obtain ⟨p', hp', hpv, hpr, hpg⟩ := hel 0 p rfl
      obtain rfl : chain' = [p'] := by
        match chain', hl, hp' with
        | [y], _, hp' => simpa using hp'
      show Leaves P D.fnD b6.tmps _ b6.defers (.panicking [p']) w6
      rw [q6.eq, hd5]
      obtain ⟨v', rec', gx'⟩ := p'
      simp only at hpr hpg hpv
      rw [hp1] at hpr
      rw [hp2] at hpg
      subst hpr; subst hpg
      exact doBack_s hm hc h hb hk q4 (hx3.trans q5) (ds := []) ⟨q2.1, q2.2⟩ (hg3.mono q5.phi) (hep3.mono q5.phi) hpv (u' := .panicking [{ v := v', recovered := true }]) (by simp) rfl fun c₀ cs hc₀ => by
        left
        simp [recoverD, hc₀]
    · cases hb
  · cases hb
end

end

end Go.Lift
