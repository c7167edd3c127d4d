import Derived.Test.YtdmhefbbicadnaaGreatD0
/-! The pieces of such a function, read off the program. -/
namespace Go.Lift

def doChecks (P : Program) (D : DoDat) (t8' : Nat) : Bool :=
  t8' == D.t8 && Nat.ble 2 D.fnB.ntmps && Nat.blt D.tr D.fnB.ntmps && D.fnB.results.isEmpty && Nat.blt D.t8 D.fnD.ntmps && Nat.ble 1 D.fnD.ntmps &&
  regionsOK D.fnD.ntmps D.r0 && regionsOK D.fnD.ntmps D.rA && regionsOK D.fnD.ntmps D.r3 && regionsOK D.fnD.ntmps D.c5 && regionsOK D.fnB.ntmps D.bk && callOK P D.fB && D.t8 != D.t2 && noRF D.r0 && noRF D.rA && noRF D.r3 && noRF D.c5 && noRF D.bk

def doB (P : Program) (fnD : Func) (r0 rA r3 c5 : Code) (id4 : Nat) (o0 o1 : Oper) (c : Call) (t8 t8' t2 t3 : Nat) (fB : FuncId) : Option DoDat :=
  match P.funcs[fB]? with
  | some fnB => (match fnB.body with
    | some (.seq (.region idr opsr false) bk) => (match opsr.toList with
      | [orec] => (match orec.op, orec.guard, orec.dst with
        | .call cr, none, some tr => (match cr.callee with
          | .builtin .recover =>
            let D : DoDat := { fB, fnD, fnB, r0, rA, r3, c5, bk, id4, idr, o0, o1, orec, c, cr, t8, t2, t3, tr }
            (match doChecks P D t8' with | true => some D | false => none)
          | _ => none)
        | _, _, _ => none)
      | _ => none)
    | _ => none)
  | none => none

def doFor (P : Program) (fD : FuncId) : Option DoDat :=
  match P.funcs[fD]? with
  | some fnD => (match fnD.body with
    | some (.seq r0 (.seq rA (.seq r3 (.seq (.region id4 ops4 false) c5)))) => (match ops4.toList with
      | [o0, o1] => (match o0.op, o0.guard, o0.dst, o1.op, o1.guard, o1.dst with
        | .move (.tmp t3), none, some t8, .defer c, none, none => (match c.callee, c.args.toList with
          | .value (.func fB), [.tmp t8', .tmp t2] => doB P fnD r0 rA r3 c5 id4 o0 o1 c t8 t8' t2 t3 fB
          | _, _ => none)
        | _, _, _, _, _, _ => none)
      | _ => none)
    | _ => none)
  | none => none

theorem doFor_s {P : Program} {fD : FuncId} {D : DoDat} (h : doFor P fD = some D) : DoOK P fD D := by
  unfold doFor at h
  split at h
  case h_2 => cases h
  rename_i fnD hfD
  split at h
  case h_2 => cases h
  rename_i r0 rA r3 id4 ops4 c5 hb
  split at h
  case h_2 => cases h
  rename_i o0 o1 hops
  split at h
  case h_2 => cases h
  rename_i t3 t8 c h1 h2 h3 h4 h5 h6
  split at h
  case h_2 => cases h
  rename_i fB t8' t2 hc1 hc2
  unfold doB at h
  split at h
  case h_2 => cases h
  rename_i fnB hfB
  split at h
  case h_2 => cases h
  rename_i idr opsr bk hbb
  split at h
  case h_2 => cases h
  rename_i orec hor
  split at h
  case h_2 => cases h
  rename_i cr tr k1 k2 k3
  split at h
  case h_2 => cases h
  rename_i kc
  dsimp only at h
  split at h
  case h_2 => cases h
  rename_i hck
  obtain rfl := Option.some.inj h
  simp only [doChecks, Bool.and_eq_true, beq_iff_eq, bne_iff_ne, ne_eq] at hck
  obtain ⟨⟨⟨⟨⟨⟨⟨⟨⟨⟨⟨⟨⟨⟨⟨⟨⟨q1, q2⟩, q3⟩, q4⟩, q5⟩, q6⟩, q7⟩, q8⟩, q9⟩, q10⟩, q11⟩, q12⟩, q13⟩, m0⟩, mA⟩, m3⟩, m5⟩, mB⟩ := hck
  subst q1
  have ho : ops4 = #[o0, o1] := by rw [← Array.toList_inj]; exact hops
  have hr : opsr = #[orec] := by rw [← Array.toList_inj]; exact hor
  have hca : c.args = #[.tmp t8', .tmp t2] := by rw [← Array.toList_inj]; exact hc2
  subst ho; subst hr
  exact {
    hD := hfD, hDb := hb, o0op := h1, o0g := h2, o0d := h3, o1op := h4, o1g := h5, o1d := h6, cc := hc1, ca := hca, hB := hfB, hBb := hbb, rop := k1, rg := k2, rd := k3, rc := kc,
    nB := Nat.le_of_ble_eq_true q2, trB := blt_s q3, resB := by simpa using q4, t8D := blt_s q5, nD := Nat.le_of_ble_eq_true q6,
    g0 := q7, gA := q8, g3 := q9, g5 := q10, gB := q11, okB := q12, ne := q13, m0 := m0, mA := mA, m3 := m3, m5 := m5, mB := mB }

end Go.Lift
