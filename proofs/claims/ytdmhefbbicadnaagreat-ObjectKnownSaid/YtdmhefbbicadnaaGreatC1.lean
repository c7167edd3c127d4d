import Derived.Test.YtdmhefbbicadnaaGreatProg
import Derived.Test.YtdmhefbbicadnaaGreatC0
import Derived.KernelRfl
namespace Go.Lift
open Go.Proofs

def u8row (H : Heap) (v : Value) : Option (List Value) :=
  match v with
  | .slice _ 0 _ => some []
  | .slice (some ⟨b, o, none⟩) l _ => (match H.get b with
    | some (.cells _ _ c) => if o + l ≤ c.length then some ((c.drop o).take l) else none
    | _ => none)
  | _ => none

def eqL : List Value → List Value → Option Bool
  | [], [] => some true
  | .int .u8 n :: l, .int .u8 m :: l' => match feq n m with
    | true => eqL l l'
    | false => some false
  | _, _ => none

theorem plan_eq : planFor Tryz.prog (match Tryz.f128.body with
  | some (.seq _ (.seq _ (.seq (.seq _ (.block _ (.loop (.seq _ (.seq _ (.seq (.block _ (.seq _ (.seq (.region _ ops _) _))) _)))))) _))) => ops
  | _ => #[]) = some [.rd 0 false, .rd 1 false, .rd 2 false, .rd 3 true, .rd 4 false, .rd 5 false, .rd 6 false, .rd 7 true, .rd 8 false] := by kernel_rfl

theorem eget_envOf {l : List Value} {n t : Nat} : eget (envOf l n) t = l[t]? := rfl

set_option maxRecDepth 100000
theorem wrap1 {i l : Nat} (h : i < l) (hl : l < 9223372036854775808) : IntKind.i64.wrap ((i : Int) + 1) = ((i + 1 : Nat) : Int) := by
  rw [wrap_i64 (by omega) (by omega)]; omega

/-- One round, at place i. -/
theorem equal_round {H : Heap} {b1 o1 b2 o2 l c1 c2 : Nat} {ro1 ro2 : Bool} {es1 es2 i : Nat} {r1 r2 : List Value} {n m : Int} (h1 : H.get b1 = some (.cells ro1 es1 r1)) (h2 : H.get b2 = some (.cells ro2 es2 r2)) (hi : i < l)
    (g1 : r1[o1 + i]? = some (.int .u8 n)) (g2 : r2[o2 + i]? = some (.int .u8 m)) {e : Env} (hn : e.n = 26) (e0 : eget e 0 = some (.slice (some ⟨b1, o1, none⟩) l c1)) (e1 : eget e 1 = some (.slice (some ⟨b2, o2, none⟩) l c2)) (e13 : eget e 13 = some (.int .i64 i))
    {K : AExit → Env → Heap → Prop} {rest : Code} (hk : ∀ e', e'.n = 26 → eget e' 0 = eget e 0 → eget e' 1 = eget e 1 → eget e' 12 = eget e 12 → eget e' 13 = eget e 13 → eget e' 24 = some (.bool (n != m)) → acode true Tryz.prog rest K e' H)
    {c : Code} (hc : c = (match Tryz.f128.body with
      | some (.seq _ (.seq _ (.seq (.seq _ (.block _ (.loop (.seq _ (.seq _ (.seq (.block _ (.seq r5 (.seq r6 _))) _)))))) _))) => .seq r5 (.seq r6 rest)
      | _ => .skip)) : acode true Tryz.prog c K e H := by
  subst hc
  show acode true Tryz.prog (.seq _ (.seq _ rest)) K e H
  refine acode_seq (acode_reg (m := 26) (by kernel_rfl) hn ?_)
  show aops _ _ _ [0, 1] _ _
  refine aops_yld (yld_move rfl rfl rfl (show aeval e (.tmp 13) = _ from e13)) ?_
  refine aops_yld (yld_assign rfl rfl rfl (show aeval (Env.put e (some 15) _) (.tmp 15) = _ from rfl)) ?_
  show thenK _ _ _ _ _ ((e.put (some 15) _).put (some 5) _) _
  generalize he : (e.put (some 15) (.int .i64 i)).put (some 5) (.int .i64 i) = e'
  have f0 : eget e' 0 = eget e 0 := by subst he; rfl
  have f1 : eget e' 1 = eget e 1 := by subst he; rfl
  have f12 : eget e' 12 = eget e 12 := by subst he; rfl
  have f13 : eget e' 13 = eget e 13 := by subst he; rfl
  have f5 : eget e' 5 = some (.int .i64 i) := by subst he; rfl
  have fn : e'.n = 26 := by subst he; exact hn
  refine acode_seq (acode_plan (m := 26) (by kernel_rfl) plan_eq (by kernel_rfl) fn ?_)
  refine ⟨_, yld_move rfl rfl rfl (show aeval e' (.tmp 0) = _ from f0.trans e0), ?_⟩
  refine ⟨_, yld_move rfl rfl rfl (show aeval (Env.put e' _ _) (.tmp 5) = _ from f5), ?_⟩
  refine ⟨_, yld_idx rfl rfl rfl (show aeval (Env.put (Env.put e' _ _) _ _) (.tmp 16) = _ from rfl) (show aeval (Env.put (Env.put e' _ _) _ _) (.tmp 17) = _ from rfl) Tryz.underlying36 (s := 1) (by kernel_rfl) (by omega) (by omega), ?_⟩
  refine ⟨.int .u8 n, yld_load (u := .int .u8 n) rfl rfl rfl (show aeval (Env.put (Env.put (Env.put e' _ _) _ _) _ _) (.tmp 18) = _ from rfl) h1 Tryz.underlying5 rfl (by rw [show o1 + (i : Int).toNat * 1 = o1 + i by omega]; exact g1) (fun K hK => ⟨rfl, hK⟩), ?_⟩
  refine ⟨_, yld_move rfl rfl rfl (show aeval (Env.put (Env.put (Env.put (Env.put e' _ _) _ _) _ _) _ _) (.tmp 1) = _ from f1.trans e1), ?_⟩
  refine ⟨_, yld_move rfl rfl rfl (show aeval (Env.put (Env.put (Env.put (Env.put (Env.put e' _ _) _ _) _ _) _ _) _ _) (.tmp 5) = _ from f5), ?_⟩
  refine ⟨_, yld_idx rfl rfl rfl (show aeval (Env.put (Env.put (Env.put (Env.put (Env.put (Env.put e' _ _) _ _) _ _) _ _) _ _) _ _) (.tmp 20) = _ from rfl) (show aeval (Env.put (Env.put (Env.put (Env.put (Env.put (Env.put e' _ _) _ _) _ _) _ _) _ _) _ _) (.tmp 21) = _ from rfl) Tryz.underlying36 (s := 1) (by kernel_rfl) (by omega) (by omega), ?_⟩
  refine ⟨.int .u8 m, yld_load (u := .int .u8 m) rfl rfl rfl (show aeval (Env.put _ (some 22) _) (.tmp 22) = _ from rfl) h2 Tryz.underlying5 rfl (by rw [show o2 + (i : Int).toNat * 1 = o2 + i by omega]; exact g2) (fun K hK => ⟨rfl, hK⟩), ?_⟩
  refine ⟨_, yld_bin rfl rfl rfl (show aeval (Env.put _ (some 23) _) (.tmp 19) = some (.int .u8 n) from rfl) (show aeval (Env.put _ (some 23) _) (.tmp 23) = some (.int .u8 m) from rfl) (fun K hK => ⟨rfl, hK⟩), ?_⟩
  exact hk _ fn f0 f1 f12 f13 rfl

theorem eqL_cons {r1 r2 : List Value} {o1 o2 l i : Nat} {q : Bool} (hi : i < l) (hl1 : o1 + l ≤ r1.length) (hl2 : o2 + l ≤ r2.length) (h : eqL ((r1.drop (o1 + i)).take (l - i)) ((r2.drop (o2 + i)).take (l - i)) = some q) :
    ∃ n m, r1[o1 + i]? = some (.int .u8 n) ∧ r2[o2 + i]? = some (.int .u8 m) ∧
      (match feq n m with | true => eqL ((r1.drop (o1 + (i + 1))).take (l - (i + 1))) ((r2.drop (o2 + (i + 1))).take (l - (i + 1))) | false => some false) = some q := by
  have e1 : (r1.drop (o1 + i)).take (l - i) = r1[o1 + i]'(by omega) :: (r1.drop (o1 + (i + 1))).take (l - (i + 1)) := by
    rw [List.drop_eq_getElem_cons (by omega), show l - i = (l - (i + 1)) + 1 by omega, List.take_succ_cons]; rfl
  have e2 : (r2.drop (o2 + i)).take (l - i) = r2[o2 + i]'(by omega) :: (r2.drop (o2 + (i + 1))).take (l - (i + 1)) := by
    rw [List.drop_eq_getElem_cons (by omega), show l - i = (l - (i + 1)) + 1 by omega, List.take_succ_cons]; rfl
  rw [e1, e2] at h
  unfold eqL at h
  split at h
  · rename_i h1 _; cases h1
  · rename_i n a m b h1 h2
    obtain ⟨q1, rfl⟩ := List.cons.inj h1
    obtain ⟨q2, rfl⟩ := List.cons.inj h2
    exact ⟨n, m, by rw [← q1]; exact List.getElem?_eq_getElem _, by rw [← q2]; exact List.getElem?_eq_getElem _, h⟩
  · cases h

/-- slices.Equal, two rows of bytes of one length. -/
theorem equal_rows (K : AEnd → Heap → Prop) {H : Heap} {b1 o1 b2 o2 l c1 c2 : Nat} {ro1 ro2 : Bool} {es1 es2 : Nat} {r1 r2 : List Value} {q : Bool} (h1 : H.get b1 = some (.cells ro1 es1 r1)) (h2 : H.get b2 = some (.cells ro2 es2 r2)) (hl : l < 9223372036854775808)
    (hl1 : o1 + l ≤ r1.length) (hl2 : o2 + l ≤ r2.length) (hq : eqL ((r1.drop o1).take l) ((r2.drop o2).take l) = some q) (hk : K (.returned (.bool q)) H) :
    acall Tryz.prog 128 [.slice (some ⟨b1, o1, none⟩) l c1, .slice (some ⟨b2, o2, none⟩) l c2] H K := by
  refine acall_of_acode Tryz.func128 rfl (Nat.le_of_ble_eq_true rfl) ?_
  generalize he0 : envOf [.slice (some ⟨b1, o1, none⟩) l c1, .slice (some ⟨b2, o2, none⟩) l c2] Tryz.f128.ntmps = e0
  have n0 : e0.n = 26 := by subst he0; rfl
  have a0 : eget e0 0 = some (.slice (some ⟨b1, o1, none⟩) l c1) := by subst he0; rfl
  have a1 : eget e0 1 = some (.slice (some ⟨b2, o2, none⟩) l c2) := by subst he0; rfl
  clear he0
  refine acode_seq (acode_reg (m := 26) (by kernel_rfl) n0 ?_)
  show aops _ _ _ [0] _ _
  refine aops_yld (yld_assign rfl rfl rfl (show aeval e0 (.const (.bool false)) = _ from rfl)) ?_
  refine acode_seq (acode_seq (acode_reg (m := 26) (by kernel_rfl) n0 ?_))
  show aops _ _ _ [0, 1, 2, 3, 4] _ _
  refine aops_yld (yld_move rfl rfl rfl (show aeval (Env.put e0 _ _) (.tmp 0) = _ from a0)) ?_
  refine aops_yld (yld_len rfl rfl rfl rfl rfl rfl (show aeval (Env.put (Env.put e0 _ _) _ _) (.tmp 6) = _ from rfl) Tryz.underlying36) ?_
  refine aops_yld (yld_move rfl rfl rfl (show aeval (Env.put (Env.put (Env.put e0 _ _) _ _) _ _) (.tmp 1) = _ from a1)) ?_
  refine aops_yld (yld_len rfl rfl rfl rfl rfl rfl (show aeval (Env.put _ (some 8) _) (.tmp 8) = _ from rfl) Tryz.underlying36) ?_
  refine aops_yld (yld_bin (v := .bool ((l : Int) != (l : Int))) rfl rfl rfl (show aeval (Env.put _ (some 9) _) (.tmp 7) = some (.int .i64 l) from rfl) (show aeval (Env.put _ (some 9) _) (.tmp 9) = some (.int .i64 l) from rfl) (fun K hK => ⟨rfl, hK⟩)) ?_
  rw [show ((l : Int) != (l : Int)) = false by simp]
  refine acode_cond (t := false) (show aeval (Env.put _ (some 10) _) (.tmp 10) = _ from rfl) (acode_skip ?_)
  refine acode_seq (acode_seq (acode_reg (m := 26) (by kernel_rfl) n0 ?_))
  show aops _ _ _ [0, 1, 2] _ _
  refine aops_yld (yld_move rfl rfl rfl (show aeval (Env.put _ (some 10) _) (.tmp 0) = _ from a0)) ?_
  refine aops_yld (yld_len rfl rfl rfl rfl rfl rfl (show aeval (Env.put _ (some 11) _) (.tmp 11) = _ from rfl) Tryz.underlying36) ?_
  refine aops_yld (yld_move rfl rfl rfl (show aeval (Env.put _ (some 12) _) (.const (.int .i64 0)) = _ from rfl)) ?_
  show acode true Tryz.prog _ _ (Env.put _ (some 13) _) H
  generalize he1 : Env.put _ (some 13) (.int .i64 0) = e1
  have n1 : e1.n = 26 := by subst he1; exact n0
  have b0 : eget e1 0 = some (.slice (some ⟨b1, o1, none⟩) l c1) := by subst he1; exact a0
  have b1' : eget e1 1 = some (.slice (some ⟨b2, o2, none⟩) l c2) := by subst he1; exact a1
  have b12 : eget e1 12 = some (.int .i64 l) := by subst he1; rfl
  have b13 : eget e1 13 = some (.int .i64 ((0 : Nat) : Int)) := by subst he1; rfl
  clear he1
  refine acode_block (acode_loop (fun k e H' => H' = H ∧ ∃ i, i ≤ l ∧ k = l - i ∧ e.n = 26 ∧ eget e 0 = some (.slice (some ⟨b1, o1, none⟩) l c1) ∧ eget e 1 = some (.slice (some ⟨b2, o2, none⟩) l c2) ∧ eget e 12 = some (.int .i64 l) ∧ eget e 13 = some (.int .i64 (i : Nat)) ∧
    eqL ((r1.drop (o1 + i)).take (l - i)) ((r2.drop (o2 + i)).take (l - i)) = some q) (n := l) ⟨rfl, 0, Nat.zero_le _, rfl, n1, b0, b1', b12, b13, hq⟩ ?_)
  rintro k e H' ⟨rfl, i, hil, rfl, hn, e0', e1', e12, e13, hq'⟩
  refine acode_seq (acode_reg (m := 26) (by kernel_rfl) hn ?_)
  show aops _ _ _ [0] _ _
  refine aops_yld (yld_bin (v := .bool (decide ((i : Int) < (l : Int)))) rfl rfl rfl (show aeval e (.tmp 13) = _ from e13) (show aeval e (.tmp 12) = _ from e12) (fun K hK => ⟨rfl, hK⟩)) ?_
  by_cases hlt : i < l
  · rw [show decide ((i : Int) < (l : Int)) = true by simpa using hlt]
    refine acode_seq (acode_cond (t := true) (show aeval (Env.put e (some 14) _) (.tmp 14) = _ from rfl) (acode_skip ?_))
    obtain ⟨n, m, g1, g2, hrest⟩ := eqL_cons hlt hl1 hl2 hq'
    refine acode_seq (acode_block ?_)
    refine equal_round (e := Env.put e (some 14) (.bool true)) h1 h2 hlt g1 g2 hn e0' e1' e13 (fun e2 fn f0 f1 f12 f13 f24 => ?_) rfl
    have hnm : (n != m) = !(feq n m) := by rw [feq_eq]; rfl
    cases hf : feq n m with
    | true =>
      rw [hf] at hrest hnm
      rw [hnm] at f24
      refine acode_cond (t := false) (show aeval e2 (.tmp 24) = _ from f24) (acode_skip ?_)
      show acode true Tryz.prog _ _ e2 H'
      refine acode_reg (m := 26) (by kernel_rfl) fn ?_
      show aops _ _ _ [0, 1] _ _
      refine aops_yld (yld_bin (v := .int .i64 ((i + 1 : Nat) : Int)) rfl rfl rfl (show aeval e2 (.tmp 13) = some (.int .i64 i) from f13.trans e13) (show aeval e2 (.const (.int .i64 1)) = _ from rfl) (fun K hK => ⟨rfl, by rw [wrap1 hlt hl]; exact hK⟩)) ?_
      refine aops_yld (yld_move rfl rfl rfl (show aeval (Env.put e2 (some 25) _) (.tmp 25) = _ from rfl)) ?_
      exact ⟨l - (i + 1), by omega, rfl, i + 1, hlt, rfl, fn, f0.trans e0', f1.trans e1', f12.trans e12, rfl, hrest⟩
    | false =>
      rw [hf] at hrest hnm
      rw [hnm] at f24
      refine acode_cond (t := true) (show aeval e2 (.tmp 24) = _ from f24) ?_
      refine acode_seq (acode_reg (m := 26) (by kernel_rfl) fn ?_)
      show aops _ _ _ [0] _ _
      refine aops_yld (yld_assign rfl rfl rfl (show aeval e2 (.const (.bool false)) = _ from rfl)) ?_
      refine acode_ret ?_
      have : q = false := (Option.some.inj hrest).symm
      subst this
      exact hk
  · rw [show decide ((i : Int) < (l : Int)) = false by simpa using hlt]
    refine acode_seq (acode_cond (t := false) (show aeval (Env.put e (some 14) _) (.tmp 14) = _ from rfl) (acode_exit ?_))
    have hil' : i = l := by omega
    subst hil'
    rw [Nat.sub_self] at hq'
    simp only [List.take_zero, eqL, Option.some.injEq] at hq'
    subst hq'
    show acode true Tryz.prog _ _ _ H'
    refine acode_seq (acode_reg (m := 26) (by kernel_rfl) hn ?_)
    show aops _ _ _ [0] _ _
    refine aops_yld (yld_assign rfl rfl rfl (show aeval (Env.put e (some 14) _) (.const (.bool true)) = _ from rfl)) ?_
    refine acode_ret ?_
    exact hk

/-- slices.Equal, of two lengths, or of nothing. -/
theorem equal_ends (K : AEnd → Heap → Prop) {H : Heap} {x1 x2 : Option Addr} {l1 l2 c1 c2 : Nat} (h : l1 ≠ l2 ∨ (l1 = 0 ∧ l2 = 0)) (hk : K (.returned (.bool (decide (l1 = l2)))) H) :
    acall Tryz.prog 128 [.slice x1 l1 c1, .slice x2 l2 c2] H K := by
  refine acall_of_acode Tryz.func128 rfl (Nat.le_of_ble_eq_true rfl) ?_
  generalize he0 : envOf [.slice x1 l1 c1, .slice x2 l2 c2] Tryz.f128.ntmps = e0
  have n0 : e0.n = 26 := by subst he0; rfl
  have a0 : eget e0 0 = some (.slice x1 l1 c1) := by subst he0; rfl
  have a1 : eget e0 1 = some (.slice x2 l2 c2) := by subst he0; rfl
  clear he0
  refine acode_seq (acode_reg (m := 26) (by kernel_rfl) n0 ?_)
  show aops _ _ _ [0] _ _
  refine aops_yld (yld_assign rfl rfl rfl (show aeval e0 (.const (.bool false)) = _ from rfl)) ?_
  refine acode_seq (acode_seq (acode_reg (m := 26) (by kernel_rfl) n0 ?_))
  show aops _ _ _ [0, 1, 2, 3, 4] _ _
  refine aops_yld (yld_move rfl rfl rfl (show aeval (Env.put e0 _ _) (.tmp 0) = _ from a0)) ?_
  refine aops_yld (yld_len rfl rfl rfl rfl rfl rfl (show aeval (Env.put (Env.put e0 _ _) _ _) (.tmp 6) = _ from rfl) Tryz.underlying36) ?_
  refine aops_yld (yld_move rfl rfl rfl (show aeval (Env.put (Env.put (Env.put e0 _ _) _ _) _ _) (.tmp 1) = _ from a1)) ?_
  refine aops_yld (yld_len rfl rfl rfl rfl rfl rfl (show aeval (Env.put _ (some 8) _) (.tmp 8) = _ from rfl) Tryz.underlying36) ?_
  refine aops_yld (yld_bin (v := .bool ((l1 : Int) != (l2 : Int))) rfl rfl rfl (show aeval (Env.put _ (some 9) _) (.tmp 7) = some (.int .i64 l1) from rfl) (show aeval (Env.put _ (some 9) _) (.tmp 9) = some (.int .i64 l2) from rfl) (fun K hK => ⟨rfl, hK⟩)) ?_
  by_cases hl : l1 = l2
  · obtain ⟨rfl, rfl⟩ := h.resolve_left (fun q => q hl)
    refine acode_cond (t := false) (show aeval (Env.put _ (some 10) _) (.tmp 10) = _ from rfl) (acode_skip ?_)
    refine acode_seq (acode_seq (acode_reg (m := 26) (by kernel_rfl) n0 ?_))
    show aops _ _ _ [0, 1, 2] _ _
    refine aops_yld (yld_move rfl rfl rfl (show aeval (Env.put _ (some 10) _) (.tmp 0) = _ from a0)) ?_
    refine aops_yld (yld_len rfl rfl rfl rfl rfl rfl (show aeval (Env.put _ (some 11) _) (.tmp 11) = _ from rfl) Tryz.underlying36) ?_
    refine aops_yld (yld_move rfl rfl rfl (show aeval (Env.put _ (some 12) _) (.const (.int .i64 0)) = _ from rfl)) ?_
    show acode true Tryz.prog _ _ (Env.put _ (some 13) _) H
    refine acode_block (acode_loop (fun k e H' => H' = H ∧ e.n = 26 ∧ eget e 12 = some (.int .i64 ((0 : Nat) : Int)) ∧ eget e 13 = some (.int .i64 0)) (n := 0) ⟨rfl, n0, rfl, rfl⟩ ?_)
    rintro k e H' ⟨rfl, hn, e12, e13⟩
    refine acode_seq (acode_reg (m := 26) (by kernel_rfl) hn ?_)
    show aops _ _ _ [0] _ _
    refine aops_yld (yld_bin (v := .bool false) rfl rfl rfl (show aeval e (.tmp 13) = _ from e13) (show aeval e (.tmp 12) = _ from e12) (fun K hK => ⟨rfl, hK⟩)) ?_
    refine acode_seq (acode_cond (t := false) (show aeval (Env.put e (some 14) _) (.tmp 14) = _ from rfl) (acode_exit ?_))
    show acode true Tryz.prog _ _ _ H'
    refine acode_seq (acode_reg (m := 26) (by kernel_rfl) hn ?_)
    show aops _ _ _ [0] _ _
    refine aops_yld (yld_assign rfl rfl rfl (show aeval (Env.put e (some 14) _) (.const (.bool true)) = _ from rfl)) ?_
    exact acode_ret hk
  · rw [show ((l1 : Int) != (l2 : Int)) = true by simp only [bne_iff_ne, ne_eq]; omega]
    refine acode_cond (t := true) (show aeval (Env.put _ (some 10) _) (.tmp 10) = _ from rfl) ?_
    refine acode_seq (acode_reg (m := 26) (by kernel_rfl) n0 ?_)
    show aops _ _ _ [0] _ _
    refine aops_yld (yld_assign rfl rfl rfl (show aeval (Env.put _ (some 10) _) (.const (.bool false)) = _ from rfl)) ?_
    refine acode_ret ?_
    rw [decide_eq_false hl] at hk
    exact hk

def eqO (args : List Value) (T : VS) : Option (AEnd × VS) :=
  match args with
  | [.slice x1 l1 _, .slice x2 l2 _] => (match Nat.beq l1 l2 with
    | false => some (.returned (.bool false), T)
    | true => (match l1 with
      | 0 => some (.returned (.bool true), T)
      | n + 1 => (match x1, x2, Nat.ble n 1000000 with
        | some ⟨b1, o1, none⟩, some ⟨b2, o2, none⟩, true => (match T.get b1, T.get b2 with
          | some (.cells _ _ r1), some (.cells _ _ r2) => (match Nat.ble (o1 + (n + 1)) r1.length, Nat.ble (o2 + (n + 1)) r2.length, eqL ((r1.drop o1).take (n + 1)) ((r2.drop o2).take (n + 1)) with
            | true, true, some q => some (.returned (.bool q), T)
            | _, _, _ => none)
          | _, _ => none)
        | _, _, _ => none)))
  | _ => none

theorem eqO_s {args : List Value} {T : VS} {en : AEnd} {T' : VS} (h : eqO args T = some (en, T')) (K : AEnd → Heap → Prop) (hk : K en T'.den) : acall Tryz.prog 128 args T.den K := by
  unfold eqO at h
  split at h
  case h_2 => cases h
  rename_i x1 l1 c1 x2 l2 c2
  split at h
  · rename_i hb
    have hne : l1 ≠ l2 := fun e => by subst e; rw [Nat.beq_refl] at hb; cases hb
    simp only [Option.some.injEq, Prod.mk.injEq] at h
    obtain ⟨rfl, rfl⟩ := h
    exact equal_ends K (.inl hne) (by rw [decide_eq_false hne]; exact hk)
  · rename_i hb
    obtain rfl : l1 = l2 := Nat.eq_of_beq_eq_true hb
    split at h
    · simp only [Option.some.injEq, Prod.mk.injEq] at h
      obtain ⟨rfl, rfl⟩ := h
      exact equal_ends K (.inr ⟨rfl, rfl⟩) hk
    · rename_i n _
      split at h
      case h_2 => cases h
      rename_i b1 o1 b2 o2 hn
      split at h
      case h_2 => cases h
      rename_i g1 g2
      split at h
      case h_2 => cases h
      rename_i k1 k2 k3
      simp only [Option.some.injEq, Prod.mk.injEq] at h
      obtain ⟨rfl, rfl⟩ := h
      have := Nat.le_of_ble_eq_true hn
      exact equal_rows K (H := T.den) g1 g2 (by omega) (Nat.le_of_ble_eq_true k1) (Nat.le_of_ble_eq_true k2) k3 hk

end Go.Lift
