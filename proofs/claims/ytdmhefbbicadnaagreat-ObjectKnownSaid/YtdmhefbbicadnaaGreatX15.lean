import Derived.Test.YtdmhefbbicadnaaGreatX14
import Derived.Test.YtdmhefbbicadnaaGreatL19
/-! The evaluator, part 15: plans with allocations, found and run; maps that are copied. -/
namespace Go.Lift

noncomputable section

/-! ### Plans with allocations -/

def alcKind (ops : Array Oper) (i : Nat) : Bool :=
  match ops[i]? with
  | some o => (match o.guard with
    | none => (match o.op with
      | .makeMap _ none => true
      | .alloc _ => true
      | .makeSlice .. => true
      | _ => false)
    | some _ => false)
  | none => false

def mkPlanZ (P : Program) (ops : Array Oper) (AL : List Nat) : Nat → Array Bool → List Nat → List Nat → Option (List ItemZ)
  | 0, _, _, _ => some []
  | f + 1, listed, L, PV =>
    let rs := Region.ready .any ops listed
    match rs.find? fun i => !isEffO P ops i with
    | some i =>
      let isr := !isA P ops i
      (mkPlanZ P ops AL f (listed.setIfInBounds i true) (match isr with | true => i :: L | false => L) PV).map (.rd i isr :: ·)
    | none => match rs.find? fun z => AL.contains z && !PV.contains z with
      | some z => (mkPlanZ P ops AL f listed L (z :: PV)).map (.pen z :: ·)
      | none => match rs.find? fun j => !AL.contains j with
        | some j => (mkPlanZ P ops AL f (listed.setIfInBounds j true) L PV).map (.eff j (L.filter fun p => !excused P ops listed j p) :: ·)
        | none => match PV.find? fun i => (Region.ready .any ops (listN (PV.erase i) listed)).all fun k => k == i with
          | some i => (mkPlanZ P ops AL f (listed.setIfInBounds i true) L (PV.erase i)).map (.alc i :: ·)
          | none => some []

structure PZ where
  al : List Nat
  plan : List ItemZ

def planZFor (P : Program) (ops : Array Oper) : Option PZ :=
  let AL := (List.range ops.size).filter fun i => alcKind ops i
  match mkPlanZ P ops AL (3 * ops.size) (Array.replicate ops.size false) [] [] with
  | some plan => match planZ P ops (fun i => AL.contains i) plan (Array.replicate ops.size false) [] [] && Nat.ble (moves plan) ops.size && AL.all (fun i => isEffO P ops i) with
    | true => some ⟨AL, plan⟩
    | false => none
  | none => none

theorem planZFor_s {P : Program} {ops : Array Oper} {z : PZ} (h : planZFor P ops = some z) :
    planZ P ops (fun i => z.al.contains i) z.plan (Array.replicate ops.size false) [] [] = true ∧ moves z.plan ≤ ops.size ∧ ∀ i, z.al.contains i = true → isEffO P ops i = true := by
  unfold planZFor at h
  simp only at h
  split at h
  · split at h
    · rename_i hq
      simp only [Bool.and_eq_true] at hq
      obtain rfl := Option.some.inj h
      refine ⟨hq.1.1, Nat.le_of_ble_eq_true hq.1.2, fun i hi => ?_⟩
      exact List.all_eq_true.1 hq.2 i (by simpa using hi)
    · cases h
  · cases h

theorem sg_inj {AL : List Nat} {N i j : Nat} (hi : AL.contains i = true) (hj : AL.contains j = true) (h : sg AL N i = sg AL N j) : i = j := by
  unfold sg at h
  have h : AL.idxOf i = AL.idxOf j := by omega
  have hi : i ∈ AL := by simpa using hi
  have hj : j ∈ AL := by simpa using hj
  have h1 := List.getElem_idxOf (List.idxOf_lt_length_of_mem hi)
  have h2 := List.getElem_idxOf (List.idxOf_lt_length_of_mem hj)
  rw [← h1, ← h2]
  simp only [h]

/-- A drawn region. -/
def anyC (P : Program) (ops : Array Oper) : Bx Clo :=
  match planFor P ops with
  | some plan => ⟨fun call E T => bareP ((cschC P ops plan).f call [] E T)⟩
  | none => match planZFor P ops with
    | some z => ⟨fun call E T => bareP ((cschZ P ops z.al z.plan).f call T.next [] [] E ⟨T.next + z.al.length, T.tr⟩)⟩
    | none => ⟨fun _ _ _ => none⟩

theorem anyC_s {rf : Bool} {N id : Nat} {call : CallF} {P : Program} {ops : Array Oper} {K : AExit → Env → Heap → Prop} {E : Tr Value} {T : VS} {x : AExit} {E' : Tr Value} {T' : VS} (hm : P.follows .mixedOrders = true) (hc : CallOK P call) (hreg : dstsOK ops N = true)
    (h : (anyC P ops).f call E T = some (x, E', T')) (hk : K x (eden N E') T'.den) : acode rf P (.region id ops true) K (eden N E) T.den := by
  unfold anyC at h
  split at h
  · rename_i plan hp
    obtain ⟨p1, p2⟩ := planFor_s hp
    refine acode_region_anyL (E := isEffO P ops) hm hreg ?_
    have h : bareP ((cschC P ops plan).f call [] E T) = some (x, E', T') := h
    unfold bareP at h
    split at h
    · rename_i x1 E1 T1 h1
      simp only [Option.some.injEq, Prod.mk.injEq] at h
      obtain ⟨rfl, rfl, rfl⟩ := h
      have := cschC_s (N := N) (M := []) (O := []) hc p1 (fun p S hS => by cases hS) .none h1 hk
      rw [p2] at this
      exact this
    · cases h
  · split at h
    · rename_i z hz
      obtain ⟨p1, p2, p3⟩ := planZFor_s hz
      have h : bareP ((cschZ P ops z.al z.plan).f call T.next [] [] E ⟨T.next + z.al.length, T.tr⟩) = some (x, E', T') := h
      unfold bareP at h
      split at h
      · rename_i x1 E1 T1 h1
        simp only [Option.some.injEq, Prod.mk.injEq] at h
        obtain ⟨rfl, rfl, rfl⟩ := h
        refine acode_region_anyZ (A := fun i => z.al.contains i) (σ := sg z.al T.next) (E := isEffO P ops) (m := z.al.length) hm hreg (fun i j hi hj => sg_inj hi hj) (fun j hj => ?_) ?_
        · unfold sg
          have := List.idxOf_lt_length_of_mem (show j ∈ z.al by simpa using hj)
          exact ⟨Nat.le_add_right _ _, by show T.next + _ < T.next + _; omega⟩
        · have := cschZ_s (n := N) (m := fun _ => false) (M := []) (O := []) (W := []) (fuel := ops.size) (K := K) hc p3 (fun i j hi hj => sg_inj (N := T.next) hi hj) z.plan p1 (fun p S hS => by cases hS) .none
            { nd := .nil, a := fun q hq => by (cases hq), rdy := fun q hq => by (cases hq), al := fun q hq => by (cases hq), free := fun q hq => by (cases hq), ap := fun q hq => by (cases hq) } (by omega) h1 hk
          exact this
      · cases h
    · cases h

/-! ### Maps that are copied -/

def chainRO (P : Program) (ops : Array Oper) : List Nat → Bx (Tr Value → VS → Option (Tr Value))
  | [] => ⟨fun E _ => some E⟩
  | i :: l => match isEffO P ops i with
    | true => ⟨fun _ _ => none⟩
    | false => ⟨fun E T => match (frd P ops i).f E T with
      | some v => frc v fun v => (chainRO P ops l).f ((fput (dstOf ops i)).f E v) T
      | none => none⟩

theorem chainRO_s {P : Program} {ops : Array Oper} {N : Nat} {T : VS} : ∀ {l : List Nat} {E E' : Tr Value}, (chainRO P ops l).f E T = some E' → ro P ops T.den l (eden N E) (eden N E')
  | [], E, E', h => by
    simp only [chainRO, Option.some.injEq] at h
    subst h
    rfl
  | i :: l, E, E', h => by
    unfold chainRO at h
    cases he : isEffO P ops i with
    | true => rw [he] at h; cases h
    | false =>
      rw [he] at h
      simp only at h
      split at h
      · rename_i v hv
        rw [frc_eq, fput_eq] at h
        refine ⟨v, cls_of_eff he, frd_s he hv, ?_⟩
        rw [eden_put]
        exact chainRO_s h
      · cases h

structure CopyDat where
  D : MapLoop
  id2 : Nat
  ops2 : Array Oper
  n : Nat
  orr : Oper
  t : TypeId
  x : Operand
  id5 : Nat
  ops5 : Array Oper
  k5 : Nat
  ou : Oper
  tU : TypeId
  xm : Operand
  xk : Operand
  xv : Operand
  kd : TypeDesc
  W : List Nat

def isMapT (P : Program) (t : TypeId) : Bool := match P.underlying t with | some (.map _ _) => true | _ => false
def mapKd (P : Program) (t : TypeId) : Option TypeDesc := match P.underlying t with
  | some (.map k _) => P.underlying k
  | _ => none

/-- The pieces. -/
def copyRead (c : Code) : Option CopyDat :=
  match c with
  | .seq (.region id2 ops2 false) (.block bid (.loop (.seq (.region id3 ops3 false) (.seq (.cond (.tmp tok) .skip (.exit bid')) (.block b1 (.seq (.region id4 ops4 false) (.region id5 ops5 false))))))) =>
    (match ops3.toList, ops2[ops2.size - 1]?, ops4[0]?, ops5[ops5.size - 1]? with
    | [o0, o1], some orr, some oe, some ou => (match o0.op, o0.dst, o1.op, o1.dst with
      | .next (.tmp ti) false, some tn, .extract (.tmp tn') 0, some tok' => (match orr.op, orr.dst, oe.op, oe.dst, ou.op with
        | .range t x, some ti', .entry (.tmp ti''), some te, .mapUpdate tU xm xk xv =>
          (match tok == tok' && bid == bid' && tn == tn' && ti == ti' && ti == ti'' with
          | true => some { D := { id3, ops3, o0, o1, bid, b1, id4, ops4, oe, rest := .region id5 ops5 false, ti, tn, tok, te }, id2, ops2, n := ops2.size - 1, orr, t, x, id5, ops5, k5 := ops5.size - 1, ou, tU, xm, xk, xv, kd := .bool,
                           W := tn :: tok :: te :: (ops4.toList.filterMap (·.dst) ++ ops5.toList.filterMap (·.dst)) }
          | false => none)
        | _, _, _, _, _ => none)
      | _, _, _, _ => none)
    | _, _, _, _ => none)
  | _ => none

structure CopyOK (P : Program) (N : Nat) (c : Code) (C : CopyDat) : Prop where
  hc : c = .seq (.region C.id2 C.ops2 false) (.block C.D.bid (.loop C.D.body))
  hD : C.D.OK N
  h2 : C.ops2.size = C.n + 1
  hor : C.ops2[C.n]? = some C.orr
  opr : C.orr.op = .range C.t C.x
  gr : C.orr.guard = none
  dr : C.orr.dst = some C.D.ti
  hti : C.D.ti < N
  ok2 : dstsOK C.ops2 N = true
  hC : CopyAt P C.D N C.id5 C.k5 C.ops5 C.ou C.tU C.xm C.xk C.xv
  hkd : ∃ kt et, P.underlying C.tU = some (.map kt et) ∧ P.underlying kt = some C.kd
  hpl : plainKey C.kd = true
  hmt : isMapT P C.t = true
  hW : C.D.tn ∈ C.W ∧ C.D.tok ∈ C.W ∧ C.D.te ∈ C.W ∧ (∀ i t, dstOf C.D.ops4 i = some t → t ∈ C.W) ∧ (∀ i t, dstOf C.ops5 i = some t → t ∈ C.W)
  hTW : C.D.ti ∉ C.W

def copyChk (N : Nat) (C : CopyDat) (P : Program) : Bool :=
  C.D.o0.guard.isNone && C.D.o1.guard.isNone && C.D.oe.guard.isNone && C.orr.guard.isNone && C.ou.guard.isNone && dstsOK C.D.ops4 N && dstsOK C.ops5 N && dstsOK C.ops2 N && Nat.blt C.D.tn N && Nat.blt C.D.tok N && Nat.blt C.D.te N && Nat.blt C.D.ti N &&
  isMapT P C.t && !C.W.contains C.D.ti && Nat.blt 0 C.ops2.size && Nat.blt 0 C.ops5.size

def copyFor (P : Program) (N : Nat) (c : Code) : Option CopyDat :=
  match copyRead c with
  | some C => (match mapKd P C.tU with
    | some kd => (match plainKey kd && copyChk N C P with
      | true => some { C with kd }
      | false => none)
    | none => none)
  | none => none

theorem dst_mem {ops : Array Oper} {i t : Nat} (h : dstOf ops i = some t) : t ∈ ops.toList.filterMap (·.dst) := by
  unfold dstOf at h
  cases ho : ops[i]? with
  | none => rw [ho] at h; cases h
  | some o =>
    rw [ho] at h
    exact List.mem_filterMap.2 ⟨o, by simpa using Array.mem_of_getElem? ho, h⟩

theorem copyFor_s {P : Program} {N : Nat} {c : Code} {C : CopyDat} (h : copyFor P N c = some C) : CopyOK P N c C := by
  unfold copyFor at h
  split at h
  case h_2 => cases h
  rename_i C0 hr
  split at h
  case h_2 => cases h
  rename_i kd hkd
  split at h
  case h_2 => cases h
  rename_i hck
  obtain rfl := Option.some.inj h
  unfold copyRead at hr
  split at hr
  case h_2 => cases hr
  rename_i id2 ops2 bid id3 ops3 tok bid' b1 id4 ops4 id5 ops5
  split at hr
  case h_2 => cases hr
  rename_i o0 o1 orr oe ou ho3 ho2 ho4 ho5
  split at hr
  case h_2 => cases hr
  rename_i ti tn tn' tok' p1 p2 p3 p4
  split at hr
  case h_2 => cases hr
  rename_i t x ti' ti'' te tU xm xk xv r1 r2 r3 r4 r5
  split at hr
  case h_2 => cases hr
  rename_i heq
  simp only [Bool.and_eq_true, beq_iff_eq] at heq
  obtain ⟨⟨⟨⟨rfl, rfl⟩, rfl⟩, rfl⟩, rfl⟩ := heq
  obtain rfl := Option.some.inj hr
  simp only [copyChk, Bool.and_eq_true, Option.isNone_iff_eq_none, Bool.not_eq_true'] at hck
  obtain ⟨hpl, ⟨⟨⟨⟨⟨⟨⟨⟨⟨⟨⟨⟨⟨⟨⟨g0, g1⟩, ge⟩, gr⟩, gu⟩, k4⟩, k5⟩, k2⟩, n1⟩, n2⟩, n3⟩, n4⟩, mt⟩, hTW⟩, z2⟩, z5⟩⟩ := hck
  have hTW' : ti ∉ tn :: tok :: te :: (ops4.toList.filterMap (·.dst) ++ ops5.toList.filterMap (·.dst)) := by simpa using hTW
  have z2 := blt_s z2
  have z5 := blt_s z5
  have h3 : ops3 = #[o0, o1] := by rw [← Array.toList_inj]; exact ho3
  simp only at hkd hpl g0 g1 ge gr gu k4 k5 k2 n1 n2 n3 n4 mt
  refine { hc := rfl, hD := ?_, h2 := by simp only; omega, hor := ho2, opr := r1, gr := gr, dr := r2, hti := blt_s n4, ok2 := k2, hC := ?_, hkd := ?_, hpl := hpl, hmt := mt, hW := ?_, hTW := hTW' }
  · exact { h3 := h3, op0 := p1, g0 := g0, d0 := p2, op1 := p3, g1 := g1, d1 := p4, he := ho4, ope := r3, ge := ge, de := r4, ok4 := k4, nn := blt_s n1, nok := blt_s n2, ne := blt_s n3,
            i1 := fun (e : ti = tn) => hTW' (by rw [e]; simp), i2 := fun (e : ti = tok) => hTW' (by rw [e]; simp) }
  · exact { hrest := rfl, h5 := by simp only; omega, hu := ho5, opu := r5, gu := gu, ok5 := k5 }
  · unfold mapKd at hkd
    split at hkd
    · rename_i kt et hu
      exact ⟨kt, et, hu, hkd⟩
    · cases hkd
  · refine ⟨by simp, by simp, by simp, fun i t h => ?_, fun i t h => ?_⟩
    · have := dst_mem h
      simp only [List.mem_cons, List.mem_append]
      exact .inr (.inr (.inr (.inl this)))
    · have := dst_mem h
      simp only [List.mem_cons, List.mem_append]
      exact .inr (.inr (.inr (.inr this)))

def eraseL : List Nat → Tr Value → Tr Value
  | [], E => E
  | t :: l, E => eraseL l (tset none t E)

theorem eraseL_get : ∀ (l : List Nat) (E : Tr Value) (t : Nat), (t ∈ l → (eraseL l E).get t = none) ∧ (t ∉ l → (eraseL l E).get t = E.get t)
  | [], E, t => ⟨fun h => (by cases h), fun _ => rfl⟩
  | s :: l, E, t => by
    have hrec := eraseL_get l (tset none s E) t
    have hs : (tset none s E).get t = if t = s then none else E.get t := by rw [tset_eq, Tr.get_set]
    refine ⟨fun h => ?_, fun h => ?_⟩
    · by_cases hl : t ∈ l
      · exact hrec.1 hl
      · have : t = s := by exact (List.mem_cons.1 h).resolve_right hl
        show (eraseL l (tset none s E)).get t = none
        rw [hrec.2 hl, hs, if_pos this]
    · show (eraseL l (tset none s E)).get t = _
      rw [hrec.2 fun hl => h (by simp [hl]), hs, if_neg fun e => h (by simp [e])]

/-- One entry: what map it goes to, and what is stored. -/
def copyEnt (P : Program) (C : CopyDat) : Bx (Tr Value → VS → Value × Value → Option (Nat × Value)) :=
  ⟨fun Eb T y => match (chainRO P C.D.ops4 (List.range C.D.ops4.size).tail).f (tset (some (.tuple #[y.1, y.2])) C.D.te Eb) T with
    | some E4 => (match (chainRO P C.ops5 (List.range C.k5)).f E4 T with
      | some E5 => (match xeval E5 C.xm, xeval E5 C.xk, xeval E5 C.xv with
        | some (.map (some B)), some k, some v => (match veq 30 k y.1, Instr.sameNow C.kd y.1 y.1 with
          | true, some true => some (B, v)
          | _, _ => none)
        | _, _, _ => none)
      | none => none)
    | none => none⟩

def copyAll (P : Program) (C : CopyDat) (Eb : Tr Value) (T : VS) (B : Nat) : List (Value × Value) → Option (List (Value × Value))
  | [] => some []
  | y :: l => match (copyEnt P C).f Eb T y with
    | some (B', v) => (match B' == B with
      | true => (match copyAll P C Eb T B l with
        | some r => some ((y.1, v) :: r)
        | none => none)
      | false => none)
    | none => none

def VS.drops (T : VS) : List Nat → VS
  | [] => T
  | b :: l => (T.drop b).drops l

def copyGo (P : Program) (C : CopyDat) (b : Nat) (m : List (Value × Value)) (E1 : Tr Value) (T1 : VS) : Option Res :=
  let Eb := eraseL C.W (tset (some (.pointer (some ⟨T1.next, 0, none⟩))) C.D.ti E1)
  match m with
  | [] => some (.normal, Eb, (T1.alloc .iter).drop T1.next)
  | y :: _ => match (copyEnt P C).f Eb (T1.drops [b, T1.next]) y with
    | some (B, _) => (match T1.get B, B == b, B == T1.next, b == T1.next, copyAll P C Eb (T1.drops [b, T1.next, B]) B m with
      | some (.map []), false, false, false, some m' => some (.normal, Eb, ((T1.alloc .iter).set B (.map m')).drop T1.next)
      | _, _, _, _, _ => none)
    | none => none

def copyC (P : Program) (C : CopyDat) : Bx Clo :=
  ⟨fun call E T => match (cregC P C.ops2 (List.range C.n)).f call E T with
    | some (.normal, E1, T1) => (match xeval E1 C.x with
      | some (.map (some b)) => (match T1.get b with
        | some (.map m) => copyGo P C b m E1 T1
        | _ => none)
      | _ => none)
    | q => q⟩

theorem VS.drops_get : ∀ (l : List Nat) (T : VS) (y : Nat) (k : Blk), (T.drops l).get y = some k → T.get y = some k ∧ y ∉ l
  | [], _, _, _, h => ⟨h, by simp⟩
  | b :: l, T, y, k, h => by
    obtain ⟨h1, h2⟩ := VS.drops_get l (T.drop b) y k h
    have h1 : (T.drop b).den.get y = some k := h1
    rw [← VS.den_drop, drop_get] at h1
    split at h1
    · cases h1
    · rename_i hy
      exact ⟨h1, by simp [hy, h2]⟩

def copyG (P : Program) (C : CopyDat) (Eb : Tr Value) (T : VS) (y : Value × Value) : Value := match (copyEnt P C).f Eb T y with
  | some (_, v) => v
  | none => undef

theorem copyAll_s {P : Program} {C : CopyDat} {Eb : Tr Value} {T : VS} {B : Nat} : ∀ {l m' : List (Value × Value)}, copyAll P C Eb T B l = some m' →
    m' = l.map (fun y => (y.1, copyG P C Eb T y)) ∧ ∀ y ∈ l, (copyEnt P C).f Eb T y = some (B, copyG P C Eb T y)
  | [], m', h => by
    simp only [copyAll, Option.some.injEq] at h
    subst h
    exact ⟨rfl, fun y h => by cases h⟩
  | y :: l, m', h => by
    unfold copyAll at h
    split at h
    · rename_i B' v hv
      split at h
      · rename_i hB
        have hB : B' = B := by simpa using hB
        subst hB
        split at h
        · rename_i r hr
          obtain rfl := Option.some.inj h
          obtain ⟨h1, h2⟩ := copyAll_s hr
          have hg : copyG P C Eb T y = v := by unfold copyG; rw [hv]
          refine ⟨by simp [h1, hg], fun z hz => ?_⟩
          rcases List.mem_cons.1 hz with rfl | hz
          · rw [hg]; exact hv
          · exact h2 z hz
        · cases h
      · cases h
    · cases h

theorem copyC_s {rf : Bool} {N : Nat} {call : CallF} {P : Program} {c : Code} {C : CopyDat} {K : AExit → Env → Heap → Prop} {E : Tr Value} {T : VS} {x : AExit} {E' : Tr Value} {T' : VS} (hc : CallOK P call) (hC : CopyOK P N c C)
    (h : (copyC P C).f call E T = some (x, E', T')) (hk : K x (eden N E') T'.den) : acode rf P c K (eden N E) T.den := by
  have h : (match (cregC P C.ops2 (List.range C.n)).f call E T with
    | some (.normal, E1, T1) => (match xeval E1 C.x with
      | some (.map (some b)) => (match T1.get b with
        | some (.map m) => copyGo P C b m E1 T1
        | _ => none)
      | _ => none)
    | q => q) = some (x, E', T') := h
  rw [hC.hc]
  refine acode_post (acode_mapRange (n0 := N) hC.hD rfl hC.h2 hC.hor hC.opr hC.gr hC.dr hC.hti hC.ok2 (t := C.t) (x := C.x) ?_)
  have other : ∀ {x : AExit} {E' : Tr Value} {T' : VS}, x ≠ .normal → K x (eden N E') T'.den →
      rangeK2 rf P C.D N C.t C.x (fun ex e H => ∃ e' H', e'.n = e.n ∧ (∀ t v, eget e' t = some v → eget e t = some v) ∧ Weak H H' ∧ K ex e' H') x (eden N E') T'.den := by
    intro x E' T' hx hk
    cases x with
    | normal => exact absurd rfl hx
    | exit j => exact ⟨_, _, rfl, fun _ _ h => h, Weak.refl _, hk⟩
    | ret => exact ⟨_, _, rfl, fun _ _ h => h, Weak.refl _, hk⟩
    | panic ch => exact ⟨_, _, rfl, fun _ _ h => h, Weak.refl _, hk⟩
  split at h
  case h_2 hq =>
    refine cregC_s hc h (other (fun e => ?_) hk)
    subst e
    exact hq _ _ h
  rename_i E1 T1 h1
  refine cregC_s hc h1 ?_
  show RangeAt rf P C.D N C.t C.x _ (eden N E1) T1.den
  split at h
  case h_2 => cases h
  rename_i b hb
  split at h
  case h_2 => cases h
  rename_i m hm
  have hbe : aeval (eden N E1) C.x = some (.map (some b)) := by rw [xeval_eq]; exact hb
  obtain ⟨kt, et, hU, hkd⟩ := hC.hkd
  obtain ⟨ktx, etx, hut⟩ : ∃ kt et, P.underlying C.t = some (.map kt et) := by
    have := hC.hmt
    unfold isMapT at this
    split at this
    · rename_i h; exact ⟨_, _, h⟩
    · cases this
  have hgm : T1.den.get b = some (.map m) := hm
  unfold copyGo at h
  simp only at h
  -- the base
  have hebg : ∀ t, (t ∈ C.W → (eraseL C.W (tset (some (.pointer (some ⟨T1.next, 0, none⟩))) C.D.ti E1)).get t = none) ∧ (t ∉ C.W → (eraseL C.W (tset (some (.pointer (some ⟨T1.next, 0, none⟩))) C.D.ti E1)).get t = if t = C.D.ti then some (.pointer (some ⟨T1.next, 0, none⟩)) else E1.get t) := by
    intro t
    obtain ⟨g1, g2⟩ := eraseL_get C.W (tset (some (Value.pointer (some ⟨T1.next, 0, none⟩))) C.D.ti E1) t
    refine ⟨g1, fun ht => ?_⟩
    rw [g2 ht, tset_eq, Tr.get_set]
  generalize eraseL C.W (tset (some (.pointer (some ⟨T1.next, 0, none⟩))) C.D.ti E1) = Eb at h hebg
  have hle : (eden N Eb).le ((eden N E1).put (some C.D.ti) (.pointer (some ⟨T1.den.next, 0, none⟩))) := by
    intro t v hv
    have hv : Eb.get t = some v := hv
    by_cases ht : t ∈ C.W
    · rw [(hebg t).1 ht] at hv; cases hv
    · rw [(hebg t).2 ht] at hv
      exact hv
  have hti : eget (eden N Eb) C.D.ti = some (.pointer (some ⟨T1.den.next, 0, none⟩)) := by
    show Eb.get C.D.ti = _
    rw [(hebg _).2 hC.hTW, if_pos rfl]
    rfl
  have hno : ∀ t, t ∈ C.W → eget (eden N Eb) t = none := fun t ht => (hebg t).1 ht
  obtain ⟨w1, w2, w3, w4, w5⟩ := hC.hW
  split at h
  · -- the map is empty
    simp only [Option.some.injEq, Prod.mk.injEq] at h
    obtain ⟨rfl, rfl, rfl⟩ := h
    refine ⟨ktx, etx, b, [], hut, hbe, hgm, rfl, fun _ => ⟨fun rem e H => rem = [] ∧ (eden N Eb).le e ∧ H = T1.den.alloc .iter, ⟨rfl, hle, rfl⟩, ?_, ?_⟩⟩
    · rintro rem1 y rem2 e1 H1 ⟨hr, _⟩
      simp at hr
    · rintro e1 H1 ⟨_, hle1, rfl⟩ _ _ hn1
      refine ⟨eden N Eb, _, by rw [Env.put_n, Env.put_n, hn1]; rfl, Env.le_put (Env.le_put hle1 fun s hs => by obtain rfl := Option.some.inj hs; exact hno _ w1) fun s hs => by obtain rfl := Option.some.inj hs; exact hno _ w2, ?_, hk⟩
      rw [← VS.den_drop, ← VS.den_alloc]
      exact Weak.drop (k := .iter) (by rw [alloc_get]; exact if_pos rfl) rfl
  · rename_i y l
    split at h
    case h_2 => cases h
    rename_i B v0 hent0
    split at h
    case h_2 => cases h
    rename_i m' q1 q2 q3 q4 q5
    simp only [Option.some.injEq, Prod.mk.injEq] at h
    obtain ⟨rfl, rfl, rfl⟩ := h
    obtain ⟨hm', hall⟩ := copyAll_s q5
    have hBb : B ≠ b := by simpa using q2
    have hBn : B ≠ T1.next := by simpa using q3
    have hbn : b ≠ T1.next := by simpa using q4
    refine acode_mapCopy (g := copyG P C Eb (T1.drops [b, T1.next, B])) (eb := eden N Eb) (Hd := (T1.drops [b, T1.next, B]).den) (B := B) hC.hC hU hkd hC.hpl hut hbe hgm q1 hBb hbn hBn rfl rfl hle hti
      ⟨hno _ w1, hno _ w2, hno _ w3, fun i t ht => hno _ (w4 i t ht), fun i t ht => hno _ (w5 i t ht)⟩ (fun z k hz => ?_) (fun z hz => ?_) fun e hn hle1 X hX => ?_
    · obtain ⟨g1, g2⟩ := VS.drops_get _ _ _ _ hz
      simp only [List.mem_cons, List.not_mem_nil, or_false, not_or] at g2
      exact ⟨g1, g2.1, g2.2.2, g2.2.1⟩
    · have := hall z hz
      generalize copyG P C Eb (T1.drops [b, T1.next, B]) z = gz at this
      unfold copyEnt at this
      simp only at this
      split at this
      case h_2 => cases this
      rename_i E4 h4
      split at this
      case h_2 => cases this
      rename_i E5 h5
      split at this
      case h_2 => cases this
      rename_i B2 k v e1 e2 e3
      split at this
      case h_2 => cases this
      rename_i e4 e5
      simp only [Option.some.injEq, Prod.mk.injEq] at this
      obtain ⟨rfl, rfl⟩ := this
      have hv := veq_s e4
      subst hv
      refine ⟨eden N E4, eden N E5, ?_, chainRO_s h5, by rw [xeval_eq]; exact e1, by rw [xeval_eq]; exact e2, by rw [xeval_eq]; exact e3, e5⟩
      have := chainRO_s (N := N) h4
      rw [tset_eq] at this
      rw [eden_put]
      exact this
    · refine ⟨eden N Eb, _, hn.symm, hle1, ?_, hk⟩
      rw [← VS.den_drop, ← VS.den_set, ← VS.den_alloc]
      have hg1 : ((T1.den.alloc .iter).set B (.map X)).get B = some (.map X) := by rw [set_get, if_pos rfl]
      have hp := Weak.perm hg1 hX
      have hss : ((T1.den.alloc .iter).set B (.map X)).set B (.map ((y :: l).map fun y => (y.1, copyG P C Eb (T1.drops [b, T1.next, B]) y))) = (T1.den.alloc .iter).set B (.map m') := by
        rw [hm']
        simp only [Heap.set, Heap.mk.injEq, true_and]
        funext z
        by_cases hz : z = B <;> simp [hz]
      rw [hss] at hp
      refine hp.trans (Weak.drop (k := .iter) ?_ rfl)
      rw [set_get, if_neg (fun q => hBn q.symm), alloc_get]
      exact if_pos rfl

end

end Go.Lift
