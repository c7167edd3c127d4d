import Derived.Test.YtdmhefbbicadnaaGreatX15
/-! The evaluator, part 16: code and calls as closures. -/
namespace Go.Lift

noncomputable section

def loopF (body : Tr Value → VS → Option Res) (n : Nat) : Tr Value → VS → Option Res :=
  Nat.rec (motive := fun _ => Tr Value → VS → Option Res) (fun _ _ => none) (fun _ ih E T => match body E T with
    | some (.normal, E1, T1) => ih E1 T1
    | q => q) n

def jumpRes (j : Option Code) (E : Tr Value) (T : VS) : Option Res :=
  match j with
  | none => some (.normal, E, T)
  | some .ret => some (.ret, E, T)
  | some (.exit id) => some (.exit id, E, T)
  | _ => none

def rfGo (P : Program) (N : Nat) (ps : Array Tmp) (asg body : Code) (call : CallF) (E : Tr Value) (T : VS) (fv : Value) : Option Res :=
  match fv with
  | .func (.func f) x y => (match callOK P f with
    | true => (match call (.fn f) (x.toList ++ [.func (.yield T.next) #[] #[]] ++ y.toList) (T.alloc (.loop N E ps asg body none)) with
      | some (.returned _, T') => (match T'.get T.next with
        | some (.loop _ _ _ _ _ j) => jumpRes j E (T'.drop T.next)
        | _ => none)
      | some (.panicked ch, T') => some (.panic ch, E, T')
      | none => none)
    | false => none)
  | _ => none

def ccStep (fu : Nat) (P : Program) (N : Nat) (ih : Code → Bx Clo) (c : Code) : Bx Clo :=
  match copyFor P N c with
  | some C => copyC P C
  | none => match c with
    | .skip => ⟨fun _ E T => some (.normal, E, T)⟩
    | .region _ ops false => cregC P ops (List.range ops.size)
    | .region _ ops true => anyC P ops
    | .seq a b => ⟨fun call E T => match (ih a).f call E T with
      | some (.normal, E1, T1) => (ih b).f call E1 T1
      | q => q⟩
    | .cond c a b => ⟨fun call E T => (fev c).f E fun v => match v with
      | .bool true => (ih a).f call E T
      | .bool false => (ih b).f call E T
      | _ => none⟩
    | .block id a => ⟨fun call E T => match (ih a).f call E T with
      | some (.exit j, E1, T1) => (match j == id with
        | true => some (.normal, E1, T1)
        | false => some (.exit j, E1, T1))
      | q => q⟩
    | .loop a => ⟨fun call E T => loopF ((ih a).f call) fu E T⟩
    | .rangeFunc g ps asg body => ⟨fun call E T => (fev g).f E fun fv => rfGo P N ps asg body call E T fv⟩
    | .exit id => ⟨fun _ E T => some (.exit id, E, T)⟩
    | .ret => ⟨fun _ E T => some (.ret, E, T)⟩
    | _ => ⟨fun _ _ _ => none⟩

def cc (fu : Nat) (P : Program) (N : Nat) (d : Nat) : Code → Bx Clo :=
  Nat.rec (motive := fun _ => Code → Bx Clo) (fun _ => ⟨fun _ _ _ => none⟩) (fun _ ih c => ccStep fu P N ih c) d

/-- What such a closure says of code is so. -/
def CloOK (rf : Bool) (P : Program) (N : Nat) (call : CallF) (b : Bx Clo) (c : Code) : Prop := ∀ E T x E' T', b.f call E T = some (x, E', T') → regionsOK N c = true → (rf = true ∨ noRF c = true) → ∀ K : AExit → Env → Heap → Prop, K x (eden N E') T'.den → acode rf P c K (eden N E) T.den

section
variable {rf : Bool} {fu : Nat} {P : Program} {N : Nat} {call : CallF}

theorem loopF_s {c : Code} {b : Bx Clo} (hi : CloOK rf P N call b c) (hreg : regionsOK N c = true) (hn : rf = true ∨ noRF c = true) {x : AExit} {E' : Tr Value} {T' : VS} {K : AExit → Env → Heap → Prop} (hk : K x (eden N E') T'.den) :
    ∀ (n : Nat) (E : Tr Value) (T : VS), loopF (b.f call) n E T = some (x, E', T') → LoopA rf P c K (eden N E) T.den
  | 0, _, _, h => by cases h
  | n + 1, E, T, h => by
    have h : (match b.f call E T with
      | some (.normal, E1, T1) => loopF (b.f call) n E1 T1
      | q => q) = some (x, E', T') := h
    split at h
    · rename_i E1 T1 h1
      refine LoopA_of (hi _ _ _ _ _ h1 hreg hn _ ?_)
      exact loopF_s hi hreg hn hk n E1 T1 h
    · rename_i hq
      refine LoopA_of (hi _ _ _ _ _ h hreg hn _ ?_)
      cases x with
      | normal => exact absurd h (hq _ _)
      | exit id => exact hk
      | ret => exact hk
      | panic ch => exact hk

theorem ccStep_s (hm : P.follows .mixedOrders = true) (hc : CallOK P call) {ih : Code → Bx Clo} (hi : ∀ c, CloOK rf P N call (ih c) c) (c : Code) : CloOK rf P N call (ccStep fu P N ih c) c := by
  intro E T x E' T' h hreg hn K hk
  unfold ccStep at h
  split at h
  · rename_i C hC
    exact copyC_s hc (copyFor_s hC) h hk
  · split at h
    · have h : some (AExit.normal, E, T) = some (x, E', T') := h
      simp only [Option.some.injEq, Prod.mk.injEq] at h
      obtain ⟨rfl, rfl, rfl⟩ := h
      exact acode_skip hk
    · exact acode_region (e := eden N E) hreg (cregC_s hc h hk)
    · exact anyC_s hm hc hreg h hk
    · rename_i a b _
      simp only [regionsOK, Bool.and_eq_true] at hreg
      have hna : rf = true ∨ noRF a = true := hn.imp id fun h => by simp only [noRF, Bool.and_eq_true] at h; exact h.1
      have hnb : rf = true ∨ noRF b = true := hn.imp id fun h => by simp only [noRF, Bool.and_eq_true] at h; exact h.2
      have h : (match (ih a).f call E T with
        | some (.normal, E1, T1) => (ih b).f call E1 T1
        | q => q) = some (x, E', T') := h
      split at h
      · rename_i E1 T1 h1
        refine acode_seq (hi a _ _ _ _ _ h1 hreg.1 hna _ ?_)
        exact hi b _ _ _ _ _ h hreg.2 hnb K hk
      · rename_i hq
        refine acode_seq (hi a _ _ _ _ _ h hreg.1 hna _ ?_)
        cases x with
        | normal => exact absurd h (hq _ _)
        | exit id => exact hk
        | ret => exact hk
        | panic ch => exact hk
    · rename_i c a b _
      simp only [regionsOK, Bool.and_eq_true] at hreg
      have hna : rf = true ∨ noRF a = true := hn.imp id fun h => by simp only [noRF, Bool.and_eq_true] at h; exact h.1
      have hnb : rf = true ∨ noRF b = true := hn.imp id fun h => by simp only [noRF, Bool.and_eq_true] at h; exact h.2
      have h : ((fev c).f E fun v => match v with
        | .bool true => (ih a).f call E T
        | .bool false => (ih b).f call E T
        | _ => none) = some (x, E', T') := h
      rw [fev_eq] at h
      unfold xev1 at h
      split at h
      · rename_i v hv
        dsimp only at h
        split at h
        · exact acode_cond (t := true) (by rw [xeval_eq]; exact hv) (hi a _ _ _ _ _ h hreg.1 hna K hk)
        · exact acode_cond (t := false) (by rw [xeval_eq]; exact hv) (hi b _ _ _ _ _ h hreg.2 hnb K hk)
        · cases h
      · cases h
    · rename_i id a _
      simp only [regionsOK] at hreg
      have hna : rf = true ∨ noRF a = true := hn.imp (fun h => h) fun h => by simp only [noRF] at h; exact h
      have h : (match (ih a).f call E T with
        | some (.exit j, E1, T1) => (match j == id with
          | true => some (.normal, E1, T1)
          | false => some (.exit j, E1, T1))
        | q => q) = some (x, E', T') := h
      split at h
      · rename_i j E1 T1 h1
        refine acode_block (hi a _ _ _ _ _ h1 hreg hna _ ?_)
        show if j = id then K .normal (eden N E1) T1.den else K (.exit j) (eden N E1) T1.den
        split at h
        · rename_i hj
          rw [if_pos (by simpa using hj)]
          simp only [Option.some.injEq, Prod.mk.injEq] at h
          obtain ⟨rfl, rfl, rfl⟩ := h
          exact hk
        · rename_i hj
          rw [if_neg (by simpa using hj)]
          simp only [Option.some.injEq, Prod.mk.injEq] at h
          obtain ⟨rfl, rfl, rfl⟩ := h
          exact hk
      · rename_i hq
        refine acode_block (hi a _ _ _ _ _ h hreg hna _ ?_)
        cases x with
        | normal => exact hk
        | exit id => exact absurd h (hq _ _ _)
        | ret => exact hk
        | panic ch => exact hk
    · rename_i a _
      have hna : rf = true ∨ noRF a = true := hn.imp id fun h => by simp only [noRF] at h; exact h
      have h : loopF ((ih a).f call) fu E T = some (x, E', T') := h
      exact acode_of_LoopA (loopF_s (hi a) hreg hna hk fu E T h)
    · rename_i g ps asg body _
      have hrf : rf = true := hn.resolve_right (by simp [noRF])
      subst hrf
      have h : ((fev g).f E fun fv => rfGo P N ps asg body call E T fv) = some (x, E', T') := h
      rw [fev_eq] at h
      unfold xev1 at h
      split at h
      · rename_i fv hv
        unfold rfGo at h
        dsimp only at h
        split at h
        · rename_i f x0 y0
          split at h
          · rename_i hok
            refine acode_rangeFunc (f := f) (E := E) (by rw [xeval_eq]; exact hv) hok (fun t v h => h) ?_
            have key : ∀ en T1, call (.fn f) (x0.toList ++ [.func (.yield T.next) #[] #[]] ++ y0.toList) (T.alloc (.loop N E ps asg body none)) = some (en, T1) → rangeK T.den.next (eden N E) K en T1.den →
                acall P f (x0.toList ++ [.func (.yield T.den.next) #[] #[]] ++ y0.toList) (T.den.alloc (.loop (eden N E).n E ps asg body none)) (rangeK T.den.next (eden N E) K) := by
              intro en T1 hcall hk1
              have := hc _ _ _ _ _ hcall _ hk1
              rw [← VS.den_alloc] at this
              exact this
            split at h
            · rename_i v T1 hcall
              refine key _ _ hcall ?_
              split at h
              · rename_i j hg
                have hg : T1.den.get T.den.next = _ := hg
                unfold jumpRes at h
                unfold rangeK
                simp only [hg]
                split at h
                · simp only [Option.some.injEq, Prod.mk.injEq] at h
                  obtain ⟨rfl, rfl, rfl⟩ := h
                  simp only
                  rw [VS.den_drop]
                  exact hk
                · simp only [Option.some.injEq, Prod.mk.injEq] at h
                  obtain ⟨rfl, rfl, rfl⟩ := h
                  simp only
                  rw [VS.den_drop]
                  exact hk
                · simp only [Option.some.injEq, Prod.mk.injEq] at h
                  obtain ⟨rfl, rfl, rfl⟩ := h
                  simp only
                  rw [VS.den_drop]
                  exact hk
                · cases h
              · cases h
            · rename_i ch T1 hcall
              refine key _ _ hcall ?_
              simp only [Option.some.injEq, Prod.mk.injEq] at h
              obtain ⟨rfl, rfl, rfl⟩ := h
              exact hk
            · cases h
          · cases h
        · cases h
      · cases h
    · have h : some (AExit.exit _, E, T) = some (x, E', T') := h
      simp only [Option.some.injEq, Prod.mk.injEq] at h
      obtain ⟨rfl, rfl, rfl⟩ := h
      exact acode_exit hk
    · have h : some (AExit.ret, E, T) = some (x, E', T') := h
      simp only [Option.some.injEq, Prod.mk.injEq] at h
      obtain ⟨rfl, rfl, rfl⟩ := h
      exact acode_ret hk
    · cases h

theorem cc_s (hm : P.follows .mixedOrders = true) (hc : CallOK P call) : ∀ d c, CloOK rf P N call (cc fu P N d c) c
  | 0, _ => fun _ _ _ _ _ h => by cases h
  | d + 1, c => ccStep_s hm hc (cc_s hm hc d) c
end

/-! ### Calls -/

def eputsT : Tr Value → List Nat → List Value → Tr Value
  | E, t :: ts, v :: vs => eputsT (E.set t (some v)) ts vs
  | E, _, _ => E

theorem eputsT_den (n : Nat) : ∀ (ts : List Nat) (vs : List Value) (E : Tr Value), eputs (eden n E) ts vs = eden n (eputsT E ts vs)
  | [], _, _ => by simp [eputs, eputsT]
  | _ :: _, [], _ => by simp [eputs, eputsT]
  | t :: ts, v :: vs, E => by
    simp only [eputs, eputsT]
    rw [eden_put]
    exact eputsT_den n ts vs _

/-- A round, laid ready. -/
def yieldBx (fu : Nat) (P : Program) (d : Nat) (n : Nat) (ps : Array Tmp) (asg body : Code) : Bx (CallF → Nat → Tr Value → List Value → VS → Option (AEnd × VS)) :=
  match ps.toList.all (fun t => Nat.blt t n) && regionsOK n asg && regionsOK n body && noRF asg && noRF body with
  | true => ⟨fun call l E args T => match args.length == ps.size with
    | true => (match (cc fu P n d asg).f call (eputsT E ps.toList args) (T.drop l) with
      | some (.normal, E1, T1) => (match (cc fu P n d body).f call E1 (T1.drop l) with
        | some (.normal, _, T2) => some (.returned (.bool true), T2.set l (.loop n E ps asg body none))
        | some (.ret, _, T2) => some (.returned (.bool false), T2.set l (.loop n E ps asg body (some .ret)))
        | some (.exit id, _, T2) => some (.returned (.bool false), T2.set l (.loop n E ps asg body (some (.exit id))))
        | _ => none)
      | _ => none)
    | false => none⟩
  | false => ⟨fun _ _ _ _ _ => none⟩

/-- What is laid ready for a function: its body as a closure. -/
def fnClo (fu : Nat) (P : Program) (d : Nat) (g : FuncId) : Bx (CallF → List Value → VS → Option (AEnd × VS)) :=
  match P.funcs[g]? with
  | some fn => (match fn.body with
    | some c => (match regionsOK fn.ntmps c with
      | true => ⟨fun call args T => (match Nat.ble args.length fn.ntmps with
        | true => (match (cc fu P fn.ntmps d c).f call (veOf args) T with
          | some (.normal, E', T') => xres P fn E' T' fun v => some (.returned v, T')
          | some (.ret, E', T') => xres P fn E' T' fun v => some (.returned v, T')
          | some (.panic ch, _, T') => some (.panicked ch, T')
          | _ => none)
        | false => none)⟩
      | false => ⟨fun _ _ _ => none⟩)
    | none => ⟨fun _ _ _ => none⟩)
  | none => ⟨fun _ _ _ => none⟩

theorem fnClo_s {fu d : Nat} {P : Program} {call : CallF} (hm : P.follows .mixedOrders = true) (hc : CallOK P call) {g : FuncId} {args : List Value} {T : VS} {en : AEnd} {T' : VS} (h : (fnClo fu P d g).f call args T = some (en, T'))
    (K : AEnd → Heap → Prop) (hk : K en T'.den) : acall P g args T.den K := by
  simp only [fnClo] at h
  cases hfn : P.funcs[g]? with
  | none => rw [hfn] at h; cases h
  | some fn =>
    rw [hfn] at h
    simp only at h
    cases hb : fn.body with
    | none => rw [hb] at h; cases h
    | some c =>
      rw [hb] at h
      simp only at h
      cases hreg : regionsOK fn.ntmps c with
      | false => rw [hreg] at h; cases h
      | true =>
        rw [hreg] at h
        simp only at h
        split at h
        · rename_i hn
          have hn : args.length ≤ fn.ntmps := Nat.le_of_ble_eq_true hn
          refine acall_of_acode hfn hb hn ?_
          rw [← veOf_den]
          split at h
          · rename_i E' T1 he
            refine cc_s hm hc d c _ _ _ _ _ he hreg (.inl rfl) _ ?_
            exact xres_s h fun u hu => by
              simp only [Option.some.injEq, Prod.mk.injEq] at hu
              obtain ⟨rfl, rfl⟩ := hu
              exact hk
          · rename_i E' T1 he
            refine cc_s hm hc d c _ _ _ _ _ he hreg (.inl rfl) _ ?_
            exact xres_s h fun u hu => by
              simp only [Option.some.injEq, Prod.mk.injEq] at hu
              obtain ⟨rfl, rfl⟩ := hu
              exact hk
          · rename_i ch E' T1 he
            refine cc_s hm hc d c _ _ _ _ _ he hreg (.inl rfl) _ ?_
            simp only [Option.some.injEq, Prod.mk.injEq] at h
            obtain ⟨rfl, rfl⟩ := h
            exact hk
          · cases h
        · cases h

def yieldL (fu : Nat) (P : Program) (d : Nat) (call : CallF) (l : Nat) (args : List Value) (T : VS) : Option (AEnd × VS) :=
  match T.get l with
  | some (.loop n E ps asg body j) => (match j with
    | none => (yieldBx fu P d n ps asg body).f call l E args T
    | some _ => none)
  | _ => none

theorem yieldL_s {fu d : Nat} {P : Program} {call : CallF} (hm : P.follows .mixedOrders = true) (hc : CallOK P call) {l : Nat} {args : List Value} {T : VS} {en : AEnd} {T' : VS} (h : yieldL fu P d call l args T = some (en, T'))
    (K : AEnd → Heap → Prop) (hk : K en T'.den) : ayield P l args T.den K := by
  unfold yieldL at h
  split at h
  case h_2 => cases h
  rename_i n E ps asg body j hl
  split at h
  case h_2 => cases h
  have hl : T.den.get l = _ := hl
  unfold ayield
  simp only [hl]
  unfold yieldBx at h
  split at h
  case h_2 => cases h
  rename_i hck
  simp only [Bool.and_eq_true] at hck
  obtain ⟨⟨⟨⟨hps, r1⟩, r2⟩, n1⟩, n2⟩ := hck
  simp only at h
  split at h
  case h_2 => cases h
  rename_i hlen
  refine ⟨by simpa using hlen, fun t ht => blt_s (List.all_eq_true.1 hps t ht), ?_⟩
  split at h
  case h_2 => cases h
  rename_i E1 T1 h1
  have he : eputs ⟨n, E.get⟩ ps.toList args = eden n (eputsT E ps.toList args) := eputsT_den n _ _ E
  rw [he, VS.den_drop]
  refine cc_s (rf := false) hm hc d asg _ _ _ _ _ h1 r1 (.inr n1) _ ?_
  show acode false P body _ (eden n E1) (T1.den.drop l)
  rw [VS.den_drop]
  split at h
  · rename_i E2 T2 h2
    refine cc_s (rf := false) hm hc d body _ _ _ _ _ h2 r2 (.inr n2) _ ?_
    simp only [Option.some.injEq, Prod.mk.injEq] at h
    obtain ⟨rfl, rfl⟩ := h
    show K _ (T2.den.set l _)
    rw [VS.den_set]
    exact hk
  · rename_i E2 T2 h2
    refine cc_s (rf := false) hm hc d body _ _ _ _ _ h2 r2 (.inr n2) _ ?_
    simp only [Option.some.injEq, Prod.mk.injEq] at h
    obtain ⟨rfl, rfl⟩ := h
    show K _ (T2.den.set l _)
    rw [VS.den_set]
    exact hk
  · rename_i id E2 T2 h2
    refine cc_s (rf := false) hm hc d body _ _ _ _ _ h2 r2 (.inr n2) _ ?_
    simp only [Option.some.injEq, Prod.mk.injEq] at h
    obtain ⟨rfl, rfl⟩ := h
    show K _ (T2.den.set l _)
    rw [VS.den_set]
    exact hk
  · cases h

/-- Calls, so deep. 'O' tells of those that have a law of their own: by what they call. -/
def callL (fu d : Nat) (O : CallF → FuncId → List Value → VS → Option (AEnd × VS)) (own : FuncId → Bool) (P : Program) (n : Nat) : CallF :=
  Nat.rec (motive := fun _ => CallF) (fun _ _ _ => none) (fun _ ih c args T => match c with
    | .fn g => (match own g with
      | true => O ih g args T
      | false => (fnClo fu P d g).f ih args T)
    | .yl l => yieldL fu P d ih l args T) n

/-- What is said of the functions that have a law of their own is so. -/
def OwnOK (P : Program) (O : CallF → FuncId → List Value → VS → Option (AEnd × VS)) : Prop := ∀ call, CallOK P call → ∀ g args T en T', O call g args T = some (en, T') → ∀ K : AEnd → Heap → Prop, K en T'.den → acall P g args T.den K

theorem callL_s {fu d : Nat} {P : Program} {O : CallF → FuncId → List Value → VS → Option (AEnd × VS)} {own : FuncId → Bool} (hm : P.follows .mixedOrders = true) (hO : OwnOK P O) : ∀ n, CallOK P (callL fu d O own P n)
  | 0 => fun _ _ _ _ _ h => by cases h
  | n + 1 => fun c args T en T' h K hk => by
    cases c with
    | fn g =>
      have h : (match own g with
        | true => O (callL fu d O own P n) g args T
        | false => (fnClo fu P d g).f (callL fu d O own P n) args T) = some (en, T') := h
      split at h
      · exact hO _ (callL_s hm hO n) _ _ _ _ _ h K hk
      · exact fnClo_s hm (callL_s hm hO n) h K hk
    | yl l => exact yieldL_s hm (callL_s hm hO n) (show yieldL fu P d (callL fu d O own P n) l args T = some (en, T') from h) K hk

end

end Go.Lift
