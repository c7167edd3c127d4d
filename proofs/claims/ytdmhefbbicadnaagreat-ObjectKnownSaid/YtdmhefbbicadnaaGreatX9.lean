import Derived.Test.YtdmhefbbicadnaaGreatX8
/-! The evaluator, part 9: regions, code and calls as closures. -/
namespace Go.Lift

noncomputable section

def fevL {R : Type} (l : List Operand) : Bx (Tr Value → (List Value → Option R) → Option R) :=
  match l with
  | [] => ⟨fun _ K => K []⟩
  | x :: xs => ⟨fun E K => (fev x).f E fun v => (fevL xs).f E fun vs => K (v :: vs)⟩

theorem fevL_eq {R : Type} : ∀ (l : List Operand) (E : Tr Value) (K : List Value → Option R), (fevL l).f E K = xevL E l K
  | [], _, _ => by simp only [fevL, xevL]
  | x :: xs, E, K => by
    simp only [fevL, xevL, fev_eq]
    congr 1
    funext v
    rw [fevL_eq xs]

abbrev Clo := CallF → Tr Value → VS → Option Res
abbrev CloK := CallF → Tr Value → VS → (Value → VS → Option Res) → Option Res

def fcall (call : CallF) (P : Program) (E : Tr Value) (t : TypeId) (f : Value) (args : List Value) (T : VS) (K : Value → VS → Option Res) : Option Res :=
  match f with
  | .func (.func g) x y => (match callOK P g with
    | true => (match call (.fn g) (x.toList ++ args ++ y.toList) T with
      | some (.returned v, T') => xshp P t v fun u => K u T'
      | some (.panicked ch, T') => some (.panic ch, E, T')
      | none => none)
    | false => none)
  | .func (.yield l) x y => (match x.toList, y.toList with
    | [], [] => (match call (.yl l) args T with
      | some (.returned v, T') => K v T'
      | _ => none)
    | _, _ => none)
  | _ => none

def cop1 (P : Program) (o : Oper) : Bx CloK :=
  match cls P o with
  | .c => (match o.op with
    | .call c => (match c.callee with
      | .value f => ⟨fun call E T K => (fev f).f E fun fv => (fevL c.args.toList).f E fun vs => fcall call P E o.type fv vs T K⟩
      | _ => ⟨fun _ _ _ _ => none⟩)
    | _ => ⟨fun _ _ _ _ => none⟩)
  | .p => (match o.op with
    | .panic x => ⟨fun _ E T _ => (fev x).f E fun v => (match v with
      | .iface t u => some (.panic [{ v := .iface t u, recovered := false }], E, T)
      | _ => none)⟩
    | _ => ⟨fun _ _ _ _ => none⟩)
  | _ => ⟨fun _ E T K => (fop P o).f E T K⟩

def cgop (P : Program) (ops : Array Oper) (i : Nat) : Bx CloK :=
  match ops[i]? with
  | none => ⟨fun _ _ _ _ => none⟩
  | some o => match o.guard with
    | none => cop1 P o
    | some (g, b) => match (ops[g]?).bind (·.dst) with
      | none => ⟨fun _ _ _ _ => none⟩
      | some d => ⟨fun call E T K => match tget d E with
        | some (.bool t) => (match t == b with
          | true => (cop1 P o).f call E T K
          | false => K undef T)
        | some (.tuple _) => K undef T
        | _ => none⟩

def fput (d : Option Nat) : Bx (Tr Value → Value → Tr Value) :=
  match d with
  | none => ⟨fun E _ => E⟩
  | some d => ⟨fun E v => tset (some v) d E⟩

theorem fput_eq (d : Option Nat) (E : Tr Value) (v : Value) : (fput d).f E v = eput E d v := by
  cases d with
  | none => rfl
  | some d => exact tset_eq _ _ _

def cregC (P : Program) (ops : Array Oper) : List Nat → Bx Clo
  | [] => ⟨fun _ E T => some (.normal, E, T)⟩
  | i :: rest => ⟨fun call E T => (cgop P ops i).f call E T fun v T' => frc v fun v => (cregC P ops rest).f call ((fput (dstOf ops i)).f E v) T'⟩

section
variable {N : Nat} {call : CallF} {P : Program} {E : Tr Value} {T : VS} {ops : Array Oper} {G : Value → Heap → Prop} {Kp : List PanicEntry → Heap → Prop} {r : Res} {K : Value → VS → Option Res}

theorem cop1_s {o : Oper} (hc : CallOK P call) (h : (cop1 P o).f call E T K = some r) (hk : ∀ v T', K v T' = some r → G v T'.den) (hp : ∀ ch T', r = (.panic ch, E, T') → Kp ch T'.den) :
    lop P (eden N E) o T.den G Kp := by
  unfold cop1 at h
  cases hcls : cls P o <;> simp only [hcls] at h
  case c =>
    unfold lop
    simp only [hcls]
    cases hop : o.op <;> simp only [hop] at h <;> first | (cases h; done) | skip
    rename_i c
    cases hf : c.callee <;> simp only [hf] at h <;> first | (cases h; done) | skip
    rename_i f
    simp only [hf]
    rw [fev_eq] at h
    refine xev1_s h fun fv h => ?_
    rw [fevL_eq] at h
    refine xevL_s h fun vs h => ?_
    unfold fcall at h
    unfold acallV
    split at h
    · simp only
      split at h
      · rename_i hok
        simp only [hok]
        split at h
        · rename_i v T' hcall
          refine hc _ _ _ _ _ hcall _ ?_
          exact xshp_s h fun u hu => hk _ _ hu
        · rename_i ch T' hcall
          exact hc _ _ _ _ _ hcall _ (hp _ _ (Option.some.inj h).symm)
        · cases h
      · cases h
    · simp only
      split at h
      · rename_i hx hy
        split at h
        · rename_i v T' hcall
          refine ⟨by rw [← Array.toList_inj]; exact hx, by rw [← Array.toList_inj]; exact hy, ?_⟩
          exact hc _ _ _ _ _ hcall _ (hk _ _ h)
        · cases h
      · cases h
    · cases h
  case p =>
    unfold lop
    simp only [hcls]
    cases hop : o.op <;> simp only [hop] at h <;> first | (cases h; done) | skip
    rename_i x
    rw [fev_eq] at h
    refine xev1_s h fun v h => ?_
    unfold apanic
    split at h
    · exact hp _ _ (Option.some.inj h).symm
    · cases h
  all_goals exact xop_s (fop_s h) hk

theorem cgop_s {i : Nat} (hc : CallOK P call) (h : (cgop P ops i).f call E T K = some r) (hk : ∀ v T', K v T' = some r → G v T'.den) (hp : ∀ ch T', r = (.panic ch, E, T') → Kp ch T'.den) :
    gop P ops i (eden N E) T.den G Kp := by
  unfold cgop at h
  unfold gop
  cases ho : ops[i]? with
  | none => rw [ho] at h; cases h
  | some o =>
    rw [ho] at h
    simp only at h ⊢
    cases hg : o.guard with
    | none =>
      rw [hg] at h
      exact cop1_s hc h hk hp
    | some gb =>
      obtain ⟨g, b⟩ := gb
      rw [hg] at h
      simp only at h ⊢
      cases hd : (ops[g]?).bind (·.dst) with
      | none => rw [hd] at h; cases h
      | some d =>
        rw [hd] at h
        simp only at h
        have he : (some d).bind (eget (eden N E)) = tget d E := by rw [tget_eq]; rfl
        rw [he]
        split at h
        · rename_i t ht
          simp only [ht]
          split at h
          · rename_i htb
            rw [if_pos (by simpa using htb)]
            exact cop1_s hc h hk hp
          · rename_i htb
            rw [if_neg (by simpa using htb)]
            exact hk _ _ h
        · rename_i ht
          simp only [ht]
          exact hk _ _ h
        · cases h
end

section
variable {N : Nat} {call : CallF} {P : Program} {ops : Array Oper} {K : AExit → Env → Heap → Prop}

theorem cregC_s (hc : CallOK P call) : ∀ {l : List Nat} {E : Tr Value} {T : VS} {x : AExit} {E' : Tr Value} {T' : VS}, (cregC P ops l).f call E T = some (x, E', T') → K x (eden N E') T'.den → aops P ops K l (eden N E) T.den
  | [], E, T, x, E', T', h, hk => by
    simp only [cregC, Option.some.injEq, Prod.mk.injEq] at h
    obtain ⟨rfl, rfl, rfl⟩ := h
    exact hk
  | i :: rest, E, T, x, E', T', h, hk => by
    unfold cregC at h
    unfold aops
    refine cgop_s hc h (fun v T1 h => ?_) fun ch T1 he => ?_
    · rw [frc_eq, fput_eq] at h
      rw [eden_put]
      exact cregC_s hc h hk
    · simp only [Prod.mk.injEq] at he
      obtain ⟨rfl, rfl, rfl⟩ := he
      exact hk

/-! ### Drawn regions -/

/-- Of a panic within a drawn region the temporaries are not known. -/
def bareE (x : AExit) (E : Tr Value) : Tr Value := match x with
  | .panic _ => .leaf
  | _ => E

def bareP (q : Option Res) : Option Res := match q with
  | some (x, E, T) => some (x, bareE x E, T)
  | none => none


def frd (P : Program) (ops : Array Oper) (i : Nat) : Bx (Tr Value → VS → Option Value) :=
  match ops[i]? with
  | none => ⟨fun _ _ => none⟩
  | some o => match o.guard with
    | none => ⟨fun E T => (fop P o).f E T fun v _ => some v⟩
    | some (g, b) => match (ops[g]?).bind (·.dst) with
      | none => ⟨fun _ _ => none⟩
      | some d => ⟨fun E T => match tget d E with
        | some (.bool t) => (match t == b with
          | true => (fop P o).f E T fun v _ => some v
          | false => some undef)
        | some (.tuple _) => some undef
        | _ => none⟩

theorem frd_s {i : Nat} {E : Tr Value} {T : VS} {v : Value} (he : isEffO P ops i = false) (h : (frd P ops i).f E T = some v) : Yld P ops i (eden N E) T.den v := by
  intro K Kp hk
  unfold frd at h
  unfold gop
  unfold isEffO at he
  cases ho : ops[i]? with
  | none => rw [ho] at h; cases h
  | some o =>
    rw [ho] at h he
    simp only at h he ⊢
    have key : (fop P o).f E T (fun v _ => some v) = some v → lop P (eden N E) o T.den K Kp := by
      intro h
      have h := fop_s h
      unfold xop at h
      unfold lop
      split at h
      · rename_i hcl
        simp only [hcl]
        exact xlopA_s h fun u hu => (Option.some.inj hu) ▸ hk
      · rename_i hcl
        simp only [hcl]
        exact xlopR_s h fun u hu => (Option.some.inj hu) ▸ hk
      · rename_i hcl
        rw [hcl] at he
        cases he
      · cases h
    cases hg : o.guard with
    | none =>
      rw [hg] at h
      exact key h
    | some gb =>
      obtain ⟨g, b⟩ := gb
      rw [hg] at h
      simp only at h ⊢
      cases hd : (ops[g]?).bind (·.dst) with
      | none => rw [hd] at h; cases h
      | some d =>
        rw [hd] at h
        simp only at h
        have he : (some d).bind (eget (eden N E)) = tget d E := by rw [tget_eq]; rfl
        rw [he]
        split at h
        · rename_i t ht
          simp only [ht]
          split at h
          · rename_i htb
            rw [if_pos (by simpa using htb)]
            exact key h
          · rename_i htb
            rw [if_neg (by simpa using htb)]
            exact (Option.some.inj h) ▸ hk
        · rename_i ht
          simp only [ht]
          exact (Option.some.inj h) ▸ hk
        · cases h

def cschC (P : Program) (ops : Array Oper) : List Item → Bx (CallF → Mem → Tr Value → VS → Option Res)
  | [] => ⟨fun _ _ E T => some (.normal, E, T)⟩
  | .rd i isr :: rest => match isr with
    | true => ⟨fun call M E T => match (frd P ops i).f E T with
      | some v => frc v fun v => (cschC P ops rest).f call ((i, E, v) :: M) ((fput (dstOf ops i)).f E v) T
      | none => none⟩
    | false => ⟨fun call M E T => match (frd P ops i).f E T with
      | some v => frc v fun v => (cschC P ops rest).f call M ((fput (dstOf ops i)).f E v) T
      | none => none⟩
  | .eff j ps :: rest => ⟨fun call M E T => (cgop P ops j).f call E T fun v T' => match recheck P ops ps M T' with
    | true => frc v fun v => (cschC P ops rest).f call M ((fput (dstOf ops j)).f E v) T'
    | false => none⟩

theorem cschC_s (hc : CallOK P call) : ∀ {plan : List Item} {listed : Array Bool} {M : Mem} {O : Obl} {E : Tr Value} {T : VS} {x : AExit} {E' : Tr Value} {T' : VS},
    planOK P ops plan listed (M.map (·.1)) = true → (∀ p S, (p, S) ∈ O → (∀ H, S H) ∨ ∃ Ep v, (p, Ep, v) ∈ M ∧ S = fun H => Yld P ops p (eden N Ep) H v) → Closed ops listed →
    (cschC P ops plan).f call M E T = some (x, E', T') → K x (eden N (bareE x E')) T'.den → aAnyL (isEffO P ops) P ops K plan.length O listed (eden N E) T.den
  | [], listed, M, O, E, T, x, E', T', hp, hO, hcl, h, hk => by
    simp only [cschC, Option.some.injEq, Prod.mk.injEq] at h
    obtain ⟨rfl, rfl, rfl⟩ := h
    exact ⟨by simpa [planOK] using hp, hk⟩
  | .rd i isr :: rest, listed, M, O, E, T, x, E', T', hp, hO, hcl, h, hk => by
    simp only [planOK, Bool.and_eq_true, Bool.not_eq_true', List.contains_iff_mem] at hp
    obtain ⟨⟨⟨⟨p1, p2⟩, p3⟩, p4⟩, p5⟩ := hp
    obtain ⟨_, oi, hoi, _⟩ := mem_ready.1 p1
    cases isr with
    | true =>
      unfold cschC at h
      simp only at h
      split at h
      · rename_i v hv
        rw [frc_eq, fput_eq] at h
        have hy := frd_s (N := N) p3 hv
        refine aAnyL_take (S := fun H => Yld P ops i (eden N E) H v) (v := v) hoi p3 _ _ _ _ _ hcl (Region.free_spec hoi p2) p1 (fun H h => h) hy ?_
        rw [eden_put]
        refine cschC_s (M := (i, E, v) :: M) hc p5 (fun p S hS => ?_) (hcl.set p1) h hk
        rcases List.mem_cons.1 hS with hS | hS
        · simp only [Prod.mk.injEq] at hS
          obtain ⟨rfl, rfl⟩ := hS
          exact .inr ⟨E, v, by simp, rfl⟩
        · rcases hO p S hS with h1 | ⟨Ep, u, h1, h2⟩
          · exact .inl h1
          · exact .inr ⟨Ep, u, by simp [h1], h2⟩
      · cases h
    | false =>
      unfold cschC at h
      simp only at h
      split at h
      · rename_i v hv
        rw [frc_eq, fput_eq] at h
        have hy := frd_s (N := N) p3 hv
        have ha : isA P ops i = true := by simpa using p4
        refine aAnyL_take (S := fun _ => True) (v := v) hoi p3 _ _ _ _ _ hcl (Region.free_spec hoi p2) p1 (fun H _ => Yld_a ha hy) trivial ?_
        rw [eden_put]
        refine cschC_s (M := M) hc p5 (fun p S hS => ?_) (hcl.set p1) h hk
        rcases List.mem_cons.1 hS with hS | hS
        · simp only [Prod.mk.injEq] at hS
          obtain ⟨rfl, rfl⟩ := hS
          exact .inl fun _ => trivial
        · exact hO p S hS
      · cases h
  | .eff j ps :: rest, listed, M, O, E, T, x, E', T', hp, hO, hcl, h, hk => by
    simp only [planOK, Bool.and_eq_true] at hp
    obtain ⟨⟨p1, p2⟩, p3⟩ := hp
    have hr : Region.ready .any ops listed = [j] := by
      split at p1
      · rename_i k hk'
        rw [hk']
        simpa using p1
      · cases p1
    have hjm : j ∈ Region.ready .any ops listed := by rw [hr]; simp
    refine ⟨fun h0 => (by rw [hr] at h0; cases h0), fun i hi => ?_⟩
    rw [hr] at hi
    obtain rfl : i = j := by simpa using hi
    unfold cschC at h
    refine ⟨_, _, cgop_s hc h (fun v T1 h => ?_) (fun ch T1 he => ?_), fun _ _ h => h, fun _ _ h => h⟩
    · split at h
      · rename_i hre
        rw [frc_eq, fput_eq] at h
        refine ⟨fun p S hS => ?_, ?_⟩
        · rcases hO p S hS with h1 | ⟨Ep, u', h1, h2⟩
          · exact .inr fun _ => h1 _
          · have hpm : p ∈ M.map (·.1) := List.mem_map.2 ⟨_, h1, rfl⟩
            have hpc := List.all_eq_true.1 p2 p hpm
            simp only [Bool.or_eq_true, List.contains_iff_mem] at hpc
            rcases hpc with hpc | hpc
            · refine .inr fun _ => ?_
              have := List.all_eq_true.1 hre _ h1
              simp only [Bool.or_eq_true, Bool.not_eq_true'] at this
              rcases this with hf | hq
              · have hct : ps.contains p = true := by simpa using hpc
                rw [hct] at hf
                cases hf
              · split at hq
                · rename_i u2 hx
                  rw [h2]
                  have := veq_s hq
                  subst this
                  exact xrd_s hx
                · cases hq
            · refine .inl ?_
              unfold excused at hpc
              obtain ⟨k, _, hk3⟩ := List.any_eq_true.1 hpc
              simp only [Bool.and_eq_true, Bool.or_eq_true, beq_iff_eq] at hk3
              exact ⟨k, hk3.1.1, hk3.1.2, ancB_s hk3.2⟩
        · rw [eden_put]
          exact cschC_s hc p3 hO (hcl.set hjm) h hk
      · cases h
    · simp only [Prod.mk.injEq] at he
      obtain ⟨rfl, rfl, rfl⟩ := he
      exact hk
end

end

end Go.Lift
