import Derived.Test.YtdmhefbbicadnaaGreatX3
/-! The evaluator, part 4: regions whose order is drawn. -/
namespace Go.Lift

/-- Are two values the same? (It may say no of same values.) -/
def veq : Nat → Value → Value → Bool
  | 0, _, _ => false
  | f + 1, x, y =>
    match x, y with
    | .bool a, .bool b => a == b
    | .int k a, .int k' b => decide (k = k') && decide (a = b)
    | .string a, .string b => decide (a.data.toList = b.data.toList)
    | .pointer none, .pointer none => true
    | .pointer (some ⟨b, o, none⟩), .pointer (some ⟨b', o', none⟩) => b == b' && o == o'
    | .slice none l c, .slice none l' c' => l == l' && c == c'
    | .slice (some ⟨b, o, none⟩) l c, .slice (some ⟨b', o', none⟩) l' c' => b == b' && o == o' && l == l' && c == c'
    | .map none, .map none => true
    | .map (some a), .map (some b) => a == b
    | .nilFunc, .nilFunc => true
    | .nilIface, .nilIface => true
    | .iface t v, .iface t' v' => t == t' && veq f v v'
    | .agg x, .agg y => x.toList.length == y.toList.length && (x.toList.zip y.toList).all fun p => veq f p.1 p.2
    | .tuple x, .tuple y => x.toList.length == y.toList.length && (x.toList.zip y.toList).all fun p => veq f p.1 p.2
    | _, _ => false

theorem zip_all_eq {α : Type} {p : α × α → Bool} (hp : ∀ x, p x = true → x.1 = x.2) : ∀ {l m : List α}, l.length = m.length → (l.zip m).all p = true → l = m
  | [], [], _, _ => rfl
  | [], _ :: _, h, _ => by simp at h
  | _ :: _, [], h, _ => by simp at h
  | a :: l, b :: m, h, ha => by
    simp only [List.zip_cons_cons, List.all_cons, Bool.and_eq_true] at ha
    have h1 : a = b := hp _ ha.1
    have h2 : l = m := zip_all_eq hp (by simpa using h) ha.2
    rw [h1, h2]

theorem veq_s : ∀ {f : Nat} {x y : Value}, veq f x y = true → x = y
  | 0, _, _, h => by simp [veq] at h
  | f + 1, x, y, h => by
    unfold veq at h
    split at h
    · simpa using h
    · simpa using h
    · rename_i a b
      have := of_decide_eq_true h
      have h2 : a.data = b.data := Array.toList_inj.1 this
      cases a; cases b; simp_all
    · rfl
    · simpa using h
    · simpa using h
    · simp only [Bool.and_eq_true, beq_iff_eq] at h
      obtain ⟨⟨⟨rfl, rfl⟩, rfl⟩, rfl⟩ := h
      rfl
    · rfl
    · simpa using h
    · rfl
    · rfl
    · simp only [Bool.and_eq_true, beq_iff_eq] at h
      rw [h.1, veq_s h.2]
    · simp only [Bool.and_eq_true, beq_iff_eq] at h
      have := zip_all_eq (fun p hp => veq_s hp) h.1 h.2
      rw [Array.toList_inj.1 this]
    · simp only [Bool.and_eq_true, beq_iff_eq] at h
      have := zip_all_eq (fun p hp => veq_s hp) h.1 h.2
      rw [Array.toList_inj.1 this]
    · cases h

def ancB (ops : Array Oper) : Nat → Nat → Nat → Bool
  | 0, _, _ => false
  | f + 1, j, p => match ops[j]? with
    | some o => o.after.toList.any fun e => Region.binds .any e && (e.on == p || ancB ops f e.on p)
    | none => false

theorem ancB_s {ops : Array Oper} : ∀ {f j p : Nat}, ancB ops f j p = true → Anc ops j p
  | 0, _, _, h => by simp [ancB] at h
  | f + 1, j, p, h => by
    unfold ancB at h
    split at h
    · rename_i o ho
      obtain ⟨e, he, hb⟩ := List.any_eq_true.1 h
      simp only [Bool.and_eq_true, Bool.or_eq_true, beq_iff_eq] at hb
      have he' : e ∈ o.after := by simpa using he
      rcases hb.2 with h1 | h1
      · exact .edge ho he' hb.1 h1
      · exact .step ho he' hb.1 rfl (ancB_s h1)
    · cases h

def excused (P : Program) (ops : Array Oper) (listed : Array Bool) (j p : Nat) : Bool :=
  (List.range ops.size).any fun k => isEffO P ops k && (listed.getD k false || k == j) && ancB ops ops.size k p

def planOK (P : Program) (ops : Array Oper) : List Item → Array Bool → List Nat → Bool
  | [], listed, _ => (Region.ready .any ops listed).isEmpty
  | .rd i isr :: rest, listed, L => (Region.ready .any ops listed).contains i && Region.free .any ops listed i && !isEffO P ops i && (isr || isA P ops i) &&
      planOK P ops rest (listed.setIfInBounds i true) (match isr with | true => i :: L | false => L)
  | .eff j ps :: rest, listed, L => (match Region.ready .any ops listed with | [k] => k == j | _ => false) && L.all (fun p => ps.contains p || excused P ops listed j p) &&
      planOK P ops rest (listed.setIfInBounds j true) L

abbrev Mem := List (Nat × (Tr Value) × Value)

def recheck (P : Program) (ops : Array Oper) (ps : List Nat) (M : Mem) (T : VS) : Bool :=
  M.all fun x => !(ps.contains x.1) || (match xrd P ops x.1 x.2.1 T some with | some u => veq 30 u x.2.2 | none => false)

def evSched (call : CallF) (P : Program) (ops : Array Oper) : List Item → Mem → Tr Value → VS → Option Res
  | [], _, E, T => some (.normal, E, T)
  | .rd i isr :: rest, M, E, T => match xrd P ops i E T some with
    | some v => frc v fun v => evSched call P ops rest (match isr with | true => (i, E, v) :: M | false => M) (eput E (dstOf ops i) v) T
    | none => none
  | .eff j ps :: rest, M, E, T => match xgop call P ops j E T with
    | some (.val v T') => (match recheck P ops ps M T' with
      | true => frc v fun v => evSched call P ops rest M (eput E (dstOf ops j) v) T'
      | false => none)
    | some (.pan ch T') => some (.panic ch, .leaf, T')
    | none => none

theorem Yld_a {P : Program} {ops : Array Oper} {i : Nat} {e : Env} {H H' : Heap} {v : Value} (ha : isA P ops i = true) (h : Yld P ops i e H v) : Yld P ops i e H' v := by
  intro K Kp hk
  have := h (fun u _ => K u H') Kp hk
  unfold isA at ha
  unfold gop at this ⊢
  split at ha
  · rename_i o ho
    split at ha
    · rename_i hcl
      simp only [ho] at this ⊢
      have hl : lop P e o H (fun u _ => K u H') Kp = lop P e o H' K Kp := by unfold lop; simp only [hcl]
      rw [hl] at this
      exact this
    · cases ha
  · cases ha

section
variable {N : Nat} {call : CallF} {P : Program} {ops : Array Oper} {K : AExit → Env → Heap → Prop}

theorem evSched_s (hc : CallOK P call) : ∀ {plan : List Item} {listed : Array Bool} {M : Mem} {O : Obl} {E : Tr Value} {T : VS} {x : AExit} {E' : Tr Value} {T' : VS},
    planOK P ops plan listed (M.map (·.1)) = true → (∀ p S, (p, S) ∈ O → (∀ H, S H) ∨ ∃ Ep v, (p, Ep, v) ∈ M ∧ S = fun H => Yld P ops p (eden N Ep) H v) → Closed ops listed →
    evSched call P ops plan M E T = some (x, E', T') → K x (eden N E') T'.den → aAnyL (isEffO P ops) P ops K plan.length O listed (eden N E) T.den
  | [], listed, M, O, E, T, x, E', T', hp, hO, hcl, h, hk => by
    simp only [evSched, Option.some.injEq, Prod.mk.injEq] at h
    obtain ⟨rfl, rfl, rfl⟩ := h
    exact ⟨by simpa [planOK] using hp, hk⟩
  | .rd i isr :: rest, listed, M, O, E, T, x, E', T', hp, hO, hcl, h, hk => by
    simp only [planOK, Bool.and_eq_true, Bool.not_eq_true', List.contains_iff_mem] at hp
    obtain ⟨⟨⟨⟨p1, p2⟩, p3⟩, p4⟩, p5⟩ := hp
    unfold evSched at h
    split at h
    · rename_i v hv
      rw [frc_eq] at h
      have hy := xrd_s (N := N) hv
      obtain ⟨_, oi, hoi, _⟩ := mem_ready.1 p1
      cases isr with
      | true =>
        refine aAnyL_take (S := fun H => Yld P ops i (eden N E) H v) (v := v) hoi p3 _ _ _ _ _ hcl (Region.free_spec hoi p2) p1 (fun H h => h) hy ?_
        rw [eden_put]
        refine evSched_s (M := (i, E, v) :: M) hc p5 (fun p S hS => ?_) (hcl.set p1) h hk
        rcases List.mem_cons.1 hS with hS | hS
        · simp only [Prod.mk.injEq] at hS
          obtain ⟨rfl, rfl⟩ := hS
          exact .inr ⟨E, v, by simp, rfl⟩
        · rcases hO p S hS with h1 | ⟨Ep, u, h1, h2⟩
          · exact .inl h1
          · exact .inr ⟨Ep, u, by simp [h1], h2⟩
      | false =>
        have ha : isA P ops i = true := by simpa using p4
        refine aAnyL_take (S := fun _ => True) (v := v) hoi p3 _ _ _ _ _ hcl (Region.free_spec hoi p2) p1 (fun H _ => Yld_a ha hy) trivial ?_
        rw [eden_put]
        refine evSched_s (M := M) hc p5 (fun p S hS => ?_) (hcl.set p1) h hk
        rcases List.mem_cons.1 hS with hS | hS
        · simp only [Prod.mk.injEq] at hS
          obtain ⟨rfl, rfl⟩ := hS
          exact .inl fun _ => trivial
        · exact hO p S hS
    · cases h
  | .eff j ps :: rest, listed, M, O, E, T, x, E', T', hp, hO, hcl, h, hk => by
    simp only [planOK, Bool.and_eq_true] at hp
    obtain ⟨⟨p1, p2⟩, p3⟩ := hp
    have hr : Region.ready .any ops listed = [j] := by
      split at p1
      · rename_i k hk'
        rw [hk']
        simpa using p1
      · cases p1
    have hjm : j ∈ Region.ready .any ops listed := by rw [hr]; simp
    refine ⟨fun h0 => (by rw [hr] at h0; cases h0), fun i hi => ?_⟩
    rw [hr] at hi
    obtain rfl : i = j := by simpa using hi
    unfold evSched at h
    split at h
    · rename_i v T1 hg
      split at h
      · rename_i hre
        rw [frc_eq] at h
        refine ⟨fun u H' => u = v ∧ H' = T1.den, fun _ _ => False, xgop_s hc hg ⟨rfl, rfl⟩, ?_, fun _ _ hf => hf.elim⟩
        rintro u H' ⟨rfl, rfl⟩
        refine ⟨fun p S hS => ?_, ?_⟩
        · rcases hO p S hS with h1 | ⟨Ep, u', h1, h2⟩
          · exact .inr fun _ => h1 _
          · have hpm : p ∈ M.map (·.1) := List.mem_map.2 ⟨_, h1, rfl⟩
            have hpc := List.all_eq_true.1 p2 p hpm
            simp only [Bool.or_eq_true, List.contains_iff_mem] at hpc
            rcases hpc with hpc | hpc
            · refine .inr fun _ => ?_
              have := List.all_eq_true.1 hre _ h1
              simp only [Bool.or_eq_true, Bool.not_eq_true'] at this
              rcases this with hf | hq
              · have hct : ps.contains p = true := by simpa using hpc
                rw [hct] at hf
                cases hf
              · split at hq
                · rename_i u2 hx
                  rw [h2]
                  have := veq_s hq
                  subst this
                  exact xrd_s hx
                · cases hq
            · refine .inl ?_
              unfold excused at hpc
              obtain ⟨k, _, hk3⟩ := List.any_eq_true.1 hpc
              simp only [Bool.and_eq_true, Bool.or_eq_true, beq_iff_eq] at hk3
              exact ⟨k, hk3.1.1, hk3.1.2, ancB_s hk3.2⟩
        · rw [eden_put]
          exact evSched_s hc p3 hO (hcl.set hjm) h hk
      · cases h
    · rename_i ch T1 hg
      simp only [Option.some.injEq, Prod.mk.injEq] at h
      obtain ⟨rfl, rfl, rfl⟩ := h
      refine ⟨fun _ _ => False, fun c H' => c = ch ∧ H' = T1.den, xgop_s hc hg ⟨rfl, rfl⟩, fun _ _ hf => hf.elim, ?_⟩
      rintro c H' ⟨rfl, rfl⟩
      exact hk
    · cases h
end

/-- A plan for a region: what may come up is taken at once if it only reads; else it must be the only one. -/
def mkPlan (P : Program) (ops : Array Oper) : Nat → Array Bool → List Nat → Option (List Item)
  | 0, _, _ => some []
  | f + 1, listed, L =>
    let rs := Region.ready .any ops listed
    match rs.find? fun i => !isEffO P ops i with
    | some i =>
      let isr := !isA P ops i
      (mkPlan P ops f (listed.setIfInBounds i true) (match isr with | true => i :: L | false => L)).map (.rd i isr :: ·)
    | none => match rs with
      | [j] => (mkPlan P ops f (listed.setIfInBounds j true) L).map (.eff j (L.filter fun p => !excused P ops listed j p) :: ·)
      | _ => none

def planFor (P : Program) (ops : Array Oper) : Option (List Item) :=
  match mkPlan P ops ops.size (Array.replicate ops.size false) [] with
  | some plan => match planOK P ops plan (Array.replicate ops.size false) [] && plan.length == ops.size with
    | true => some plan
    | false => none
  | none => none

theorem planFor_s {P : Program} {ops : Array Oper} {plan : List Item} (h : planFor P ops = some plan) : planOK P ops plan (Array.replicate ops.size false) [] = true ∧ plan.length = ops.size := by
  unfold planFor at h
  split at h
  · split at h
    · rename_i hq
      simp only [Bool.and_eq_true, beq_iff_eq] at hq
      obtain rfl := Option.some.inj h
      exact hq
    · cases h
  · cases h

end Go.Lift
