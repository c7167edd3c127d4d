import Derived.Test.YtdmhefbbicadnaaGreatX16
/-! Contracts: drawn regions by a plan, over heaps that are not given. -/
namespace Go.Lift

abbrev MemE := List (Nat × Env × Value)

/-- A drawn region, along a plan. -/
def aSched (P : Program) (ops : Array Oper) (K : AExit → Env → Heap → Prop) : List Item → MemE → Env → Heap → Prop
  | [], _, e, H => K .normal e H
  | .rd i isr :: rest, M, e, H => ∃ v, Yld P ops i e H v ∧ aSched P ops K rest (match isr with | true => (i, e, v) :: M | false => M) (e.put (dstOf ops i) v) H
  | .eff j ps :: rest, M, e, H => gop P ops j e H (fun v H' => (∀ x ∈ M, ps.contains x.1 = true → Yld P ops x.1 x.2.1 H' x.2.2) ∧ aSched P ops K rest M (e.put (dstOf ops j) v) H') fun ch H' => K (.panic ch) e.bare H'

section
variable {rf : Bool} {P : Program} {ops : Array Oper} {K : AExit → Env → Heap → Prop}

theorem aSched_s : ∀ {plan : List Item} {listed : Array Bool} {M : MemE} {O : Obl} {e : Env} {H : Heap},
    planOK P ops plan listed (M.map (·.1)) = true → (∀ p S, (p, S) ∈ O → (∀ H, S H) ∨ ∃ ep v, (p, ep, v) ∈ M ∧ S = fun H => Yld P ops p ep H v) → Closed ops listed →
    aSched P ops K plan M e H → aAnyL (isEffO P ops) P ops K plan.length O listed e H
  | [], listed, M, O, e, H, hp, hO, hcl, h => ⟨by simpa [planOK] using hp, h⟩
  | .rd i isr :: rest, listed, M, O, e, H, hp, hO, hcl, ⟨v, hy, h⟩ => by
    simp only [planOK, Bool.and_eq_true, Bool.not_eq_true', List.contains_iff_mem] at hp
    obtain ⟨⟨⟨⟨p1, p2⟩, p3⟩, p4⟩, p5⟩ := hp
    obtain ⟨_, oi, hoi, _⟩ := mem_ready.1 p1
    cases isr with
    | true =>
      refine aAnyL_take (S := fun H => Yld P ops i e H v) (v := v) hoi p3 _ _ _ _ _ hcl (Region.free_spec hoi p2) p1 (fun H h => h) hy ?_
      refine aSched_s (M := (i, e, v) :: M) p5 (fun p S hS => ?_) (hcl.set p1) h
      rcases List.mem_cons.1 hS with hS | hS
      · simp only [Prod.mk.injEq] at hS
        obtain ⟨rfl, rfl⟩ := hS
        exact .inr ⟨e, v, by simp, rfl⟩
      · rcases hO p S hS with h1 | ⟨Ep, u, h1, h2⟩
        · exact .inl h1
        · exact .inr ⟨Ep, u, by simp [h1], h2⟩
    | false =>
      have ha : isA P ops i = true := by simpa using p4
      refine aAnyL_take (S := fun _ => True) (v := v) hoi p3 _ _ _ _ _ hcl (Region.free_spec hoi p2) p1 (fun H _ => Yld_a ha hy) trivial ?_
      refine aSched_s (M := M) p5 (fun p S hS => ?_) (hcl.set p1) h
      rcases List.mem_cons.1 hS with hS | hS
      · simp only [Prod.mk.injEq] at hS
        obtain ⟨rfl, rfl⟩ := hS
        exact .inl fun _ => trivial
      · exact hO p S hS
  | .eff j ps :: rest, listed, M, O, e, H, hp, hO, hcl, h => by
    simp only [planOK, Bool.and_eq_true] at hp
    obtain ⟨⟨p1, p2⟩, p3⟩ := hp
    have hr : Region.ready .any ops listed = [j] := by
      split at p1
      · rename_i k hk'
        rw [hk']
        simpa using p1
      · cases p1
    have hjm : j ∈ Region.ready .any ops listed := by rw [hr]; simp
    refine ⟨fun h0 => (by rw [hr] at h0; cases h0), fun i hi => ?_⟩
    rw [hr] at hi
    obtain rfl : i = j := by simpa using hi
    refine ⟨_, _, h, fun u H' ⟨g1, g2⟩ => ⟨fun p S hS => ?_, aSched_s p3 hO (hcl.set hjm) g2⟩, fun _ _ h => h⟩
    rcases hO p S hS with h1 | ⟨Ep, u', h1, h2⟩
    · exact .inr fun _ => h1 _
    · have hpm : p ∈ M.map (·.1) := List.mem_map.2 ⟨_, h1, rfl⟩
      have hpc := List.all_eq_true.1 p2 p hpm
      simp only [Bool.or_eq_true, List.contains_iff_mem] at hpc
      rcases hpc with hpc | hpc
      · refine .inr fun _ => ?_
        rw [h2]
        exact g1 _ h1 (by simpa using hpc)
      · refine .inl ?_
        unfold excused at hpc
        obtain ⟨k, _, hk3⟩ := List.any_eq_true.1 hpc
        simp only [Bool.and_eq_true, Bool.or_eq_true, beq_iff_eq] at hk3
        exact ⟨k, hk3.1.1, hk3.1.2, ancB_s hk3.2⟩

theorem acode_region_plan {id : Nat} {e : Env} {H : Heap} (plan : List Item) (hp : planFor P ops = some plan) (hm : P.follows .mixedOrders = true) (hok : dstsOK ops e.n = true) (h : aSched P ops K plan [] e H) : acode rf P (.region id ops true) K e H := by
  obtain ⟨p1, p2⟩ := planFor_s hp
  refine acode_region_anyL (E := isEffO P ops) hm hok ?_
  have := aSched_s (O := []) p1 (fun p S hS => by cases hS) .none h
  rw [p2] at this
  exact this
end

theorem eget_put {e : Env} {d t : Nat} {v : Value} : eget (e.put (some d) v) t = if t = d then some v else eget e t := rfl
theorem eget_put_none {e : Env} {v : Value} : e.put none v = e := rfl
theorem put_n_eq {e : Env} {d : Option Nat} {v : Value} : (e.put d v).n = e.n := by cases d <;> rfl

theorem acode_reg {rf : Bool} {P : Program} {ops : Array Oper} {K : AExit → Env → Heap → Prop} {id m : Nat} {e : Env} {H : Heap} (hok : dstsOK ops m = true) (hn : e.n = m) (h : aops P ops K (List.range ops.size) e H) : acode rf P (.region id ops false) K e H :=
  acode_region (hn ▸ hok) h

theorem acode_plan {rf : Bool} {P : Program} {ops : Array Oper} {K : AExit → Env → Heap → Prop} {id m : Nat} {e : Env} {H : Heap} {plan : List Item} (hm : P.follows .mixedOrders = true) (hp : planFor P ops = some plan) (hok : dstsOK ops m = true) (hn : e.n = m) (h : aSched P ops K plan [] e H) : acode rf P (.region id ops true) K e H :=
  acode_region_plan plan hp hm (hn ▸ hok) h

/-! ### Operations that leave the heap, one by one -/

section
variable {P : Program} {ops : Array Oper} {i : Nat} {o : Oper} {e : Env} {H : Heap} {v : Value}

theorem yld_lop (ho : ops[i]? = some o) (hg : o.guard = none) (h : ∀ K Kp, K v H → lop P e o H K Kp) : Yld P ops i e H v := by
  intro K Kp hk
  unfold gop
  simp only [ho, hg]
  exact h K Kp hk

theorem yld_a (ho : ops[i]? = some o) (hg : o.guard = none) (hc : cls P o = .a) (h : ∀ K, K v → lopA P e o K) : Yld P ops i e H v :=
  yld_lop ho hg fun K Kp hk => by unfold lop; simp only [hc]; exact h (fun v => K v H) hk

theorem yld_r (ho : ops[i]? = some o) (hg : o.guard = none) (hc : cls P o = .r) (h : ∀ K, K v → lopR P e o H K) : Yld P ops i e H v :=
  yld_lop ho hg fun K Kp hk => by unfold lop; simp only [hc]; exact h (fun v => K v H) hk

theorem ev1_of {x : Operand} {K : Value → Prop} (h : aeval e x = some v) (hk : K v) : ev1 e x K := by unfold ev1; simp only [h]; exact hk

theorem yld_move {x : Operand} (ho : ops[i]? = some o) (hg : o.guard = none) (hop : o.op = .move x) (h : aeval e x = some v) : Yld P ops i e H v :=
  yld_a ho hg (by unfold cls; rw [hop]) fun K hk => by unfold lopA; rw [hop]; exact ev1_of h hk

theorem yld_assign {x : Operand} (ho : ops[i]? = some o) (hg : o.guard = none) (hop : o.op = .assign x) (h : aeval e x = some v) : Yld P ops i e H v :=
  yld_a ho hg (by unfold cls; rw [hop]) fun K hk => by unfold lopA; rw [hop]; exact ev1_of h hk

theorem yld_bin {op : BinOp} {t t' : TypeId} {x y : Operand} {u z : Value} (ho : ops[i]? = some o) (hg : o.guard = none) (hop : o.op = .binOp op t x y t') (hx : aeval e x = some u) (hy : aeval e y = some z)
    (h : ∀ K : Value → Prop, K v → abin P (isC x || isC y) op t u z K) : Yld P ops i e H v :=
  yld_a ho hg (by unfold cls; rw [hop]) fun K hk => by unfold lopA; rw [hop]; exact ev1_of hx (ev1_of hy (h K hk))

theorem yld_idx {t el : TypeId} {x y : Operand} {b off l c s : Nat} {k : IntKind} {n : Int} (ho : ops[i]? = some o) (hg : o.guard = none) (hop : o.op = .indexAddr t x y) (hx : aeval e x = some (.slice (some ⟨b, off, none⟩) l c)) (hy : aeval e y = some (.int k n))
    (hu : P.underlying t = some (.slice el)) (hs : sizeO P el = some s) (h0 : 0 ≤ n) (hl : n < (l : Int)) : Yld P ops i e H (.pointer (some ⟨b, off + n.toNat * s, none⟩)) :=
  yld_a ho hg (by unfold cls; rw [hop]) fun K hk => by
    unfold lopA; rw [hop]
    refine ev1_of hx (ev1_of hy ?_)
    unfold aindexAddr
    simp only [hu, hs]
    exact ⟨⟨h0, hl⟩, hk⟩

theorem yld_load {t : TypeId} {x : Operand} {b off es : Nat} {ro : Bool} {row : List Value} {u : Value} (ho : ops[i]? = some o) (hg : o.guard = none) (hop : o.op = .load t x) (hx : aeval e x = some (.pointer (some ⟨b, off, none⟩))) (hb : H.get b = some (.cells ro es row))
    {d : TypeDesc} (hu : P.underlying t = some d) (ha : isAggD (some d) = false) (hr : row[off]? = some u) (h : ∀ K : Value → Prop, K v → shp1 (some d) u K) : Yld P ops i e H v :=
  yld_r ho hg (by unfold cls; rw [hop]) fun K hk => by
    unfold lopR; rw [hop]
    refine ev1_of hx ?_
    unfold aload
    simp only [hb, hu, ha, hr, Option.isSome_some]
    exact ⟨trivial, h K hk⟩

theorem yld_len {t el : TypeId} {x : Operand} {a : Option Addr} {l c : Nat} {cl : Call} (ho : ops[i]? = some o) (hg : o.guard = none) (hop : o.op = .call cl) (hcl : cl.callee = .builtin .len) (hargs : cl.args.toList = [x]) (hts : cl.argTypes.toList = [t])
    (hx : aeval e x = some (.slice a l c)) (hu : P.underlying t = some (.slice el)) : Yld P ops i e H (.int .i64 l) :=
  yld_a ho hg (by unfold cls; rw [hop]; simp only [hcl, hts, hu]) fun K hk => by
    unfold lopA; rw [hop]
    simp only [hcl, hargs, hts]
    refine ev1_of hx ?_
    unfold alenA
    simp only [hu]
    exact hk

theorem aops_yld {K : AExit → Env → Heap → Prop} {rest : List Nat} (h : Yld P ops i e H v) (k : aops P ops K rest (e.put (dstOf ops i) v) H) : aops P ops K (i :: rest) e H := h _ _ k
end

end Go.Lift
