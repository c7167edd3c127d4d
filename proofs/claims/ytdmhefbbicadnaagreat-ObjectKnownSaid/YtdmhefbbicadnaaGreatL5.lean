import Derived.Test.YtdmhefbbicadnaaGreatL4
/-! The lifted logic, part 5: addresses, slices, what is made, append. -/
namespace Go.Lift

/-! ### Addresses and parts -/

def sizeO (P : Program) (t : TypeId) : Option Nat := (P.info? t).map (·.size)

def afieldAddr (P : Program) (s : TypeId) (x : Value) (i : Nat) (K : Value → Prop) : Prop :=
  match x with
  | .pointer (some ⟨b, o, none⟩) =>
    (match P.underlying s with
    | some (.struct fs) => (match fs[i]? with
      | some f => (match sizeO P f.type with
        | some (_ + 1) => K (.pointer (some ⟨b, o + f.offset, none⟩))
        | _ => False)
      | none => False)
    | _ => False)
  | _ => False

theorem afieldAddr_sound {P : Program} {s : TypeId} {x x' : Value} {i : Nat} {K : Value → Prop} {φ : Phi} (h : afieldAddr P s x i K) (hx : VR φ x x') :
    ∃ u u', (∀ w, (Instr.fieldAt s x' i).run P w = .ok u' w) ∧ K u ∧ VR φ u u' := by
  unfold afieldAddr at h
  split at h
  · rename_i b o
    cases hx with
    | ptr _ _ j hj =>
      split at h
      · rename_i fs hu
        split at h
        · rename_i f hf
          split at h
          · rename_i n hn
            refine ⟨_, .pointer (some ⟨j.rb, j.off + (o + f.offset), none⟩), ?_, h, .ptr _ _ j hj⟩
            intro w
            unfold Instr.fieldAt
            simp only [Sem.run_bind, run_underlying_some hu, Result.andThen_ok, hf, Instr.sureAddr, Sem.run_pure, fieldPlace, run_sizeOf_some hn]
            rw [if_neg (by omega)]
            simp [addr_add, Nat.add_assoc]
          · exact h.elim
        · exact h.elim
      · exact h.elim
  · exact h.elim

def aindexAddr (P : Program) (t : TypeId) (x i : Value) (K : Value → Prop) : Prop :=
  match x, i with
  | .slice (some ⟨b, o, none⟩) l _, .int _ n =>
    (match P.underlying t with
    | some (.slice e) => (match sizeO P e with
      | some s => (0 ≤ n ∧ n < (l : Int)) ∧ K (.pointer (some ⟨b, o + n.toNat * s, none⟩))
      | none => False)
    | _ => False)
  | .pointer (some ⟨b, o, none⟩), .int _ n =>
    (match P.underlying t with
    | some (.array l e) => (match sizeO P e with
      | some s => (0 ≤ n ∧ n < (l : Int)) ∧ K (.pointer (some ⟨b, o + n.toNat * s, none⟩))
      | none => False)
    | _ => False)
  | _, _ => False

theorem aindexAddr_sound {P : Program} {t : TypeId} {x x' i i' : Value} {K : Value → Prop} {φ : Phi} (h : aindexAddr P t x i K) (hx : VR φ x x') (hi : VR φ i i') :
    ∃ u u', (∀ w, (Instr.indexAt t x' i').run P w = .ok u' w) ∧ K u ∧ VR φ u u' := by
  unfold aindexAddr at h
  split at h
  · rename_i b o l c k n
    cases hi
    split at h
    · rename_i e hu
      split at h
      · rename_i s hs
        obtain ⟨hb, h⟩ := h
        cases hx with
        | sl _ _ _ _ c' j hj hl ht hz =>
          refine ⟨_, .pointer (some ⟨j.rb, j.off + (o + n.toNat * s), none⟩), ?_, h, .ptr _ _ j hj⟩
          intro w
          unfold Instr.indexAt
          simp only [Sem.run_bind, asIntOf, Sem.run_pure, Result.andThen_ok, run_underlying_some hu]
          rw [if_pos hb]
          simp [run_sizeOf_some hs, addr_add, Nat.add_assoc]
        | nowhere a _ c' hc => omega
      · exact h.elim
    · exact h.elim
  · rename_i b o k n
    cases hi
    split at h
    · rename_i l e hu
      split at h
      · rename_i s hs
        obtain ⟨hb, h⟩ := h
        cases hx with
        | ptr _ _ j hj =>
          refine ⟨_, .pointer (some ⟨j.rb, j.off + (o + n.toNat * s), none⟩), ?_, h, .ptr _ _ j hj⟩
          intro w
          unfold Instr.indexAt
          simp only [Sem.run_bind, asIntOf, Sem.run_pure, Result.andThen_ok, run_underlying_some hu, Instr.sureAddr]
          rw [if_pos hb]
          simp [run_sizeOf_some hs, addr_add, Nat.add_assoc]
      · exact h.elim
    · exact h.elim
  · exact h.elim

def aindex (P : Program) (t : TypeId) (x i : Value) (K : Value → Prop) : Prop :=
  match x, i with
  | .string s, .int _ n =>
    (match P.underlying t with
    | some .string => (match (if 0 ≤ n then s[n.toNat]? else none) with
      | some b => K (.int .u8 b.toNat)
      | none => False)
    | _ => False)
  | _, _ => False

theorem aindex_sound {P : Program} {t : TypeId} {x x' i i' : Value} {K : Value → Prop} {φ : Phi} (h : aindex P t x i K) (hx : VR φ x x') (hi : VR φ i i') :
    ∃ u u', (∀ w, (Instr.index t x' i').run P w = .ok u' w) ∧ K u ∧ VR φ u u' := by
  unfold aindex at h
  split at h
  · rename_i s k n
    cases hi; cases hx
    split at h
    · rename_i hu
      split at h
      · rename_i b hb
        refine ⟨_, _, ?_, h, .int _ _⟩
        intro w
        unfold Instr.index
        simp only [Sem.run_bind, asIntOf, Sem.run_pure, Result.andThen_ok, run_underlying_some hu, hb]
      · exact h.elim
    · exact h.elim
  · exact h.elim

def afield (P : Program) (t : TypeId) (x : Value) (i : Nat) (K : Value → Prop) : Prop :=
  match x with
  | .agg cs => (match P.underlying t with
    | some (.struct fs) => (match fs[i]? with
      | some f => (match isAggD (P.underlying f.type), (P.underlying f.type).isSome, sizeO P f.type with
        | true, _, some s => K (.agg ((cs.toList.drop f.offset).take s).toArray)
        | false, true, _ => (match cs.toList[f.offset]? with
          | some v => K v
          | none => False)
        | _, _, _ => False)
      | none => False)
    | _ => False)
  | _ => False

theorem VRs.drop {φ : Phi} {x x' : List Value} (r : VRs φ x x') (n : Nat) : VRs φ (x.drop n) (x'.drop n) :=
  ⟨by simp [r.1], fun k v e => by rw [List.getElem?_drop] at e ⊢; exact r.2 _ v e⟩

theorem VRs.take {φ : Phi} {x x' : List Value} (r : VRs φ x x') (n : Nat) : VRs φ (x.take n) (x'.take n) :=
  ⟨by simp [r.1], fun k v e => by
    rw [List.getElem?_take] at e ⊢
    split at e
    · rename_i h; rw [if_pos h]; exact r.2 _ v e
    · cases e⟩

theorem afield_sound {P : Program} {t : TypeId} {x x' : Value} {i : Nat} {K : Value → Prop} {φ : Phi} (h : afield P t x i K) (hx : VR φ x x') :
    ∃ u u', (∀ w, (Instr.field t x' i).run P w = .ok u' w) ∧ K u ∧ VR φ u u' := by
  unfold afield at h
  split at h
  · rename_i cs
    cases hx with
    | agg _ cs' hs he =>
      have hc : VRs φ cs.toList cs'.toList := .of_arr hs he
      split at h
      · rename_i fs hu
        split at h
        · rename_i f hf
          split at h
          · rename_i s hagg hsz
            cases hd : P.underlying f.type with
            | none => rw [hd] at hagg; cases hagg
            | some d =>
              rw [hd] at hagg
              refine ⟨_, .agg (cs'.extract f.offset (f.offset + s)), ?_, h, VR.agg_of ?_⟩
              · intro w
                unfold Instr.field
                simp only [Sem.run_bind, run_underlying_some hu, Result.andThen_ok, hf, asAgg, Sem.run_pure, part, run_isAgg hd, hagg, if_true, run_sizeOf_some hsz]
              · have := (hc.drop f.offset).take s
                simpa [Array.toList_extract, List.extract_eq_take_drop] using this
          · rename_i hagg hsome
            cases hd : P.underlying f.type with
            | none => rw [hd] at hsome; cases hsome
            | some d =>
              rw [hd] at hagg
              split at h
              · rename_i v hv
                obtain ⟨v', e, r⟩ := hc.2 _ v hv
                refine ⟨_, v', ?_, h, r⟩
                intro w
                have e' : cs'[f.offset]? = some v' := by simpa using e
                unfold Instr.field
                simp only [Sem.run_bind, run_underlying_some hu, Result.andThen_ok, hf, asAgg, Sem.run_pure, part, run_isAgg hd, hagg, if_false, Bool.false_eq_true, e']
              · exact h.elim
          · exact h.elim
        · exact h.elim
      · exact h.elim
  · exact h.elim

def aextract (x : Value) (i : Nat) (K : Value → Prop) : Prop :=
  match x with
  | .tuple vs => (match vs.toList[i]? with
    | some v => K v
    | none => False)
  | _ => False

theorem aextract_sound {P : Program} {x x' : Value} {i : Nat} {K : Value → Prop} {φ : Phi} (h : aextract x i K) (hx : VR φ x x') :
    ∃ u u', (∀ w, (Instr.extract x' i).run P w = .ok u' w) ∧ K u ∧ VR φ u u' := by
  unfold aextract at h
  split at h
  · cases hx with
    | tuple _ vs' hs he =>
      split at h
      · rename_i v hv
        obtain ⟨v', e, r⟩ := (VRs.of_arr hs he).2 _ v hv
        have e' : vs'[i]? = some v' := by simpa using e
        exact ⟨_, v', fun w => by simp [Instr.extract, e'], h, r⟩
      · exact h.elim
  · exact h.elim

/-! ### Slices of slices, of strings -/

def bnd (x : Option Value) (dflt : Nat) (most : Nat) (K : Nat → Prop) : Prop :=
  match x with
  | none => K dflt
  | some (.int _ n) => (0 ≤ n ∧ n ≤ (most : Int)) ∧ K n.toNat
  | some _ => False

/-- What x[j:h] is. -/
def asl1 (H : Heap) (s : Nat) (a : Option Addr) (l c j h : Nat) (K : Value → Prop) : Prop :=
  match a with
  | none => K (.slice none 0 0)
  | some ⟨b, o, none⟩ =>
    (match decide (j < l) with
    | true => (match H.get b with
      | some (.cells _ es _) => es = s ∧ K (.slice (some ⟨b, o + j * s, none⟩) (h - j) (match decide (c = l ∧ h = l) with | true => h - j | false => h - j + 1))
      | _ => False)
    | false => K (.slice (some ⟨0, 0, none⟩) 0 (match decide (c = l) with | true => 0 | false => 1)))
  | _ => False

/-- What x[j:h:m] is. -/
def asl2 (H : Heap) (s : Nat) (a : Option Addr) (j h m : Nat) (K : Value → Prop) : Prop :=
  match a with
  | none => K (.slice none 0 0)
  | some ⟨b, o, none⟩ =>
    (match decide (j < m) with
    | true => (match H.get b with
      | some (.cells _ es _) => es = s ∧ K (.slice (some ⟨b, o + j * s, none⟩) (h - j) (match decide (m = h) with | true => h - j | false => h - j + 1))
      | _ => False)
    | false => K (.slice (some ⟨0, 0, none⟩) 0 0))
  | _ => False

/-- x[lo:hi:mx] of a slice. -/
def asliceS (P : Program) (H : Heap) (t : TypeId) (a : Option Addr) (l c : Nat) (lo hi mx : Option Value) (K : Value → Prop) : Prop :=
  match P.underlying t with
  | some (.slice e) => (match sizeO P e with
    | some s =>
      (match mx with
      | none => bnd hi l l fun h => bnd lo 0 h fun j => asl1 H s a l c j h K
      | some m => bnd (some m) 0 l fun m => hi.isSome = true ∧ bnd hi 0 m fun h => bnd lo 0 h fun j => asl2 H s a j h m K)
    | none => False)
  | _ => False

theorem HR.es {φ : Phi} {H : Heap} {w : World} (hw : HR φ H w) {b : Nat} {ro : Bool} {es : Nat} {c : List Value} {i : BI} (h : H.get b = some (.cells ro es c)) (hi : φ b = some i) : es = i.es := by
  obtain ⟨i', hi', r⟩ := hw.dom b _ h
  obtain rfl : i = i' := by rw [hi] at hi'; exact Option.some.inj hi'
  obtain ⟨rc, elem, fz, _, _, _, h4⟩ := r
  exact h4.1

theorem asl1_sound {H : Heap} {s : Nat} {a a' : Option Addr} {l c c' j h : Nat} {K : Value → Prop} {φ : Phi} {w : World} (hk : asl1 H s a l c j h K)
    (hx : VR φ (.slice a l c) (.slice a' l c')) (hw : HR φ H w) (hj : j ≤ h) (hh : h ≤ l) :
    ∃ u, K u ∧ VR φ u (.slice (if c' = j then a' else a'.map (·.add (j * s))) (h - j) (c' - j)) := by
  unfold asl1 at hk
  cases hx with
  | nilsl =>
    refine ⟨_, hk, ?_⟩
    obtain rfl : h = 0 := by omega
    obtain rfl : j = 0 := by omega
    exact .nilsl
  | sl b o _ _ _ i hi hl ht hz =>
    simp only at hk
    split at hk
    · rename_i hjl
      have hjl := of_decide_eq_true hjl
      split at hk
      · rename_i ro es cs hb
        obtain ⟨he, hk⟩ := hk
        have hes : s = i.es := he ▸ hw.es hb hi
        refine ⟨_, hk, ?_⟩
        rw [if_neg (by omega)]
        have e : (Option.map (fun x : Addr => x.add (j * s)) (some (⟨i.rb, i.off + o, none⟩ : Addr))) = some (⟨i.rb, i.off + (o + j * s), none⟩ : Addr) := by simp [addr_add, Nat.add_assoc]
        rw [e]
        have hmul : j * s + (c' - j) * i.es = c' * i.es := by rw [hes, ← Nat.add_mul]; congr 1; omega
        refine .sl b (o + j * s) (h - j) _ (c' - j) i hi (by omega) ?_ (by omega)
        split
        · rename_i hd
          have := of_decide_eq_true hd
          intro _
          have := ht this.1
          omega
        · intro h1; omega
      · exact hk.elim
    · rename_i hjl
      have hjl := of_decide_eq_false hjl
      refine ⟨_, hk, ?_⟩
      have e0 : h - j = 0 := by omega
      rw [e0]
      have key : ∀ ad : Addr, VR φ (.slice (some ⟨0, 0, none⟩) 0 (match decide (c = l) with | true => 0 | false => 1)) (.slice (some ad) 0 (c' - j)) := by
        intro ad
        refine .nowhere ad _ _ ?_
        split
        · rename_i hd
          have := ht (of_decide_eq_true hd)
          intro _; omega
        · intro h1; omega
      by_cases hcj : c' = j
      · rw [if_pos hcj]; exact key _
      · rw [if_neg hcj]; exact key _
  | nowhere ad _ _ hc =>
    simp only at hk
    have hjl : decide (j < 0) = false := by simp
    rw [hjl] at hk
    refine ⟨_, hk, ?_⟩
    have e0 : h - j = 0 := by omega
    rw [e0]
    have key : ∀ ad : Addr, VR φ (.slice (some ⟨0, 0, none⟩) 0 (match decide (c = 0) with | true => 0 | false => 1)) (.slice (some ad) 0 (c' - j)) := by
      intro ad
      refine .nowhere ad _ _ ?_
      split
      · rename_i hd
        have := hc (of_decide_eq_true hd)
        intro _; omega
      · intro h1; omega
    by_cases hcj : c' = j
    · rw [if_pos hcj]; exact key _
    · rw [if_neg hcj]; exact key _

theorem asl2_sound {H : Heap} {s : Nat} {a a' : Option Addr} {l c c' j h m : Nat} {K : Value → Prop} {φ : Phi} {w : World} (hk : asl2 H s a j h m K)
    (hx : VR φ (.slice a l c) (.slice a' l c')) (hw : HR φ H w) (hj : j ≤ h) (hh : h ≤ m) (hm : m ≤ l) :
    ∃ u, K u ∧ VR φ u (.slice (if m = j then a' else a'.map (·.add (j * s))) (h - j) (m - j)) := by
  unfold asl2 at hk
  cases hx with
  | nilsl =>
    refine ⟨_, hk, ?_⟩
    obtain rfl : m = 0 := by omega
    obtain rfl : h = 0 := by omega
    obtain rfl : j = 0 := by omega
    exact .nilsl
  | sl b o _ _ _ i hi hl ht hz =>
    simp only at hk
    split at hk
    · rename_i hjl
      have hjl := of_decide_eq_true hjl
      split at hk
      · rename_i ro es cs hb
        obtain ⟨he, hk⟩ := hk
        have hes : s = i.es := he ▸ hw.es hb hi
        refine ⟨_, hk, ?_⟩
        rw [if_neg (by omega)]
        have e : (Option.map (fun x : Addr => x.add (j * s)) (some (⟨i.rb, i.off + o, none⟩ : Addr))) = some (⟨i.rb, i.off + (o + j * s), none⟩ : Addr) := by simp [addr_add, Nat.add_assoc]
        rw [e]
        have hmul : j * s + (m - j) * i.es = m * i.es := by rw [hes, ← Nat.add_mul]; congr 1; omega
        have hmc : m * i.es ≤ c' * i.es := Nat.mul_le_mul_right _ (by omega)
        refine .sl b (o + j * s) (h - j) _ (m - j) i hi (by omega) ?_ (by omega)
        split
        · rename_i hd
          have := of_decide_eq_true hd
          intro _; omega
        · intro h1; omega
      · exact hk.elim
    · rename_i hjl
      have hjl := of_decide_eq_false hjl
      refine ⟨_, hk, ?_⟩
      have e0 : h - j = 0 := by omega
      have e1 : m - j = 0 := by omega
      rw [e0, e1]
      split
      · exact .nowhere _ _ _ fun _ => rfl
      · exact .nowhere _ _ _ fun _ => rfl
  | nowhere ad _ _ hc =>
    simp only at hk
    have hjl : decide (j < m) = false := by simp; omega
    rw [hjl] at hk
    refine ⟨_, hk, ?_⟩
    have e0 : h - j = 0 := by omega
    have e1 : m - j = 0 := by omega
    rw [e0, e1]
    split
    · exact .nowhere _ _ _ fun _ => rfl
    · exact .nowhere _ _ _ fun _ => rfl

theorem bnd_sound {P : Program} {x x' : Option Value} {dflt most most' : Nat} {K : Nat → Prop} {φ : Phi} (h : bnd x dflt most K)
    (hx : ∀ v, x = some v → ∃ v', x' = some v' ∧ VR φ v v') (hn : x = none → x' = none) (hm : most ≤ most') :
    (x = none ∧ x' = none ∧ K dflt) ∨ ∃ k n, x = some (.int k n) ∧ x' = some (.int k n) ∧ 0 ≤ n ∧ n ≤ (most : Int) ∧ K n.toNat ∧
      ∀ code w, (Instr.sliceBound (.int k n) most' code).run P w = .ok n.toNat w := by
  unfold bnd at h
  split at h
  · exact .inl ⟨rfl, hn rfl, h⟩
  · rename_i k n
    obtain ⟨v', e, r⟩ := hx _ rfl
    cases r
    obtain ⟨⟨h1, h2⟩, h3⟩ := h
    refine .inr ⟨k, n, rfl, e, h1, h2, h3, fun code w => ?_⟩
    unfold Instr.sliceBound
    simp only [Sem.run_bind, asIntOf, Sem.run_pure, Result.andThen_ok]
    rw [if_pos ⟨h1, by omega⟩]
    rfl
  · exact h.elim

theorem run_sliceBounds {P : Program} {lo hi mx lo' hi' mx' : Option Value} {len cap : Nat} {K : Nat → Nat → Nat → Prop} {φ : Phi} (hlc : len ≤ cap)
    (hlo : ∀ v, lo = some v → ∃ v', lo' = some v' ∧ VR φ v v') (hlo0 : lo = none → lo' = none)
    (hhi : ∀ v, hi = some v → ∃ v', hi' = some v' ∧ VR φ v v') (hhi0 : hi = none → hi' = none)
    (hmx : ∀ v, mx = some v → ∃ v', mx' = some v' ∧ VR φ v v') (hmx0 : mx = none → mx' = none)
    (h : match mx with
      | none => bnd hi len len fun h => bnd lo 0 h fun j => K j h cap
      | some m => bnd (some m) 0 len fun m => hi.isSome = true ∧ bnd hi 0 m fun h => bnd lo 0 h fun j => K j h m) :
    ∃ j h m, (∀ w, (Instr.sliceBounds true len cap lo' hi' mx').run P w = .ok (j, h, m) w) ∧ j ≤ h ∧ h ≤ len ∧ h ≤ m ∧ (mx = none → m = cap) ∧ (mx ≠ none → m ≤ len) ∧ K j h m := by
  cases mx with
  | none =>
    simp only at h
    have := hmx0 rfl
    subst this
    rcases bnd_sound (P := P) (most' := cap) h hhi hhi0 hlc with ⟨rfl, e2, hk⟩ | ⟨k, n, rfl, e2, n1, n2, hk, hrun⟩
    · subst e2
      rcases bnd_sound (P := P) (most' := len) hk hlo hlo0 (Nat.le_refl _) with ⟨rfl, e3, hk⟩ | ⟨k, n, rfl, e3, m1, m2, hk, hrun2⟩
      · subst e3
        exact ⟨0, len, cap, fun _ => rfl, Nat.zero_le _, Nat.le_refl _, hlc, fun _ => rfl, fun h => absurd rfl h, hk⟩
      · subst e3
        refine ⟨n.toNat, len, cap, ?_, by omega, Nat.le_refl _, hlc, fun _ => rfl, fun h => absurd rfl h, hk⟩
        intro w
        unfold Instr.sliceBounds
        simp [hrun2]
    · subst e2
      rcases bnd_sound (P := P) (most' := n.toNat) hk hlo hlo0 (Nat.le_refl _) with ⟨rfl, e3, hk⟩ | ⟨k2, n2', rfl, e3, m1, m2, hk, hrun2⟩
      · subst e3
        refine ⟨0, n.toNat, cap, ?_, Nat.zero_le _, by omega, by omega, fun _ => rfl, fun h => absurd rfl h, hk⟩
        intro w
        unfold Instr.sliceBounds
        simp [hrun]
      · subst e3
        refine ⟨n2'.toNat, n.toNat, cap, ?_, by omega, by omega, by omega, fun _ => rfl, fun h => absurd rfl h, hk⟩
        intro w
        unfold Instr.sliceBounds
        simp [hrun, hrun2]
  | some mv =>
    simp only at h
    rcases bnd_sound (P := P) (most' := cap) h hmx hmx0 hlc with ⟨hn, _, _⟩ | ⟨k, n, hmv, e2, n1, n2, hk, hrun⟩
    · cases hn
    · subst e2
      obtain ⟨hsome, hk⟩ := hk
      rcases bnd_sound (P := P) (most' := n.toNat) hk hhi hhi0 (Nat.le_refl _) with ⟨rfl, _, _⟩ | ⟨k2, n2', rfl, e3, m1, m2, hk, hrun2⟩
      · cases hsome
      · subst e3
        rcases bnd_sound (P := P) (most' := n2'.toNat) hk hlo hlo0 (Nat.le_refl _) with ⟨rfl, e4, hk⟩ | ⟨k3, n3, rfl, e4, p1, p2, hk, hrun3⟩
        · subst e4
          refine ⟨0, n2'.toNat, n.toNat, ?_, Nat.zero_le _, by omega, by omega, (fun h => by cases h), (fun _ => by omega), hk⟩
          intro w
          unfold Instr.sliceBounds
          simp [hrun, hrun2]
        · subst e4
          refine ⟨n3.toNat, n2'.toNat, n.toNat, ?_, by omega, by omega, by omega, (fun h => by cases h), (fun _ => by omega), hk⟩
          intro w
          unfold Instr.sliceBounds
          simp [hrun, hrun2, hrun3]


theorem asliceS_sound {P : Program} {H : Heap} {t : TypeId} {a : Option Addr} {l c : Nat} {lo hi mx lo' hi' mx' : Option Value} {x' : Value} {K : Value → Prop} {φ : Phi} {w : World}
    (h : asliceS P H t a l c lo hi mx K) (hx : VR φ (.slice a l c) x') (hw : HR φ H w)
    (hlo : ∀ v, lo = some v → ∃ v', lo' = some v' ∧ VR φ v v') (hlo0 : lo = none → lo' = none)
    (hhi : ∀ v, hi = some v → ∃ v', hi' = some v' ∧ VR φ v v') (hhi0 : hi = none → hi' = none)
    (hmx : ∀ v, mx = some v → ∃ v', mx' = some v' ∧ VR φ v v') (hmx0 : mx = none → mx' = none) :
    ∃ u u', (∀ w, (Instr.sliceAt t x' lo' hi' mx').run P w = .ok u' w) ∧ K u ∧ VR φ u u' := by
  unfold asliceS at h
  split at h
  · rename_i e hu
    split at h
    · rename_i s hs
      -- the real slice
      obtain ⟨a', c', rfl, hlc⟩ : ∃ a' c', x' = .slice a' l c' ∧ l ≤ c' := by
        cases hx with
        | nilsl => exact ⟨_, _, rfl, Nat.le_refl _⟩
        | sl b o _ _ c' i hi hl ht hz => exact ⟨_, _, rfl, hl⟩
        | nowhere a _ c' hc => exact ⟨_, _, rfl, Nat.zero_le _⟩
      have fin : ∀ j hh m, (∀ w, (Instr.sliceBounds true l c' lo' hi' mx').run P w = .ok (j, hh, m) w) →
          ∀ w, (Instr.sliceAt t (.slice a' l c') lo' hi' mx').run P w = .ok (.slice (if m = j then a' else a'.map (·.add (j * s))) (hh - j) (m - j)) w := by
        intro j hh m hrun w
        unfold Instr.sliceAt Instr.slice
        simp only [Sem.run_bind, run_underlying_some hu, Result.andThen_ok, hrun, run_sizeOf_some hs, Sem.run_pure]
      cases hm : mx with
      | none =>
        subst hm
        simp only at h
        obtain ⟨j, hh, m, hrun, q1, q2, q3, q4, q5, hk⟩ := run_sliceBounds (P := P) (mx := none) (K := fun j h _ => asl1 H s a l c j h K) hlc hlo hlo0 hhi hhi0 hmx hmx0 h
        obtain rfl := q4 rfl
        obtain ⟨u, k, r⟩ := asl1_sound hk hx hw q1 q2
        exact ⟨u, _, fin j hh m hrun, k, r⟩
      | some mv =>
        subst hm
        simp only at h
        obtain ⟨j, hh, m, hrun, q1, q2, q3, q4, q5, hk⟩ := run_sliceBounds (P := P) (mx := some mv) (K := fun j h m => asl2 H s a j h m K) hlc hlo hlo0 hhi hhi0 hmx hmx0 h
        obtain ⟨u, k, r⟩ := asl2_sound hk hx hw q1 q3 (q5 (by simp))
        exact ⟨u, _, fin j hh m hrun, k, r⟩
    · exact h.elim
  · exact h.elim

end Go.Lift
