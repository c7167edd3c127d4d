import Derived.Test.YtdmhefbbicadnaaGreatL6
/-! The lifted logic, part 7: make, literals of slices, len, maps, conversions, interfaces. -/
namespace Go.Lift

theorem wrap_i64 {n : Int} (h : -9223372036854775808 ≤ n) (h2 : n < 9223372036854775808) : IntKind.i64.wrap n = n := by
  unfold IntKind.wrap IntKind.bits IntKind.signed
  simp only [Bool.true_and]
  by_cases hn : 0 ≤ n
  · rw [Int.emod_eq_of_lt hn (by simpa using by omega)]
    rw [if_neg (by simp; omega)]
  · have e : n % (2 ^ 64 : Int) = n + 2 ^ 64 := by
      rw [← Int.add_emod_right]
      exact Int.emod_eq_of_lt (by simp; omega) (by simp; omega)
    rw [e, if_pos (by simp; omega)]
    omega

theorem zeroOf_spec {P : Program} {e : TypeId} {es bytes : Nat} {zc : List Value} (hE : elemO P e = some (es, bytes, zc)) :
    ∃ i0 z, P.info? e = some i0 ∧ i0.zero = some z ∧ i0.size = es ∧ i0.bytes = bytes ∧ z.cells.toList = zc ∧ z.cells.size = es := by
  unfold elemO at hE
  split at hE
  case h_2 => cases hE
  rename_i i0 z hi hz0
  split at hE
  case isFalse => cases hE
  rename_i hsz
  simp only [Option.some.injEq, Prod.mk.injEq] at hE
  obtain ⟨rfl, rfl, rfl⟩ := hE
  refine ⟨i0, z, hi, ?_, rfl, rfl, rfl, hsz⟩
  unfold zeroOf at hz0
  rw [hi] at hz0
  simp only [Option.bind_some] at hz0
  cases hzz : i0.zero with
  | none => rw [hzz] at hz0; cases hz0
  | some z' =>
    rw [hzz] at hz0
    simp only at hz0
    split at hz0
    · exact hz0
    · cases hz0

/-- A new row whose slice has no spare room. -/
def arow (es : Nat) (n : Nat) (r : List Value) (H : Heap) (K : Value → Heap → Prop) : Prop :=
  K (.slice (some ⟨H.next, 0, none⟩) n n) (H.alloc (.cells false es r))

theorem arow_sound {es n : Nat} {r r' : List Value} {H : Heap} {K : Value → Heap → Prop} {φ : Phi} {w : World} (e : TypeId) (h : arow es n r H K) (hr : VRs φ r r') (hl : r.length = n * es) (hw : HR φ H w) :
    ∃ u H' φ', K u H' ∧ VR φ' u (.slice (some ⟨w.heap.size, 0, none⟩) n n) ∧ HR φ' H' (w.alloc (.cells r'.toArray e)) ∧ Ext φ H w φ' H' (w.alloc (.cells r'.toArray e)) := by
  obtain ⟨r1, r2⟩ := hw.alloc_cells (c := r) (c' := r') (spare := []) hr false es e (0, 0) (.inl rfl)
  simp only [List.append_nil] at r1 r2
  refine ⟨_, _, _, h, ?_, r1, r2⟩
  have := VR.sl (φ := φ.add H.next ⟨w.heap.size, 0, r'.length, es⟩) H.next 0 n n n ⟨w.heap.size, 0, r'.length, es⟩ (by simp [Phi.add]) (Nat.le_refl _) (fun _ => rfl) (by simp only [← hr.1]; omega)
  simpa using this

def amakeSlice (P : Program) (t : TypeId) (len cap : Value) (H : Heap) (K : Value → Heap → Prop) : Prop :=
  match len, cap with
  | .int _ n, .int _ m =>
    (match P.underlying t with
    | some (.slice e) => (match elemO P e with
      | some (es, bytes, zc) => n = m ∧ 0 ≤ n ∧ fits n.toNat bytes ∧ arow es n.toNat (zrow zc n.toNat) H K
      | none => False)
    | _ => False)
  | _, _ => False

theorem amakeSlice_sound {P : Program} {t : TypeId} {len cap len' cap' : Value} {H : Heap} {K : Value → Heap → Prop} {φ : Phi} {w : World} (h : amakeSlice P t len cap H K) (h1 : VR φ len len') (h2 : VR φ cap cap') (hw : HR φ H w) :
    ∃ u' w', (Instr.makeSlice t len' cap').run P w = .ok u' w' ∧ ∃ u H' φ', K u H' ∧ VR φ' u u' ∧ HR φ' H' w' ∧ Ext φ H w φ' H' w' := by
  unfold amakeSlice at h
  split at h
  · rename_i k1 n k2 m
    cases h1; cases h2
    split at h
    · rename_i e hu
      split at h
      · rename_i es bytes zc hE
        obtain ⟨rfl, hn, ⟨f1, f2, f3⟩, h⟩ := h
        obtain ⟨_, _, _, hzl, hzr⟩ := elemO_spec hE φ w
        obtain ⟨i0, z, hi, hz, rfl, rfl, rfl, hsz⟩ := zeroOf_spec hE
        have hwr : IntKind.i64.wrap n = n := wrap_i64 (by omega) (by omega)
        have hb : ¬ (281474976710656 < (i0.bytes : Int) * n) := by
          have e1 : (i0.bytes : Int) * n = ((n.toNat * i0.bytes : Nat) : Int) := by
            rw [Int.natCast_mul, Int.toNat_of_nonneg hn, Int.mul_comm]
          have e2 : n.toNat * i0.bytes ≤ (2 * n.toNat + 192) * i0.bytes := Nat.mul_le_mul_right _ (by omega)
          omega
        obtain ⟨u, H', φ', k, r1, r2, r3⟩ := arow_sound (r' := zrow z.cells.toList n.toNat) e h (hzr.zrow _) (by rw [zrow_length, Array.length_toList, hsz]) hw
        refine ⟨_, _, ?_, u, H', φ', k, r1, r2, r3⟩
        have hrow : (Array.map (fun x => z.cells[x % z.cells.size]!) (Array.range (n.toNat * i0.size))) = (zrow z.cells.toList n.toNat).toArray := by
          rw [← zeroCells_eq, Builtin.zeroCells, hsz]
        have hn0 : ¬ n < 0 := by omega
        by_cases hz0 : n.toNat = 0 ∨ i0.size = 0
        · have he : n.toNat * i0.size = 0 := by rcases hz0 with h | h <;> simp [h]
          have hr0 : zrow z.cells.toList n.toNat = [] := List.eq_nil_of_length_eq_zero (by rw [zrow_length, Array.length_toList, hsz]; exact he)
          rw [hr0]
          have hr1 : (Array.map (fun _ : Nat => (default : Value)) (Array.range 0)) = #[] := by simp
          simp [Instr.makeSlice, run_underlying_some hu, asInt, asIntOf, typeInfo, hi, hwr, hb, hn0, sizeOf, he, newRow, hr1]
        · have h0c : ¬ n.toNat * i0.size = 0 := by
            intro q
            rcases Nat.mul_eq_zero.1 q with q | q
            · exact hz0 (.inl q)
            · exact hz0 (.inr q)
          simp [Instr.makeSlice, run_underlying_some hu, asInt, asIntOf, typeInfo, hi, hwr, hb, hn0, sizeOf, h0c, zeroValue, hz, newRow, hrow]
      · exact h.elim
    · exact h.elim
  · exact h.elim

def abuildSlice (P : Program) (t : TypeId) (len : Nat) (parts : List (Nat × Value)) (H : Heap) (K : Value → Heap → Prop) : Prop :=
  match P.underlying t with
  | some (.slice e) => (match elemO P e with
    | some (es, _, zc) => len * es ≤ 2 ^ 24 ∧ (match fillL (fun i => some (i * es, es)) (zrow zc len) parts with
      | some r => arow es len r H K
      | none => False)
    | none => False)
  | _ => False

theorem fillL_length {place : Nat → Option (Nat × Nat)} : ∀ {parts : List (Nat × Value)} {c r : List Value}, fillL place c parts = some r → r.length = c.length
  | [], c, r, h => by simp only [fillL, Option.some.injEq] at h; rw [h]
  | (i, v) :: rest, c, r, h => by
    simp only [fillL] at h
    split at h
    · cases h
    · split at h
      · cases h
      · rw [fillL_length h, putL_length]

theorem abuildSlice_sound {P : Program} {t : TypeId} {len : Nat} {parts : List (Nat × Value)} {parts' : Array (Nat × Value)} {H : Heap} {K : Value → Heap → Prop} {φ : Phi} {w : World} (h : abuildSlice P t len parts H K)
    (hl : parts.length = parts'.toList.length) (hp : ∀ (k : Nat) (x : Nat × Value), parts[k]? = some x → ∃ x' : Nat × Value, parts'.toList[k]? = some x' ∧ x'.1 = x.1 ∧ VR φ x.2 x'.2) (hw : HR φ H w) :
    ∃ u' w', (Instr.buildSlice t len parts').run P w = .ok u' w' ∧ ∃ u H' φ', K u H' ∧ VR φ' u u' ∧ HR φ' H' w' ∧ Ext φ H w φ' H' w' := by
  unfold abuildSlice at h
  split at h
  · rename_i e hu
    split at h
    · rename_i es bytes zc hE
      obtain ⟨hsmall, h⟩ := h
      split at h
      · rename_i r hr
        obtain ⟨_, _, _, hzl, hzr⟩ := elemO_spec hE φ w
        obtain ⟨i0, z, hi, hz, rfl, rfl, rfl, hsz⟩ := zeroOf_spec hE
        obtain ⟨r', hr', hvr⟩ := fill_sound (φ := φ) hr (hzr.zrow len) hl hp
        obtain ⟨u, H', φ', k, r1, r2, r3⟩ := arow_sound e h hvr (by rw [fillL_length hr, zrow_length, Array.length_toList, hsz]) hw
        refine ⟨_, _, ?_, u, H', φ', k, r1, r2, r3⟩
        have hrow : (Array.map (fun x => z.cells[x % z.cells.size]!) (Array.range (len * i0.size))) = (zrow z.cells.toList len).toArray := by
          rw [← zeroCells_eq, Builtin.zeroCells, hsz]
        have hns : ¬ (16777216 < len * i0.size) := by omega
        by_cases hz0 : len * i0.size = 0
        · have hr0 : zrow z.cells.toList len = [] := List.eq_nil_of_length_eq_zero (by rw [zrow_length, Array.length_toList, hsz]; exact hz0)
          have hf : Instr.fill (fun i => some (i * i0.size, i0.size)) #[] parts'.toList = some r'.toArray := by rw [hr0] at hr'; exact hr'
          unfold Instr.buildSlice
          simp only [Sem.run_bind, run_underlying_some hu, Result.andThen_ok, sizeOf, typeInfo, run_program, hi, Sem.run_pure]
          rw [if_neg (by omega)]
          simp only [hz0, if_true, Sem.run_bind, Sem.run_pure, Result.andThen_ok]
          have hr1 : (Array.map (fun x => (#[] : Array Value)[x % (#[] : Array Value).size]!) (Array.range 0)) = #[] := by simp
          rw [hr1, hf]
          simp [newRow]
        · unfold Instr.buildSlice
          simp only [Sem.run_bind, run_underlying_some hu, Result.andThen_ok, sizeOf, typeInfo, run_program, hi, Sem.run_pure]
          rw [if_neg (by omega)]
          simp only [hz0, if_false, Sem.run_bind, zeroValue, typeInfo, run_program, hi, hz, Sem.run_pure, Result.andThen_ok]
          rw [hrow, hr']
          simp [newRow]
      · exact h.elim
    · exact h.elim
  · exact h.elim

/-! ### len, cap, min, max -/

def alen (P : Program) (t : TypeId) (x : Value) (H : Heap) (K : Value → Prop) : Prop :=
  match x with
  | .slice _ l _ => (match P.underlying t with | some (.slice _) => K (.int .i64 l) | _ => False)
  | .string s => (match P.underlying t with | some .string => K (.int .i64 s.size) | _ => False)
  | .map none => (match P.underlying t with | some (.map _ _) => K (.int .i64 0) | _ => False)
  | .map (some b) => (match P.underlying t with
    | some (.map _ _) => (match H.get b with | some (.map m) => K (.int .i64 m.length) | _ => False)
    | _ => False)
  | _ => False

theorem HR.map {φ : Phi} {H : Heap} {w : World} (hw : HR φ H w) {b : Nat} {m : List (Value × Value)} {i : BI} (h : H.get b = some (.map m)) (hi : φ b = some i) :
    ∃ es clock, w.heap[i.rb]? = some (.map es clock) ∧ MapR φ m es clock := by
  obtain ⟨i', hi', r⟩ := hw.dom b _ h
  obtain rfl : i = i' := by rw [hi] at hi'; exact Option.some.inj hi'
  exact r

theorem MapR.len {φ : Phi} {m : List (Value × Value)} {es : Array MapEntry} {clock : Nat} (h : MapR φ m es clock) : m.length = es.size := by
  obtain ⟨m0, p, _, q, _⟩ := h
  rw [← p.length_eq, q]

theorem run_getObj {P : Program} {w : World} {r : Nat} {o : Obj} (h : w.heap[r]? = some o) (hc : ∀ c e f, o ≠ .cells c e f) : (getObj r).run P w = .ok o w := by
  simp only [getObj, Sem.run, h]

theorem alen_sound {P : Program} {t rest : TypeId} {x x' : Value} {H : Heap} {K : Value → Prop} {φ : Phi} {w : World} (h : alen P t x H K) (hx : VR φ x x') (hw : HR φ H w) :
    ∃ u u', (Builtin.len_ #[t] rest #[x']).run P w = .ok u' w ∧ K u ∧ VR φ u u' := by
  unfold alen at h
  split at h
  · split at h
    · rename_i e hu
      refine ⟨_, _, ?_, h, .int _ _⟩
      cases hx <;> simp [Builtin.len_, run_underlying_some hu, goInt]
    · exact h.elim
  · split at h
    · rename_i hu
      cases hx
      refine ⟨_, _, ?_, h, .int _ _⟩
      simp [Builtin.len_, run_underlying_some hu, goInt]
    · exact h.elim
  · split at h
    · rename_i hu
      cases hx
      refine ⟨_, _, ?_, h, .int _ _⟩
      simp [Builtin.len_, run_underlying_some hu, goInt]
    · exact h.elim
  · split at h
    · rename_i hu
      cases hx
      rename_i b i hi
      split at h
      · rename_i m hm
        obtain ⟨es, clock, q1, q2⟩ := hw.map hm hi
        refine ⟨_, _, ?_, h, .int _ _⟩
        simp [Builtin.len_, run_underlying_some hu, goInt, run_getObj q1 (by intros; simp), q2.len]
      · exact h.elim
    · exact h.elim
  · exact h.elim

def acap (P : Program) (t : TypeId) (x : Value) (K : Value → Prop) : Prop :=
  match x with
  | .slice _ l c => (match P.underlying t with | some (.slice _) => c = l ∧ K (.int .i64 l) | _ => False)
  | _ => False

theorem acap_sound {P : Program} {t rest : TypeId} {x x' : Value} {K : Value → Prop} {φ : Phi} (h : acap P t x K) (hx : VR φ x x') :
    ∃ u u', (∀ w, (Builtin.cap_ #[t] rest #[x']).run P w = .ok u' w) ∧ K u ∧ VR φ u u' := by
  unfold acap at h
  split at h
  · split at h
    · rename_i e hu
      obtain ⟨rfl, h⟩ := h
      refine ⟨_, _, ?_, h, .int _ _⟩
      intro w
      cases hx with
      | nilsl => simp [Builtin.cap_, run_underlying_some hu, goInt]
      | sl b o _ _ c' i hi hl ht hz => obtain rfl := ht rfl; simp [Builtin.cap_, run_underlying_some hu, goInt]
      | nowhere a _ c' hc => obtain rfl := hc rfl; simp [Builtin.cap_, run_underlying_some hu, goInt]
    · exact h.elim
  · exact h.elim

def amin (x y : Value) (K : Value → Prop) : Prop :=
  match x, y with
  | .int k a, .int _ b => K (.int k (if b < a then b else a))
  | _, _ => False

def amax (x y : Value) (K : Value → Prop) : Prop :=
  match x, y with
  | .int k a, .int _ b => K (.int k (if b > a then b else a))
  | _, _ => False

theorem amin_sound {P : Program} {ts : Array TypeId} {rest : TypeId} {x x' y y' : Value} {K : Value → Prop} {φ : Phi} (h : amin x y K) (hx : VR φ x x') (hy : VR φ y y') :
    ∃ u u', (∀ w, (Builtin.min_ ts rest #[x', y']).run P w = .ok u' w) ∧ K u ∧ VR φ u u' := by
  unfold amin at h
  split at h
  · cases hx; cases hy
    exact ⟨_, _, fun _ => rfl, h, .int _ _⟩
  · exact h.elim

theorem amax_sound {P : Program} {ts : Array TypeId} {rest : TypeId} {x x' y y' : Value} {K : Value → Prop} {φ : Phi} (h : amax x y K) (hx : VR φ x x') (hy : VR φ y y') :
    ∃ u u', (∀ w, (Builtin.max_ ts rest #[x', y']).run P w = .ok u' w) ∧ K u ∧ VR φ u u' := by
  unfold amax at h
  split at h
  · cases hx; cases hy
    exact ⟨_, _, fun _ => rfl, h, .int _ _⟩
  · exact h.elim

/-! ### Maps -/

/-- A key among a map's entries: none where the keys are not of a plain kind. -/
def afind (kd : TypeDesc) (k : Value) : List (Value × Value) → Nat → Option (Option (Nat × Value))
  | [], _ => some none
  | e :: es, i => match Instr.sameNow kd k e.1 with
    | some true => some (some (i, e.2))
    | some false => afind kd k es (i + 1)
    | none => none

theorem sameNow_rel {φ : Phi} {kd : TypeDesc} {a a' b b' : Value} {r : Bool} (h : Instr.sameNow kd a b = some r) (ha : VR φ a a') (hb : VR φ b b') : Instr.sameNow kd a' b' = some r := by
  unfold Instr.sameNow at h
  split at h
  · cases ha; cases hb; exact h
  · cases ha; cases hb; exact h
  · cases ha; cases hb; exact h
  · cases h

theorem afind_sound {φ : Phi} {kd : TypeDesc} {k k' : Value} (hk : VR φ k k') : ∀ {m : List (Value × Value)} {es : List MapEntry} {i : Nat} {r : Option (Nat × Value)}, afind kd k m i = some r →
    m.length = es.length → (∀ (j : Nat) (x : Value × Value), m[j]? = some x → ∃ y : MapEntry, es[j]? = some y ∧ VR φ x.1 y.key ∧ VR φ x.2 y.val) →
    (match r with
    | none => Instr.findNow kd k' es i = some none
    | some (j, v) => ∃ v', Instr.findNow kd k' es i = some (some (j, v')) ∧ VR φ v v' ∧ i ≤ j ∧ j < i + m.length)
  | [], es, i, r, h, hl, _ => by
    have : es = [] := List.eq_nil_of_length_eq_zero (by simpa using hl.symm)
    subst this
    simp only [afind, Option.some.injEq] at h
    subst h
    rfl
  | e :: m, es, i, r, h, hl, hr => by
    cases es with
    | nil => simp at hl
    | cons y es =>
      obtain ⟨y', hy, h1, h2⟩ := hr 0 e (by simp)
      simp at hy
      subst hy
      simp only [afind] at h
      cases hs : Instr.sameNow kd k e.1 with
      | none => rw [hs] at h; cases h
      | some b =>
        rw [hs] at h
        have hs' := sameNow_rel hs hk h1
        cases b with
        | true =>
          simp only [Option.some.injEq] at h
          subst h
          exact ⟨y.val, by simp [Instr.findNow, hs'], h2, Nat.le_refl _, by simp⟩
        | false =>
          simp only at h
          have ih := afind_sound hk (es := es) h (by simpa using hl) (fun j x hx => by simpa using hr (j + 1) x (by simpa using hx))
          cases r with
          | none => simpa [Instr.findNow, hs'] using ih
          | some p =>
            obtain ⟨j, v⟩ := p
            obtain ⟨v', g1, g2, g3, g4⟩ := ih
            exact ⟨v', by simp [Instr.findNow, hs', g1], g2, by omega, by simp; omega⟩

theorem keyPW_symm {a b : Value} (h : keyPW a b) : keyPW b a := by
  cases a <;> cases b <;> simp only [keyPW] at h ⊢
  · exact fun e => h e.symm
  · exact ⟨h.1.symm, fun e => h.2 e.symm⟩
  · exact fun e => h e.symm

theorem now_pw {kd : TypeDesc} {k a b : Value} {r : Bool} (h : Instr.sameNow kd k a = some r) (hp : keyPW a b) : ∃ r', Instr.sameNow kd k b = some r' ∧ (r = true → r' = false) := by
  unfold Instr.sameNow at h
  split at h
  · cases b <;> simp only [keyPW] at hp
    obtain ⟨rfl, hne⟩ := hp
    split at h
    · rename_i hk
      subst hk
      refine ⟨_, if_pos rfl, fun hr => ?_⟩
      subst hr
      simp at h
      subst h
      simpa using hne
    · cases h
  · cases b <;> simp only [keyPW] at hp
    rename_i x y z
    refine ⟨_, rfl, fun hr => ?_⟩
    subst hr
    have h := Option.some.inj h
    cases hxz : (x == z)
    · rfl
    · have h1 : x = y := by
        obtain ⟨x⟩ := x; obtain ⟨y⟩ := y
        have : x = y := Array.eq_of_isEqv x y (by simpa [BEq.beq, ByteArray.beq] using h)
        rw [this]
      have h2 : x = z := by
        obtain ⟨x⟩ := x; obtain ⟨z⟩ := z
        have : x = z := Array.eq_of_isEqv x z (by simpa [BEq.beq, ByteArray.beq] using hxz)
        rw [this]
      exact absurd (h1.symm.trans h2) hp
  · cases b <;> simp only [keyPW] at hp
    refine ⟨_, rfl, fun hr => ?_⟩
    subst hr
    simp at h
    subst h
    simpa using hp
  · cases h

theorem now_false {kd : TypeDesc} {k a : Value} (h : Instr.sameNow kd k a = some false) : keyPW k a := by
  unfold Instr.sameNow at h
  split at h
  · split at h
    · rename_i hk
      simp at h
      exact ⟨hk, h⟩
    · cases h
  · rename_i x y
    intro e
    subst e
    have h := Option.some.inj h
    have : (x == x) = true := by
      show (x.data == x.data) = true
      exact beq_self_eq_true _
    rw [this] at h
    cases h
  · simp at h; exact h
  · cases h

/-- Every key can be told from k. -/
theorem afind_hit {kd : TypeDesc} {k : Value} : ∀ {m : List (Value × Value)} {i j : Nat} {v : Value}, afind kd k m i = some (some (j, v)) →
    i ≤ j ∧ ∃ e, m[j - i]? = some e ∧ Instr.sameNow kd k e.1 = some true ∧ e.2 = v
  | [], i, j, v, h => by simp [afind] at h
  | e :: es, i, j, v, h => by
    simp only [afind] at h
    split at h
    · rename_i hs
      simp only [Option.some.injEq, Prod.mk.injEq] at h
      obtain ⟨rfl, rfl⟩ := h
      exact ⟨Nat.le_refl _, e, by simp, hs, rfl⟩
    · obtain ⟨h1, y, h2, h3⟩ := afind_hit h
      refine ⟨by omega, y, ?_, h3⟩
      rw [show j - i = (j - (i + 1)) + 1 by omega]
      simpa using h2
    · cases h

theorem afind_miss {kd : TypeDesc} {k : Value} : ∀ {m : List (Value × Value)} {i : Nat}, afind kd k m i = some none → ∀ e ∈ m, Instr.sameNow kd k e.1 = some false
  | [], _, _, _, he => by cases he
  | e :: es, i, h, y, hy => by
    simp only [afind] at h
    split at h
    · cases h
    · rename_i hs
      rcases List.mem_cons.1 hy with rfl | hy
      · exact hs
      · exact afind_miss h y hy
    · cases h

theorem afind_of_miss {kd : TypeDesc} {k : Value} : ∀ {m : List (Value × Value)} {i : Nat}, (∀ e ∈ m, Instr.sameNow kd k e.1 = some false) → afind kd k m i = some none
  | [], _, _ => rfl
  | e :: es, i, h => by
    simp only [afind, h e (by simp)]
    exact afind_of_miss fun y hy => h y (by simp [hy])

theorem afind_of_hit {kd : TypeDesc} {k : Value} {e : Value × Value} (he : Instr.sameNow kd k e.1 = some true) : ∀ {m : List (Value × Value)} {i : Nat}, e ∈ m → m.Pairwise (fun x y => keyPW x.1 y.1) →
    ∃ j, i ≤ j ∧ m[j - i]? = some e ∧ afind kd k m i = some (some (j, e.2))
  | [], _, h, _ => by cases h
  | y :: m, i, h, hp => by
    obtain ⟨hp1, hp2⟩ := List.pairwise_cons.1 hp
    rcases List.mem_cons.1 h with rfl | h
    · exact ⟨i, Nat.le_refl _, by simp, by simp [afind, he]⟩
    · obtain ⟨r', h1, h2⟩ := now_pw he (keyPW_symm (hp1 e h))
      rw [h2 rfl] at h1
      obtain ⟨j, q1, q2, q3⟩ := afind_of_hit he (i := i + 1) h hp2
      refine ⟨j, by omega, ?_, by simp [afind, h1, q3]⟩
      rw [show j - i = (j - (i + 1)) + 1 by omega]
      simpa using q2

theorem set_perm {α : Type} : ∀ (l : List α) (i : Nat) (a : α), i < l.length → (l.set i a).Perm (a :: l.eraseIdx i)
  | [], i, a, h => by simp at h
  | x :: l, 0, a, _ => by simp
  | x :: l, i + 1, a, h => by
    simp only [List.set_cons_succ, List.eraseIdx_cons_succ]
    exact ((set_perm l i a (by simpa using h)).cons x).trans (List.Perm.swap _ _ _)

theorem erase_perm {α : Type} : ∀ (l : List α) (i : Nat) (a : α), l[i]? = some a → l.Perm (a :: l.eraseIdx i)
  | [], i, a, h => by simp at h
  | x :: l, 0, a, h => by simp at h; subst h; simp
  | x :: l, i + 1, a, h => by
    simp only [List.eraseIdx_cons_succ]
    exact ((erase_perm l i a (by simpa using h)).cons x).trans (List.Perm.swap _ _ _)

theorem afind_perm {kd : TypeDesc} {k : Value} {m m0 : List (Value × Value)} (hp : m0.Perm m) (hd : m.Pairwise (fun x y => keyPW x.1 y.1)) {r : Option (Nat × Value)} (h : afind kd k m 0 = some r) :
    (match r with
    | none => afind kd k m0 0 = some none
    | some (j, v) => ∃ j0, afind kd k m0 0 = some (some (j0, v)) ∧ ∀ x, (m0.set j0 x).Perm (m.set j x)) := by
  cases r with
  | none => exact afind_of_miss fun e he => afind_miss h e (hp.subset he)
  | some jv =>
    obtain ⟨j, v⟩ := jv
    obtain ⟨_, e, h1, h2, rfl⟩ := afind_hit h
    rw [Nat.sub_zero] at h1
    have hd0 : m0.Pairwise (fun x y => keyPW x.1 y.1) := (hp.pairwise_iff fun {a b} h => keyPW_symm h).2 hd
    obtain ⟨j0, _, q2, q3⟩ := afind_of_hit h2 (i := 0) (hp.symm.subset (List.mem_of_getElem? h1)) hd0
    rw [Nat.sub_zero] at q2
    refine ⟨j0, q3, fun x => ?_⟩
    have e1 := erase_perm m j e h1
    have e0 := erase_perm m0 j0 e q2
    have := (e0.symm.trans (hp.trans e1)).cons_inv
    refine (set_perm m0 j0 x (List.getElem?_eq_some_iff.1 q2).1).trans ((this.cons x).trans (set_perm m j x (List.getElem?_eq_some_iff.1 h1).1).symm)

def plainKey : TypeDesc → Bool
  | .int _ | .string | .bool => true
  | _ => false

theorem run_checkKey {P : Program} {b : Bool} {t : TypeId} {d : TypeDesc} {v : Value} (h : P.underlying t = some d) (hp : plainKey d = true) (w : World) : (Instr.checkKey b 10000 t v).run P w = .ok () w := by
  show (Instr.checkKey b (9999 + 1) t v).run P w = .ok () w
  unfold Instr.checkKey
  rw [Sem.run_bind, run_underlying_some h]
  cases d <;> simp [plainKey] at hp <;> rfl

theorem run_findKey {P : Program} {t : TypeId} {d : TypeDesc} {k : Value} {es : List MapEntry} {r : Option (Nat × Value)} (h : P.underlying t = some d) (hf : Instr.findNow d k es 0 = some r) (w : World) :
    (Instr.findKey t k es).run P w = .ok r w := by
  unfold Instr.findKey
  simp [run_underlying_some h, hf]

def alookup (P : Program) (t : TypeId) (x k : Value) (ok : Bool) (H : Heap) (K : Value → Prop) : Prop :=
  match P.underlying t with
  | some (.map kt et) =>
    (match P.underlying kt with
    | some kd => plainKey kd = true ∧
      (match x with
      | .map none => (match zeroOf P et with
        | some z => K (match ok with | true => .tuple #[z, .bool false] | false => z)
        | none => False)
      | .map (some b) => (match H.get b with
        | some (.map m) => (match afind kd k m 0 with
          | some (some (_, v)) => K (match ok with | true => .tuple #[v, .bool true] | false => v)
          | some none => (match zeroOf P et with
            | some z => K (match ok with | true => .tuple #[z, .bool false] | false => z)
            | none => False)
          | none => False)
        | _ => False)
      | _ => False)
    | none => False)
  | _ => False

theorem VR.pair {φ : Phi} {a a' b b' : Value} (h1 : VR φ a a') (h2 : VR φ b b') : VR φ (.tuple #[a, b]) (.tuple #[a', b']) :=
  .tuple_of (.cons h1 (.cons h2 .nil))

theorem alookup_sound {P : Program} {t : TypeId} {x x' k k' : Value} {ok : Bool} {H : Heap} {K : Value → Prop} {φ : Phi} {w : World} (h : alookup P t x k ok H K) (hx : VR φ x x') (hk : VR φ k k') (hw : HR φ H w) :
    ∃ u u', (∀ w2 : World, (∀ r, x' = .map (some r) → w2.heap[r]? = w.heap[r]?) → (Instr.lookup t x' k' ok).run P w2 = .ok u' w2) ∧ K u ∧ VR φ u u' := by
  unfold alookup at h
  split at h
  · rename_i kt et hu
    split at h
    · rename_i kd hkd
      obtain ⟨hp, h⟩ := h
      split at h
      · cases hx
        split at h
        · rename_i z hz
          have z1 := fun w => (run_zeroValue hz w).1
          have z2 := (run_zeroValue hz w).2
          refine ⟨_, if ok then .tuple #[z, .bool false] else z, ?_, h, ?_⟩
          · intro w2 hw2
            unfold Instr.lookup
            simp [run_underlying_some hu, run_checkKey hkd hp, run_findKey hkd (show Instr.findNow kd k' [] 0 = some none from rfl), z1]
          · cases ok
            · exact VR.refl_cst z2
            · exact VR.pair (VR.refl_cst z2) (.bool _)
        · exact h.elim
      · cases hx
        rename_i b i hi
        split at h
        · rename_i m hm
          obtain ⟨es, clock, q1, m0, hperm, hpw, q2, q3, _⟩ := hw.map hm hi
          have hget : ∀ w2 : World, w2.heap[i.rb]? = w.heap[i.rb]? → (getObj i.rb).run P w2 = .ok (.map es clock) w2 := fun w2 h2 => run_getObj (h2.trans q1) (by intros; simp)
          have q2' : m0.length = es.toList.length := by simpa using q2
          have q3' : ∀ (j : Nat) (x : Value × Value), m0[j]? = some x → ∃ y : MapEntry, es.toList[j]? = some y ∧ VR φ x.1 y.key ∧ VR φ x.2 y.val := fun j x hx => by simpa using q3 j x hx
          split at h
          · rename_i j v hf
            obtain ⟨j0, hf, _⟩ := afind_perm hperm hpw hf
            obtain ⟨v', g1, g2, _⟩ := afind_sound (φ := φ) hk hf q2' q3'
            refine ⟨_, if ok then .tuple #[v', .bool true] else v', ?_, h, ?_⟩
            · intro w2 hw2
              have hget := hget w2 (hw2 _ rfl)
              unfold Instr.lookup
              simp [run_underlying_some hu, hget, run_checkKey hkd hp, run_findKey hkd g1]
            · cases ok
              · exact g2
              · exact VR.pair g2 (.bool _)
          · rename_i hf
            have g1 : Instr.findNow kd k' es.toList 0 = some none := afind_sound (φ := φ) hk (afind_perm hperm hpw hf) q2' q3'
            split at h
            · rename_i z hz
              have z1 := fun w => (run_zeroValue hz w).1
              have z2 := (run_zeroValue hz w).2
              refine ⟨_, if ok then .tuple #[z, .bool false] else z, ?_, h, ?_⟩
              · intro w2 hw2
                have hget := hget w2 (hw2 _ rfl)
                unfold Instr.lookup
                simp [run_underlying_some hu, hget, run_checkKey hkd hp, run_findKey hkd g1, z1]
              · cases ok
                · exact VR.refl_cst z2
                · exact VR.pair (VR.refl_cst z2) (.bool _)
            · exact h.elim
          · exact h.elim
        · exact h.elim
      · exact h.elim
    · exact h.elim
  · exact h.elim

end Go.Lift
