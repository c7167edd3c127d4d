import Derived.Test.YtdmhefbbicadnaaGreatX6
/-! The evaluator, part 7: operations as closures. -/
namespace Go.Lift

noncomputable section
variable {R : Type}

/-- A closure in a box: the kernel keeps what the box comes to. -/
structure Bx (α : Type) where
  f : α

def kidx (k : IntKind) : Nat := IntKind.rec (motive := fun _ => Nat) 0 1 2 3 4 5 6 7 k
def keq (k k' : IntKind) : Bool := Nat.beq (kidx k) (kidx k')
theorem keq_s {k k' : IntKind} (h : keq k k' = true) : k = k' := by
  cases k <;> cases k' <;> first | rfl | (exact absurd h (by decide))

def fwrap (k : IntKind) (n : Int) : Int :=
  match k with
  | .i64 => (match n with
    | .ofNat a => cond (Nat.blt a 9223372036854775808) (.ofNat a) (IntKind.i64.wrap n)
    | .negSucc a => cond (Nat.blt a 9223372036854775808) (.negSucc a) (IntKind.i64.wrap n))
  | .u8 => (match n with | .ofNat a => .ofNat (a % 256) | .negSucc _ => IntKind.u8.wrap n)
  | .u16 => (match n with | .ofNat a => .ofNat (a % 65536) | .negSucc _ => IntKind.u16.wrap n)
  | .u32 => (match n with | .ofNat a => .ofNat (a % 4294967296) | .negSucc _ => IntKind.u32.wrap n)
  | .u64 => (match n with | .ofNat a => .ofNat (a % 18446744073709551616) | .negSucc _ => IntKind.u64.wrap n)
  | k => k.wrap n

theorem cond_same {c : Bool} {x y : Int} (h : c = true → x = y) : cond c x y = y := by
  cases c with
  | false => rfl
  | true => exact h rfl

theorem blt_s {a C : Nat} (hb : Nat.blt a C = true) : a < C := by rw [Nat.blt_eq] at hb; exact hb
theorem wrap_pos {a : Nat} (h : a < 9223372036854775808) : Int.ofNat a = IntKind.i64.wrap (.ofNat a) :=
  (wrap_i64 (by simp only [Int.ofNat_eq_natCast]; omega) (by simp only [Int.ofNat_eq_natCast]; omega)).symm
theorem wrap_neg {a : Nat} (h : a < 9223372036854775808) : Int.negSucc a = IntKind.i64.wrap (.negSucc a) := (wrap_i64 (by omega) (by omega)).symm

theorem fwrap_i64 : ∀ n : Int, fwrap .i64 n = IntKind.i64.wrap n
  | .ofNat _ => cond_same fun hb => wrap_pos (blt_s hb)
  | .negSucc _ => cond_same fun hb => wrap_neg (blt_s hb)

theorem fwrap_u (k : IntKind) (hk : k.signed = false) (a : Nat) : k.wrap (.ofNat a) = .ofNat (a % 2 ^ k.bits) := by
  unfold IntKind.wrap
  simp only [hk, Bool.false_and, Bool.false_eq_true, if_false, Int.ofNat_eq_natCast, Int.natCast_emod, Int.natCast_pow]
  rfl

theorem fwrap_eq (k : IntKind) (n : Int) : fwrap k n = k.wrap n := by
  cases k
  case i64 => exact fwrap_i64 n
  case u8 => cases n with
    | ofNat a => exact (fwrap_u .u8 rfl a).symm
    | negSucc a => unfold fwrap; simp only
  case u16 => cases n with
    | ofNat a => exact (fwrap_u .u16 rfl a).symm
    | negSucc a => unfold fwrap; simp only
  case u32 => cases n with
    | ofNat a => exact (fwrap_u .u32 rfl a).symm
    | negSucc a => unfold fwrap; simp only
  case u64 => cases n with
    | ofNat a => exact (fwrap_u .u64 rfl a).symm
    | negSucc a => unfold fwrap; simp only
  all_goals (unfold fwrap; simp only)

def flt (a b : Int) : Bool :=
  match a with
  | .ofNat x => (match b with | .ofNat y => Nat.blt x y | .negSucc _ => false)
  | .negSucc x => (match b with | .ofNat _ => true | .negSucc y => Nat.blt y x)

theorem flt_eq (a b : Int) : flt a b = decide (a < b) := by
  have hb : ∀ x y : Nat, Nat.blt x y = decide (x < y) := fun x y => by
    rw [Bool.eq_iff_iff]; simp [Nat.blt_eq]
  cases a with
  | ofNat x =>
    cases b with
    | ofNat y =>
      show Nat.blt x y = _
      rw [hb]; simp only [Int.ofNat_eq_natCast, decide_eq_decide]; omega
    | negSucc y =>
      show false = _
      symm; simp only [Int.ofNat_eq_natCast, decide_eq_false_iff_not]; omega
  | negSucc x =>
    cases b with
    | ofNat y =>
      show true = _
      symm; simp only [Int.ofNat_eq_natCast, decide_eq_true_eq]; omega
    | negSucc y =>
      show Nat.blt y x = _
      rw [hb]; simp only [decide_eq_decide]; omega

def feq (a b : Int) : Bool :=
  match a with
  | .ofNat x => (match b with | .ofNat y => Nat.beq x y | .negSucc _ => false)
  | .negSucc x => (match b with | .ofNat _ => false | .negSucc y => Nat.beq x y)

theorem feq_eq (a b : Int) : feq a b = (a == b) := by
  have hb : ∀ x y : Nat, Nat.beq x y = decide (x = y) := fun x y => by
    rw [Bool.eq_iff_iff]; simp [Nat.beq_eq]
  have hd : (a == b) = decide (a = b) := by rw [Bool.eq_iff_iff]; simp
  rw [hd]
  cases a with
  | ofNat x =>
    cases b with
    | ofNat y =>
      show Nat.beq x y = _
      rw [hb]; simp only [Int.ofNat_eq_natCast, decide_eq_decide]; omega
    | negSucc y =>
      show false = _
      symm; simp
  | negSucc x =>
    cases b with
    | ofNat y =>
      show false = _
      symm; simp
    | negSucc y =>
      show Nat.beq x y = _
      rw [hb]; simp only [decide_eq_decide]; omega

/-- Two integers: what comes of them. -/
def fint (op : BinOp) : Option (IntKind → Int → Int → Value) :=
  match op with
  | .add => some fun k a b => .int k (fwrap k (a + b))
  | .sub => some fun k a b => .int k (fwrap k (a - b))
  | .mul => some fun k a b => .int k (fwrap k (a * b))
  | .eql => some fun _ a b => .bool (feq a b)
  | .neq => some fun _ a b => .bool (!(feq a b))
  | .lss => some fun _ a b => .bool (flt a b)
  | .leq => some fun _ a b => .bool (!(flt b a))
  | .gtr => some fun _ a b => .bool (flt b a)
  | .geq => some fun _ a b => .bool (!(flt a b))
  | _ => none

theorem fint_s {P : Program} {cs : Bool} {op : BinOp} {t : TypeId} {f : IntKind → Int → Int → Value} (h : fint op = some f) (k k' : IntKind) (a b : Int) (K : Value → Option R) (hk : keq k k' = true) :
    xbin P cs op t (.int k a) (.int k' b) K = K (f k a b) := by
  obtain rfl := keq_s hk
  have hle : ∀ a b : Int, (!(flt b a)) = decide (a ≤ b) := fun a b => by
    rw [flt_eq]
    by_cases h : b < a
    · have : ¬ a ≤ b := by omega
      simp [h, this]
    · have : a ≤ b := by omega
      simp [h, this]
  cases op
  case add => obtain rfl := Option.some.inj h; simp [xbin, fwrap_eq]
  case sub => obtain rfl := Option.some.inj h; simp [xbin, fwrap_eq]
  case mul => obtain rfl := Option.some.inj h; simp [xbin, fwrap_eq]
  case eql => obtain rfl := Option.some.inj h; simp [xbin, feq_eq]
  case neq => obtain rfl := Option.some.inj h; simp [xbin, feq_eq, bne]
  case lss => obtain rfl := Option.some.inj h; simp [xbin, flt_eq]
  case leq =>
    obtain rfl := Option.some.inj h
    show (if k = k then K (.bool (decide (a ≤ b))) else none) = _
    rw [if_pos rfl, ← hle]
  case gtr => obtain rfl := Option.some.inj h; simp [xbin, flt_eq]
  case geq =>
    obtain rfl := Option.some.inj h
    show (if k = k then K (.bool (decide (b ≤ a))) else none) = _
    rw [if_pos rfl, ← hle]
  all_goals cases h

/-! ### Operands -/

def fev (x : Operand) : Bx (Tr Value → (Value → Option R) → Option R) :=
  match x with
  | .tmp t => ⟨fun E K => (match tget t E with | some v => K v | none => none)⟩
  | .const v => (match cst v with | true => ⟨fun _ K => K v⟩ | false => ⟨fun _ _ => none⟩)
  | .func f => ⟨fun _ K => K (.func (.func f) #[] #[])⟩
  | .global _ => ⟨fun _ _ => none⟩

theorem fev_eq (x : Operand) (E : Tr Value) (K : Value → Option R) : (fev x).f E K = xev1 E x K := by
  unfold fev xev1 xeval
  cases x with
  | tmp t => simp only [tget_eq]; rfl
  | const v => simp only; cases cst v <;> rfl
  | func f => rfl
  | global g => rfl

/-! ### Operations -/

def fshp1 (d : Option TypeDesc) : Bx (Value → (Value → Option R) → Option R) :=
  match d with
  | some (.int k) => ⟨fun v K => (match v with | .int k' n => cond (keq k k') (K (.int k n)) none | _ => none)⟩
  | some .bool => ⟨fun v K => (match v with | .bool b => K (.bool b) | _ => none)⟩
  | some .string => ⟨fun v K => (match v with | .string s => K (.string s) | _ => none)⟩
  | some (.pointer _) => ⟨fun v K => (match v with | .pointer a => K (.pointer a) | _ => none)⟩
  | some (.slice _) => ⟨fun v K => (match v with | .slice a l c => K (.slice a l c) | _ => none)⟩
  | some (.map _ _) => ⟨fun v K => (match v with | .map r => K (.map r) | _ => none)⟩
  | _ => ⟨fun v K => K v⟩

theorem fshp1_s {d : Option TypeDesc} {v : Value} {K : Value → Option R} {r : R} (h : (fshp1 d).f v K = some r) : xshp1 d v K = some r := by
  unfold fshp1 at h
  unfold xshp1
  split at h <;> dsimp only at h
  · split at h
    · rename_i k _ k' n
      cases hk : keq k k' with
      | false => rw [hk] at h; cases h
      | true => rw [hk] at h; simp only [keq_s hk, if_true]; exact (keq_s hk) ▸ h
    · cases h
  all_goals first
    | exact h
    | (split at h <;> first | (cases h; done) | exact h)
    | (split <;> simp_all)

def fload (P : Program) (t : TypeId) : Bx (Value → VS → (Value → Option R) → Option R) :=
  match isAggD (P.underlying t), (P.underlying t).isSome with
  | false, true => ⟨fun a T K => (match a with
    | .pointer (some ⟨b, o, none⟩) => (match tget b T.tr with
      | some (.cells _ _ c) => (match nth c o with
        | some v => (fshp1 (P.underlying t)).f v K
        | none => none)
      | _ => none)
    | _ => none)⟩
  | _, _ => ⟨fun a T K => xload P t a T K⟩

theorem fload_s {P : Program} {t : TypeId} {a : Value} {T : VS} {K : Value → Option R} {r : R} (h : (fload P t).f a T K = some r) : xload P t a T K = some r := by
  unfold fload at h
  cases h1 : isAggD (P.underlying t) <;> cases h2 : (P.underlying t).isSome <;> simp only [h1, h2] at h
  case false.true =>
    unfold xload
    split at h
    · simp only [VS.get]
      rw [tget_eq] at h
      split at h
      · rename_i h3
        simp only [h3, h1, h2, if_true]
        rw [nth_eq] at h
        split at h
        · rename_i h4
          simp only [h4]
          exact fshp1_s h
        · cases h
      · cases h
    · cases h
  all_goals exact h

def fstore (P : Program) (t : TypeId) : Bx (Value → Value → VS → (VS → Option R) → Option R) :=
  match decide ((P.info? t).map (·.size) = some 1) with
  | true => ⟨fun a v T K => (match a with
    | .pointer (some ⟨b, o, none⟩) => (match tget b T.tr with
      | some (.cells ro es c) => (match ro with
        | false => (match v with
          | .agg cs => xstore P t a (.agg cs) T K
          | .tuple cs => xstore P t a (.tuple cs) T K
          | v => (match putN v c o with
            | some c' => K ⟨T.next, tset (some (.cells false es c')) b T.tr⟩
            | none => none))
        | true => none)
      | _ => none)
    | _ => none)⟩
  | false => ⟨fun a v T K => xstore P t a v T K⟩

theorem oneCell_of {v : Value} (h : ∀ cs, v = .agg cs → False) (h2 : ∀ cs, v = .tuple cs → False) : v.cells = #[v] ∧ v.oneCell' = true := by
  cases v <;> first | exact ⟨rfl, rfl⟩ | exact (h _ rfl).elim | exact (h2 _ rfl).elim

end

end Go.Lift
