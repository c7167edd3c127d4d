import Derived.Laws.BytesString
import Derived.Test.YtdmhefbbicadnaaGreatL3
/-! The lifted logic, part 4: numbers, strings, slices, growing. -/
namespace Go.Lift

def ibits (op : BinOp) (k : IntKind) (a b : Int) : Int :=
  match op with
  | .and => k.wrap (BitVec.ofInt k.bits a &&& BitVec.ofInt k.bits b).toNat
  | .or => k.wrap (BitVec.ofInt k.bits a ||| BitVec.ofInt k.bits b).toNat
  | .xor => k.wrap (BitVec.ofInt k.bits a ^^^ BitVec.ofInt k.bits b).toNat
  | _ => k.wrap (BitVec.ofInt k.bits a &&& ~~~BitVec.ofInt k.bits b).toNat

/-- An operator on two values. -/
def abin (P : Program) (cs : Bool) (op : BinOp) (t : TypeId) (x y : Value) (K : Value → Prop) : Prop :=
  match x, y with
  | .int k a, .int k' b =>
    (match op with
    | .shl => 0 ≤ b ∧ K (.int k (k.wrap (a * 2 ^ (min b.toNat k.bits))))
    | .shr => 0 ≤ b ∧ K (.int k (a.fdiv (2 ^ (min b.toNat k.bits))))
    | .add => k = k' ∧ K (.int k (k.wrap (a + b)))
    | .sub => k = k' ∧ K (.int k (k.wrap (a - b)))
    | .mul => k = k' ∧ K (.int k (k.wrap (a * b)))
    | .quo => k = k' ∧ b ≠ 0 ∧ K (.int k (k.wrap (a.tdiv b)))
    | .rem => k = k' ∧ b ≠ 0 ∧ K (.int k (a.tmod b))
    | .and => k = k' ∧ K (.int k (ibits .and k a b))
    | .or => k = k' ∧ K (.int k (ibits .or k a b))
    | .xor => k = k' ∧ K (.int k (ibits .xor k a b))
    | .andNot => k = k' ∧ K (.int k (ibits .andNot k a b))
    | .eql => k = k' ∧ K (.bool (a == b))
    | .neq => k = k' ∧ K (.bool (a != b))
    | .lss => k = k' ∧ K (.bool (decide (a < b)))
    | .leq => k = k' ∧ K (.bool (decide (a ≤ b)))
    | .gtr => k = k' ∧ K (.bool (decide (a > b)))
    | .geq => k = k' ∧ K (.bool (decide (a ≥ b))))
  | .string a, .string b =>
    (match op with
    | .add => ((a.size + b.size : Nat) : Int) ≤ IntKind.i64.max ∧ K (.string (a ++ b))
    | .eql => K (.bool (a.toList == b.toList))
    | .neq => K (.bool (!(a.toList == b.toList)))
    | .lss => K (.bool (Op.bytesLess a.toList b.toList))
    | .leq => K (.bool (Op.bytesLess a.toList b.toList || a.toList == b.toList))
    | .gtr => K (.bool (!(Op.bytesLess a.toList b.toList || a.toList == b.toList)))
    | .geq => K (.bool (!Op.bytesLess a.toList b.toList))
    | _ => False)
  | .bool a, .bool b =>
    (match op, P.underlying t with
    | .eql, some .bool => K (.bool (a == b))
    | .neq, some .bool => K (.bool (!(a == b)))
    | _, _ => False)
  | .pointer none, .pointer b =>
    (match op, P.underlying t with
    | .eql, some (.pointer _) => K (.bool b.isNone)
    | .neq, some (.pointer _) => K (.bool (!b.isNone))
    | _, _ => False)
  | .pointer (some _), .pointer none =>
    (match op, P.underlying t with
    | .eql, some (.pointer _) => K (.bool false)
    | .neq, some (.pointer _) => K (.bool true)
    | _, _ => False)
  | .pointer (some a), .pointer (some b) =>
    (match op, P.underlying t with
    | .eql, some (.pointer u) => ∃ n, (P.info? u).map (·.size) = some (n + 1) ∧ a = b ∧ K (.bool true)
    | .neq, some (.pointer u) => ∃ n, (P.info? u).map (·.size) = some (n + 1) ∧ a = b ∧ K (.bool false)
    | _, _ => False)
  | .nilIface, .nilIface =>
    (match op, P.underlying t with
    | .eql, some (.interface _) => cs = true ∧ K (.bool true)
    | .neq, some (.interface _) => cs = true ∧ K (.bool false)
    | _, _ => False)
  | .nilIface, .iface _ _ | .iface _ _, .nilIface =>
    (match op, P.underlying t with
    | .eql, some (.interface _) => K (.bool false)
    | .neq, some (.interface _) => K (.bool true)
    | _, _ => False)
  | .nilFunc, .nilFunc =>
    (match op, P.underlying t with
    | .eql, some (.func _ _ _) => K (.bool true)
    | .neq, some (.func _ _ _) => K (.bool false)
    | _, _ => False)
  | .nilFunc, .func _ _ _ | .func _ _ _, .nilFunc =>
    (match op, P.underlying t with
    | .eql, some (.func _ _ _) => K (.bool false)
    | .neq, some (.func _ _ _) => K (.bool true)
    | _, _ => False)
  | .slice a _ _, .slice none 0 0 =>
    (match op, P.underlying t with
    | .eql, some (.slice _) => K (.bool a.isNone)
    | .neq, some (.slice _) => K (.bool (!a.isNone))
    | _, _ => False)
  | _, _ => False

def isC : Operand → Bool
  | .const _ => true
  | _ => false

theorem run_equal_of {P : Program} {t : TypeId} {x y : Value} {r : Bool} {w : World} (h : (Op.equalIn (9999 + 1) t x y).run P w = .ok r w) : (Op.equal t x y).run P w = .ok r w := h

set_option maxRecDepth 20000 in
set_option maxHeartbeats 4000000 in
theorem abin_sound {P : Program} {cs : Bool} {op : BinOp} {t : TypeId} {x y x' y' : Value} {ox oy : Operand} {K : Value → Prop} {φ : Phi} (h : abin P cs op t x y K)
    (hcs : cs = true → isC ox = true ∨ isC oy = true) (hx : VR φ x x') (hy : VR φ y y') :
    ∃ u u', (∀ w, (do eqGuard op t ox oy x' y'; binOp op t x' y').run P w = .ok u' w) ∧ K u ∧ VR φ u u' := by
  unfold abin at h
  split at h
  · -- ints
    rename_i k a k' b
    cases hx; cases hy
    have hg : ∀ w, (eqGuard op t ox oy (.int k a) (.int k' b)).run P w = .ok () w := by intro w; unfold eqGuard; cases op <;> rfl
    simp only [Sem.run_bind, hg, Result.andThen_ok]
    cases op <;> simp only at h <;> first
      | (obtain ⟨h1, h2⟩ := h
         refine ⟨_, _, ?_, h2, .int _ _⟩
         simp [binOp, Op.shift, show ¬ b < 0 by omega]; done)
      | (obtain ⟨rfl, h1, h2⟩ := h
         refine ⟨_, _, ?_, h2, .int _ _⟩
         simp [binOp, Op.intDiv, h1]; done)
      | (obtain ⟨rfl, h2⟩ := h
         refine ⟨_, _, ?_, h2, .int _ _⟩
         simp [binOp, Op.intArith, Op.intBits, ibits]; done)
      | (obtain ⟨rfl, h2⟩ := h
         refine ⟨_, _, ?_, h2, .bool _⟩
         simp [binOp, Op.intCmp]; done)
  · -- strings
    rename_i a b
    cases hx; cases hy
    have hg : ∀ w, (eqGuard op t ox oy (.string a) (.string b)).run P w = .ok () w := by intro w; unfold eqGuard; cases op <;> rfl
    simp only [Sem.run_bind, hg, Result.andThen_ok]
    cases op <;> simp only at h <;> first
      | exact h.elim
      | (obtain ⟨h1, h2⟩ := h
         refine ⟨_, _, ?_, h2, .string _⟩
         intro w
         simp only [binOp, Op.stringOp]
         rw [if_neg (by omega)]; rfl)
      | (refine ⟨_, _, ?_, h, .bool _⟩
         simp [binOp, Op.stringOp]; done)
  · -- bools
    rename_i a b
    cases hx; cases hy
    split at h
    · rename_i hu
      refine ⟨_, _, ?_, h, .bool _⟩
      intro w
      have : (Op.equal t (.bool a) (.bool b)).run P w = .ok (a == b) w := run_equal_of (by unfold Op.equalIn; simp [run_underlying_some hu])
      simp [eqGuard, binOp, this]
    · rename_i hu
      refine ⟨_, _, ?_, h, .bool _⟩
      intro w
      have : (Op.equal t (.bool a) (.bool b)).run P w = .ok (a == b) w := run_equal_of (by unfold Op.equalIn; simp [run_underlying_some hu])
      simp [eqGuard, binOp, this]
    · exact h.elim
  · -- nil pointer, pointer
    rename_i b
    cases hx
    split at h
    · rename_i e hu
      cases hy
      · refine ⟨_, _, ?_, h, .bool _⟩
        intro w
        have : (Op.equal t (.pointer none) (.pointer none)).run P w = .ok true w := run_equal_of (by unfold Op.equalIn; simp [run_underlying_some hu])
        simp [eqGuard, binOp, this]
      · refine ⟨_, _, ?_, h, .bool _⟩
        intro w
        rename_i b o i hi
        have : (Op.equal t (.pointer none) (.pointer (some ⟨i.rb, i.off + o, none⟩))).run P w = .ok false w := run_equal_of (by unfold Op.equalIn; simp [run_underlying_some hu])
        simp [eqGuard, binOp, this]
    · rename_i e hu
      cases hy
      · refine ⟨_, _, ?_, h, .bool _⟩
        intro w
        have : (Op.equal t (.pointer none) (.pointer none)).run P w = .ok true w := run_equal_of (by unfold Op.equalIn; simp [run_underlying_some hu])
        simp [eqGuard, binOp, this]
      · refine ⟨_, _, ?_, h, .bool _⟩
        intro w
        rename_i b o i hi
        have : (Op.equal t (.pointer none) (.pointer (some ⟨i.rb, i.off + o, none⟩))).run P w = .ok false w := run_equal_of (by unfold Op.equalIn; simp [run_underlying_some hu])
        simp [eqGuard, binOp, this]
    · exact h.elim
  · -- pointer, nil
    rename_i a
    cases hy
    cases hx
    rename_i b o i hi
    split at h
    · rename_i e hu
      refine ⟨_, _, ?_, h, .bool _⟩
      intro w
      have : (Op.equal t (.pointer (some ⟨i.rb, i.off + o, none⟩)) (.pointer none)).run P w = .ok false w := run_equal_of (by unfold Op.equalIn; simp [run_underlying_some hu])
      simp [eqGuard, binOp, this]
    · rename_i e hu
      refine ⟨_, _, ?_, h, .bool _⟩
      intro w
      have : (Op.equal t (.pointer (some ⟨i.rb, i.off + o, none⟩)) (.pointer none)).run P w = .ok false w := run_equal_of (by unfold Op.equalIn; simp [run_underlying_some hu])
      simp [eqGuard, binOp, this]
    · exact h.elim
  · -- one pointer twice
    rename_i a b
    have key : ∀ (u : TypeId) (n : Nat) (i : BI) (o : Nat), P.underlying t = some (.pointer u) → (P.info? u).map (·.size) = some (n + 1) →
        ∀ w, (Op.equal t (.pointer (some ⟨i.rb, i.off + o, none⟩)) (.pointer (some ⟨i.rb, i.off + o, none⟩))).run P w = .ok true w := by
      intro u n i o hu hn w
      refine run_equal_of ?_
      unfold Op.equalIn
      simp [run_underlying_some hu, run_sizeOf_some hn, sameAddr]
    split at h
    · rename_i u hu
      obtain ⟨n, hn, rfl, h⟩ := h
      cases hx
      rename_i b o i hi
      cases hy
      rename_i j hj
      obtain rfl : i = j := by rw [hi] at hj; exact Option.some.inj hj
      refine ⟨_, _, ?_, h, .bool _⟩
      intro w
      simp [eqGuard, binOp, key u n i o hu hn]
    · rename_i u hu
      obtain ⟨n, hn, rfl, h⟩ := h
      cases hx
      rename_i b o i hi
      cases hy
      rename_i j hj
      obtain rfl : i = j := by rw [hi] at hj; exact Option.some.inj hj
      refine ⟨_, _, ?_, h, .bool _⟩
      intro w
      simp [eqGuard, binOp, key u n i o hu hn]
    · exact h.elim
  · -- nil interfaces
    cases hx; cases hy
    split at h
    · rename_i ms hu
      obtain ⟨hc, h⟩ := h
      refine ⟨_, _, ?_, h, .bool _⟩
      intro w
      have : (Op.equal t .nilIface .nilIface).run P w = .ok true w := run_equal_of (by unfold Op.equalIn; simp [run_underlying_some hu])
      have hg : (eqGuard .eql t ox oy .nilIface .nilIface).run P w = .ok () w := by
        unfold eqGuard
        rcases hcs hc with hh | hh
        · cases ox <;> simp [isC] at hh ⊢
        · cases oy <;> simp [isC] at hh ⊢
      simp [hg, binOp, this]
    · rename_i ms hu
      obtain ⟨hc, h⟩ := h
      refine ⟨_, _, ?_, h, .bool _⟩
      intro w
      have : (Op.equal t .nilIface .nilIface).run P w = .ok true w := run_equal_of (by unfold Op.equalIn; simp [run_underlying_some hu])
      have hg : (eqGuard .neq t ox oy .nilIface .nilIface).run P w = .ok () w := by
        unfold eqGuard
        rcases hcs hc with hh | hh
        · cases ox <;> simp [isC] at hh ⊢
        · cases oy <;> simp [isC] at hh ⊢
      simp [hg, binOp, this]
    · exact h.elim
  · cases hx; cases hy
    split at h
    · rename_i ms hu
      refine ⟨_, _, ?_, h, .bool _⟩
      intro w
      have this : ∀ (tt : TypeId) (u : Value), (Op.equal t .nilIface (.iface tt u)).run P w = .ok false w := fun tt u => run_equal_of (by unfold Op.equalIn; simp [run_underlying_some hu])
      simp [eqGuard, binOp, this]
    · rename_i ms hu
      refine ⟨_, _, ?_, h, .bool _⟩
      intro w
      have this : ∀ (tt : TypeId) (u : Value), (Op.equal t .nilIface (.iface tt u)).run P w = .ok false w := fun tt u => run_equal_of (by unfold Op.equalIn; simp [run_underlying_some hu])
      simp [eqGuard, binOp, this]
    · exact h.elim
  · cases hx; cases hy
    split at h
    · rename_i ms hu
      refine ⟨_, _, ?_, h, .bool _⟩
      intro w
      have this : ∀ (tt : TypeId) (u : Value), (Op.equal t (.iface tt u) .nilIface).run P w = .ok false w := fun tt u => run_equal_of (by unfold Op.equalIn; simp [run_underlying_some hu])
      simp [eqGuard, binOp, this]
    · rename_i ms hu
      refine ⟨_, _, ?_, h, .bool _⟩
      intro w
      have this : ∀ (tt : TypeId) (u : Value), (Op.equal t (.iface tt u) .nilIface).run P w = .ok false w := fun tt u => run_equal_of (by unfold Op.equalIn; simp [run_underlying_some hu])
      simp [eqGuard, binOp, this]
    · exact h.elim
  · cases hx; cases hy
    split at h
    · rename_i hu
      refine ⟨_, _, ?_, h, .bool _⟩
      intro w
      have : (Op.equal t .nilFunc .nilFunc).run P w = .ok true w := run_equal_of (by unfold Op.equalIn; simp [run_underlying_some hu])
      simp [eqGuard, binOp, this]
    · rename_i hu
      refine ⟨_, _, ?_, h, .bool _⟩
      intro w
      have : (Op.equal t .nilFunc .nilFunc).run P w = .ok true w := run_equal_of (by unfold Op.equalIn; simp [run_underlying_some hu])
      simp [eqGuard, binOp, this]
    · exact h.elim
  · cases hx
    have hf : ∃ f u v, y' = .func f u v := by cases hy <;> exact ⟨_, _, _, rfl⟩
    obtain ⟨f, u, v, rfl⟩ := hf
    split at h
    · rename_i hu
      refine ⟨_, _, ?_, h, .bool _⟩
      intro w
      have : (Op.equal t .nilFunc (.func f u v)).run P w = .ok false w := run_equal_of (by unfold Op.equalIn; simp [run_underlying_some hu])
      simp [eqGuard, binOp, this]
    · rename_i hu
      refine ⟨_, _, ?_, h, .bool _⟩
      intro w
      have : (Op.equal t .nilFunc (.func f u v)).run P w = .ok false w := run_equal_of (by unfold Op.equalIn; simp [run_underlying_some hu])
      simp [eqGuard, binOp, this]
    · exact h.elim
  · cases hy
    have hf : ∃ f u v, x' = .func f u v := by cases hx <;> exact ⟨_, _, _, rfl⟩
    obtain ⟨f, u, v, rfl⟩ := hf
    split at h
    · rename_i hu
      refine ⟨_, _, ?_, h, .bool _⟩
      intro w
      have : (Op.equal t (.func f u v) .nilFunc).run P w = .ok false w := run_equal_of (by unfold Op.equalIn; simp [run_underlying_some hu])
      simp [eqGuard, binOp, this]
    · rename_i hu
      refine ⟨_, _, ?_, h, .bool _⟩
      intro w
      have : (Op.equal t (.func f u v) .nilFunc).run P w = .ok false w := run_equal_of (by unfold Op.equalIn; simp [run_underlying_some hu])
      simp [eqGuard, binOp, this]
    · exact h.elim
  · cases hy
    split at h
    · rename_i hu
      refine ⟨_, _, ?_, h, .bool _⟩
      intro w
      have : (Op.equal t x' (.slice none 0 0)).run P w = .ok (match x' with | .slice a _ _ => a.isNone | _ => false) w := by
        cases hx <;> exact run_equal_of (by unfold Op.equalIn; simp [run_underlying_some hu])
      cases hx <;> simp [eqGuard, binOp, this]
    · rename_i hu
      refine ⟨_, _, ?_, h, .bool _⟩
      intro w
      have : (Op.equal t x' (.slice none 0 0)).run P w = .ok (match x' with | .slice a _ _ => a.isNone | _ => false) w := by
        cases hx <;> exact run_equal_of (by unfold Op.equalIn; simp [run_underlying_some hu])
      cases hx <;> simp [eqGuard, binOp, this]
    · exact h.elim
  · exact h.elim

def aun (op : UnOp) (x : Value) (K : Value → Prop) : Prop :=
  match op, x with
  | .not, .bool b => K (.bool (!b))
  | .neg, .int k n => K (.int k (k.wrap (0 - n)))
  | .xor, .int k n => K (.int k (ibits .xor k (if k.signed then -1 else k.max) n))
  | _, _ => False

theorem aun_sound {P : Program} {op : UnOp} {x x' : Value} {K : Value → Prop} {φ : Phi} (h : aun op x K) (hx : VR φ x x') :
    ∃ u u', (∀ w, (Op.unary op x').run P w = .ok u' w) ∧ K u ∧ VR φ u u' := by
  unfold aun at h
  split at h
  · cases hx; exact ⟨_, _, fun _ => rfl, h, .bool _⟩
  · cases hx; exact ⟨_, _, fun _ => rfl, h, .int _ _⟩
  · cases hx; exact ⟨_, _, fun _ => rfl, h, .int _ _⟩
  · exact h.elim

end Go.Lift
