import Derived.Calls
import Derived.OrdersHeld
/-! The lifted logic, part 0: abstract heaps, and how they relate to the model's worlds. -/
namespace Go.Lift

/-- Where an abstract block lies: the real block, the offset in it, the real block's cells, the cells of an element. -/
structure BI where
  rb : Nat
  off : Nat
  rsize : Nat
  es : Nat

abbrev Phi := Nat → Option BI

inductive Tr (α : Type) where
  | leaf
  | node (l : Tr α) (v : Option α) (r : Tr α)

def Tr.get {α : Type} : Tr α → Nat → Option α
  | .leaf, _ => none
  | .node l v r, n => match n == 0 with
    | true => v
    | false => match n % 2 == 1 with
      | true => l.get (n / 2)
      | false => r.get (n / 2 - 1)

inductive Blk where
  | cells (ro : Bool) (es : Nat) (c : List Value)
  | map (m : List (Value × Value))
  | loop (n : Nat) (E : Tr Value) (ps : Array Tmp) (asg body : Code) (jump : Option Code)
  | iter

/-- May it be written? -/
def Blk.rw : Blk → Bool
  | .cells ro _ _ => !ro
  | .map _ => true
  | .loop .. => true
  | .iter => true

structure Heap where
  next : Nat
  get : Nat → Option Blk

def Heap.set (H : Heap) (b : Nat) (k : Blk) : Heap := { H with get := fun x => if x = b then some k else H.get x }
def Heap.drop (H : Heap) (b : Nat) : Heap := { H with get := fun x => if x = b then none else H.get x }
def Heap.alloc (H : Heap) (k : Blk) : Heap := { next := H.next + 1, get := fun x => if x = H.next then some k else H.get x }

inductive VR (φ : Phi) : Value → Value → Prop
  | bool (b : Bool) : VR φ (.bool b) (.bool b)
  | int (k : IntKind) (n : Int) : VR φ (.int k n) (.int k n)
  | float (k : FloatKind) (n : Nat) : VR φ (.float k n) (.float k n)
  | string (s : ByteArray) : VR φ (.string s) (.string s)
  | nilptr : VR φ (.pointer none) (.pointer none)
  | ptr (b o : Nat) (i : BI) (h : φ b = some i) : VR φ (.pointer (some ⟨b, o, none⟩)) (.pointer (some ⟨i.rb, i.off + o, none⟩))
  | nilsl : VR φ (.slice none 0 0) (.slice none 0 0)
  | sl (b o l c c' : Nat) (i : BI) (h : φ b = some i) (hl : l ≤ c') (ht : c = l → c' = l) (hs : i.off + o + c' * i.es ≤ i.rsize) :
      VR φ (.slice (some ⟨b, o, none⟩) l c) (.slice (some ⟨i.rb, i.off + o, none⟩) l c')
  | nowhere (a : Addr) (c c' : Nat) (hc : c = 0 → c' = 0) : VR φ (.slice (some ⟨0, 0, none⟩) 0 c) (.slice (some a) 0 c')
  | nilmap : VR φ (.map none) (.map none)
  | map (b : Nat) (i : BI) (h : φ b = some i) : VR φ (.map (some b)) (.map (some i.rb))
  | nilFunc : VR φ .nilFunc .nilFunc
  | func (f : Nat) (x x' y y' : Array Value) (hx : x.size = x'.size) (hy : y.size = y'.size)
      (ex : ∀ j (h : j < x.size) (h' : j < x'.size), VR φ x[j] x'[j]) (ey : ∀ j (h : j < y.size) (h' : j < y'.size), VR φ y[j] y'[j]) :
      VR φ (.func (.func f) x y) (.func (.func f) x' y')
  | yield (l : Nat) (i : BI) (h : φ l = some i) : VR φ (.func (.yield l) #[] #[]) (.func (.yield i.rb) #[] #[])
  | nilIface : VR φ .nilIface .nilIface
  | iface (t : TypeId) (v v' : Value) (h : VR φ v v') : VR φ (.iface t v) (.iface t v')
  | agg (x x' : Array Value) (hx : x.size = x'.size) (ex : ∀ j (h : j < x.size) (h' : j < x'.size), VR φ x[j] x'[j]) : VR φ (.agg x) (.agg x')
  | tuple (x x' : Array Value) (hx : x.size = x'.size) (ex : ∀ j (h : j < x.size) (h' : j < x'.size), VR φ x[j] x'[j]) : VR φ (.tuple x) (.tuple x')

def Phi.le (φ φ' : Phi) : Prop := ∀ b i, φ b = some i → φ' b = some i

theorem Phi.le_refl (φ : Phi) : φ.le φ := fun _ _ h => h
theorem Phi.le_trans {a b c : Phi} (h : a.le b) (h' : b.le c) : a.le c := fun _ _ e => h' _ _ (h _ _ e)

theorem VR.mono {φ φ' : Phi} (h : φ.le φ') {v v' : Value} (r : VR φ v v') : VR φ' v v' := by
  induction r with
  | bool b => exact .bool b
  | int k n => exact .int k n
  | float k n => exact .float k n
  | string s => exact .string s
  | nilptr => exact .nilptr
  | ptr b o i e => exact .ptr b o i (h _ _ e)
  | nilsl => exact .nilsl
  | sl b o l c c' i e hl ht hs => exact .sl b o l c c' i (h _ _ e) hl ht hs
  | nowhere a c c' hc => exact .nowhere a c c' hc
  | nilmap => exact .nilmap
  | map b i e => exact .map b i (h _ _ e)
  | nilFunc => exact .nilFunc
  | func f x x' y y' hx hy _ _ ex ey => exact .func f x x' y y' hx hy ex ey
  | yield l i e => exact .yield l i (h _ _ e)
  | nilIface => exact .nilIface
  | iface t v v' _ e => exact .iface t v v' e
  | agg x x' hx _ ex => exact .agg x x' hx ex
  | tuple x x' hx _ ex => exact .tuple x x' hx ex

/-- Lists of values, pairwise. -/
def VRs (φ : Phi) (x x' : List Value) : Prop := x.length = x'.length ∧ ∀ (k : Nat) (v : Value), x[k]? = some v → ∃ v' : Value, x'[k]? = some v' ∧ VR φ v v'

theorem VRs.mono {φ φ' : Phi} (h : φ.le φ') {x x' : List Value} (r : VRs φ x x') : VRs φ' x x' :=
  ⟨r.1, fun k v e => let ⟨v', e', h'⟩ := r.2 k v e; ⟨v', e', h'.mono h⟩⟩

theorem VRs.nil {φ : Phi} : VRs φ [] [] := ⟨rfl, fun _ _ h => by simp at h⟩

theorem VRs.cons {φ : Phi} {v v' : Value} {x x' : List Value} (h : VR φ v v') (r : VRs φ x x') : VRs φ (v :: x) (v' :: x') := by
  refine ⟨by simp [r.1], fun k u e => ?_⟩
  cases k with
  | zero => simp at e; subst e; exact ⟨v', by simp, h⟩
  | succ k => simp at e; simpa using r.2 k u e

theorem VRs.inv_cons {φ : Phi} {v : Value} {x y : List Value} (r : VRs φ (v :: x) y) : ∃ v' x', y = v' :: x' ∧ VR φ v v' ∧ VRs φ x x' := by
  cases y with
  | nil => have := r.1; simp at this
  | cons v' x' =>
    refine ⟨v', x', rfl, ?_, by have := r.1; simpa using this, fun k u e => ?_⟩
    · obtain ⟨u, hu, h⟩ := r.2 0 v (by simp); simp at hu; subst hu; exact h
    · simpa using r.2 (k + 1) u (by simpa using e)

theorem VRs.inv_nil {φ : Phi} {y : List Value} (r : VRs φ [] y) : y = [] := by
  have := r.1; simp at this; exact List.eq_nil_of_length_eq_zero this.symm

theorem VRs.append {φ : Phi} {a a' b b' : List Value} (h : VRs φ a a') (r : VRs φ b b') : VRs φ (a ++ b) (a' ++ b') := by
  induction a generalizing a' with
  | nil => rw [h.inv_nil]; exact r
  | cons v a ih =>
    obtain ⟨v', x', rfl, hv, hx⟩ := h.inv_cons
    exact .cons hv (ih hx)

theorem VRs.get {φ : Phi} {x x' : List Value} (r : VRs φ x x') {k : Nat} {v : Value} (h : x[k]? = some v) : ∃ v', x'[k]? = some v' ∧ VR φ v v' := r.2 k v h

/-- The array forms of the value relation. -/
theorem VRs.of_arr {φ : Phi} {x x' : Array Value} (hx : x.size = x'.size) (ex : ∀ j (h : j < x.size) (h' : j < x'.size), VR φ x[j] x'[j]) : VRs φ x.toList x'.toList := by
  refine ⟨by simpa using hx, fun k v e => ?_⟩
  have hk : k < x.size := by
    rcases Nat.lt_or_ge k x.size with h | h
    · exact h
    · simp [h] at e
  have hk' : k < x'.size := hx ▸ hk
  refine ⟨x'[k], by simp [hk'], ?_⟩
  have : x[k] = v := by simpa [hk] using e
  exact this ▸ ex k hk hk'

theorem VRs.to_arr {φ : Phi} {x x' : Array Value} (r : VRs φ x.toList x'.toList) : x.size = x'.size ∧ ∀ j (h : j < x.size) (h' : j < x'.size), VR φ x[j] x'[j] := by
  refine ⟨by simpa using r.1, fun j h h' => ?_⟩
  obtain ⟨v', e, hv⟩ := r.2 j x[j] (by simp [h])
  have : x'[j] = v' := by simpa [h'] using e
  exact this ▸ hv

theorem VR.agg_of {φ : Phi} {x x' : Array Value} (r : VRs φ x.toList x'.toList) : VR φ (.agg x) (.agg x') := .agg _ _ r.to_arr.1 r.to_arr.2
theorem VR.tuple_of {φ : Phi} {x x' : Array Value} (r : VRs φ x.toList x'.toList) : VR φ (.tuple x) (.tuple x') := .tuple _ _ r.to_arr.1 r.to_arr.2

theorem VR.cells {φ : Phi} {v v' : Value} (h : VR φ v v') : VRs φ v.cells.toList v'.cells.toList := by
  cases h with
  | agg x x' hx ex => exact .of_arr hx ex
  | _ => exact .cons (by first | assumption | (constructor <;> assumption)) .nil

/-- Two keys of one plain kind, not the same. -/
def keyPW : Value → Value → Prop
  | .int k a, .int k' b => k = k' ∧ a ≠ b
  | .string a, .string b => a ≠ b
  | .bool a, .bool b => a ≠ b
  | _, _ => False

/-- Entries, in the order in which they were born. -/
def MapA (φ : Phi) (m : List (Value × Value)) (es : Array MapEntry) (clock : Nat) : Prop :=
  m.length = es.size ∧
  (∀ (k : Nat) (x : Value × Value), m[k]? = some x → ∃ y : MapEntry, es[k]? = some y ∧ VR φ x.1 y.key ∧ VR φ x.2 y.val) ∧
  (∀ (j : Nat) (y : MapEntry), es[j]? = some y → y.born < clock) ∧ (∀ (j k : Nat) (y z : MapEntry), es[j]? = some y → es[k]? = some z → j < k → y.born < z.born)

/-- Entries, in whatever order. -/
def MapR (φ : Phi) (m : List (Value × Value)) (es : Array MapEntry) (clock : Nat) : Prop :=
  ∃ m0 : List (Value × Value), m0.Perm m ∧ m.Pairwise (fun x y => keyPW x.1 y.1) ∧ MapA φ m0 es clock

theorem MapA.mono {φ φ' : Phi} (h : φ.le φ') {m : List (Value × Value)} {es : Array MapEntry} {clock : Nat} (r : MapA φ m es clock) : MapA φ' m es clock :=
  ⟨r.1, fun k x hx => let ⟨y, e, a, b⟩ := r.2.1 k x hx; ⟨y, e, a.mono h, b.mono h⟩, r.2.2⟩

theorem MapR.mono {φ φ' : Phi} (h : φ.le φ') {m : List (Value × Value)} {es : Array MapEntry} {clock : Nat} (r : MapR φ m es clock) : MapR φ' m es clock :=
  let ⟨m0, a, b, c⟩ := r; ⟨m0, a, b, c.mono h⟩

/-- How a block of the abstract heap stands in a world. -/
def BlkR (φ : Phi) (w : World) (i : BI) : Blk → Prop
  | .cells ro es c => ∃ rc elem fz, w.heap[i.rb]? = some (.cells rc elem fz) ∧ (∀ (k : Nat) (v : Value), c[k]? = some v → ∃ v' : Value, rc[i.off + k]? = some v' ∧ VR φ v v') ∧
      (ro = false → rc.size = i.rsize ∧ i.off + c.length ≤ i.rsize ∧ (fz.1 = fz.2 ∨ i.rsize ≤ fz.1)) ∧ es = i.es ∧ (es = 0 → i.off = 0)
  | .map m => ∃ es clock, w.heap[i.rb]? = some (.map es clock) ∧ MapR φ m es clock
  | .loop n E ps asg body jump => ∃ fn tmps d, w.heap[i.rb]? = some (.loop { state := if jump.isNone then .ready else .done, pending := jump, fn := fn, tmps := tmps, params := ps, assign := asg, body := body, defers := d }) ∧
      tmps.size = n ∧ ∀ t v, E.get t = some v → t < n ∧ VR φ v (tmps.getD t undef)
  | .iter => i.off = 0 ∧ ∃ m s c l, w.heap[i.rb]? = some (.mapIter m s c l)

structure HR (φ : Phi) (H : Heap) (w : World) : Prop where
  zero : φ 0 = none
  pos : 0 < H.next
  fresh : ∀ b i, φ b = some i → b < H.next
  dom : ∀ b k, H.get b = some k → ∃ i, φ b = some i ∧ BlkR φ w i k
  sep : ∀ b b' k k' i i', H.get b = some k → H.get b' = some k' → φ b = some i → φ b' = some i' → b ≠ b' → k.rw = true → i.rb ≠ i'.rb

structure Ext (φ : Phi) (H : Heap) (w : World) (φ' : Phi) (H' : Heap) (w' : World) : Prop where
  phi : φ.le φ'
  size : w.heap.size ≤ w'.heap.size
  kept : ∀ r, r < w.heap.size → (∀ b k i, H.get b = some k → k.rw = true → φ b = some i → i.rb ≠ r) → w'.heap[r]? = w.heap[r]?
  back : ∀ b, b < H.next → φ' b = φ b
  live : ∀ b k i, H'.get b = some k → φ' b = some i → w.heap.size ≤ i.rb ∨ ∃ b0 k0 i0, H.get b0 = some k0 ∧ (k.rw = true → k0.rw = true) ∧ φ b0 = some i0 ∧ i0.rb = i.rb
  ro : ∀ b es c, H.get b = some (.cells true es c) → H'.get b = some (.cells true es c)
  next : H.next ≤ H'.next
  os : w'.os = w.os
  out : w'.output = w.output

theorem Ext.refl (φ : Phi) (H : Heap) (w : World) : Ext φ H w φ H w :=
  ⟨Phi.le_refl _, Nat.le_refl _, fun _ _ _ => rfl, fun _ _ => rfl, fun b k i h1 h3 => .inr ⟨b, k, i, h1, id, h3, rfl⟩, fun _ _ _ h => h, Nat.le_refl _, rfl, rfl⟩

theorem Ext.trans {φ φ1 φ2 : Phi} {H H1 H2 : Heap} {w w1 w2 : World} (a : Ext φ H w φ1 H1 w1) (b : Ext φ1 H1 w1 φ2 H2 w2) : Ext φ H w φ2 H2 w2 where
  phi := Phi.le_trans a.phi b.phi
  size := Nat.le_trans a.size b.size
  kept r hr hn := by
    rw [← a.kept r hr hn]
    refine b.kept r (Nat.lt_of_lt_of_le hr a.size) fun x k i h1 h2 h3 he => ?_
    rcases a.live x k i h1 h3 with h | ⟨b0, k0, i0, g1, g2, g3, g4⟩
    · omega
    · exact hn b0 k0 i0 g1 (g2 h2) g3 (g4.trans he)
  back x hx := by rw [b.back x (Nat.lt_of_lt_of_le hx a.next), a.back x hx]
  live x k i h1 h3 := by
    rcases b.live x k i h1 h3 with h | ⟨b0, k0, i0, g1, g2, g3, g4⟩
    · exact .inl (Nat.le_trans a.size h)
    · rcases a.live b0 k0 i0 g1 g3 with h | ⟨b1, k1, i1, f1, f2, f3, f4⟩
      · exact .inl (g4 ▸ h)
      · exact .inr ⟨b1, k1, i1, f1, fun q => f2 (g2 q), f3, f4.trans g4⟩
  ro x es c h := b.ro x es c (a.ro x es c h)
  next := Nat.le_trans a.next b.next
  os := b.os.trans a.os
  out := b.out.trans a.out

/-- A world that differs in the tape's place alone. -/
theorem HR.drawn {φ : Phi} {H : Heap} {w w' : World} (h : HR φ H w) (hh : w'.heap = w.heap) : HR φ H w' where
  zero := h.zero
  pos := h.pos
  fresh := h.fresh
  dom b k e := by
    obtain ⟨i, hi, r⟩ := h.dom b k e
    refine ⟨i, hi, ?_⟩
    cases k <;> simpa only [BlkR, hh] using r
  sep := h.sep

theorem Ext.drawn {φ : Phi} {H : Heap} {w w' : World} (hh : w'.heap = w.heap) (ho : w'.os = w.os) (hp : w'.output = w.output) : Ext φ H w φ H w' :=
  ⟨Phi.le_refl _, by rw [hh]; exact Nat.le_refl _, fun _ _ _ => by rw [hh], fun _ _ => rfl, fun b k i h1 h3 => .inr ⟨b, k, i, h1, id, h3, rfl⟩, fun _ _ _ h => h, Nat.le_refl _, ho, hp⟩

theorem HR.get_lt {φ : Phi} {H : Heap} {w : World} (h : HR φ H w) {b : Nat} {k : Blk} (e : H.get b = some k) : b < H.next := by
  obtain ⟨i, hi, _⟩ := h.dom b k e
  exact h.fresh b i hi

theorem HR.get_pos {φ : Phi} {H : Heap} {w : World} (h : HR φ H w) {b : Nat} {k : Blk} (e : H.get b = some k) : b ≠ 0 := by
  obtain ⟨i, hi, _⟩ := h.dom b k e
  intro hb
  rw [hb, h.zero] at hi
  cases hi

/-- A cell of an abstract block is a cell of the world. -/
theorem HR.cell {φ : Phi} {H : Heap} {w : World} (h : HR φ H w) {b o : Nat} {ro : Bool} {es : Nat} {c : List Value} {v : Value} {i : BI}
    (e : H.get b = some (.cells ro es c)) (hi : φ b = some i) (hv : c[o]? = some v) : ∃ v', w.cell? ⟨i.rb, i.off + o, none⟩ = some v' ∧ VR φ v v' := by
  obtain ⟨i', hi', rc, elem, fz, h1, h2, _⟩ := h.dom b _ e
  obtain rfl : i = i' := by rw [hi] at hi'; exact Option.some.inj hi'
  obtain ⟨v', e', r⟩ := h2 o v hv
  exact ⟨v', by simp [World.cell?, h1, e'], r⟩

end Go.Lift
