import Derived.Test.YtdmhefbbicadnaaGreatX4
/-! The evaluator, part 5: code and calls. -/
namespace Go.Lift

/-- A loop that stands at the head of its round. -/
def LoopA (rf : Bool) (P : Program) (c : Code) (K : AExit → Env → Heap → Prop) (e : Env) (H : Heap) : Prop :=
  ∀ F, WF F → (rf = true → F.round = none) → ∀ φ a w, ARel φ e a → HR φ H w → ∀ (b : Frame) (k : List Go.Item) (cs : List Frame), b.roundOf = F.round → F.fn b.fn → F.room (cs.length + 1 + 0) → ∃ ex' a' w', APost rf φ H w a K ex' a' w' ∧
    ArrivesIn (Machine.fenced P F) P (lone (b.atR a (.code c :: .inLoop c :: k)) cs w) b k cs ex' a' w'

theorem acode_of_LoopA {rf : Bool} {P : Program} {c : Code} {K : AExit → Env → Heap → Prop} {e : Env} {H : Heap} (h : LoopA rf P c K e H) : acode rf P (.loop c) K e H :=
  fun F hF hrf φ a w ha hw b k cs hro hb hr => let ⟨ex', a', w', hq, harr⟩ := h F hF hrf φ a w ha hw b k cs hro hb hr; ⟨ex', a', w', hq, .of_steps (.one (fenced_calm hb hr rfl) stepR_loop) harr⟩

def againK (rf : Bool) (P : Program) (c : Code) (K : AExit → Env → Heap → Prop) : AExit → Env → Heap → Prop
  | .normal, e, H => LoopA rf P c K e H
  | ex, e, H => K ex e H

theorem LoopA_of {rf : Bool} {P : Program} {c : Code} {K : AExit → Env → Heap → Prop} {e : Env} {H : Heap} (h : acode rf P c (againK rf P c K) e H) : LoopA rf P c K e H := by
  intro F hF hrf φ a w ha hw b k cs hro hb hr
  obtain ⟨ex', a', w', ⟨ex, e', H', φ', kk, r1, r2, r4, r5, r6, r7⟩, harr⟩ := h F hF hrf φ a w ha hw b (.inLoop c :: k) cs hro hb hr
  cases ex with
  | normal =>
    cases ex' <;> simp only [XR] at r1
    obtain ⟨ex2', a2, w2, ⟨ex2, e2, H2, φ2, k2, s1, s2, s4, s5, s6, s7⟩, harr2⟩ := kk F hF hrf φ' a' w' r2 r4 b k cs hro hb hr
    exact ⟨ex2', a2, w2, ⟨ex2, e2, H2, φ2, k2, s1, s2, s4, r5.trans s5, r6.trans r4 r5.size s5 s6, s7.trans r7⟩, .of_steps (StepsIn.trans harr (.one (fenced_calm hb hr rfl) stepR_inLoop)) harr2⟩
  | exit id =>
    cases ex' <;> simp only [XR] at r1
    subst r1
    exact ⟨.exit id, a', w', ⟨.exit id, e', H', φ', kk, rfl, r2, r4, r5, r6, r7⟩, .pass (x := .inLoop c) rfl (fun _ _ => .inl (by simp)) harr⟩
  | ret =>
    cases ex' <;> simp only [XR] at r1
    exact ⟨.ret, a', w', ⟨.ret, e', H', φ', kk, trivial, r2, r4, r5, r6, r7⟩, .pass (x := .inLoop c) rfl (fun _ _ => .inl (by simp)) harr⟩
  | panic ch =>
    cases ex' with
    | panic ch' => exact ⟨.panic ch', a', w', ⟨.panic ch, e', H', φ', kk, r1, r2, r4, r5, r6, r7⟩, .pass (x := .inLoop c) rfl (fun _ _ => .inl (by simp)) harr⟩
    | _ => simp only [XR] at r1

/-! ### Arguments and results -/

def veL : List Value → Nat → Tr Value → Tr Value
  | [], _, t => t
  | v :: vs, i, t => veL vs (i + 1) (t.set i (some v))

theorem veL_get : ∀ (l : List Value) (i : Nat) (t : Tr Value) (m : Nat), (veL l i t).get m = if i ≤ m ∧ m < i + l.length then l[m - i]? else t.get m
  | [], i, t, m => by
    have : ¬ (i ≤ m ∧ m < i) := by omega
    simp [veL, this]
  | v :: vs, i, t, m => by
    rw [veL, veL_get vs (i + 1), Tr.get_set]
    by_cases h0 : m = i
    · subst h0
      have h1 : ¬ (m + 1 ≤ m ∧ m < m + 1 + vs.length) := by omega
      simp [h1]
    · by_cases h1 : i + 1 ≤ m ∧ m < i + 1 + vs.length
      · have h2 : i ≤ m ∧ m < i + (vs.length + 1) := by omega
        obtain ⟨d, hd⟩ : ∃ d, m - i = d + 1 := ⟨m - i - 1, by omega⟩
        have h3 : m - (i + 1) = d := by omega
        simp [h1, h2, hd, h3]
      · have h2 : ¬ (i ≤ m ∧ m < i + (vs.length + 1)) := by omega
        simp [h0, h1, h2]

def veOf (args : List Value) : Tr Value := veL args 0 .leaf

theorem veOf_den (args : List Value) (n : Nat) : eden n (veOf args) = envOf args n := by
  simp only [veOf, eden, envOf, Env.mk.injEq, true_and]
  funext m
  rw [veL_get]
  by_cases h : m < args.length
  · simp [h]
  · simp [h, Tr.get_leaf]

section
variable {R : Type}

def xres1 (P : Program) (E : Tr Value) (T : VS) (x : ResultVar) (K : Value → Option R) : Option R :=
  match x with
  | .tmp t => (match E.get t with | some v => K v | none => none)
  | .cell a t => (match E.get a with | some v => xload P t v T K | none => none)

def xresL (P : Program) (E : Tr Value) (T : VS) : List ResultVar → (List Value → Option R) → Option R
  | [], K => K []
  | x :: xs, K => xres1 P E T x fun v => xresL P E T xs fun vs => K (v :: vs)

def xres (P : Program) (fn : Func) (E : Tr Value) (T : VS) (K : Value → Option R) : Option R :=
  xresL P E T fn.results.toList fun l => match l with
    | [v] => K v
    | l => K (.tuple l.toArray)
end

section
variable {N : Nat} {R : Type} {r : R} {P : Program} {E : Tr Value} {T : VS}

theorem xres1_s {x : ResultVar} {K : Value → Option R} {K' : Value → Prop} (h : xres1 P E T x K = some r) (hk : ∀ u, K u = some r → K' u) : ares1 P (eden N E) T.den x K' := by
  unfold xres1 at h
  unfold ares1
  cases x with
  | tmp t =>
    simp only at h ⊢
    have he : eget (eden N E) t = E.get t := rfl
    rw [he]
    split at h
    · rename_i h1
      simp only [h1]
      exact hk _ h
    · cases h
  | cell t ty =>
    simp only at h ⊢
    have he : eget (eden N E) t = E.get t := rfl
    rw [he]
    split at h
    · rename_i h1
      simp only [h1]
      exact xload_s h hk
    · cases h

theorem xresL_s : ∀ {xs : List ResultVar} {K : List Value → Option R} {K' : List Value → Prop} (_ : xresL P E T xs K = some r) (_ : ∀ u, K u = some r → K' u), aresL P (eden N E) T.den xs K'
  | [], _, _, h, hk => hk _ h
  | _ :: xs, K, _, h, hk => xres1_s (K := fun v => xresL P E T xs fun vs => K (v :: vs)) h fun _ hv => xresL_s hv fun _ h => hk _ h

theorem xres_s {fn : Func} {K : Value → Option R} {K' : Value → Prop} (h : xres P fn E T K = some r) (hk : ∀ u, K u = some r → K' u) : ares P fn (eden N E) T.den K' := by
  refine xresL_s h fun l hl => ?_
  split at hl
  · exact hk _ hl
  · split
    · rename_i hne
      exact (hne _ rfl).elim
    · exact hk _ hl
end

/-! ### Code -/

def regionsOK (n : Nat) : Code → Bool
  | .region _ ops _ => dstsOK ops n
  | .seq x y => regionsOK n x && regionsOK n y
  | .cond _ x y => regionsOK n x && regionsOK n y
  | .block _ c => regionsOK n c
  | .loop c => regionsOK n c
  | .rangeFunc _ ps a b => ps.all (· < n) && regionsOK n a && regionsOK n b
  | _ => true

/-- No range over a function. -/
def noRF : Code → Bool
  | .seq x y => noRF x && noRF y
  | .cond _ x y => noRF x && noRF y
  | .block _ c => noRF c
  | .loop c => noRF c
  | .rangeFunc .. => false
  | _ => true

end Go.Lift
