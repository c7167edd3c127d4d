/- What a call leaves of the world that it found, where it was handed nothing. -/
import Derived.Test.YtdmhefbbicadnaaGreatE0
import Derived.RowKit3
namespace Go.Lift

/-- Nothing of what was there turns. -/
theorem keptBut_of_old {w w' : World} (ho : w'.os = w.os) (hp : w'.output = w.output) (h : ∀ r, r < w.heap.size → w'.heap[r]? = w.heap[r]?) (may : MemPlace → Prop) : w.keptBut w' may := by
  refine ⟨ho, hp, fun i hi => ?_⟩
  rw [h i hi]
  cases hg : w.heap[i]? with
  | none => trivial
  | some o => cases o <;> first | exact ⟨rfl, rfl, rfl, fun _ _ => rfl⟩ | exact .inr ⟨rfl, rfl⟩ | rfl

/-- A call without arguments that ends by 'v'. -/
theorem calls_of_acall {P : Program} {g : FuncId} {b : Bool} (h : ∀ K : AEnd → Heap → Prop, (∀ H, K (.returned (.bool b)) H) → acall P g [] (VS.mk 1 .leaf).den K) (w : World) :
    Calls P g #[] w fun e w' => e = .returned (.bool b) ∧ w'.os = w.os ∧ w'.output = w.output ∧ ∀ r, r < w.heap.size → w'.heap[r]? = w.heap[r]? := by
  have hr : HR (fun _ => none) (VS.mk 1 .leaf).den w := by
    have hg : ∀ b, (VS.mk 1 .leaf).den.get b = none := fun b => by rw [VS.den_get]; rfl
    exact ⟨rfl, (by simp [VS.den]), (fun _ _ h => by simp at h), (fun b k h => absurd ((hg b).symm.trans h) (by simp)), (fun b b' k k' i i' h => absurd ((hg b).symm.trans h) (by simp))⟩
  refine (h (fun e _ => e = .returned (.bool b)) (fun _ => rfl) _ [] w .nil hr).mono ?_
  rintro e w' ⟨e', H', φ', rfl, he, -, hx⟩
  refine ⟨?_, hx.os, hx.out, fun r hrr => hx.kept r hrr fun b k i h1 => ?_⟩
  · cases e <;> simp only [ER] at he
    cases he
    rfl
  · rw [VS.den_get] at h1
    cases h1

end Go.Lift
