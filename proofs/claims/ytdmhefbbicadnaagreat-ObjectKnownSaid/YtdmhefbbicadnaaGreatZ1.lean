/- ObjectKnown is true, whatever the world: the call is worked out in the lifted logic, piece by piece, and the pieces are joined. No condition. -/
import Derived.Test.YtdmhefbbicadnaaGreatRows
import Derived.Test.YtdmhefbbicadnaaGreatE8
import Derived.Test.YtdmhefbbicadnaaGreatZ0
import Derived.WalkKit
import Derived.ProofKit
import Derived.OpenShut
import Derived.JoinedOf
import Derived.JoinedAt
namespace Go.Proofs.YtdmhefbbicadnaaGreat.objectKnown
open Go.ChangeShapes Go.WideShapes Go.ChangeAt Go.RowKit Go.Lift

theorem own : ownKnob Tryz.prog.godebug = none := by kernel_rfl

theorem walk (W : World) : Calls Tryz.prog 3 #[] W fun e W' => e = .returned (.bool true) ∧ W'.os = W.os ∧ W'.output = W.output ∧ ∀ r, r < W.heap.size → W'.heap[r]? = W.heap[r]? :=
  calls_of_acall (fun K hk => ent9_s K (hk _)) W

set_option maxRecDepth 100000 in
theorem lifted (os : Os) (started : os.Started) (H : Type) (enc : TypeId × Value → H) :
    ReturnsInHanded {} Tryz.checked os 3 .any (Rows.objectKnownSpec.pre6 enc Tryz.prog Tryz.f3 Rows.objectKnownRow.domain false) (Rows.objectKnownSpec.post enc Tryz.prog Tryz.f3 false true false false) := by
  refine returnsInHanded_of_change (C := Tryz.checked) own started (by kernel_rfl) Tryz.func3
    (ChangeSpec.witness6 (enc := enc) (C := Tryz.checked) false ⟨#[], #[], []⟩ 8 (by kernel_rfl) (by kernel_rfl) (by kernel_rfl) (by kernel_rfl)) ?_
  intro W base args ds gs before hval hW _ _
  have hW' := hW
  obtain ⟨p, q, hA0, hV, rfl, hfz, hnd⟩ := hW
  have hA : DataW.TrodAll enc Tryz.prog W 0 (fun _ => true) true Tryz.f3.params.toList args.toList ds p := hA0
  rw [Tryz.params3] at hA
  obtain ⟨hargs, rfl, rfl⟩ := trodAll_nil hA
  obtain rfl : args = #[] := by cases args; simp_all
  obtain ⟨rfl, rfl⟩ := trodVars_none hV
  clear hA0
  simp only [List.append_nil] at hW'
  refine (walk W).mono fun e W' ⟨he, ho, hp, hg⟩ => ?_
  subst he
  refine ⟨_, rfl, ?_⟩
  refine ⟨[], [], [], [], [], [], hW', ?_, ?_, rfl, keptBut_of_old ho hp hg _, fun h => by cases h⟩
  · exact trodAll_cons_mk (shut_bool Tryz.underlying4 _) trodAll_mk0
  · exact trodAll_mk0

theorem over : Rows.objectKnownRow.holds Tryz.pinned (OpenSpec.ofChange Rows.objectKnownSpec) :=
  OpenClaim.holds_of_wide 3 Tryz.f3 rfl rfl rfl rfl rfl rfl rfl ⟨rfl, rfl, rfl, rfl, rfl⟩ rfl rfl rfl rfl rfl (by kernel_rfl) Tryz.func3 (by kernel_rfl)
    (of_decide_eq_true (by kernel_rfl)) (by unfold Func.isWrapper; first | (rw [if_pos (by decide +kernel)]; kernel_rfl) | (rw [if_neg (by decide +kernel)]; exact ⟨rfl, rfl⟩))
    (fun os started H enc _ => lifted os started H enc)

theorem proved : Rows.ObjectKnownSaid :=
  over
end Go.Proofs.YtdmhefbbicadnaaGreat.objectKnown
