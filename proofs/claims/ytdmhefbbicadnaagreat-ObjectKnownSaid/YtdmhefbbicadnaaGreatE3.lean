import Derived.Test.YtdmhefbbicadnaaGreatE1
import Derived.Test.YtdmhefbbicadnaaGreatE2
/-! Some of the calls, worked out. -/
namespace Go.Lift
open Go.Proofs
set_option maxRecDepth 1000000
noncomputable def es0 : List Ent := []
theorem es0_s : ∀ e ∈ es0, EntOK Tryz.prog e := by simp [es0]
theorem ent0_s : EntOK Tryz.prog ent0 := ent_of es0_s (by decide +kernel)
noncomputable def es1 : List Ent := ent0 :: es0
theorem es1_s : ∀ e ∈ es1, EntOK Tryz.prog e := List.forall_mem_cons.2 ⟨ent0_s, es0_s⟩
theorem ent1_s : EntOK Tryz.prog ent1 := ent_of es1_s (by decide +kernel)
noncomputable def es2 : List Ent := ent1 :: es1
theorem es2_s : ∀ e ∈ es2, EntOK Tryz.prog e := List.forall_mem_cons.2 ⟨ent1_s, es1_s⟩
end Go.Lift
