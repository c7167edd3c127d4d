import Derived.Test.YtdmhefbbicadnaaGreatE4
/-! Some of the calls, worked out. -/
namespace Go.Lift
open Go.Proofs
set_option maxRecDepth 1000000
theorem ent4_s : EntOK Tryz.prog ent4 := ent_of es4_s (by decide +kernel)
noncomputable def es5 : List Ent := ent4 :: es4
theorem es5_s : ∀ e ∈ es5, EntOK Tryz.prog e := List.forall_mem_cons.2 ⟨ent4_s, es4_s⟩
end Go.Lift
