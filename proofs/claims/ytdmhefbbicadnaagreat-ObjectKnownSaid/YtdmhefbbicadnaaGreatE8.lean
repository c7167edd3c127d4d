import Derived.Test.YtdmhefbbicadnaaGreatE7
/-! Some of the calls, worked out. -/
namespace Go.Lift
open Go.Proofs
set_option maxRecDepth 1000000
theorem ent9_s : EntOK Tryz.prog ent9 := ent_of es9_s (by decide +kernel)
noncomputable def es10 : List Ent := ent9 :: es9
theorem es10_s : ∀ e ∈ es10, EntOK Tryz.prog e := List.forall_mem_cons.2 ⟨ent9_s, es9_s⟩
end Go.Lift
