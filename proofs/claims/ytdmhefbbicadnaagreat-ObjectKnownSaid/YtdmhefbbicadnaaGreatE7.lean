import Derived.Test.YtdmhefbbicadnaaGreatE6
/-! Some of the calls, worked out. -/
namespace Go.Lift
open Go.Proofs
set_option maxRecDepth 1000000
theorem ent7_s : EntOK Tryz.prog ent7 := ent_of es7_s (by decide +kernel)
noncomputable def es8 : List Ent := ent7 :: es7
theorem es8_s : ∀ e ∈ es8, EntOK Tryz.prog e := List.forall_mem_cons.2 ⟨ent7_s, es7_s⟩
theorem ent8_s : EntOK Tryz.prog ent8 := ent_of es8_s (by decide +kernel)
noncomputable def es9 : List Ent := ent8 :: es8
theorem es9_s : ∀ e ∈ es9, EntOK Tryz.prog e := List.forall_mem_cons.2 ⟨ent8_s, es8_s⟩
end Go.Lift
