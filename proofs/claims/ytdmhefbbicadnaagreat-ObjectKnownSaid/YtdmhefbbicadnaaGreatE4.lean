import Derived.Test.YtdmhefbbicadnaaGreatE3
/-! Some of the calls, worked out. -/
namespace Go.Lift
open Go.Proofs
set_option maxRecDepth 1000000
theorem ent2_s : EntOK Tryz.prog ent2 := ent_of es2_s (by decide +kernel)
noncomputable def es3 : List Ent := ent2 :: es2
theorem es3_s : ∀ e ∈ es3, EntOK Tryz.prog e := List.forall_mem_cons.2 ⟨ent2_s, es2_s⟩
theorem ent3_s : EntOK Tryz.prog ent3 := ent_of es3_s (by decide +kernel)
noncomputable def es4 : List Ent := ent3 :: es3
theorem es4_s : ∀ e ∈ es4, EntOK Tryz.prog e := List.forall_mem_cons.2 ⟨ent3_s, es3_s⟩
end Go.Lift
