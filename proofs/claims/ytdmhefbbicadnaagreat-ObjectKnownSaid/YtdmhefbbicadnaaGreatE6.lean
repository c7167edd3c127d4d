import Derived.Test.YtdmhefbbicadnaaGreatE5
/-! Some of the calls, worked out. -/
namespace Go.Lift
open Go.Proofs
set_option maxRecDepth 1000000
theorem ent5_s : EntOK Tryz.prog ent5 := ent_of es5_s (by decide +kernel)
noncomputable def es6 : List Ent := ent5 :: es5
theorem es6_s : ∀ e ∈ es6, EntOK Tryz.prog e := List.forall_mem_cons.2 ⟨ent5_s, es5_s⟩
theorem ent6_s : EntOK Tryz.prog ent6 := ent_of es6_s (by decide +kernel)
noncomputable def es7 : List Ent := ent6 :: es6
theorem es7_s : ∀ e ∈ es7, EntOK Tryz.prog e := List.forall_mem_cons.2 ⟨ent6_s, es6_s⟩
end Go.Lift
