import Derived.Test.YtdmhefbbicadnaaGreatProg
import Derived.Test.YtdmhefbbicadnaaGreatD1
import Derived.Test.YtdmhefbbicadnaaGreatS1
import Derived.Test.YtdmhefbbicadnaaGreatC1
import Derived.Test.YtdmhefbbicadnaaGreatE0
/-! The laws of one's own at this program, and calls with a table before them. -/
namespace Go.Lift
open Go.Proofs

noncomputable section

def lawT (g : FuncId) : Bool := Nat.beq g 153 || Nat.beq g 207 || Nat.beq g 128

def doBx : Bx (CallF → List Value → VS → Option (AEnd × VS)) := match doFor Tryz.prog 153 with
  | some D => ⟨fun call args T => doO 100000 60 Tryz.prog D call args T⟩
  | none => ⟨fun _ _ _ => none⟩

def lawO (call : CallF) (g : FuncId) (args : List Value) (T : VS) : Option (AEnd × VS) := match Nat.beq g 153 with
  | true => doBx.f call args T
  | false => match Nat.beq g 207 with
    | true => sortedO 216 args T
    | false => match Nat.beq g 128 with
      | true => eqO args T
      | false => none

theorem mixedT : Tryz.prog.follows .mixedOrders = true := rfl

theorem lawO_s : OwnOK Tryz.prog lawO := by
  intro call hc g args T en T' h K hk
  unfold lawO at h
  split at h
  · rename_i hg
    obtain rfl := Nat.eq_of_beq_eq_true hg
    unfold doBx at h
    split at h
    · rename_i D hD
      exact doO_s mixedT hc (doFor_s hD) h hk
    · cases h
  · split at h
    · rename_i hg
      obtain rfl := Nat.eq_of_beq_eq_true hg
      exact sortedO_s sortedLaw Tryz.underlying3 h K hk
    · split at h
      · rename_i hg
        obtain rfl := Nat.eq_of_beq_eq_true hg
        exact eqO_s h K hk
      · cases h

/-- Own laws: those, and the functions of the table. -/
def ownE (es : List Ent) (g : FuncId) : Bool := lawT g || es.any fun e => Nat.beq e.g g

def runE (es : List Ent) : CallF := callL 100000 60 (withTab 100000 60 Tryz.prog lawT lawO es) (ownE es) Tryz.prog 60

theorem runE_s {es : List Ent} (hes : ∀ e ∈ es, EntOK Tryz.prog e) : CallOK Tryz.prog (runE es) := callL_s mixedT (withTab_s mixedT lawO_s hes) 60

/-- An entry is worked out with others before it. -/
theorem ent_of {es : List Ent} {e : Ent} (hes : ∀ e ∈ es, EntOK Tryz.prog e) (h : entRun (runE es) e = true) : EntOK Tryz.prog e := entRun_s (runE_s hes) h

end

end Go.Lift
