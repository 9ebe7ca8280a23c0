/- VoyageNil: no voyage, and one that nothing made, is nowhere, and does nothing; the law answers true for every input. Conditions: none. -/
import Derived.Test.YtbjagcfbjfgkmaaGreatLift
namespace Go.Proofs.YtbjagcfbjfgkmaaGreat
open Go.ChangeShapes Go.WideShapes Go.ChangeAt Go.RowKit
theorem over : Rows.voyageNilRow.holds Tryz.pinned (OpenSpec.ofChange Rows.voyageNilSpec) :=
  OpenClaim.holds_of_wide 3 Tryz.f3 rfl rfl rfl rfl rfl rfl rfl ⟨rfl, rfl, rfl, rfl, rfl⟩ rfl rfl rfl rfl rfl (by kernel_rfl) Tryz.func3 (by kernel_rfl)
    (of_decide_eq_true (by kernel_rfl)) (by unfold Func.isWrapper; first | (rw [if_pos (by decide +kernel)]; kernel_rfl) | (rw [if_neg (by decide +kernel)]; exact ⟨rfl, rfl⟩))
    (fun os started H enc _ => lifted os started H enc)
/-- The statement. -/
theorem voyageNil_holds : Rows.VoyageNilSaid := over
#print axioms voyageNil_holds
end Go.Proofs.YtbjagcfbjfgkmaaGreat
