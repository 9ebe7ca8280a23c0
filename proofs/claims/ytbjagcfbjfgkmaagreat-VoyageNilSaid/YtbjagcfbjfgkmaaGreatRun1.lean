/- The document's examples of voyages, part 1 of three, reckoned by the kernel. Conditions: none. -/
import Derived.Test.YtbjagcfbjfgkmaaGreatCut
namespace Go.Proofs.YtbjagcfbjfgkmaaGreat
open Go.Av
set_option maxRecDepth 1000000
theorem part1 : cutOk cut1 ((kaevO E tbl0 5000).code ⟨5, Tryz.f5.ntmps, none⟩ (fore 6 livesC) s0) = true := by kernel_rfl
end Go.Proofs.YtbjagcfbjfgkmaaGreat
