/- The document's examples of voyages, part 2 of three, reckoned by the kernel. Conditions: none. -/
import Derived.Test.YtbjagcfbjfgkmaaGreatCut
namespace Go.Proofs.YtbjagcfbjfgkmaaGreat
open Go.Av
set_option maxRecDepth 1000000
theorem part2 : cutOk cut2 ((kaevO E tbl0 5000).code ⟨5, Tryz.f5.ntmps, none⟩ (fore 0 (aft 6 livesC)) cut1.st) = true := by kernel_rfl
end Go.Proofs.YtbjagcfbjfgkmaaGreat
