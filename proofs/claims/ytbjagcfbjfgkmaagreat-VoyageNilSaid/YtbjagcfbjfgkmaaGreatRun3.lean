/- The document's examples of voyages, part 3 of three, reckoned by the kernel. Conditions: none. -/
import Derived.Test.YtbjagcfbjfgkmaaGreatCut
namespace Go.Proofs.YtbjagcfbjfgkmaaGreat
open Go.Av
set_option maxRecDepth 1000000
theorem part3 : isTrue (kEnd ((kaevO E tbl0 5000).code ⟨5, Tryz.f5.ntmps, none⟩ (aft 0 (aft 6 livesC)) cut2.st) (kaevO E tbl0 5000) Tryz.f5) = true := by kernel_rfl
end Go.Proofs.YtbjagcfbjfgkmaaGreat
