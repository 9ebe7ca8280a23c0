/- What the law runs, reckoned by the kernel: the document's examples; the rest, with an engine that nothing made, and without one. Conditions: none. -/
import Derived.Test.YtlpliljhbecenaaGreatEnv
namespace Go.Proofs.YtlpliljhbecenaaGreat
open Go.Av
set_option maxRecDepth 1000000
theorem run_lives : isTrue ((kaev E 5000).call 17 [] none noHeap) = true := by kernel_rfl
end Go.Proofs.YtlpliljhbecenaaGreat
