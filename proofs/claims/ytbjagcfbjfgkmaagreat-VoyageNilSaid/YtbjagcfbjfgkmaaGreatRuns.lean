/- What the law of no voyage runs beside the document's examples, reckoned by the kernel. Conditions: none. -/
import Derived.Test.YtbjagcfbjfgkmaaGreatEnv
namespace Go.Proofs.YtbjagcfbjfgkmaaGreat
open Go.Av
set_option maxRecDepth 1000000
noncomputable def ask (x y z p : Int) (s : AV) (m : Bool) : Bool := isTrue ((kaevO E (oneTrue 5) 5000).call 3 [.agg [.int .i64 x, .int .i64 y, .int .i64 z, s], .int .i64 p, .bool m] none oneDead)
theorem run_nil (x y z p : Int) : ask x y z p (.slice none 0 (.known 0)) true = true := by kernel_rfl
theorem run_nil' (x y z p : Int) : ask x y z p (.slice none 0 (.known 0)) false = true := by kernel_rfl
theorem run_long (x y z p : Int) (c k : Nat) : ask x y z p (.slice (some (0, 0)) (Nat.add k 101) (.known c)) true = true := by kernel_rfl
theorem run_long' (x y z p : Int) (c k : Nat) : ask x y z p (.slice (some (0, 0)) (Nat.add k 101) (.known c)) false = true := by kernel_rfl
theorem run_short (x y z p : Int) (c : Nat) : ((List.range 101).all fun n => ask x y z p (.slice (some (0, 0)) n (.known c)) true) = true := by kernel_rfl
theorem run_short' (x y z p : Int) (c : Nat) : ((List.range 101).all fun n => ask x y z p (.slice (some (0, 0)) n (.known c)) false) = true := by kernel_rfl
end Go.Proofs.YtbjagcfbjfgkmaaGreat
