/- What the law runs beside the document's examples, reckoned by the kernel: with an engine that nothing made, and without one. Conditions: none. -/
import Derived.Test.YtlpliljhbecenaaGreatRun
namespace Go.Proofs.YtlpliljhbecenaaGreat
open Go.Av
set_option maxRecDepth 1000000
theorem run_neg (k : Nat) (p : Int) : isTrue ((kaevO E (oneTrue 17) 5000).call 3 [.int .i64 (.negSucc k), .int .i64 p, .bool true] none noHeap) = true := by kernel_rfl
theorem run_neg' (k : Nat) (p : Int) : isTrue ((kaevO E (oneTrue 17) 5000).call 3 [.int .i64 (.negSucc k), .int .i64 p, .bool false] none noHeap) = true := by kernel_rfl
theorem run_zero (p : Int) : isTrue ((kaevO E (oneTrue 17) 5000).call 3 [.int .i64 (.ofNat 0), .int .i64 p, .bool true] none noHeap) = true := by kernel_rfl
theorem run_zero' (p : Int) : isTrue ((kaevO E (oneTrue 17) 5000).call 3 [.int .i64 (.ofNat 0), .int .i64 p, .bool false] none noHeap) = true := by kernel_rfl
theorem run_pos (k : Nat) (p : Int) : isTrue ((kaevO E (oneTrue 17) 5000).call 3 [.int .i64 (.ofNat (Nat.succ k)), .int .i64 p, .bool true] none noHeap) = true := by kernel_rfl
theorem run_pos' (k : Nat) (p : Int) : isTrue ((kaevO E (oneTrue 17) 5000).call 3 [.int .i64 (.ofNat (Nat.succ k)), .int .i64 p, .bool false] none noHeap) = true := by kernel_rfl
end Go.Proofs.YtlpliljhbecenaaGreat
