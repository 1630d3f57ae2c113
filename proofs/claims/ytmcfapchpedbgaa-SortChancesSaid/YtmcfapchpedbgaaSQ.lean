/- Structs of the program, compared. -/
import Derived.Test.YtmcfapchpedbgaaZE5
import Derived.Test.YtmcfapchpedbgaaSF
import Derived.Test.YtmcfapchpedbgaaSD
set_option linter.unusedSimpArgs false
set_option linter.unusedVariables false
set_option maxRecDepth 10000
set_option maxHeartbeats 2000000
namespace Go.Abs
open Go Go.Proofs

theorem cmp_51 (h : AH) (a0 : Int) (a1 : Int) (b0 : Int) (b1 : Int) : Cmp Try.prog h .eql 51 (.ag [(int a0), (int a1)]) (.ag [(int b0), (int b1)]) ((a0 == b0) && (a1 == b1)) ∧ Cmp Try.prog h .neq 51 (.ag [(int a0), (int a1)]) (.ag [(int b0), (int b1)]) (!((a0 == b0) && (a1 == b1))) :=
  cmp_of (d := 6) (r := ((a0 == b0) && ((a1 == b1) && true))) (by decide) agg_51 (by kernel_rfl) rfl rfl (by kernel_rfl) (by simp [Bool.and_assoc, ByteArray.toList_eq])

end Go.Abs
