/-
  LayoutNone COMES TO TRUE, whatever the index, the name and the number.
-/
import Derived.Test.YtobfakjhhpbdmaaGreatDoorSanity
namespace Go.Proofs.YtobfakjhhpbdmaaGreatDoor
open Go Go.Am
theorem none_run (n b : Int) (s : List UInt8) : comesTo isTrueA (eval fTab.get orc2 1000 (.call 3 [.int .i64 n, .str s, .int .i64 b] .plain Heap.empty)) = true := by
  cases n with
  | ofNat n =>
    cases n with
    | zero => kernel_rfl
    | succ n => kernel_rfl
  | negSucc n => kernel_rfl
end Go.Proofs.YtobfakjhhpbdmaaGreatDoor
