/-
  Sums of bytes, each run once by the evaluator in the kernel.
-/
import Derived.Test.YtljfaogegcidgaaGreatDoorCxz
import Derived.KernelRfl
set_option maxRecDepth 1000000
namespace Go.Proofs.YtljfaogegcidgaaGreatDoor
open Go Dv
def shIn20 : List Nat := [55,92,92,92,92,92,92,92,92,92,92,92,92,92,92,92,92,92,92,92,92,92,92,92,92,92,92,92,92,92,92,92,92,92,92,92,92,92,92,92,92,92,92,92,92,92,92,92,92,92,92,92,92,92,92,92,92,92,92,92,92,92,92,92,226,38,226,119,108,155,204,88,246,26,25,8,253,252,180,151,249,52,151,76,176,162,14,152,132,82,205,83,82,19,6,169]
def shOut20 : List Nat := [221,156,45,50,28,117,225,63,213,39,204,123,111,93,60,54,167,213,110,53,55,194,40,92,148,179,75,215,130,176,63,161]
theorem sh20 : (fast cx0 3000).call (.fn 36) [.str shIn20] hNil (fun v _ => v = .str shOut20) = (V.str shOut20 = V.str shOut20) := by kernel_rfl
def shIn21 : List Nat := [55,92,92,92,92,92,92,92,92,92,92,92,92,92,92,92,92,92,92,92,92,92,92,92,92,92,92,92,92,92,92,92,92,92,92,92,92,92,92,92,92,92,92,92,92,92,92,92,92,92,92,92,92,92,92,92,92,92,92,92,92,92,92,92,107,154,66,138,172,23,66,22,26,224,99,93,187,102,1,200,188,77,177,151,254,87,146,125,89,187,71,85,116,147,210,182]
def shOut21 : List Nat := [184,243,146,137,211,78,7,11,244,34,218,146,248,131,88,132,24,240,20,89,16,193,90,151,66,149,155,1,12,55,34,158]
theorem sh21 : (fast cx0 3000).call (.fn 36) [.str shIn21] hNil (fun v _ => v = .str shOut21) = (V.str shOut21 = V.str shOut21) := by kernel_rfl
end Go.Proofs.YtljfaogegcidgaaGreatDoor
