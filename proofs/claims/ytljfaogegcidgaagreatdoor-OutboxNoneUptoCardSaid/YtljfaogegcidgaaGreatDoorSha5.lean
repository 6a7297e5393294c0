/-
  Sums of bytes, each run once by the evaluator in the kernel.
-/
import Derived.Test.YtljfaogegcidgaaGreatDoorCxz
import Derived.KernelRfl
set_option maxRecDepth 1000000
namespace Go.Proofs.YtljfaogegcidgaaGreatDoor
open Go Dv
def shIn18 : List Nat := [55,92,92,92,92,92,92,92,92,92,92,92,92,92,92,92,92,92,92,92,92,92,92,92,92,92,92,92,92,92,92,92,92,92,92,92,92,92,92,92,92,92,92,92,92,92,92,92,92,92,92,92,92,92,92,92,92,92,92,92,92,92,92,92,149,236,103,73,189,29,166,180,66,22,46,182,208,61,106,147,54,79,181,76,91,197,98,248,88,91,59,117,33,109,218,155]
def shOut18 : List Nat := [110,246,85,5,195,112,145,237,55,57,88,209,40,116,58,202,192,168,227,195,206,62,223,228,69,207,137,65,166,82,203,111]
theorem sh18 : (fast cx0 3000).call (.fn 36) [.str shIn18] hNil (fun v _ => v = .str shOut18) = (V.str shOut18 = V.str shOut18) := by kernel_rfl
def shIn19 : List Nat := [55,92,92,92,92,92,92,92,92,92,92,92,92,92,92,92,92,92,92,92,92,92,92,92,92,92,92,92,92,92,92,92,92,92,92,92,92,92,92,92,92,92,92,92,92,92,92,92,92,92,92,92,92,92,92,92,92,92,92,92,92,92,92,92,206,245,146,19,24,15,32,27,132,91,106,53,239,134,37,196,148,175,137,117,254,41,163,238,95,87,31,44,142,166,69,11]
def shOut19 : List Nat := [83,159,65,155,164,42,20,131,188,240,246,33,93,75,197,203,11,140,58,106,232,89,207,113,21,15,113,194,246,139,205,133]
theorem sh19 : (fast cx0 3000).call (.fn 36) [.str shIn19] hNil (fun v _ => v = .str shOut19) = (V.str shOut19 = V.str shOut19) := by kernel_rfl
end Go.Proofs.YtljfaogegcidgaaGreatDoor
