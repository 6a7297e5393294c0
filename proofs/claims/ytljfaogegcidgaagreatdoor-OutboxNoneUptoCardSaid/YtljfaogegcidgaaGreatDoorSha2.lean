/-
  Sums of bytes, each run once by the evaluator in the kernel.
-/
import Derived.Test.YtljfaogegcidgaaGreatDoorCxz
import Derived.KernelRfl
set_option maxRecDepth 1000000
namespace Go.Proofs.YtljfaogegcidgaaGreatDoor
open Go Dv
def shIn10 : List Nat := [1,4,1,50,45,113,22,66,183,38,176,68,1,98,124,169,251,172,50,245,200,83,15,177,144,60,196,219,2,37,135,23,146,26,72,129]
def shOut10 : List Nat := [55,184,106,107,108,210,196,169,134,200,225,89,111,55,230,171,127,176,98,91,76,67,50,252,14,70,229,61,159,62,79,210]
theorem sh10 : (fast cx0 3000).call (.fn 36) [.str shIn10] hNil (fun v _ => v = .str shOut10) = (V.str shOut10 = V.str shOut10) := by kernel_rfl
def shIn11 : List Nat := [0,1,9,161,252,228,54,56,84,255,136,140,255,75,142,120,117,214,0,194,104,35,144,65,42,140,247,155,55,208,177,17,72,176,250]
def shOut11 : List Nat := [125,232,162,201,101,100,25,128,170,40,74,114,31,97,212,164,135,43,175,136,246,100,76,60,223,54,198,207,148,180,243,148]
theorem sh11 : (fast cx0 3000).call (.fn 36) [.str shIn11] hNil (fun v _ => v = .str shOut11) = (V.str shOut11 = V.str shOut11) := by kernel_rfl
def shIn12 : List Nat := [2,1,1,217,218,38,184,31,10,196,242,41,178,232,132,21,202,242,111,112,113,167,126,54,255,178,151,190,71,35,95,97,129,177,103]
def shOut12 : List Nat := [51,94,129,131,178,156,240,77,62,166,253,103,229,76,221,174,173,190,198,76,85,195,58,160,210,140,230,90,36,214,59,74]
theorem sh12 : (fast cx0 3000).call (.fn 36) [.str shIn12] hNil (fun v _ => v = .str shOut12) = (V.str shOut12 = V.str shOut12) := by kernel_rfl
def shIn13 : List Nat := [0,1,16,99,104,97,110,47,98,47,99,104,97,110,110,101,108,45,57,1,35,1,2,1,1,1,12,99,111,110,110,101,99,116,105,111,110,45,55,1,1,97,1,9,99,104,97,110,110,101,108,45,48,1,1,118]
def shOut13 : List Nat := [217,218,38,184,31,10,196,242,41,178,232,132,21,202,242,111,112,113,167,126,54,255,178,151,190,71,35,95,97,129,177,103]
theorem sh13 : (fast cx0 3000).call (.fn 36) [.str shIn13] hNil (fun v _ => v = .str shOut13) = (V.str shOut13 = V.str shOut13) := by kernel_rfl
end Go.Proofs.YtljfaogegcidgaaGreatDoor
