/-
  Sums of bytes, each run once by the evaluator in the kernel.
-/
import Derived.Test.YtljfaogegcidgaaGreatDoorCxz
import Derived.KernelRfl
set_option maxRecDepth 1000000
namespace Go.Proofs.YtljfaogegcidgaaGreatDoor
open Go Dv
def shIn30 : List Nat := [2,1,1,161,139,221,71,216,243,167,97,132,118,189,243,56,76,102,195,29,110,73,151,253,208,95,6,148,48,16,68,42,251,4,39]
def shOut30 : List Nat := [11,94,164,138,131,25,123,70,109,8,176,135,37,222,228,29,82,174,153,157,218,19,29,126,141,219,167,28,13,157,166,77]
theorem sh30 : (fast cx0 3000).call (.fn 137) [.str shIn30] hNil (fun v _ => v = .str shOut30) = (V.str shOut30 = V.str shOut30) := by kernel_rfl
def shIn31 : List Nat := [2,1,1,79,255,88,229,158,251,66,64,167,153,182,157,42,111,98,25,243,185,149,95,165,202,2,52,96,152,88,43,197,57,21,153]
def shOut31 : List Nat := [176,200,134,242,17,42,39,238,125,71,145,88,164,236,222,204,31,165,122,177,133,51,4,109,201,54,54,244,219,26,34,152]
theorem sh31 : (fast cx0 3000).call (.fn 137) [.str shIn31] hNil (fun v _ => v = .str shOut31) = (V.str shOut31 = V.str shOut31) := by kernel_rfl
def shIn32 : List Nat := [1,4,1,50,45,113,22,66,183,38,176,68,1,98,124,169,251,172,50,245,200,83,15,177,144,60,196,219,2,37,135,23,146,26,72,129]
def shOut32 : List Nat := [55,184,106,107,108,210,196,169,134,200,225,89,111,55,230,171,127,176,98,91,76,67,50,252,14,70,229,61,159,62,79,210]
theorem sh32 : (fast cx0 3000).call (.fn 137) [.str shIn32] hNil (fun v _ => v = .str shOut32) = (V.str shOut32 = V.str shOut32) := by kernel_rfl
def shIn33 : List Nat := [2,1,1,217,218,38,184,31,10,196,242,41,178,232,132,21,202,242,111,112,113,167,126,54,255,178,151,190,71,35,95,97,129,177,103]
def shOut33 : List Nat := [51,94,129,131,178,156,240,77,62,166,253,103,229,76,221,174,173,190,198,76,85,195,58,160,210,140,230,90,36,214,59,74]
theorem sh33 : (fast cx0 3000).call (.fn 137) [.str shIn33] hNil (fun v _ => v = .str shOut33) = (V.str shOut33 = V.str shOut33) := by kernel_rfl
end Go.Proofs.YtljfaogegcidgaaGreatDoor
