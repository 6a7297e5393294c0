/-
  Sums of bytes, each run once by the evaluator in the kernel.
-/
import Derived.Test.YtljfaogegcidgaaGreatDoorCxz
import Derived.KernelRfl
set_option maxRecDepth 1000000
namespace Go.Proofs.YtljfaogegcidgaaGreatDoor
open Go Dv
def shIn5 : List Nat := [0,0,80,231,33,228,156,1,63,0,198,44,245,159,33,99,84,42,157,141,240,36,100,239,235,97,93,49,5,27,15,221,195,38]
def shOut5 : List Nat := [215,185,119,42,239,235,231,154,160,164,190,63,199,71,219,19,220,177,232,150,143,93,85,67,155,88,211,101,27,200,140,24]
theorem sh5 : (fast cx0 3000).call (.fn 36) [.str shIn5] hNil (fun v _ => v = .str shOut5) = (V.str shOut5 = V.str shOut5) := by kernel_rfl
def shIn6 : List Nat := [1,9,0,45,113,22,66,183,38,176,68,1,98,124,169,251,172,50,245,200,83,15,177,144,60,196,219,2,37,135,23,146,26,72,129]
def shOut6 : List Nat := [135,218,143,16,0,135,135,90,56,170,211,213,40,68,39,0,178,194,186,243,113,199,0,155,147,206,222,26,248,152,68,89]
theorem sh6 : (fast cx0 3000).call (.fn 36) [.str shIn6] hNil (fun v _ => v = .str shOut6) = (V.str shOut6 = V.str shOut6) := by kernel_rfl
def shIn7 : List Nat := [2,1,1,246,74,30,167,68,247,108,38,43,21,215,204,147,27,220,134,187,232,154,5,88,1,150,8,190,30,129,41,242,126,145,90]
def shOut7 : List Nat := [251,42,221,47,136,119,45,136,73,222,26,59,90,1,30,193,41,178,57,93,254,236,157,174,119,2,218,173,25,138,72,208]
theorem sh7 : (fast cx0 3000).call (.fn 36) [.str shIn7] hNil (fun v _ => v = .str shOut7) = (V.str shOut7 = V.str shOut7) := by kernel_rfl
def shIn8 : List Nat := [2,1,1,161,139,221,71,216,243,167,97,132,118,189,243,56,76,102,195,29,110,73,151,253,208,95,6,148,48,16,68,42,251,4,39]
def shOut8 : List Nat := [11,94,164,138,131,25,123,70,109,8,176,135,37,222,228,29,82,174,153,157,218,19,29,126,141,219,167,28,13,157,166,77]
theorem sh8 : (fast cx0 3000).call (.fn 36) [.str shIn8] hNil (fun v _ => v = .str shOut8) = (V.str shOut8 = V.str shOut8) := by kernel_rfl
def shIn9 : List Nat := [2,1,1,79,255,88,229,158,251,66,64,167,153,182,157,42,111,98,25,243,185,149,95,165,202,2,52,96,152,88,43,197,57,21,153]
def shOut9 : List Nat := [176,200,134,242,17,42,39,238,125,71,145,88,164,236,222,204,31,165,122,177,133,51,4,109,201,54,54,244,219,26,34,152]
theorem sh9 : (fast cx0 3000).call (.fn 36) [.str shIn9] hNil (fun v _ => v = .str shOut9) = (V.str shOut9 = V.str shOut9) := by kernel_rfl
end Go.Proofs.YtljfaogegcidgaaGreatDoor
