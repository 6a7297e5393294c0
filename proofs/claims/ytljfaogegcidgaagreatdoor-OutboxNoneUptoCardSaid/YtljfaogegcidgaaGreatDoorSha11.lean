/-
  Sums of bytes, each run once by the evaluator in the kernel.
-/
import Derived.Test.YtljfaogegcidgaaGreatDoorCxz
import Derived.KernelRfl
set_option maxRecDepth 1000000
namespace Go.Proofs.YtljfaogegcidgaaGreatDoor
open Go Dv
def shIn34 : List Nat := [0,1,16,99,104,97,110,47,98,47,99,104,97,110,110,101,108,45,57,1,35,1,2,1,1,1,12,99,111,110,110,101,99,116,105,111,110,45,55,1,1,97,1,9,99,104,97,110,110,101,108,45,48,1,1,118]
def shOut34 : List Nat := [217,218,38,184,31,10,196,242,41,178,232,132,21,202,242,111,112,113,167,126,54,255,178,151,190,71,35,95,97,129,177,103]
theorem sh34 : (fast cx0 3000).call (.fn 137) [.str shIn34] hNil (fun v _ => v = .str shOut34) = (V.str shOut34 = V.str shOut34) := by kernel_rfl
def shIn35 : List Nat := [0,1,17,99,111,110,110,47,99,111,110,110,101,99,116,105,111,110,45,55,1,36,1,2,1,8,99,108,105,101,110,116,45,53,1,12,99,111,110,110,101,99,116,105,111,110,45,48,1,8,99,108,105,101,110,116,45,48]
def shOut35 : List Nat := [79,255,88,229,158,251,66,64,167,153,182,157,42,111,98,25,243,185,149,95,165,202,2,52,96,152,88,43,197,57,21,153]
theorem sh35 : (fast cx0 3000).call (.fn 137) [.str shIn35] hNil (fun v _ => v = .str shOut35) = (V.str shOut35 = V.str shOut35) := by kernel_rfl
end Go.Proofs.YtljfaogegcidgaaGreatDoor
