/-
  Sums of bytes, each run once by the evaluator in the kernel.
-/
import Derived.Test.YtljfaogegcidgaaGreatDoorCxz
import Derived.KernelRfl
set_option maxRecDepth 1000000
namespace Go.Proofs.YtljfaogegcidgaaGreatDoor
open Go Dv
def shIn14 : List Nat := [0,1,17,99,111,110,110,47,99,111,110,110,101,99,116,105,111,110,45,55,1,36,1,2,1,8,99,108,105,101,110,116,45,53,1,12,99,111,110,110,101,99,116,105,111,110,45,48,1,8,99,108,105,101,110,116,45,48]
def shOut14 : List Nat := [79,255,88,229,158,251,66,64,167,153,182,157,42,111,98,25,243,185,149,95,165,202,2,52,96,152,88,43,197,57,21,153]
theorem sh14 : (fast cx0 3000).call (.fn 36) [.str shIn14] hNil (fun v _ => v = .str shOut14) = (V.str shOut14 = V.str shOut14) := by kernel_rfl
def shIn15 : List Nat := [0,1,33,99,111,109,109,105,116,47,98,47,99,104,97,110,110,101,108,45,57,47,48,48,48,48,48,48,48,48,48,48,48,48,48,49,1,32,135,218,143,16,0,135,135,90,56,170,211,213,40,68,39,0,178,194,186,243,113,199,0,155,147,206,222,26,248,152,68,89]
def shOut15 : List Nat := [161,139,221,71,216,243,167,97,132,118,189,243,56,76,102,195,29,110,73,151,253,208,95,6,148,48,16,68,42,251,4,39]
theorem sh15 : (fast cx0 3000).call (.fn 36) [.str shIn15] hNil (fun v _ => v = .str shOut15) = (V.str shOut15 = V.str shOut15) := by kernel_rfl
end Go.Proofs.YtljfaogegcidgaaGreatDoor
