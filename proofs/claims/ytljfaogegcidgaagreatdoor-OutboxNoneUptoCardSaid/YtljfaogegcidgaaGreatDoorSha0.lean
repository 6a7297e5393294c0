/-
  Sums of bytes, each run once by the evaluator in the kernel.
-/
import Derived.Test.YtljfaogegcidgaaGreatDoorCxz
import Derived.KernelRfl
set_option maxRecDepth 1000000
namespace Go.Proofs.YtljfaogegcidgaaGreatDoor
open Go Dv
def shIn0 : List Nat := [119]
def shOut0 : List Nat := [80,231,33,228,156,1,63,0,198,44,245,159,33,99,84,42,157,141,240,36,100,239,235,97,93,49,5,27,15,221,195,38]
theorem sh0 : (fast cx0 3000).call (.fn 36) [.str shIn0] hNil (fun v _ => v = .str shOut0) = (V.str shOut0 = V.str shOut0) := by kernel_rfl
def shIn1 : List Nat := [120]
def shOut1 : List Nat := [45,113,22,66,183,38,176,68,1,98,124,169,251,172,50,245,200,83,15,177,144,60,196,219,2,37,135,23,146,26,72,129]
theorem sh1 : (fast cx0 3000).call (.fn 36) [.str shIn1] hNil (fun v _ => v = .str shOut1) = (V.str shOut1 = V.str shOut1) := by kernel_rfl
def shIn2 : List Nat := [121]
def shOut2 : List Nat := [161,252,228,54,56,84,255,136,140,255,75,142,120,117,214,0,194,104,35,144,65,42,140,247,155,55,208,177,17,72,176,250]
theorem sh2 : (fast cx0 3000).call (.fn 36) [.str shIn2] hNil (fun v _ => v = .str shOut2) = (V.str shOut2 = V.str shOut2) := by kernel_rfl
def shIn3 : List Nat := [2,0]
def shOut3 : List Nat := [153,190,94,251,136,202,32,19,189,142,78,176,53,253,66,213,36,84,104,254,154,250,112,216,186,156,28,65,154,72,196,232]
theorem sh3 : (fast cx0 3000).call (.fn 36) [.str shIn3] hNil (fun v _ => v = .str shOut3) = (V.str shOut3 = V.str shOut3) := by kernel_rfl
def shIn4 : List Nat := [121,101,115]
def shOut4 : List Nat := [138,121,136,144,254,147,129,113,99,177,11,95,123,210,202,77,37,216,76,82,115,154,100,90,136,156,23,62,238,125,157,61]
theorem sh4 : (fast cx0 3000).call (.fn 36) [.str shIn4] hNil (fun v _ => v = .str shOut4) = (V.str shOut4 = V.str shOut4) := by kernel_rfl
end Go.Proofs.YtljfaogegcidgaaGreatDoor
