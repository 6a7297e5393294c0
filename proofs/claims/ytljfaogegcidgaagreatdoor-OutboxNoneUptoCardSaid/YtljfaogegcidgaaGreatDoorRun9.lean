/-
  A closed run of the program, by the kernel.
-/
import Derived.Test.YtljfaogegcidgaaGreatDoorSum
import Derived.Test.YtljfaogegcidgaaGreatDoorTab9
import Derived.KernelRfl
set_option maxRecDepth 1000000
namespace Go.Proofs.YtljfaogegcidgaaGreatDoor
open Go Dv
theorem awake9_run (m : Int) : (fast (cx tabP9 tabR9) 5000).call (.fn 9) [] (hOne m) (fun v _ => v = .bool true) = (V.bool true = V.bool true) := by kernel_rfl
end Go.Proofs.YtljfaogegcidgaaGreatDoor
