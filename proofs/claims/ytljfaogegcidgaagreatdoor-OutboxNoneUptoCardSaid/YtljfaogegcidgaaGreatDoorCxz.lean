/-
  SeatCx: the program's own facts that the evaluator asks for.
-/
import Derived.Test.YtljfaogegcidgaaGreatDoorProg
import Derived.Test.YtljfaogegcidgaaGreatDoorDvK
import Derived.KernelRfl
set_option maxRecDepth 1000000
namespace Go.Proofs.YtljfaogegcidgaaGreatDoor
open Go Dv

/-- does no function that has a body bear the name that the machine looks at? -/
def ngB (l : List Func) : Bool := l.all fun fn => fn.body.isNone || !(fn.name == "runtime.NumGoroutine")
theorem noNG : NoNG Tryz.prog := by
  have h : ngB Tryz.prog.funcs.toList = true := by kernel_rfl
  intro f fn hf hb
  have hm : fn ∈ Tryz.prog.funcs.toList := by
    have := Array.mem_of_getElem? hf
    exact Array.mem_toList_iff.2 this
  have := List.all_eq_true.1 h fn hm
  cases hbd : fn.body with
  | none => rw [hbd] at hb; cases hb
  | some c =>
    rw [hbd] at this
    simpa using this
theorem mixed : Tryz.prog.follows .mixedOrders = true := by kernel_rfl

/-- the program, with no summary -/
noncomputable def cx0 : Cx := ⟨Tryz.prog, fun _ => none⟩
theorem cx0_ok : CxOK cx0 Tryz.prog := ⟨rfl, mixed, noNG, fun _ _ h => by cases h⟩
end Go.Proofs.YtljfaogegcidgaaGreatDoor
