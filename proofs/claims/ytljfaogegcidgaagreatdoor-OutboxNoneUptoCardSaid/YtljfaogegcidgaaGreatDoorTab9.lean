/-
  The sums of bytes that the run of function 9 comes to, as two tables.
-/
import Derived.Test.YtljfaogegcidgaaGreatDoorSha0
import Derived.Test.YtljfaogegcidgaaGreatDoorSha1
import Derived.Test.YtljfaogegcidgaaGreatDoorSha2
import Derived.Test.YtljfaogegcidgaaGreatDoorSha3
import Derived.Test.YtljfaogegcidgaaGreatDoorSha5
import Derived.Test.YtljfaogegcidgaaGreatDoorSha6
import Derived.Test.YtljfaogegcidgaaGreatDoorSha7
import Derived.Test.YtljfaogegcidgaaGreatDoorSha8
import Derived.Test.YtljfaogegcidgaaGreatDoorSha10
import Derived.Test.YtljfaogegcidgaaGreatDoorSha11
import Derived.Test.YtljfaogegcidgaaGreatDoorSha13
import Derived.Test.YtljfaogegcidgaaGreatDoorSha14
import Derived.Test.YtljfaogegcidgaaGreatDoorSha15
import Derived.Test.YtljfaogegcidgaaGreatDoorSha16
namespace Go.Proofs.YtljfaogegcidgaaGreatDoor
open Go Dv
def tabP9 : List (List Nat × List Nat) := [(shIn0, shOut0), (shIn1, shOut1), (shIn2, shOut2), (shIn5, shOut5), (shIn6, shOut6), (shIn9, shOut9), (shIn11, shOut11), (shIn12, shOut12), (shIn13, shOut13), (shIn14, shOut14), (shIn19, shOut19), (shIn21, shOut21), (shIn23, shOut23), (shIn24, shOut24)]
set_option maxRecDepth 1000000 in
theorem tabP9_ok : ∀ p ∈ tabP9, (run Bad cx0 3000).call (.fn 36) [.str p.1] hNil (fun v _ => v = .str p.2) :=
  tab_cons sh0 (tab_cons sh1 (tab_cons sh2 (tab_cons sh5 (tab_cons sh6 (tab_cons sh9 (tab_cons sh11 (tab_cons sh12 (tab_cons sh13 (tab_cons sh14 (tab_cons sh19 (tab_cons sh21 (tab_cons sh23 (tab_cons sh24 (tab_nil))))))))))))))
def tabR9 : List (List Nat × List Nat) := [(shIn31, shOut31), (shIn33, shOut33), (shIn34, shOut34), (shIn35, shOut35), (shIn39, shOut39), (shIn41, shOut41), (shIn43, shOut43), (shIn44, shOut44)]
set_option maxRecDepth 1000000 in
theorem tabR9_ok : ∀ p ∈ tabR9, (run Bad cx0 3000).call (.fn 137) [.str p.1] hNil (fun v _ => v = .str p.2) :=
  tab_cons sh31 (tab_cons sh33 (tab_cons sh34 (tab_cons sh35 (tab_cons sh39 (tab_cons sh41 (tab_cons sh43 (tab_cons sh44 (tab_nil))))))))
end Go.Proofs.YtljfaogegcidgaaGreatDoor
