/-
  packet.Key comes to a text of bounded size.
-/
import Derived.Test.YtljfaogegcidgaaGreatDoorNum
import Derived.Deep.RegionHeld3
import Derived.Deep.DrawnRows
set_option maxRecDepth 100000
attribute [local go_sem ↓] Go.wp_at_zero Go.wp_at_succ
namespace Go.Proofs
open Go.RowKit Go.Lib
open Go.Proofs.YtljfaogegcidgaaGreatDoor (number_any)

theorem keep_cell {w w1 : World} {a : Addr} {v : Value} (h : w.cell? a = some v) (hb : Below w.heap.size w w1) : w1.cell? a = some v := by
  rw [hb.cell (World.block_lt_of_cell? w a h)]; exact h

theorem keep_alloc {w : World} {o : Obj} {a : Addr} {v : Value} (h : w.cell? a = some v) : (w.alloc o).cell? a = some v :=
  keep_cell h ((Below.refl _ _).alloc (Nat.le_refl _) o)

set_option maxHeartbeats 4000000 in
theorem Tryz.key_any (what port chan : ByteArray) (n m : Int) (w : World) (hw : what.size ≤ 1048576) (h0 : port.size ≤ 1048576) (h1 : chan.size ≤ 1048576)
    (hm : w.cell? ⟨1, 0, none⟩ = some (.int .i64 m)) :
    Calls Tryz.prog 24 #[.string what, .agg #[.string port, .string chan], .int .i64 n] w (StrUpTo 16777219 w) := by
  have hB : 1 < w.heap.size := World.block_lt_of_cell? w ⟨1, 0, none⟩ hm
  go_enter Tryz.func24, Tryz.ntmps24
  go_wp2_with fail
  go_region_held3 (fun w' => w'.cell? ⟨w.heap.size, 0, none⟩ = some (.string port) ∧ w'.cell? ⟨w.heap.size, 1, none⟩ = some (.string chan) ∧ w'.cell? ⟨1, 0, none⟩ = some (.int .i64 m)) (go_keep)
    (first 
      | (go_at_call 64; refine (number_any _ _).mono ?_; rintro e w1 ⟨s1, hs1, rfl, hb1⟩
         have k0 := keep_cell (a := ⟨w.heap.size, 0, none⟩) (v := .string port) (by first | assumption | simp [*]) hb1
         have k1 := keep_cell (a := ⟨w.heap.size, 1, none⟩) (v := .string chan) (by first | assumption | simp [*]) hb1
         have k2 := keep_cell (a := ⟨1, 0, none⟩) (v := .int .i64 m) (by first | assumption | simp [*]) hb1)
      | (go_at_call 27; refine (Tryz.join3_any what port chan s1 _ m _ hw h0 h1 (by omega) (by simp) (by simp) (by simp) (keep_alloc k2)).mono ?_; rintro e w2 ⟨s2, hs2, rfl, hb2⟩
         have k3 : w2.cell? ⟨w.heap.size, 0, none⟩ = some (.string port) := keep_cell (keep_alloc k0) hb2
         have k4 : w2.cell? ⟨w.heap.size, 1, none⟩ = some (.string chan) := keep_cell (keep_alloc k1) hb2
         have k5 : w2.cell? ⟨1, 0, none⟩ = some (.int .i64 m) := keep_cell (keep_alloc k2) hb2))
  go_wp2
  go_ret
  exact ⟨s2, hs2, rfl, below_trans2 ((Below.refl _ _).alloc (Nat.le_refl _) _).drew (below_trans2 hb1 (below_trans2 ((Below.refl _ _).alloc (Nat.le_refl _) _) hb2))⟩
end Go.Proofs
