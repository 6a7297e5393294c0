/-
  On a journal that is none Send and Waits give what the law asks; the law's body, given its last call.
-/
import Derived.Test.YtljfaogegcidgaaGreatDoorKey
set_option maxRecDepth 100000
attribute [local go_sem ↓] Go.wp_at_zero Go.wp_at_succ
namespace Go.Proofs
open Go.RowKit Go.Lib

set_option maxHeartbeats 4000000 in
theorem Tryz.get_nil (key : ByteArray) (w : World) :
    Calls Tryz.prog 28 #[.pointer none, .string key] w (fun e w' => e = .returned (.tuple #[.string ⟨#[]⟩, .bool false]) ∧ Below w.heap.size w w') := by
  go_enter Tryz.func28, Tryz.ntmps28
  go_wp2
  go_ret2
  exact ⟨rfl, Below.refl _ _⟩

set_option maxHeartbeats 4000000 in
theorem Tryz.waits_nil (seq h t : Int) (s1 s2 s3 s4 s5 : ByteArray) (m : Int) (w : World) (b1 : s1.size ≤ 1048576) (b2 : s2.size ≤ 1048576)
    (hm : w.cell? ⟨1, 0, none⟩ = some (.int .i64 m)) :
    Calls Tryz.prog 8 #[.pointer none, .agg #[.int .i64 seq, .string s1, .string s2, .string s3, .string s4, .string s5, .int .i64 h, .int .i64 t]] w (fun e w' => e = .returned (.bool false) ∧ Below w.heap.size w w') := by
  go_enter Tryz.func8, Tryz.ntmps8
  go_wp2_with fail
  refine (Tryz.key_any _ s1 s2 seq m _ (by decide) b1 b2 (keep_alloc hm)).mono ?_
  rintro e w1 ⟨s, hs, rfl, hb1⟩
  go_wp2_with fail
  refine (Tryz.get_nil s w1).mono ?_
  rintro e w2 ⟨rfl, hb2⟩
  go_wp2_with fail
  go_ret
  exact ⟨rfl, below_trans2 ((Below.refl _ _).alloc (Nat.le_refl _) _) (below_trans2 hb1 hb2)⟩

/-- nothing was there -/
def noPacket : Value := .agg #[.int .i64 0, .string ⟨#[]⟩, .string ⟨#[]⟩, .string ⟨#[]⟩, .string ⟨#[]⟩, .string ⟨#[]⟩, .int .i64 0, .int .i64 0]

/-- what Send answers, as the evaluator has it -/
def sendV : Dv.V := .tuple [.agg [.int .i64 0, .str [], .str [], .str [], .str [], .str [], .int .i64 0, .int .i64 0], .int .i64 2]
open Dv in
theorem run_send (a b : List Nat) (q h t : Int) (s1 s2 s3 s4 s5 : List Nat) : (fast YtljfaogegcidgaaGreatDoor.cx0 1000).call (.fn 7) [.nilp, .agg [.str a, .str b], .agg [.int .i64 q, .str s1, .str s2, .str s3, .str s4, .str s5, .int .i64 h, .int .i64 t]] hNil (fun v _ => v = sendV) = (sendV = sendV) := by kernel_rfl
theorem Tryz.body7 : ∃ c, Tryz.f7.body = some c := ⟨_, rfl⟩
theorem str_empty {s : ByteArray} (h : Dv.bytesOf s = []) : s = ⟨#[]⟩ := by
  have := congrArg List.length h
  rw [Dv.bytesOf_length] at this
  have h2 : s.size = 0 := this
  exact ByteArray.size_eq_zero_iff.1 h2
open Dv in
theorem Tryz.send_nil (a b : ByteArray) (q h t : Int) (s1 s2 s3 s4 s5 : ByteArray) (w : World) :
    Calls Tryz.prog 7 #[.pointer none, .agg #[.string a, .string b], .agg #[.int .i64 q, .string s1, .string s2, .string s3, .string s4, .string s5, .int .i64 h, .int .i64 t]] w (fun e w' => e = .returned (.tuple #[noPacket, .int .i64 2]) ∧ Below w.heap.size w w') := by
  obtain ⟨c, hc⟩ := Tryz.body7
  have hr := (run_send (bytesOf a) (bytesOf b) q h t (bytesOf s1) (bytesOf s2) (bytesOf s3) (bytesOf s4) (bytesOf s5)).mpr rfl
  rw [fast_call] at hr
  refine (YtljfaogegcidgaaGreatDoor.calls_at YtljfaogegcidgaaGreatDoor.cx0_ok Tryz.func7 hc (K := fun v => v = sendV) hr (HR.nil w) ?_ phi0_free own_nil).mono ?_
  · exact ⟨_, _, rfl, rfl, _, _, rfl, ⟨_, rfl, _, _, rfl, ⟨_, rfl, rfl⟩, _, _, rfl, ⟨_, rfl, rfl⟩, rfl⟩, _, _, rfl, ⟨_, rfl, _, _, rfl, rfl, _, _, rfl, ⟨_, rfl, rfl⟩, _, _, rfl, ⟨_, rfl, rfl⟩, _, _, rfl, ⟨_, rfl, rfl⟩, _, _, rfl, ⟨_, rfl, rfl⟩, _, _, rfl, ⟨_, rfl, rfl⟩, _, _, rfl, rfl, _, _, rfl, rfl, rfl⟩, rfl⟩
  · rintro e w' ⟨v, y, rfl, rfl, hbl, φ', _, hrel⟩
    refine ⟨?_, hbl⟩
    obtain ⟨cs, rfl, y1, ys1, h1, ⟨cs2, rfl, hag⟩, y2, ys2, h2, rfl, h3⟩ := hrel
    obtain ⟨_, _, g0, rfl, _, _, rfl, ⟨z1, rfl, e1⟩, _, _, rfl, ⟨z2, rfl, e2⟩, _, _, rfl, ⟨z3, rfl, e3⟩, _, _, rfl, ⟨z4, rfl, e4⟩, _, _, rfl, ⟨z5, rfl, e5⟩, _, _, rfl, rfl, _, _, rfl, rfl, rfl⟩ := hag
    rw [str_empty e1, str_empty e2, str_empty e3, str_empty e4, str_empty e5] at g0
    subst h3 h2
    have hc1 : cs = #[.agg cs2, .int .i64 2] := Array.toList_inj.1 h1
    have hc2 := congrArg List.toArray g0
    rw [Array.toArray_toList] at hc2
    rw [hc1, hc2]; rfl

set_option maxHeartbeats 4000000 in
theorem Tryz.outboxNone_calls (seq h t : Int) (t1 t2 s1 s2 s3 s4 s5 : ByteArray) (m : Int) (w : World) (b1 : s1.size ≤ 1048576) (b2 : s2.size ≤ 1048576)
    (hm : w.cell? ⟨1, 0, none⟩ = some (.int .i64 m))
    (awake : ∀ w' : World, Below w.heap.size w w' → Calls Tryz.prog 9 #[] w' (fun e w2 => e = .returned (.bool true) ∧ Below w'.heap.size w' w2)) :
    Calls Tryz.prog 3 #[.agg #[.string t1, .string t2], .agg #[.int .i64 seq, .string s1, .string s2, .string s3, .string s4, .string s5, .int .i64 h, .int .i64 t]] w (fun e w' => e = .returned (.bool true) ∧ Below w.heap.size w w') := by
  go_enter Tryz.func3, Tryz.ntmps3
  go_wp2_with fail
  refine (Tryz.send_nil _ _ _ _ _ _ _ _ _ _ _).mono ?_
  rintro e w1 ⟨rfl, hb1⟩
  unfold noPacket
  have k0 := keep_cell (a := ⟨w.heap.size + 1, 0, none⟩) (v := .int .i64 seq) (by simp) hb1
  have k1 := keep_cell (a := ⟨w.heap.size + 1, 1, none⟩) (v := .string s1) (by simp) hb1
  have k2 := keep_cell (a := ⟨w.heap.size + 1, 2, none⟩) (v := .string s2) (by simp) hb1
  have k3 := keep_cell (a := ⟨w.heap.size + 1, 3, none⟩) (v := .string s3) (by simp) hb1
  have k4 := keep_cell (a := ⟨w.heap.size + 1, 4, none⟩) (v := .string s4) (by simp) hb1
  have k5 := keep_cell (a := ⟨w.heap.size + 1, 5, none⟩) (v := .string s5) (by simp) hb1
  have k6 := keep_cell (a := ⟨w.heap.size + 1, 6, none⟩) (v := .int .i64 h) (by simp) hb1
  have k7 := keep_cell (a := ⟨w.heap.size + 1, 7, none⟩) (v := .int .i64 t) (by simp) hb1
  have f0 : (w1.alloc (.cells #[.int .i64 0, .string ⟨#[]⟩, .string ⟨#[]⟩, .string ⟨#[]⟩, .string ⟨#[]⟩, .string ⟨#[]⟩, .int .i64 0, .int .i64 0] 25)).cell? ⟨w.heap.size + 1, 0, none⟩ = some (.int .i64 seq) := keep_alloc k0
  have f1 : (w1.alloc (.cells #[.int .i64 0, .string ⟨#[]⟩, .string ⟨#[]⟩, .string ⟨#[]⟩, .string ⟨#[]⟩, .string ⟨#[]⟩, .int .i64 0, .int .i64 0] 25)).cell? ⟨w.heap.size + 1, 1, none⟩ = some (.string s1) := keep_alloc k1
  have f2 : (w1.alloc (.cells #[.int .i64 0, .string ⟨#[]⟩, .string ⟨#[]⟩, .string ⟨#[]⟩, .string ⟨#[]⟩, .string ⟨#[]⟩, .int .i64 0, .int .i64 0] 25)).cell? ⟨w.heap.size + 1, 2, none⟩ = some (.string s2) := keep_alloc k2
  have f3 : (w1.alloc (.cells #[.int .i64 0, .string ⟨#[]⟩, .string ⟨#[]⟩, .string ⟨#[]⟩, .string ⟨#[]⟩, .string ⟨#[]⟩, .int .i64 0, .int .i64 0] 25)).cell? ⟨w.heap.size + 1, 3, none⟩ = some (.string s3) := keep_alloc k3
  have f4 : (w1.alloc (.cells #[.int .i64 0, .string ⟨#[]⟩, .string ⟨#[]⟩, .string ⟨#[]⟩, .string ⟨#[]⟩, .string ⟨#[]⟩, .int .i64 0, .int .i64 0] 25)).cell? ⟨w.heap.size + 1, 4, none⟩ = some (.string s4) := keep_alloc k4
  have f5 : (w1.alloc (.cells #[.int .i64 0, .string ⟨#[]⟩, .string ⟨#[]⟩, .string ⟨#[]⟩, .string ⟨#[]⟩, .string ⟨#[]⟩, .int .i64 0, .int .i64 0] 25)).cell? ⟨w.heap.size + 1, 5, none⟩ = some (.string s5) := keep_alloc k5
  have f6 : (w1.alloc (.cells #[.int .i64 0, .string ⟨#[]⟩, .string ⟨#[]⟩, .string ⟨#[]⟩, .string ⟨#[]⟩, .string ⟨#[]⟩, .int .i64 0, .int .i64 0] 25)).cell? ⟨w.heap.size + 1, 6, none⟩ = some (.int .i64 h) := keep_alloc k6
  have f7 : (w1.alloc (.cells #[.int .i64 0, .string ⟨#[]⟩, .string ⟨#[]⟩, .string ⟨#[]⟩, .string ⟨#[]⟩, .string ⟨#[]⟩, .int .i64 0, .int .i64 0] 25)).cell? ⟨w.heap.size + 1, 7, none⟩ = some (.int .i64 t) := keep_alloc k7
  go_wp2_with fail
  have b0 : Below w.heap.size w (w1.alloc (.cells #[.int .i64 0, .string ⟨#[]⟩, .string ⟨#[]⟩, .string ⟨#[]⟩, .string ⟨#[]⟩, .string ⟨#[]⟩, .int .i64 0, .int .i64 0] 25)) :=
    below_trans2 ((Below.refl _ _).alloc (Nat.le_refl _) _) (below_trans2 ((Below.refl _ _).alloc (Nat.le_refl _) _) (below_trans2 hb1 ((Below.refl _ _).alloc (Nat.le_refl _) _)))
  refine (Tryz.waits_nil seq h t s1 s2 s3 s4 s5 m _ b1 b2 (keep_cell hm b0)).mono ?_
  rintro e w2 ⟨rfl, hb2⟩
  go_wp2_with fail
  refine (awake w2 (below_trans2 b0 hb2)).mono ?_
  rintro e w3 ⟨rfl, hb3⟩
  go_wp2_with fail
  go_ret
  exact ⟨rfl, below_trans2 b0 (below_trans2 hb2 hb3)⟩
end Go.Proofs
