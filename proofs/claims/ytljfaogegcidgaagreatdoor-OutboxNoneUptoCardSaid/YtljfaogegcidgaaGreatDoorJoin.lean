/-
  path.Join of three parts comes to a text of bounded size.
-/
import Derived.Test.YtljfaogegcidgaaGreatDoorHid
import Derived.Tactics2
set_option maxRecDepth 100000
namespace Go.Proofs
open Go.RowKit Go.Lib

theorem below_trans2 {w w1 w2 : World} (h1 : Below w.heap.size w w1) (h2 : Below w1.heap.size w1 w2) : Below w.heap.size w w2 :=
  h1.trans (h2.mono h1.size)

set_option maxHeartbeats 4000000 in
theorem Tryz.join3_any (word p0 p1 p2 : ByteArray) (b : Nat) (m : Int) (w : World) (hw : word.size ≤ 1048576) (h0 : p0.size ≤ 1048576) (h1 : p1.size ≤ 1048576) (h2 : p2.size ≤ 1048576)
    (c0 : w.cell? ⟨b, 0, none⟩ = some (.string p0)) (c1 : w.cell? ⟨b, 1, none⟩ = some (.string p1)) (c2 : w.cell? ⟨b, 2, none⟩ = some (.string p2))
    (hm : w.cell? ⟨1, 0, none⟩ = some (.int .i64 m)) :
    Calls Tryz.prog 27 #[.string word, .slice (some ⟨b, 0, none⟩) 3 3] w (StrUpTo 16777219 w) := by
  have hbB : b < w.heap.size := World.block_lt_of_cell? w ⟨b, 0, none⟩ c0
  have hc : ∀ k : Nat, k < 3 → ∃ p : ByteArray, p.size ≤ 1048576 ∧ w.cell? ⟨b, k, none⟩ = some (.string p) := fun k hk =>
    match k, hk with
    | 0, _ => ⟨p0, h0, c0⟩
    | 1, _ => ⟨p1, h1, c1⟩
    | 2, _ => ⟨p2, h2, c2⟩
  clear c0 c1 c2 h0 h1 h2
  go_enter Tryz.func27, Tryz.ntmps27
  go_wp2_with fail
  refine (Tryz.hidden_any word m w (by omega) hm).mono ?_
  rintro e w1 ⟨s1, hs1, rfl, hb1⟩
  go_wp2_with fail
  go_loopw [5, 12] (fun o i wr => ∃ (k : Nat) (s : ByteArray), k ≤ 3 ∧ i = .int .i64 k ∧ o = .string s ∧ s.size ≤ 4194304 + k * 4194305 ∧ Below w.heap.size w wr) (fun _ i _ => 3 - (RowKit.intOf i).toNat)
  case atStart => exact ⟨0, s1, by omega, rfl, rfl, by omega, hb1⟩
  case round =>
    obtain ⟨k, s, hk, rfl, rfl, hs, hb⟩ := hrel
    have hmr := cell1_below hm hb
    by_cases hk3 : k < 3
    · obtain ⟨p, hp, hcp⟩ := hc k hk3
      have hcr : wr.cell? ⟨b, k, none⟩ = some (.string p) := (hb.cell (by exact hbB)).trans hcp
      go_wp2_with fail
      refine (Tryz.hidden_any p m wr (by omega) hmr).mono ?_
      rintro e w2 ⟨s2, hs2, rfl, hb2⟩
      go_wp2_with fail
      refine ⟨⟨k + 1, _, by omega, by go_num, rfl, ?_, below_trans2 hb hb2⟩, ?_⟩
      · have e1 : (⟨#[47]⟩ : ByteArray).size = 1 := rfl
        simp only [ByteArray.size_append, e1]
        omega
      · simp [RowKit.intOf]; omega
    · go_wp2_with fail
      go_ret
      exact ⟨s, by omega, rfl, hb⟩
end Go.Proofs
