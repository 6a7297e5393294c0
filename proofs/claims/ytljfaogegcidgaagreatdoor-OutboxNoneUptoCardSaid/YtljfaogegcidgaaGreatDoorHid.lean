/-
  path.hidden and strings.ReplaceAll come to a text of bounded size, at any text.
-/
import Derived.Test.YtljfaogegcidgaaGreatDoorShelf
import Derived.Test.YtljfaogegcidgaaGreatDoorDvK
import Derived.WalkKit
import Derived.Lib.Walk
import Derived.Below
namespace Go.Proofs
open Go.RowKit Go.Lib

/-- a text of at most so many bytes, the world as it was but for what is new -/
def StrUpTo (n : Nat) (w : World) (e : Ending) (w' : World) : Prop := ∃ s : ByteArray, s.size ≤ n ∧ e = .returned (.string s) ∧ Below w.heap.size w w'

theorem replL_length (c : Nat) (n : List Nat) (hn : n.length = 2) : ∀ s : List Nat, (Dv.replL c n s).length ≤ 2 * s.length
  | [] => by simp [Dv.replL]
  | x :: s => by
    have ih := replL_length c n hn s
    rw [Dv.replL_cons]
    split
    · rw [List.length_append, hn]; simp; omega
    · simp; omega

theorem Tryz.replace_any (s : ByteArray) (c d e : UInt8) (m : Int) (w : World) (hs : s.size ≤ 4194304) (hm : w.cell? ⟨1, 0, none⟩ = some (.int .i64 m)) :
    Calls Tryz.prog 113 #[.string s, .string ⟨#[c]⟩, .string ⟨#[d, e]⟩] w (StrUpTo (2 * s.size) w) := by
  have hcnt : Lib.countB s ⟨#[c]⟩ ≤ s.size + 1 := by
    have := Lib.count_le s.data.toList [c]
    rw [Array.length_toList] at this
    exact this
  refine (Tryz.strings_ReplaceAll s ⟨#[c]⟩ ⟨#[d, e]⟩ m w (by omega) hm (by show 1 ≤ 1; omega) ?_).mono ?_
  · show s.size + _ * 2 ≤ _
    omega
  · rintro e1 w' ⟨rfl, hb⟩
    refine ⟨_, ?_, rfl, hb⟩
    have h := Dv.replaceAll_one c [d, e] s.data.toList (by simp)
    have hl := congrArg List.length h
    rw [List.length_map] at hl
    have h2 := replL_length c.toNat [d.toNat, e.toNat] rfl (s.data.toList.map UInt8.toNat)
    have e3 : (Lib.replaceAll s.data.toList [c] [d, e]).length ≤ 2 * s.size := by
      rw [hl]
      simp only [List.map_cons, List.map_nil]
      refine Nat.le_trans h2 ?_
      simp only [List.length_map, Array.length_toList]
      exact Nat.le_refl _
    show (Lib.replaceAll s.data.toList [c] [d, e]).toArray.size ≤ _
    rw [List.size_toArray]; exact e3

theorem cell1_below {w w' : World} {m : Int} (h : w.cell? ⟨1, 0, none⟩ = some (.int .i64 m)) (hb : Below w.heap.size w w') : w'.cell? ⟨1, 0, none⟩ = some (.int .i64 m) := by
  have hlt := World.block_lt_of_cell? w ⟨1, 0, none⟩ h
  rw [hb.cell hlt]; exact h

set_option maxHeartbeats 4000000 in
set_option maxRecDepth 100000 in
theorem Tryz.hidden_any (s : ByteArray) (m : Int) (w : World) (hs : s.size ≤ 2097152) (hm : w.cell? ⟨1, 0, none⟩ = some (.int .i64 m)) :
    Calls Tryz.prog 65 #[.string s] w (StrUpTo (4 * s.size) w) := by
  go_enter Tryz.func65, Tryz.ntmps65
  go_wp2_with fail
  refine (Tryz.replace_any s 37 37 112 m w (by omega) hm).mono ?_
  rintro e w1 ⟨s1, h1, rfl, hb1⟩
  go_wp2_with fail
  refine (Tryz.replace_any s1 47 37 115 m w1 (by omega) (cell1_below hm hb1)).mono ?_
  rintro e w2 ⟨s2, h2, rfl, hb2⟩
  have hb : Below w.heap.size w w2 := ⟨hb2.os.trans hb1.os, hb2.tape.trans hb1.tape, hb2.output.trans hb1.output, Nat.le_trans hb1.size hb2.size, fun k hk => (hb2.block k (Nat.lt_of_lt_of_le hk hb1.size)).trans (hb1.block k hk)⟩
  go_wp2
  go_ret
  exact ⟨s2, by omega, rfl, hb⟩
end Go.Proofs
