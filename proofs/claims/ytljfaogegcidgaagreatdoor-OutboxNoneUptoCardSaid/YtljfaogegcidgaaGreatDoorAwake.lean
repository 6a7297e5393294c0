/-
  awake of layer 18 is true in every world that holds the library's variables.
-/
import Derived.Test.YtljfaogegcidgaaGreatDoorRun9
import Derived.Test.YtljfaogegcidgaaGreatDoorWaits
import Derived.Shelf.Vars
set_option maxRecDepth 1000000
namespace Go.Proofs.YtljfaogegcidgaaGreatDoor
open Go Go.RowKit Dv

/-- the block of a package variable of type int holds an int -/
theorem row_of_shapedOpen_int {P : Program} {w : World} {g : Nat} {t : TypeId} {zero : Array Value} {k : IntKind}
    (h : w.ShapedOpen P) (hg : g < P.globals.size)
    (h0 : ((begin P (fun _ _ => 0) default).world.heap[g]?).bind Obj.row? = some (zero, t)) (hz : zero.size = 1)
    (hb : P.buildable t = true) (hc : P.cellTypes P.depth t = some [t]) (hu : P.underlying t = some (.int k)) :
    ∃ m fr, w.heap[g]? = some (.cells #[.int k m] t fr) := by
  obtain ⟨cs, hh, hs, hr⟩ := h.1 g zero t hg h0
  obtain ⟨ts, hts, _, hall⟩ := hr hb
  rw [hc] at hts
  cases hts
  have h1 : 0 < cs.size := by omega
  obtain ⟨u, hu', hok⟩ := hall 0 cs[0] (by simp [h1])
  have : u = t := by simpa using hu'.symm
  subst this
  unfold Cell.ok at hok
  rw [hu] at hok
  have hcs : cs = #[cs[0]] := by
    apply Array.ext
    · simp; omega
    · intro i h1 h2
      have : i = 0 := by simp at h2; omega
      subst this
      simp
  cases hv : cs[0] <;> rw [hv] at hok <;> simp at hok
  case int k' n =>
    rw [hv, hok.1] at hcs
    rw [hcs] at hh
    exact ⟨n, _, hh⟩

theorem maxLen_row {W : World} (h : W.ShapedOpen Tryz.prog) : ∃ m fr, W.heap[1]? = some (.cells #[.int .i64 m] 3 fr) :=
  row_of_shapedOpen_int (zero := #[.int .i64 0]) h (of_decide_eq_true (by kernel_rfl)) (by kernel_rfl) rfl (by kernel_rfl) (by kernel_rfl) Tryz.underlying3

theorem body9 : ∃ c, Tryz.f9.body = some c := ⟨_, rfl⟩
/-- awake of layer 18 is true, in every world -/
theorem awake9_calls (m : Int) (fr : Nat × Nat) (w : World) (h : w.heap[1]? = some (.cells #[.int .i64 m] 3 fr)) :
    Calls Tryz.prog 9 #[] w fun e w' => e = .returned (.bool true) ∧ Below w.heap.size w w' := by
  obtain ⟨c, hc⟩ := body9
  have hr := (awake9_run m).mpr rfl
  rw [fast_call] at hr
  refine (calls_at (cx_ok tabP9_ok tabR9_ok) Tryz.func9 hc (K := fun v => v = .bool true) hr (HR.one (m := m) h rfl) rfl phi0_free (own_one m)).mono ?_
  rintro e w' ⟨v, y, rfl, rfl, hbl, φ', _, rfl⟩
  exact ⟨rfl, hbl⟩

theorem keep_heap {w w1 : World} {k : Nat} {o : Obj} (h : w.heap[k]? = some o) (hb : Below w.heap.size w w1) : w1.heap[k]? = some o := by
  obtain ⟨hlt, _⟩ := Array.getElem?_eq_some_iff.1 h
  rw [hb.block k hlt]; exact h

theorem outboxNone_any (seq h t : Int) (t1 t2 s1 s2 s3 s4 s5 : ByteArray) (w : World) (b1 : s1.size ≤ 1048576) (b2 : s2.size ≤ 1048576) (hs : w.ShapedOpen Tryz.prog) :
    Calls Tryz.prog 3 #[.agg #[.string t1, .string t2], .agg #[.int .i64 seq, .string s1, .string s2, .string s3, .string s4, .string s5, .int .i64 h, .int .i64 t]] w (fun e w' => e = .returned (.bool true) ∧ Below w.heap.size w w') := by
  obtain ⟨m, fr, hrow⟩ := maxLen_row hs
  have hm : w.cell? ⟨1, 0, none⟩ = some (.int .i64 m) := by simp [World.cell?, hrow]
  exact Tryz.outboxNone_calls seq h t t1 t2 s1 s2 s3 s4 s5 m w b1 b2 hm fun w' hb => awake9_calls m fr w' (keep_heap hrow hb)
end Go.Proofs.YtljfaogegcidgaaGreatDoor
