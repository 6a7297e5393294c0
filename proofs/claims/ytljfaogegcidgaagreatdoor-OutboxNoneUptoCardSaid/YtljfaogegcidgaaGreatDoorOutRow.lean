/-
  How the arguments read, and what the row asks behind the call.
-/
import Derived.Test.YtljfaogegcidgaaGreatDoorCards
import Derived.Test.YtljfaogegcidgaaGreatDoorTie
import Derived.Test.YtljfaogegcidgaaGreatDoorAwake
import Derived.Test.YtljfaogegcidgaaGreatDoorDvK
import Derived.WalkKit
import Derived.ProofKit
import Derived.OpenShut
import Derived.Deep.DeepHandedRow
import Derived.Deep.DeepWitnessRowRef
import Derived.Lib.SmallJoins
import Derived.LaidHandle
set_option maxRecDepth 100000
namespace Go.Proofs.YtljfaogegcidgaaGreatDoor
open Go Go.ChangeShapes Go.WideShapes Go.ChangeAt Go.RowKit

section
variable {H : Type} {enc : TypeId × Value → H} {P : Program}

/-- what is asked behind a call whose arguments hold no address and that leaves old memory as it was -/
theorem post_flat {f : Func} {s : ChangeSpec} {apart fresh handsOn again : Bool} {W W' : World} {args : Array Value} {v : Value} {ds gs : List (DataW H)}
    (hW : DataW.Whole enc P f.params.toList s.vars apart W args.toList ds gs [])
    (hres : ∀ (b : Nat) (sp : Nat → Bool) (hd : Bool), DataW.TrodAll enc P W' b sp hd f.resultTypes.toList (v.resultList f.resultTypes.size) (s.fn H (ds ++ gs)).results [])
    (hargs : ∀ sp : Nat → Bool, DataW.TrodAll enc P W' 0 sp true f.params.toList args.toList (s.fn H (ds ++ gs)).args [])
    (hvars : ∀ sp : Nat → Bool, DataW.TrodVars enc P W' sp s.vars (s.fn H (ds ++ gs)).vars [])
    (hb : Below W.heap.size W W')
    (hok : ∀ (j : Nat) (t : TypeId) (r : Value), f.resultTypes[j]? = some t → (v.resultList f.resultTypes.size)[j]? = some r → Value.okWide P W' .any 0 t r) :
    s.post enc P f apart fresh handsOn again W args v W' := by
  refine ⟨ds, gs, [], [], [], [], hW, hres _ _ _, hargs _, hvars _, World.keptBut_mono (fun p hp => by cases hp) (hb.frame (· ∈ ([] : List MemPlace))), fun _ => ?_⟩
  refine ⟨hok, _, _, ([] ++ []) ++ [], ⟨[] ++ [], [], trodAll_append (hargs _) (hres _ _ _), hvars _, rfl, fun b off hp => (List.not_mem_nil hp).elim, fun _ => by simp⟩, fun p hp _ => (List.not_mem_nil hp).elim⟩

theorem array8 {α : Type} {cs : Array α} (h : cs.size = 8) : ∃ c0 c1 c2 c3 c4 c5 c6 c7, cs = #[c0, c1, c2, c3, c4, c5, c6, c7] := by
  obtain ⟨l⟩ := cs
  match l, h with
  | [c0, c1, c2, c3, c4, c5, c6, c7], _ => exact ⟨c0, c1, c2, c3, c4, c5, c6, c7, rfl⟩
end

/-- a packet that came in: its eight fields -/
theorem open_packet {H : Type} {enc : TypeId × Value → H} {w : World} {base : Nat} {spare : Nat → Bool} {held : Bool} {r : Reach} {b0 : Nat} {v : Value} {d : DataW H} {p : List MemPlace}
    (hv : Value.okWide Tryz.prog w r b0 25 v) (h : DataW.Trod enc Tryz.prog w base spare held 25 v d p) :
    ∃ (q : Int) (s1 s2 s3 s4 s5 : ByteArray) (a b : Int), v = .agg #[.int .i64 q, .string s1, .string s2, .string s3, .string s4, .string s5, .int .i64 a, .int .i64 b] ∧
      d = .agg [.lit (.int .i64 q), .lit (.string s1.data.toList), .lit (.string s2.data.toList), .lit (.string s3.data.toList), .lit (.string s4.data.toList), .lit (.string s5.data.toList), .lit (.int .i64 a), .lit (.int .i64 b)] := by
  obtain ⟨cs, rfl, hsz⟩ := okWide_struct Tryz.underlying25 hv
  obtain ⟨c0, c1, c2, c3, c4, c5, c6, c7, rfl⟩ := array8 (hsz.trans (by kernel_rfl))
  obtain ⟨fuel, hf⟩ := h
  obtain ⟨xs, n, _, hx, _, hlen, hfs⟩ := DataW.trod_struct Tryz.underlying25 hf
  simp only [Prod.mk.injEq] at hx
  match xs, hlen with
  | [y0, y1, y2, y3, y4, y5, y6, y7], _ =>
    have z3 : Tryz.prog.cellsOf 3 = 1 := by kernel_rfl
    have z9 : Tryz.prog.cellsOf 9 = 1 := by kernel_rfl
    have g0 : DataW.trod enc Tryz.prog w base spare held n 3 (List.take (Tryz.prog.cellsOf 3) [c0, c1, c2, c3, c4, c5, c6, c7]) = some y0 := hfs 0 _ rfl
    rw [z3] at g0
    obtain ⟨u0, e0, x0, _⟩ := DataW.trod_int Tryz.underlying3 g0
    obtain rfl := (List.cons.inj e0).1
    have g1 : DataW.trod enc Tryz.prog w base spare held n 9 (List.take (Tryz.prog.cellsOf 9) [c1, c2, c3, c4, c5, c6, c7]) = some y1 := hfs 1 _ rfl
    rw [z9] at g1
    obtain ⟨u1, e1, x1, _⟩ := DataW.trod_string Tryz.underlying9 g1
    obtain rfl := (List.cons.inj e1).1
    have g2 : DataW.trod enc Tryz.prog w base spare held n 9 (List.take (Tryz.prog.cellsOf 9) [c2, c3, c4, c5, c6, c7]) = some y2 := hfs 2 _ rfl
    rw [z9] at g2
    obtain ⟨u2, e2, x2, _⟩ := DataW.trod_string Tryz.underlying9 g2
    obtain rfl := (List.cons.inj e2).1
    have g3 : DataW.trod enc Tryz.prog w base spare held n 9 (List.take (Tryz.prog.cellsOf 9) [c3, c4, c5, c6, c7]) = some y3 := hfs 3 _ rfl
    rw [z9] at g3
    obtain ⟨u3, e3, x3, _⟩ := DataW.trod_string Tryz.underlying9 g3
    obtain rfl := (List.cons.inj e3).1
    have g4 : DataW.trod enc Tryz.prog w base spare held n 9 (List.take (Tryz.prog.cellsOf 9) [c4, c5, c6, c7]) = some y4 := hfs 4 _ rfl
    rw [z9] at g4
    obtain ⟨u4, e4, x4, _⟩ := DataW.trod_string Tryz.underlying9 g4
    obtain rfl := (List.cons.inj e4).1
    have g5 : DataW.trod enc Tryz.prog w base spare held n 9 (List.take (Tryz.prog.cellsOf 9) [c5, c6, c7]) = some y5 := hfs 5 _ rfl
    rw [z9] at g5
    obtain ⟨u5, e5, x5, _⟩ := DataW.trod_string Tryz.underlying9 g5
    obtain rfl := (List.cons.inj e5).1
    have g6 : DataW.trod enc Tryz.prog w base spare held n 3 (List.take (Tryz.prog.cellsOf 3) [c6, c7]) = some y6 := hfs 6 _ rfl
    rw [z3] at g6
    obtain ⟨u6, e6, x6, _⟩ := DataW.trod_int Tryz.underlying3 g6
    obtain rfl := (List.cons.inj e6).1
    have g7 : DataW.trod enc Tryz.prog w base spare held n 3 (List.take (Tryz.prog.cellsOf 3) [c7]) = some y7 := hfs 7 _ rfl
    rw [z3] at g7
    obtain ⟨u7, e7, x7, _⟩ := DataW.trod_int Tryz.underlying3 g7
    obtain rfl := (List.cons.inj e7).1
    refine ⟨u0, u1, u2, u3, u4, u5, u6, u7, rfl, ?_⟩
    rw [hx.1, x0, x1, x2, x3, x4, x5, x6, x7]
    rfl
end Go.Proofs.YtljfaogegcidgaaGreatDoor
