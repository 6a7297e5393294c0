/-
  SeatSum: the summaries of library functions, sound at this program.
-/
import Derived.Test.YtljfaogegcidgaaGreatDoorShelf
import Derived.Test.YtljfaogegcidgaaGreatDoorIns
import Derived.Test.YtljfaogegcidgaaGreatDoorCxz
set_option maxRecDepth 1000000
namespace Go.Proofs.YtljfaogegcidgaaGreatDoor
open Go Go.RowKit Dv

theorem body179 : ∃ c, Tryz.f179.body = some c := ⟨_, rfl⟩
theorem body113 : ∃ c, Tryz.f113.body = some c := ⟨_, rfl⟩
theorem body112 : ∃ c, Tryz.f112.body = some c := ⟨_, rfl⟩
theorem body36 : ∃ c, Tryz.f36.body = some c := ⟨_, rfl⟩
theorem body137 : ∃ c, Tryz.f137.body = some c := ⟨_, rfl⟩

theorem compare_ok : SumOK Tryz.prog 179 compareS := by
  obtain ⟨c, hc⟩ := body179
  exact compareS_ok noNG Tryz.func179 hc Tryz.strings_Compare
theorem replace_ok : SumOK Tryz.prog 113 replaceS := by
  obtain ⟨c, hc⟩ := body113
  exact replaceS_ok noNG Tryz.func113 hc fun s old new m w h1 h2 h3 h4 => Tryz.strings_ReplaceAll s old new m w h1 h2 h3 h4
theorem insert_ok : SumOK Tryz.prog 112 (insertS 78) := by
  obtain ⟨c, hc⟩ := body112
  exact insertS_ok noNG Tryz.func112 hc zPair.cells rfl
    (fun b off n c i vb voff vc cs vs w h1 h2 h3 h4 h5 h6 h7 h8 h9 h10 h11 h12 tA tB kA kB h13 h14 h15 h16 h17 => Tryz.ins_shift b off n c i vb voff vc cs vs w h1 h2 h3 h4 h5 h6 h7 h8 h9 h10 h11 h12 tA tB kA kB h13 h14 h15 h16 h17)
    (fun b off n c i vb voff vc cs vs w h1 h2 h3 h4 h5 h6 h7 h8 h9 h10 => Tryz.ins_grow b off n c i vb voff vc cs vs w h1 h2 h3 h4 h5 h6 h7 h8 h9 h10)
theorem sumP_ok {tab : List (List Nat × List Nat)} (h : ∀ p ∈ tab, (run Bad cx0 3000).call (.fn 36) [.str p.1] hNil (fun v _ => v = .str p.2)) : SumOK Tryz.prog 36 (memoS tab) := by
  obtain ⟨c, hc⟩ := body36
  exact memoS_ok cx0_ok Tryz.func36 hc h
theorem sumR_ok {tab : List (List Nat × List Nat)} (h : ∀ p ∈ tab, (run Bad cx0 3000).call (.fn 137) [.str p.1] hNil (fun v _ => v = .str p.2)) : SumOK Tryz.prog 137 (memoS tab) := by
  obtain ⟨c, hc⟩ := body137
  exact memoS_ok cx0_ok Tryz.func137 hc h

/-- the summaries: of the library, and of the two sums of bytes, by tables -/
noncomputable def sums (tp tr : List (List Nat × List Nat)) (f : Nat) : Option Summ :=
  cond (Nat.beq f 113) (some replaceS) (cond (Nat.beq f 179) (some compareS) (cond (Nat.beq f 112) (some (insertS 78)) (cond (Nat.beq f 36) (some (memoS tp)) (cond (Nat.beq f 137) (some (memoS tr)) none))))
noncomputable def cx (tp tr : List (List Nat × List Nat)) : Cx := ⟨Tryz.prog, sums tp tr⟩
theorem cx_ok {tp tr : List (List Nat × List Nat)} (hp : ∀ p ∈ tp, (run Bad cx0 3000).call (.fn 36) [.str p.1] hNil (fun v _ => v = .str p.2)) (hr : ∀ p ∈ tr, (run Bad cx0 3000).call (.fn 137) [.str p.1] hNil (fun v _ => v = .str p.2)) : CxOK (cx tp tr) Tryz.prog := by
  refine ⟨rfl, mixed, noNG, fun f s h => ?_⟩
  have h : sums tp tr f = some s := h
  unfold sums at h
  simp only [beq_dec] at h
  by_cases h1 : f = 113
  · subst h1; cases h; exact replace_ok
  simp only [h1, decide_false, cond_false] at h
  by_cases h2 : f = 179
  · subst h2; cases h; exact compare_ok
  simp only [h2, decide_false, cond_false] at h
  by_cases h3 : f = 112
  · subst h3; cases h; exact insert_ok
  simp only [h3, decide_false, cond_false] at h
  by_cases h4 : f = 36
  · subst h4; cases h; exact sumP_ok hp
  simp only [h4, decide_false, cond_false] at h
  by_cases h5 : f = 137
  · subst h5; cases h; exact sumR_ok hr
  simp only [h5, decide_false, cond_false] at h
  cases h
end Go.Proofs.YtljfaogegcidgaaGreatDoor
