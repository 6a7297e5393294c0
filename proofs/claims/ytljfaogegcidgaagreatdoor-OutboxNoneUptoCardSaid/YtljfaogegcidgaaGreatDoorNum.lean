/-
  path.Number comes to a text of 14 bytes at the most, at any number.
-/
import Derived.Test.YtljfaogegcidgaaGreatDoorJoin
import Derived.Test.YtljfaogegcidgaaGreatDoorCxz
import Derived.Test.YtljfaogegcidgaaGreatDoorDvJ
set_option maxRecDepth 1000000
namespace Go.Proofs.YtljfaogegcidgaaGreatDoor
open Go Go.RowKit Dv
/-- a text of at most so many bytes -/
def StrV (k : Nat) (v : V) : Prop := match v with
  | .str l => Nat.ble l.length k = true
  | _ => False
theorem run_number (n : Int) : (fast cx0 1000).call (.fn 64) [.int .i64 n] hNil (fun v _ => StrV 14 v) = (true = true) := by kernel_rfl

/-- a call that was run with its answer told in part: what it comes to, for a function with a text -/
theorem calls_at {C : Cx} {P : Program} (cx : CxOK C P) {n : Nat} {f : FuncId} {fn : Func} {c : Code} (hf : P.funcs[f]? = some fn) (hb : fn.body = some c) {args : List V} {h : H} {K : V → Prop} (hk : (run Bad C n).call (.fn f) args h (fun v _ => K v)) {φ : Phi} {w : World} {args' : Array Value} (hr : HR φ h w) (ha : rels φ args args'.toList) (hfr : ∀ n, Free φ h.n n) (ho : ∀ rb, ¬ own φ h rb) :
    Calls P f args' w fun e w' => ∃ v y, K v ∧ e = .returned y ∧ Below w.heap.size w w' ∧ ∃ φ', φ.le φ' ∧ rel φ' v y := by
  obtain ⟨v, h2, hI, _⟩ := (run_pt C n).call _ _ _ _ hk
  have hK := (hI _).1 hk
  rcases run_at cx ((hI (fun v2 _ => v2 = v)).2 rfl) hr ha hfr ho with ⟨_, h3⟩ | ⟨y, w', h1, _⟩
  · exact h3.mono fun e w' ⟨y, he, hbl, h4⟩ => ⟨v, y, hK, he, hbl, h4⟩
  · exact (callFunc_body hf hb h1).elim

theorem body64 : ∃ c, Tryz.f64.body = some c := ⟨_, rfl⟩
theorem number_any (n : Int) (w : World) : Calls Tryz.prog 64 #[.int .i64 n] w (StrUpTo 14 w) := by
  obtain ⟨c, hc⟩ := body64
  have h : (run Bad cx0 1000).call (.fn 64) [.int .i64 n] hNil (fun v _ => StrV 14 v) := by rw [← fast_call]; exact (run_number n).mpr rfl
  refine (calls_at cx0_ok Tryz.func64 hc h (HR.nil w) ⟨_, [], rfl, rfl, rfl⟩ phi0_free own_nil).mono ?_
  rintro e w' ⟨v, y, hK, rfl, hbl, φ', _, hrel⟩
  unfold StrV at hK
  split at hK
  · obtain ⟨s, rfl, hs⟩ := hrel
    refine ⟨s, ?_, rfl, hbl⟩
    have := congrArg List.length hs
    rw [bytesOf_length] at this
    rw [this]
    exact Nat.le_of_ble_eq_true hK
  · exact hK.elim
end Go.Proofs.YtljfaogegcidgaaGreatDoor
