/-
  Summaries of library functions, tables of calls that were run once, arguments without addresses.
-/
import Derived.Test.YtljfaogegcidgaaGreatDoorDvI
import Derived.Test.YtljfaogegcidgaaGreatDoorDvJ
import Derived.Below
import Derived.Lib.Replace
import Derived.Lib.SplitLaws
import Derived.Lib.CountLaws
import Derived.Lib.Bytealg
import Derived.Laws.IdiomCopy
import Derived.Laws.AppendOwn
import Derived.ChangeSame
import Derived.OpenShut
import Derived.ChangeShapes
section
namespace Dv
open Go Go.RowKit

/-- a world in which what there was stands as it stood -/
theorem HR.kept {φ : Phi} {h : H} {w w' : World} (hr : HR φ h w) (hb : Below w.heap.size w w') : Fr φ h w φ h w' ∧ HR φ h w' :=
  ⟨⟨.refl φ, fun _ _ e e' => (by rw [e] at e'; cases e'), Nat.le_refl _, hb.size, hb.os, hb.tape, hb.output, fun rb hlt hn => ⟨hb.block rb hlt, hn⟩, fun _ _ h => h,
      fun rb r hr => ⟨r, by rw [hb.block rb (Array.getElem?_eq_some_iff.1 hr).1]; exact hr⟩⟩,
    ⟨fun b o l hg hφ => (hr.obj b o l hg hφ).mono (.refl φ) fun hl => hb.block _ (rb_lt (hr.obj b o l hg hφ) hl), hr.inj, hr.fix⟩⟩

/-- a summary of a function that makes nothing but its answer -/
theorem SumOK.pure {P : Program} {f : FuncId} {fn : Func} {c : Code} {s : Summ} (ng : NoNG P) (hf : P.funcs[f]? = some fn) (hb : fn.body = some c)
    (hs : ∀ args h a, s args h = some a → (∀ q, a.side = some q → q) → a.upd = [] ∧ a.new = [] ∧ ∀ (φ : Phi) (w : World) (args' : Array Value), HR φ h w → rels φ args args'.toList → Calls P f args' w fun e w' => ∃ y, e = .returned y ∧ rel φ a.v y ∧ Below w.heap.size w w') : SumOK P f s := by
  intro args h a ha hside φ w args' hr hargs _
  obtain ⟨h1, h2, h3⟩ := hs args h a ha hside
  refine .inl ⟨callFunc_enter ng hf hb, (h3 φ w args' hr hargs).mono fun e w' ⟨y, he, hy, hbl⟩ => ⟨y, he, φ, ?_⟩⟩
  rw [h1, h2]
  obtain ⟨g1, g2⟩ := hr.kept hbl
  exact ⟨g1, g2, hy⟩

/-! ### Lists for the kernel -/
noncomputable def appR {α : Type} (a b : List α) : List α := List.rec (motive := fun _ => List α) b (fun x _ ih => x :: ih) a
theorem appR_eq {α : Type} : ∀ a b : List α, appR a b = a ++ b
  | [], _ => rfl
  | x :: a, b => congrArg (x :: ·) (appR_eq a b)

noncomputable def cmpL (a : List Nat) : List Nat → Int :=
  List.rec (motive := fun _ => List Nat → Int) (fun b => List.rec (motive := fun _ => Int) (.ofNat 0) (fun _ _ _ => .negSucc 0) b)
    (fun x _ ih b => List.rec (motive := fun _ => Int) (.ofNat 1) (fun y b _ => cond (Nat.beq x y) (ih b) (cond (Nat.blt x y) (.negSucc 0) (.ofNat 1))) b) a
theorem cmpL_eq : ∀ a b : List UInt8, cmpL (a.map UInt8.toNat) (b.map UInt8.toNat) = Lib.compareBytes a b
  | [], [] => rfl
  | [], _ :: _ => rfl
  | _ :: _, [] => rfl
  | x :: a, y :: b => by
    show cond (Nat.beq x.toNat y.toNat) (cmpL (a.map UInt8.toNat) (b.map UInt8.toNat)) (cond (Nat.blt x.toNat y.toNat) (.negSucc 0) (.ofNat 1)) = _
    rw [cmpL_eq a b, Lib.compareBytes, beq_dec, blt_dec]
    by_cases h1 : x.toNat = y.toNat
    · have e : x = y := UInt8.toNat_inj.1 h1
      subst e
      simp
    · by_cases h2 : x.toNat < y.toNat
      · have : x < y := UInt8.lt_iff_toNat_lt.2 h2
        simp [h1, h2, this]
      · have n1 : ¬ x < y := fun h => h2 (UInt8.lt_iff_toNat_lt.1 h)
        have n2 : y < x := UInt8.lt_iff_toNat_lt.2 (by omega)
        simp [h1, h2, n1, n2]

noncomputable def replL (c : Nat) (n s : List Nat) : List Nat := List.rec (motive := fun _ => List Nat) [] (fun x _ ih => cond (Nat.beq x c) (appR n ih) (x :: ih)) s
theorem replL_cons (c : Nat) (n : List Nat) (x : Nat) (s : List Nat) : replL c n (x :: s) = if x = c then n ++ replL c n s else x :: replL c n s := by
  show cond (Nat.beq x c) (appR n (replL c n s)) (x :: replL c n s) = _
  rw [beq_dec, appR_eq]
  by_cases h : x = c <;> simp [h]

theorem replaceK_one (c : UInt8) (new : List UInt8) : ∀ (s : List UInt8) (k : Nat), Lib.count s [c] = k → (Lib.replaceK [c] new k s).map UInt8.toNat = replL c.toNat (new.map UInt8.toNat) (s.map UInt8.toNat)
  | [], k, h => by
    have : k = 0 := by rw [← h, Lib.count_one]; rfl
    subst this; rfl
  | b :: l, k, h => by
    rw [List.map_cons, replL_cons]
    by_cases hb : b = c
    · subst hb
      rw [Lib.count_cons_eq] at h
      obtain ⟨k', rfl⟩ : ∃ k', k = k' + 1 := ⟨k - 1, by omega⟩
      have hi : Lib.index (b :: l) [b] = ((0 : Nat) : Int) := by simp [Lib.index, List.isPrefixOf]
      rw [Lib.replaceK_hit _ _ _ _ _ hi, if_pos rfl]
      have ih := replaceK_one b new l k' (by omega)
      simp only [List.take_zero, List.nil_append, List.map_append, List.length_cons, List.length_nil, Nat.zero_add, List.drop_succ_cons, List.drop_zero, ih]
    · have hne : ¬ b.toNat = c.toNat := fun h => hb (UInt8.toNat_inj.1 h)
      rw [if_neg hne]
      rw [Lib.count_cons_ne b c l hb] at h
      have ih := replaceK_one c new l k h
      rw [← ih]
      cases k with
      | zero => rfl
      | succ k =>
        obtain ⟨i, hi⟩ := Lib.index_of_count (s := l) (old := [c]) (by omega)
        have hi2 : Lib.index (b :: l) [c] = ((i + 1 : Nat) : Int) := by
          have hp : List.isPrefixOf [c] (b :: l) = false := by simp [List.isPrefixOf, Ne.symm hb]
          have hm : ¬ ((i : Int) == -1) = true := fun e => by have := beq_iff_eq.1 e; omega
          rw [Lib.index, hp, hi]
          simp only [Bool.false_eq_true, if_false, if_neg hm]
          omega
        rw [Lib.replaceK_hit _ _ _ _ _ hi2, Lib.replaceK_hit _ _ _ _ _ hi]
        have e : i + 1 + [c].length = (i + [c].length) + 1 := by simp
        rw [e]
        simp only [List.take_succ_cons, List.drop_succ_cons, List.cons_append, List.map_cons]

theorem replaceAll_one (c : UInt8) (new s : List UInt8) (hne : [c] ≠ new) : (Lib.replaceAll s [c] new).map UInt8.toNat = replL c.toNat (new.map UInt8.toNat) (s.map UInt8.toNat) := by
  have h1 : ([c] == new) = false := by simpa using hne
  have h2 : Lib.replaceNum s [c] (-1) = Lib.count s [c] := by unfold Lib.replaceNum; rw [if_pos (.inl (by omega))]
  unfold Lib.replaceAll Lib.replace
  rw [h1, h2]
  simp only [Bool.false_eq_true, if_false]
  exact replaceK_one c new s _ rfl

theorem bytesOf_mk (l : List UInt8) : bytesOf ⟨l.toArray⟩ = l.map UInt8.toNat := by simp [bytesOf]

/-! ### The two summaries -/
noncomputable def compareS : Summ := fun args _ => match args with
  | [.str a, .str b] => some ⟨.int .i64 (cmpL a b), [], [], none⟩
  | _ => none
noncomputable def replaceS : Summ := fun args h => match args with
  | [.str s, .str [c], .str n] => match h.get 0 with
    | some (.cells [.int .i64 _] _ false _ _) => cond (Nat.ble (lenR s) 16777216) (cond (Nat.ble (lenR n) 16) (cond (eqL [c] n) none (some ⟨.str (replL c n s), [], [], none⟩)) none) none
    | _ => none
  | _ => none

theorem rels_three {φ : Phi} {a b c : V} {xs : Array Value} (h : rels φ [a, b, c] xs.toList) : ∃ x y z, xs = #[x, y, z] ∧ rel φ a x ∧ rel φ b y ∧ rel φ c z := by
  obtain ⟨x, l1, e1, h1, y, l2, e2, h2, z, l3, e3, h3, e4⟩ := h
  subst e4; subst e3; subst e2
  exact ⟨x, y, z, by apply Array.ext'; simpa using e1, h1, h2, h3⟩
theorem rels_two {φ : Phi} {a b : V} {xs : Array Value} (h : rels φ [a, b] xs.toList) : ∃ x y, xs = #[x, y] ∧ rel φ a x ∧ rel φ b y := by
  obtain ⟨x, l1, e1, h1, y, l2, e2, h2, e4⟩ := h
  subst e4; subst e2
  exact ⟨x, y, by apply Array.ext'; simpa using e1, h1, h2⟩
theorem rels_one {φ : Phi} {a : V} {xs : Array Value} (h : rels φ [a] xs.toList) : ∃ x, xs = #[x] ∧ rel φ a x := by
  obtain ⟨x, l1, e1, h1, e4⟩ := h
  subst e4
  exact ⟨x, by apply Array.ext'; simpa using e1, h1⟩

theorem compareS_ok {P : Program} {f : FuncId} {fn : Func} {c : Code} (ng : NoNG P) (hf : P.funcs[f]? = some fn) (hb : fn.body = some c)
    (hc : ∀ (a b : ByteArray) (w : World), Calls P f #[.string a, .string b] w fun e w' => e = .returned (.int .i64 (Lib.compareBytes a.data.toList b.data.toList)) ∧ w' = w) : SumOK P f compareS := by
  refine SumOK.pure ng hf hb fun args h a ha _ => ?_
  unfold compareS at ha
  split at ha
  · rename_i x y
    cases ha
    refine ⟨rfl, rfl, fun φ w args' hr hargs => ?_⟩
    obtain ⟨x', y', rfl, ⟨s1, rfl, rfl⟩, ⟨s2, rfl, rfl⟩⟩ := rels_two hargs
    refine (hc s1 s2 w).mono fun e w' ⟨he, hw⟩ => ⟨_, he, ?_, by subst hw; exact Below.refl _ _⟩
    show Value.int .i64 _ = Value.int .i64 _
    rw [← cmpL_eq]; rfl
  · cases ha

/-- the package variable that contracts ask for, where the evaluator's block 0 holds a whole number that is not to be written -/
def G0 (h : H) : Prop := ∃ m e lo hi, h.get 0 = some (.cells [.int .i64 m] e false lo hi)
theorem HR.ml {φ : Phi} {h : H} {w : World} (hr : HR φ h w) (g : G0 h) : ∃ m, w.cell? ⟨gLoc.rb, 0, none⟩ = some (.int .i64 m) := by
  obtain ⟨m, e, lo, hi, hg⟩ := g
  obtain ⟨c, fr, h1, _, _, h4, _⟩ := hr.obj 0 _ gLoc hg hr.fix
  obtain ⟨x, hx, hxr⟩ := h4 0 (.int .i64 m) rfl
  cases hxr
  refine ⟨m, ?_⟩
  rw [cell_eq h1]
  exact hx
theorem replaceS_ok {P : Program} {f : FuncId} {fn : Func} {c : Code} (ng : NoNG P) (hf : P.funcs[f]? = some fn) (hb : fn.body = some c)
    (hc : ∀ (s old new : ByteArray) (m : Int) (w : World), s.size < 4294967281 → w.cell? ⟨gLoc.rb, 0, none⟩ = some (.int .i64 m) → 1 ≤ old.size → s.size + Lib.countB s old * new.size ≤ 140737488355328 →
      Calls P f #[.string s, .string old, .string new] w fun e w' => e = .returned (.string ⟨(Lib.replaceAll s.data.toList old.data.toList new.data.toList).toArray⟩) ∧ Below w.heap.size w w') : SumOK P f replaceS := by
  refine SumOK.pure ng hf hb fun args h a ha _ => ?_
  unfold replaceS at ha
  split at ha
  · rename_i s c n
    split at ha
    case h_2 => cases ha
    rename_i m0 e0 lo0 hi0 hg0
    rw [ble_dec, lenR_eq, lenL_eq] at ha
    by_cases h1 : s.length ≤ 16777216
    · simp only [h1, decide_true, cond_true] at ha
      rw [ble_dec, lenR_eq, lenL_eq] at ha
      by_cases h2 : n.length ≤ 16
      · simp only [h2, decide_true, cond_true] at ha
        cases h3 : eqL [c] n with
        | true => rw [h3] at ha; cases ha
        | false =>
          rw [h3] at ha
          cases ha
          refine ⟨rfl, rfl, fun φ w args' hr hargs => ?_⟩
          obtain ⟨x, y, z, rfl, ⟨s', rfl, rfl⟩, ⟨o', rfl, ho⟩, ⟨n', rfl, rfl⟩⟩ := rels_three hargs
          obtain ⟨m, hm⟩ := hr.ml ⟨m0, e0, lo0, hi0, hg0⟩
          have hs' := bytesOf_length s'
          have hn' := bytesOf_length n'
          have ho' : o'.size = 1 := by rw [← bytesOf_length, ho]; rfl
          obtain ⟨u, hu⟩ : ∃ u, o'.data.toList = [u] := List.length_eq_one_iff.1 (by rw [Array.length_toList]; exact ho')
          have huc : u.toNat = c := by
            unfold bytesOf at ho
            rw [hu] at ho
            simpa using ho
          have hcnt : Lib.countB s' o' ≤ s'.size + 1 := by
            have := Lib.count_le s'.data.toList o'.data.toList
            rw [Array.length_toList] at this
            exact this
          have hroom : s'.size + Lib.countB s' o' * n'.size ≤ 140737488355328 := by
            have : Lib.countB s' o' * n'.size ≤ 16777217 * 16 := Nat.mul_le_mul (by omega) (by omega)
            omega
          refine (hc s' o' n' m w (by omega) hm (by omega) hroom).mono fun e w' ⟨he, hw⟩ => ⟨_, he, ⟨_, rfl, ?_⟩, hw⟩
          rw [bytesOf_mk, hu, replaceAll_one u _ _ fun h => ?_, huc]
          · rfl
          · have : eqL [c] (bytesOf n') = true := by
              rw [eqL_iff]
              simp only [decide_eq_true_eq]
              unfold bytesOf
              rw [← h]; simp [huc]
            rw [this] at h3; cases h3
      · simp only [h2, decide_false, cond_false] at ha; cases ha
    · simp only [h1, decide_false, cond_false] at ha; cases ha
  · cases ha

end Dv
end

section
namespace Dv
open Go Go.RowKit

/-- A block goes over into a new one that lies where it lay (or in a part of it). -/
theorem HR.turn {φ : Phi} {h : H} {w w' : World} {b : Nat} {l L : Loc} {cs cells : List V} {e e' : TypeId} {lo hi lo' hi' : Nat} (hr : HR φ h w) (hg : h.get b = some (.cells cs e true lo hi)) (hφ : φ b = some l) (hf : φ h.n = none) (hL : L.rb = l.rb)
    (hobj : objRel (φ.set h.n L) w' L (.cells cells e' true lo' hi')) (hold : ∀ rb, rb ≠ l.rb → w'.heap[rb]? = w.heap[rb]?) (hsz : w.heap.size ≤ w'.heap.size) (hos : w'.os = w.os) (htape : w'.tape = w.tape) (hout : w'.output = w.output) :
    Fr φ h w (φ.set h.n L) ((h.upd b .dead).push (.cells cells e' true lo' hi')) w' ∧ HR (φ.set h.n L) ((h.upd b .dead).push (.cells cells e' true lo' hi')) w' := by
  have hle := Phi.le_set (l := L) hf
  have hreal : ∀ r : Loop, w.heap[l.rb]? ≠ some (.loop r) := fun r hr' => by
    obtain ⟨c, fr, h1, _⟩ := hr.obj b _ l hg hφ
    rw [h1] at hr'; cases hr'
  have old : ∀ {b' : Nat} {o' : O} {l' : Loc}, ((h.upd b .dead).push (.cells cells e' true lo' hi')).get b' = some o' → (φ.set h.n L) b' = some l' → o'.live = true →
      (b' = h.n ∧ l' = L ∧ o' = .cells cells e' true lo' hi') ∨ (b' ≠ h.n ∧ b' ≠ b ∧ h.get b' = some o' ∧ φ b' = some l') := by
    intro b' o' l' hg' hφ' hl'
    rcases H.get_push hg' with ⟨rfl, rfl⟩ | ⟨hb', hg'⟩
    · have : φ.set h.n L h.n = some l' := hφ'
      rw [Phi.set_self] at this; cases this
      exact .inl ⟨rfl, rfl, rfl⟩
    · rcases H.get_upd hg' with ⟨_, rfl⟩ | ⟨hbb, hg'⟩
      · cases hl'
      · have hb'' : b' < h.n := hb'
        unfold Phi.set at hφ'
        rw [if_neg (by omega)] at hφ'
        exact .inr ⟨by omega, hbb, hg', hφ'⟩
  refine ⟨⟨hle, fun b' x e1 e2 => ?_, Nat.le_succ _, hsz, hos, htape, hout, fun rb hlt hown => ?_, ?_, fun rb r hr' => ⟨r, by rw [hold rb fun e => hreal r (e ▸ hr')]; exact hr'⟩⟩, ⟨?_, ?_, hle _ _ hr.fix⟩⟩
  · unfold Phi.set at e2
    split at e2
    · rename_i hb; subst hb; exact ⟨Nat.le_refl _, Nat.lt_succ_self _⟩
    · rw [e1] at e2; cases e2
  · have hne : rb ≠ l.rb := fun h' => hown ⟨b, l, _, hg, rfl, hφ, h'.symm⟩
    refine ⟨hold rb hne, fun ⟨b', l', o', hg', hrw', hφ', hrb'⟩ => ?_⟩
    rcases old hg' hφ' (O.live_of_rw hrw') with ⟨rfl, rfl, _⟩ | ⟨_, _, k1, k2⟩
    · exact hne (hrb'.symm.trans hL)
    · exact hown ⟨b', l', o', k1, hrw', k2, hrb'⟩
  · rintro rb _ ⟨b', l', o', hg', hlv', hφ', hrb'⟩
    rcases old hg' hφ' hlv' with ⟨rfl, rfl, _⟩ | ⟨_, _, k1, k2⟩
    · exact ⟨b, l, _, hg, rfl, hφ, hL.symm.trans hrb'⟩
    · exact ⟨b', l', o', k1, hlv', k2, hrb'⟩
  · intro b' o' l' hg' hφ'
    by_cases hl' : o'.live = true
    · rcases old hg' hφ' hl' with ⟨rfl, rfl, rfl⟩ | ⟨_, hbb, k1, k2⟩
      · exact hobj
      · have ho := hr.obj b' o' l' k1 k2
        refine ho.mono hle fun hl => hold _ fun hrb => ?_
        exact hbb (hr.inj b b' _ o' l l' hg k1 hφ k2 hrb.symm rfl hl rfl).symm
    · cases o' with
      | dead => trivial
      | cells => exact (hl' rfl).elim
      | loop => exact (hl' rfl).elim
  · intro b1 b2 o1 o2 l1 l2 h1 h2 p1 p2 hrb hl1 hl2 hrw1
    rcases old h1 p1 hl1 with ⟨e1, e2, _⟩ | ⟨e1, e2, e3, e4⟩ <;> rcases old h2 p2 hl2 with ⟨f1, f2, _⟩ | ⟨f1, f2, f3, f4⟩
    · rw [e1, f1]
    · subst e2
      exact absurd (hr.inj b b2 _ o2 l l2 hg f3 hφ f4 (hL.symm.trans hrb) rfl hl2 rfl).symm f2
    · subst f2
      exact absurd (hr.inj b b1 _ o1 l l1 hg e3 hφ e4 (hL.symm.trans hrb.symm) rfl hl1 rfl).symm e2
    · exact hr.inj b1 b2 o1 o2 l1 l2 e3 f3 e4 f4 hrb hl1 hl2 hrw1

/-- what a run of cells that is put in leaves -/
theorem setCells_spec (b : Nat) {t : TypeId} {fr : Nat × Nat} : ∀ (vs : List Value) (o : Nat) (w : World) (c : Array Value), w.heap[b]? = some (.cells c t fr) → o + vs.length ≤ c.size →
    ∃ c', (w.setCells b o vs).heap[b]? = some (.cells c' t fr) ∧ c'.size = c.size ∧ (∀ k, c'[k]? = if o ≤ k ∧ k < o + vs.length then vs[k - o]? else c[k]?) ∧
      (∀ r, r ≠ b → (w.setCells b o vs).heap[r]? = w.heap[r]?) ∧ (w.setCells b o vs).heap.size = w.heap.size ∧ (w.setCells b o vs).os = w.os ∧ (w.setCells b o vs).tape = w.tape ∧ (w.setCells b o vs).output = w.output
  | [], o, w, c, hc, _ => ⟨c, hc, rfl, fun k => by rw [if_neg (by simp)], fun _ _ => rfl, rfl, rfl, rfl, rfl⟩
  | v :: vs, o, w, c, hc, hle => by
    simp only [List.length_cons] at hle
    have h1 : (w.setCell ⟨b, o, none⟩ v).heap[b]? = some (.cells (c.setIfInBounds o v) t fr) := by
      simp only [World.setCell, Array.getElem?_modify, if_true, hc]
      rfl
    obtain ⟨c', k1, k2, k3, k4, k5, k6, k7, k8⟩ := setCells_spec b vs (o + 1) (w.setCell ⟨b, o, none⟩ v) (c.setIfInBounds o v) h1 (by simp; omega)
    refine ⟨c', k1, by simpa using k2, fun k => ?_, fun r hr => (k4 r hr).trans ?_, k5.trans (by simp [World.setCell]), k6, k7, k8⟩
    · rw [k3, List.length_cons]
      by_cases hk : k = o
      · subst hk
        rw [if_neg (by omega), if_pos (by omega), Array.getElem?_setIfInBounds]
        simp only [if_true, Nat.sub_self, List.getElem?_cons_zero]
        rw [if_pos (by omega)]
      · by_cases hin : o + 1 ≤ k ∧ k < o + 1 + vs.length
        · rw [if_pos hin, if_pos (by omega)]
          have : k - o = (k - (o + 1)) + 1 := by omega
          rw [this, List.getElem?_cons_succ]
        · rw [if_neg hin, if_neg (by omega), Array.getElem?_setIfInBounds, if_neg (by omega)]
    · simp only [World.setCell, Array.getElem?_modify]
      rw [if_neg (fun h => hr h.symm)]

/-- one pair put in ahead of others -/
noncomputable def insertS (e : TypeId) : Summ := fun args h => match args with
  | [.slice b o len _ fz, .int .i64 (.ofNat i), .slice vb vo 1 _ _] =>
    match h.get b, h.get vb with
    | some (.cells cs e' true 0 0), some (.cells vs _ _ 0 0) =>
      match sub? cs o (Nat.mul len 2), sub? vs vo 2 with
      | some old, some new =>
        cond (Nat.blt i len) (cond (Nat.beq b vb) none (cond (Nat.beq fz 2) (cond (Nat.beq e' e) (cond (Nat.ble len 1048576) (cond (allOne old) (cond (allOne new)
          (some ⟨.slice h.n 0 (Nat.succ len) (Nat.succ len) 2, [(b, .dead)], [.cells (appR (takeN (Nat.mul i 2) old) (appR new (dropN (Nat.mul i 2) old))) e true 0 0], none⟩)
          none) none) none) none) none)) none
      | _, _ => none
    | _, _ => none
  | _ => none

theorem insertS_some {e : TypeId} {args : List V} {h : H} {a : Ans} (ha : insertS e args h = some a) :
    ∃ b o len cap i vb vo vc vfz cs vs evb rwv old new, args = [.slice b o len cap 2, .int .i64 (.ofNat i), .slice vb vo 1 vc vfz] ∧ h.get b = some (.cells cs e true 0 0) ∧ h.get vb = some (.cells vs evb rwv 0 0) ∧
      sub? cs o (len * 2) = some old ∧ sub? vs vo 2 = some new ∧ i < len ∧ b ≠ vb ∧ len ≤ 1048576 ∧ allOne old = true ∧ allOne new = true ∧
      a = ⟨.slice h.n 0 (len + 1) (len + 1) 2, [(b, .dead)], [.cells (old.take (i * 2) ++ (new ++ old.drop (i * 2))) e true 0 0], none⟩ := by
  unfold insertS at ha
  split at ha
  case h_2 => cases ha
  rename_i b o len cap fz i vb vo vc vfz
  split at ha
  case h_2 => cases ha
  rename_i cs e' vs evb rwv hb hvb
  split at ha
  case h_2 => cases ha
  rename_i old new hold hnew
  simp only [blt_dec, beq_dec, ble_dec] at ha
  by_cases h1 : i < len <;> simp only [h1, decide_true, decide_false, cond_true, cond_false] at ha <;> try (cases ha; done)
  by_cases h2 : b = vb <;> simp only [h2, decide_true, decide_false, cond_true, cond_false] at ha <;> try (cases ha; done)
  by_cases h3 : fz = 2 <;> simp only [h3, decide_true, decide_false, cond_true, cond_false] at ha <;> try (cases ha; done)
  by_cases h4 : e' = e <;> simp only [h4, decide_true, decide_false, cond_true, cond_false] at ha <;> try (cases ha; done)
  by_cases h5 : len ≤ 1048576 <;> simp only [h5, decide_true, decide_false, cond_true, cond_false] at ha <;> try (cases ha; done)
  cases h6 : allOne old <;> rw [h6] at ha <;> try (cases ha; done)
  cases h7 : allOne new <;> rw [h7] at ha <;> try (cases ha; done)
  cases ha
  subst h3; subst h4
  refine ⟨b, o, len, cap, i, vb, vo, vc, vfz, cs, vs, evb, rwv, old, new, rfl, hb, hvb, hold, hnew, h1, h2, h5, h6, h7, ?_⟩
  simp only [appR_eq, takeN_eq, dropN_eq]
  rfl

/-- how two lists, one put into the other, are read -/
theorem get_ins {α : Type} {old new : List α} {i m : Nat} (hi : i ≤ old.length) (hm : new.length = m) (k : Nat) :
    (old.take i ++ (new ++ old.drop i))[k]? = if k < i then old[k]? else if k < i + m then new[k - i]? else old[k - m]? := by
  have hl : (old.take i).length = i := by rw [List.length_take]; omega
  by_cases h1 : k < i
  · rw [if_pos h1, List.getElem?_append_left (by omega), List.getElem?_take, if_pos h1]
  · rw [if_neg h1, List.getElem?_append_right (by omega), hl]
    by_cases h2 : k < i + m
    · rw [if_pos h2, List.getElem?_append_left (by omega)]
    · rw [if_neg h2, List.getElem?_append_right (by omega), List.getElem?_drop]
      congr 1; omega

theorem insertS_ok {P : Program} {f : FuncId} {fn : Func} {c : Code} {e : TypeId} (ng : NoNG P) (hfn : P.funcs[f]? = some fn) (hbd : fn.body = some c)
    (zc : Array Value) (hzc : zc.size = 2)
    (hshift : ∀ (b off n c i vb voff vc : Nat) (cs vs : List Value) (w : World), i < n → n + 1 ≤ c → n ≤ 1048576 → vb ≠ b → cs.length = n * 2 → vs.length = 2 →
      (∀ j v, cs[j]? = some v → w.cell? ⟨b, off + j, none⟩ = some v) → (∀ j, j < (n + 1) * 2 → (w.cell? ⟨b, off + j, none⟩).isSome = true) → (∀ j, j < (n + 1) * 2 → w.frozen? ⟨b, off + j, none⟩ = false) →
      (∀ j v, vs[j]? = some v → w.cell? ⟨vb, voff + j, none⟩ = some v) → (∀ v ∈ cs, v.oneCell' = true) → (∀ v ∈ vs, v.oneCell' = true) →
      ∀ (tA tB : TypeId) (kA kB : Nat), w.shape? vb = some (tA, kA) → w.shape? b = some (tB, kB) → kB ≠ 0 → w.frozen? ⟨vb, voff, none⟩ = false → w.frozen? ⟨vb, kA, none⟩ = false →
      Calls P f #[.slice (some ⟨b, off, none⟩) n c, .int .i64 i, .slice (some ⟨vb, voff, none⟩) 1 vc] w fun e w' =>
        e = .returned (.slice (some ⟨b, off, none⟩) (n + 1) c) ∧ w' = (w.drew.setCells b (off + (i + 1) * 2) (cs.drop (i * 2))).setCells b (off + i * 2) vs)
    (hgrow : ∀ (b off n c i vb voff vc : Nat) (cs vs : List Value) (w : World), i < n → n ≤ c → c < n + 1 → (n + 1) * 32 ≤ 140737488355328 → cs.length = n * 2 → vs.length = 2 →
      (∀ j v, cs[j]? = some v → w.cell? ⟨b, off + j, none⟩ = some v) → (∀ j v, vs[j]? = some v → w.cell? ⟨vb, voff + j, none⟩ = some v) → (∀ v ∈ cs, v.oneCell' = true) → (∀ v ∈ vs, v.oneCell' = true) →
      Calls P f #[.slice (some ⟨b, off, none⟩) n c, .int .i64 i, .slice (some ⟨vb, voff, none⟩) 1 vc] w fun e' w' =>
        e' = .returned (.slice (some ⟨w.heap.size, 0, none⟩) (n + 1) (grownCap w (n + 1) c e)) ∧
        w' = (((w.alloc (.cells ((cs.take (i * 2)).toArray ++ Builtin.zeroCells zc (n + 1 - i) ++ Builtin.zeroCells zc (grownCap w (n + 1) c e - (n + 1))) e)).drew.setCells w.heap.size (i * 2) vs).drew).setCells w.heap.size ((i + 1) * 2) (cs.drop (i * 2))) :
    SumOK P f (insertS e) := by
  intro args h a ha _ φ w args' hr hargs hfree
  obtain ⟨b, o, len, cap, i, vb, vo, vc, vfz, cs, vs, evb, rwv, old, new, rfl, hb, hvb, hold, hnew, hi, hbv, hlen, hone, honev, rfl⟩ := insertS_some ha
  obtain ⟨x, y, z, rfl, ⟨l, off, cap', hφ, rfl, hlc, hcc, _, htot, hoff, hbase⟩, hy, ⟨l2, off2, cap2, hφ2, rfl, hlc2, _, _, _, hoff2, hbase2⟩⟩ := rels_three hargs
  cases hy
  have hn : φ h.n = none := hfree h.n (Nat.le_refl _) (Nat.lt_succ_self _)
  obtain ⟨C, fr, g1, g2, g3, g4, g5, g6⟩ := hr.obj b _ l hb hφ
  obtain ⟨C2, fr2, k1, k2, k3, k4, k5, k6⟩ := hr.obj vb _ l2 hvb hφ2
  obtain ⟨hold, holdl⟩ := sub?_eq hold
  obtain ⟨hnew, hnewl⟩ := sub?_eq hnew
  have ho : off = l.base + o := hoff (.inr (by omega))
  have ho2 : off2 = l2.base + vo := hoff2 (.inr (by omega))
  subst ho; subst ho2
  have htot := htot (by decide)
  have hg6 := g6 rfl rfl
  have hk6 := k6 rfl rfl
  have hne : l2.rb ≠ l.rb := fun he => hbv (hr.inj b vb _ _ l l2 hb hvb hφ hφ2 he.symm rfl rfl rfl)
  -- what the model reads
  have hgetO : ∀ (q : Nat) (u : V), old[q]? = some u → ∃ x, C[l.base + o + q]? = some x ∧ rel φ u x := fun q u hu => by
    rw [hold, List.getElem?_take] at hu
    split at hu
    · rw [List.getElem?_drop] at hu
      obtain ⟨x, hx, hxr⟩ := g4 _ u hu
      exact ⟨x, by rw [← hx]; congr 1; omega, hxr⟩
    · cases hu
  have hgetN : ∀ (q : Nat) (u : V), new[q]? = some u → ∃ x, C2[l2.base + vo + q]? = some x ∧ rel φ u x := fun q u hu => by
    rw [hnew, List.getElem?_take] at hu
    split at hu
    · rw [List.getElem?_drop] at hu
      obtain ⟨x, hx, hxr⟩ := k4 _ u hu
      exact ⟨x, by rw [← hx]; congr 1; omega, hxr⟩
    · cases hu
  obtain ⟨xs, hxs, hxsl⟩ : ∃ xs : List Value, rels φ old xs ∧ ∀ q v, xs[q]? = some v → C[l.base + o + q]? = some v := by
    refine ⟨(readC C (l.base + o) (len * 2)), ?_, ?_⟩
    · have := (run_loads' (P := P) (φ := φ) (w := w) (off := l.base + o) g1 hgetO).2
      rw [holdl] at this; exact this
    · intro q v hq
      unfold readC at hq
      rw [List.getElem?_map] at hq
      cases hr' : (List.range (len * 2))[q]? with
      | none => rw [hr'] at hq; cases hq
      | some j =>
        rw [hr'] at hq
        have hj := List.getElem?_eq_some_iff.1 hr'
        obtain ⟨hlt, hje⟩ := hj
        simp only [List.getElem_range] at hje
        subst hje
        simp only [Option.map_some, Option.some.injEq] at hq
        obtain ⟨x, hx, _⟩ := hgetO q (old[q]'(by rw [holdl]; simpa using hlt)) (List.getElem?_eq_getElem _)
        rw [hx]
        rw [← hq]
        simp [hx]
  obtain ⟨ys, hys, hysl⟩ : ∃ ys : List Value, rels φ new ys ∧ ∀ q v, ys[q]? = some v → C2[l2.base + vo + q]? = some v := by
    refine ⟨(readC C2 (l2.base + vo) 2), ?_, ?_⟩
    · have := (run_loads' (P := P) (φ := φ) (w := w) (off := l2.base + vo) k1 hgetN).2
      rw [hnewl] at this; exact this
    · intro q v hq
      unfold readC at hq
      rw [List.getElem?_map] at hq
      cases hr' : (List.range 2)[q]? with
      | none => rw [hr'] at hq; cases hq
      | some j =>
        rw [hr'] at hq
        obtain ⟨hlt, hje⟩ := List.getElem?_eq_some_iff.1 hr'
        simp only [List.getElem_range] at hje
        subst hje
        simp only [Option.map_some, Option.some.injEq] at hq
        obtain ⟨x, hx, _⟩ := hgetN q (new[q]'(by rw [hnewl]; simpa using hlt)) (List.getElem?_eq_getElem _)
        rw [hx]
        rw [← hq]
        simp [hx]
  have hxl : xs.length = len * 2 := by rw [← hxs.length]; exact holdl
  have hyl : ys.length = 2 := by rw [← hys.length]; exact hnewl
  have hnone : ∀ j, j < C.size + 1 → w.frozen? ⟨l.rb, j, none⟩ = false := fun j hj => by
    simp only [World.frozen?, g1]
    by_cases hh : fr.1 ≤ j ∧ j < fr.2
    · exact (hg6 j (by omega) hh.1 hh.2).elim
    · simpa using hh
  have hnone2 : ∀ j, j < C2.size + 1 → w.frozen? ⟨l2.rb, j, none⟩ = false := fun j hj => by
    simp only [World.frozen?, k1]
    by_cases hh : fr2.1 ≤ j ∧ j < fr2.2
    · exact (hk6 j (by omega) hh.1 hh.2).elim
    · simpa using hh
  have hcell : ∀ j, w.cell? ⟨l.rb, j, none⟩ = C[j]? := fun j => cell_eq g1 j
  have hcell2 : ∀ j, w.cell? ⟨l2.rb, j, none⟩ = C2[j]? := fun j => cell_eq k1 j
  have hCs : l.base + o + cap' * 2 ≤ C.size := by rw [g2]; exact htot
  have hC2 : l2.base + vo + 2 ≤ C2.size := by
    have h0 := hysl 1 (ys[1]'(by omega)) (List.getElem?_eq_getElem _)
    have := (Array.getElem?_eq_some_iff.1 h0).1
    omega
  refine .inl ⟨callFunc_enter ng hfn hbd, ?_⟩
  have hgl : ∀ k, (old.take (i * 2) ++ (new ++ old.drop (i * 2)))[k]? = if k < i * 2 then old[k]? else if k < i * 2 + 2 then new[k - i * 2]? else old[k - 2]? := fun k => get_ins (by omega) hnewl k
  have hlenN : (old.take (i * 2) ++ (new ++ old.drop (i * 2))).length = (len + 1) * 2 := by
    simp only [List.length_append, List.length_take, List.length_drop, hnewl]; omega
  by_cases hroom : len + 1 ≤ cap'
  · refine (hshift l.rb (l.base + o) len cap' i l2.rb (l2.base + vo) cap2 xs ys w hi hroom hlen hne hxl hyl (fun j v hj => by rw [hcell]; exact hxsl j v hj)
      (fun j hj => by rw [hcell, Array.getElem?_eq_getElem (by omega)]; rfl) (fun j hj => hnone _ (by omega)) (fun j v hj => by rw [hcell2]; exact hysl j v hj) (ones_of hxs hone) (ones_of hys honev)
      evb e C2.size C.size (by simp only [World.shape?, k1]) (by simp only [World.shape?, g1]) (by omega) (hnone2 _ (by omega)) (hnone2 _ (by omega))).mono ?_
    rintro e1 w' ⟨rfl, rfl⟩
    have hdl : (xs.drop (i * 2)).length = len * 2 - i * 2 := by rw [List.length_drop, hxl]
    obtain ⟨c1, a1, a2, a3, a4, a5, a6, a7, a8⟩ := setCells_spec l.rb (xs.drop (i * 2)) (l.base + o + (i + 1) * 2) w.drew C g1 (by rw [hdl]; omega)
    obtain ⟨c2, b1, b2, b3, b4, b5, b6, b7, b8⟩ := setCells_spec l.rb ys (l.base + o + i * 2) _ c1 a1 (by rw [hyl]; omega)
    let L : Loc := ⟨l.rb, l.base + o, l.tot⟩
    have hcont : ∀ (k : Nat) (u : V), (old.take (i * 2) ++ (new ++ old.drop (i * 2)))[k]? = some u → ∃ x, c2[l.base + o + k]? = some x ∧ rel φ u x := fun k u hu => by
      rw [hgl] at hu
      rw [b3, hyl]
      by_cases h1 : k < i * 2
      · rw [if_pos h1] at hu
        rw [if_neg (by omega), a3, if_neg (by omega)]
        exact hgetO k u hu
      · rw [if_neg h1] at hu
        by_cases h2 : k < i * 2 + 2
        · rw [if_pos h2] at hu
          rw [if_pos (by omega)]
          obtain ⟨x, hx, hxr⟩ := hys.get _ u hu
          exact ⟨x, by rw [← hx]; congr 1; omega, hxr⟩
        · rw [if_neg h2] at hu
          have hk := (List.getElem?_eq_some_iff.1 hu).1
          rw [if_neg (by omega), a3, hdl, if_pos (by omega), List.getElem?_drop]
          obtain ⟨x, hx, hxr⟩ := hxs.get _ u hu
          exact ⟨x, by rw [← hx]; congr 1; omega, hxr⟩
    obtain ⟨h1, h2⟩ := HR.turn (L := L) (cells := old.take (i * 2) ++ (new ++ old.drop (i * 2))) (e' := e) (lo' := 0) (hi' := 0) hr hb hφ hn rfl
      ⟨c2, fr, b1, by rw [b2, a2]; exact g2, by show l.base + o + _ ≤ l.tot; rw [hlenN]; omega, fun k u hu => by
          obtain ⟨x, hx, hxr⟩ := hcont k u hu
          exact ⟨x, hx, hxr.mono (Phi.le_set hn) _ _⟩,
        fun k _ hk q1 q2 => (hg6 k (by rw [b2, a2] at hk; omega) q1 q2).elim, fun _ _ k hk q1 q2 => hg6 k (by rw [b2, a2] at hk; omega) q1 q2⟩
      (fun rb hrb => (b4 rb hrb).trans (a4 rb hrb)) (by rw [b5, a5]; exact Nat.le_refl _) (b6.trans a6) (b7.trans a7) (b8.trans a8)
    exact ⟨_, rfl, _, h1, h2, ⟨L, l.base + o, cap', Phi.set_self .., rfl, Nat.le_refl _, hroom, (fun h => by cases h), fun _ => htot, fun _ => rfl, Nat.le_refl _⟩⟩
  · have hcap : cap' = len := by omega
    refine (hgrow l.rb (l.base + o) len cap' i l2.rb (l2.base + vo) cap2 xs ys w hi (by omega) (by omega) (by omega) hxl hyl (fun j v hj => by rw [hcell]; exact hxsl j v hj)
      (fun j v hj => by rw [hcell2]; exact hysl j v hj) (ones_of hxs hone) (ones_of hys honev)).mono ?_
    rintro e1 w' ⟨rfl, rfl⟩
    have hGn := grownCap_ge w (len + 1) cap' e
    generalize grownCap w (len + 1) cap' e = G at hGn ⊢
    generalize hROW : (xs.take (i * 2)).toArray ++ Builtin.zeroCells zc (len + 1 - i) ++ Builtin.zeroCells zc (G - (len + 1)) = ROW
    have hzs : ∀ n, (Builtin.zeroCells zc n).size = n * 2 := fun n => by simp [Builtin.zeroCells, hzc]
    have hRs : ROW.size = G * 2 := by
      rw [← hROW]
      simp only [Array.size_append, hzs, List.size_toArray, List.length_take, hxl]
      omega
    have hRx : ∀ k, k < i * 2 → ROW[k]? = xs[k]? := fun k hk => by
      rw [← hROW, Array.getElem?_append_left (by simp only [Array.size_append, hzs, List.size_toArray, List.length_take, hxl]; omega), Array.getElem?_append_left (by simp only [List.size_toArray, List.length_take, hxl]; omega)]
      simp [List.getElem?_take, hk]
    have hdl : (xs.drop (i * 2)).length = len * 2 - i * 2 := by rw [List.length_drop, hxl]
    have hnew0 : ((w.alloc (.cells ROW e)).drew).heap[w.heap.size]? = some (.cells ROW e (0, 0)) := by
      show (w.heap.push _)[w.heap.size]? = _
      simp
    obtain ⟨c1, a1, a2, a3, a4, a5, a6, a7, a8⟩ := setCells_spec w.heap.size ys (i * 2) (w.alloc (.cells ROW e)).drew ROW hnew0 (by rw [hyl]; omega)
    obtain ⟨c2, b1, b2, b3, b4, b5, b6, b7, b8⟩ := setCells_spec w.heap.size (xs.drop (i * 2)) ((i + 1) * 2) (((w.alloc (.cells ROW e)).drew.setCells w.heap.size (i * 2) ys).drew) c1 a1 (by rw [hdl]; omega)
    obtain ⟨q1, q2⟩ := HR.kill hr b
    have hheap : ((((w.alloc (.cells ROW e)).drew.setCells w.heap.size (i * 2) ys).drew).setCells w.heap.size ((i + 1) * 2) (xs.drop (i * 2))).heap = w.heap.push (.cells c2 e (0, 0)) := by
      apply Array.ext_getElem?
      intro r
      by_cases hrr : r = w.heap.size
      · subst hrr; rw [b1]; simp
      · rw [b4 r hrr]
        show ((w.alloc (.cells ROW e)).drew.setCells w.heap.size (i * 2) ys).heap[r]? = _
        rw [a4 r hrr]
        show (w.heap.push _)[r]? = (w.heap.push _)[r]?
        rw [Array.getElem?_push, if_neg hrr, Array.getElem?_push, if_neg hrr]
    have hcont : ∀ (k : Nat) (u : V), (old.take (i * 2) ++ (new ++ old.drop (i * 2)))[k]? = some u → ∃ x, c2[k]? = some x ∧ rel φ u x := fun k u hu => by
      rw [hgl] at hu
      rw [b3, hdl]
      by_cases h1 : k < i * 2
      · rw [if_pos h1] at hu
        rw [if_neg (by omega), a3, if_neg (by omega), hRx k h1]
        exact hxs.get k u hu
      · rw [if_neg h1] at hu
        by_cases h2 : k < i * 2 + 2
        · rw [if_pos h2] at hu
          rw [if_neg (by omega), a3, hyl, if_pos (by omega)]
          exact hys.get _ u hu
        · rw [if_neg h2] at hu
          have hk := (List.getElem?_eq_some_iff.1 hu).1
          rw [if_pos (by omega), List.getElem?_drop]
          obtain ⟨x, hx, hxr⟩ := hxs.get _ u hu
          exact ⟨x, by rw [← hx]; congr 1; omega, hxr⟩
    have hnb : NewB φ (.cells (old.take (i * 2) ++ (new ++ old.drop (i * 2))) e true 0 0) (fun b => .slice b 0 (len + 1) (len + 1) 2) w _ (.slice (some ⟨w.heap.size, 0, none⟩) (len + 1) G) (old.take (i * 2) ++ (new ++ old.drop (i * 2))) e c2 (0, 0) :=
      ⟨hheap, b6.trans a6, b7.trans a7, b8.trans a8, ⟨0, 0, rfl, fun _ _ k _ _ h => by simp at h⟩, by rw [hlenN, b2, a2, hRs]; omega, hcont, fun k _ _ h => by simp at h,
        fun ψ bb _ hb => ⟨_, 0, G, hb, rfl, Nat.le_refl _, hGn, (fun h => by cases h), (fun _ => by show 0 + G * 2 ≤ c2.size; rw [b2, a2, hRs]; omega), fun _ => rfl, Nat.le_refl _⟩⟩
    obtain ⟨h1, h2, h3⟩ := HR.new q2 hnb hn
    exact ⟨_, rfl, _, q1.trans h1, h2, h3⟩
end Dv
end

section
namespace Dv
open Go Go.RowKit

/-- the map that knows the one package variable alone -/
def phi0 : Phi := fun b => if b = 0 then some gLoc else none
/-- a memory with nothing in it -/
def hNil : H := ⟨1, .nil⟩
/-- a memory with the one package variable alone -/
noncomputable def hOne (m : Int) : H := ⟨1, .nd (some (.cells [.int .i64 m] 3 false 0 1)) .nil .nil⟩

theorem phi0_free (n : Nat) : Free phi0 1 n := fun b h1 _ => by unfold phi0; rw [if_neg (by omega)]
theorem hNil_get {b : Nat} {o : O} (hg : hNil.get b = some o) : False := by
  rw [H.get_eq] at hg
  split at hg <;> cases hg
theorem HR.nil (w : World) : HR phi0 hNil w :=
  ⟨fun _ _ _ hg _ => (hNil_get hg).elim, fun _ _ _ _ _ _ hg _ _ _ _ _ _ _ => (hNil_get hg).elim, rfl⟩
theorem hOne_get {m : Int} {b : Nat} {o : O} (hg : (hOne m).get b = some o) : b = 0 ∧ o = .cells [.int .i64 m] 3 false 0 1 := by
  rw [H.get_eq] at hg
  split at hg
  · rename_i hlt
    have h0 : b = 0 := by have : b < 1 := hlt; omega
    subst h0
    cases hg
    exact ⟨rfl, rfl⟩
  · cases hg
theorem HR.one {w : World} {m : Int} {e : TypeId} {fr : Nat × Nat} (h : w.heap[gLoc.rb]? = some (.cells #[.int .i64 m] e fr)) (he : e = 3) : HR phi0 (hOne m) w := by
  subst he
  refine ⟨fun b o l hg hφ => ?_, fun b b' o o' l l' hg hg' _ _ _ _ _ _ => ?_, rfl⟩
  · obtain ⟨rfl, rfl⟩ := hOne_get hg
    cases hφ
    refine ⟨#[.int .i64 m], fr, h, rfl, by show 0 + 1 ≤ 1; omega, fun i v hv => ?_, fun i _ hi _ _ => ?_, fun _ hh => by cases hh⟩
    · cases i with
      | zero => cases hv; exact ⟨_, rfl, rfl⟩
      | succ i => cases hv
    · have : i < 1 := hi
      exact ⟨by show 0 + 0 ≤ i; omega, by show i < 0 + 1; omega⟩
  · rw [(hOne_get hg).1, (hOne_get hg').1]

theorem own_nil (rb : Nat) : ¬ own phi0 hNil rb := fun ⟨_, _, _, hg, _⟩ => hNil_get hg
theorem own_one (m : Int) (rb : Nat) : ¬ own phi0 (hOne m) rb := fun ⟨b, l, o, hg, hrw, _⟩ => by
  obtain ⟨_, rfl⟩ := hOne_get hg
  cases hrw

theorem Fr.below {φ φ' : Phi} {h h' : H} {w w' : World} (f : Fr φ h w φ' h' w') (ho : ∀ rb, ¬ own φ h rb) : Below w.heap.size w w' :=
  ⟨f.os, f.tape, f.output, f.size, fun k hk => (f.keep k hk (ho k)).1⟩

/-- a call that was run: what it comes to -/
theorem run_at {C : Cx} {P : Program} (cx : CxOK C P) {n : Nat} {f : FuncId} {args : List V} {h : H} {v : V} (hk : (run Bad C n).call (.fn f) args h (fun v2 _ => v2 = v)) {φ : Phi} {w : World} {args' : Array Value} (hr : HR φ h w) (ha : rels φ args args'.toList) (hf : ∀ n, Free φ h.n n) (ho : ∀ rb, ¬ own φ h rb) :
    RCalls P f args' w fun y w' => Below w.heap.size w w' ∧ ∃ φ', φ.le φ' ∧ rel φ' v y := by
  obtain ⟨v2, h2, hI, _⟩ := (run_pt C n).call _ _ _ _ hk
  obtain rfl : v2 = v := (hI _).1 hk
  refine (run_calls cx ((hI _).2 ⟨rfl, rfl⟩) hr ha (hf _)).mono fun y w' ⟨φ', g1, _, g3⟩ => ⟨g1.below ho, φ', g1.ext, g3⟩

/-- a list of pairs, looked into -/
noncomputable def assoc (s : List Nat) (l : List (List Nat × List Nat)) : Option (List Nat) :=
  List.rec (motive := fun _ => Option (List Nat)) none (fun p _ ih => cond (eqL p.1 s) (some p.2) ih) l
theorem assoc_some {s o : List Nat} : ∀ {l : List (List Nat × List Nat)}, assoc s l = some o → (s, o) ∈ l
  | [], h => by cases h
  | (a, b) :: l, h => by
    have h2 : cond (eqL a s) (some b) (assoc s l) = some o := h
    rw [eqL_iff] at h2
    by_cases e : a = s
    · simp only [e, decide_true, cond_true, Option.some.injEq] at h2
      rw [e, h2]
      exact List.mem_cons_self ..
    · simp only [e, decide_false, cond_false] at h2
      exact List.mem_cons_of_mem _ (assoc_some h2)

noncomputable def memoS (tab : List (List Nat × List Nat)) : Summ := fun args _ => match args with
  | [.str s] => match assoc s tab with
    | some o => some ⟨.str o, [], [], none⟩
    | none => none
  | _ => none

theorem tab_nil {C : Cx} {n : Nat} {f : FuncId} : ∀ p ∈ ([] : List (List Nat × List Nat)), (run Bad C n).call (.fn f) [.str p.1] hNil (fun v _ => v = .str p.2) := fun _ h => by cases h
theorem tab_cons {C : Cx} {n : Nat} {f : FuncId} {a b : List Nat} {l : List (List Nat × List Nat)} (h : (fast C n).call (.fn f) [.str a] hNil (fun v _ => v = .str b) = (V.str b = V.str b))
    (hl : ∀ p ∈ l, (run Bad C n).call (.fn f) [.str p.1] hNil (fun v _ => v = .str p.2)) : ∀ p ∈ (a, b) :: l, (run Bad C n).call (.fn f) [.str p.1] hNil (fun v _ => v = .str p.2) := fun p hp => by
  rcases List.mem_cons.1 hp with rfl | hp
  · have := h.mpr rfl
    rw [fast_call] at this
    exact this
  · exact hl p hp

theorem memoS_ok {C : Cx} {P : Program} (cx : CxOK C P) {f : FuncId} {fn : Func} {c : Code} (hf : P.funcs[f]? = some fn) (hb : fn.body = some c) {n : Nat} {tab : List (List Nat × List Nat)}
    (ht : ∀ p ∈ tab, (run Bad C n).call (.fn f) [.str p.1] hNil (fun v _ => v = .str p.2)) : SumOK P f (memoS tab) := by
  refine SumOK.pure cx.ng hf hb fun args h a ha _ => ?_
  unfold memoS at ha
  split at ha
  case h_2 => cases ha
  rename_i s
  split at ha
  case h_2 => cases ha
  rename_i o ho
  cases ha
  refine ⟨rfl, rfl, fun φ w args' hr hargs => ?_⟩
  obtain ⟨x, rfl, s', rfl, hs'⟩ := rels_one hargs
  have hrun := ht (s, o) (assoc_some ho)
  have hc := run_at cx hrun (HR.nil w) (args' := #[.string s']) ⟨_, [], rfl, ⟨s', rfl, hs'⟩, rfl⟩ phi0_free own_nil
  rcases hc with ⟨_, h2⟩ | ⟨v, w', h1, _⟩
  · exact h2.mono fun e w' ⟨y, he, hbl, φ', _, hy⟩ => ⟨y, he, hy, hbl⟩
  · exact (callFunc_body hf hb h1).elim
end Dv
end

section
namespace Dv
open Go Go.RowKit Go.WideShapes Go.ChangeShapes

/-- a type of numbers, texts, and structs of such -/
def plainT (P : Program) : Nat → TypeId → Bool
  | 0, _ => false
  | n + 1, t => match P.underlying t with
    | some .bool => true
    | some (.int _) => true
    | some .string => true
    | some (.struct fs) => fs.toList.all fun f => plainT P n f.type
    | _ => false

theorem mapM_alike {α β : Type} {f g : α → Option (β × List MemPlace)} : ∀ {l : List α} {xs : List (β × List MemPlace)}, l.mapM f = some xs → (∀ a ∈ l, ∀ y, f a = some y → y.2 = [] ∧ g a = some y) → l.mapM g = some xs ∧ ∀ y ∈ xs, y.2 = []
  | [], xs, h, _ => by simp at h; subst h; exact ⟨rfl, fun _ h => by cases h⟩
  | a :: l, xs, h, hg => by
    rw [List.mapM_cons] at h
    cases ha : f a with
    | none => rw [ha] at h; cases h
    | some y =>
      rw [ha] at h
      cases hl : l.mapM f with
      | none => rw [hl] at h; cases h
      | some ys =>
        rw [hl] at h
        cases h
        obtain ⟨h1, h2⟩ := hg a (List.mem_cons_self ..) y ha
        obtain ⟨h3, h4⟩ := mapM_alike hl fun b hb => hg b (List.mem_cons_of_mem _ hb)
        refine ⟨by rw [List.mapM_cons, h2, h3]; rfl, fun z hz => ?_⟩
        rcases List.mem_cons.1 hz with rfl | hz
        · exact h1
        · exact h4 z hz

theorem plain_trod {H' : Type} {enc : TypeId × Value → H'} {P : Program} {w w' : World} {b b' : Nat} {sp sp' : Nat → Bool} {hd hd' : Bool} : ∀ (n : Nat) (t : TypeId) (fuel : Nat) (cs : List Value) (x : DataW H' × List MemPlace), plainT P n t = true →
    DataW.trod enc P w b sp hd fuel t cs = some x → x.2 = [] ∧ DataW.trod enc P w' b' sp' hd' fuel t cs = some x
  | 0, _, _, _, _, h, _ => by cases h
  | n + 1, t, 0, cs, x, _, h => by cases h
  | n + 1, t, fuel + 1, cs, x, hp, h => by
    unfold plainT at hp
    split at hp
    · rename_i hu
      simp only [DataW.trod, hu] at h ⊢
      split at h
      all_goals first | (cases h; done) | skip
      all_goals first | (rename_i hx; cases hx; done) | skip
      all_goals (try simp_all)
      all_goals (first | (subst h; simp) | (obtain ⟨rfl⟩ := h; simp) | skip)
    · rename_i k hu
      simp only [DataW.trod, hu] at h ⊢
      split at h
      all_goals first | (cases h; done) | skip
      all_goals (try simp_all)
      all_goals (try rw [← h.2])
    · rename_i hu
      simp only [DataW.trod, hu] at h ⊢
      split at h
      all_goals first | (cases h; done) | skip
      all_goals (try simp_all)
      all_goals (try rw [← h.2])
    · rename_i fs hu
      simp only [DataW.trod, hu] at h ⊢
      split at h
      · rename_i hl
        rw [if_pos hl]
        cases hm : fs.toList.mapM fun f => DataW.trod enc P w b sp hd fuel f.type ((cs.drop f.offset).take (P.cellsOf f.type)) with
        | none => rw [hm] at h; cases h
        | some xs =>
          rw [hm] at h
          cases h
          obtain ⟨h1, h2⟩ := mapM_alike (g := fun f => DataW.trod enc P w' b' sp' hd' fuel f.type ((cs.drop f.offset).take (P.cellsOf f.type))) hm fun f hf y hy =>
            plain_trod n f.type fuel _ y (List.all_eq_true.1 hp f hf) hy
          rw [h1]
          exact ⟨List.flatMap_eq_nil_iff.2 h2, rfl⟩
      · cases h
    · cases hp
end Dv
end
