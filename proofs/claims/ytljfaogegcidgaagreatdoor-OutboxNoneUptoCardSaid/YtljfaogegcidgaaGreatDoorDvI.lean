/-
  The evaluator is sound: what it answers is what the model's call comes to.
-/
import Derived.Test.YtljfaogegcidgaaGreatDoorDvH
import Derived.RangeFuncNested
import Derived.RangeFuncRecord
import Derived.RangeFuncLeaves
section
namespace Dv
open Go
universe u

structure PtF (F : Fns Prop) : Prop where
  code : ∀ nt c t h k, F.code nt c t h k → ∃ e T H', IsE (F.code nt c t h) e T H' ∧ h.n ≤ H'.n
  scope : ∀ nt c r t h k, F.scope nt c r t h k → ∃ e T H', IsE (F.scope nt c r t h) e T H' ∧ h.n ≤ H'.n
  loop : ∀ nt c t h k, F.loop nt c t h k → ∃ e T H', IsE (F.loop nt c t h) e T H' ∧ h.n ≤ H'.n
  call : PtCall F.call

noncomputable def updsV : List (Nat × O) → H → H
  | [], h => h
  | (b, o) :: l, h => updsV l (h.upd b o)
noncomputable def newsV : List O → H → H
  | [], h => h
  | o :: l, h => newsV l (h.push o)
theorem updsK_eq {R : Sort u} : ∀ (l : List (Nat × O)) (h : H) (k : H → R), updsK l h k = k (updsV l h)
  | [], _, _ => rfl
  | (b, o) :: l, h, k => by simp only [updsK, H.setK_eq, updsV, updsK_eq l]
theorem newsK_eq {R : Sort u} : ∀ (l : List O) (h : H) (k : H → R), newsK l h k = k (newsV l h)
  | [], _, _ => rfl
  | o :: l, h, k => by simp only [newsK, H.newK_eq, newsV, newsK_eq l]
theorem updsV_n : ∀ (l : List (Nat × O)) (h : H), (updsV l h).n = h.n
  | [], _ => rfl
  | (b, o) :: l, h => by rw [updsV, updsV_n l]; rfl
theorem newsV_n : ∀ (l : List O) (h : H), h.n ≤ (newsV l h).n
  | [], _ => Nat.le_refl _
  | o :: l, h => by rw [newsV]; exact Nat.le_trans (Nat.le_succ h.n) (newsV_n l (h.push o))

noncomputable def putsV : List Tmp → List V → Tr V → Option (Tr V)
  | [], [], t => some t
  | p :: ps, v :: l, t => putsV ps l (t.set depth p v)
  | _, _, _ => none
theorem putsK_iff : ∀ (ps : List Tmp) (l : List V) (t : Tr V) (k : Tr V → Prop), putsK Bad ps l t k ↔ ∃ t', putsV ps l t = some t' ∧ k t'
  | [], [], t, k => by simp [putsK, putsV]
  | [], _ :: _, t, k => by simp [putsK, putsV]
  | _ :: _, [], t, k => by simp [putsK, putsV]
  | p :: ps, v :: l, t, k => by simp only [putsK, Tr.setK_eq, putsV]; exact putsK_iff ps l _ k
noncomputable def argsV : Nat → List V → Tr V → Tr V
  | _, [], t => t
  | i, v :: l, t => argsV (Nat.succ i) l (t.set depth i v)
theorem argsK_eq {R : Sort u} : ∀ (l : List V) (i : Nat) (t : Tr V) (k : Tr V → R), argsK i l t k = k (argsV i l t)
  | [], _, _, _ => rfl
  | v :: l, i, t, k => by simp only [argsK, Tr.setK_eq, argsV]; exact argsK_eq l _ _ k

theorem gateP_iff (p : Option Prop) (x : Prop) : gateP p x ↔ (∀ q, p = some q → q) ∧ x := by
  cases p with
  | none => exact ⟨fun h => ⟨fun _ e => (by cases e), h⟩, fun h => h.2⟩
  | some q => exact ⟨fun h => ⟨fun _ e => (by cases e; exact h.1), h.2⟩, fun h => ⟨h.1 q rfl, h.2⟩⟩

section
variable {C : Cx} {F : Fns Prop}

theorem stepC_pt (ih : PtF F) {nt : Nat} {c : Code} {t : Tr V} {h : H} {k : Ex → Tr V → H → Prop} (hk : stepC Bad C F nt c t h k) : ∃ e T H', IsE (stepC Bad C F nt c t h) e T H' ∧ h.n ≤ H'.n := by
  cases c with
  | skip => exact ⟨.normal, t, h, fun k => Iff.rfl, Nat.le_refl _⟩
  | label l => exact ⟨.normal, t, h, fun k => Iff.rfl, Nat.le_refl _⟩
  | ret => exact ⟨.ret, t, h, fun k => Iff.rfl, Nat.le_refl _⟩
  | exit id => exact ⟨.exit id, t, h, fun k => Iff.rfl, Nat.le_refl _⟩
  | goto l => exact ⟨.goto l, t, h, fun k => Iff.rfl, Nat.le_refl _⟩
  | seq a b =>
    simp only [stepC] at hk
    obtain ⟨e, T, H', hI, hn⟩ := ih.code _ _ _ _ _ hk
    have hk2 := (hI _).1 hk
    cases e with
    | normal =>
      obtain ⟨e2, T2, H2, hI2, hn2⟩ := ih.code _ _ _ _ _ hk2
      exact ⟨e2, T2, H2, fun k => by simp only [stepC]; rw [hI]; exact hI2 k, Nat.le_trans hn hn2⟩
    | exit id => exact ⟨_, T, H', fun k => by simp only [stepC]; rw [hI], hn⟩
    | goto l => exact ⟨_, T, H', fun k => by simp only [stepC]; rw [hI], hn⟩
    | ret => exact ⟨_, T, H', fun k => by simp only [stepC]; rw [hI], hn⟩
  | cond c a b =>
    simp only [stepC] at hk
    split at hk
    · rename_i hv
      obtain ⟨e, T, H', hI, hn⟩ := ih.code _ _ _ _ _ hk
      exact ⟨e, T, H', fun k => by simp only [stepC, hv]; exact hI k, hn⟩
    · rename_i hv
      obtain ⟨e, T, H', hI, hn⟩ := ih.code _ _ _ _ _ hk
      exact ⟨e, T, H', fun k => by simp only [stepC, hv]; exact hI k, hn⟩
    · cases hk
  | block id c =>
    simp only [stepC] at hk
    obtain ⟨e, T, H', hI, hn⟩ := ih.code _ _ _ _ _ hk
    cases e with
    | exit i =>
      by_cases hi : i = id
      · exact ⟨.normal, T, H', fun k => by simp only [stepC]; rw [hI]; simp [beq_dec, hi], hn⟩
      · exact ⟨.exit i, T, H', fun k => by simp only [stepC]; rw [hI]; simp [beq_dec, hi], hn⟩
    | normal => exact ⟨_, T, H', fun k => by simp only [stepC]; rw [hI], hn⟩
    | goto l => exact ⟨_, T, H', fun k => by simp only [stepC]; rw [hI], hn⟩
    | ret => exact ⟨_, T, H', fun k => by simp only [stepC]; rw [hI], hn⟩
  | loop c =>
    simp only [stepC] at hk
    obtain ⟨e, T, H', hI, hn⟩ := ih.loop _ _ _ _ _ hk
    exact ⟨e, T, H', fun k => by simp only [stepC]; exact hI k, hn⟩
  | scope c =>
    simp only [stepC] at hk
    obtain ⟨e, T, H', hI, hn⟩ := ih.scope _ _ _ _ _ _ hk
    exact ⟨e, T, H', fun k => by simp only [stepC]; exact hI k, hn⟩
  | region id ops d =>
    cases d with
    | false =>
      simp only [stepC] at hk
      obtain ⟨T, H', hI, hn⟩ := opsK_pt ih.call _ _ _ _ hk
      exact ⟨.normal, T, H', fun k => by simp only [stepC]; exact hI _, hn⟩
    | true =>
      simp only [stepC] at hk
      split at hk
      · rename_i p hp
        obtain ⟨T, H', hI, hn⟩ := drawK_pt ih.call hp hk
        exact ⟨.normal, T, H', fun k => by simp only [stepC, hp]; exact hI _, hn⟩
      · cases hk
  | rangeFunc g ps asg body =>
    simp only [stepC] at hk
    split at hk
    · rename_i f first captured hv
      split at hk
      · rename_i bd hbd
        rw [H.newK_eq] at hk
        obtain ⟨v, H1, hI, hn⟩ := ih.call _ _ _ _ hk
        have hk2 := (hI _).1 hk
        split at hk2
        · rename_i st pend nt' t' ps' asg' body' hg
          have hn1 : h.n ≤ H1.n := Nat.le_trans (Nat.le_succ _) hn
          cases st with
          | busy => cases hk2
          | _ =>
            simp only [H.setK_eq] at hk2
            cases pend with
            | none => exact ⟨.normal, t, H1.upd h.n (.loop .exhausted none nt' t' ps' asg' body'), fun k => by simp only [stepC, hv, hbd]; rw [H.newK_eq, hI]; simp only [hg, H.setK_eq], hn1⟩
            | some c =>
              cases c with
              | ret => exact ⟨.ret, t, H1.upd h.n (.loop .exhausted (some .ret) nt' t' ps' asg' body'), fun k => by simp only [stepC, hv, hbd]; rw [H.newK_eq, hI]; simp only [hg, H.setK_eq], hn1⟩
              | exit id => exact ⟨.exit id, t, H1.upd h.n (.loop .exhausted (some (.exit id)) nt' t' ps' asg' body'), fun k => by simp only [stepC, hv, hbd]; rw [H.newK_eq, hI]; simp only [hg, H.setK_eq], hn1⟩
              | goto l => exact ⟨.goto l, t, H1.upd h.n (.loop .exhausted (some (.goto l)) nt' t' ps' asg' body'), fun k => by simp only [stepC, hv, hbd]; rw [H.newK_eq, hI]; simp only [hg, H.setK_eq], hn1⟩
              | _ => cases hk2
        · cases hk2
      · cases hk
    · cases hk
  | _ => cases hk

theorem stepS_pt (ih : PtF F) {nt : Nat} {c r : Code} {t : Tr V} {h : H} {k : Ex → Tr V → H → Prop} (hk : stepS F nt c r t h k) : ∃ e T H', IsE (stepS F nt c r t h) e T H' ∧ h.n ≤ H'.n := by
  simp only [stepS] at hk
  obtain ⟨e, T, H', hI, hn⟩ := ih.code _ _ _ _ _ hk
  have hk2 := (hI _).1 hk
  cases e with
  | normal => exact ⟨_, T, H', fun k => by simp only [stepS]; rw [hI], hn⟩
  | exit id => exact ⟨_, T, H', fun k => by simp only [stepS]; rw [hI], hn⟩
  | ret => exact ⟨_, T, H', fun k => by simp only [stepS]; rw [hI], hn⟩
  | goto l =>
    simp only [] at hk2
    cases hl : stepS.findL c l with
    | none => exact ⟨.goto l, T, H', fun k => by simp only [stepS]; rw [hI]; simp only []; rw [hl], hn⟩
    | some r2 =>
      rw [hl] at hk2
      obtain ⟨e2, T2, H2, hI2, hn2⟩ := ih.scope _ _ _ _ _ _ hk2
      exact ⟨e2, T2, H2, fun k => by simp only [stepS]; rw [hI]; simp only [hl]; exact hI2 k, Nat.le_trans hn hn2⟩

theorem stepL_pt (ih : PtF F) {nt : Nat} {c : Code} {t : Tr V} {h : H} {k : Ex → Tr V → H → Prop} (hk : stepL F nt c t h k) : ∃ e T H', IsE (stepL F nt c t h) e T H' ∧ h.n ≤ H'.n := by
  simp only [stepL] at hk
  obtain ⟨e, T, H', hI, hn⟩ := ih.code _ _ _ _ _ hk
  have hk2 := (hI _).1 hk
  cases e with
  | normal =>
    obtain ⟨e2, T2, H2, hI2, hn2⟩ := ih.loop _ _ _ _ _ hk2
    exact ⟨e2, T2, H2, fun k => by simp only [stepL]; rw [hI]; exact hI2 k, Nat.le_trans hn hn2⟩
  | exit id => exact ⟨_, T, H', fun k => by simp only [stepL]; rw [hI], hn⟩
  | goto l => exact ⟨_, T, H', fun k => by simp only [stepL]; rw [hI], hn⟩
  | ret => exact ⟨_, T, H', fun k => by simp only [stepL]; rw [hI], hn⟩

theorem stepF_pt (ih : PtF F) {f : FuncId} {args : List V} {h : H} {k : V → H → Prop} (hk : stepF Bad C F f args h k) : ∃ v H', IsC (stepF Bad C F f args h) v H' ∧ h.n ≤ H'.n := by
  unfold stepF at hk
  split at hk
  · rename_i a ha
    have hside := (gateP_iff _ _).1 hk
    exact ⟨a.v, newsV a.new (updsV a.upd h), fun k => by simp only [stepF, ha, updsK_eq, newsK_eq]; rw [gateP_iff]; exact ⟨fun h => h.2, fun h => ⟨hside.1, h⟩⟩, by
      have := newsV_n a.new (updsV a.upd h)
      rw [updsV_n] at this; exact this⟩
  · rename_i hs
    split at hk
    · rename_i fn hfn
      split at hk
      · rename_i c hbd
        rw [argsK_eq] at hk
        obtain ⟨e, T, H', hI, hn⟩ := ih.code _ _ _ _ _ hk
        have hk2 := (hI _).1 hk
        have key : (e = .normal ∨ e = .ret) ∧ ∃ v, (resV C.P T H' fn.results.toList = some [v] ∨ ∃ vs, resV C.P T H' fn.results.toList = some vs ∧ (∀ x, vs ≠ [x]) ∧ v = .tuple vs) := by
          cases hr : resV C.P T H' fn.results.toList with
          | none => rw [hr] at hk2; cases e <;> cases hk2
          | some vs =>
            refine ⟨(by cases e <;> first | exact .inl rfl | exact .inr rfl | cases hk2), ?_⟩
            cases vs with
            | nil => exact ⟨_, .inr ⟨_, rfl, (fun x h => by cases h), rfl⟩⟩
            | cons x l =>
              cases l with
              | nil => exact ⟨x, .inl rfl⟩
              | cons y l => exact ⟨_, .inr ⟨_, rfl, (fun x h => by cases h), rfl⟩⟩
        obtain ⟨he, v, hv⟩ := key
        refine ⟨v, H', fun k => ?_, hn⟩
        simp only [stepF, hs, hfn, hbd]
        rw [argsK_eq, hI]
        rcases hv with hv | ⟨vs, hv, hne, rfl⟩
        · rcases he with rfl | rfl <;> simp only [hv]
        · cases vs with
          | nil => rcases he with rfl | rfl <;> simp only [hv]
          | cons x l =>
            cases l with
            | nil => exact (hne x rfl).elim
            | cons y l => rcases he with rfl | rfl <;> simp only [hv]
      · cases hk
    · cases hk

theorem stepR_pt (ih : PtF F) {b : Nat} {args : List V} {h : H} {k : V → H → Prop} (hk : stepR Bad F b args h k) : ∃ v H', IsC (stepR Bad F b args h) v H' ∧ h.n ≤ H'.n := by
  unfold stepR at hk
  split at hk
  · rename_i st pend nt t ps asg body hg
    cases hps : allB (fun p => Nat.blt p nt) ps with
    | false => rw [hps] at hk; cases hk
    | true =>
      rw [hps] at hk
      simp only [cond_true] at hk
      obtain ⟨t1, ht1, hk⟩ := (putsK_iff _ _ _ _).1 hk
      obtain ⟨e, T, H1, hI, hn⟩ := ih.code _ _ _ _ _ hk
      have hk2 := (hI _).1 hk
      cases e with
      | normal =>
        simp only [] at hk2
        split at hk2
        · rename_i pend1 nt1 t1' ps1 asg1 body1 hg1
          rw [H.setK_eq] at hk2
          obtain ⟨e2, T2, H2, hI2, hn2⟩ := ih.code _ _ _ _ _ hk2
          have hk3 := (hI2 _).1 hk2
          split at hk3
          · rename_i st2 pend2 nt2 t2' ps2 asg2 body2 hg2
            have hle : h.n ≤ H2.n := Nat.le_trans hn hn2
            cases e2 with
            | normal => exact ⟨.bool true, H2.upd b (.loop .ready none nt2 t2' ps2 asg2 body2), fun k => by simp only [stepR, hg, hps, cond_true]; rw [putsK_iff]; simp only [ht1, Option.some.injEq, exists_eq_left']; rw [hI]; simp only [hg1, H.setK_eq]; rw [hI2]; simp only [hg2, H.setK_eq], hle⟩
            | ret => exact ⟨.bool false, H2.upd b (.loop .done (some .ret) nt2 t2' ps2 asg2 body2), fun k => by simp only [stepR, hg, hps, cond_true]; rw [putsK_iff]; simp only [ht1, Option.some.injEq, exists_eq_left']; rw [hI]; simp only [hg1, H.setK_eq]; rw [hI2]; simp only [hg2, H.setK_eq], hle⟩
            | exit id => exact ⟨.bool false, H2.upd b (.loop .done (some (.exit id)) nt2 t2' ps2 asg2 body2), fun k => by simp only [stepR, hg, hps, cond_true]; rw [putsK_iff]; simp only [ht1, Option.some.injEq, exists_eq_left']; rw [hI]; simp only [hg1, H.setK_eq]; rw [hI2]; simp only [hg2, H.setK_eq], hle⟩
            | goto l => exact ⟨.bool false, H2.upd b (.loop .done (some (.goto l)) nt2 t2' ps2 asg2 body2), fun k => by simp only [stepR, hg, hps, cond_true]; rw [putsK_iff]; simp only [ht1, Option.some.injEq, exists_eq_left']; rw [hI]; simp only [hg1, H.setK_eq]; rw [hI2]; simp only [hg2, H.setK_eq], hle⟩
          · cases hk3
        · cases hk2
      | exit id => cases hk2
      | goto l => cases hk2
      | ret => cases hk2
  · cases hk

theorem run_pt (C : Cx) : ∀ n, PtF (run Bad C n)
  | 0 => ⟨fun _ _ _ _ _ h => h.elim, fun _ _ _ _ _ _ h => h.elim, fun _ _ _ _ _ h => h.elim, fun _ _ _ _ h => h.elim⟩
  | n + 1 => ⟨fun _ _ _ _ _ h => stepC_pt (run_pt C n) h, fun _ _ _ _ _ _ h => stepS_pt (run_pt C n) h, fun _ _ _ _ _ h => stepL_pt (run_pt C n) h, fun tg _ _ _ h => by
    cases tg with
    | fn f => exact stepF_pt (run_pt C n) h
    | rnd b => exact stepR_pt (run_pt C n) h⟩
end
end Dv
end

section
namespace Dv
open Go
universe u

theorem HR.newO {φ : Phi} {h : H} {w w' : World} {l : Loc} {o : O} (hr : HR φ h w) (hf : φ h.n = none) (hold : ∀ rb, rb < w.heap.size → w'.heap[rb]? = w.heap[rb]?) (hsz : w.heap.size ≤ w'.heap.size) (hos : w'.os = w.os) (htape : w'.tape = w.tape) (hout : w'.output = w.output)
    (hl : w.heap.size ≤ l.rb) (ho : objRel (φ.set h.n l) w' l o) : Fr φ h w (φ.set h.n l) (h.push o) w' ∧ HR (φ.set h.n l) (h.push o) w' := by
  have hle := Phi.le_set (l := l) hf
  refine ⟨⟨hle, fun b x e e' => ?_, Nat.le_succ _, hsz, hos, htape, hout, fun rb hlt hown => ⟨hold rb hlt, ?_⟩, ?_, fun rb r hr => ⟨r, by rw [hold rb (Array.getElem?_eq_some_iff.1 hr).1]; exact hr⟩⟩, ⟨?_, ?_, hle _ _ hr.fix⟩⟩
  · unfold Phi.set at e'
    split at e'
    · rename_i hb; subst hb; exact ⟨Nat.le_refl _, Nat.lt_succ_self _⟩
    · rw [e] at e'; cases e'
  · rintro ⟨b, l', o, hg, hrw, hφ, rfl⟩
    rcases H.get_push hg with ⟨rfl, rfl⟩ | ⟨hb, hg'⟩
    · rw [Phi.set_self] at hφ; cases hφ; omega
    · unfold Phi.set at hφ
      rw [if_neg (by omega)] at hφ
      exact hown ⟨b, l', o, hg', hrw, hφ, rfl⟩
  · rintro rb hlt ⟨b, l', o, hg, hlv, hφ, rfl⟩
    rcases H.get_push hg with ⟨rfl, rfl⟩ | ⟨hb, hg'⟩
    · rw [Phi.set_self] at hφ; cases hφ; omega
    · unfold Phi.set at hφ
      rw [if_neg (by omega)] at hφ
      exact ⟨b, l', o, hg', hlv, hφ, rfl⟩
  · intro b o' l' hg hφ
    rcases H.get_push hg with ⟨rfl, rfl⟩ | ⟨hb, hg'⟩
    · rw [Phi.set_self] at hφ; cases hφ
      exact ho
    · unfold Phi.set at hφ
      rw [if_neg (by omega)] at hφ
      have := hr.obj b o' l' hg' hφ
      exact this.mono hle fun hl => hold _ (rb_lt this hl)
  · intro b b' o1 o2 l1 l2 hg hg' hφ hφ' hrb hl1 hl2 hrw
    rcases H.get_push hg with ⟨rfl, rfl⟩ | ⟨hb, hg⟩ <;> rcases H.get_push hg' with ⟨hb', ho'⟩ | ⟨hb', hg'⟩
    · exact hb'.symm
    · rw [Phi.set_self] at hφ; cases hφ
      unfold Phi.set at hφ'
      rw [if_neg (by omega)] at hφ'
      have := rb_lt (hr.obj b' o2 l2 hg' hφ') hl2
      omega
    · subst hb'
      rw [Phi.set_self] at hφ'; cases hφ'
      unfold Phi.set at hφ
      rw [if_neg (by omega)] at hφ
      have := rb_lt (hr.obj b o1 l1 hg hφ) hl1
      omega
    · unfold Phi.set at hφ hφ'
      rw [if_neg (by omega)] at hφ hφ'
      exact hr.inj b b' o1 o2 l1 l2 hg hg' hφ hφ' hrb hl1 hl2 hrw

theorem HR.updO {φ : Phi} {h : H} {w w' : World} {b : Nat} {l : Loc} {o o' : O} (hr : HR φ h w) (hg : h.get b = some o) (hrw : o.rw = true) (hφ : φ b = some l) (hold : ∀ rb, rb ≠ l.rb → w'.heap[rb]? = w.heap[rb]?) (hsz : w.heap.size ≤ w'.heap.size) (hos : w'.os = w.os) (htape : w'.tape = w.tape) (hout : w'.output = w.output)
    (ho : objRel φ w' l o') (hlp : ∀ r : Loop, w.heap[l.rb]? = some (.loop r) → ∃ r' : Loop, w'.heap[l.rb]? = some (.loop r')) : Fr φ h w φ (h.upd b o') w' ∧ HR φ (h.upd b o') w' := by
  have hlv := O.live_of_rw hrw
  refine ⟨⟨.refl φ, fun _ _ e e' => (by rw [e] at e'; cases e'), Nat.le_refl _, hsz, hos, htape, hout, fun rb hlt hown => ?_, ?_, fun rb r h' => ?_⟩, ⟨?_, ?_, hr.fix⟩⟩
  · have hne : rb ≠ l.rb := fun h' => hown ⟨b, l, _, hg, hrw, hφ, h'.symm⟩
    refine ⟨hold rb hne, fun ⟨b', l', o', hg', hrw', hφ', hrb'⟩ => hown ?_⟩
    rcases H.get_upd hg' with ⟨rfl, rfl⟩ | ⟨_, hg'⟩
    · rw [hφ] at hφ'; cases hφ'; exact absurd hrb'.symm hne
    · exact ⟨b', l', o', hg', hrw', hφ', hrb'⟩
  · rintro rb _ ⟨b', l', o', hg', hlv', hφ', hrb'⟩
    rcases H.get_upd hg' with ⟨rfl, rfl⟩ | ⟨_, hg'⟩
    · exact ⟨b', l', _, hg, hlv, hφ', hrb'⟩
    · exact ⟨b', l', o', hg', hlv', hφ', hrb'⟩
  · by_cases e : rb = l.rb
    · subst e; exact hlp r h'
    · exact ⟨r, by rw [hold rb e]; exact h'⟩
  · intro b' o1 l' hg' hφ'
    rcases H.get_upd hg' with ⟨rfl, rfl⟩ | ⟨hbb, hg'⟩
    · rw [hφ] at hφ'; cases hφ'
      exact ho
    · have hobj := hr.obj b' o1 l' hg' hφ'
      refine hobj.mono (.refl φ) fun hl => hold _ fun hrb => ?_
      exact hbb (hr.inj b b' _ o1 l l' hg hg' hφ hφ' hrb.symm hlv hl hrw).symm
  · intro b1 b2 o1 o2 l1 l2 h1 h2 p1 p2 hrb hl1 hl2 hrw1
    rcases H.get_upd h1 with ⟨hb1, ho1⟩ | ⟨hb1, h1'⟩ <;> rcases H.get_upd h2 with ⟨hb2, ho2⟩ | ⟨hb2, h2'⟩
    · rw [hb1, hb2]
    · subst hb1
      exact hr.inj b1 b2 _ o2 l1 l2 hg h2' p1 p2 hrb hlv hl2 hrw
    · subst hb2
      exact hr.inj b1 b2 o1 _ l1 l2 h1' hg p1 p2 hrb hl1 hlv hrw1
    · exact hr.inj b1 b2 o1 o2 l1 l2 h1' h2' p1 p2 hrb hl1 hl2 hrw1

/-- the record of a loop turns -/
theorem HR.loopUpd {φ : Phi} {h : H} {w : World} {b : Nat} {l : Loc} {st st' : LoopState} {pend pend' : Option Code} {nt : Nat} {t : Tr V} {ps : List Tmp} {asg body : Code} {r : Loop} (hr : HR φ h w) (hg : h.get b = some (.loop st pend nt t ps asg body)) (hφ : φ b = some l) (hw : w.heap[l.rb]? = some (.loop r)) :
    Fr φ h w φ (h.upd b (.loop st' pend' nt t ps asg body)) (w.putObj l.rb (.loop { r with state := st', pending := pend' })) ∧ HR φ (h.upd b (.loop st' pend' nt t ps asg body)) (w.putObj l.rb (.loop { r with state := st', pending := pend' })) := by
  have hlt := (Array.getElem?_eq_some_iff.1 hw).1
  refine hr.updO hg rfl hφ (fun rb hne => World.putObj_heap_other hne) (by simp) rfl rfl rfl ?_ fun _ _ => ⟨_, World.putObj_heap_same hlt⟩
  obtain ⟨r0, h1, h2, h3, h4, h5, h6, h7, h8⟩ := hr.obj b _ l hg hφ
  rw [hw] at h1
  cases h1
  exact ⟨_, World.putObj_heap_same hlt, rfl, rfl, h4, h5, h6, h7, h8⟩

/-! ### The marks of an activation -/
def Mk (s0 : Nat) (φ : Phi) (h : H) (w : World) (ds : List Deferred) : Prop :=
  s0 ≤ w.heap.size ∧ ∃ rs : List Nat, ds = rs.map (fun r => { target := .collected r, args := #[] }) ∧ rs.Nodup ∧ ∀ r ∈ rs, s0 ≤ r ∧ w.heap[r]? = some (.deferred (some [])) ∧ ¬ sees φ h r

theorem Mk.nil {s0 : Nat} {φ : Phi} {h : H} {w : World} (hs : s0 ≤ w.heap.size) : Mk s0 φ h w [] := ⟨hs, [], rfl, .nil, fun _ h => by cases h⟩

theorem Mk.mono {s0 : Nat} {φ φ' : Phi} {h h' : H} {w w' : World} {ds : List Deferred} (m : Mk s0 φ h w ds) (f : Fr φ h w φ' h' w') : Mk s0 φ' h' w' ds := by
  obtain ⟨hs, rs, e, nd, hall⟩ := m
  refine ⟨Nat.le_trans hs f.size, rs, e, nd, fun r hr => ?_⟩
  obtain ⟨h1, h2, h3⟩ := hall r hr
  have hlt := (Array.getElem?_eq_some_iff.1 h2).1
  refine ⟨h1, ?_, fun hsee => h3 (f.see r hlt hsee)⟩
  rw [(f.keep r hlt fun ⟨b, l, o, e1, e2, e3, e4⟩ => h3 ⟨b, l, o, e1, O.live_of_rw e2, e3, e4⟩).1]
  exact h2

/-- A body's world behind the marks. -/
theorem Mk.leaves {s0 : Nat} {P : Program} {fn : Func} {tmps : Array Value} {R : Ending → World → Prop} {φ : Phi} {h : H} : ∀ (rs : List Nat) (w : World), rs.Nodup → (∀ r ∈ rs, s0 ≤ r ∧ w.heap[r]? = some (.deferred (some [])) ∧ ¬ sees φ h r) → HR φ h w →
    (∀ w', HR φ h w' → w'.os = w.os → w'.tape = w.tape → w'.output = w.output → w'.heap.size = w.heap.size → (∀ rb, rb < s0 → w'.heap[rb]? = w.heap[rb]?) → (∀ (rb : Nat) (r : Loop), w.heap[rb]? = some (.loop r) → w'.heap[rb]? = some (.loop r)) → ∃ v, (results fn tmps).run P w' = .ok v w' ∧ R (.returned v) w') →
    LeavesInM Fence.wide 0 P fn tmps R (rs.map (fun r => { target := .collected r, args := #[] })) .returning w
  | [], w, _, _, hr, hR => by
    obtain ⟨v, h1, h2⟩ := hR w hr rfl rfl rfl rfl (fun _ _ => rfl) (fun _ _ h => h)
    exact ⟨v, h1, h2⟩
  | r :: rs, w, nd, hall, hr, hR => by
    obtain ⟨h1, h2, h3⟩ := hall r (List.mem_cons_self ..)
    have hlt := (Array.getElem?_eq_some_iff.1 h2).1
    rw [List.nodup_cons] at nd
    refine ⟨by simp, .inl ⟨r, _, rfl, run_takeDeferred h2, ?_⟩⟩
    have hother : ∀ k, k ≠ r → (w.putObj r (.deferred none)).heap[k]? = w.heap[k]? := fun k hk => World.putObj_heap_other hk
    have hr' : HR φ h (w.putObj r (.deferred none)) := ⟨fun b o l hg hφ => (hr.obj b o l hg hφ).mono (.refl φ) fun hl => hother _ fun e => h3 ⟨b, l, o, hg, hl, hφ, e⟩, hr.inj, hr.fix⟩
    refine Mk.leaves (s0 := s0) rs _ nd.2 (fun r' hm => ?_) hr' fun w' g1 g2 g3 g4 g5 g6 g7 => hR w' g1 g2 g3 g4 (by rw [g5]; simp) (fun rb hrb => ?_) fun rb rl hrl => ?_
    · obtain ⟨k1, k2, k3⟩ := hall r' (List.mem_cons_of_mem _ hm)
      exact ⟨k1, by rw [hother r' fun e => nd.1 (e ▸ hm)]; exact k2, k3⟩
    · rw [g6 rb hrb]; exact hother rb (by omega)
    · refine g7 rb rl ?_
      rw [hother rb fun e => (by rw [e, h2] at hrl; cases hrl)]; exact hrl

/-! ### A function's results -/
theorem resV_ok {P : Program} {φ : Phi} {h : H} {w : World} {nt : Nat} {t : Tr V} {a : Act} (hr : HR φ h w) (ht : TR φ nt t a) : ∀ {l : List ResultVar} {vs : List V}, resV P t h l = some vs →
    ∃ ys : List Value, (l.mapM fun r => (match r with
      | .tmp t => pure (a.tmps.getD t undef)
      | .cell c ty => do loadVar ty (← asAddr (a.tmps.getD c undef)) : Sem Value)).run P w = .ok ys w ∧ rels φ vs ys
  | [], vs, he => by simp [resV] at he; subst he; exact ⟨[], by simp, rfl⟩
  | x :: l, vs, he => by
    simp only [resV] at he
    split at he
    · rename_i v hv
      split at he
      · rename_i us hus
        cases he
        obtain ⟨ys, h1, h2⟩ := resV_ok hr ht hus
        have key : ∃ y, (match x with
          | .tmp t => pure (a.tmps.getD t undef)
          | .cell c ty => do loadVar ty (← asAddr (a.tmps.getD c undef)) : Sem Value).run P w = .ok y w ∧ rel φ v y := by
          cases x with
          | tmp i =>
            obtain ⟨y, hy, hyr⟩ := ht.2 i v hv
            exact ⟨y, by simp [hy], hyr⟩
          | cell c ty =>
            simp only [] at hv
            cases hc : t.get c with
            | none => rw [hc] at hv; cases hv
            | some p =>
              rw [hc] at hv
              obtain ⟨y, hy, hyr⟩ := ht.2 c p hc
              obtain ⟨z, hz, hzr⟩ := loadV_ok (P := P) hr hyr hv
              refine ⟨z, ?_, hzr⟩
              have hg : a.tmps.getD c undef = y := by simp [hy]
              simp only [hg]
              cases p with
              | ptr b o =>
                obtain ⟨l', hl', rfl⟩ := hyr
                simpa [Instr.loadAt, Instr.sureAddr, asAddr, Sem.run_bind] using hz
              | _ => simp [loadV] at hv
        obtain ⟨y, hy, hyr⟩ := key
        refine ⟨y :: ys, ?_, ⟨y, ys, rfl, hyr, h2⟩⟩
        rw [List.mapM_cons, Sem.run_bind, hy, Result.andThen_ok, Sem.run_bind, h1, Result.andThen_ok, Sem.run_pure]
      · cases he
    · cases he
end Dv
end

section
namespace Dv
open Go
universe u

def Ex.ex : Ex → Exit
  | .normal => .normal
  | .exit id => .exit id
  | .goto l => .goto l
  | .ret => .ret

def Lp (ro : Option Nat) (w : World) : Prop := ∀ l, ro = some l → ∃ r : Loop, w.heap[l]? = some (.loop r)
theorem Lp.mono {ro : Option Nat} {φ φ' : Phi} {h h' : H} {w w' : World} (p : Lp ro w) (f : Fr φ h w φ' h' w') : Lp ro w' := fun l hl => let ⟨r, hr⟩ := p l hl; f.lp l r hr

abbrev Ends (e : Ex) (T : Tr V) (H' : H) : Ex → Tr V → H → Prop := fun e' t' h' => e' = e ∧ t' = T ∧ h' = H'

/-- what is asked behind a piece of code -/
abbrev PostOK (nt : Nat) (φ : Phi) (h : H) (w : World) (s0 : Nat) (e : Ex) (T : Tr V) (H' : H) (Q : Exit → Act → World → Prop) : Prop :=
  ∀ φ' w' a', Fr φ h w φ' H' w' → HR φ' H' w' → TR φ' nt T a' → Mk s0 φ' H' w' a'.defers → Q e.ex a' w'

/-- what is known ahead of it -/
structure Pre (ro : Option Nat) (nt : Nat) (t : Tr V) (h : H) (n : Nat) (s0 : Nat) (φ : Phi) (w : World) (a : Act) : Prop where
  hr : HR φ h w
  tr : TR φ nt t a
  fr : Free φ h.n n
  mks : Mk s0 φ h w a.defers
  lp : Lp ro w

theorem Pre.next {ro : Option Nat} {nt : Nat} {t t' : Tr V} {h h' : H} {n s0 : Nat} {φ φ' : Phi} {w w' : World} {a a' : Act} (p : Pre ro nt t h n s0 φ w a) (f : Fr φ h w φ' h' w') (hr : HR φ' h' w') (tr : TR φ' nt t' a') (mk : Mk s0 φ' h' w' a'.defers) : Pre ro nt t' h' n s0 φ' w' a' :=
  ⟨hr, tr, p.fr.right f, mk, p.lp.mono f⟩
theorem Pre.left {ro : Option Nat} {nt : Nat} {t : Tr V} {h : H} {n m s0 : Nat} {φ : Phi} {w : World} {a : Act} (p : Pre ro nt t h n s0 φ w a) (hm : m ≤ n) : Pre ro nt t h m s0 φ w a :=
  ⟨p.hr, p.tr, p.fr.left hm, p.mks, p.lp⟩

def wpScope (ro : Option Nat) (P : Program) (c r : Code) (Q : Exit → Act → World → Prop) (a : Act) (w : World) : Prop :=
  ∀ (b : Frame) (k : List Item) (cs : List Frame), b.roundOf = ro → ∃ e a' w', Q e a' w' ∧ ArrivesIn (Machine.fenced P (WF ro)) P (lone (b.atR a (.code r :: .inScope c :: k)) cs w) b k cs e a' w'
def wpLoop (ro : Option Nat) (P : Program) (c : Code) (Q : Exit → Act → World → Prop) (a : Act) (w : World) : Prop :=
  ∀ (b : Frame) (k : List Item) (cs : List Frame), b.roundOf = ro → ∃ e a' w', Q e a' w' ∧ ArrivesIn (Machine.fenced P (WF ro)) P (lone (b.atR a (.code c :: .inLoop c :: k)) cs w) b k cs e a' w'

structure FOK (P : Program) (F : Fns Prop) : Prop where
  code : ∀ ro nt c t h e T H', F.code nt c t h (Ends e T H') → ∀ s0 φ w a Q, Pre ro nt t h H'.n s0 φ w a → PostOK nt φ h w s0 e T H' Q → c.wpIn (WF ro) 0 P Q a w
  scope : ∀ ro nt c r t h e T H', F.scope nt c r t h (Ends e T H') → ∀ s0 φ w a Q, Pre ro nt t h H'.n s0 φ w a → PostOK nt φ h w s0 e T H' Q → wpScope ro P c r Q a w
  loop : ∀ ro nt c t h e T H', F.loop nt c t h (Ends e T H') → ∀ s0 φ w a Q, Pre ro nt t h H'.n s0 φ w a → PostOK nt φ h w s0 e T H' Q → wpLoop ro P c Q a w
  call : CallOK P F.call

theorem PtF.ends {F : Fns Prop} (ih : PtF F) {nt : Nat} {c : Code} {t : Tr V} {h : H} {k : Ex → Tr V → H → Prop} (hk : F.code nt c t h k) : ∃ e T H', F.code nt c t h (Ends e T H') ∧ k e T H' ∧ h.n ≤ H'.n :=
  let ⟨e, T, H', hI, hn⟩ := ih.code _ _ _ _ _ hk
  ⟨e, T, H', (hI _).2 ⟨rfl, rfl, rfl⟩, (hI _).1 hk, hn⟩
theorem PtF.n {F : Fns Prop} (ih : PtF F) {nt : Nat} {c : Code} {t T : Tr V} {h H' : H} {e : Ex} (hk : F.code nt c t h (Ends e T H')) : h.n ≤ H'.n := by
  obtain ⟨e2, T2, H2, _, ⟨_, _, rfl⟩, hn⟩ := ih.ends hk
  exact hn
theorem PtF.nS {F : Fns Prop} (ih : PtF F) {nt : Nat} {c r : Code} {t T : Tr V} {h H' : H} {e : Ex} (hk : F.scope nt c r t h (Ends e T H')) : h.n ≤ H'.n := by
  obtain ⟨e2, T2, H2, hI, hn⟩ := ih.scope _ _ _ _ _ _ hk
  obtain ⟨_, _, rfl⟩ := (hI _).1 hk
  exact hn
theorem PtF.nL {F : Fns Prop} (ih : PtF F) {nt : Nat} {c : Code} {t T : Tr V} {h H' : H} {e : Ex} (hk : F.loop nt c t h (Ends e T H')) : h.n ≤ H'.n := by
  obtain ⟨e2, T2, H2, hI, hn⟩ := ih.loop _ _ _ _ _ hk
  obtain ⟨_, _, rfl⟩ := (hI _).1 hk
  exact hn

theorem findL_eq : ∀ (c : Code) (l : Nat), stepS.findL c l = findLabel c l
  | .seq a b, l => by simp only [stepS.findL, findLabel, findL_eq a l, findL_eq b l]; cases findLabel a l <;> rfl
  | .label _, _ => rfl
  | .skip, _ | .ret, _ | .exit _, _ | .goto _, _ | .cond .., _ | .block .., _ | .loop _, _ | .scope _, _ | .region .., _ | .rangeFunc .., _ | .refuse _, _ => rfl

section
variable {C : Cx} {F : Fns Prop} {P : Program}

theorem stepL_ok (pt : PtF F) (ok : FOK P F) {ro : Option Nat} {nt : Nat} {c : Code} {t T : Tr V} {h H' : H} {e : Ex} (hk : stepL F nt c t h (Ends e T H')) {s0 : Nat} {φ : Phi} {w : World} {a : Act} {Q : Exit → Act → World → Prop} (p : Pre ro nt t h H'.n s0 φ w a) (hQ : PostOK nt φ h w s0 e T H' Q) : wpLoop ro P c Q a w := by
  simp only [stepL] at hk
  obtain ⟨e1, T1, H1, h1, hk2, hn1⟩ := pt.ends hk
  intro b k cs hro
  cases e1 with
  | normal =>
    simp only [] at hk2
    have hn2 := pt.nL hk2
    obtain ⟨e₁, a₁, w₁, hq, harr⟩ := ok.code ro nt c t h .normal T1 H1 h1 s0 φ w a (fun x a' w' => x = .normal ∧ wpLoop ro P c Q a' w') (p.left hn2) (fun φ' w' a' f hr tr mk => ⟨rfl, ok.loop ro nt c T1 H1 e T H' hk2 s0 φ' w' a' Q (p.next f hr tr mk) fun φ'' w'' a'' f2 hr2 tr2 mk2 => hQ φ'' w'' a'' (f.trans f2) hr2 tr2 mk2⟩) b (.inLoop c :: k) cs hro trivial (WF_room ro _)
    obtain ⟨rfl, hq⟩ := hq
    obtain ⟨e₂, a₂, w₂, hq₂, harr₂⟩ := hq b k cs hro
    exact ⟨e₂, a₂, w₂, hq₂, .of_steps (StepsIn.trans harr (.one (fenced_calm trivial (WF_room ro (cs.length + 1 + 0)) rfl) stepR_inLoop)) harr₂⟩
  | exit id =>
    obtain ⟨rfl, rfl, rfl⟩ := hk2
    obtain ⟨e₁, a₁, w₁, hq, harr⟩ := ok.code ro nt c t h _ _ _ h1 s0 φ w a (fun x a' w' => x = .exit id ∧ Q x a' w') p (fun φ' w' a' f hr tr mk => ⟨rfl, hQ φ' w' a' f hr tr mk⟩) b (.inLoop c :: k) cs hro trivial (WF_room ro _)
    obtain ⟨rfl, hq⟩ := hq
    exact ⟨_, a₁, w₁, hq, .pass (x := .inLoop c) rfl (fun _ _ => .inl (by simp)) harr⟩
  | goto l =>
    obtain ⟨rfl, rfl, rfl⟩ := hk2
    obtain ⟨e₁, a₁, w₁, hq, harr⟩ := ok.code ro nt c t h _ _ _ h1 s0 φ w a (fun x a' w' => x = .goto l ∧ Q x a' w') p (fun φ' w' a' f hr tr mk => ⟨rfl, hQ φ' w' a' f hr tr mk⟩) b (.inLoop c :: k) cs hro trivial (WF_room ro _)
    obtain ⟨rfl, hq⟩ := hq
    exact ⟨_, a₁, w₁, hq, .pass (x := .inLoop c) rfl (fun _ _ => .inl (by simp)) harr⟩
  | ret =>
    obtain ⟨rfl, rfl, rfl⟩ := hk2
    obtain ⟨e₁, a₁, w₁, hq, harr⟩ := ok.code ro nt c t h _ _ _ h1 s0 φ w a (fun x a' w' => x = .ret ∧ Q x a' w') p (fun φ' w' a' f hr tr mk => ⟨rfl, hQ φ' w' a' f hr tr mk⟩) b (.inLoop c :: k) cs hro trivial (WF_room ro _)
    obtain ⟨rfl, hq⟩ := hq
    exact ⟨_, a₁, w₁, hq, .pass (x := .inLoop c) rfl (fun _ _ => .inl (by simp)) harr⟩
end
end Dv
end

section
namespace Dv
open Go
universe u
section
variable {C : Cx} {F : Fns Prop} {P : Program}

theorem stepR_scope' {b : Frame} {a : Act} {k : List Item} {cs : List Frame} {w : World} {c : Code} : step P (lone (b.atR a (.code (.scope c) :: k)) cs w) = .next (lone (b.atR a (.code c :: .inScope c :: k)) cs w) :=
  step_lone_go (by simp [stepG, stepG.exec, Frame.atR])
theorem stepR_inScope' {b : Frame} {a : Act} {k : List Item} {cs : List Frame} {w : World} {c : Code} : step P (lone (b.atR a (.inScope c :: k)) cs w) = .next (lone (b.atR a k) cs w) :=
  step_lone_go (by simp [stepG, stepG.exec, Frame.atR])

theorem stepS_ok (pt : PtF F) (ok : FOK P F) {ro : Option Nat} {nt : Nat} {c r : Code} {t T : Tr V} {h H' : H} {e : Ex} (hk : stepS F nt c r t h (Ends e T H')) {s0 : Nat} {φ : Phi} {w : World} {a : Act} {Q : Exit → Act → World → Prop} (p : Pre ro nt t h H'.n s0 φ w a) (hQ : PostOK nt φ h w s0 e T H' Q) : wpScope ro P c r Q a w := by
  simp only [stepS] at hk
  obtain ⟨e1, T1, H1, h1, hk2, hn1⟩ := pt.ends hk
  intro b k cs hro
  cases e1 with
  | normal =>
    obtain ⟨rfl, rfl, rfl⟩ := hk2
    obtain ⟨e₁, a₁, w₁, hq, harr⟩ := ok.code ro nt r t h _ _ _ h1 s0 φ w a (fun x a' w' => x = .normal ∧ Q x a' w') p (fun φ' w' a' f hr tr mk => ⟨rfl, hQ φ' w' a' f hr tr mk⟩) b (.inScope c :: k) cs hro trivial (WF_room ro _)
    obtain ⟨rfl, hq⟩ := hq
    exact ⟨.normal, a₁, w₁, hq, StepsIn.trans harr (.one (fenced_calm trivial (WF_room ro (cs.length + 1 + 0)) rfl) stepR_inScope')⟩
  | exit id =>
    obtain ⟨rfl, rfl, rfl⟩ := hk2
    obtain ⟨e₁, a₁, w₁, hq, harr⟩ := ok.code ro nt r t h _ _ _ h1 s0 φ w a (fun x a' w' => x = .exit id ∧ Q x a' w') p (fun φ' w' a' f hr tr mk => ⟨rfl, hQ φ' w' a' f hr tr mk⟩) b (.inScope c :: k) cs hro trivial (WF_room ro _)
    obtain ⟨rfl, hq⟩ := hq
    have hx : exitTo id (.inScope c :: k) = exitTo id k := by simp [exitTo]
    exact ⟨_, a₁, w₁, hq, fun k' hk => harr.1 k' (by rw [hx]; exact hk), fun hr' hk => harr.2 hr' (by rw [hx]; exact hk)⟩
  | ret =>
    obtain ⟨rfl, rfl, rfl⟩ := hk2
    obtain ⟨e₁, a₁, w₁, hq, harr⟩ := ok.code ro nt r t h _ _ _ h1 s0 φ w a (fun x a' w' => x = .ret ∧ Q x a' w') p (fun φ' w' a' f hr tr mk => ⟨rfl, hQ φ' w' a' f hr tr mk⟩) b (.inScope c :: k) cs hro trivial (WF_room ro _)
    obtain ⟨rfl, hq⟩ := hq
    exact ⟨_, a₁, w₁, hq, harr⟩
  | goto l =>
    simp only [] at hk2
    cases hl : stepS.findL c l with
    | none =>
      rw [hl] at hk2
      obtain ⟨rfl, rfl, rfl⟩ := hk2
      rw [findL_eq] at hl
      obtain ⟨e₁, a₁, w₁, hq, harr⟩ := ok.code ro nt r t h _ _ _ h1 s0 φ w a (fun x a' w' => x = .goto l ∧ Q x a' w') p (fun φ' w' a' f hr tr mk => ⟨rfl, hQ φ' w' a' f hr tr mk⟩) b (.inScope c :: k) cs hro trivial (WF_room ro _)
      obtain ⟨rfl, hq⟩ := hq
      have hx : gotoIn l (.inScope c :: k) = gotoIn l k := by simp [gotoIn, hl]
      exact ⟨_, a₁, w₁, hq, fun k' hk => harr.1 k' (by rw [hx]; exact hk), fun hr' hk => harr.2 hr' (by rw [hx]; exact hk)⟩
    | some r2 =>
      rw [hl] at hk2
      have hn2 := pt.nS hk2
      rw [findL_eq] at hl
      obtain ⟨e₁, a₁, w₁, hq, harr⟩ := ok.code ro nt r t h _ T1 H1 h1 s0 φ w a (fun x a' w' => x = .goto l ∧ wpScope ro P c r2 Q a' w') (p.left hn2) (fun φ' w' a' f hr tr mk => ⟨rfl, ok.scope ro nt c r2 T1 H1 e T H' hk2 s0 φ' w' a' Q (p.next f hr tr mk) fun φ'' w'' a'' f2 hr2 tr2 mk2 => hQ φ'' w'' a'' (f.trans f2) hr2 tr2 mk2⟩) b (.inScope c :: k) cs hro trivial (WF_room ro _)
      obtain ⟨rfl, hq⟩ := hq
      obtain ⟨e₂, a₂, w₂, hq₂, harr₂⟩ := hq b k cs hro
      have hg : gotoIn l (.inScope c :: k) = some (.code r2 :: .inScope c :: k) := by simp [gotoIn, hl]
      exact ⟨e₂, a₂, w₂, hq₂, .of_steps (harr.1 _ hg) harr₂⟩
end
end Dv
end

section
namespace Dv
open Go
universe u
section
variable {C : Cx} {F : Fns Prop} {P : Program}

theorem wpIn_of_wpLoop {ro : Option Nat} {c : Code} {Q : Exit → Act → World → Prop} {a : Act} {w : World} (h : wpLoop ro P c Q a w) : (Code.loop c).wpIn (WF ro) 0 P Q a w := fun b k cs hro hb hr =>
  let ⟨e, a', w', q, r⟩ := h b k cs hro
  ⟨e, a', w', q, .of_steps (.one (fenced_calm hb hr rfl) stepR_loop) r⟩
theorem wpIn_of_wpScope {ro : Option Nat} {c : Code} {Q : Exit → Act → World → Prop} {a : Act} {w : World} (h : wpScope ro P c c Q a w) : (Code.scope c).wpIn (WF ro) 0 P Q a w := fun b k cs hro hb hr =>
  let ⟨e, a', w', q, r⟩ := h b k cs hro
  ⟨e, a', w', q, .of_steps (.one (fenced_calm hb hr rfl) stepR_scope') r⟩

theorem region_ok (hP : C.P = P) (hm : P.follows .mixedOrders = true) (pt : PtF F) (ok : FOK P F) {ro : Option Nat} {nt id : Nat} {ops : Array Oper} {d : Bool} {t T : Tr V} {h H' : H} {e : Ex} (hk : stepC Bad C F nt (.region id ops d) t h (Ends e T H')) {s0 : Nat} {φ : Phi} {w : World} {a : Act} {Q : Exit → Act → World → Prop} (p : Pre ro nt t h H'.n s0 φ w a) (hQ : PostOK nt φ h w s0 e T H' Q) : (Code.region id ops d).wpIn (WF ro) 0 P Q a w := by
  cases d with
  | false =>
    simp only [stepC] at hk
    obtain ⟨T2, H2, hI, hn⟩ := opsK_pt pt.call _ _ _ _ hk
    obtain ⟨rfl, rfl, rfl⟩ := (hI _).1 hk
    refine wpIn_region_list (opsK_ok hP pt.call ok.call ops.toList t h ((hI _).2 ⟨rfl, rfl⟩) φ w a p.hr p.tr p.fr fun φ' w' a' f hr tr hd => hQ φ' w' a' f hr tr ?_)
    rw [hd]; exact p.mks.mono f
  | true =>
    simp only [stepC] at hk
    split at hk
    · rename_i pl hpl
      obtain ⟨T2, H2, hI, hn⟩ := drawK_pt pt.call hpl hk
      obtain ⟨rfl, rfl, rfl⟩ := (hI _).1 hk
      refine wpIn_region_any hm ?_
      have hr' : HR φ h { w with drawn := w.drawn + 1 } := ⟨p.hr.obj, p.hr.inj, p.hr.fix⟩
      refine draw_ok hP pt.call ok.call hpl ((hI _).2 ⟨rfl, rfl⟩) hr' p.tr p.fr fun φ' w' a' f hr tr hd => ?_
      have f' : Fr φ h w φ' _ w' := ⟨f.ext, f.new, f.n, f.size, f.os, f.tape, f.output, f.keep, f.see, f.lp⟩
      refine hQ φ' w' a' f' hr tr ?_
      rw [hd]; exact p.mks.mono f'
    · cases hk

theorem callFunc_body {f : FuncId} {fn : Func} {c : Code} {args : Array Value} {w w' : World} {v : Value} (hf : P.funcs[f]? = some fn) (hb : fn.body = some c) : (callFunc f args).run P w ≠ .ok (.value v) w' := by
  intro h
  unfold callFunc at h
  simp only [Sem.run_bind, run_program, Result.andThen_ok, hf, hb, Option.isNone_some, Bool.false_eq_true, if_false] at h
  split at h <;> simp at h

theorem enterLoop_ok {ro : Option Nat} {w : World} (lp : Lp ro w) (fn : FuncId) (tmps : Array Value) (ps : Array Tmp) (asg body : Code) :
    ∃ l mark w1 r, (Instr.enterLoop fn tmps ps asg body ro).run P w = .ok (l, mark) w1 ∧ w1.heap[l]? = some (.loop r) ∧ r.state = .ready ∧ r.pending = none ∧ r.tmps = tmps ∧ r.params = ps ∧ r.assign = asg ∧ r.body = body ∧
      (∀ rb, rb < w.heap.size → w1.heap[rb]? = w.heap[rb]?) ∧ w.heap.size ≤ l ∧ w.heap.size ≤ w1.heap.size ∧ w1.os = w.os ∧ w1.tape = w.tape ∧ w1.output = w.output ∧
      (mark = [] ∨ (mark = [{ target := .collected w.heap.size, args := #[] }] ∧ w1.heap[w.heap.size]? = some (.deferred (some [])) ∧ l ≠ w.heap.size)) := by
  cases ro with
  | none =>
    refine ⟨_, _, _, { state := .ready, pending := none, fn := fn, tmps := tmps, params := ps, assign := asg, body := body, defers := w.heap.size }, run_enterLoop_outer fn tmps ps asg body, ?_, rfl, rfl, rfl, rfl, rfl, rfl, fun rb hlt => ?_, Nat.le_succ _, ?_, rfl, rfl, rfl, .inr ⟨rfl, ?_, Nat.succ_ne_self _⟩⟩
    · have := World.alloc_heap_new (w.alloc (.deferred (some []))) (.loop { state := .ready, pending := none, fn := fn, tmps := tmps, params := ps, assign := asg, body := body, defers := w.heap.size })
      rw [World.size_alloc] at this
      exact this
    · show ((w.heap.push _).push _)[rb]? = w.heap[rb]?
      rw [Array.getElem?_push, if_neg (by simp; omega), Array.getElem?_push, if_neg (by omega)]
    · show w.heap.size ≤ ((w.heap.push _).push _).size
      simp; omega
    · show ((w.heap.push _).push _)[w.heap.size]? = _
      rw [Array.getElem?_push, if_neg (by simp), Array.getElem?_push, if_pos rfl]
  | some l0 =>
    obtain ⟨r0, h0⟩ := lp l0 rfl
    refine ⟨_, _, _, { state := .ready, pending := none, fn := fn, tmps := tmps, params := ps, assign := asg, body := body, defers := r0.defers }, run_enterLoop_inner h0 fn tmps ps asg body, World.alloc_heap_new _ _, rfl, rfl, rfl, rfl, rfl, rfl, fun rb hlt => ?_, Nat.le_refl _, ?_, rfl, rfl, rfl, .inl rfl⟩
    · show (w.heap.push _)[rb]? = w.heap[rb]?
      rw [Array.getElem?_push, if_neg (by omega)]
    · show w.heap.size ≤ (w.heap.push _).size
      simp
end
end Dv
end

section
namespace Dv
open Go
universe u
section
variable {C : Cx} {F : Fns Prop} {P : Program}

theorem rangeFunc_ok (hP : C.P = P) (pt : PtF F) (ok : FOK P F) {ro : Option Nat} {nt : Nat} {g : Operand} {ps : Array Tmp} {asg body : Code} {t T : Tr V} {h H' : H} {e : Ex} (hk : stepC Bad C F nt (.rangeFunc g ps asg body) t h (Ends e T H')) {s0 : Nat} {φ : Phi} {w : World} {a : Act} {Q : Exit → Act → World → Prop} (p : Pre ro nt t h H'.n s0 φ w a) (hQ : PostOK nt φ h w s0 e T H' Q) : (Code.rangeFunc g ps asg body).wpIn (WF ro) 0 P Q a w := by
  subst hP
  simp only [stepC] at hk
  split at hk
  · rename_i f first captured hv
    split at hk
    · rename_i bd hbd
      rw [H.newK_eq] at hk
      obtain ⟨v, H1, hI, hn⟩ := pt.call _ _ _ _ hk
      have hk2 := (hI _).1 hk
      split at hk2
      · rename_i st pend nt' t' ps' asg' body' hg
        have hJ : st ≠ .busy ∧ t = T ∧ H1.upd h.n (.loop .exhausted pend nt' t' ps' asg' body') = H' ∧
            ((pend = none ∧ e = .normal) ∨ (pend = some .ret ∧ e = .ret) ∨ (∃ id, pend = some (.exit id) ∧ e = .exit id) ∨ ∃ l, pend = some (.goto l) ∧ e = .goto l) := by
          cases st with
          | busy => cases hk2
          | _ =>
            simp only [H.setK_eq] at hk2
            refine ⟨by simp, ?_⟩
            cases pend with
            | none => obtain ⟨rfl, h2, h3⟩ := hk2; exact ⟨h2, h3, .inl ⟨rfl, rfl⟩⟩
            | some c =>
              cases c with
              | ret => obtain ⟨rfl, h2, h3⟩ := hk2; exact ⟨h2, h3, .inr (.inl ⟨rfl, rfl⟩)⟩
              | exit id => obtain ⟨rfl, h2, h3⟩ := hk2; exact ⟨h2, h3, .inr (.inr (.inl ⟨id, rfl, rfl⟩))⟩
              | goto l => obtain ⟨rfl, h2, h3⟩ := hk2; exact ⟨h2, h3, .inr (.inr (.inr ⟨l, rfl, rfl⟩))⟩
              | _ => cases hk2
        obtain ⟨hst, rfl, rfl, hj⟩ := hJ
        obtain ⟨fn, hfn, hbody⟩ : ∃ fn, C.P.funcs[f]? = some fn ∧ fn.body = some bd := by
          cases hx : C.P.funcs[f]? with
          | none => rw [hx] at hbd; cases hbd
          | some fn => rw [hx] at hbd; exact ⟨fn, rfl, hbd⟩
        have hlt : h.n < H1.n := Nat.lt_of_lt_of_le (Nat.lt_succ_self _) hn
        have hf : φ h.n = none := p.fr h.n (Nat.le_refl _) hlt
        refine wpIn_rangeFunc fun fnid _ => ?_
        obtain ⟨l, mark, w1, r, h1, h2, h3, h4, h5, h6, h7, h8, h9, h10, h11, h12, h13, h14, h15⟩ := enterLoop_ok (P := C.P) p.lp fnid a.tmps ps asg body
        have hle := Phi.le_set (l := (⟨l, 0, 0⟩ : Loc)) hf
        obtain ⟨f1, hr1⟩ := HR.newO (l := ⟨l, 0, 0⟩) (o := .loop .ready none nt t ps.toList asg body) p.hr hf h9 h11 h12 h13 h14 h10
          ⟨r, h2, h3, h4, by rw [h6], h7, h8, by rw [h5]; exact p.tr.1, fun i v hv => by rw [h5]; obtain ⟨x, hx, hxr⟩ := p.tr.2 i v hv; exact ⟨x, hx, hxr.mono hle _ _⟩⟩
        obtain ⟨fn', fs', cs', e1, hfr, hfs, hcs⟩ := eva_rel p.tr.2 g _ hv
        obtain rfl : fn' = .func f := by
          rcases hfr with ⟨b, l, e, _⟩ | ⟨_, e⟩
          · cases e
          · exact e
        have hrels : rels (φ.set h.n ⟨l, 0, 0⟩) (first ++ [V.func (.yield h.n) [] []] ++ captured) (fs' ++ #[Value.func (.yield l) #[] #[]] ++ cs').toList := by
          rw [Array.toList_append, Array.toList_append]
          have hy : rels (φ.set h.n ⟨l, 0, 0⟩) [V.func (.yield h.n) [] []] [Value.func (.yield l) #[] #[]] := ⟨_, [], rfl, ⟨_, #[], #[], rfl, .inl ⟨h.n, ⟨l, 0, 0⟩, rfl, Phi.set_self .., rfl⟩, rfl, rfl⟩, rfl⟩
          exact ((hfs.mono hle _ _).append hy).append (hcs.mono hle _ _)
        have hcl : RCalls C.P f _ w1 _ := ok.call (.fn f) _ _ v H1 hI _ w1 _ hr1 hrels (p.fr.right f1)
        rcases hcl with ⟨c1, c2⟩ | ⟨v', w', c1, _⟩
        · refine ⟨l, mark, w1, { target := .fn (.func f) cs', args := fs' ++ #[.func (.yield l) #[] #[]] }, w1, f, _, w1, h1, ?_, fun _ _ => trivial, c1, fun hx => by simp [WF] at hx, (callsIn_of_calls c2).mono ?_⟩
          · simp only [rangeCall, resolve, e1, Deferred.ofValue, Sem.run_pure]; simp [Act.eval]
          · rintro en w3 ⟨y, rfl, φ', f2, hr2, _⟩
            have hφ : φ' h.n = some ⟨l, 0, 0⟩ := f2.ext _ _ (Phi.set_self ..)
            obtain ⟨r2, k1, k2, k3, _⟩ := hr2.obj h.n _ _ hg hφ
            have k1 : w3.heap[l]? = some (.loop r2) := k1
            obtain ⟨f3, hr3⟩ := hr2.loopUpd (st' := .exhausted) (pend' := pend) hg hφ k1
            have hrun : (Instr.endLoop l).run C.P w3 = .ok pend (w3.putObj l (.loop { r2 with state := .exhausted, pending := pend })) := by rw [← k3]; exact run_endLoop k1 (by rw [k2]; exact hst)
            refine ⟨pend, _, hrun, ?_⟩
            have hmk1 : Mk s0 (φ.set h.n ⟨l, 0, 0⟩) (h.push (.loop .ready none nt t ps.toList asg body)) w1 (mark ++ a.defers) := by
              rcases h15 with rfl | ⟨rfl, m1, m2⟩
              · exact p.mks.mono f1
              · obtain ⟨q1, rs, q2, q3, q4⟩ := p.mks.mono f1
                have hltr : ∀ r ∈ rs, r < w.heap.size := fun r hr => by
                  obtain ⟨_, rs', q2', _, q4'⟩ := p.mks
                  have : rs = rs' := by
                    rw [q2] at q2'
                    exact (List.map_inj_right (fun a b h => by simpa using h)).1 q2'
                  subst this
                  exact (Array.getElem?_eq_some_iff.1 (q4' r hr).2.1).1
                refine ⟨q1, w.heap.size :: rs, by rw [q2]; rfl, List.nodup_cons.2 ⟨fun hm => Nat.lt_irrefl _ (hltr _ hm), q3⟩, fun r hr => ?_⟩
                rcases List.mem_cons.1 hr with rfl | hr
                · refine ⟨p.mks.1, m1, ?_⟩
                  rintro ⟨b, l', o, hgb, hlv, hφb, hrb⟩
                  rcases H.get_push hgb with ⟨rfl, rfl⟩ | ⟨hb, hgb⟩
                  · rw [Phi.set_self] at hφb; cases hφb; exact m2 hrb
                  · unfold Phi.set at hφb
                    rw [if_neg (by omega)] at hφb
                    have := rb_lt (p.hr.obj b o l' hgb hφb) hlv
                    omega
                · exact q4 r hr
            have hend : Q e.ex { a with defers := mark ++ a.defers } (w3.putObj l (.loop { r2 with state := .exhausted, pending := pend })) := by
              refine hQ φ' _ _ ((f1.trans f2).trans f3) hr3 ⟨p.tr.1, fun i u hu => ?_⟩ ((hmk1.mono f2).mono f3)
              obtain ⟨x, hx, hxr⟩ := p.tr.2 i u hu
              exact ⟨x, hx, hxr.mono (f1.ext.trans f2.ext) _ _⟩
            rcases hj with ⟨rfl, rfl⟩ | ⟨rfl, rfl⟩ | ⟨id, rfl, rfl⟩ | ⟨l', rfl, rfl⟩
            · exact hend
            · exact wpIn_ret hend
            · exact wpIn_exit hend
            · exact wpIn_goto hend
        · exact (callFunc_body hfn hbody c1).elim
      · cases hk2
    · cases hk
  · cases hk
end
end Dv
end

section
namespace Dv
open Go
universe u
section
variable {C : Cx} {F : Fns Prop} {P : Program}

theorem TR.evalB {φ : Phi} {nt : Nat} {t : Tr V} {a : Act} {c : Operand} {b : Bool} (tr : TR φ nt t a) (h : eva t c = some (.bool b)) : a.eval c = .bool b :=
  eva_rel (φ := φ) tr.2 c _ h

theorem stepC_ok (hP : C.P = P) (hm : P.follows .mixedOrders = true) (pt : PtF F) (ok : FOK P F) {ro : Option Nat} {nt : Nat} {c : Code} {t T : Tr V} {h H' : H} {e : Ex} (hk : stepC Bad C F nt c t h (Ends e T H')) {s0 : Nat} {φ : Phi} {w : World} {a : Act} {Q : Exit → Act → World → Prop} (p : Pre ro nt t h H'.n s0 φ w a) (hQ : PostOK nt φ h w s0 e T H' Q) : c.wpIn (WF ro) 0 P Q a w := by
  cases c with
  | skip => obtain ⟨rfl, rfl, rfl⟩ := hk; exact wpIn_skip (hQ φ w a (.refl ..) p.hr p.tr p.mks)
  | label l => obtain ⟨rfl, rfl, rfl⟩ := hk; exact wpIn_label (hQ φ w a (.refl ..) p.hr p.tr p.mks)
  | ret => obtain ⟨rfl, rfl, rfl⟩ := hk; exact wpIn_ret (hQ φ w a (.refl ..) p.hr p.tr p.mks)
  | exit id => obtain ⟨rfl, rfl, rfl⟩ := hk; exact wpIn_exit (hQ φ w a (.refl ..) p.hr p.tr p.mks)
  | goto l => obtain ⟨rfl, rfl, rfl⟩ := hk; exact wpIn_goto (hQ φ w a (.refl ..) p.hr p.tr p.mks)
  | seq x y =>
    simp only [stepC] at hk
    obtain ⟨e1, T1, H1, h1, hk2, hn1⟩ := pt.ends hk
    refine wpIn_seq ?_
    cases e1 with
    | normal =>
      simp only [] at hk2
      have hn2 := pt.n hk2
      exact ok.code ro nt x t h _ _ _ h1 s0 φ w a _ (p.left hn2) fun φ' w' a' f hr tr mk =>
        ok.code ro nt y T1 H1 _ _ _ hk2 s0 φ' w' a' Q (p.next f hr tr mk) fun φ'' w'' a'' f2 hr2 tr2 mk2 => hQ φ'' w'' a'' (f.trans f2) hr2 tr2 mk2
    | exit id => obtain ⟨rfl, rfl, rfl⟩ := hk2; exact ok.code ro nt x t h _ _ _ h1 s0 φ w a _ p fun φ' w' a' f hr tr mk => hQ φ' w' a' f hr tr mk
    | goto l => obtain ⟨rfl, rfl, rfl⟩ := hk2; exact ok.code ro nt x t h _ _ _ h1 s0 φ w a _ p fun φ' w' a' f hr tr mk => hQ φ' w' a' f hr tr mk
    | ret => obtain ⟨rfl, rfl, rfl⟩ := hk2; exact ok.code ro nt x t h _ _ _ h1 s0 φ w a _ p fun φ' w' a' f hr tr mk => hQ φ' w' a' f hr tr mk
  | cond c x y =>
    simp only [stepC] at hk
    split at hk
    · rename_i hv
      exact wpIn_cond_true (p.tr.evalB hv) (ok.code ro nt x t h _ _ _ hk s0 φ w a Q p hQ)
    · rename_i hv
      exact wpIn_cond_false (p.tr.evalB hv) (ok.code ro nt y t h _ _ _ hk s0 φ w a Q p hQ)
    · cases hk
  | block id c =>
    simp only [stepC] at hk
    obtain ⟨e1, T1, H1, h1, hk2, hn1⟩ := pt.ends hk
    refine wpIn_block ?_
    cases e1 with
    | exit i =>
      by_cases hi : i = id
      · simp only [beq_dec, hi, decide_true, cond_true] at hk2
        obtain ⟨rfl, rfl, rfl⟩ := hk2
        exact ok.code ro nt c t h _ _ _ h1 s0 φ w a _ p fun φ' w' a' f hr tr mk => by
          show (if i = id then _ else _)
          rw [if_pos hi]; exact hQ φ' w' a' f hr tr mk
      · simp only [beq_dec, hi, decide_false, cond_false] at hk2
        obtain ⟨rfl, rfl, rfl⟩ := hk2
        exact ok.code ro nt c t h _ _ _ h1 s0 φ w a _ p fun φ' w' a' f hr tr mk => by
          show (if i = id then _ else _)
          rw [if_neg hi]; exact hQ φ' w' a' f hr tr mk
    | normal => obtain ⟨rfl, rfl, rfl⟩ := hk2; exact ok.code ro nt c t h _ _ _ h1 s0 φ w a _ p fun φ' w' a' f hr tr mk => hQ φ' w' a' f hr tr mk
    | goto l => obtain ⟨rfl, rfl, rfl⟩ := hk2; exact ok.code ro nt c t h _ _ _ h1 s0 φ w a _ p fun φ' w' a' f hr tr mk => hQ φ' w' a' f hr tr mk
    | ret => obtain ⟨rfl, rfl, rfl⟩ := hk2; exact ok.code ro nt c t h _ _ _ h1 s0 φ w a _ p fun φ' w' a' f hr tr mk => hQ φ' w' a' f hr tr mk
  | loop c => exact wpIn_of_wpLoop (ok.loop ro nt c t h _ _ _ hk s0 φ w a Q p hQ)
  | scope c => exact wpIn_of_wpScope (ok.scope ro nt c c t h _ _ _ hk s0 φ w a Q p hQ)
  | region id ops d => exact region_ok hP hm pt ok hk p hQ
  | rangeFunc g ps asg body => exact rangeFunc_ok hP pt ok hk p hQ
  | _ => cases hk
end
end Dv
end

section
namespace Dv
open Go
universe u
section
variable {C : Cx} {F : Fns Prop} {P : Program}

theorem allB_iff {α : Type} {p : α → Bool} : ∀ {l : List α}, allB p l = true → ∀ x ∈ l, p x = true
  | [], _, _, h => by cases h
  | y :: l, h, x, hx => by
    simp only [allB] at h
    cases hp : p y with
    | false => rw [hp] at h; cases h
    | true =>
      rw [hp] at h
      rcases List.mem_cons.1 hx with rfl | hx
      · exact hp
      · exact allB_iff h x hx

theorem puts_ok {φ : Phi} {nt : Nat} {ds : List Deferred} : ∀ {ps : List Tmp} {vs : List V} {t t1 : Tr V} {xs : List Value} {A : Array Value}, TR φ nt t { tmps := A, defers := ds } → allB (fun p => Nat.blt p nt) ps = true → rels φ vs xs → putsV ps vs t = some t1 →
    xs.length = ps.length ∧ TR φ nt t1 { tmps := (ps.zip xs).foldl (fun tmps (t, a) => tmps.setIfInBounds t a) A, defers := ds }
  | [], vs, t, t1, xs, A, tr, _, hr, hp => by
    cases vs with
    | nil => cases hp; cases hr; exact ⟨rfl, tr⟩
    | cons => cases hp
  | p :: ps, vs, t, t1, xs, A, tr, hb, hr, hp => by
    cases vs with
    | nil => cases hp
    | cons v vs =>
      obtain ⟨x, xs, rfl, hx, hxs⟩ := hr
      simp only [allB] at hb
      cases hpb : Nat.blt p nt with
      | false => rw [hpb] at hb; cases hb
      | true =>
        rw [hpb] at hb
        have hlt : p < nt := by rw [← Nat.blt_eq]; exact hpb
        have tr' : TR φ nt (t.set depth p v) { tmps := A.setIfInBounds p x, defers := ds } :=
          TR.put (dst := some p) (a := { tmps := A, defers := ds }) tr hx (by simp [putV, hlt])
        obtain ⟨h1, h2⟩ := puts_ok tr' hb hxs hp
        exact ⟨by simp [h1], h2⟩

theorem stepR_ok (pt : PtF F) (ok : FOK P F) {b : Nat} {args : List V} {h h' : H} {v : V} (hI : IsC (stepR Bad F b args h) v h') {φ : Phi} {w : World} {args' : Array Value} (hr : HR φ h w) (ha : rels φ args args'.toList) (hf : Free φ h.n h'.n) :
    TCalls P φ (.rnd b) args' w fun y w' => ∃ φ', Fr φ h w φ' h' w' ∧ HR φ' h' w' ∧ rel φ' v y := by
  have hk : stepR Bad F b args h (fun v2 h2 => v2 = v ∧ h2 = h') := (hI _).2 ⟨rfl, rfl⟩
  unfold stepR at hk
  split at hk
  · rename_i st pend nt t ps asg body hg
    cases hps : allB (fun p => Nat.blt p nt) ps with
    | false => rw [hps] at hk; cases hk
    | true =>
      rw [hps] at hk
      simp only [cond_true] at hk
      obtain ⟨t1, ht1, hk⟩ := (putsK_iff _ _ _ _).1 hk
      obtain ⟨e1, T1, H1, h1, hk2, hn1⟩ := pt.ends hk
      cases e1 with
      | normal =>
        simp only [] at hk2
        split at hk2
        · rename_i pend1 nt1 t1' ps1 asg1 body1 hg1
          rw [H.setK_eq] at hk2
          obtain ⟨e2, T2, H2, h2, hk3, hn2⟩ := pt.ends hk2
          split at hk3
          · rename_i st2 pend2 nt2 t2' ps2 asg2 body2 hg2
            have hn2' : H1.n ≤ H2.n := hn2
            have hfin : H2.n = h'.n := by
              cases e2 <;> (simp only [H.setK_eq] at hk3; obtain ⟨_, rfl⟩ := hk3; rfl)
            intro l hl
            obtain ⟨r, k1, k2, k3, k4, k5, k6, k7, k8⟩ := hr.obj b _ l hg hl
            have tr0 : TR φ nt t { tmps := r.tmps, defers := [] } := ⟨k7, k8⟩
            obtain ⟨q1, q2⟩ := puts_ok tr0 hps ha ht1
            have hsz : args'.size = r.params.size := by
              have : args'.toList.length = r.params.toList.length := by rw [k4]; exact q1
              simpa using this
            refine ⟨r.fn, _, asg, body, by rw [run_yield k1 hsz, k5, k6], ?_⟩
            have hzip : (r.params.zip args').foldl (fun tmps (t, a) => tmps.setIfInBounds t a) r.tmps = (ps.zip args'.toList).foldl (fun tmps (t, a) => tmps.setIfInBounds t a) r.tmps := by
              rw [← Array.foldl_toList, Array.toList_zip, k4]
            refine roundIn_of_wpIn trivial ?_
            rw [hzip]
            have lp : Lp (some l.rb) w := fun _ e => by cases e; exact ⟨r, k1⟩
            have pre : Pre (some l.rb) nt t1 h H1.n w.heap.size φ w { tmps := (ps.zip args'.toList).foldl (fun tmps (t, a) => tmps.setIfInBounds t a) r.tmps, defers := [] } :=
              ⟨hr, q2, hf.left (by omega), Mk.nil (Nat.le_refl _), lp⟩
            refine ok.code (some l.rb) nt asg t1 h .normal T1 H1 h1 w.heap.size φ w _ _ pre fun φ1 w1 a1 f1 hr1 tr1 mk1 => ?_
            have hl1 : φ1 b = some l := f1.ext _ _ hl
            obtain ⟨r1, j1, j2, _⟩ := hr1.obj b _ l hg1 hl1
            refine ⟨_, run_beginRound j1 j2, ?_⟩
            obtain ⟨f2, hr2⟩ := hr1.loopUpd (st' := .busy) (pend' := pend1) hg1 hl1 j1
            have j3 : r1.pending = pend1 := by
              obtain ⟨r1', j1', _, j3', _⟩ := hr1.obj b _ l hg1 hl1
              rw [j1] at j1'; cases j1'; exact j3'
            have ew : ({ r1 with state := .busy } : Loop) = { r1 with state := .busy, pending := pend1 } := by rw [← j3]
            rw [ew]
            have pre2 : Pre (some l.rb) nt T1 (H1.upd b (.loop .busy pend1 nt1 t1' ps1 asg1 body1)) H2.n w.heap.size φ1 _ a1 :=
              (Pre.next (n := H2.n) ⟨pre.hr, pre.tr, hf.left (by omega), pre.mks, lp⟩ (f1.trans f2) hr2 tr1 (mk1.mono f2))
            refine ok.code (some l.rb) nt body T1 _ e2 T2 H2 h2 w.heap.size φ1 _ a1 _ pre2 fun φ3 w3 a3 f3 hr3 tr3 mk3 => ?_
            have hl3 : φ3 b = some l := f3.ext _ _ hl1
            obtain ⟨r3, i1, _⟩ := hr3.obj b _ l hg2 hl3
            cases e2 with
            | normal =>
              simp only [H.setK_eq] at hk3
              obtain ⟨rfl, rfl⟩ := hk3
              obtain ⟨f4, hr4⟩ := hr3.loopUpd (st' := .ready) (pend' := none) hg2 hl3 i1
              exact ⟨_, _, run_endRound none i1, _, rfl, φ3, ((f1.trans f2).trans f3).trans f4, hr4, rfl⟩
            | ret =>
              simp only [H.setK_eq] at hk3
              obtain ⟨rfl, rfl⟩ := hk3
              obtain ⟨f4, hr4⟩ := hr3.loopUpd (st' := .done) (pend' := some .ret) hg2 hl3 i1
              exact ⟨_, _, run_endRound (some .ret) i1, _, rfl, φ3, ((f1.trans f2).trans f3).trans f4, hr4, rfl⟩
            | exit id =>
              simp only [H.setK_eq] at hk3
              obtain ⟨rfl, rfl⟩ := hk3
              obtain ⟨f4, hr4⟩ := hr3.loopUpd (st' := .done) (pend' := some (.exit id)) hg2 hl3 i1
              exact ⟨_, _, run_endRound (some (.exit id)) i1, _, rfl, φ3, ((f1.trans f2).trans f3).trans f4, hr4, rfl⟩
            | goto j =>
              simp only [H.setK_eq] at hk3
              obtain ⟨rfl, rfl⟩ := hk3
              obtain ⟨f4, hr4⟩ := hr3.loopUpd (st' := .done) (pend' := some (.goto j)) hg2 hl3 i1
              exact ⟨_, _, run_endRound (some (.goto j)) i1, _, rfl, φ3, ((f1.trans f2).trans f3).trans f4, hr4, rfl⟩
          · cases hk3
        · cases hk2
      | exit id => cases hk2
      | goto l => cases hk2
      | ret => cases hk2
  · cases hk
end
end Dv
end

section
namespace Dv
open Go
universe u

/-- no function that is run bears the name that the machine itself looks at -/
def NoNG (P : Program) : Prop := ∀ (f : FuncId) (fn : Func), P.funcs[f]? = some fn → fn.body.isSome = true → (fn.name == "runtime.NumGoroutine") = false

/-- a summary says what the model's call comes to -/
def SumOK (P : Program) (f : FuncId) (s : Summ) : Prop :=
  ∀ args h a, s args h = some a → (∀ q, a.side = some q → q) → ∀ (φ : Phi) (w : World) (args' : Array Value), HR φ h w → rels φ args args'.toList → Free φ h.n (newsV a.new (updsV a.upd h)).n →
    RCalls P f args' w fun y w' => ∃ φ', Fr φ h w φ' (newsV a.new (updsV a.upd h)) w' ∧ HR φ' (newsV a.new (updsV a.upd h)) w' ∧ rel φ' a.v y

structure CxOK (C : Cx) (P : Program) : Prop where
  prog : C.P = P
  mixed : P.follows .mixedOrders = true
  ng : NoNG P
  sums : ∀ f s, C.S f = some s → SumOK P f s

theorem argsV_get : ∀ (l : List V) (i : Nat) (t : Tr V) (j : Nat) (v : V), (argsV i l t).get j = some v → (i ≤ j ∧ l[j - i]? = some v) ∨ t.get j = some v
  | [], _, _, _, _, h => .inr h
  | x :: l, i, t, j, v, h => by
    simp only [argsV] at h
    rcases argsV_get l (Nat.succ i) _ j v h with ⟨h1, h2⟩ | h
    · left
      have h1 : i + 1 ≤ j := h1
      refine ⟨by omega, ?_⟩
      have : j - i = (j - Nat.succ i) + 1 := by show j - i = j - (i + 1) + 1; omega
      rw [this, List.getElem?_cons_succ]; exact h2
    · rcases Tr.get_set x depth t i j v h with ⟨rfl, rfl⟩ | ⟨_, h2⟩
      · left; exact ⟨Nat.le_refl _, by simp⟩
      · exact .inr h2

theorem args_TR {φ : Phi} {args : List V} {args' : Array Value} {nt : Nat} (ha : rels φ args args'.toList) {ds : List Deferred} :
    TR φ nt (argsV 0 args .nil) { tmps := args' ++ Array.replicate (nt - args'.size) undef, defers := ds } := by
  refine ⟨by simp; omega, fun i v hv => ?_⟩
  rcases argsV_get _ _ _ _ _ hv with ⟨_, h⟩ | h
  · obtain ⟨x, hx, hxr⟩ := ha.get i v (by simpa using h)
    refine ⟨x, ?_, hxr⟩
    have hx : args'[i]? = some x := by simpa using hx
    have hlt : i < args'.size := (Array.getElem?_eq_some_iff.1 hx).1
    show (args' ++ _)[i]? = some x
    rw [Array.getElem?_append_left hlt]; exact hx
  · rw [Tr.get_nil] at h; cases h

theorem callFunc_enter {P : Program} (ng : NoNG P) {f : FuncId} {fn : Func} {c : Code} {args : Array Value} {w : World} (hf : P.funcs[f]? = some fn) (hb : fn.body = some c) : (callFunc f args).run P w = .ok (.enter f args) w := by
  have hng := ng f fn hf (by rw [hb]; rfl)
  unfold callFunc
  simp only [Sem.run_bind, run_program, Result.andThen_ok, hf, hng, hb, Option.isNone_some, Bool.false_eq_true, if_false, Sem.run_pure]

theorem results_ok {P : Program} {fn : Func} {φ : Phi} {h : H} {w : World} {nt : Nat} {t : Tr V} {a : Act} (hr : HR φ h w) (ht : TR φ nt t a) {vs : List V} (he : resV P t h fn.results.toList = some vs) {v : V} (hv : vs = [v] ∨ ((∀ x, vs ≠ [x]) ∧ v = .tuple vs)) :
    ∃ y, (results fn a.tmps).run P w = .ok y w ∧ rel φ v y := by
  obtain ⟨ys, h1, h2⟩ := resV_ok hr ht he
  have hlen := h2.length
  have hrun : (results fn a.tmps).run P w = .ok (if h : ys.toArray.size = 1 then ys.toArray[0] else .tuple ys.toArray) w := by
    unfold results
    rw [Array.mapM_eq_mapM_toList]
    simp only [Sem.run_bind, bind_assoc, map_eq_pure_bind]
    refine Eq.trans (congrArg (fun r => Result.andThen r _) (show _ = _ from h1)) ?_
    simp only [Result.andThen_ok, Sem.run_pure]
  refine ⟨_, hrun, ?_⟩
  rcases hv with rfl | ⟨hne, rfl⟩
  · obtain ⟨y, ys', rfl, hy, rfl⟩ := h2
    simpa using hy
  · have : ¬ ys.toArray.size = 1 := by
      intro e
      have : vs.length = 1 := by rw [hlen]; simpa using e
      obtain ⟨x, hx⟩ := List.length_eq_one_iff.1 this
      exact hne x hx
    rw [dif_neg this]
    exact ⟨ys.toArray, rfl, by simpa using h2⟩

section
variable {C : Cx} {F : Fns Prop} {P : Program}

theorem stepF_ok (cx : CxOK C P) (pt : PtF F) (ok : FOK P F) {f : FuncId} {args : List V} {h h' : H} {v : V} (hI : IsC (stepF Bad C F f args h) v h') {φ : Phi} {w : World} {args' : Array Value} (hr : HR φ h w) (ha : rels φ args args'.toList) (hf : Free φ h.n h'.n) :
    RCalls P f args' w fun y w' => ∃ φ', Fr φ h w φ' h' w' ∧ HR φ' h' w' ∧ rel φ' v y := by
  obtain ⟨rfl, hm, ng, hsum⟩ := cx
  have hk : stepF Bad C F f args h (fun v2 h2 => v2 = v ∧ h2 = h') := (hI _).2 ⟨rfl, rfl⟩
  unfold stepF at hk
  split at hk
  · rename_i a hs2
    simp only [updsK_eq, newsK_eq] at hk
    rw [gateP_iff] at hk
    obtain ⟨hside, rfl, rfl⟩ := hk
    unfold summ at hs2
    split at hs2
    · rename_i s hs
      exact hsum f s hs args h a hs2 hside φ w args' hr ha hf
    · cases hs2
  · split at hk
    · rename_i fn hfn
      split at hk
      · rename_i c hb
        rw [argsK_eq] at hk
        obtain ⟨e, T, H', h1, hk2, hn⟩ := pt.ends hk
        have key : (e = .normal ∨ e = .ret) ∧ ∃ vs, resV C.P T H' fn.results.toList = some vs ∧ (vs = [v] ∨ ((∀ x, vs ≠ [x]) ∧ v = .tuple vs)) ∧ H' = h' := by
          cases hr : resV C.P T H' fn.results.toList with
          | none => rw [hr] at hk2; cases e <;> cases hk2
          | some vs =>
            rw [hr] at hk2
            have he : e = .normal ∨ e = .ret := by cases e <;> first | exact .inl rfl | exact .inr rfl | cases hk2
            refine ⟨he, vs, rfl, ?_⟩
            cases vs with
            | nil => rcases he with rfl | rfl <;> exact ⟨.inr ⟨(fun x h => by cases h), hk2.1.symm⟩, hk2.2⟩
            | cons x l =>
              cases l with
              | nil => rcases he with rfl | rfl <;> exact ⟨.inl (by rw [hk2.1]), hk2.2⟩
              | cons y l => rcases he with rfl | rfl <;> exact ⟨.inr ⟨(fun x h => by cases h), hk2.1.symm⟩, hk2.2⟩
        obtain ⟨he, vs, hvs, hv, rfl⟩ := key
        refine .inl ⟨callFunc_enter ng hfn hb, callsIn_wide (n := 0) |>.1 ?_⟩
        refine callsIn_of_wp_marks hfn hb trivial ?_
        have pre : Pre none fn.ntmps (argsV 0 args .nil) h H'.n w.heap.size φ w { tmps := args' ++ Array.replicate (fn.ntmps - args'.size) undef, defers := [] } :=
          ⟨hr, args_TR ha, hf, Mk.nil (Nat.le_refl _), fun _ e => by cases e⟩
        refine ok.code none fn.ntmps c _ h e T H' h1 w.heap.size φ w _ _ pre fun φ1 w1 a1 f1 hr1 tr1 mk1 => ?_
        obtain ⟨_, rs, hds, nd, hall⟩ := mk1
        have fin : LeavesInM Fence.wide 0 C.P fn a1.tmps (fun e w' => ∃ v', e = .returned v' ∧ ∃ φ', Fr φ h w φ' H' w' ∧ HR φ' H' w' ∧ rel φ' v v') a1.defers .returning w1 := by
          rw [hds]
          refine Mk.leaves (s0 := w.heap.size) rs w1 nd hall hr1 fun w2 hr2 g1 g2 g3 g4 g5 g6 => ?_
          obtain ⟨y, hy, hyr⟩ := results_ok hr2 tr1 hvs hv
          refine ⟨y, hy, y, rfl, φ1, ⟨f1.ext, f1.new, f1.n, by rw [g4]; exact f1.size, by rw [g1]; exact f1.os, by rw [g2]; exact f1.tape, by rw [g3]; exact f1.output, fun rb hlt hown => ?_, f1.see, fun rb r hr => ?_⟩, hr2, hyr⟩
          · rw [g5 rb hlt]; exact f1.keep rb hlt hown
          · obtain ⟨r', hr'⟩ := f1.lp rb r hr
            exact ⟨r', g6 rb r' hr'⟩
        rcases he with rfl | rfl <;> exact fin
      · cases hk
    · cases hk

theorem run_ok (cx : CxOK C P) : ∀ n, FOK P (run Bad C n)
  | 0 => ⟨fun _ _ _ _ _ _ _ _ h => h.elim, fun _ _ _ _ _ _ _ _ _ h => h.elim, fun _ _ _ _ _ _ _ _ h => h.elim, fun _ _ _ _ _ h => ((h fun _ _ => True).2 trivial).elim⟩
  | n + 1 => ⟨fun _ _ _ _ _ _ _ _ h _ _ _ _ _ p hQ => stepC_ok cx.prog cx.mixed (run_pt C n) (run_ok cx n) h p hQ,
      fun _ _ _ _ _ _ _ _ _ h _ _ _ _ _ p hQ => stepS_ok (run_pt C n) (run_ok cx n) h p hQ,
      fun _ _ _ _ _ _ _ _ h _ _ _ _ _ p hQ => stepL_ok (run_pt C n) (run_ok cx n) h p hQ,
      fun tg args h v h' hI φ w args' hr ha hf => by
        cases tg with
        | fn f => exact stepF_ok cx (run_pt C n) (run_ok cx n) hI hr ha hf
        | rnd b => exact stepR_ok (run_pt C n) (run_ok cx n) hI hr ha hf⟩

/-- THE EVALUATOR IS SOUND: what it answers is what the model's call comes to. -/
theorem run_calls (cx : CxOK C P) {n : Nat} {f : FuncId} {args : List V} {h h' : H} {v : V} (hk : (run Bad C n).call (.fn f) args h (fun v2 h2 => v2 = v ∧ h2 = h')) {φ : Phi} {w : World} {args' : Array Value} (hr : HR φ h w) (ha : rels φ args args'.toList) (hf : Free φ h.n h'.n) :
    RCalls P f args' w fun y w' => ∃ φ', Fr φ h w φ' h' w' ∧ HR φ' h' w' ∧ rel φ' v y := by
  obtain ⟨v2, h2, hI, _⟩ := (run_pt C n).call _ _ _ _ hk
  obtain ⟨rfl, rfl⟩ := (hI _).1 hk
  exact (run_ok cx n).call (.fn f) args h _ _ hI φ w args' hr ha hf
end
end Dv
end
