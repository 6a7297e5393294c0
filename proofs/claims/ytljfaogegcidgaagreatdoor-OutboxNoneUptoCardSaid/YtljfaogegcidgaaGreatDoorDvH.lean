/-
  Regions that draw their order come to what the evaluator says.
-/
import Derived.Test.YtljfaogegcidgaaGreatDoorDvG
import Derived.OrdersIn
section
namespace Dv
open Go
universe u

mutual
theorem sameV_eq : ∀ (a b : V), sameV a b = true → a = b
  | .bool a, b, h => by cases b <;> simp [sameV] at h; rename_i b; cases a <;> cases b <;> simp_all
  | .int j a, b, h => by
    cases b <;> simp only [sameV, Bool.false_eq_true] at h
    rename_i k c
    cases hk : kindEq j k with
    | false => rw [hk] at h; cases h
    | true =>
      rw [hk] at h
      simp only [cond_true, eqI_eq, decide_eq_true_eq] at h
      rw [kindEq_iff hk, h]
  | .str a, b, h => by
    cases b <;> simp only [sameV, Bool.false_eq_true] at h
    rw [eqL_iff, decide_eq_true_eq] at h
    rw [h]
  | .nilp, b, h => by cases b <;> simp [sameV] at h; rfl
  | .nils, b, h => by cases b <;> simp [sameV] at h; rfl
  | .nilm, b, h => by cases b <;> simp [sameV] at h; rfl
  | .nilf, b, h => by cases b <;> simp [sameV] at h; rfl
  | .nili, b, h => by cases b <;> simp [sameV] at h; rfl
  | .ptr b o, c, h => by
    cases c <;> simp only [sameV, Bool.false_eq_true, beq_dec] at h
    rename_i b' o'
    by_cases h1 : b = b' <;> simp_all
  | .slice b o l c e, d, h => by
    cases d <;> simp only [sameV, Bool.false_eq_true, beq_dec] at h
    rename_i b' o' l' c' e'
    by_cases h1 : b = b' <;> by_cases h2 : o = o' <;> by_cases h3 : l = l' <;> by_cases h4 : c = c' <;> simp_all
  | .map a, b, h => by
    cases b <;> simp only [sameV, Bool.false_eq_true, beq_dec] at h
    simp_all
  | .func f x y, b, h => by
    cases b <;> simp only [sameV, Bool.false_eq_true] at h
    rename_i g x' y'
    by_cases h1 : f = g
    · cases hx : samesV x x' with
      | false => simp [hx] at h
      | true =>
        simp only [hx, cond_true, h1, decide_true] at h
        rw [h1, samesV_eq x x' hx, samesV_eq y y' h]
    · simp [h1] at h
  | .iface t v, b, h => by
    cases b <;> simp only [sameV, Bool.false_eq_true, beq_dec] at h
    rename_i t' v'
    by_cases h1 : t = t'
    · simp only [h1, decide_true, cond_true] at h
      rw [h1, sameV_eq v v' h]
    · simp [h1] at h
  | .agg x, b, h => by
    cases b <;> simp only [sameV, Bool.false_eq_true] at h
    rw [samesV_eq _ _ h]
  | .tuple x, b, h => by
    cases b <;> simp only [sameV, Bool.false_eq_true] at h
    rw [samesV_eq _ _ h]
theorem samesV_eq : ∀ (a b : List V), samesV a b = true → a = b
  | [], b, h => by cases b <;> simp [samesV] at h; rfl
  | a :: x, b, h => by
    cases b with
    | nil => simp [samesV] at h
    | cons c y =>
      simp only [samesV] at h
      cases hs : sameV a c with
      | false => simp [hs] at h
      | true =>
        simp only [hs, cond_true] at h
        rw [sameV_eq a c hs, samesV_eq x y h]
end

/-- what a read gives at a stage -/
noncomputable def readG (P : Program) (news : List (Nat × O)) (r : Rd) (g : H) : Option V :=
  match readV P r.t g r.op with
  | some v => some v
  | none => readV P r.t (H.plus ⟨g.n, .nil⟩ news) r.op

theorem readOk_go {P : Program} {news : List (Nat × O)} {r : Rd} : ∀ {gs : List H}, readOk.go P news r gs = true → ∀ g ∈ gs, readG P news r g = some r.v
  | [], _, g, hg => by cases hg
  | x :: gs, h, g, hg => by
    simp only [readOk.go] at h
    have key : readG P news r x = some r.v ∧ readOk.go P news r gs = true := by
      unfold readG
      cases h1 : readV P r.t x r.op with
      | some v =>
        rw [h1] at h
        simp only [] at h ⊢
        cases hs : sameV v r.v with
        | false => simp [hs] at h
        | true => rw [hs] at h; exact ⟨by rw [sameV_eq _ _ hs], h⟩
      | none =>
        rw [h1] at h
        simp only [] at h ⊢
        cases h2 : readV P r.t (H.plus ⟨x.n, .nil⟩ news) r.op with
        | none => rw [h2] at h; cases h
        | some v =>
          rw [h2] at h
          simp only [] at h ⊢
          cases hs : sameV v r.v with
          | false => simp [hs] at h
          | true => rw [hs] at h; exact ⟨by rw [sameV_eq _ _ hs], h⟩
    rcases List.mem_cons.1 hg with rfl | hg
    · exact key.1
    · exact readOk_go key.2 g hg

theorem readOk_at {P : Program} {news : List (Nat × O)} {gs : List H} {r : Rd} (h : readOk P news gs r = true) {s : Nat} {g : H} (h1 : r.lo ≤ s) (h2 : s ≤ r.hi) (hg : gs[s]? = some g) : readG P news r g = some r.v := by
  refine readOk_go h g ?_
  rw [takeN_eq, dropN_eq]
  refine List.mem_of_getElem? (i := s - r.lo) ?_
  rw [List.getElem?_take, List.getElem?_drop]
  have e : Nat.succ (Nat.sub r.hi r.lo) = r.hi - r.lo + 1 := rfl
  rw [e, if_pos (by omega), show r.lo + (s - r.lo) = s by omega, hg]

theorem readsOk_mem {P : Program} {news : List (Nat × O)} {gs : List H} : ∀ {rs : List Rd}, readsOk P news gs rs = true → ∀ r ∈ rs, readOk P news gs r = true
  | [], _, r, hr => by cases hr
  | x :: rs, h, r, hr => by
    simp only [readsOk] at h
    cases h1 : readOk P news gs x with
    | false => simp [h1] at h
    | true =>
      rw [h1] at h
      rcases List.mem_cons.1 hr with rfl | hr
      · exact h1
      · exact readsOk_mem h r hr

theorem plus_get {n0 : Nat} {L : List (Nat × O)} : ∀ (l : List (Nat × O)) (g : H), (∀ p ∈ l, p ∈ L) → n0 ≤ g.n → (∀ b o, g.t.get b = some o → n0 ≤ b ∧ (b, o) ∈ L) → ∀ b o, (H.plus g l).get b = some o → n0 ≤ b ∧ (b, o) ∈ L
  | [], g, _, _, hg, b, o, h => by
    have hl := H.get_lt h
    simp only [H.plus] at h hl
    rw [H.get_eq, if_pos hl] at h
    exact hg b o h
  | (c, x) :: l, g, hl, hn, hg, b, o, h => by
    simp only [H.plus, blt_dec] at h
    by_cases hc : c < g.n
    · simp only [hc, decide_true, cond_true] at h
      exact plus_get l g (fun p hp => hl p (List.mem_cons_of_mem _ hp)) hn hg b o h
    · simp only [hc, decide_false, cond_false] at h
      refine plus_get l _ (fun p hp => hl p (List.mem_cons_of_mem _ hp)) ?_ ?_ b o h
      · show n0 ≤ Nat.succ c
        have : Nat.succ c = c + 1 := rfl
        omega
      · intro b' o' h'
        have h' : (g.t.setK x depth c fun t => t).get b' = some o' := h'
        rw [Tr.setK_eq] at h'
        rcases Tr.get_set x depth g.t c b' o' h' with ⟨rfl, rfl⟩ | ⟨_, h2⟩
        · exact ⟨by omega, hl _ (List.mem_cons_self ..)⟩
        · exact hg b' o' h2

theorem nil_get {α : Type} (b : Nat) : (Tr.nil : Tr α).get b = none := rfl

theorem plus_get' {n : Nat} {news : List (Nat × O)} {b : Nat} {o : O} (h : (H.plus ⟨n, .nil⟩ news).get b = some o) : n ≤ b ∧ (b, o) ∈ news :=
  plus_get news ⟨n, .nil⟩ (fun _ h => h) (Nat.le_refl _) (fun b o h => by rw [nil_get] at h; cases h) b o h

/-! ### What a run leaves behind -/
structure Stp where
  x : It
  lo : Nat
  hi : Nat
  t : Tr V
  h : H
  v : V
  h' : H
  r : Bool

section
variable {C : Cx} {call : Tgt → List V → H → (V → H → Prop) → Prop}

structure StpOk (C : Cx) (call : Tgt → List V → H → (V → H → Prop) → Prop) (all : List Oper) (s : Stp) : Prop where
  want : wantedV all s.t s.x.o = some s.r
  op : s.r = true → OpR C call s.t s.h s.x.o.op s.v s.h'
  skip : s.r = false → s.v = undefV ∧ s.h' = s.h

inductive Hst (C : Cx) (call : Tgt → List V → H → (V → H → Prop) → Prop) (nt : Nat) (all : List Oper) : List (It × Nat × Nat) → Tr V → H → List Stp → Tr V → H → Prop
  | nil {t : Tr V} {h : H} : Hst C call nt all [] t h [] t h
  | cons {s : Stp} {l : List (It × Nat × Nat)} {t' T : Tr V} {H' : H} {ss : List Stp} (ok : StpOk C call all s) (put : putV nt s.t s.x.o.dst s.v = some t') (rest : Hst C call nt all l t' s.h' ss T H') :
      Hst C call nt all ((s.x, s.lo, s.hi) :: l) s.t s.h (s :: ss) T H'

theorem StpOk.n {all : List Oper} {s : Stp} (h : StpOk C call all s) : s.h.n ≤ s.h'.n := by
  cases hr : s.r with
  | true => exact (h.op hr).n
  | false => rw [(h.skip hr).2]; exact Nat.le_refl _

noncomputable def newS (P : Program) (s : Stp) : Option (Nat × O) :=
  if s.r = true ∧ isAlloc s.x.kind = true then (allocV P s.t s.x.o.op).map fun p => (s.h.n, p.1) else none
noncomputable def newsS (P : Program) (ss : List Stp) : List (Nat × O) := ss.filterMap (newS P)
def stagesS (ss : List Stp) : List H := (ss.filter fun s => isEff s.x.kind).map (·.h')
def isRead (k : Kind) : Bool := match k with | .read => true | _ => false
def readS (s : Stp) : Option Rd := if s.r = true ∧ isRead s.x.kind = true then some ⟨s.x.o.op, s.t, s.v, s.lo, s.hi⟩ else none
def readsS (ss : List Stp) : List Rd := ss.filterMap readS

theorem drawK_hist (hc : PtCall call) {nt : Nat} {all : List Oper} : ∀ (l : List (It × Nat × Nat)) (t : Tr V) (h : H) (gs : List H) (ns : List (Nat × O)) (rs : List Rd) (k : Tr V → H → Prop),
    (∀ p ∈ l, p.1.kind = kindOf C.P p.1.o.op) → drawK Bad C call nt all l t h gs ns rs k →
    ∃ ss T H', Hst C call nt all l t h ss T H' ∧ readsOk C.P (ns.reverse ++ newsS C.P ss) (gs.reverse ++ stagesS ss) ((readsS ss).reverse ++ rs) = true ∧ IsT (drawK Bad C call nt all l t h gs ns rs) T H'
  | [], t, h, gs, ns, rs, k, _, hk => by
    simp only [drawK] at hk
    cases hr : readsOk C.P ns.reverse gs.reverse rs with
    | false => rw [hr] at hk; cases hk
    | true => exact ⟨[], t, h, .nil, by simpa [newsS, stagesS, readsS] using hr, fun k => by simp [drawK, hr]⟩
  | (x, lo, hi) :: l, t, h, gs, ns, rs, k, hkd, hk => by
    have hkx := hkd _ (List.mem_cons_self ..)
    have hkl := fun p hp => hkd p (List.mem_cons_of_mem _ hp)
    simp only [] at hkx
    simp only [drawK] at hk
    split at hk
    · rename_i hw
      split at hk
      · rename_i hkk
        split at hk
        · rename_i v hv
          obtain ⟨t', hp, hk⟩ := putK_iff.1 hk
          obtain ⟨ss, T, H', g1, g2, g3⟩ := drawK_hist hc l t' h gs ns rs k hkl hk
          refine ⟨⟨x, lo, hi, t, h, v, h, true⟩ :: ss, T, H', .cons (s := ⟨x, lo, hi, t, h, v, h, true⟩) ⟨hw, fun _ => .pure (by rw [← hkx, hkk]) hv, fun h => by cases h⟩ hp g1, ?_, fun k => ?_⟩
          · simpa [newsS, stagesS, readsS, newS, readS, hkk, isAlloc, isEff, isRead] using g2
          · simp only [drawK, hw, hkk, hv]
            rw [putK_iff]
            simp only [hp, Option.some.injEq, exists_eq_left']
            exact g3 k
        · cases hk
      · rename_i hkk
        split at hk
        · rename_i v hv
          obtain ⟨t', hp, hk⟩ := putK_iff.1 hk
          obtain ⟨ss, T, H', g1, g2, g3⟩ := drawK_hist hc l t' h gs ns _ k hkl hk
          refine ⟨⟨x, lo, hi, t, h, v, h, true⟩ :: ss, T, H', .cons (s := ⟨x, lo, hi, t, h, v, h, true⟩) ⟨hw, fun _ => .read (by rw [← hkx, hkk]) hv, fun h => by cases h⟩ hp g1, ?_, fun k => ?_⟩
          · simpa [newsS, stagesS, readsS, newS, readS, hkk, isAlloc, isEff, isRead] using g2
          · simp only [drawK, hw, hkk, hv]
            rw [putK_iff]
            simp only [hp, Option.some.injEq, exists_eq_left']
            exact g3 k
        · cases hk
      · rename_i hkk
        split at hk
        · rename_i o vf hv
          rw [H.newK_eq] at hk
          obtain ⟨t', hp, hk⟩ := putK_iff.1 hk
          obtain ⟨ss, T, H', g1, g2, g3⟩ := drawK_hist hc l t' (h.push o) gs _ rs k hkl hk
          refine ⟨⟨x, lo, hi, t, h, vf h.n, h.push o, true⟩ :: ss, T, H', .cons (s := ⟨x, lo, hi, t, h, vf h.n, h.push o, true⟩) ⟨hw, fun _ => .alloc (by rw [← hkx, hkk]) hv, fun h => by cases h⟩ hp g1, ?_, fun k => ?_⟩
          · simpa [newsS, stagesS, readsS, newS, readS, hkk, isAlloc, isEff, isRead, hv] using g2
          · simp only [drawK, hw, hkk, hv]
            rw [H.newK_eq, putK_iff]
            simp only [hp, Option.some.injEq, exists_eq_left']
            exact g3 k
        · cases hk
      · rename_i hkk
        obtain ⟨v, h', hop, hI⟩ := effK_OpR hc (by rw [← hkx, hkk]) hk
        have hk2 := (hI _).1 hk
        obtain ⟨t', hp, hk⟩ := putK_iff.1 hk2
        obtain ⟨ss, T, H', g1, g2, g3⟩ := drawK_hist hc l t' h' _ ns rs k hkl hk
        refine ⟨⟨x, lo, hi, t, h, v, h', true⟩ :: ss, T, H', .cons (s := ⟨x, lo, hi, t, h, v, h', true⟩) ⟨hw, fun _ => hop, fun h => by cases h⟩ hp g1, ?_, fun k => ?_⟩
        · simpa [newsS, stagesS, readsS, newS, readS, hkk, isAlloc, isEff, isRead] using g2
        · simp only [drawK, hw, hkk]
          rw [hI, putK_iff]
          simp only [hp, Option.some.injEq, exists_eq_left']
          exact g3 k
    · rename_i hw
      obtain ⟨t', hp, hk⟩ := putK_iff.1 hk
      obtain ⟨ss, T, H', g1, g2, g3⟩ := drawK_hist hc l t' h _ ns rs k hkl hk
      refine ⟨⟨x, lo, hi, t, h, undefV, h, false⟩ :: ss, T, H', .cons (s := ⟨x, lo, hi, t, h, undefV, h, false⟩) ⟨hw, (fun h => by cases h), fun _ => ⟨rfl, rfl⟩⟩ hp g1, ?_, fun k => ?_⟩
      · cases he : isEff x.kind <;> simpa [newsS, stagesS, readsS, newS, readS, he] using g2
      · simp only [drawK, hw]
        rw [putK_iff]
        simp only [hp, Option.some.injEq, exists_eq_left']
        exact g3 k
    · cases hk
end
end Dv
end

section
namespace Dv
open Go
universe u

/-! ### Lists -/
theorem filter_pos {α : Type} {q : α → Bool} : ∀ {L : List α} {r : Nat} {x : α}, (L.filter q)[r]? = some x → ∃ i, L[i]? = some x ∧ q x = true ∧ ((L.take i).filter q).length = r
  | [], r, x, h => by simp at h
  | a :: L, r, x, h => by
    by_cases ha : q a = true
    · rw [List.filter_cons_of_pos ha] at h
      cases r with
      | zero => simp at h; subst h; exact ⟨0, rfl, ha, rfl⟩
      | succ r =>
        obtain ⟨i, h1, h2, h3⟩ := filter_pos (L := L) (by simpa using h)
        exact ⟨i + 1, by simpa using h1, h2, by rw [List.take_succ_cons, List.filter_cons_of_pos ha]; simp [h3]⟩
    · rw [List.filter_cons_of_neg ha] at h
      obtain ⟨i, h1, h2, h3⟩ := filter_pos (L := L) h
      exact ⟨i + 1, by simpa using h1, h2, by rw [List.take_succ_cons, List.filter_cons_of_neg ha]; exact h3⟩

theorem filter_at {α : Type} {q : α → Bool} : ∀ {L : List α} {i : Nat} {x : α}, L[i]? = some x → q x = true → (L.filter q)[((L.take i).filter q).length]? = some x
  | [], i, x, h, _ => by simp at h
  | a :: L, 0, x, h, hx => by simp at h; subst h; simp [hx]
  | a :: L, i + 1, x, h, hx => by
    have ih := filter_at (L := L) (i := i) (by simpa using h) hx
    by_cases ha : q a = true
    · rw [List.filter_cons_of_pos ha, List.take_succ_cons, List.filter_cons_of_pos ha]; simpa using ih
    · rw [List.filter_cons_of_neg ha, List.take_succ_cons, List.filter_cons_of_neg ha]; exact ih

theorem count_le {α : Type} {p : α → Bool} {F : List α} {s : Nat} (h : ∀ r x, F[r]? = some x → p x = true → r < s) : (F.filter p).length ≤ s := by
  have h1 : (F.filter p).length = ((F.take s).filter p).length + ((F.drop s).filter p).length := by
    rw [← List.length_append, ← List.filter_append, List.take_append_drop]
  have h2 : (F.drop s).filter p = [] := by
    rw [List.filter_eq_nil_iff]
    intro x hx hp
    obtain ⟨r, hr⟩ := List.mem_iff_getElem?.1 hx
    rw [List.getElem?_drop] at hr
    have := h _ x hr hp
    omega
  have h3 : ((F.take s).filter p).length ≤ s := Nat.le_trans (List.length_filter_le ..) (by simp; omega)
  rw [h1, h2]; simpa using h3

theorem le_count {α : Type} {p : α → Bool} {F : List α} {s : Nat} (hs : s ≤ F.length) (h : ∀ r x, F[r]? = some x → r < s → p x = true) : s ≤ (F.filter p).length := by
  have h1 : (F.filter p).length = ((F.take s).filter p).length + ((F.drop s).filter p).length := by
    rw [← List.length_append, ← List.filter_append, List.take_append_drop]
  have h2 : (F.take s).filter p = F.take s := by
    rw [List.filter_eq_self]
    intro x hx
    obtain ⟨r, hr⟩ := List.mem_iff_getElem?.1 hx
    have hlt : r < s := by
      have := (List.getElem?_eq_some_iff.1 hr).1
      simp at this; omega
    rw [List.getElem?_take, if_pos hlt] at hr
    exact h r x hr hlt
  rw [h1, h2, List.length_take, Nat.min_eq_left hs]; omega

theorem rank_exists {α : Type} {q : α → Bool} {L : List α} {s : Nat} : ∀ {i : Nat}, s < ((L.take i).filter q).length → ∃ j x, j < i ∧ L[j]? = some x ∧ q x = true ∧ ((L.take j).filter q).length = s := by
  intro i h
  obtain ⟨x, hx⟩ : ∃ x, ((L.take i).filter q)[s]? = some x := ⟨_, List.getElem?_eq_getElem h⟩
  obtain ⟨j, h1, h2, h3⟩ := filter_pos hx
  have hj : j < i := by
    have := (List.getElem?_eq_some_iff.1 h1).1
    simp at this; omega
  refine ⟨j, x, hj, ?_, h2, ?_⟩
  · rw [List.getElem?_take, if_pos hj] at h1; exact h1
  · rw [List.take_take, Nat.min_eq_left (by omega)] at h3; exact h3

/-! ### The plan -/
abbrev maskStep (acc : List Nat) (s : Nat) (e : Edge) : Nat := cond (Region.binds .any e) (Nat.lor s (Nat.lor (Nat.pow 2 e.on) ((nth acc e.on).getD 0))) s

theorem maskFold {acc : List Nat} {k : Nat} : ∀ (l : List Edge) (s : Nat), (l.foldl (maskStep acc) s).testBit k = true →
    s.testBit k = true ∨ ∃ e ∈ l, Region.binds .any e = true ∧ (k = e.on ∨ ∃ m, acc[e.on]? = some m ∧ m.testBit k = true)
  | [], s, h => .inl h
  | e :: l, s, h => by
    rw [List.foldl_cons] at h
    rcases maskFold l _ h with h | ⟨e', h1, h2⟩
    · unfold maskStep at h
      cases hb : Region.binds .any e with
      | false => rw [hb] at h; exact .inl h
      | true =>
        rw [hb] at h
        have h : (s ||| (2 ^ e.on ||| (nth acc e.on).getD 0)).testBit k = true := h
        rw [Nat.testBit_or, Nat.testBit_or, Nat.testBit_two_pow, Bool.or_eq_true, Bool.or_eq_true, decide_eq_true_eq, nth_eq] at h
        rcases h with h | h | h
        · exact .inl h
        · exact .inr ⟨e, List.mem_cons_self .., hb, .inl h.symm⟩
        · refine .inr ⟨e, List.mem_cons_self .., hb, .inr ?_⟩
          cases hm : acc[e.on]? with
          | none => rw [hm] at h; simp at h
          | some m => rw [hm] at h; exact ⟨m, rfl, h⟩
    · exact .inr ⟨e', List.mem_cons_of_mem _ h1, h2⟩

theorem masks_spec : ∀ (l : List Oper) (acc : List Nat), ∃ tl, masks l acc = acc ++ tl ∧ tl.length = l.length ∧
    ∀ j o m, l[j]? = some o → tl[j]? = some m → ∀ k, m.testBit k = true → ∃ e ∈ o.after.toList, Region.binds .any e = true ∧ (k = e.on ∨ ∃ m', (acc ++ tl.take j)[e.on]? = some m' ∧ m'.testBit k = true)
  | [], acc => ⟨[], by simp [masks], rfl, fun j o m h => by simp at h⟩
  | o :: l, acc => by
    let m0 := o.after.toList.foldl (maskStep acc) 0
    obtain ⟨tl, h1, h2, h3⟩ := masks_spec l (acc ++ [m0])
    refine ⟨m0 :: tl, by simp only [masks]; rw [show masks l _ = masks l (acc ++ [m0]) from rfl, h1]; simp, by simp [h2], fun j o' m ho hm k hk => ?_⟩
    cases j with
    | zero =>
      simp at ho hm
      subst ho; subst hm
      rcases maskFold _ _ hk with h | ⟨e, he, hb, h⟩
      · simp at h
      · exact ⟨e, he, hb, by simpa using h⟩
    | succ j =>
      obtain ⟨e, he, hb, h⟩ := h3 j o' m (by simpa using ho) (by simpa using hm) k hk
      exact ⟨e, he, hb, by simpa using h⟩

theorem items_spec {P : Program} : ∀ (l : List Oper) (ms : List Nat) (i0 : Nat), l.length = ms.length → (items P l i0 ms).length = l.length ∧
    ∀ j x, (items P l i0 ms)[j]? = some x → x.i = i0 + j ∧ l[j]? = some x.o ∧ x.kind = kindOf P x.o.op ∧ ms[j]? = some x.mask
  | [], [], i0, _ => ⟨rfl, fun j x h => by simp [items] at h⟩
  | o :: l, m :: ms, i0, hl => by
    obtain ⟨h1, h2⟩ := items_spec (P := P) l ms (Nat.succ i0) (by simpa using hl)
    refine ⟨congrArg Nat.succ h1, fun j x hx => ?_⟩
    cases j with
    | zero => simp [items] at hx; subst hx; exact ⟨rfl, rfl, rfl, rfl⟩
    | succ j =>
      obtain ⟨g1, g2, g3, g4⟩ := h2 j x (by simpa [items] using hx)
      exact ⟨by rw [g1]; show i0 + 1 + j = i0 + (j + 1); omega, by simpa using g2, g3, by simpa using g4⟩
  | [], _ :: _, _, h => by simp at h
  | _ :: _, [], _, h => by simp at h

theorem pairsOk_at {all : List Oper} : ∀ {l : List It}, pairsOk all l = true → ∀ (i j : Nat) (x y : It), i < j → l[i]? = some x → l[j]? = some y → pairOk all x y = true
  | [], _, i, j, x, y, _, h, _ => by simp at h
  | a :: l, h, i, j, x, y, hij, hx, hy => by
    simp only [pairsOk, Bool.and_eq_true, List.all_eq_true] at h
    cases j with
    | zero => omega
    | succ j =>
      cases i with
      | zero => simp at hx; subst hx; exact h.1 y (List.mem_of_getElem? (by simpa using hy))
      | succ i => exact pairsOk_at h.2 i j x y (by omega) (by simpa using hx) (by simpa using hy)

/-- What a plan says. -/
structure Planned (P : Program) (ops : List Oper) (its : List It) : Prop where
  len : its.length = ops.length
  at_ : ∀ (j : Nat) (x : It), its[j]? = some x → x.i = j ∧ ops[j]? = some x.o ∧ x.kind = kindOf P x.o.op
  mask : ∀ (j : Nat) (x : It), its[j]? = some x → ∀ k, x.mask.testBit k = true → ∃ e ∈ x.o.after.toList, Region.binds .any e = true ∧ e.on < j ∧ (k = e.on ∨ ∃ y, its[e.on]? = some y ∧ y.mask.testBit k = true)
  pair : ∀ (i j : Nat) (x y : It), i < j → its[i]? = some x → its[j]? = some y → pairOk ops x y = true
  after : ∀ (j : Nat) (x : It), its[j]? = some x → ∀ e ∈ x.o.after.toList, Region.binds .any e = true → e.on < j

theorem plan_spec {P : Program} {ops : List Oper} {p : List (It × Nat × Nat)} (h : plan P ops = some p) : ∃ its, Planned P ops its ∧
    p = its.map fun x => (x, ((its.filter fun x => isEff x.kind).filter fun e => x.mask.testBit e.i).length, ((its.filter fun x => isEff x.kind).filter fun e => !e.mask.testBit x.i).length) := by
  unfold plan at h
  simp only [] at h
  cases hc : (pairsOk ops (items P ops 0 (masks ops [])) && (items P ops 0 (masks ops [])).all afterOk) with
  | false => rw [hc] at h; cases h
  | true =>
    rw [hc] at h
    simp only [cond_true, Option.some.injEq, lenL_eq] at h
    rw [Bool.and_eq_true, List.all_eq_true] at hc
    obtain ⟨tl, h1, h2, h3⟩ := masks_spec ops []
    rw [List.nil_append] at h1
    rw [h1] at h hc
    obtain ⟨g1, g2⟩ := items_spec (P := P) ops tl 0 h2.symm
    have haf : ∀ j x, (items P ops 0 tl)[j]? = some x → ∀ e ∈ x.o.after.toList, Region.binds .any e = true → e.on < j := fun j x hx e he hb => by
      have := hc.2 x (List.mem_of_getElem? hx)
      rw [afterOk, List.all_eq_true] at this
      have := this e he
      simp only [hb, Bool.not_true, Bool.false_or, blt_dec, decide_eq_true_eq] at this
      have e1 := (g2 j x hx).1
      omega
    refine ⟨items P ops 0 tl, ⟨g1, fun j x hx => ?_, fun j x hx k hk => ?_, pairsOk_at hc.1, haf⟩, h.symm⟩
    · obtain ⟨k1, k2, k3, _⟩ := g2 j x hx
      exact ⟨by omega, k2, k3⟩
    · obtain ⟨k1, k2, k3, k4⟩ := g2 j x hx
      obtain ⟨e, he, hb, hm⟩ := h3 j x.o x.mask k2 k4 k hk
      have hlt := haf j x hx e he hb
      refine ⟨e, he, hb, hlt, ?_⟩
      rcases hm with hm | ⟨m', hm, hk'⟩
      · exact .inl hm
      · right
        rw [List.nil_append, List.getElem?_take, if_pos hlt] at hm
        have hl : e.on < (items P ops 0 tl).length := by
          have := (List.getElem?_eq_some_iff.1 hm).1
          omega
        refine ⟨_, List.getElem?_eq_getElem hl, ?_⟩
        have := (g2 e.on _ (List.getElem?_eq_getElem hl)).2.2.2
        rw [hm] at this
        cases this
        exact hk'

/-! ### What is listed is closed -/
def lsd (listed : Array Bool) (i : Nat) : Prop := listed.getD i false = true
/-- what an operation waits for is listed -/
def After (listed : Array Bool) (x : It) : Prop := ∀ e ∈ x.o.after.toList, Region.binds .any e = true → lsd listed e.on

theorem mask_listed {P : Program} {ops : List Oper} {its : List It} (hp : Planned P ops its) {listed : Array Bool} (hcl : ∀ (j : Nat) (x : It), its[j]? = some x → lsd listed j → After listed x) :
    ∀ (n j : Nat) (x : It), j < n → its[j]? = some x → After listed x → ∀ k, x.mask.testBit k = true → lsd listed k
  | 0, j, x, hj, _, _, _, _ => by omega
  | n + 1, j, x, hj, hx, ha, k, hk => by
    obtain ⟨e, he, hb, hlt, h⟩ := hp.mask j x hx k hk
    rcases h with rfl | ⟨y, hy, hk'⟩
    · exact ha e he hb
    · exact mask_listed hp hcl n e.on y (by omega) hy (hcl _ y hy (ha e he hb)) k hk'

end Dv
end

section
namespace Dv
open Go
universe u

section
variable {C : Cx} {call : Tgt → List V → H → (V → H → Prop) → Prop} {nt : Nat} {all : List Oper}

theorem Hst.len {l : List (It × Nat × Nat)} {t T : Tr V} {h H' : H} {ss : List Stp} (r : Hst C call nt all l t h ss T H') : ss.map (fun s => (s.x, s.lo, s.hi)) = l := by
  induction r with
  | nil => rfl
  | cons _ _ _ ih => simp [ih]

theorem Hst.n {l : List (It × Nat × Nat)} {t T : Tr V} {h H' : H} {ss : List Stp} (r : Hst C call nt all l t h ss T H') : h.n ≤ H'.n := by
  induction r with
  | nil => exact Nat.le_refl _
  | cons ok _ _ ih => exact Nat.le_trans ok.n ih

theorem Hst.at {l : List (It × Nat × Nat)} {t T : Tr V} {h H' : H} {ss : List Stp} (r : Hst C call nt all l t h ss T H') : ∀ (i : Nat) (s : Stp), ss[i]? = some s →
    Hst C call nt all (l.take i) t h (ss.take i) s.t s.h ∧ StpOk C call all s ∧ ∃ t', putV nt s.t s.x.o.dst s.v = some t' ∧ Hst C call nt all (l.drop (i + 1)) t' s.h' (ss.drop (i + 1)) T H' := by
  induction r with
  | nil => intro i s h; simp at h
  | cons ok put rest ih =>
    intro i s hs
    cases i with
    | zero => simp at hs; subst hs; exact ⟨.nil, ok, _, put, by simpa using rest⟩
    | succ i =>
      obtain ⟨h1, h2, h3⟩ := ih i s (by simpa using hs)
      exact ⟨.cons ok put h1, h2, by simpa using h3⟩

theorem Hst.lt {l : List (It × Nat × Nat)} {t T : Tr V} {h H' : H} {ss : List Stp} (r : Hst C call nt all l t h ss T H') {i j : Nat} {s s' : Stp} (hij : i < j) (hi : ss[i]? = some s) (hj : ss[j]? = some s') : s.h'.n ≤ s'.h.n := by
  obtain ⟨_, _, t', _, h4⟩ := r.at i s hi
  obtain ⟨h1, _⟩ := h4.at (j - (i + 1)) s' (by rw [List.getElem?_drop, show i + 1 + (j - (i + 1)) = j by omega]; exact hj)
  exact h1.n

theorem Hst.tmp {l : List (It × Nat × Nat)} {t T : Tr V} {h H' : H} {ss : List Stp} (r : Hst C call nt all l t h ss T H') : ∀ (d : Nat) (u : V), T.get d = some u →
    (∃ (j : Nat) (s : Stp), ss[j]? = some s ∧ s.x.o.dst = some d ∧ u = s.v) ∨ ((∀ (j : Nat) (s : Stp), ss[j]? = some s → s.x.o.dst ≠ some d) ∧ t.get d = some u) := by
  induction r with
  | nil => intro d u h; exact .inr ⟨fun j s h => by simp at h, h⟩
  | @cons s l t' T H' ss ok put rest ih =>
    intro d u hu
    rcases ih d u hu with ⟨j, s', h1, h2⟩ | ⟨h1, h2⟩
    · exact .inl ⟨j + 1, s', by simpa using h1, h2⟩
    · have key : (s.x.o.dst = some d ∧ u = s.v) ∨ (s.x.o.dst ≠ some d ∧ s.t.get d = some u) := by
        unfold putV at put
        cases hd : s.x.o.dst with
        | none => rw [hd] at put; cases put; exact .inr ⟨by simp, h2⟩
        | some e =>
          rw [hd] at put
          simp only [] at put
          split at put
          · cases put
            rcases Tr.get_set s.v depth s.t e d u h2 with ⟨rfl, rfl⟩ | ⟨g1, g2⟩
            · exact .inl ⟨rfl, rfl⟩
            · exact .inr ⟨fun h => g1 (Option.some.inj h).symm, g2⟩
          · cases put
      rcases key with ⟨k1, k2⟩ | ⟨k1, k2⟩
      · exact .inl ⟨0, s, rfl, k1, k2⟩
      · refine .inr ⟨fun j s' hs' => ?_, k2⟩
        cases j with
        | zero => simp at hs'; subst hs'; exact k1
        | succ j => exact h1 j s' (by simpa using hs')

theorem OpR.inv_pure {t : Tr V} {h h' : H} {op : Op} {v : V} (r : OpR C call t h op v h') (hk : kindOf C.P op = .pure) : pureV C.P t op = some v ∧ h' = h := by
  cases r with
  | pure _ hv => exact ⟨hv, rfl⟩
  | read h2 => rw [hk] at h2; cases h2
  | alloc h2 => rw [hk] at h2; cases h2
  | eff h2 => rw [hk] at h2; cases h2
  | call h2 => rw [hk] at h2; cases h2
theorem OpR.inv_read {t : Tr V} {h h' : H} {op : Op} {v : V} (r : OpR C call t h op v h') (hk : kindOf C.P op = .read) : readV C.P t h op = some v ∧ h' = h := by
  cases r with
  | read _ hv => exact ⟨hv, rfl⟩
  | pure h2 => rw [hk] at h2; cases h2
  | alloc h2 => rw [hk] at h2; cases h2
  | eff h2 => rw [hk] at h2; cases h2
  | call h2 => rw [hk] at h2; cases h2
theorem OpR.inv_alloc {t : Tr V} {h h' : H} {op : Op} {v : V} (r : OpR C call t h op v h') (hk : kindOf C.P op = .alloc) : ∃ o vf, allocV C.P t op = some (o, vf) ∧ v = vf h.n ∧ h' = h.push o := by
  cases r with
  | alloc _ hv => exact ⟨_, _, hv, rfl, rfl⟩
  | read h2 => rw [hk] at h2; cases h2
  | pure h2 => rw [hk] at h2; cases h2
  | eff h2 => rw [hk] at h2; cases h2
  | call h2 => rw [hk] at h2; cases h2

/-! ### Memory at a stage -/
/-- what lies at a block, when the stage is G -/
def St (P : Program) (ss : List Stp) (G : H) (b : Nat) (o : O) : Prop := G.get b = some o ∨ (G.n ≤ b ∧ ∃ (j : Nat) (s : Stp), ss[j]? = some s ∧ newS P s = some (b, o))

theorem newS_spec {s : Stp} {b : Nat} {o : O} {all : List Oper} (hkd : s.x.kind = kindOf C.P s.x.o.op) (ok : StpOk C call all s) (h : newS C.P s = some (b, o)) :
    isAlloc s.x.kind = true ∧ b = s.h.n ∧ s.r = true ∧ (∃ vf, allocV C.P s.t s.x.o.op = some (o, vf) ∧ s.v = vf s.h.n) ∧ s.h' = s.h.push o := by
  unfold newS at h
  split at h
  · rename_i hc
    rw [Option.map_eq_some_iff] at h
    obtain ⟨⟨o', vf⟩, h1, h2⟩ := h
    cases h2
    have hk : kindOf C.P s.x.o.op = .alloc := by
      rw [← hkd]
      have := hc.2
      unfold isAlloc at this
      split at this
      · assumption
      · cases this
    obtain ⟨o2, vf2, g1, g2, g3⟩ := (ok.op hc.1).inv_alloc hk
    rw [h1] at g1
    cases g1
    exact ⟨hc.2, rfl, hc.1, ⟨vf, h1, g2⟩, g3⟩
  · cases h

theorem gap {l : List (It × Nat × Nat)} {t T : Tr V} {h H' : H} {ss : List Stp} (r : Hst C call nt all l t h ss T H') : (∀ s ∈ ss, s.x.kind = kindOf C.P s.x.o.op) → ∀ (G : H) (X : Nat → O → Prop), G.n ≤ h.n → (∀ b o, h.get b = some o → G.get b = some o ∨ (G.n ≤ b ∧ X b o)) →
    ∀ G', (G :: stagesS ss)[(stagesS ss).length]? = some G' → G'.n ≤ H'.n ∧ ∀ b o, H'.get b = some o → G'.get b = some o ∨ (G'.n ≤ b ∧ (X b o ∨ ∃ s ∈ ss, newS C.P s = some (b, o))) := by
  induction r with
  | nil =>
    intro _ G X hn hX G' hG
    simp [stagesS] at hG
    subst hG
    exact ⟨hn, fun b o hb => (hX b o hb).imp id fun h => ⟨h.1, .inl h.2⟩⟩
  | @cons s l t' T H' ss ok put rest ih =>
    intro hkd G X hn hX G' hG
    have hks := hkd s (List.mem_cons_self ..)
    have hkl := fun x hx => hkd x (List.mem_cons_of_mem _ hx)
    cases he : isEff s.x.kind with
    | true =>
      have e1 : stagesS (s :: ss) = s.h' :: stagesS ss := by simp [stagesS, he]
      rw [e1] at hG
      obtain ⟨g1, g2⟩ := ih hkl s.h' (fun _ _ => False) (Nat.le_refl _) (fun b o hb => .inl hb) G' (by simpa using hG)
      refine ⟨g1, fun b o hb => ?_⟩
      rcases g2 b o hb with h | ⟨h1, h2 | ⟨x, hx, hx2⟩⟩
      · exact .inl h
      · exact h2.elim
      · exact .inr ⟨h1, .inr ⟨x, List.mem_cons_of_mem _ hx, hx2⟩⟩
    | false =>
      have e1 : stagesS (s :: ss) = stagesS ss := by simp [stagesS, he]
      rw [e1] at hG
      have hstep : s.h' = s.h ∨ ∃ o, s.h' = s.h.push o ∧ newS C.P s = some (s.h.n, o) := by
        cases hr : s.r with
        | false => exact .inl (ok.skip hr).2
        | true =>
          have hop := ok.op hr
          cases hk : s.x.kind with
          | pure => exact .inl (hop.inv_pure (by rw [← hks, hk])).2
          | read => exact .inl (hop.inv_read (by rw [← hks, hk])).2
          | eff => rw [hk] at he; cases he
          | alloc =>
            obtain ⟨o, vf, h1, _, h3⟩ := hop.inv_alloc (by rw [← hks, hk])
            exact .inr ⟨o, h3, by simp [newS, hr, hk, isAlloc, h1]⟩
      obtain ⟨g1, g2⟩ := ih hkl G (fun b o => X b o ∨ newS C.P s = some (b, o)) (Nat.le_trans hn ok.n) (fun b o hb => by
        rcases hstep with e | ⟨o', e, h2⟩
        · rw [e] at hb
          rcases hX b o hb with h | ⟨h1, h2⟩
          · exact .inl h
          · exact .inr ⟨h1, .inl h2⟩
        · rw [e] at hb
          rcases H.get_push hb with ⟨rfl, rfl⟩ | ⟨_, hb⟩
          · exact .inr ⟨hn, .inr h2⟩
          · rcases hX b o hb with h | ⟨h1, h2⟩
            · exact .inl h
            · exact .inr ⟨h1, .inl h2⟩) G' hG
      refine ⟨g1, fun b o hb => ?_⟩
      rcases g2 b o hb with h | ⟨h1, (h2 | h2) | ⟨x, hx, hx2⟩⟩
      · exact .inl h
      · exact .inr ⟨h1, .inl h2⟩
      · exact .inr ⟨h1, .inr ⟨s, List.mem_cons_self .., h2⟩⟩
      · exact .inr ⟨h1, .inr ⟨x, List.mem_cons_of_mem _ hx, hx2⟩⟩
end

/-! ### Memory as a relation -/
structure HG (φ : Phi) (g : Nat → O → Prop) (w : World) : Prop where
  obj : ∀ b o l, g b o → φ b = some l → objRel φ w l o
  inj : ∀ b b' o o' l l', g b o → g b' o' → φ b = some l → φ b' = some l' → l.rb = l'.rb → o.live = true → o'.live = true → o.rw = true → b = b'
  fix : φ 0 = some gLoc

def ownG (φ : Phi) (g : Nat → O → Prop) (rb : Nat) : Prop := ∃ b l o, g b o ∧ o.rw = true ∧ φ b = some l ∧ l.rb = rb
def seesG (φ : Phi) (g : Nat → O → Prop) (rb : Nat) : Prop := ∃ b l o, g b o ∧ o.live = true ∧ φ b = some l ∧ l.rb = rb

structure FrG (φ : Phi) (g : Nat → O → Prop) (w : World) (ψ : Phi) (g' : Nat → O → Prop) (w' : World) : Prop where
  ext : φ.le ψ
  size : w.heap.size ≤ w'.heap.size
  os : w'.os = w.os
  tape : w'.tape = w.tape
  output : w'.output = w.output
  keep : ∀ rb, rb < w.heap.size → ¬ ownG φ g rb → w'.heap[rb]? = w.heap[rb]? ∧ ¬ ownG ψ g' rb
  see : ∀ rb, rb < w.heap.size → seesG ψ g' rb → seesG φ g rb
  lp : ∀ (rb : Nat) (r : Loop), w.heap[rb]? = some (.loop r) → ∃ r' : Loop, w'.heap[rb]? = some (.loop r')

theorem FrG.refl (φ : Phi) (g : Nat → O → Prop) (w : World) : FrG φ g w φ g w := ⟨.refl φ, Nat.le_refl _, rfl, rfl, rfl, fun _ _ h => ⟨rfl, h⟩, fun _ _ h => h, fun _ r h => ⟨r, h⟩⟩
theorem FrG.trans {φ ψ χ : Phi} {h h' h'' : Nat → O → Prop} {w w' w'' : World} (a : FrG φ h w ψ h' w') (b : FrG ψ h' w' χ h'' w'') : FrG φ h w χ h'' w'' where
  ext := a.ext.trans b.ext
  size := Nat.le_trans a.size b.size
  os := b.os.trans a.os
  tape := b.tape.trans a.tape
  output := b.output.trans a.output
  keep := fun rb hlt hn => by
    obtain ⟨e, hn'⟩ := a.keep rb hlt hn
    obtain ⟨e', hn''⟩ := b.keep rb (Nat.lt_of_lt_of_le hlt a.size) hn'
    exact ⟨e'.trans e, hn''⟩
  see := fun rb hlt hs => a.see rb hlt (b.see rb (Nat.lt_of_lt_of_le hlt a.size) hs)
  lp := fun rb r hr => let ⟨r', hr'⟩ := a.lp rb r hr; b.lp rb r' hr'

theorem HG.hr {φ : Phi} {g : Nat → O → Prop} {w : World} {h : H} (hg : HG φ g w) (hle : ∀ b o, φ b ≠ none → h.get b = some o → g b o) : HR φ h w :=
  ⟨fun b o l e hφ => hg.obj b o l (hle b o (by rw [hφ]; simp) e) hφ, fun b b' o o' l l' e e' hφ hφ' => hg.inj b b' o o' l l' (hle b o (by rw [hφ]; simp) e) (hle b' o' (by rw [hφ']; simp) e') hφ hφ', hg.fix⟩
theorem HG.of_hr {φ : Phi} {g : Nat → O → Prop} {w : World} {h : H} (hr : HR φ h w) (hle : ∀ b o, φ b ≠ none → g b o → h.get b = some o) : HG φ g w :=
  ⟨fun b o l e hφ => hr.obj b o l (hle b o (by rw [hφ]; simp) e) hφ, fun b b' o o' l l' e e' hφ hφ' => hr.inj b b' o o' l l' (hle b o (by rw [hφ]; simp) e) (hle b' o' (by rw [hφ']; simp) e') hφ hφ', hr.fix⟩

theorem O.live_of_rw {o : O} (h : o.rw = true) : o.live = true := by cases o with | cells => rfl | dead => cases h | loop => rfl

theorem HG.wide {φ φ' : Phi} {g g' : Nat → O → Prop} {K K' : H} {w w' : World} (hr : HG φ g w) (f : Fr φ K w φ' K' w') (hr' : HR φ' K' w')
    (h1 : ∀ b o, φ b ≠ none → K.get b = some o → g b o)
    (h2 : ∀ b o, φ' b ≠ none → g' b o → K'.get b = some o ∨ (K'.n ≤ b ∧ g b o)) : HG φ' g' w' ∧ FrG φ g w φ' g' w' := by
  have hold : ∀ b l, K'.n ≤ b → φ' b = some l → φ b = some l := fun b l hb hl => by
    cases e : φ b with
    | none => have := (f.new b l e hl).2; omega
    | some l0 => rw [f.ext b l0 e] at hl; exact hl
  have hout : ∀ b o l, K'.n ≤ b → g b o → o.live = true → φ b = some l → ¬ own φ K l.rb := fun b o l hb hg hlv hφ ⟨b', l', o', e1, e2, e3, e4⟩ => by
    have := hr.inj b' b o' o l' l (h1 b' o' (by rw [e3]; simp) e1) hg e3 hφ e4 (O.live_of_rw e2) hlv e2
    have h3 := H.get_lt e1
    have h4 := f.n
    omega
  refine ⟨⟨fun b o l hg hφ => ?_, fun b b' o o' l l' hg hg' hφ hφ' hrb hl hl' hrw => ?_, f.ext _ _ hr.fix⟩, ⟨f.ext, f.size, f.os, f.tape, f.output, fun rb hlt hn => ?_, fun rb hlt ⟨b, l, o, hg, hlv, hφ, hrb⟩ => ?_, f.lp⟩⟩
  · rcases h2 b o (by rw [hφ]; simp) hg with e | ⟨hb, e⟩
    · exact hr'.obj b o l e hφ
    · have hφ0 := hold b l hb hφ
      have := hr.obj b o l e hφ0
      refine this.mono f.ext fun hl => (f.keep _ (rb_lt this hl) (hout b o l hb e hl hφ0)).1
  · rcases h2 b o (by rw [hφ]; simp) hg with e | ⟨hb, e⟩ <;> rcases h2 b' o' (by rw [hφ']; simp) hg' with e' | ⟨hb', e'⟩
    · exact hr'.inj b b' o o' l l' e e' hφ hφ' hrb hl hl' hrw
    · have hφ0 := hold b' l' hb' hφ'
      have hobj := hr.obj b' o' l' e' hφ0
      exact ((f.keep _ (rb_lt hobj hl') (hout b' o' l' hb' e' hl' hφ0)).2 ⟨b, l, o, e, hrw, hφ, hrb⟩).elim
    · have hφ0 := hold b l hb hφ
      have hobj := hr.obj b o l e hφ0
      obtain ⟨b0, l0, o0, k1, k2, k3, k4⟩ := f.see _ (rb_lt hobj hl) ⟨b', l', o', e', hl', hφ', hrb.symm⟩
      have := hr.inj b b0 o o0 l l0 e (h1 b0 o0 (by rw [k3]; simp) k1) hφ0 k3 k4.symm hl k2 hrw
      have h3 := H.get_lt k1
      have h4 := f.n
      omega
    · exact hr.inj b b' o o' l l' e e' (hold b l hb hφ) (hold b' l' hb' hφ') hrb hl hl' hrw
  · have hn' : ¬ own φ K rb := fun ⟨b, l, o, e1, e2, e3, e4⟩ => hn ⟨b, l, o, h1 b o (by rw [e3]; simp) e1, e2, e3, e4⟩
    obtain ⟨k1, k2⟩ := f.keep rb hlt hn'
    refine ⟨k1, fun ⟨b, l, o, e1, e2, e3, e4⟩ => ?_⟩
    rcases h2 b o (by rw [e3]; simp) e1 with e | ⟨hb, e⟩
    · exact k2 ⟨b, l, o, e, e2, e3, e4⟩
    · exact hn ⟨b, l, o, e, e2, hold b l hb e3, e4⟩
  · rcases h2 b o (by rw [hφ]; simp) hg with e | ⟨hb, e⟩
    · obtain ⟨b0, l0, o0, k1, k2, k3, k4⟩ := f.see rb hlt ⟨b, l, o, e, hlv, hφ, hrb⟩
      exact ⟨b0, l0, o0, h1 b0 o0 (by rw [k3]; simp) k1, k2, k3, k4⟩
    · exact ⟨b, l, o, e, hlv, hold b l hb hφ, hrb⟩

theorem HG.new {φ : Phi} {g : Nat → O → Prop} {w w' : World} {y : Value} {obj : O} {vf : Nat → V} {cs : List V} {el : TypeId} {c : Array Value} {fr : Nat × Nat} {n : Nat} (hr : HG φ g w) (hn : NewB φ obj vf w w' y cs el c fr) (hf : φ n = none) (hg : ∀ o, g n o → o = obj) :
    HG (φ.set n ⟨w.heap.size, 0, c.size⟩) g w' ∧ FrG φ g w (φ.set n ⟨w.heap.size, 0, c.size⟩) g w' ∧ rel (φ.set n ⟨w.heap.size, 0, c.size⟩) (vf n) y := by
  have hle := Phi.le_set (l := ⟨w.heap.size, 0, c.size⟩) hf
  have hold : ∀ rb, rb < w.heap.size → w'.heap[rb]? = w.heap[rb]? := fun rb hlt => by
    rw [hn.heap, Array.getElem?_push, if_neg (by omega)]
  have hset : ∀ b l, φ.set n ⟨w.heap.size, 0, c.size⟩ b = some l → (b = n ∧ l = ⟨w.heap.size, 0, c.size⟩) ∨ (b ≠ n ∧ φ b = some l) := fun b l h => by
    unfold Phi.set at h
    split at h
    · rename_i e; cases h; exact .inl ⟨e, rfl⟩
    · rename_i e; exact .inr ⟨e, h⟩
  refine ⟨⟨fun b o l e hφ => ?_, fun b b' o o' l l' e e' hφ hφ' hrb hl hl' hrw => ?_, hle _ _ hr.fix⟩, ⟨hle, by rw [hn.heap]; simp, hn.os, hn.tape, hn.output, fun rb hlt hown => ⟨hold rb hlt, ?_⟩, ?_, fun rb r hr => ⟨r, by rw [hold rb (Array.getElem?_eq_some_iff.1 hr).1]; exact hr⟩⟩, hn.val _ _ hle (Phi.set_self ..)⟩
  · rcases hset b l hφ with ⟨rfl, rfl⟩ | ⟨_, hφ⟩
    · rw [hg o e]
      obtain ⟨lo, hi, ho, hz⟩ := hn.o
      rw [ho]
      refine ⟨c, fr, by rw [hn.heap]; simp, rfl, by simpa using hn.len, fun i v hv => ?_, fun i _ hi h1 h2 => (hn.free i hi h1 h2).elim, hz⟩
      obtain ⟨x, hx, hrel⟩ := hn.cells i v hv
      exact ⟨x, by simpa using hx, hrel.mono hle _ _⟩
    · have := hr.obj b o l e hφ
      exact this.mono hle fun hl => hold _ (rb_lt this hl)
  · rcases hset b l hφ with ⟨rfl, rfl⟩ | ⟨hb, hφ⟩ <;> rcases hset b' l' hφ' with ⟨e1, rfl⟩ | ⟨hb', hφ'⟩
    · exact e1.symm
    · have := rb_lt (hr.obj b' o' l' e' hφ') hl'
      exact absurd hrb (by show w.heap.size ≠ l'.rb; omega)
    · have := rb_lt (hr.obj b o l e hφ) hl
      exact absurd hrb (by show l.rb ≠ w.heap.size; omega)
    · exact hr.inj b b' o o' l l' e e' hφ hφ' hrb hl hl' hrw
  · rintro ⟨b, l, o, e, hrw, hφ, rfl⟩
    rcases hset b l hφ with ⟨rfl, rfl⟩ | ⟨_, hφ⟩
    · exact absurd hlt (Nat.lt_irrefl _)
    · exact hown ⟨b, l, o, e, hrw, hφ, rfl⟩
  · rintro rb hlt ⟨b, l, o, e, hlv, hφ, rfl⟩
    rcases hset b l hφ with ⟨rfl, rfl⟩ | ⟨_, hφ⟩
    · exact absurd hlt (Nat.lt_irrefl _)
    · exact ⟨b, l, o, e, hlv, hφ, rfl⟩
end Dv
end

section
namespace Dv
open Go
universe u

theorem pairOk_spec {all : List Oper} {x y : It} (h : pairOk all x y = true) :
    (isEff y.kind = true → (isEff x.kind = true ∨ isAlloc x.kind = true) → y.mask.testBit x.i = true) ∧
    (∀ d, x.o.dst = some d → y.o.dst ≠ some d ∧ (d ∈ looksL all y.o → y.mask.testBit x.i = true)) ∧
    (∀ d, y.o.dst = some d → d ∈ looksL all x.o → y.mask.testBit x.i = true) := by
  unfold pairOk at h
  rw [Bool.and_eq_true, Bool.and_eq_true] at h
  obtain ⟨⟨h1, h2⟩, h3⟩ := h
  refine ⟨fun e1 e2 => ?_, fun d hd => ?_, fun d hd hm => ?_⟩
  · rcases e2 with e2 | e2 <;> simpa [e1, e2] using h1
  · rw [hd] at h2
    simp only [Bool.and_eq_true, Bool.not_eq_true', beq_eq_false_iff_ne, ne_eq, Bool.or_eq_true, List.contains_iff_mem] at h2
    refine ⟨h2.1, fun hm => ?_⟩
    rcases h2.2 with h | h
    · exact h
    · have : (looksL all y.o).contains d = true := List.contains_iff_mem.2 hm
      rw [this] at h; cases h
  · rw [hd] at h3
    simpa [hm] using h3

section
variable {C : Cx} {call : Tgt → List V → H → (V → H → Prop) → Prop} {nt : Nat} {ops : Array Oper} {its : List It} {l : List (It × Nat × Nat)} {t0 T : Tr V} {h0 H' : H} {ss : List Stp} {φ0 : Phi} {w0 : World} {ds : List Deferred}

abbrev rank (its : List It) (i : Nat) : Nat := ((its.take i).filter fun x => isEff x.kind).length

structure Ctx (C : Cx) (call : Tgt → List V → H → (V → H → Prop) → Prop) (nt : Nat) (ops : Array Oper) (its : List It) (l : List (It × Nat × Nat)) (t0 : Tr V) (h0 : H) (ss : List Stp) (T : Tr V) (H' : H) : Prop where
  hp : Planned C.P ops.toList its
  hss : ss.map (·.x) = its
  lh : ∀ (i : Nat) (s : Stp), ss[i]? = some s → s.lo = ((its.filter fun x => isEff x.kind).filter fun e => s.x.mask.testBit e.i).length ∧ s.hi = ((its.filter fun x => isEff x.kind).filter fun e => !e.mask.testBit s.x.i).length
  run : Hst C call nt ops.toList l t0 h0 ss T H'
  rd : ∀ s ∈ ss, s.r = true → isRead s.x.kind = true → ∀ (k : Nat) (G : H), s.lo ≤ k → k ≤ s.hi → (h0 :: stagesS ss)[k]? = some G → readG C.P (newsS C.P ss) ⟨s.x.o.op, s.t, s.v, s.lo, s.hi⟩ G = some s.v

structure Inv (C : Cx) (nt : Nat) (its : List It) (t0 : Tr V) (h0 : H) (ss : List Stp) (H' : H) (φ0 : Phi) (w0 : World) (ds : List Deferred) (listed : Array Bool) (φ : Phi) (w : World) (a : Act) (k : Nat) (G : H) : Prop where
  sz : listed.size = ss.length
  cl : ∀ (i : Nat) (x : It), its[i]? = some x → lsd listed i → After listed x
  st : (h0 :: stagesS ss)[k]? = some G
  rk : ∀ (i : Nat) (x : It), its[i]? = some x → isEff x.kind = true → (lsd listed i ↔ rank its i < k)
  hg : HG φ (St C.P ss G) w
  fr : FrG φ0 (St C.P ss h0) w0 φ (St C.P ss G) w
  dom : ∀ b, φ b ≠ none → G.n ≤ b → b < H'.n → ∃ (i : Nat) (s : Stp) (o : O), ss[i]? = some s ∧ lsd listed i ∧ newS C.P s = some (b, o)
  new : ∀ b, φ0 b = none → φ b ≠ none → h0.n ≤ b ∧ b < H'.n
  tsz : nt ≤ a.tmps.size
  tw : ∀ (i : Nat) (s : Stp) (d : Nat), ss[i]? = some s → lsd listed i → s.x.o.dst = some d → ∃ y, a.tmps[d]? = some y ∧ rel φ s.v y
  tn : ∀ (d : Nat) (u : V), t0.get d = some u → (∀ (i : Nat) (s : Stp), ss[i]? = some s → lsd listed i → s.x.o.dst ≠ some d) → ∃ y, a.tmps[d]? = some y ∧ rel φ u y
  df : a.defers = ds

theorem Ctx.it (c : Ctx C call nt ops its l t0 h0 ss T H') {i : Nat} {s : Stp} (h : ss[i]? = some s) : its[i]? = some s.x := by
  rw [← c.hss, List.getElem?_map, h]; rfl
theorem Ctx.stp (c : Ctx C call nt ops its l t0 h0 ss T H') {i : Nat} {x : It} (h : its[i]? = some x) : ∃ s, ss[i]? = some s ∧ s.x = x := by
  rw [← c.hss, List.getElem?_map] at h
  rw [Option.map_eq_some_iff] at h
  exact h
theorem Ctx.kind (c : Ctx C call nt ops its l t0 h0 ss T H') : ∀ s ∈ ss, s.x.kind = kindOf C.P s.x.o.op := fun s hs => by
  obtain ⟨i, hi⟩ := List.mem_iff_getElem?.1 hs
  exact (c.hp.at_ i _ (c.it hi)).2.2
theorem Ctx.idx (c : Ctx C call nt ops its l t0 h0 ss T H') {i : Nat} {s : Stp} (h : ss[i]? = some s) : s.x.i = i := (c.hp.at_ i _ (c.it h)).1

/-- two steps with one slot are one -/
theorem Ctx.dst (c : Ctx C call nt ops its l t0 h0 ss T H') {i j : Nat} {s s' : Stp} {d : Nat} (hi : ss[i]? = some s) (hj : ss[j]? = some s') (hd : s.x.o.dst = some d) (hd' : s'.x.o.dst = some d) : i = j := by
  rcases Nat.lt_trichotomy i j with h | h | h
  · exact (((pairOk_spec (c.hp.pair i j _ _ h (c.it hi) (c.it hj))).2.1 d hd).1 hd').elim
  · exact h
  · exact (((pairOk_spec (c.hp.pair j i _ _ h (c.it hj) (c.it hi))).2.1 d hd').1 hd).elim

theorem Ctx.stages (c : Ctx C call nt ops its l t0 h0 ss T H') : (stagesS ss).length = (its.filter fun x => isEff x.kind).length := by
  rw [stagesS, List.length_map, ← c.hss, List.filter_map, List.length_map]; rfl
theorem Ctx.rank_eq (c : Ctx C call nt ops its l t0 h0 ss T H') (i : Nat) : rank its i = ((ss.take i).filter fun s => isEff s.x.kind).length := by
  unfold rank
  rw [← c.hss, ← List.map_take, List.filter_map, List.length_map]; rfl
/-- the stage behind an effect -/
theorem Ctx.stage_at (c : Ctx C call nt ops its l t0 h0 ss T H') {i : Nat} {s : Stp} (h : ss[i]? = some s) (he : isEff s.x.kind = true) : (h0 :: stagesS ss)[rank its i + 1]? = some s.h' := by
  rw [List.getElem?_cons_succ, c.rank_eq, stagesS, List.getElem?_map, filter_at h he]; rfl
/-- the stage ahead of a step -/
theorem Ctx.stage_before (i : Nat) : (h0 :: stagesS (ss.take i))[(stagesS (ss.take i)).length]? = (h0 :: stagesS ss)[(stagesS (ss.take i)).length]? := by
  have e : stagesS ss = stagesS (ss.take i) ++ stagesS (ss.drop i) := by
    rw [stagesS, stagesS, stagesS, ← List.map_append, ← List.filter_append, List.take_append_drop]
  rw [e, ← List.cons_append, List.getElem?_append_left (by simp)]
theorem Ctx.stage_len (c : Ctx C call nt ops its l t0 h0 ss T H') (i : Nat) : (stagesS (ss.take i)).length = rank its i := by
  rw [c.rank_eq, stagesS, List.length_map]

variable {listed : Array Bool} {φ : Phi} {w : World} {a : Act} {k : Nat} {G : H}

theorem lsd_set {i j : Nat} (hi : i < listed.size) : lsd (listed.setIfInBounds i true) j ↔ (j = i ∨ lsd listed j) := by
  unfold lsd
  by_cases h : i = j
  · subst h
    simp [hi]
  · rw [getD_set_ne false h]
    constructor
    · exact .inr
    · rintro (h' | h')
      · exact absurd h'.symm h
      · exact h'

/-- an operation that may come up -/
structure Ready (C : Cx) (its : List It) (ss : List Stp) (listed : Array Bool) (i : Nat) (s : Stp) : Prop where
  at_ : ss[i]? = some s
  un : ¬ lsd listed i
  af : After listed s.x

theorem Inv.mask (c : Ctx C call nt ops its l t0 h0 ss T H') (v : Inv C nt its t0 h0 ss H' φ0 w0 ds listed φ w a k G) {i : Nat} {s : Stp} (r : Ready C its ss listed i s) {j : Nat} (hj : s.x.mask.testBit j = true) : lsd listed j :=
  mask_listed c.hp v.cl (i + 1) i s.x (Nat.lt_succ_self _) (c.it r.at_) r.af j hj
theorem Inv.mask' (c : Ctx C call nt ops its l t0 h0 ss T H') (v : Inv C nt its t0 h0 ss H' φ0 w0 ds listed φ w a k G) {i : Nat} {x : It} (hx : its[i]? = some x) (hl : lsd listed i) {j : Nat} (hj : x.mask.testBit j = true) : lsd listed j :=
  mask_listed c.hp v.cl (i + 1) i x (Nat.lt_succ_self _) hx (v.cl i x hx hl) j hj

/-- what a ready operation looks at -/
theorem Inv.looks (c : Ctx C call nt ops its l t0 h0 ss T H') (v : Inv C nt its t0 h0 ss H' φ0 w0 ds listed φ w a k G) {i : Nat} {s : Stp} (r : Ready C its ss listed i s) (d : Nat) (hd : d ∈ looksL ops.toList s.x.o) (u : V) (hu : s.t.get d = some u) :
    ∃ y, a.tmps[d]? = some y ∧ rel φ u y := by
  obtain ⟨h1, h2, _⟩ := c.run.at i s r.at_
  rcases h1.tmp d u hu with ⟨j, s', g1, g2, rfl⟩ | ⟨g1, g2⟩
  · have hj : j < i := by
      have := (List.getElem?_eq_some_iff.1 g1).1
      simp at this; omega
    rw [List.getElem?_take, if_pos hj] at g1
    have hm := ((pairOk_spec (c.hp.pair j i _ _ hj (c.it g1) (c.it r.at_))).2.1 d g2).2 hd
    rw [c.idx g1] at hm
    exact v.tw j s' d g1 (v.mask c r hm) g2
  · refine v.tn d u g2 fun j s' hj hl hdd => ?_
    rcases Nat.lt_trichotomy j i with h | h | h
    · exact g1 j s' (by rw [List.getElem?_take, if_pos h]; exact hj) hdd
    · subst h; exact r.un hl
    · have hm := (pairOk_spec (c.hp.pair i j _ _ h (c.it r.at_) (c.it hj))).2.2 d hdd hd
      rw [c.idx r.at_] at hm
      exact r.un (v.mask' c (c.it hj) hl hm)

theorem Inv.operands (c : Ctx C call nt ops its l t0 h0 ss T H') (v : Inv C nt its t0 h0 ss H' φ0 w0 ds listed φ w a k G) {i : Nat} {s : Stp} (r : Ready C its ss listed i s) : ∀ x ∈ s.x.o.op.operands, ∀ u, eva s.t x = some u → rel φ u (a.eval x) := by
  intro x hx u hu
  cases x with
  | tmp d =>
    obtain ⟨y, hy, hr⟩ := v.looks c r d (List.mem_append_left _ (List.mem_filterMap.2 ⟨.tmp d, by simpa using hx, rfl⟩)) u hu
    have : a.eval (.tmp d) = y := by simp [Act.eval, hy]
    rw [this]; exact hr
  | const c => exact eva_rel (t := .nil) (fun i v h => by rw [nil_get] at h; cases h) (.const c) u hu
  | global g => cases hu
  | func f => exact eva_rel (t := .nil) (fun i v h => by rw [nil_get] at h; cases h) (.func f) u hu

/-- the slots behind a step -/
theorem Inv.put (c : Ctx C call nt ops its l t0 h0 ss T H') (v : Inv C nt its t0 h0 ss H' φ0 w0 ds listed φ w a k G) {i : Nat} {s : Stp} (r : Ready C its ss listed i s) {φ' : Phi} (hle : φ.le φ') {y : Value} (hy : rel φ' s.v y) :
    nt ≤ (a.put s.x.o.dst y).tmps.size ∧
    (∀ (j : Nat) (s' : Stp) (d : Nat), ss[j]? = some s' → lsd (listed.setIfInBounds i true) j → s'.x.o.dst = some d → ∃ y', (a.put s.x.o.dst y).tmps[d]? = some y' ∧ rel φ' s'.v y') ∧
    (∀ (d : Nat) (u : V), t0.get d = some u → (∀ (j : Nat) (s' : Stp), ss[j]? = some s' → lsd (listed.setIfInBounds i true) j → s'.x.o.dst ≠ some d) → ∃ y', (a.put s.x.o.dst y).tmps[d]? = some y' ∧ rel φ' u y') ∧
    (a.put s.x.o.dst y).defers = ds := by
  have hi : i < listed.size := by rw [v.sz]; exact (List.getElem?_eq_some_iff.1 r.at_).1
  obtain ⟨_, _, t', hput, _⟩ := c.run.at i s r.at_
  have hother : ∀ d : Nat, s.x.o.dst ≠ some d → (a.put s.x.o.dst y).tmps[d]? = a.tmps[d]? := fun d hd => by
    cases e : s.x.o.dst with
    | none => rfl
    | some e' =>
      rw [e] at hd
      simp only [Act.put]
      exact Array.getElem?_setIfInBounds_ne fun h => hd (by rw [h])
  refine ⟨by rw [Act.put_tmps_size]; exact v.tsz, fun j s' d hj hl hd => ?_, fun d u hu hn => ?_, by rw [Act.put_defers]; exact v.df⟩
  · rcases (lsd_set hi).1 hl with rfl | hl
    · rw [r.at_] at hj; cases hj
      rw [hd] at hput ⊢
      simp only [putV] at hput
      split at hput
      · rename_i hlt
        have hsz := v.tsz
        exact ⟨y, by simp only [Act.put]; exact Array.getElem?_setIfInBounds_self_of_lt (Nat.lt_of_lt_of_le hlt hsz), hy⟩
      · cases hput
    · have hne : s.x.o.dst ≠ some d := fun h => r.un (by rw [c.dst r.at_ hj h hd]; exact hl)
      obtain ⟨y', h1, h2⟩ := v.tw j s' d hj hl hd
      exact ⟨y', by rw [hother d hne]; exact h1, h2.mono hle _ _⟩
  · have hne : s.x.o.dst ≠ some d := hn i s r.at_ ((lsd_set hi).2 (.inl rfl))
    obtain ⟨y', h1, h2⟩ := v.tn d u hu fun j s' hj hl => hn j s' hj ((lsd_set hi).2 (.inr hl))
    exact ⟨y', by rw [hother d hne]; exact h1, h2.mono hle _ _⟩

/-- listing a ready operation keeps what is listed closed -/
theorem Inv.cl' (c : Ctx C call nt ops its l t0 h0 ss T H') (v : Inv C nt its t0 h0 ss H' φ0 w0 ds listed φ w a k G) {i : Nat} {s : Stp} (r : Ready C its ss listed i s) :
    ∀ (j : Nat) (x : It), its[j]? = some x → lsd (listed.setIfInBounds i true) j → After (listed.setIfInBounds i true) x := by
  have hi : i < listed.size := by rw [v.sz]; exact (List.getElem?_eq_some_iff.1 r.at_).1
  intro j x hx hl e he hb
  refine (lsd_set hi).2 (.inr ?_)
  rcases (lsd_set hi).1 hl with rfl | hl
  · rw [c.it r.at_] at hx; cases hx
    exact r.af e he hb
  · exact v.cl j x hx hl e he hb

/-- a step that changes no memory, or lays a block of its own -/
theorem Inv.still (c : Ctx C call nt ops its l t0 h0 ss T H') (v : Inv C nt its t0 h0 ss H' φ0 w0 ds listed φ w a k G) {i : Nat} {s : Stp} (r : Ready C its ss listed i s) (he : isEff s.x.kind = false) {φ' : Phi} {w' : World} {y : Value}
    (hle : φ.le φ') (hy : rel φ' s.v y) (hg : HG φ' (St C.P ss G) w') (hfr : FrG φ (St C.P ss G) w φ' (St C.P ss G) w') (hdom : ∀ b, φ b = none → φ' b ≠ none → G.n ≤ b ∧ b < H'.n ∧ ∃ o, newS C.P s = some (b, o)) :
    Inv C nt its t0 h0 ss H' φ0 w0 ds (listed.setIfInBounds i true) φ' w' (a.put s.x.o.dst y) k G := by
  have hi : i < listed.size := by rw [v.sz]; exact (List.getElem?_eq_some_iff.1 r.at_).1
  obtain ⟨p1, p2, p3, p4⟩ := v.put c r hle hy
  have hn0 : h0.n ≤ G.n := by
    cases k with
    | zero => have := v.st; simp at this; rw [this]; exact Nat.le_refl _
    | succ k =>
      have := v.st
      rw [List.getElem?_cons_succ, stagesS, List.getElem?_map, Option.map_eq_some_iff] at this
      obtain ⟨s', h1, rfl⟩ := this
      obtain ⟨j, g1, _, _⟩ := filter_pos h1
      obtain ⟨q1, q2, _⟩ := c.run.at j s' g1
      exact Nat.le_trans q1.n q2.n
  refine ⟨by simp [v.sz], v.cl' c r, v.st, fun j x hx hxe => ?_, hg, v.fr.trans hfr, fun b hb h1 h2 => ?_, fun b h1 h2 => ?_, p1, p2, p3, p4⟩
  · rw [lsd_set hi, ← v.rk j x hx hxe]
    constructor
    · rintro (rfl | h)
      · rw [c.it r.at_] at hx; cases hx; rw [he] at hxe; cases hxe
      · exact h
    · exact .inr
  · cases e : φ b with
    | none =>
      obtain ⟨_, _, o, h3⟩ := hdom b e hb
      exact ⟨i, s, o, r.at_, (lsd_set hi).2 (.inl rfl), h3⟩
    | some x =>
      obtain ⟨j, s', o, g1, g2, g3⟩ := v.dom b (by rw [e]; simp) h1 h2
      exact ⟨j, s', o, g1, (lsd_set hi).2 (.inr g2), g3⟩
  · cases e : φ b with
    | none =>
      obtain ⟨g1, g2, _⟩ := hdom b e h2
      exact ⟨Nat.le_trans hn0 g1, g2⟩
    | some x => exact v.new b h1 (by rw [e]; simp)
end
end Dv
end

section
namespace Dv
open Go
universe u
section
variable {C : Cx} {call : Tgt → List V → H → (V → H → Prop) → Prop} {nt : Nat} {ops : Array Oper} {its : List It} {l : List (It × Nat × Nat)} {t0 T : Tr V} {h0 H' : H} {ss : List Stp} {φ0 : Phi} {w0 : World} {ds : List Deferred}
variable {listed : Array Bool} {φ : Phi} {w : World} {a : Act} {k : Nat} {G : H}

/-- the stage that the machine is at lies behind the step's own number -/
theorem Inv.before (c : Ctx C call nt ops its l t0 h0 ss T H') (v : Inv C nt its t0 h0 ss H' φ0 w0 ds listed φ w a k G) {i : Nat} {s : Stp} (r : Ready C its ss listed i s) (hk : isAlloc s.x.kind = true) : G.n ≤ s.h.n := by
  cases k with
  | zero =>
    have := v.st
    simp at this
    rw [← this]
    exact (c.run.at i s r.at_).1.n
  | succ k =>
    have := v.st
    rw [List.getElem?_cons_succ, stagesS, List.getElem?_map, Option.map_eq_some_iff] at this
    obtain ⟨s', h1, rfl⟩ := this
    obtain ⟨j, g1, g2, g3⟩ := filter_pos h1
    have hrank : rank its j = k := by rw [c.rank_eq]; exact g3
    have hl : lsd listed j := (v.rk j _ (c.it g1) g2).2 (by omega)
    rcases Nat.lt_trichotomy j i with h | h | h
    · exact c.run.lt h g1 r.at_
    · subst h; exact (r.un hl).elim
    · have hm := (pairOk_spec (c.hp.pair i j _ _ h (c.it r.at_) (c.it g1))).1 g2 (.inr hk)
      rw [c.idx r.at_] at hm
      exact (r.un (v.mask' c (c.it g1) hl hm)).elim

/-- an effect that may come up is the next one -/
theorem Inv.next (c : Ctx C call nt ops its l t0 h0 ss T H') (v : Inv C nt its t0 h0 ss H' φ0 w0 ds listed φ w a k G) {i : Nat} {s : Stp} (r : Ready C its ss listed i s) (hk : isEff s.x.kind = true) : rank its i = k := by
  have h1 : ¬ rank its i < k := fun h => r.un ((v.rk i _ (c.it r.at_) hk).2 h)
  by_cases h2 : k < rank its i
  · obtain ⟨j, x, hj, hx, hxe, hr⟩ := rank_exists h2
    obtain ⟨s', hs', rfl⟩ := c.stp hx
    have hm := (pairOk_spec (c.hp.pair j i _ _ hj hx (c.it r.at_))).1 hk (.inl hxe)
    rw [c.idx hs'] at hm
    have := (v.rk j _ hx hxe).1 (v.mask c r hm)
    have hr : rank its j = k := hr
    omega
  · omega

/-- how many effects lie ahead -/
theorem Inv.window (c : Ctx C call nt ops its l t0 h0 ss T H') (v : Inv C nt its t0 h0 ss H' φ0 w0 ds listed φ w a k G) {i : Nat} {s : Stp} (r : Ready C its ss listed i s) : s.lo ≤ k ∧ k ≤ s.hi := by
  obtain ⟨e1, e2⟩ := c.lh i s r.at_
  rw [e1, e2]
  constructor
  · refine count_le fun q x hx hm => ?_
    obtain ⟨j, g1, g2, g3⟩ := filter_pos hx
    have hr : rank its j = q := g3
    have hj : x.i = j := (c.hp.at_ j x g1).1
    rw [hj] at hm
    have := (v.rk j x g1 g2).1 (v.mask c r hm)
    omega
  · refine le_count ?_ fun q x hx hq => ?_
    · have := (List.getElem?_eq_some_iff.1 v.st).1
      rw [List.length_cons, c.stages] at this
      omega
    · obtain ⟨j, g1, g2, g3⟩ := filter_pos hx
      have hr : rank its j = q := g3
      have hl := (v.rk j x g1 g2).2 (by omega)
      cases hm : x.mask.testBit s.x.i with
      | false => rfl
      | true =>
        rw [c.idx r.at_] at hm
        exact (r.un (v.mask' c g1 hl hm)).elim

theorem Inv.alloc (c : Ctx C call nt ops its l t0 h0 ss T H') (v : Inv C nt its t0 h0 ss H' φ0 w0 ds listed φ w a k G) {i : Nat} {s : Stp} (r : Ready C its ss listed i s) (hk : s.x.kind = .alloc) {obj : O} {vf : Nat → V} (hr : s.r = true) (ha : allocV C.P s.t s.x.o.op = some (obj, vf)) (hv : s.v = vf s.h.n) (hh : s.h' = s.h.push obj)
    {w' : World} {y : Value} {cs : List V} {el : TypeId} {cc : Array Value} {fr : Nat × Nat} (hn : NewB φ obj vf w w' y cs el cc fr) :
    ∃ φ', Inv C nt its t0 h0 ss H' φ0 w0 ds (listed.setIfInBounds i true) φ' w' (a.put s.x.o.dst y) k G := by
  have hal : isAlloc s.x.kind = true := by rw [hk]; rfl
  have hGn := v.before c r hal
  have hnew : newS C.P s = some (s.h.n, obj) := by simp [newS, hr, hal, ha]
  have hnH : s.h.n < H'.n := by
    obtain ⟨_, _, t', _, h4⟩ := c.run.at i s r.at_
    have := h4.n
    rw [hh] at this
    exact Nat.lt_of_lt_of_le (Nat.lt_succ_self _) this
  have huniq : ∀ (j : Nat) (s' : Stp) (o : O), ss[j]? = some s' → newS C.P s' = some (s.h.n, o) → j = i := fun j s' o hj hs' => by
    have ok' := (c.run.at j s' hj).2.1
    have ok := (c.run.at i s r.at_).2.1
    obtain ⟨_, g2, _, _, g5⟩ := newS_spec (c.kind s' (List.mem_of_getElem? hj)) ok' hs'
    rcases Nat.lt_trichotomy j i with h | h | h
    · have := c.run.lt h hj r.at_
      rw [g5] at this
      have e : (s'.h.push o).n = s'.h.n + 1 := rfl
      omega
    · exact h
    · have := c.run.lt h r.at_ hj
      rw [hh] at this
      have e : (s.h.push obj).n = s.h.n + 1 := rfl
      omega
  have hf : φ s.h.n = none := by
    cases e : φ s.h.n with
    | none => rfl
    | some x =>
      obtain ⟨j, s', o, g1, g2, g3⟩ := v.dom s.h.n (by rw [e]; simp) hGn hnH
      have := huniq j s' o g1 g3
      subst this
      exact (r.un g2).elim
  have hg : ∀ o, St C.P ss G s.h.n o → o = obj := fun o h => by
    rcases h with h | ⟨_, j, s', g1, g2⟩
    · have := H.get_lt h; omega
    · have := huniq j s' o g1 g2
      subst this
      rw [r.at_] at g1; cases g1
      rw [hnew] at g2; cases g2; rfl
  obtain ⟨k1, k2, k3⟩ := HG.new v.hg hn hf hg
  refine ⟨_, v.still c r (by rw [hk]; rfl) (Phi.le_set hf) (by rw [hv]; exact k3) k1 k2 fun b h1 h2 => ?_⟩
  unfold Phi.set at h2
  split at h2
  · rename_i e; subst e; exact ⟨hGn, hnH, obj, hnew⟩
  · exact (h2 h1).elim

theorem Inv.eff (c : Ctx C call nt ops its l t0 h0 ss T H') (v : Inv C nt its t0 h0 ss H' φ0 w0 ds listed φ w a k G) {i : Nat} {s : Stp} (r : Ready C its ss listed i s) (hk : isEff s.x.kind = true) :
    HR φ s.h w ∧ Free φ s.h.n s.h'.n ∧ ∀ φ' w' y, Fr φ s.h w φ' s.h' w' → HR φ' s.h' w' → rel φ' s.v y →
      Inv C nt its t0 h0 ss H' φ0 w0 ds (listed.setIfInBounds i true) φ' w' (a.put s.x.o.dst y) (k + 1) s.h' := by
  have hi : i < listed.size := by rw [v.sz]; exact (List.getElem?_eq_some_iff.1 r.at_).1
  have hrank := v.next c r hk
  obtain ⟨q1, q2, t', q3, q4⟩ := c.run.at i s r.at_
  have hG : (h0 :: stagesS (ss.take i))[(stagesS (ss.take i)).length]? = some G := by
    rw [Ctx.stage_before, c.stage_len, hrank]; exact v.st
  obtain ⟨hGn, hgap⟩ := gap q1 (fun x hx => c.kind x (List.mem_of_mem_take hx)) h0 (fun _ _ => False) (Nat.le_refl _) (fun b o h => .inl h) G hG
  have h1 : ∀ b o, φ b ≠ none → s.h.get b = some o → St C.P ss G b o := fun b o _ hb => by
    rcases hgap b o hb with h | ⟨g1, g2 | ⟨x, hx, hx2⟩⟩
    · exact .inl h
    · exact g2.elim
    · obtain ⟨j, hj⟩ := List.mem_iff_getElem?.1 (List.mem_of_mem_take hx)
      exact .inr ⟨g1, j, x, hj, hx2⟩
  have hHn : s.h'.n ≤ H'.n := q4.n
  have hkd : isAlloc s.x.kind = false := by
    cases e : s.x.kind <;> simp [e, isEff] at hk ⊢ <;> rfl
  refine ⟨v.hg.hr h1, fun b hb1 hb2 => ?_, fun φ' w' y hfr hr' hy => ?_⟩
  · cases e : φ b with
    | none => rfl
    | some x =>
      obtain ⟨j, s', o, g1, g2, g3⟩ := v.dom b (by rw [e]; simp) (by omega) (by omega)
      obtain ⟨p1, p2, _, _, p5⟩ := newS_spec (c.kind s' (List.mem_of_getElem? g1)) (c.run.at j s' g1).2.1 g3
      rcases Nat.lt_trichotomy j i with h | h | h
      · have := c.run.lt h g1 r.at_
        rw [p5] at this
        have e : (s'.h.push o).n = s'.h.n + 1 := rfl
        omega
      · subst h
        rw [r.at_] at g1; cases g1
        rw [hkd] at p1; cases p1
      · have := c.run.lt h r.at_ g1
        omega
  · obtain ⟨k1, k2⟩ := v.hg.wide (g' := St C.P ss s.h') hfr hr' h1 fun b o _ hb => by
      rcases hb with h | ⟨g1, g2⟩
      · exact .inl h
      · exact .inr ⟨g1, .inr ⟨Nat.le_trans hGn (Nat.le_trans q2.n g1), g2⟩⟩
    obtain ⟨p1, p2, p3, p4⟩ := v.put c r hfr.ext hy
    refine ⟨by simp [v.sz], v.cl' c r, by rw [← hrank]; exact c.stage_at r.at_ hk, fun j x hx hxe => ?_, k1, v.fr.trans k2, fun b hb g1 g2 => ?_, fun b g1 g2 => ?_, p1, p2, p3, p4⟩
    · rw [lsd_set hi, v.rk j x hx hxe]
      constructor
      · rintro (rfl | h)
        · omega
        · omega
      · intro h
        by_cases hj : j = i
        · exact .inl hj
        · right
          by_cases h2 : rank its j < k
          · exact h2
          · exfalso
            have e : rank its j = rank its i := by omega
            obtain ⟨sj, hsj, rfl⟩ := c.stp hx
            have a1 := c.stage_at hsj hxe
            have f1 := filter_at (q := fun x : It => isEff x.kind) hx hxe
            have f2 := filter_at (q := fun x : It => isEff x.kind) (c.it r.at_) hk
            have e' : ((its.take j).filter fun x => isEff x.kind).length = ((its.take i).filter fun x => isEff x.kind).length := e
            rw [e', f2] at f1
            have hxx : s.x = sj.x := Option.some.inj f1
            have i1 := c.idx hsj
            have i2 := c.idx r.at_
            rw [← hxx] at i1
            omega
    · cases e : φ b with
      | none =>
        cases e' : φ' b with
        | none => exact (hb e').elim
        | some x => have := (hfr.new b x e e').2; omega
      | some x =>
        obtain ⟨j, s', o, f1, f2, f3⟩ := v.dom b (by rw [e]; simp) (Nat.le_trans hGn (Nat.le_trans q2.n g1)) g2
        exact ⟨j, s', o, f1, (lsd_set hi).2 (.inr f2), f3⟩
    · cases e : φ b with
      | none =>
        cases e' : φ' b with
        | none => exact (g2 e').elim
        | some x =>
          obtain ⟨f1, f2⟩ := hfr.new b x e e'
          have := q1.n
          exact ⟨by omega, by omega⟩
      | some x => exact v.new b g1 (by rw [e]; simp)

/-- One operation that may come up. -/
theorem Inv.step {ro : Option Nat} {P : Program} (hP : C.P = P) (hcall : CallOK P call) (c : Ctx C call nt ops its l t0 h0 ss T H') (v : Inv C nt its t0 h0 ss H' φ0 w0 ds listed φ w a k G) {i : Nat} {s : Stp} (r : Ready C its ss listed i s) {Q : Exit → Act → World → Prop} {K : Act → World → Prop}
    (hK : ∀ φ' w' a' k' G', Inv C nt its t0 h0 ss H' φ0 w0 ds (listed.setIfInBounds i true) φ' w' a' k' G' → K a' w') : wpOpIn (WF ro) 0 P ops Q i K a w := by
  subst hP
  have hop : ops[i]? = some s.x.o := by
    have := (c.hp.at_ i _ (c.it r.at_)).2.1
    simpa using this
  have hkd := (c.hp.at_ i _ (c.it r.at_)).2.2
  obtain ⟨q1, ok, t', q3, q4⟩ := c.run.at i s r.at_
  have hw := wanted_ok (φ := φ) (a := a) ok.want fun d hd u hu => v.looks c r d hd u hu
  have hρ := v.operands c r
  unfold wpOpIn
  rw [hop]
  simp only [hw]
  cases hr : s.r with
  | false =>
    obtain ⟨hv, hh⟩ := ok.skip hr
    simp only [Bool.false_eq_true, if_false]
    refine ⟨fun _ _ => trivial, ?_⟩
    cases he : isEff s.x.kind with
    | false => exact hK _ _ _ _ _ (v.still c r he (.refl φ) (by rw [hv]; exact undef_rel φ) v.hg (.refl ..) fun b h1 h2 => (h2 h1).elim)
    | true =>
      obtain ⟨e1, _, e3⟩ := v.eff c r he
      exact hK _ _ _ _ _ (e3 φ w undef (by rw [hh]; exact .refl ..) (by rw [hh]; exact e1) (by rw [hv]; exact undef_rel φ))
  | true =>
    have hopr := ok.op hr
    simp only [if_true]
    cases hk : s.x.kind with
    | pure =>
      obtain ⟨y, g1, g2⟩ := pureV_ok hρ (hopr.inv_pure (by rw [← hkd, hk])).1
      exact wp_value hopr.notDefer (g1 w) (hK _ _ _ _ _ (v.still c r (by rw [hk]; rfl) (.refl φ) g2 v.hg (.refl ..) fun b h1 h2 => (h2 h1).elim))
    | read =>
      obtain ⟨w1, w2⟩ := v.window c r
      have hread := c.rd s (List.mem_of_getElem? r.at_) hr (by rw [hk]; rfl) k G w1 w2 v.st
      unfold readG at hread
      simp only [] at hread
      have key : ∃ y, (execOp a.eval s.x.o).run C.P w = .ok (.value y) w ∧ rel φ s.v y := by
        split at hread
        · rename_i u hu
          cases hread
          exact readV_ok (v.hg.hr fun b o _ h => .inl h) hρ hu
        · refine readV_ok (v.hg.hr fun b o _ h => .inr ?_) hρ hread
          obtain ⟨g1, g2⟩ := plus_get' h
          refine ⟨g1, ?_⟩
          obtain ⟨s', h1, h2⟩ := List.mem_filterMap.1 g2
          obtain ⟨j, hj⟩ := List.mem_iff_getElem?.1 h1
          exact ⟨j, s', hj, h2⟩
      obtain ⟨y, g1, g2⟩ := key
      exact wp_value hopr.notDefer g1 (hK _ _ _ _ _ (v.still c r (by rw [hk]; rfl) (.refl φ) g2 v.hg (.refl ..) fun b h1 h2 => (h2 h1).elim))
    | alloc =>
      obtain ⟨o, vf, g1, g2, g3⟩ := hopr.inv_alloc (by rw [← hkd, hk])
      obtain ⟨w', y, cs, el, cc, fr, h1, h2⟩ := allocV_ok (φ := φ) (w := w) hρ g1
      obtain ⟨φ', hI⟩ := v.alloc c r hk hr g1 g2 g3 h2
      exact wp_value hopr.notDefer h1 (hK _ _ _ _ _ hI)
    | eff =>
      obtain ⟨e1, e2, e3⟩ := v.eff c r (by rw [hk]; rfl)
      exact hopr.wp rfl hcall e1 hρ e2 fun φ' w' y f1 f2 f3 => hK _ _ _ _ _ (e3 φ' w' y f1 f2 f3)

/-- how many are not yet listed -/
def unl (n : Nat) (listed : Array Bool) : Nat := ((List.range n).filter fun i => !listed.getD i false).length

theorem unl_set {n i : Nat} {listed : Array Bool} (hi : i < n) (hs : i < listed.size) (h : ¬ lsd listed i) : unl n (listed.setIfInBounds i true) < unl n listed := by
  unfold unl
  have hsub : ∀ (L : List Nat), (L.filter fun j => !(listed.setIfInBounds i true).getD j false).length ≤ (L.filter fun j => !listed.getD j false).length ∧ (i ∈ L → (L.filter fun j => !(listed.setIfInBounds i true).getD j false).length < (L.filter fun j => !listed.getD j false).length) := by
    intro L
    induction L with
    | nil => exact ⟨Nat.le_refl _, fun h => by cases h⟩
    | cons j L ih =>
      by_cases hj : j = i
      · subst hj
        have e1 : (listed.setIfInBounds j true).getD j false = true := (lsd_set hs).2 (.inl rfl)
        have e2 : listed.getD j false = false := by simpa [lsd] using h
        rw [List.filter_cons_of_neg (by simp only [e1]; decide), List.filter_cons_of_pos (by simp only [e2]; decide)]
        exact ⟨Nat.le_succ_of_le ih.1, fun _ => Nat.lt_succ_of_le ih.1⟩
      · have e : (listed.setIfInBounds i true).getD j false = listed.getD j false := getD_set_ne false (Ne.symm hj)
        cases hl : listed.getD j false with
        | true =>
          rw [List.filter_cons_of_neg (by simp only [e, hl]; decide), List.filter_cons_of_neg (by simp only [hl]; decide)]
          exact ⟨ih.1, fun h => ih.2 ((List.mem_cons.1 h).resolve_left (Ne.symm hj))⟩
        | false =>
          rw [List.filter_cons_of_pos (by simp only [e, hl]; decide), List.filter_cons_of_pos (by simp only [hl]; decide)]
          exact ⟨Nat.succ_le_succ ih.1, fun h => Nat.succ_lt_succ (ih.2 ((List.mem_cons.1 h).resolve_left (Ne.symm hj)))⟩
  exact (hsub _).2 (List.mem_range.2 hi)

theorem Inv.ready (c : Ctx C call nt ops its l t0 h0 ss T H') (v : Inv C nt its t0 h0 ss H' φ0 w0 ds listed φ w a k G) {i : Nat} (h : i ∈ Region.ready .any ops listed) : ∃ s, Ready C its ss listed i s := by
  obtain ⟨h1, o, h2, h3⟩ := mem_ready.1 h
  have hlt : i < its.length := by rw [c.hp.len]; simpa using (Array.getElem?_eq_some_iff.1 h2).1
  obtain ⟨s, g1, g2⟩ := c.stp (List.getElem?_eq_getElem hlt)
  refine ⟨s, g1, fun hl => ?_, fun e he hb => ?_⟩
  · unfold lsd at hl
    have hsz : i < listed.size := by rw [v.sz]; exact (List.getElem?_eq_some_iff.1 g1).1
    simp [hsz] at h1 hl
    rw [h1] at hl; cases hl
  · have ho := (c.hp.at_ i _ (c.it g1)).2.1
    have : ops[i]? = some s.x.o := by simpa using ho
    rw [h2] at this
    cases this
    exact h3 e (by simpa using he) hb

theorem Inv.done (c : Ctx C call nt ops its l t0 h0 ss T H') (v : Inv C nt its t0 h0 ss H' φ0 w0 ds listed φ w a k G) (h : Region.ready .any ops listed = []) : ∀ (n i : Nat), i < n → i < ss.length → lsd listed i
  | 0, i, hi, _ => by omega
  | n + 1, i, hi, hl => by
    by_cases hx : lsd listed i
    · exact hx
    · exfalso
      have hs := List.getElem?_eq_getElem hl
      have hmem : i ∈ Region.ready .any ops listed := by
        refine mem_ready.2 ⟨?_, _, by simpa using (c.hp.at_ i _ (c.it hs)).2.1, fun e he hb => ?_⟩
        · have hsz : i < listed.size := by rw [v.sz]; exact hl
          unfold lsd at hx
          simp [hsz] at hx ⊢
          exact hx
        · have hlt := c.hp.after i _ (c.it hs) e (by simpa using he) hb
          exact Inv.done c v h n e.on (by omega) (by omega)
      rw [h] at hmem
      cases hmem

theorem Inv.any {ro : Option Nat} {P : Program} (hP : C.P = P) (hcall : CallOK P call) (c : Ctx C call nt ops its l t0 h0 ss T H') {Q : Exit → Act → World → Prop}
    (hQ : ∀ listed φ w a k G, Inv C nt its t0 h0 ss H' φ0 w0 ds listed φ w a k G → (∀ i, i < ss.length → lsd listed i) → Q .normal a w) : ∀ (fuel : Nat) (listed : Array Bool) (φ : Phi) (w : World) (a : Act) (k : Nat) (G : H),
    unl ss.length listed ≤ fuel → Inv C nt its t0 h0 ss H' φ0 w0 ds listed φ w a k G → wpAnyIn (WF ro) 0 P .any ops Q fuel listed a w
  | 0, listed, φ, w, a, k, G, hu, v => by
    have hr : Region.ready .any ops listed = [] := by
      rw [List.eq_nil_iff_forall_not_mem]
      intro i hi
      obtain ⟨s, r⟩ := v.ready c hi
      have hl := (List.getElem?_eq_some_iff.1 r.at_).1
      have : unl ss.length (listed.setIfInBounds i true) < unl ss.length listed := unl_set hl (by rw [v.sz]; exact hl) r.un
      omega
    exact ⟨hr, hQ _ _ _ _ _ _ v fun i hi => v.done c hr _ i (Nat.lt_succ_self _) hi⟩
  | fuel + 1, listed, φ, w, a, k, G, hu, v => by
    refine ⟨fun hr => hQ _ _ _ _ _ _ v fun i hi => v.done c hr _ i (Nat.lt_succ_self _) hi, fun i hi => ?_⟩
    obtain ⟨s, r⟩ := v.ready c hi
    have hl := (List.getElem?_eq_some_iff.1 r.at_).1
    have hlt : unl ss.length (listed.setIfInBounds i true) < unl ss.length listed := unl_set hl (by rw [v.sz]; exact hl) r.un
    exact v.step hP hcall c r fun φ' w' a' k' G' v' => Inv.any hP hcall c hQ fuel _ φ' w' a' k' G' (by omega) v'
end

/-- A region whose order is drawn. -/
theorem draw_ok {C : Cx} {call : Tgt → List V → H → (V → H → Prop) → Prop} {ro : Option Nat} {P : Program} (hP : C.P = P) (hc : PtCall call) (hcall : CallOK P call) {nt : Nat} {ops : Array Oper} {Q : Exit → Act → World → Prop} {t T : Tr V} {h H' : H} {p : List (It × Nat × Nat)} (hpl : plan C.P ops.toList = some p)
    (hk : drawK Bad C call nt ops.toList p t h [h] [] [] (fun t' h' => t' = T ∧ h' = H')) {φ : Phi} {w : World} {a : Act} (hr : HR φ h w) (ht : TR φ nt t a) (hf : Free φ h.n H'.n)
    (hQ : ∀ φ' w' a', Fr φ h w φ' H' w' → HR φ' H' w' → TR φ' nt T a' → a'.defers = a.defers → Q .normal a' w') : wpAnyIn (WF ro) 0 P .any ops Q ops.size (Array.replicate ops.size false) a w := by
  obtain ⟨its, hp, hpe⟩ := plan_spec hpl
  obtain ⟨ss, T2, H2, run, hrd, hT⟩ := drawK_hist hc p t h [h] [] [] _ (fun q hq => by
    rw [hpe] at hq
    obtain ⟨x, hx, rfl⟩ := List.mem_map.1 hq
    obtain ⟨j, hj⟩ := List.mem_iff_getElem?.1 hx
    exact (hp.at_ j x hj).2.2) hk
  obtain ⟨rfl, rfl⟩ := (hT _).1 hk
  have hlen := run.len
  have hss : ss.map (·.x) = its := by
    have := congrArg (List.map (fun q : It × Nat × Nat => q.1)) hlen
    rw [hpe, List.map_map, List.map_map] at this
    exact this.trans (List.map_id _)
  have hsl : ss.length = ops.size := by
    have h1 := congrArg List.length hss
    rw [List.length_map, hp.len] at h1
    simpa using h1
  have c : Ctx C call nt ops its p t h ss T2 H2 := by
    refine ⟨hp, hss, fun i s hi => ?_, run, fun s hs hr hkd k G h1 h2 hG => ?_⟩
    · have h1 : (ss.map fun s => (s.x, s.lo, s.hi))[i]? = some (s.x, s.lo, s.hi) := by rw [List.getElem?_map, hi]; rfl
      rw [hlen, hpe, List.getElem?_map, Option.map_eq_some_iff] at h1
      obtain ⟨x, _, hx⟩ := h1
      simp only [Prod.mk.injEq] at hx
      obtain ⟨rfl, e2, e3⟩ := hx
      exact ⟨e2.symm, e3.symm⟩
    · have hm : (⟨s.x.o.op, s.t, s.v, s.lo, s.hi⟩ : Rd) ∈ (readsS ss).reverse ++ [] := by
        rw [List.append_nil, List.mem_reverse]
        exact List.mem_filterMap.2 ⟨s, hs, by simp [readS, hr, hkd]⟩
      have := readsOk_mem hrd _ hm
      exact readOk_at (by simpa using this) h1 h2 hG
  have hnone : ∀ i, ¬ lsd (Array.replicate ops.size false) i := fun i hl => by
    unfold lsd at hl
    rw [Array.getD_eq_getD_getElem?, Array.getElem?_replicate] at hl
    split at hl <;> cases hl
  have hpend : ∀ b o, φ b ≠ none → St C.P ss h b o → h.get b = some o := fun b o hb hS => by
    rcases hS with hS | ⟨g1, j, s, g2, g3⟩
    · exact hS
    · exfalso
      obtain ⟨k1, k2, k3, k4, k5⟩ := newS_spec (c.kind s (List.mem_of_getElem? g2)) (run.at j s g2).2.1 g3
      obtain ⟨_, _, t', _, q4⟩ := run.at j s g2
      have := q4.n
      rw [k5] at this
      have e : (s.h.push o).n = s.h.n + 1 := rfl
      exact hb (hf b g1 (by omega))
  have v0 : Inv C nt its t h ss H2 φ w a.defers (Array.replicate ops.size false) φ w a 0 h := by
    refine ⟨by rw [Array.size_replicate, hsl], fun i x _ hl => (hnone i hl).elim, rfl, fun i x _ _ => ⟨fun hl => (hnone i hl).elim, fun h => by omega⟩, .of_hr hr hpend, .refl .., fun b hb h1 h2 => (hb (hf b h1 h2)).elim, fun b h1 h2 => (h2 h1).elim, ht.1, fun i s d _ hl => (hnone i hl).elim, fun d u hu _ => ht.2 d u hu, rfl⟩
  refine Inv.any hP hcall c (fun listed φ' w' a' k G v hall => ?_) ops.size _ φ w a 0 h ?_ v0
  · have hk' : k = (stagesS ss).length := by
      have h1 := (List.getElem?_eq_some_iff.1 v.st).1
      rw [List.length_cons] at h1
      by_cases hlt : k < (stagesS ss).length
      · exfalso
        rw [c.stages] at hlt
        obtain ⟨x, hx⟩ : ∃ x, (its.filter fun x => isEff x.kind)[k]? = some x := ⟨_, List.getElem?_eq_getElem hlt⟩
        obtain ⟨j, g1, g2, g3⟩ := filter_pos hx
        have hj : j < ss.length := by
          have := (List.getElem?_eq_some_iff.1 g1).1
          rw [← hss, List.length_map] at this; exact this
        have := (v.rk j x g1 g2).1 (hall j hj)
        have g3 : rank its j = k := g3
        omega
      · omega
    have hG := v.st
    rw [hk'] at hG
    obtain ⟨hGn, hgap⟩ := gap run c.kind h (fun _ _ => False) (Nat.le_refl _) (fun b o h => .inl h) G hG
    have hle : ∀ b o, H2.get b = some o → St C.P ss G b o := fun b o hb => by
      rcases hgap b o hb with h | ⟨g1, g2 | ⟨x, hx, hx2⟩⟩
      · exact .inl h
      · exact g2.elim
      · obtain ⟨j, hj⟩ := List.mem_iff_getElem?.1 hx
        exact .inr ⟨g1, j, x, hj, hx2⟩
    refine hQ φ' w' a' ⟨v.fr.ext, fun b x h1 h2 => v.new b h1 (by rw [h2]; simp), run.n, v.fr.size, v.fr.os, v.fr.tape, v.fr.output, fun rb hlt hn => ?_, fun rb hlt ⟨b, l, o, e1, e2, e3, e4⟩ => ?_, v.fr.lp⟩ (v.hg.hr fun b o _ hb => hle b o hb) ⟨v.tsz, fun d u hu => ?_⟩ v.df
    · obtain ⟨g1, g2⟩ := v.fr.keep rb hlt fun ⟨b, l, o, e1, e2, e3, e4⟩ => hn ⟨b, l, o, hpend b o (by rw [e3]; simp) e1, e2, e3, e4⟩
      exact ⟨g1, fun ⟨b, l, o, e1, e2, e3, e4⟩ => g2 ⟨b, l, o, hle b o e1, e2, e3, e4⟩⟩
    · obtain ⟨b', l', o', f1, f2, f3, f4⟩ := v.fr.see rb hlt ⟨b, l, o, hle b o e1, e2, e3, e4⟩
      exact ⟨b', l', o', hpend b' o' (by rw [f3]; simp) f1, f2, f3, f4⟩
    · rcases run.tmp d u hu with ⟨j, s, g1, g2, rfl⟩ | ⟨g1, g2⟩
      · exact v.tw j s d g1 (hall j (List.getElem?_eq_some_iff.1 g1).1) g2
      · exact v.tn d u g2 fun j s hj _ => g1 j s hj
  · have : unl ss.length (Array.replicate ops.size false) ≤ (List.range ss.length).length := List.length_filter_le ..
    rw [List.length_range, hsl] at this
    rw [hsl]; exact this

theorem drawK_pt {C : Cx} {call : Tgt → List V → H → (V → H → Prop) → Prop} (hc : PtCall call) {nt : Nat} {ops : List Oper} {t : Tr V} {h : H} {p : List (It × Nat × Nat)} (hpl : plan C.P ops = some p) {k : Tr V → H → Prop}
    (hk : drawK Bad C call nt ops p t h [h] [] [] k) : ∃ T H', IsT (drawK Bad C call nt ops p t h [h] [] []) T H' ∧ h.n ≤ H'.n := by
  obtain ⟨its, hp, hpe⟩ := plan_spec hpl
  obtain ⟨ss, T2, H2, run, hrd, hT⟩ := drawK_hist hc p t h [h] [] [] _ (fun q hq => by
    rw [hpe] at hq
    obtain ⟨x, hx, rfl⟩ := List.mem_map.1 hq
    obtain ⟨j, hj⟩ := List.mem_iff_getElem?.1 hx
    exact (hp.at_ j x hj).2.2) hk
  exact ⟨T2, H2, hT, run.n⟩
end Dv
end
