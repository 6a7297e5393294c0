/-
  append and copy answer as the model's do.
-/
import Derived.Test.YtljfaogegcidgaaGreatDoorDvE
section
namespace Dv
open Go

theorem growBy_le (n : Nat) : ∀ (r c : Nat), c ≤ 2 * n + 768 → Builtin.growBy n r c ≤ 2 * n + 768
  | 0, c, h => h
  | r + 1, c, h => by
    unfold Builtin.growBy
    split
    · exact h
    · exact growBy_le n r _ (by omega)

theorem next_le (n old : Nat) (h : old < n) : Builtin.nextslicecap n old ≤ 2 * n + 768 := by
  unfold Builtin.nextslicecap
  split
  · omega
  · split
    · omega
    · exact growBy_le n 4 old (by omega)

theorem roomOk_spec {j : TI} {inf : TypeInfo} (hb : j.bytes = inf.bytes) (hs : j.size = inf.size) (hz : ∀ z, j.zero = some z → ∃ z', inf.zero = some z' ∧ ∀ φ, rel φ z z') {need : Nat} (h : roomOk j need = true) :
    0 < inf.size ∧ (∃ z', inf.zero = some z' ∧ z'.cells.size = inf.size) ∧ (2 * need + 768) * (inf.bytes + 1) ≤ 140737488355328 := by
  unfold roomOk at h
  rw [beq_dec] at h
  by_cases h0 : j.size = 0
  · simp [h0] at h
  · simp only [h0, decide_false, cond_false] at h
    cases hz0 : j.zero with
    | none => simp [hz0] at h
    | some z =>
      rw [hz0] at h
      simp only [beq_dec, lenL_eq] at h
      by_cases hl : z.cells.length = j.size
      · simp only [hl, decide_true, cond_true] at h
        have := Nat.le_of_ble_eq_true h
        obtain ⟨z', hz', hr⟩ := hz z hz0
        have hlen := (hr (fun _ => none)).cells.length
        simp only [Array.length_toList] at hlen
        refine ⟨by omega, ⟨z', hz', by omega⟩, ?_⟩
        rw [← hb]; exact this
      · simp [hl] at h

theorem source_ok {P : Program} {φ : Phi} {h : H} {w : World} (hr : HR φ h w) {size n : Nat} {x : V} {x' : Value} {new : List V} (hx : rel φ x x') (hn : lenOfV x = some n ∨ (∃ m, lenOfV x = some m ∧ n ≤ m)) (he : sourceV h size n x = some new) :
    ∃ xs : Array Value, (∀ d, (Builtin.firstCells size n x').run P { w with drawn := d } = .ok xs { w with drawn := d }) ∧ rels φ new xs.toList := by
  have hn : ∃ m, lenOfV x = some m ∧ n ≤ m := by
    rcases hn with h | h
    · exact ⟨n, h, Nat.le_refl _⟩
    · exact h
  obtain ⟨m, hm, hnm⟩ := hn
  unfold sourceV at he
  split at he
  · simp only [rel] at hx; subst hx
    split at he
    · cases he; exact ⟨#[], fun _ => rfl, by simp [rels]⟩
    · cases he
  · rename_i b o len cap fz
    obtain ⟨l, off, cap', hφ, rfl, hle, hcap, hex, htot, hoff, hbase⟩ := hx
    simp only [lenOfV, Option.some.injEq] at hm
    subst hm
    split at he
    · rename_i h0
      cases he
      have h0 : n * size = 0 := Nat.eq_of_beq_eq_true h0
      exact ⟨#[], fun _ => by simp [Builtin.firstCells, h0, loadCells, loadCellsFrom], by simp [rels]⟩
    · rename_i h0
      have h0 : n * size ≠ 0 := fun e => h0 (by show Nat.beq (n * size) 0 = true; rw [e]; rfl)
      split at he
      · rename_i cs hcs
        obtain ⟨c, e, fr, g1, g2, g3, g4⟩ := cells_of hr hcs hφ
        obtain ⟨rfl, hl⟩ := sub?_eq he
        have hn0 : n ≠ 0 := fun e => h0 (by rw [e]; simp)
        have ho := hoff (.inr (by omega))
        subst ho
        have hget : ∀ (j : Nat) (u : V), ((cs.drop o).take (n.mul size))[j]? = some u → ∃ x, c[l.base + o + j]? = some x ∧ rel φ u x := fun j u hu => by
          rw [List.getElem?_take] at hu
          split at hu
          · rw [List.getElem?_drop] at hu
            obtain ⟨x, hx, hxr⟩ := g4 _ u hu
            exact ⟨x, by rw [← hx]; congr 1; omega, hxr⟩
          · cases hu
        have hrun := fun d => run_loads' (P := P) (φ := φ) (w := { w with drawn := d }) (off := l.base + o) g1 hget
        rw [hl] at hrun
        exact ⟨_, fun d => (hrun d).1, by simpa using (hrun 0).2⟩
      · cases he
  · rename_i s
    obtain ⟨s', rfl, rfl⟩ := hx
    simp only [lenOfV, lenL_eq, bytesOf_length, Option.some.injEq] at hm
    subst hm
    have he : ((sub? (bytesOf s') 0 n).map fun l => l.map fun c => V.int .u8 (.ofNat c)) = some new := by
      cases hb : Nat.beq size 1 with
      | false => rw [hb] at he; cases he
      | true => rw [hb] at he; exact he
    cases hs : sub? (bytesOf s') 0 n with
    | none => rw [hs] at he; cases he
    | some l =>
      rw [hs] at he; cases he
      obtain ⟨rfl, hl⟩ := sub?_eq hs
      refine ⟨(s'.extract 0 n).data.map fun b => .int .u8 b.toNat, fun _ => rfl, ?_⟩
      have := bytes_cells φ (s'.extract 0 n)
      rw [bytesOf_extract] at this
      simpa using this
  · cases he

theorem source_len {h : H} {size n : Nat} {x : V} {new : List V} (he : sourceV h size n x = some new) : new.length = n * size := by
  unfold sourceV at he
  split at he
  · split at he
    · rename_i h0
      cases he
      have : n = 0 := Nat.eq_of_beq_eq_true h0
      subst this; simp
    · cases he
  · split at he
    · rename_i h0
      cases he
      have : n * size = 0 := Nat.eq_of_beq_eq_true h0
      rw [this]; rfl
    · split at he
      · exact (sub?_eq he).2
      · cases he
  · cases hb : Nat.beq size 1 with
    | false => rw [hb] at he; cases he
    | true =>
      rw [hb] at he
      simp only [cond_true] at he
      have h1 : size = 1 := Nat.eq_of_beq_eq_true hb
      cases hs : sub? _ 0 n with
      | none => rw [hs] at he; cases he
      | some l =>
        rw [hs] at he; cases he
        have := (sub?_eq hs).2
        rw [h1]; simp [this]
  · cases he

theorem lenOf_ok {P : Program} {φ : Phi} {x : V} {x' : Value} {n : Nat} (hx : rel φ x x') (h : lenOfV x = some n) : ∀ w, (Builtin.lenOf x').run P w = .ok n w := by
  intro w
  cases x <;> simp only [lenOfV] at h <;> try (cases h; done)
  · obtain ⟨s, rfl, rfl⟩ := hx
    cases h
    simp [Builtin.lenOf, lenL_eq, bytesOf_length]
  · simp only [rel] at hx; subst hx; cases h; rfl
  · obtain ⟨_, _, _, _, rfl, _⟩ := hx; cases h; rfl

noncomputable def appendV (P : Program) (h : H) (ty xty : TypeId) (s x : V) : Option (V × H) :=
  match mkTI P ty with
  | none => none
  | some i =>
    match i.sh with
    | .slice e =>
      match mkTI P e, notIntT P xty, lenOfV x with
      | some j, some _, some n =>
        match sourceV h j.size n x with
        | none => none
        | some new =>
          match s with
          | .nils => if n = 0 then some (.nils, h) else if roomOk j n = true then some (.slice h.n 0 n n j.size, h.push (.cells new e true 0 0)) else none
          | .slice b o len cap fz =>
            if len + n ≤ cap then
              (if new.length = 0 then some (.slice b o (len + n) cap fz, h) else (storeV h b (o + len * j.size) new).map fun h => (.slice b o (len + n) cap fz, h))
            else if roomOk j (len + n) = true then
              match h.get b with
              | some (.cells cs e' rw lo hi) =>
                match sub? cs o (len * j.size) with
                | some old =>
                  if fz = 0 then some (.slice h.n 0 (len + n) (len + n) j.size, h.push (.cells (old ++ new) e true 0 0))
                  else if rw = true ∧ e' = e ∧ fz = j.size ∧ allOne new = true ∧ (hi ≤ lo ∨ cap ≠ 0 ∧ hi ≤ o + len * j.size) then
                    some (.slice h.n 0 (len + n) (len + n) j.size, (h.upd b .dead).push (.cells (old ++ new) e true (shLo lo hi o) (shHi lo hi o)))
                  else none
                | none => none
              | _ => none
            else none
          | _ => none
      | _, _, _ => none
    | _ => none

theorem appendK_iff (P : Program) (h : H) (ty xty : TypeId) (s x : V) (k : V → H → Prop) : appendK Bad P h ty xty s x k ↔ ∃ v h', appendV P h ty xty s x = some (v, h') ∧ k v h' := by
  have exk : ∀ (a : V) (b : H), (∃ v h', (a = v ∧ b = h') ∧ k v h') ↔ k a b := fun a b => ⟨fun ⟨v, h', ⟨e1, e2⟩, hk⟩ => by rw [e1, e2]; exact hk, fun hk => ⟨a, b, ⟨rfl, rfl⟩, hk⟩⟩
  unfold appendK appendV
  cases hi : mkTI P ty with
  | none => simp [exk]
  | some i =>
    try simp only []
    cases i.sh <;> simp only [] <;> try (simp; done)
    rename_i e
    cases hj : mkTI P e with
    | none => simp [exk]
    | some j =>
      try simp only []
      generalize notIntT P xty = q
      cases q with
      | none => simp [exk]
      | some u =>
        cases lenOfV x with
        | none => simp [exk]
        | some n =>
          try simp only []
          cases sourceV h j.size n x with
          | none => simp [exk]
          | some new =>
            try simp only []
            cases s <;> simp only [] <;> try (simp; done)
            · rw [beq_dec]
              by_cases hn : n = 0
              · simp [exk, hn]
              · simp only [hn, decide_false, cond_false, if_false]
                cases roomOk j n <;> simp [exk, forceK_eq, H.newK_eq]
            · rename_i b o len cap fz
              have e1 : Nat.add len n = len + n := rfl
              have e2 : Nat.mul len j.size = len * j.size := rfl
              have e3 : ∀ a b, Nat.add a b = a + b := fun _ _ => rfl
              have e4 : ∀ a b, Nat.sub a b = a - b := fun _ _ => rfl
              simp only [e1, e2, e3, e4, ble_dec, beq_dec, lenL_eq]
              by_cases h1 : len + n ≤ cap
              · simp only [h1, decide_true, cond_true, if_true]
                by_cases h2 : new.length = 0
                · simp [exk, h2]
                · simp only [h2, decide_false, cond_false, if_false]
                  rw [storeK_iff]
                  cases storeV h b (o + len * j.size) new <;> simp [exk]
              · simp only [h1, decide_false, cond_false, if_false]
                cases roomOk j (len + n) with
                | false => simp [exk]
                | true =>
                  simp only [cond_true, if_true]
                  cases h.get b with
                  | none => simp [exk]
                  | some ob =>
                    cases ob with
                    | dead => simp [exk]
                    | loop => simp [exk]
                    | cells cs e' rw lo hi =>
                      try simp only []
                      cases sub? cs o (len * j.size) with
                      | none => simp [exk]
                      | some old =>
                        try simp only []
                        by_cases h3 : fz = 0
                        · simp [exk, h3, forceK_eq, H.newK_eq]
                        · simp only [h3, decide_false, cond_false, if_false]
                          cases rw with
                          | false => simp [exk]
                          | true =>
                            by_cases h4 : e' = e
                            · by_cases h5 : fz = j.size
                              · cases allOne new with
                                | false => simp [exk, h4, h5]
                                | true =>
                                  simp only [h4, h5, decide_true, cond_true, true_and]
                                  by_cases h6 : hi ≤ lo
                                  · simp [exk, h6, forceK_eq, killK, H.setK_eq, H.newK_eq]; exact Iff.rfl
                                  · by_cases h7 : cap = 0
                                    · simp [exk, h6, h7]
                                    · by_cases h8 : hi ≤ o + len * j.size
                                      · simp [exk, h6, h7, h8, forceK_eq, killK, H.setK_eq, H.newK_eq]; exact Iff.rfl
                                      · simp [exk, h6, h7, h8]
                              · simp [exk, h4, h5]
                            · simp [exk, h4]

theorem HR.kill {φ : Phi} {h : H} {w : World} (hr : HR φ h w) (b : Nat) : Fr φ h w φ (h.upd b .dead) w ∧ HR φ (h.upd b .dead) w := by
  refine ⟨⟨.refl φ, fun _ _ e e' => (by rw [e] at e'; cases e'), Nat.le_refl _, Nat.le_refl _, rfl, rfl, rfl, fun rb _ hn => ⟨rfl, fun ⟨b', l, o, hg, hrw, hφ, hrb⟩ => ?_⟩, fun rb _ ⟨b', l, o, hg, hlv, hφ, hrb⟩ => ?_, fun _ r h => ⟨r, h⟩⟩, ⟨fun b' o l hg hφ => ?_, fun b1 b2 o1 o2 l1 l2 h1 h2 p1 p2 hrb hl1 hl2 hrw => ?_, hr.fix⟩⟩
  · rcases H.get_upd hg with ⟨_, rfl⟩ | ⟨_, hg'⟩
    · cases hrw
    · exact hn ⟨b', l, o, hg', hrw, hφ, hrb⟩
  · rcases H.get_upd hg with ⟨_, rfl⟩ | ⟨_, hg'⟩
    · cases hlv
    · exact ⟨b', l, o, hg', hlv, hφ, hrb⟩
  · rcases H.get_upd hg with ⟨_, rfl⟩ | ⟨_, hg'⟩
    · trivial
    · exact hr.obj b' o l hg' hφ
  · rcases H.get_upd h1 with ⟨_, rfl⟩ | ⟨_, h1'⟩
    · cases hl1
    · rcases H.get_upd h2 with ⟨_, rfl⟩ | ⟨_, h2'⟩
      · cases hl2
      · exact hr.inj b1 b2 o1 o2 l1 l2 h1' h2' p1 p2 hrb hl1 hl2 hrw

/-- How the model grows a slice: a new block. -/
theorem grow_run {P : Program} {φ : Phi} {w : World} {ty xty type : TypeId} {ts : List TypeId} {e : TypeId} {inf : TypeInfo} {base : Option Addr} {sLen sCap n : Nat} {x' : Value} {old new : Array Value} {oldV newV : List V} {size lo hi : Nat}
    (hty : P.underlying ty = some (.slice e)) (hx : ∃ d, P.underlying xty = some d ∧ ∀ k, d ≠ .int k) (hinf : P.info? e = some inf) (hsz : inf.size = size) (hroom : 0 < inf.size ∧ (∃ z', inf.zero = some z' ∧ z'.cells.size = inf.size) ∧ (2 * (sLen + n) + 768) * (inf.bytes + 1) ≤ 140737488355328)
    (hn : ∀ w, (Builtin.lenOf x').run P w = .ok n w) (hlt : sCap < sLen + n)
    (hold : ∀ d, (Builtin.firstCells size sLen (.slice base sLen sCap)).run P { w with drawn := d } = .ok old { w with drawn := d }) (hnew : ∀ d, (Builtin.firstCells size n x').run P { w with drawn := d } = .ok new { w with drawn := d })
    (ho : rels φ oldV old.toList) (hw : rels φ newV new.toList) (hlen : oldV.length + newV.length = (sLen + n) * size) :
    ∃ w' y cs el c fr, (Builtin.append_ (ty :: xty :: ts).toArray type #[.slice base sLen sCap, x']).run P w = .ok y w' ∧ NewB φ (.cells (oldV ++ newV) e true lo hi) (fun b => .slice b 0 (sLen + n) (sLen + n) size) w w' y cs el c fr := by
  obtain ⟨d, hd, hnint⟩ := hx
  obtain ⟨hpos, ⟨z', hz', hzs⟩, hb⟩ := hroom
  subst hsz
  generalize hcap : (Question.appendCap (sLen + n) sCap e).cut (w.tape w.drawn (.appendCap (sLen + n) sCap e)) = cap
  have hle : sLen + n ≤ cap := by rw [← hcap]; simp only [Question.cut]; omega
  have hnext := next_le (sLen + n) sCap hlt
  have hbytes : ¬ (Builtin.nextslicecap (sLen + n) sCap * inf.bytes > 2 ^ 48) := by
    have h1 : Builtin.nextslicecap (sLen + n) sCap * inf.bytes ≤ (2 * (sLen + n) + 768) * (inf.bytes + 1) := Nat.mul_le_mul hnext (by omega)
    omega
  have hmaxi : ¬ ((((sLen + n : Nat) : Int) > IntKind.i64.max) ∧ ((false = true) ∨ inf.bytes = 0)) := by
    have h1 : (2 * (sLen + n) + 768) * 1 ≤ (2 * (sLen + n) + 768) * (inf.bytes + 1) := Nat.mul_le_mul_left _ (by omega)
    have e : IntKind.i64.max = 9223372036854775807 := by decide
    rw [e]; omega
  have hol := ho.length
  have hwl := hw.length
  simp only [Array.length_toList] at hol hwl
  let c : Array Value := old ++ new ++ Builtin.zeroCells z'.cells (cap - (sLen + n))
  have hcs : c.size = cap * inf.size := by
    simp only [c, Array.size_append, Builtin.zeroCells, Array.size_map, Array.size_range, hzs]
    rw [Nat.sub_mul]
    have : (sLen + n) * inf.size ≤ cap * inf.size := Nat.mul_le_mul_right _ hle
    omega
  refine ⟨{ w with heap := w.heap.push (.cells c e), drawn := w.drawn + 1 }, .slice (some ⟨w.heap.size, 0, none⟩) (sLen + n) cap, oldV ++ newV, e, c, (0, 0), ?_, ⟨rfl, rfl, rfl, rfl, ⟨lo, hi, rfl, fun _ _ i _ _ h => by simp at h⟩, ?_, fun i v hv => ?_, fun i _ _ h => by simp at h, fun ψ b _ hψ => ?_⟩⟩
  · have hf : (Question.appendCap (sLen + n) sCap e).forced = false := rfl
    have g0 : (ty :: xty :: ts).toArray[0]? = some ty := by simp
    have g1 : (ty :: xty :: ts).toArray[1]? = some xty := by simp
    have hnle : ¬ (sLen + n ≤ sCap) := by omega
    have hold1 := hold w.drawn
    have hold2 := hold (w.drawn + 1)
    have hnew2 := hnew (w.drawn + 1)
    have hmax2 : ¬ ((((sLen + n : Nat) : Int) > IntKind.i64.max) ∧ (inf.bytes = 0)) := fun h => hmaxi ⟨h.1, .inr h.2⟩
    unfold Builtin.append_
    cases d <;> first
      | exact absurd rfl (hnint _)
      | (simp only [g0, g1, List.getElem?_toArray, List.getElem?_cons_zero, List.getElem?_cons_succ, Sem.run_bind, run_underlying hty, Result.andThen_ok, run_sizeOf' hinf, run_underlying hd, Sem.run_pure, Bool.false_eq_true, if_false, hn, Sem.run_ite, hnle, run_typeInfo _ hinf, false_or, hmax2, hbytes, run_choose, hf, hcap, run_askRoom, Bool.not_false, if_true]
         simp only [hold2, hnew2, Result.andThen_ok, zero_ok hinf hz', Sem.run_bind, newRow, run_newObj, Sem.run_pure]
         rfl)
  · simp only [List.length_append, hcs]
    have : (sLen + n) * inf.size ≤ cap * inf.size := Nat.mul_le_mul_right _ hle
    omega
  · obtain ⟨y, hy, hyr⟩ := (ho.append hw).get i v hv
    refine ⟨y, ?_, hyr⟩
    simp only [c]
    rw [Array.getElem?_append_left]
    · rw [← Array.getElem?_toList]; simpa using hy
    · have := (List.getElem?_eq_some_iff.1 hy).1
      simpa using this
  · rw [hcs] at hψ
    exact ⟨_, 0, cap, hψ, rfl, Nat.le_refl _, hle, fun h => by omega, fun _ => by show 0 + cap * inf.size ≤ cap * inf.size; omega, fun _ => rfl, Nat.le_refl _⟩

theorem inplace_run {P : Program} {w : World} {ty xty type : TypeId} {ts : List TypeId} {e : TypeId} {inf : TypeInfo} {base : Option Addr} {sLen sCap n : Nat} {x' : Value} {new : Array Value}
    (hty : P.underlying ty = some (.slice e)) (hx : ∃ d, P.underlying xty = some d ∧ ∀ k, d ≠ .int k) (hinf : P.info? e = some inf)
    (hn : ∀ w, (Builtin.lenOf x').run P w = .ok n w) (hle : sLen + n ≤ sCap) (hnew : (Builtin.firstCells inf.size n x').run P w = .ok new w) :
    (Builtin.append_ (ty :: xty :: ts).toArray type #[.slice base sLen sCap, x']).run P w = match base with
      | some a => ((storeCells (a.add (sLen * inf.size)) new.toList).run P w).andThen fun _ w' => .ok (.slice base (sLen + n) sCap) w'
      | none => .ok (.slice base (sLen + n) sCap) w := by
  obtain ⟨d, hd, hnint⟩ := hx
  have g0 : (ty :: xty :: ts).toArray[0]? = some ty := by simp
  have g1 : (ty :: xty :: ts).toArray[1]? = some xty := by simp
  unfold Builtin.append_
  cases d <;> first
    | exact absurd rfl (hnint _)
    | (simp only [g0, g1, List.getElem?_toArray, List.getElem?_cons_zero, List.getElem?_cons_succ, Sem.run_bind, run_underlying hty, Result.andThen_ok, run_sizeOf' hinf, run_underlying hd, Sem.run_pure, Bool.false_eq_true, if_false, hn, Sem.run_ite, hle, if_true, Bool.not_false, hnew]
       cases base <;> simp only [Sem.run_bind, Sem.run_pure, Result.andThen_ok])

theorem notInt_spec {P : Program} {t : TypeId} {u : Unit} (h : notIntT P t = some u) : ∃ d, P.underlying t = some d ∧ ∀ k, d ≠ .int k := by
  unfold notIntT at h
  cases hj : mkTI P t with
  | none => rw [hj] at h; cases h
  | some j =>
    rw [hj] at h
    obtain ⟨d, hd, hsh⟩ := underlying_of hj
    simp only [hsh] at h
    refine ⟨d, hd, fun k e => ?_⟩
    subst e
    simp [shOf] at h

theorem rel_drawn {φ : Phi} {h : H} {w : World} (hr : HR φ h w) (d : Nat) : HR φ h { w with drawn := d } := ⟨hr.obj, hr.inj, hr.fix⟩

theorem append_ok {P : Program} {φ : Phi} {h h' : H} {w : World} (hr : HR φ h w) {ty xty type : TypeId} {ts : List TypeId} {s x v : V} {s' x' : Value} (hs : rel φ s s') (hx : rel φ x x') (he : appendV P h ty xty s x = some (v, h')) (hf : Free φ h.n h'.n) :
    ∃ φ' w' y, (Builtin.append_ (ty :: xty :: ts).toArray type #[s', x']).run P w = .ok y w' ∧ Fr φ h w φ' h' w' ∧ HR φ' h' w' ∧ rel φ' v y := by
  unfold appendV at he
  cases hi : mkTI P ty with
  | none => rw [hi] at he; cases he
  | some i =>
    rw [hi] at he
    obtain ⟨d, hd, hsh⟩ := underlying_of hi
    simp only [hsh] at he
    split at he
    · rename_i e hshe
      obtain rfl := shOf_slice hshe
      split at he
      · rename_i j u n hj hu hn
        obtain ⟨inf, d', hinf, hd', hsz, hbz, _, _, hz⟩ := mkTI_spec hj
        have hxt := notInt_spec hu
        have hlen := lenOf_ok (P := P) hx hn
        cases hsrc : sourceV h j.size n x with
        | none => rw [hsrc] at he; cases he
        | some new =>
          rw [hsrc] at he
          simp only [] at he
          obtain ⟨xs, hxs, hxr⟩ := source_ok (P := P) hr hx (.inl hn) hsrc
          have hxl := hxr.length
          simp only [Array.length_toList] at hxl
          have hxs0 := hxs
          rw [hsz] at hxs
          have hnl := source_len hsrc
          split at he
          · simp only [rel] at hs; subst hs
            split at he
            · rename_i hn0
              cases he
              subst hn0
              exact ⟨φ, w, .slice none 0 0, inplace_run hd hxt hinf hlen (Nat.le_refl _) (hxs w.drawn), .refl φ h w, hr, rfl⟩
            · rename_i hn0
              split at he
              · rename_i hroom
                cases he
                have hrm := roomOk_spec hbz hsz hz hroom
                obtain ⟨w', y, cs, el, c, fr, hrun, hnew⟩ := grow_run (P := P) (φ := φ) (w := w) (type := type) (ts := ts) (base := none) (sLen := 0) (sCap := 0) (n := n) (old := #[]) (new := xs) (oldV := []) (newV := new) (size := j.size) (lo := 0) (hi := 0) hd hxt hinf hsz.symm
                  (by simpa using hrm) hlen (by omega) (fun _ => rfl) hxs0 (by simp [rels]) hxr (by simpa using hnl)
                obtain ⟨h1, h2, h3⟩ := HR.new hr hnew (hf h.n (Nat.le_refl _) (Nat.lt_succ_self _))
                simp only [Nat.zero_add, List.nil_append] at hrun h1 h2 h3
                exact ⟨_, w', y, hrun, h1, h2, h3⟩
              · cases he
          · rename_i b o len cap fz
            obtain ⟨l, off, cap', hφ, rfl, hle, hcap, hex, htot, hoff, hbase⟩ := hs
            split at he
            · rename_i hneed
              have hin := inplace_run (P := P) (w := w) (type := type) (ts := ts) (base := some ⟨l.rb, off, none⟩) hd hxt hinf hlen (show len + n ≤ cap' by omega) (hxs w.drawn)
              simp only [Addr_add] at hin
              have hval : rel φ (V.slice b o (len + n) cap fz) (.slice (some ⟨l.rb, off, none⟩) (len + n) cap') := ⟨l, off, cap', hφ, rfl, hneed, hcap, hex, htot, hoff, hbase⟩
              split at he
              · rename_i h0
                cases he
                have : xs.toList = [] := List.length_eq_zero_iff.1 (by simp only [Array.length_toList]; omega)
                rw [this] at hin
                exact ⟨φ, w, _, hin, .refl φ h w, hr, hval⟩
              · rename_i h0
                cases hst : storeV h b (o + len * j.size) new with
                | none => rw [hst] at he; cases he
                | some h'' =>
                  rw [hst] at he; cases he
                  have hn0 : n ≠ 0 := fun e => h0 (by rw [hnl, e]; simp)
                  have ho := hoff (.inr (by omega))
                  subst ho
                  obtain ⟨w', hw', hfr, hr'⟩ := store_ok (P := P) hr hφ hxr hst
                  rw [show l.base + o + len * inf.size = l.base + (o + len * j.size) by rw [hsz]; omega, hw'] at hin
                  exact ⟨φ, w', _, hin, hfr, hr', hval⟩
            · rename_i hneed
              split at he
              · rename_i hroom
                have hrm := roomOk_spec hbz hsz hz hroom
                split at he
                · rename_i cs e' rw lo hi hg
                  obtain ⟨c, fr, g1, g2, g3, g4, g5, g6⟩ := hr.obj b _ l hg hφ
                  cases hsub : sub? cs o (len * j.size) with
                  | none => rw [hsub] at he; cases he
                  | some old =>
                    rw [hsub] at he
                    simp only [] at he
                    obtain ⟨hold, holdl⟩ := sub?_eq hsub
                    -- the old cells, as the model reads them
                    have hget : ∀ (q : Nat) (u : V), old[q]? = some u → ∃ x, c[off + q]? = some x ∧ rel φ u x := fun q u hu => by
                      have hlen0 : len ≠ 0 := fun e => by
                        have : old.length = 0 := by rw [holdl, e]; simp
                        rw [List.length_eq_zero_iff.1 this] at hu; simp at hu
                      have ho := hoff (.inr (by omega))
                      rw [hold, List.getElem?_take] at hu
                      split at hu
                      · rw [List.getElem?_drop] at hu
                        obtain ⟨x, hx, hxr⟩ := g4 _ u hu
                        exact ⟨x, by rw [← hx, ho]; congr 1; omega, hxr⟩
                      · cases hu
                    have hrd := fun d => run_loads' (P := P) (φ := φ) (w := { w with drawn := d }) (off := off) g1 hget
                    rw [holdl] at hrd
                    have hfc : ∀ d, (Builtin.firstCells j.size len (.slice (some ⟨l.rb, off, none⟩) len cap')).run P { w with drawn := d } = .ok (readC c off (len * j.size)).toArray { w with drawn := d } := fun d => (hrd d).1
                    have hor : rels φ old (readC c off (len * j.size)).toArray.toList := by simpa using (hrd 0).2
                    have hll : old.length + new.length = (len + n) * j.size := by rw [holdl, hnl, Nat.add_mul]
                    by_cases hfits : len + n ≤ cap'
                    · -- in place: the capacity was not known
                      have hfz : fz ≠ 0 := fun e => hneed (by have := hex e; omega)
                      rw [if_neg hfz] at he
                      split at he
                      · rename_i hc
                        obtain ⟨rfl, rfl, hfj, hone, hfro⟩ := hc
                        cases he
                        have htot' := htot hfz
                        have hin := inplace_run (P := P) (w := w) (type := type) (ts := ts) (base := some ⟨l.rb, off, none⟩) hd hxt hinf hlen hfits (hxs w.drawn)
                        simp only [Addr_add] at hin
                        have hmul : (len + n) * j.size ≤ cap' * fz := by rw [hfj]; exact Nat.mul_le_mul_right _ hfits
                        have hadd : (len + n) * j.size = len * j.size + n * j.size := Nat.add_mul _ _ _
                        obtain ⟨w', c', k1, k2, k3, k4, k5, k6, k7, k8, k9⟩ := run_stores (P := P) (off := off + len * inf.size) xs.toList 0 c w g1 (by rw [← hsz]; simp only [Array.length_toList]; omega) (fun q _ h2 h3 => by
                            simp only [Array.length_toList] at h2
                            have := g5 (off + len * inf.size + q) (by omega) (by rw [← hsz]; omega) h3.1 h3.2
                            rcases hfro with hfro | ⟨hc0, hfro⟩
                            · omega
                            · have := hoff (.inr hc0)
                              rw [← hsz] at *
                              omega) (ones_of hxr hone)
                        rw [k1] at hin
                        obtain ⟨hk1, hk2⟩ := HR.kill hr b
                        let L : Loc := ⟨l.rb, off, l.tot⟩
                        have hfree : φ h.n = none := hf h.n (Nat.le_refl _) (Nat.lt_succ_self _)
                        have hle' := Phi.le_set (l := L) hfree
                        have hcont : ∀ (i : Nat) (u : V), (old ++ new)[i]? = some u → ∃ x, c'[off + i]? = some x ∧ rel φ u x := fun i u hu => by
                          rw [k4]
                          by_cases hi : i < old.length
                          · rw [List.getElem?_append_left hi] at hu
                            rw [if_neg (by rw [← hsz]; omega)]
                            exact hget i u hu
                          · rw [List.getElem?_append_right (by omega)] at hu
                            obtain ⟨x, hx, hxr'⟩ := hxr.get _ u hu
                            have hlt := (List.getElem?_eq_some_iff.1 hx).1
                            refine ⟨x, ?_, hxr'⟩
                            rw [if_pos (by rw [← hsz]; omega), ← hx]
                            congr 1; rw [← hsz]; omega
                        refine ⟨φ.set h.n L, w', _, hin, ⟨hle', fun b' x e1 e2 => ?_, Nat.le_succ _, by omega, k7, k8, k9, fun rb hlt hown => ?_, ?_, fun rb r hr => ⟨r, by rw [k5 rb fun e => (by rw [e, g1] at hr; cases hr)]; exact hr⟩⟩, ⟨?_, ?_, hle' _ _ hr.fix⟩, ?_⟩
                        · unfold Phi.set at e2
                          split at e2
                          · rename_i hb; subst hb; exact ⟨Nat.le_refl _, Nat.lt_succ_self _⟩
                          · rw [e1] at e2; cases e2
                        · have hne : rb ≠ l.rb := fun h' => hown ⟨b, l, _, hg, rfl, hφ, h'.symm⟩
                          refine ⟨k5 rb hne, fun ⟨b', l', o', hg', hrw', hφ', hrb'⟩ => ?_⟩
                          rcases H.get_push hg' with ⟨rfl, rfl⟩ | ⟨hb', hg'⟩
                          · have : φ.set h.n L h.n = some l' := hφ'
                            rw [Phi.set_self] at this; cases this
                            exact hne hrb'.symm
                          · rcases H.get_upd hg' with ⟨_, rfl⟩ | ⟨_, hg'⟩
                            · cases hrw'
                            · have hb'' : b' < h.n := hb'
                              unfold Phi.set at hφ'
                              rw [if_neg (by omega)] at hφ'
                              exact hown ⟨b', l', o', hg', hrw', hφ', hrb'⟩
                        · rintro rb _ ⟨b', l', o', hg', hlv', hφ', hrb'⟩
                          rcases H.get_push hg' with ⟨rfl, rfl⟩ | ⟨hb', hg'⟩
                          · have : φ.set h.n L h.n = some l' := hφ'
                            rw [Phi.set_self] at this; cases this
                            exact ⟨b, l, _, hg, rfl, hφ, hrb'⟩
                          · rcases H.get_upd hg' with ⟨_, rfl⟩ | ⟨_, hg'⟩
                            · cases hlv'
                            · have hb'' : b' < h.n := hb'
                              unfold Phi.set at hφ'
                              rw [if_neg (by omega)] at hφ'
                              exact ⟨b', l', o', hg', hlv', hφ', hrb'⟩
                        · intro b' o' l' hg' hφ'
                          rcases H.get_push hg' with ⟨rfl, rfl⟩ | ⟨hb', hg'⟩
                          · have : φ.set h.n L h.n = some l' := hφ'
                            rw [Phi.set_self] at this; cases this
                            refine ⟨c', fr, k2, by show c'.size = l.tot; omega, by show off + (old ++ new).length ≤ l.tot; rw [List.length_append]; omega, fun i u hu => ?_, fun i hb hic h1 h2 => ?_, fun z1 z2 i hsz9 h1 h2 => ?_⟩
                            · obtain ⟨x, hx, hxr'⟩ := hcont i u hu
                              exact ⟨x, hx, hxr'.mono hle' _ _⟩
                            · have hb : off ≤ i := hb
                              have := g5 i (by omega) (by omega) h1 h2
                              show off + shLo lo hi o ≤ i ∧ i < off + shHi lo hi o
                              rcases hfro with hfro | ⟨hc0, hfro⟩
                              · omega
                              · have := hoff (.inr hc0)
                                have hnle : ¬ hi ≤ lo := by omega
                                have hno : ¬ hi ≤ o := by omega
                                simp only [shLo, shHi, ble_dec, hnle, hno, decide_false, cond_false, Nat.sub_eq]
                                omega
                            · have hz : lo = 0 ∧ hi = 0 := by
                                simp only [shLo, shHi, ble_dec, beq_dec] at z1 z2
                                by_cases k1 : hi ≤ lo
                                · simp only [k1, decide_true, cond_true] at z1 z2
                                  by_cases k2 : Nat.add lo hi = 0
                                  · have k2 : lo + hi = 0 := k2
                                    omega
                                  · simp only [k2, decide_false, cond_false] at z1
                                    cases z1
                                · simp only [k1, decide_false, cond_false] at z1 z2
                                  by_cases k3 : hi ≤ o
                                  · simp only [k3, decide_true, cond_true] at z1
                                    cases z1
                                  · simp only [k3, decide_false, cond_false, Nat.sub_eq] at z2
                                    omega
                              exact g6 hz.1 hz.2 i (by omega) h1 h2
                          · rcases H.get_upd hg' with ⟨_, rfl⟩ | ⟨hbb, hg'⟩
                            · trivial
                            · have hb'' : b' < h.n := hb'
                              unfold Phi.set at hφ'
                              rw [if_neg (by omega)] at hφ'
                              have hobj := hr.obj b' o' l' hg' hφ'
                              refine hobj.mono hle' fun hl => k5 _ fun hrb => ?_
                              exact hbb (hr.inj b b' _ o' l l' hg hg' hφ hφ' hrb.symm rfl hl rfl).symm
                        · intro b1 b2 o1 o2 l1 l2 h1 h2 p1 p2 hrb hl1 hl2 hrw1
                          have old1 : ∀ {b' : Nat} {o' : O} {l' : Loc}, ((h.upd b O.dead).push (.cells (old ++ new) e' true (shLo lo hi o) (shHi lo hi o))).get b' = some o' → (φ.set h.n L) b' = some l' → o'.live = true →
                              (b' = h.n ∧ l' = L) ∨ (b' ≠ h.n ∧ b' ≠ b ∧ h.get b' = some o' ∧ φ b' = some l') := by
                            intro b' o' l' hg' hφ' hl'
                            rcases H.get_push hg' with ⟨rfl, rfl⟩ | ⟨hb', hg'⟩
                            · have : φ.set h.n L h.n = some l' := hφ'
                              rw [Phi.set_self] at this; cases this
                              exact .inl ⟨rfl, rfl⟩
                            · rcases H.get_upd hg' with ⟨_, rfl⟩ | ⟨hbb, hg'⟩
                              · cases hl'
                              · have hb'' : b' < h.n := hb'
                                unfold Phi.set at hφ'
                                rw [if_neg (by omega)] at hφ'
                                exact .inr ⟨by omega, hbb, hg', hφ'⟩
                          rcases old1 h1 p1 hl1 with ⟨e1, e2⟩ | ⟨e1, e2, e3, e4⟩ <;> rcases old1 h2 p2 hl2 with ⟨f1, f2⟩ | ⟨f1, f2, f3, f4⟩
                          · rw [e1, f1]
                          · subst e2
                            exact absurd (hr.inj b b2 _ o2 l l2 hg f3 hφ f4 hrb rfl hl2 rfl).symm f2
                          · subst f2
                            exact absurd (hr.inj b b1 _ o1 l l1 hg e3 hφ e4 hrb.symm rfl hl1 rfl).symm e2
                          · exact hr.inj b1 b2 o1 o2 l1 l2 e3 f3 e4 f4 hrb hl1 hl2 hrw1
                        · refine ⟨L, off, cap', Phi.set_self .., rfl, Nat.le_refl _, hfits, fun h0 => ?_, fun _ => by rw [← hfj]; exact htot', fun _ => rfl, Nat.le_refl _⟩
                          exact absurd (hfj.trans h0) hfz
                      · cases he
                    · -- a new block
                      obtain ⟨w', y, cs', el, c', fr', hrun, hnew⟩ := grow_run (P := P) (φ := φ) (w := w) (type := type) (ts := ts) (base := some ⟨l.rb, off, none⟩) (sLen := len) (sCap := cap') (n := n) (old := (readC c off (len * j.size)).toArray) (new := xs) (oldV := old) (newV := new) (size := j.size)
                        (lo := if fz = 0 then 0 else shLo lo hi o) (hi := if fz = 0 then 0 else shHi lo hi o) hd hxt hinf hsz.symm hrm hlen (by omega) hfc hxs0 hor hxr hll
                      split at he
                      · rename_i hfz
                        cases he
                        simp only [hfz, if_true] at hnew
                        obtain ⟨h1, h2, h3⟩ := HR.new hr hnew (hf h.n (Nat.le_refl _) (Nat.lt_succ_self _))
                        exact ⟨_, w', y, hrun, h1, h2, h3⟩
                      · rename_i hfz
                        split at he
                        · rename_i hc
                          obtain ⟨rfl, rfl, hfj, hone, hfro⟩ := hc
                          cases he
                          simp only [hfz, if_false] at hnew
                          obtain ⟨hk1, hk2⟩ := HR.kill hr b
                          obtain ⟨h1, h2, h3⟩ := HR.new hk2 hnew (hf h.n (Nat.le_refl _) (Nat.lt_succ_self _))
                          exact ⟨_, w', y, hrun, hk1.trans h1, h2, h3⟩
                        · cases he
                · cases he
              · cases he
          · cases he
      · cases he
    · cases he
end Dv
end

section
namespace Dv
open Go
universe u

noncomputable def copyV (P : Program) (h : H) (ty : TypeId) (d x : V) : Option (V × H) :=
  match mkTI P ty with
  | none => none
  | some i =>
    match i.sh with
    | .slice e =>
      match mkTI P e, lenOfV x, lenOfS d with
      | some j, some a, some c =>
        match sourceV h j.size (min a c) x with
        | none => none
        | some cells =>
          if cells.length = 0 then some (.int .i64 (.ofNat (min a c)), h)
          else match d with
            | .slice b o _ _ _ => (storeV h b o cells).map fun h => (.int .i64 (.ofNat (min a c)), h)
            | _ => none
      | _, _, _ => none
    | _ => none

theorem copyK_iff (P : Program) (h : H) (ty : TypeId) (d x : V) (k : V → H → Prop) : copyK Bad P h ty d x k ↔ ∃ v h', copyV P h ty d x = some (v, h') ∧ k v h' := by
  have exk : ∀ (a : V) (b : H), (∃ v h', (a = v ∧ b = h') ∧ k v h') ↔ k a b := fun a b => ⟨fun ⟨v, h', ⟨e1, e2⟩, hk⟩ => by rw [e1, e2]; exact hk, fun hk => ⟨a, b, ⟨rfl, rfl⟩, hk⟩⟩
  unfold copyK copyV
  cases hi : mkTI P ty with
  | none => simp
  | some i =>
    try simp only []
    cases i.sh <;> (try simp only []) <;> try (simp; done)
    rename_i e
    cases hj : mkTI P e with
    | none => simp
    | some j =>
      cases lenOfV x with
      | none => simp
      | some a =>
        cases lenOfS d with
        | none => simp
        | some c =>
          have hmin : (cond (Nat.ble a c) a c) = min a c := by
            rw [ble_dec]; by_cases h : a ≤ c
            · simp [h]
            · simp [h]; omega
          simp only [hmin]
          cases sourceV h j.size (min a c) x with
          | none => simp
          | some cells =>
            simp only [beq_dec, lenL_eq]
            by_cases h0 : cells.length = 0
            · simp [h0, exk]
            · simp only [h0, decide_false, cond_false, if_false]
              cases d <;> (try simp only []) <;> try (simp; done)
              rw [storeK_iff]
              rename_i b o _ _ _
              cases storeV h b o cells <;> simp [exk]

theorem copy_ok {P : Program} {φ : Phi} {h h' : H} {w : World} (hr : HR φ h w) {ty type : TypeId} {ts : List TypeId} {d x v : V} {d' x' : Value} (hd : rel φ d d') (hx : rel φ x x') (he : copyV P h ty d x = some (v, h')) :
    ∃ w' y, (Builtin.copy_ (ty :: ts).toArray type #[d', x']).run P w = .ok y w' ∧ Fr φ h w φ h' w' ∧ HR φ h' w' ∧ rel φ v y := by
  unfold copyV at he
  cases hi : mkTI P ty with
  | none => rw [hi] at he; cases he
  | some i =>
    rw [hi] at he
    obtain ⟨dd, hdd, hsh⟩ := underlying_of hi
    simp only [hsh] at he
    split at he
    · rename_i e hshe
      obtain rfl := shOf_slice hshe
      split at he
      · rename_i j a c hj ha hc
        obtain ⟨inf, d', hinf, hd', hsz, hbz, _, _, hz⟩ := mkTI_spec hj
        have hla := lenOf_ok (P := P) hx ha
        cases hsrc : sourceV h j.size (min a c) x with
        | none => rw [hsrc] at he; cases he
        | some cells =>
          rw [hsrc] at he
          simp only [] at he
          obtain ⟨xs, hxs, hxr⟩ := source_ok (P := P) hr hx (.inr ⟨a, ha, Nat.min_le_left _ _⟩) hsrc
          have hxs := hxs w.drawn
          have hxl := hxr.length
          simp only [Array.length_toList] at hxl
          have g0 : (ty :: ts).toArray[0]? = some ty := by simp
          rw [hsz] at hxs
          have main : ∀ (base : Option Addr) (cap : Nat), (Builtin.copy_ (ty :: ts).toArray type #[.slice base c cap, x']).run P w = match base with
              | some a' => ((storeCells a' xs.toList).run P w).andThen fun _ w' => .ok (goInt (min a c : Nat)) w'
              | none => .ok (goInt (min a c : Nat)) w := by
            intro base cap
            have hm : Nat.min a c = min a c := rfl
            unfold Builtin.copy_
            simp only [g0, List.getElem?_toArray, List.getElem?_cons_zero, List.getElem?_cons_succ, Sem.run_bind, run_underlying hdd, Result.andThen_ok, hla, run_sizeOf' hinf, Sem.run_pure]
            rw [hm]
            have e : (Builtin.firstCells inf.size (min a c) x').run P w = .ok xs w := hxs
            rw [e]
            cases base <;> simp only [Result.andThen_ok, Sem.run_bind, Sem.run_pure]
          cases d <;> simp only [lenOfS, Option.some.injEq] at hc <;> try (cases hc; done)
          · simp only [rel] at hd; subst hd
            subst hc
            split at he
            · cases he
              exact ⟨w, _, main none 0, .refl φ h w, hr, rfl⟩
            · cases he
          · rename_i b o len cap fz
            subst hc
            obtain ⟨l, off, cap', hφ, rfl, hle, hcap, hex, htot, hoff, hbase⟩ := hd
            split at he
            · rename_i h0
              cases he
              have : xs.toList = [] := List.length_eq_zero_iff.1 (by simp only [Array.length_toList]; omega)
              have hm := main (some ⟨l.rb, off, none⟩) cap'
              rw [this] at hm
              exact ⟨w, _, hm, .refl φ h w, hr, rfl⟩
            · rename_i h0
              simp only [] at he
              cases hst : storeV h b o cells with
              | none => rw [hst] at he; cases he
              | some h'' =>
                rw [hst] at he; cases he
                have hl := source_len hsrc
                have hn0 : min a len ≠ 0 := fun e => h0 (by rw [hl, e]; simp)
                have ho := hoff (.inr (by omega))
                subst ho
                obtain ⟨w', hw', hfr, hr'⟩ := store_ok (P := P) hr hφ hxr hst
                have hm := main (some ⟨l.rb, l.base + o, none⟩) cap'
                simp only [] at hm
                rw [hw'] at hm
                exact ⟨w', _, hm, hfr, hr', rfl⟩
      · cases he
    · cases he
end Dv
end
