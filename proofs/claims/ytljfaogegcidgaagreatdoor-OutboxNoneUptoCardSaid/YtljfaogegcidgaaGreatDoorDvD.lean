/-
  The operations that look at no memory answer as the model's do.
-/
import Derived.Test.YtljfaogegcidgaaGreatDoorDvC
section
namespace Dv
open Go

theorem bytesOf_extract (s : ByteArray) (l h : Nat) : bytesOf (s.extract l h) = ((bytesOf s).drop l).take (h - l) := by
  unfold bytesOf
  rw [ByteArray.data_extract]
  simp [List.map_drop, List.map_take, List.extract]

theorem boundsV_le {len cap : Nat} {lo hi mx : Option V} {l h m : Nat} (hle : len ≤ cap) (he : boundsV len cap lo hi mx = some (l, h, m)) : l ≤ h ∧ h ≤ m ∧ m ≤ cap := by
  have key : ∀ {y d n : Nat} {o : Option V}, d ≤ y → boundV y o d = some n → n ≤ y := by
    intro y d n o hd h
    cases o with
    | none => simp only [boundV] at h; cases h; exact hd
    | some o => cases o with
      | int k m => cases m with
        | ofNat m =>
          simp only [boundV, ble_dec] at h
          by_cases hm : m ≤ y
          · simp only [hm, decide_true, cond_true] at h; cases h; exact hm
          · simp only [hm, decide_false, cond_false] at h; cases h
        | negSucc m => simp [boundV] at h
      | _ => simp [boundV] at h
  unfold boundsV at he
  cases hm1 : boundV cap mx cap with
  | none => rw [hm1] at he; cases he
  | some m1 =>
    rw [hm1] at he
    have h1 := key (Nat.le_refl _) hm1
    simp only [] at he
    split at he
    · cases he
    · rename_i hnot
      cases hh1 : boundV m1 hi len with
      | none => rw [hh1] at he; cases he
      | some h1' =>
        rw [hh1] at he
        simp only [] at he
        have hhm : h1' ≤ m1 := by
          cases hi with
          | none =>
            cases mx with
            | none => simp only [boundV] at hm1 hh1; cases hm1; cases hh1; exact hle
            | some _ => exact (hnot _ rfl rfl).elim
          | some oh =>
            cases oh with
            | int k n => cases n with
              | ofNat n =>
                simp only [boundV, ble_dec] at hh1
                by_cases hn : n ≤ m1
                · simp only [hn, decide_true, cond_true] at hh1; cases hh1; exact hn
                · simp only [hn, decide_false, cond_false] at hh1; cases hh1
              | negSucc n => simp [boundV] at hh1
            | _ => simp [boundV] at hh1
        cases hl1 : boundV h1' lo 0 with
        | none => rw [hl1] at he; cases he
        | some l1 =>
          rw [hl1] at he
          cases he
          exact ⟨key (Nat.zero_le _) hl1, hhm, h1⟩

theorem sliceV_ok {P : Program} {φ : Phi} {t : TypeId} {x : V} {x' : Value} {lo hi mx : Option V} {lo' hi' mx' : Option Value} {v : V} (hx : rel φ x x') (hlo : relO φ lo lo') (hhi : relO φ hi hi') (hmx : relO φ mx mx')
    (h : sliceV P t x lo hi mx = some v) : Yw P φ (Instr.sliceAt t x' lo' hi' mx') v := by
  unfold sliceV at h
  cases hi0 : mkTI P t with
  | none => rw [hi0] at h; cases h
  | some i =>
    rw [hi0] at h
    obtain ⟨d, hd, hsh⟩ := underlying_of hi0
    simp only [hsh] at h
    split at h
    · rename_i e
      obtain rfl := shOf_str e
      obtain ⟨s, rfl, rfl⟩ := hx
      cases mx with
      | some _ => cases h
      | none =>
        simp only [relO] at hmx; subst hmx
        simp only [] at h
        split at h
        · rename_i l hh m he
          cases h
          simp only [lenL_eq, bytesOf_length] at he
          obtain ⟨m', hb, _⟩ := boundsV_ok (P := P) (isSlice := false) (cap' := s.size) hlo hhi (by rfl : relO φ none none) (Nat.le_refl _) he
          refine ⟨.string (s.extract l hh), fun w => ?_, _, rfl, ?_⟩
          · unfold Instr.sliceAt
            simp only [Sem.run_bind, run_underlying hd, Result.andThen_ok, Instr.slice]
            simp [hb]
          · rw [bytesOf_extract, takeN_eq, dropN_eq]; rfl
        · cases h
    · rename_i el b o len cap fz e
      obtain rfl := shOf_slice e
      obtain ⟨L, off, cap', hφ, rfl, hle, hcap, hex, htot, hoff, hbase⟩ := hx
      split at h
      · rename_i l hh m size he hs
        cases hj : mkTI P el with
        | none => simp [sizeT, hj] at hs
        | some j =>
          obtain ⟨inf', _, h1', _, h3', _⟩ := mkTI_spec hj
          simp only [sizeT, hj, Option.map_some, Option.some.injEq] at hs
          have hsz : inf'.size = size := by omega
          cases hfz : (Nat.beq fz 0 || (Nat.beq fz size && !(mx.isSome && Nat.beq cap 0))) with
          | false => rw [hfz] at h; cases h
          | true =>
            rw [hfz] at h
            simp only [cond_true] at h
            cases h
            simp only [Bool.or_eq_true, Bool.and_eq_true, Bool.not_eq_true', Bool.and_eq_false_iff, beq_dec, decide_eq_true_eq, decide_eq_false_iff_not] at hfz
            obtain ⟨m', hb, hm1, hm2⟩ := boundsV_ok (P := P) (isSlice := true) (len := len) hlo hhi hmx hcap he
            obtain ⟨hlh, hhm, hmc⟩ := boundsV_le hle he
            have hrun : ∀ w, (Instr.sliceAt t (.slice (some ⟨L.rb, off, none⟩) len cap') lo' hi' mx').run P w = .ok (.slice (some ⟨L.rb, if m' = l then off else off + l * size, none⟩) (hh - l) (m' - l)) w := fun w => by
              unfold Instr.sliceAt
              simp only [Sem.run_bind, run_underlying hd, Result.andThen_ok, Instr.slice, hb w, run_sizeOf' h1', Sem.run_pure, Option.map_some, Addr_add, hsz]
              by_cases hml : m' = l <;> simp [hml]
            refine ⟨_, hrun, L, _, _, hφ, rfl, by show hh - l ≤ m - l; omega, ?_⟩
            have e1 : Nat.sub m l = m - l := rfl
            have e2 : Nat.mul l size = l * size := rfl
            have e3 : Nat.add o (Nat.mul l size) = o + l * size := rfl
            simp only [e1, e3, beq_dec]
            cases mx with
            | some _ =>
              have := hm1 rfl; subst this
              refine ⟨Nat.le_refl _, fun _ => rfl, fun h => absurd rfl h, fun _ => ?_, by split <;> omega⟩
              by_cases hml : m' = l
              · simp only [hml, decide_true, cond_true, if_true]
                refine hoff ?_
                rcases hfz with h | ⟨_, h | h⟩
                · exact .inl h
                · cases h
                · exact .inr h
              · simp only [hml, decide_false, cond_false, if_false]
                have : cap ≠ 0 := by omega
                have := hoff (.inr this)
                omega
            | none =>
              obtain ⟨rfl, rfl⟩ := hm2 rfl
              simp only [Option.isSome_none, cond_false]
              refine ⟨by omega, fun h => by have := hex h; omega, fun h => ?_, fun h => ?_, by split <;> omega⟩
              · have h0 : fz = size := (hfz.resolve_left h).1
                have := htot h
                subst h0
                by_cases hml : m' = l
                · simp [hml]; subst hml; omega
                · simp only [hml, if_false]
                  have : (m' - l) * fz = m' * fz - l * fz := Nat.sub_mul _ _ _
                  have : l * fz ≤ m' * fz := Nat.mul_le_mul_right _ (by omega)
                  omega
              · by_cases hml : m = l
                · have hfz0 : fz = 0 := by rcases h with h | h; exact h; omega
                  have := hex hfz0
                  have hml' : m' = l := by omega
                  simp only [hml, hml', decide_true, cond_true, if_true]
                  exact hoff (.inl hfz0)
                · have hml' : m' ≠ l := by omega
                  simp only [hml, hml', decide_false, cond_false, if_false]
                  have := hoff (.inr (by omega))
                  omega
      · cases h
    · rename_i el e
      obtain rfl := shOf_slice e
      simp only [rel] at hx; subst hx
      split at h
      · rename_i r sz he hs
        cases h
        obtain ⟨l, hh, m⟩ := r
        obtain ⟨hlh, hhm, hmc⟩ := boundsV_le (Nat.le_refl _) he
        obtain ⟨m', hb, hm1, hm2⟩ := boundsV_ok (P := P) (isSlice := true) (cap' := 0) hlo hhi hmx (Nat.le_refl _) he
        have hm' : m' = 0 := by
          cases mx with
          | some _ => have := hm1 rfl; omega
          | none => exact (hm2 rfl).2
        have hl0 : l = 0 := by omega
        have hh0 : hh = 0 := by omega
        subst hm' hl0 hh0
        cases hj : mkTI P el with
        | none => simp [sizeT, hj] at hs
        | some j =>
          obtain ⟨inf, _, hsz, _⟩ := mkTI_spec hj
          exact ⟨.slice none 0 0, fun w => by
            unfold Instr.sliceAt
            simp [run_underlying hd, Instr.slice, hb w, run_sizeOf' hsz], rfl⟩
      · cases h
    · rename_i n el b o e
      obtain rfl := shOf_arr e
      obtain ⟨L, hφ, rfl⟩ := hx
      split at h
      · rename_i l hh m size he hs
        cases h
        cases hj : mkTI P el with
        | none => simp [sizeT, hj] at hs
        | some j =>
          obtain ⟨inf', _, h1', _, h3', _⟩ := mkTI_spec hj
          simp only [sizeT, hj, Option.map_some, Option.some.injEq] at hs
          have hsz : inf'.size = size := by omega
          obtain ⟨m', hb, hm1, hm2⟩ := boundsV_ok (P := P) (isSlice := false) (cap' := n) hlo hhi hmx (Nat.le_refl _) he
          obtain ⟨hlh, hhm, hmc⟩ := boundsV_le (Nat.le_refl _) he
          have hm' : m' = m := by
            cases mx with
            | some _ => exact hm1 rfl
            | none => have := hm2 rfl; omega
          subst hm'
          refine ⟨.slice (some ⟨L.rb, if m' = l then L.base + o else L.base + o + l * size, none⟩) (hh - l) (m' - l), fun w => ?_, L, _, _, hφ, rfl, by show hh - l ≤ m' - l; omega, Nat.le_refl _, fun _ => rfl, fun h => absurd rfl h, fun _ => ?_, by split <;> omega⟩
          · unfold Instr.sliceAt
            simp only [Sem.run_bind, run_underlying hd, Result.andThen_ok, Instr.sureAddr, Sem.run_pure, hb w, run_sizeOf' h1', Addr_add, hsz]
            by_cases hml : m' = l <;> simp [hml]
          · have e3 : Nat.add o (Nat.mul l size) = o + l * size := rfl
            simp only [e3, beq_dec]
            by_cases hml : m' = l
            · simp [hml]
            · simp only [hml, decide_false, cond_false, if_false]; omega
      · cases h
    · cases h

theorem fieldAddrV_ok {P : Program} {φ : Phi} {t : TypeId} {x : V} {x' : Value} {f : Nat} {v : V} (hx : rel φ x x') (h : fieldAddrV P t x f = some v) : Yw P φ (Instr.fieldAt t x' f) v := by
  unfold fieldAddrV at h
  split at h
  · rename_i i b o hi
    obtain ⟨d, hd, hsh⟩ := underlying_of hi
    rw [hsh] at h
    split at h
    · rename_i fs e
      obtain ⟨gs, rfl, hgs⟩ := shOf_strct e
      rw [nth_eq] at h
      split at h
      · rename_i off ft hn
        split at h
        · rename_i k hs
          cases h
          rw [← hgs, List.getElem?_map] at hn
          cases hg : gs.toList[f]? with
          | none => rw [hg] at hn; cases hn
          | some g =>
            rw [hg] at hn; cases hn
            obtain ⟨L, hφ, rfl⟩ := hx
            cases hj : mkTI P g.type with
            | none => simp [sizeT, hj] at hs
            | some j =>
              obtain ⟨inf', _, h1', _, h3', _⟩ := mkTI_spec hj
              simp only [sizeT, hj, Option.map_some, Option.some.injEq] at hs
              have hg' : gs[f]? = some g := by simpa using hg
              have hne : ¬ inf'.size = 0 := by omega
              refine ⟨.pointer (some ⟨L.rb, L.base + (o + g.offset), none⟩), fun w => ?_, L, hφ, rfl⟩
              unfold Instr.fieldAt
              simp only [Sem.run_bind, run_underlying hd, Result.andThen_ok, hg', Instr.sureAddr, Sem.run_pure, fieldPlace, run_sizeOf' h1', Sem.run_ite, Addr_add, hne, if_false, Nat.add_assoc]
        · cases h
      · cases h
    · cases h
  · cases h

theorem fieldV_ok {P : Program} {φ : Phi} {t : TypeId} {x : V} {x' : Value} {f : Nat} {v : V} (hx : rel φ x x') (h : fieldV P t x f = some v) : Yw P φ (Instr.field t x' f) v := by
  unfold fieldV at h
  split at h
  · rename_i i cs hi
    obtain ⟨d, hd, hsh⟩ := underlying_of hi
    rw [hsh] at h
    split at h
    · rename_i fs e
      obtain ⟨gs, rfl, hgs⟩ := shOf_strct e
      rw [nth_eq] at h
      split at h
      · rename_i off ft hn
        split at h
        · rename_i j hj
          rw [← hgs, List.getElem?_map] at hn
          cases hg : gs.toList[f]? with
          | none => rw [hg] at hn; cases hn
          | some g =>
            rw [hg] at hn; cases hn
            obtain ⟨cs', rfl, hr⟩ := hx
            obtain ⟨y, hy, hyr⟩ := run_part hj hr h
            have hg' : gs[f]? = some g := by simpa using hg
            refine ⟨y, fun w => ?_, hyr⟩
            unfold Instr.field
            simp only [Sem.run_bind, run_underlying hd, Result.andThen_ok, hg', asAgg, Sem.run_pure, hy]
        · cases h
      · cases h
    · cases h
  · cases h

theorem indexAddrV_ok {P : Program} {φ : Phi} {t : TypeId} {x ix : V} {x' ix' : Value} {v : V} (hx : rel φ x x') (hix : rel φ ix ix') (h : indexAddrV P t x ix = some v) : Yw P φ (Instr.indexAt t x' ix') v := by
  unfold indexAddrV at h
  split at h
  · rename_i i k n hi
    simp only [rel] at hix; subst hix
    obtain ⟨d, hd, hsh⟩ := underlying_of hi
    rw [hsh] at h
    split at h
    · rename_i len el b o e
      obtain rfl := shOf_arr e
      obtain ⟨L, hφ, rfl⟩ := hx
      split at h
      · rename_i size hs
        rw [blt_dec] at h
        by_cases hn : n < len
        · simp only [hn, decide_true, cond_true] at h; cases h
          cases hj : mkTI P el with
          | none => simp [sizeT, hj] at hs
          | some j =>
            obtain ⟨inf', _, h1', _, h3', _⟩ := mkTI_spec hj
            simp only [sizeT, hj, Option.map_some, Option.some.injEq] at hs
            have hsz : inf'.size = size := by omega
            refine ⟨.pointer (some ⟨L.rb, L.base + (o + n * size), none⟩), fun w => ?_, L, hφ, rfl⟩
            unfold Instr.indexAt
            have hcond : (0 ≤ (n : Int) ∧ (n : Int) < (len : Int)) := ⟨by omega, by omega⟩
            simp only [Sem.run_bind, run_underlying hd, Result.andThen_ok, asIntOf, Sem.run_pure, Instr.sureAddr, hcond, and_self, if_true, run_sizeOf' h1', Addr_add, hsz, Int.toNat_natCast, Int.ofNat_eq_natCast, Nat.add_assoc]
        · simp only [hn, decide_false, cond_false] at h; cases h
      · cases h
    · rename_i el b o len cap fz e
      obtain rfl := shOf_slice e
      obtain ⟨L, off, cap', hφ, rfl, hle, hcap, hex, htot, hoff, hbase⟩ := hx
      split at h
      · rename_i size hs
        rw [blt_dec] at h
        by_cases hn : n < len
        · simp only [hn, decide_true, cond_true] at h; cases h
          cases hj : mkTI P el with
          | none => simp [sizeT, hj] at hs
          | some j =>
            obtain ⟨inf', _, h1', _, h3', _⟩ := mkTI_spec hj
            simp only [sizeT, hj, Option.map_some, Option.some.injEq] at hs
            have hsz : inf'.size = size := by omega
            have ho := hoff (.inr (by omega))
            subst ho
            refine ⟨.pointer (some ⟨L.rb, L.base + (o + n * size), none⟩), fun w => ?_, L, hφ, rfl⟩
            unfold Instr.indexAt
            have hcond : (0 ≤ (n : Int) ∧ (n : Int) < (len : Int)) := ⟨by omega, by omega⟩
            simp only [Sem.run_bind, run_underlying hd, Result.andThen_ok, asIntOf, Sem.run_pure, hcond, and_self, if_true, run_sizeOf' h1', Addr_add, hsz, Int.toNat_natCast, Int.ofNat_eq_natCast, Nat.add_assoc]
        · simp only [hn, decide_false, cond_false] at h; cases h
      · cases h
    · cases h
  · cases h

theorem indexV_ok {P : Program} {φ : Phi} {t : TypeId} {x ix : V} {x' ix' : Value} {v : V} (hx : rel φ x x') (hix : rel φ ix ix') (h : indexV P t x ix = some v) : Yw P φ (Instr.index t x' ix') v := by
  unfold indexV at h
  split at h
  · rename_i i k n hi
    simp only [rel] at hix; subst hix
    obtain ⟨d, hd, hsh⟩ := underlying_of hi
    rw [hsh] at h
    split at h
    · rename_i len el cs e
      obtain rfl := shOf_arr e
      obtain ⟨cs', rfl, hr⟩ := hx
      split at h
      · rename_i j hj
        rw [blt_dec] at h
        by_cases hn : n < len
        · simp only [hn, decide_true, cond_true] at h
          obtain ⟨y, hy, hyr⟩ := run_part hj hr h
          obtain ⟨inf', _, h1', _, h3', _⟩ := mkTI_spec hj
          refine ⟨y, fun w => ?_, hyr⟩
          unfold Instr.index
          have hcond : (0 ≤ (n : Int) ∧ (n : Int) < (len : Int)) := ⟨by omega, by omega⟩
          have hy' := hy w
          rw [h3'] at hy'
          simp only [Sem.run_bind, run_underlying hd, Result.andThen_ok, asIntOf, Sem.run_pure, hcond, and_self, if_true, run_sizeOf' h1', Int.ofNat_eq_natCast, Int.toNat_natCast]
          exact hy'
        · simp only [hn, decide_false, cond_false] at h; cases h
      · cases h
    · rename_i l e
      obtain rfl := shOf_str e
      obtain ⟨s, rfl, rfl⟩ := hx
      rw [nth_eq] at h
      cases hc : (bytesOf s)[n]? with
      | none => rw [hc] at h; cases h
      | some c =>
        rw [hc] at h; cases h
        unfold bytesOf at hc
        rw [List.getElem?_map] at hc
        cases hb : s.data.toList[n]? with
        | none => rw [hb] at hc; cases hc
        | some b =>
          rw [hb] at hc; cases hc
          have hs : s[n]? = some b := by
            have : s.data[n]? = some b := by simpa using hb
            have hlt : n < s.size := (Array.getElem?_eq_some_iff.1 this).1
            have hget : s[n] = b := (Array.getElem?_eq_some_iff.1 this).2
            rw [getElem?_pos s n hlt, hget]
          refine ⟨.int .u8 b.toNat, fun w => ?_, rfl⟩
          unfold Instr.index
          simp only [Sem.run_bind, run_underlying hd, Result.andThen_ok, asIntOf, Sem.run_pure, Int.ofNat_eq_natCast, Int.toNat_natCast]
          simp [hs]
    · cases h
  · cases h

theorem convertV_ok {P : Program} {φ : Phi} {s d : TypeId} {x : V} {x' : Value} {v : V} (hx : rel φ x x') (h : convertV P s d x = some v) : Yw P φ (convert s d x') v := by
  unfold convertV at h
  split at h
  · rename_i i j hi hj
    obtain ⟨d1, hd1, hs1⟩ := underlying_of hi
    obtain ⟨d2, hd2, hs2⟩ := underlying_of hj
    rw [hs1, hs2] at h
    split at h
    · rename_i k0 k1 k2 n e1 e2
      obtain rfl := shOf_int e1
      obtain rfl := shOf_int e2
      simp only [rel] at hx; subst hx
      cases h
      exact ⟨.int k1 (k1.wrap n), fun w => by simp [convert, run_underlying hd1, run_underlying hd2, Conv.intToInt], by rw [wrapD_eq]; rfl⟩
    · rename_i e1 e2
      obtain rfl := shOf_str e1
      obtain rfl := shOf_str e2
      obtain ⟨s', rfl, rfl⟩ := hx
      cases h
      exact ⟨.string s', fun w => by simp [convert, run_underlying hd1, run_underlying hd2], s', rfl, rfl⟩
    · cases h
  · cases h

theorem least_some : ∀ {l : List String}, l ≠ [] → ∃ s, Instr.least l = some s
  | [], h => absurd rfl h
  | _ :: _, _ => ⟨_, rfl⟩

theorem missing_none {want : Array (String × TypeId)} {got : Array Method} (h : (want.toList.all fun m => got.any fun g => g.name == m.1 && g.sig == m.2) = true) : Instr.missingMethod want got = none := by
  have hm : (want.toList.filter fun (name, sig) => !got.any fun m => m.name == name && m.sig == sig) = [] := by
    rw [List.filter_eq_nil_iff]
    intro x hx
    have := List.all_eq_true.1 h x hx
    simp [this]
  unfold Instr.missingMethod
  simp only [hm]
  rfl

theorem missing_some {want : Array (String × TypeId)} {got : Array Method} (h : (want.toList.all fun m => got.any fun g => g.name == m.1 && g.sig == m.2) = false) : ∃ s, Instr.missingMethod want got = some s := by
  obtain ⟨x, hx, hb⟩ := List.all_eq_false.1 h
  have hne : ((want.toList.filter fun (name, sig) => !got.any fun m => m.name == name && m.sig == sig).map (·.1)) ≠ [] := by
    intro e
    have : x ∈ (want.toList.filter fun (name, sig) => !got.any fun m => m.name == name && m.sig == sig) := List.mem_filter.2 ⟨hx, by simpa using hb⟩
    rw [List.map_eq_nil_iff] at e
    rw [e] at this; cases this
  unfold Instr.missingMethod
  generalize ((want.toList.filter fun (name, sig) => !got.any fun m => m.name == name && m.sig == sig).map (·.1)) = miss at hne
  simp only []
  cases hp : miss.partition (·.contains (Char.ofNat (nat_lit 46))) with
  | mk u e =>
    simp only []
    cases e with
    | cons a l => exact ⟨_, rfl⟩
    | nil =>
      have hu : u ≠ [] := by
        intro hu
        subst hu
        have := hp
        rw [List.partition_eq_filter_filter] at this
        simp only [Prod.mk.injEq] at this
        obtain ⟨h1, h2⟩ := this
        cases miss with
        | nil => exact hne rfl
        | cons a l =>
          rw [List.filter_eq_nil_iff] at h1 h2
          have e1 := h1 a (by simp)
          have e2 := h2 a (by simp)
          simp only [Function.comp_apply] at e2
          cases hc : a.contains (Char.ofNat (nat_lit 46)) <;> rw [hc] at e1 e2 <;> simp at e1 e2
      obtain ⟨s, hs⟩ := least_some (l := u.map fun id => (id.splitOn ".").getLastD id) (by simpa using hu)
      refine ⟨s, ?_⟩
      show (Instr.least [] <|> Instr.least _) = some s
      rw [hs]; rfl

theorem typeAssertV_ok {P : Program} {φ : Phi} {x : V} {x' : Value} {xt want : TypeId} {ok : Bool} {v : V} (hx : rel φ x x') (h : typeAssertV P x want ok = some v) : Yw P φ (Instr.typeAssert x' xt want ok) v := by
  unfold typeAssertV at h
  cases hi : mkTI P want with
  | none => rw [hi] at h; cases h
  | some i =>
    rw [hi] at h
    obtain ⟨inf, d, h1, hd, _, _, _, hsh, hz⟩ := mkTI_spec hi
    have fails : (cond ok (match i.zero with | some z => some (V.tuple [z, .bool false]) | none => none) none) = some v → ok = true ∧ ∃ z', inf.zero = some z' ∧ rel φ v (.tuple #[z', .bool false]) := by
      intro h
      cases ok with
      | false => cases h
      | true =>
        simp only [cond_true] at h
        cases hz0 : i.zero with
        | none => rw [hz0] at h; cases h
        | some z =>
          rw [hz0] at h; cases h
          obtain ⟨z', hz', hr⟩ := hz z hz0
          exact ⟨rfl, z', hz', _, rfl, _, _, rfl, hr φ, _, _, rfl, rfl, rfl⟩
    have holds : ∀ {u : V} {u' : Value}, rel φ u u' → some (cond ok (V.tuple [u, .bool true]) u) = some v → rel φ v (if ok then .tuple #[u', .bool true] else u') := by
      intro u u' hr h
      cases ok with
      | false => cases h; simpa using hr
      | true => cases h; exact ⟨_, rfl, _, _, rfl, hr, _, _, rfl, rfl, rfl⟩
    simp only [hsh] at h
    split at h
    · rename_i e
      obtain ⟨ms, rfl⟩ := shOf_iface e
      simp only [rel] at hx; subst hx
      obtain ⟨rfl, z', hz', hr⟩ := fails h
      exact ⟨_, fun w => by simp [Instr.typeAssert, run_underlying hd, zeroValue, run_typeInfo w h1, hz'], hr⟩
    · rename_i t u e
      obtain ⟨ms, rfl⟩ := shOf_iface e
      obtain ⟨u', rfl, hu⟩ := hx
      unfold implementsT at h
      rw [hd] at h
      cases hj : P.info? t with
      | none => rw [hj] at h; cases h
      | some j =>
        rw [hj] at h
        simp only [] at h
        cases hall : (ms.toList.all fun m => j.methods.any fun g => g.name == m.1 && g.sig == m.2) with
        | true =>
          rw [hall] at h
          have := holds (u := .iface t u) (u' := .iface t u') ⟨u', rfl, hu⟩ h
          refine ⟨_, fun w => ?_, this⟩
          simp [Instr.typeAssert, run_underlying hd, run_typeInfo w hj, missing_none hall]
        | false =>
          rw [hall] at h
          obtain ⟨rfl, z', hz', hr⟩ := fails h
          obtain ⟨s, hs⟩ := missing_some hall
          refine ⟨_, fun w => ?_, hr⟩
          simp [Instr.typeAssert, run_underlying hd, run_typeInfo w hj, hs, zeroValue, run_typeInfo w h1, hz']
    · rename_i _ hne
      simp only [rel] at hx; subst hx
      obtain ⟨rfl, z', hz', hr⟩ := fails h
      refine ⟨_, fun w => ?_, hr⟩
      cases d <;> first
        | exact (hne (by rfl)).elim
        | simp [Instr.typeAssert, run_underlying hd, zeroValue, run_typeInfo w h1, hz']
    · rename_i _ t u hne
      obtain ⟨u', rfl, hu⟩ := hx
      rw [beq_dec] at h
      by_cases ht : t = want
      · subst ht
        simp only [decide_true, cond_true] at h
        have := holds hu h
        refine ⟨_, fun w => ?_, this⟩
        cases d <;> first
          | exact (hne rfl).elim
          | simp [Instr.typeAssert, run_underlying hd]
      · simp only [ht, decide_false, cond_false] at h
        obtain ⟨rfl, z', hz', hr⟩ := fails h
        refine ⟨_, fun w => ?_, hr⟩
        cases d <;> first
          | exact (hne rfl).elim
          | simp [Instr.typeAssert, run_underlying hd, ht, zeroValue, run_typeInfo w h1, hz']
    · cases h

theorem lenV_ok {P : Program} {φ : Phi} {t ty : TypeId} {x : V} {x' : Value} {ts : List TypeId} {v : V} (hx : rel φ x x') (h : lenV P t x = some v) : Yw P φ (Builtin.len_ (t :: ts).toArray ty #[x']) v := by
  unfold lenV at h
  cases hi : mkTI P t with
  | none => rw [hi] at h; cases h
  | some i =>
    rw [hi] at h
    obtain ⟨d, hd, hsh⟩ := underlying_of hi
    simp only [hsh] at h
    have h0 : (t :: ts).toArray[0]? = some t := by simp
    split at h
    · rename_i e
      obtain rfl := shOf_str e
      obtain ⟨s, rfl, rfl⟩ := hx
      cases h
      exact ⟨goInt s.size, fun w => by simp [Builtin.len_, run_underlying hd], by simp only [rel, lenL_eq, bytesOf_length]; rfl⟩
    · rename_i n el e
      obtain rfl := shOf_arr e
      cases h
      refine ⟨goInt n, fun w => ?_, rfl⟩
      cases x' <;> simp [Builtin.len_, run_underlying hd]
    · rename_i el e
      obtain rfl := shOf_ptr e
      cases hj : mkTI P el with
      | none => rw [hj] at h; cases h
      | some j =>
        rw [hj] at h
        obtain ⟨d', hd', hsh'⟩ := underlying_of hj
        simp only [hsh'] at h
        split at h
        · rename_i n el' e'
          obtain rfl := shOf_arr e'
          cases h
          refine ⟨goInt n, fun w => ?_, rfl⟩
          cases x' <;> simp [Builtin.len_, run_underlying hd, run_underlying hd']
        · cases h
    · rename_i e
      obtain rfl := shOf_slice e
      obtain ⟨L, off, cap', hφ, rfl, _⟩ := hx
      cases h
      exact ⟨goInt _, fun w => by simp [Builtin.len_, run_underlying hd], rfl⟩
    · rename_i e
      obtain rfl := shOf_slice e
      simp only [rel] at hx; subst hx
      cases h
      exact ⟨goInt 0, fun w => by simp [Builtin.len_, run_underlying hd], rfl⟩
    · rename_i e
      obtain rfl := shOf_map e
      simp only [rel] at hx; subst hx
      cases h
      exact ⟨goInt 0, fun w => by simp [Builtin.len_, run_underlying hd], rfl⟩
    · cases h

theorem minmax_go {P : Program} {φ : Phi} (mx : Bool) (k : IntKind) : ∀ (vs : List V) (xs : List Value) (a : Int) (v : V), rels φ vs xs → minmaxV.go mx k a vs = some v →
    ∃ y, (∀ w, (xs.foldlM (if mx then Builtin.max2 else Builtin.min2) (.int k a)).run P w = .ok y w) ∧ rel φ v y
  | [], xs, a, v, hr, h => by
    simp only [rels] at hr; subst hr
    simp only [minmaxV.go] at h; cases h
    exact ⟨_, fun w => by simp, rfl⟩
  | u :: vs, xs, a, v, ⟨y, ys, e, h1, h2⟩, h => by
    subst e
    cases u <;> simp only [minmaxV.go] at h <;> try (cases h; done)
    simp only [rel] at h1; subst h1
    obtain ⟨z, hz, hr⟩ := minmax_go mx k vs ys _ v h2 h
    refine ⟨z, fun w => ?_, hr⟩
    rw [List.foldlM_cons, Sem.run_bind]
    cases mx with
    | true =>
      simp only [cond_true, ltI_eq, if_true] at hz ⊢
      simp only [Builtin.max2, Sem.run_pure, Result.andThen_ok]
      rw [← hz w]
      congr 3
      rename_i b
      by_cases hlt : a < b <;> simp [hlt]
    | false =>
      simp only [cond_false, ltI_eq, Bool.false_eq_true, if_false] at hz ⊢
      simp only [Builtin.min2, Sem.run_pure, Result.andThen_ok]
      rw [← hz w]
      congr 3
      rename_i b
      by_cases hlt : b < a <;> simp [hlt]
end Dv
end

section
namespace Dv
open Go

theorem pureV_ok {P : Program} {φ : Phi} {t : Tr V} {ρ : Operand → Value} {o : Oper} {v : V} (hρ : ∀ x ∈ o.op.operands, ∀ u, eva t x = some u → rel φ u (ρ x)) (h : pureV P t o.op = some v) :
    Yv P φ (execOp ρ o) v := by
  obtain ⟨dst, op, type, pos, after, guard⟩ := o
  simp only [] at hρ h
  cases op <;> simp only [Op.operands] at hρ <;> simp only [pureV] at h <;> try (cases h; done)
  case move x => exact ⟨ρ x, fun w => rfl, hρ x (by simp) v h⟩
  case assign x => exact ⟨ρ x, fun w => rfl, hρ x (by simp) v h⟩
  case pick c a b =>
    split at h
    · rename_i hc
      have := hρ c (by simp) _ hc
      simp only [rel] at this
      exact ⟨ρ a, fun w => by simp [execOp, this, asBool], hρ a (by simp) v h⟩
    · rename_i hc
      have := hρ c (by simp) _ hc
      simp only [rel] at this
      exact ⟨ρ b, fun w => by simp [execOp, this, asBool], hρ b (by simp) v h⟩
    · cases h
  case build ty parts =>
    split at h
    · rename_i i ps hi hps
      cases hz : i.zero with
      | none => rw [hz] at h; cases h
      | some z =>
        rw [hz] at h
        simp only [] at h
        have hr := evaParts_rel (φ := φ) (ρ := ρ) (fun x hx u hu => hρ x (by simpa using hx) u hu) hps
        have hr' : partsRel φ ps ((parts.map fun (i, x) => (i, ρ x)).toList) := by simpa using hr
        exact (build_ok hi hz hr' h).yv
    · cases h
  case nilCheck x =>
    split at h <;> try (cases h; done)
    rename_i hx1 hx2 hx3 hx4 hx5 hv'
    cases h
    have hr := hρ x (by simp) _ hv'
    refine ⟨ρ x, fun w => ?_, hr⟩
    simp only [execOp]
    cases v with
    | nilp => simp_all
    | nili => simp_all
    | nilf => simp_all
    | func fn fs cs =>
      obtain ⟨fn', fs', cs', e, hfn, _⟩ := hr
      rw [e]
      rcases hfn with ⟨_, l, _, _, rfl⟩ | ⟨_, rfl⟩
      · rfl
      · cases fn' <;> first | rfl | (simp_all; done)
    | bool _ | int _ _ | nils | nilm => simp only [rel] at hr; rw [hr]; rfl
    | str _ => obtain ⟨_, e, _⟩ := hr; rw [e]; rfl
    | ptr _ _ => obtain ⟨_, _, e⟩ := hr; rw [e]; rfl
    | slice _ _ _ _ _ => obtain ⟨_, _, _, _, e, _⟩ := hr; rw [e]; rfl
    | map _ => obtain ⟨_, _, e⟩ := hr; rw [e]; rfl
    | iface _ _ => obtain ⟨_, e, _⟩ := hr; rw [e]; rfl
    | agg _ => obtain ⟨_, e, _⟩ := hr; rw [e]; rfl
    | tuple _ => obtain ⟨_, e, _⟩ := hr; rw [e]; rfl
  case binOp bop xt x y yt =>
    split at h
    · rename_i a b ha hb
      exact (binV_ok (hρ x (by simp) _ ha) (hρ y (by simp) _ hb) h).yv
    · cases h
  case unOp uop xt x =>
    split at h
    · rename_i a ha
      exact (unV_ok (hρ x (by simp) _ ha) h).yv
    · cases h
  case convert s d x =>
    split at h
    · rename_i a ha
      exact (convertV_ok (hρ x (by simp) _ ha) h).yv
    · cases h
  case makeInterface ty x =>
    split at h
    · rename_i i a hi ha
      obtain ⟨d, hd, hsh⟩ := underlying_of hi
      rw [hsh] at h
      split at h
      · cases h
      · rename_i hne
        cases h
        have hr : rel φ (.iface ty a) (.iface ty (ρ x)) := ⟨ρ x, rfl, hρ x (by simp) _ ha⟩
        refine Yw.yv (s := Instr.makeInterface ty (ρ x)) ⟨.iface ty (ρ x), fun w => ?_, hr⟩
        unfold Instr.makeInterface
        rw [Sem.run_bind, run_underlying hd, Result.andThen_ok]
        cases d <;> first | exact (hne rfl).elim | rfl
    · cases h
  case makeFunc fn first captured =>
    split at h
    · rename_i a b ha hb
      have h1 := evas_rel (φ := φ) (ρ := ρ) (fun x hx u hu => hρ x (by simp at hx ⊢; exact .inl hx) u hu) ha
      have h2 := evas_rel (φ := φ) (ρ := ρ) (fun x hx u hu => hρ x (by simp at hx ⊢; exact .inr hx) u hu) hb
      split at h
      · cases h
      · rename_i hne
        cases h
        exact ⟨.func fn (first.map ρ) (captured.map ρ), fun w => rfl, fn, _, _, rfl, .inr ⟨(fun l e => hne l e), rfl⟩, by simpa using h1, by simpa using h2⟩
    · cases h
  case slice ty x lo hi mx =>
    split at h
    · rename_i a l1 h1 m1 ha hl hh hm
      have hx := hρ x (by simp) _ ha
      have hlo := evaOpt_rel (φ := φ) (ρ := ρ) (fun y hy u hu => hρ y (by simp at hy ⊢; simp [hy]) u hu) hl
      have hhi := evaOpt_rel (φ := φ) (ρ := ρ) (fun y hy u hu => hρ y (by simp at hy ⊢; simp [hy]) u hu) hh
      have hmx := evaOpt_rel (φ := φ) (ρ := ρ) (fun y hy u hu => hρ y (by simp at hy ⊢; simp [hy]) u hu) hm
      exact (sliceV_ok hx hlo hhi hmx h).yv
    · cases h
  case fieldAddr s x f =>
    split at h
    · rename_i a ha
      exact (fieldAddrV_ok (hρ x (by simp) _ ha) h).yv
    · cases h
  case field s x f =>
    split at h
    · rename_i a ha
      exact (fieldV_ok (hρ x (by simp) _ ha) h).yv
    · cases h
  case indexAddr ty x ix =>
    split at h
    · rename_i a b ha hb
      exact (indexAddrV_ok (hρ x (by simp) _ ha) (hρ ix (by simp) _ hb) h).yv
    · cases h
  case index ty x ix =>
    split at h
    · rename_i a b ha hb
      exact (indexV_ok (hρ x (by simp) _ ha) (hρ ix (by simp) _ hb) h).yv
    · cases h
  case typeAssert x xt want ok =>
    split at h
    · rename_i a ha
      exact (typeAssertV_ok (hρ x (by simp) _ ha) h).yv
    · cases h
  case extract x i =>
    split at h
    · rename_i vs ha
      obtain ⟨vs', e, hr⟩ := hρ x (by simp) _ ha
      rw [nth_eq] at h
      obtain ⟨y, hy, hyr⟩ := hr.get i v h
      have hy' : vs'[i]? = some y := by simpa using hy
      exact Yw.yv (s := Instr.extract (ρ x) i) ⟨y, fun w => by simp [e, Instr.extract, hy'], hyr⟩
    · cases h
  case call c =>
    obtain ⟨callee, args, argTypes⟩ := c
    cases callee with
    | value f => cases h
    | invoke r m => cases h
    | builtin b =>
      simp only [] at h
      split at h
      · rename_i x ty tys hargs hts
        split at h
        · rename_i a ha
          have hx := hρ x (by simp [Call.operands]; have : x ∈ args.toList := by rw [hargs]; simp
                              simpa using this) _ ha
          have e1 : args.map ρ = #[ρ x] := by apply Array.ext'; simp [hargs]
          have e2 : argTypes = (ty :: tys).toArray := by apply Array.ext'; simp [hts]
          obtain ⟨y, hy, hyr⟩ := lenV_ok (P := P) (ty := type) (ts := tys) hx h
          refine ⟨y, fun w => ?_, hyr⟩
          simp only [execOp, resolve, invoke, builtin, Sem.run_bind, Sem.run_pure, Result.andThen_ok, e1, e2, hy]
        · cases h
      · rename_i x ty tys hargs hts
        have e1 : args.map ρ = #[ρ x] := by apply Array.ext'; simp [hargs]
        have e2 : argTypes = (ty :: tys).toArray := by apply Array.ext'; simp [hts]
        have hmem : x ∈ (⟨.builtin .cap, args, argTypes⟩ : Call).operands := by
          simp [Call.operands]; have : x ∈ args.toList := by rw [hargs]; simp
          simpa using this
        split at h
        · rename_i b o len c i ha hi
          obtain ⟨d, hd, hsh⟩ := underlying_of hi
          rw [hsh] at h
          split at h
          · rename_i el e
            obtain rfl := shOf_slice e
            cases h
            obtain ⟨L, off, cap', hφ, e3, hle, hcap, hex', _⟩ := hρ x hmem _ ha
            have := hex' rfl; subst this
            refine ⟨goInt cap', fun w => ?_, rfl⟩
            simp [execOp, resolve, invoke, builtin, e1, e2, e3, Builtin.cap_, run_underlying hd]
          · cases h
        · rename_i i ha hi
          obtain ⟨d, hd, hsh⟩ := underlying_of hi
          rw [hsh] at h
          split at h
          · rename_i el e
            obtain rfl := shOf_slice e
            cases h
            have e3 := hρ x hmem _ ha
            simp only [rel] at e3
            refine ⟨goInt 0, fun w => ?_, rfl⟩
            simp [execOp, resolve, invoke, builtin, e1, e2, e3, Builtin.cap_, run_underlying hd]
          · cases h
        · cases h
      · split at h
        · rename_i vs hvs
          have hr := evas_rel (φ := φ) (ρ := ρ) (fun x hx u hu => hρ x (by simp [Call.operands]; simpa using hx) u hu) hvs
          cases vs with
          | nil => cases h
          | cons u us =>
            cases u <;> simp only [minmaxV] at h <;> try (cases h; done)
            obtain ⟨y, ys, e, h1, h2⟩ := hr
            simp only [rel] at h1; subst h1
            obtain ⟨z, hz, hzr⟩ := minmax_go (P := P) false _ us ys _ v h2 h
            refine ⟨z, fun w => ?_, hzr⟩
            have e1 : (args.map ρ).toList = List.map ρ args.toList := by simp
            simp only [execOp, resolve, invoke, builtin, Sem.run_bind, Sem.run_pure, Result.andThen_ok, Builtin.min_, e1, e]
            have := hz w
            simp only [Bool.false_eq_true, if_false] at this
            rw [this]; rfl
        · cases h
      · split at h
        · rename_i vs hvs
          have hr := evas_rel (φ := φ) (ρ := ρ) (fun x hx u hu => hρ x (by simp [Call.operands]; simpa using hx) u hu) hvs
          cases vs with
          | nil => cases h
          | cons u us =>
            cases u <;> simp only [minmaxV] at h <;> try (cases h; done)
            obtain ⟨y, ys, e, h1, h2⟩ := hr
            simp only [rel] at h1; subst h1
            obtain ⟨z, hz, hzr⟩ := minmax_go (P := P) true _ us ys _ v h2 h
            refine ⟨z, fun w => ?_, hzr⟩
            have e1 : (args.map ρ).toList = List.map ρ args.toList := by simp
            simp only [execOp, resolve, invoke, builtin, Sem.run_bind, Sem.run_pure, Result.andThen_ok, Builtin.max_, e1, e]
            have := hz w
            simp only [if_true] at this
            rw [this]; rfl
        · cases h
      · cases h
end Dv
end
