/-
  Comparisons and operations of two values answer as the model's do.
-/
import Derived.Test.YtljfaogegcidgaaGreatDoorDvB
import Derived.Laws.StructEq
section
namespace Dv
open Go

theorem bytes_toList (s : ByteArray) : s.toList = s.data.toList := by rw [ByteArray.toList_eq]

theorem eq_toList (s s' : ByteArray) : (s.toList == s'.toList) = eqL (bytesOf s) (bytesOf s') := by
  rw [eqL_iff, bytes_toList, bytes_toList, Bool.eq_iff_iff]
  simp only [beq_iff_eq, decide_eq_true_eq]
  constructor
  · intro h; unfold bytesOf; rw [h]
  · intro h; rw [bytesOf_inj h]

theorem less_map : ∀ (a b : List UInt8), Op.bytesLess a b = lessL (a.map UInt8.toNat) (b.map UInt8.toNat)
  | a, [] => by cases a <;> simp [Op.bytesLess, lessL]
  | [], _ :: _ => by simp [Op.bytesLess, lessL]
  | x :: a, y :: b => by
    simp only [Op.bytesLess, List.map_cons, lessL, blt_dec, beq_dec, less_map a b]
    by_cases h : x < y
    · have : x.toNat < y.toNat := UInt8.lt_iff_toNat_lt.1 h
      simp [h, this]
    · have h' : ¬ x.toNat < y.toNat := fun h' => h (UInt8.lt_iff_toNat_lt.2 h')
      by_cases e : x = y
      · subst e; simp
      · have : x.toNat ≠ y.toNat := fun h => e (UInt8.toNat_inj.1 h)
        simp [h, h', e, this]

theorem less_toList (s s' : ByteArray) : Op.bytesLess s.toList s'.toList = lessL (bytesOf s) (bytesOf s') := by
  rw [bytes_toList, bytes_toList, less_map]; rfl

theorem bytesOf_append (s s' : ByteArray) : bytesOf (s ++ s') = bytesOf s ++ bytesOf s' := by
  unfold bytesOf
  rw [ByteArray.data_append]
  simp
theorem bytesOf_length (s : ByteArray) : (bytesOf s).length = s.size := by
  unfold bytesOf; simp

theorem Yw.pure {P : Program} {φ : Phi} {s : Sem Value} {v : V} (y : Value) (hs : s = Pure.pure y) (h : rel φ v y) : Yw P φ s v := ⟨y, fun w => by rw [hs]; rfl, h⟩

theorem strV_ok {P : Program} {φ : Phi} {op : BinOp} {s s' : ByteArray} {v : V} (h : strV op (bytesOf s) (bytesOf s') = some v) : Yw P φ (Op.stringOp op s s') v := by
  unfold strV at h
  cases op <;> simp only [] at h <;> try (cases h; done)
  case add =>
    simp only [ble_dec, lenL_eq, bytesOf_length] at h
    by_cases hl : s.size.add s'.size ≤ maxI
    · simp only [hl, decide_true, cond_true] at h
      cases h
      refine Yw.pure (.string (s ++ s')) ?_ ⟨s ++ s', rfl, bytesOf_append s s'⟩
      unfold Op.stringOp
      have : ¬ ((s.size + s'.size : Nat) : Int) > IntKind.i64.max := by
        have e : IntKind.i64.max = (maxI : Int) := by decide
        have hl' : s.size + s'.size ≤ maxI := hl
        rw [e]; omega
      simp only []
      rw [if_neg this]
    · simp only [hl, decide_false, cond_false] at h; cases h
  case eql => cases h; exact Yw.pure (.bool (s.toList == s'.toList)) rfl (by simp only [rel, eq_toList])
  case neq => cases h; exact Yw.pure (.bool (!(s.toList == s'.toList))) rfl (by simp only [rel, eq_toList])
  case lss => cases h; exact Yw.pure (.bool (Op.bytesLess s.toList s'.toList)) rfl (by simp only [rel, less_toList])
  case leq => cases h; exact Yw.pure (.bool (Op.bytesLess s.toList s'.toList || s.toList == s'.toList)) rfl (by simp only [rel, eq_toList, less_toList])
  case gtr => cases h; exact Yw.pure (.bool (!(Op.bytesLess s.toList s'.toList || s.toList == s'.toList))) rfl (by simp only [rel, eq_toList, less_toList])
  case geq => cases h; exact Yw.pure (.bool (!(Op.bytesLess s.toList s'.toList))) rfl (by simp only [rel, less_toList])

theorem intV_ok {P : Program} {φ : Phi} {op : BinOp} {t : TypeId} {k : IntKind} {a b : Int} {v : V} (hs : op ≠ .shl) (hs' : op ≠ .shr) (h : intV op k a b = some v) :
    Yw P φ (binOp op t (.int k a) (.int k b)) v := by
  cases op <;> first | exact absurd rfl hs | exact absurd rfl hs' | skip
  all_goals simp only [intV] at h
  case add => cases h; exact Yw.pure (.int k (k.wrap (a + b))) (by simp [binOp, Op.intArith]) (by rw [wrapD_eq]; rfl)
  case sub => cases h; exact Yw.pure (.int k (k.wrap (a - b))) (by simp [binOp, Op.intArith]) (by rw [wrapD_eq]; rfl)
  case mul => cases h; exact Yw.pure (.int k (k.wrap (a * b))) (by simp [binOp, Op.intArith]) (by rw [wrapD_eq]; rfl)
  case quo =>
    rw [eqI_eq] at h
    by_cases hb : b = 0
    · simp [hb] at h
    · simp [hb] at h; subst h
      exact Yw.pure (.int k (k.wrap (a.tdiv b))) (by simp [binOp, Op.intDiv, hb]) (by rw [wrapD_eq]; rfl)
  case rem =>
    rw [eqI_eq] at h
    by_cases hb : b = 0
    · simp [hb] at h
    · simp [hb] at h; subst h
      exact Yw.pure (.int k (a.tmod b)) (by simp [binOp, Op.intDiv, hb]) rfl
  case and => obtain ⟨n, rfl, hn⟩ := bitsV_ok (P := P) h; exact ⟨.int k n, fun w => by simp [binOp, hn], rfl⟩
  case or => obtain ⟨n, rfl, hn⟩ := bitsV_ok (P := P) h; exact ⟨.int k n, fun w => by simp [binOp, hn], rfl⟩
  case xor => obtain ⟨n, rfl, hn⟩ := bitsV_ok (P := P) h; exact ⟨.int k n, fun w => by simp [binOp, hn], rfl⟩
  case andNot => obtain ⟨n, rfl, hn⟩ := bitsV_ok (P := P) h; exact ⟨.int k n, fun w => by simp [binOp, hn], rfl⟩
  case eql => cases h; exact Yw.pure (.bool (a == b)) (by simp [binOp, Op.intCmp]) (by simp only [rel, eqI_eq]; rfl)
  case neq => cases h; exact Yw.pure (.bool (a != b)) (by simp [binOp, Op.intCmp]) (by simp only [rel, eqI_eq]; rfl)
  case lss => cases h; exact Yw.pure (.bool (a < b)) (by simp [binOp, Op.intCmp]) (by simp only [rel, ltI_eq])
  case leq => cases h; exact Yw.pure (.bool (a ≤ b)) (by simp [binOp, Op.intCmp]) (by simp only [rel, ltI_eq, Value.bool.injEq]; rw [Bool.eq_iff_iff]; simp)
  case gtr => cases h; exact Yw.pure (.bool (a > b)) (by simp [binOp, Op.intCmp]) (by simp only [rel, ltI_eq])
  case geq => cases h; exact Yw.pure (.bool (a ≥ b)) (by simp [binOp, Op.intCmp]) (by simp only [rel, ltI_eq, Value.bool.injEq]; rw [Bool.eq_iff_iff]; simp)

theorem underlying_of {P : Program} {t : TypeId} {i : TI} (hi : mkTI P t = some i) : ∃ d, P.underlying t = some d ∧ i.sh = shOf d := by
  obtain ⟨_, d, _, h2, _, _, _, h6, _⟩ := mkTI_spec hi
  exact ⟨d, h2, h6⟩

theorem eqF_ok {P : Program} {φ : Phi} (n m : Nat)
    (ih : ∀ (t : TypeId) (x y : V) (x' y' : Value) (b : Bool), rel φ x x' → rel φ y y' → eqV P n t x y = some b → ∀ w, (Op.equalIn m t x' y').run P w = .ok b w)
    (xs ys : List V) (xs' ys' : Array Value) (hx : rels φ xs xs'.toList) (hy : rels φ ys ys'.toList) : ∀ (fs : List (Nat × TypeId)) (gs : List Field),
      gs.map (fun f => (f.offset, f.type)) = fs → (gs.all fun f => f.name != "_") = true → ∀ b, eqF P (eqV P n) xs ys fs = some b → ∀ w, (Op.eqFields m xs' ys' gs).run P w = .ok b w
    | [], gs, h, _, b, hb, w => by
      simp at h; subst h
      simp [eqF] at hb; subst hb
      rfl
    | (off, t) :: fs, gs, h, ha, b, hb, w => by
      cases gs with
      | nil => simp at h
      | cons g gs =>
        simp only [List.map_cons, List.cons.injEq, Prod.mk.injEq] at h
        obtain ⟨⟨rfl, rfl⟩, h⟩ := h
        simp only [List.all_cons, Bool.and_eq_true, bne_iff_ne, ne_eq] at ha
        simp only [eqF] at hb
        split at hb
        · rename_i i hi
          split at hb
          · rename_i u v hu hv
            obtain ⟨u', hu', hur⟩ := run_part hi hx hu
            obtain ⟨v', hv', hvr⟩ := run_part hi hy hv
            simp only [Op.eqFields, ne_eq, ha.1, not_false_eq_true, if_true, Sem.run_bind, hu', hv', Result.andThen_ok]
            split at hb
            · rename_i he
              rw [ih g.type u v u' v' true hur hvr he w]
              simp only [Result.andThen_ok, Bool.not_true, Bool.false_eq_true, if_false]
              exact eqF_ok n m ih xs ys xs' ys' hx hy fs gs h ha.2 b hb w
            · rename_i he
              cases hb
              rw [ih g.type u v u' v' false hur hvr he w]
              simp
            · cases hb
          · cases hb
        · cases hb

/-- Two related values are alike as the evaluator says. -/
theorem eqV_ok {P : Program} {φ : Phi} : ∀ (n m : Nat) (t : TypeId) (x y : V) (x' y' : Value) (b : Bool), n ≤ m → rel φ x x' → rel φ y y' → eqV P n t x y = some b →
    ∀ w, (Op.equalIn m t x' y').run P w = .ok b w := by
  intro n
  induction n with
  | zero => intro m t x y x' y' b _ _ _ h; simp [eqV] at h
  | succ n ih =>
    intro m t x y x' y' b hm hx hy h w
    cases m with
    | zero => omega
    | succ m =>
    have ih := fun t x y x' y' b => ih m t x y x' y' b (by omega)
    unfold eqV at h
    cases hi : mkTI P t with
    | none => rw [hi] at h; cases h
    | some i =>
      rw [hi] at h
      obtain ⟨d, hd, hsh⟩ := underlying_of hi
      simp only [hsh] at h
      split at h
      · rename_i e
        obtain rfl := shOf_bool e
        simp only [rel] at hx hy; subst hx hy
        cases h
        simp [Op.equalIn, run_underlying hd]
      · rename_i e
        obtain rfl := shOf_int e
        simp only [rel] at hx hy; subst hx hy
        rename_i k1 a1 k2 b1
        cases hk : kindEq k1 k2 with
        | false => rw [hk] at h; cases h
        | true =>
          rw [hk] at h; cases h
          have := kindEq_iff hk; subst this
          simp [Op.equalIn, run_underlying hd, eqI_eq]; rfl
      · rename_i e
        obtain rfl := shOf_str e
        obtain ⟨s, rfl, rfl⟩ := hx
        obtain ⟨s', rfl, rfl⟩ := hy
        cases h
        simp only [Op.equalIn, Sem.run_bind, run_underlying hd, Result.andThen_ok, Sem.run_pure]
        rw [beq_toListBytes, eq_toList]
      · rename_i e
        obtain rfl := shOf_ptr e
        simp only [rel] at hx hy; subst hx hy
        cases h
        simp [Op.equalIn, run_underlying hd]
      · rename_i e
        obtain rfl := shOf_ptr e
        simp only [rel] at hx; subst hx
        obtain ⟨_, _, rfl⟩ := hy
        cases h
        simp [Op.equalIn, run_underlying hd]
      · rename_i e
        obtain rfl := shOf_ptr e
        simp only [rel] at hy; subst hy
        obtain ⟨_, _, rfl⟩ := hx
        cases h
        simp [Op.equalIn, run_underlying hd]
      · rename_i e
        obtain ⟨ms, rfl⟩ := shOf_iface e
        simp only [rel] at hx hy; subst hx hy
        cases h
        simp [Op.equalIn, run_underlying hd]
      · rename_i e
        obtain ⟨ms, rfl⟩ := shOf_iface e
        simp only [rel] at hx; subst hx
        obtain ⟨_, rfl, _⟩ := hy
        cases h
        simp [Op.equalIn, run_underlying hd]
      · rename_i e
        obtain ⟨ms, rfl⟩ := shOf_iface e
        simp only [rel] at hy; subst hy
        obtain ⟨_, rfl, _⟩ := hx
        cases h
        simp [Op.equalIn, run_underlying hd]
      · rename_i e
        obtain ⟨ms, rfl⟩ := shOf_iface e
        obtain ⟨vx', rfl, hvx⟩ := hx
        obtain ⟨vy', rfl, hvy⟩ := hy
        rename_i tx vx ty vy
        rw [beq_dec] at h
        by_cases he : tx = ty
        · subst he
          simp only [decide_true, cond_true] at h
          cases hj : P.info? tx with
          | none => rw [hj] at h; cases h
          | some j =>
            rw [hj] at h
            simp only [] at h
            cases hc : j.comparable with
            | false => rw [hc] at h; cases h
            | true =>
              rw [hc] at h
              simp only [cond_true] at h
              have ih := ih tx vx vy vx' vy' b hvx hvy h w
              simp only [Op.equalIn, Sem.run_bind, run_underlying hd, Result.andThen_ok]
              simp [run_typeInfo w hj, hc, ih]
        · simp only [he, decide_false, cond_false] at h
          cases h
          simp [Op.equalIn, run_underlying hd, he]
      · rename_i fs xs ys e
        obtain ⟨gs, rfl, hgs⟩ := shOf_strct e
        obtain ⟨xs', rfl, hxs⟩ := hx
        obtain ⟨ys', rfl, hys⟩ := hy
        cases hst : P.stoodInHeld t with
        | true => rw [hst] at h; cases h
        | false =>
          rw [hst] at h
          simp only [cond_false, hd] at h
          cases hall : (gs.toList.all fun f => f.name != "_") with
          | false => rw [hall] at h; cases h
          | true =>
            rw [hall] at h
            simp only [cond_true] at h
            have hfo : P.fieldsOf t = gs := by simp [Program.fieldsOf, hd]
            rw [run_equalIn_struct w m t xs' ys' (by rw [hfo]; exact hd) hst, hfo]
            exact eqF_ok n m ih xs ys xs' ys' hxs hys fs gs.toList hgs hall b h w
      · rename_i e
        obtain rfl := shOf_slice e
        simp only [rel] at hx hy; subst hx hy
        cases h
        simp [Op.equalIn, run_underlying hd]
      · rename_i e
        obtain rfl := shOf_slice e
        simp only [rel] at hx; subst hx
        obtain ⟨_, _, _, _, rfl, _⟩ := hy
        cases h
        simp [Op.equalIn, run_underlying hd]
      · rename_i e
        obtain rfl := shOf_slice e
        simp only [rel] at hy; subst hy
        obtain ⟨_, _, _, _, rfl, _⟩ := hx
        cases h
        simp [Op.equalIn, run_underlying hd]
      · rename_i e
        obtain rfl := shOf_map e
        simp only [rel] at hx hy; subst hx hy
        cases h
        simp [Op.equalIn, run_underlying hd]
      · rename_i e
        obtain rfl := shOf_map e
        simp only [rel] at hx; subst hx
        obtain ⟨_, _, rfl⟩ := hy
        cases h
        simp [Op.equalIn, run_underlying hd]
      · rename_i e
        obtain rfl := shOf_map e
        simp only [rel] at hy; subst hy
        obtain ⟨_, _, rfl⟩ := hx
        cases h
        simp [Op.equalIn, run_underlying hd]
      · rename_i e
        obtain ⟨_, _, _, rfl⟩ := shOf_func e
        simp only [rel] at hx hy; subst hx hy
        cases h
        simp [Op.equalIn, run_underlying hd]
      · rename_i e
        obtain ⟨_, _, _, rfl⟩ := shOf_func e
        simp only [rel] at hx; subst hx
        obtain ⟨_, _, _, rfl, _⟩ := hy
        cases h
        simp [Op.equalIn, run_underlying hd]
      · rename_i e
        obtain ⟨_, _, _, rfl⟩ := shOf_func e
        simp only [rel] at hy; subst hy
        obtain ⟨_, _, _, rfl, _⟩ := hx
        cases h
        simp [Op.equalIn, run_underlying hd]
      · cases h
end Dv
end

section
namespace Dv
open Go

theorem Addr_add (rb o n : Nat) : (⟨rb, o, none⟩ : Addr).add n = ⟨rb, o + n, none⟩ := by
  unfold Addr.add; split
  · rename_i h; simp [h]
  · rfl

theorem guard_ok {P : Program} {φ : Phi} {op : BinOp} {t : TypeId} {x y : Operand} {a b : V} {a' b' : Value} (ha : rel φ a a') (hb : rel φ b b')
    (h : guardOk P t (isConstO x || isConstO y) a b = true) : ∀ w, (eqGuard op t x y a' b').run P w = .ok () w := by
  intro w
  unfold eqGuard
  cases op
  case eql | neq =>
    cases a with
    | nili =>
      simp only [rel] at ha; subst ha
      cases b with
      | nili =>
        simp only [rel] at hb; subst hb
        simp only [guardOk] at h
        cases x <;> first
          | rfl
          | (cases y <;> first | rfl | (simp [isConstO] at h; done))
      | _ => simp only [rel] at hb; first | (subst hb; rfl) | (obtain ⟨_, rfl, _⟩ := hb; rfl) | (obtain ⟨_, _, _, rfl⟩ := hb; rfl) | (obtain ⟨_, _, _, _, rfl, _⟩ := hb; rfl) | (obtain ⟨_, _, rfl⟩ := hb; rfl) | (obtain ⟨_, _, _, rfl, _⟩ := hb; rfl)
    | agg xs =>
      obtain ⟨xs', rfl, _⟩ := ha
      cases b with
      | agg ys =>
        obtain ⟨ys', rfl, _⟩ := hb
        simp only [guardOk, Bool.not_eq_true'] at h
        simp [h]
      | _ => simp only [rel] at hb; first | (subst hb; rfl) | (obtain ⟨_, rfl, _⟩ := hb; rfl) | (obtain ⟨_, _, _, rfl⟩ := hb; rfl) | (obtain ⟨_, _, _, _, rfl, _⟩ := hb; rfl) | (obtain ⟨_, _, rfl⟩ := hb; rfl) | (obtain ⟨_, _, _, rfl, _⟩ := hb; rfl)
    | _ => simp only [rel] at ha; first | (subst ha; rfl) | (obtain ⟨_, rfl, _⟩ := ha; rfl) | (obtain ⟨_, _, _, rfl⟩ := ha; rfl) | (obtain ⟨_, _, _, _, rfl, _⟩ := ha; rfl) | (obtain ⟨_, _, rfl⟩ := ha; rfl) | (obtain ⟨_, _, _, rfl, _⟩ := ha; rfl)
  all_goals rfl

/-- no whole number, no text, no other number -/
def plainValue : Value → Bool
  | .int .. | .string .. | .float .. | .complex .. => false
  | _ => true
theorem rel.plain {φ : Phi} {a : V} {a' : Value} (h : rel φ a a') (hn : ∀ k n, a ≠ .int k n) (hs : ∀ x, a ≠ .str x) : plainValue a' = true := by
  cases a <;> simp only [rel] at h <;> first
    | exact absurd rfl (hn _ _)
    | exact absurd rfl (hs _)
    | (subst h; rfl)
    | (obtain ⟨_, rfl, _⟩ := h; rfl)
    | (obtain ⟨_, _, _, rfl⟩ := h; rfl)
    | (obtain ⟨_, _, _, _, rfl, _⟩ := h; rfl)
    | (obtain ⟨_, _, rfl⟩ := h; rfl)
    | (obtain ⟨_, _, _, rfl, _⟩ := h; rfl)

theorem binOp_eql_plain {t : TypeId} {x y : Value} (hx : plainValue x = true) : binOp .eql t x y = (do pure (.bool (← Op.equal t x y))) := by
  cases x <;> first | (simp [plainValue] at hx; done) | rfl | (cases y <;> rfl)
theorem binOp_neq_plain {t : TypeId} {x y : Value} (hx : plainValue x = true) : binOp .neq t x y = (do pure (.bool (!(← Op.equal t x y)))) := by
  cases x <;> first | (simp [plainValue] at hx; done) | rfl | (cases y <;> rfl)

theorem eqV_int {P : Program} {n : Nat} {t : TypeId} {k : IntKind} {m : Int} {b : V} {c : Bool} (h : eqV P (n + 1) t (.int k m) b = some c) : ∃ k' m', b = .int k' m' := by
  unfold eqV at h
  split at h
  · cases h
  · split at h <;> first | contradiction | exact ⟨_, _, rfl⟩
theorem eqV_str {P : Program} {n : Nat} {t : TypeId} {l : List Nat} {b : V} {c : Bool} (h : eqV P (n + 1) t (.str l) b = some c) : ∃ l', b = .str l' := by
  unfold eqV at h
  split at h
  · cases h
  · split at h <;> first | contradiction | exact ⟨_, rfl⟩

theorem binOp_eq {P : Program} {φ : Phi} {t : TypeId} {n : Nat} (hle : n + 1 ≤ 10000) {a b : V} {a' b' : Value} {c : Bool} (ha : rel φ a a') (hb : rel φ b b') (hn : ∀ k n k' n', ¬ (a = .int k n ∧ b = .int k' n')) (hs : ∀ x y, ¬ (a = .str x ∧ b = .str y))
    (h : eqV P (n + 1) t a b = some c) : (∀ w, (binOp .eql t a' b').run P w = .ok (.bool c) w) ∧ (∀ w, (binOp .neq t a' b').run P w = .ok (.bool (!c)) w) := by
  have he := eqV_ok (P := P) (φ := φ) (n + 1) 10000 t a b a' b' c hle ha hb h
  have hp : plainValue a' = true := ha.plain (fun k m e => by subst e; obtain ⟨k', m', rfl⟩ := eqV_int h; exact hn _ _ _ _ ⟨rfl, rfl⟩) (fun x e => by subst e; obtain ⟨l', rfl⟩ := eqV_str h; exact hs _ _ ⟨rfl, rfl⟩)
  rw [binOp_eql_plain hp, binOp_neq_plain hp]
  exact ⟨fun w => by rw [Sem.run_bind]; show ((Op.equalIn 10000 t a' b').run P w).andThen _ = _; rw [he w]; rfl,
    fun w => by rw [Sem.run_bind]; show ((Op.equalIn 10000 t a' b').run P w).andThen _ = _; rw [he w]; rfl⟩
end Dv
end

section
namespace Dv
open Go

theorem binV_ok {P : Program} {φ : Phi} {op : BinOp} {t : TypeId} {x y : Operand} {a b : V} {a' b' : Value} {v : V} (ha : rel φ a a') (hb : rel φ b b')
    (h : binV P op t (isConstO x || isConstO y) a b = some v) : Yw P φ (do eqGuard op t x y a' b'; binOp op t a' b') v := by
  have key : Yw P φ (binOp op t a' b') v ∧ (∀ w, (eqGuard op t x y a' b').run P w = .ok () w) := by
    unfold binV at h
    split at h
    · simp only [rel] at ha hb; subst ha hb
      rename_i k m k' m'
      refine ⟨?_, fun w => by cases op <;> rfl⟩
      have main : ∀ {op : BinOp}, op ≠ .shl → op ≠ .shr → cond (kindEq k k') (intV op k m m') none = some v → Yw P φ (binOp op t (.int k m) (.int k' m')) v := by
        intro op h1 h2 h
        cases hk : kindEq k k' with
        | false => rw [hk] at h; cases h
        | true =>
          have := kindEq_iff hk; subst this
          rw [hk] at h
          exact intV_ok h1 h2 h
      cases op <;> simp only [] at h <;> first
        | (obtain ⟨n, rfl, hn⟩ := shiftV_ok (P := P) (yk := k') h; exact ⟨.int k n, fun w => hn w, rfl⟩)
        | exact main (by decide) (by decide) h
    · obtain ⟨s, rfl, rfl⟩ := ha
      obtain ⟨s', rfl, rfl⟩ := hb
      refine ⟨?_, fun w => by cases op <;> rfl⟩
      have := strV_ok (P := P) (φ := φ) h
      cases op <;> first | exact this | (simp [strV] at h; done)
    · rename_i hni hns
      split at h
      · cases hg : guardOk P t (isConstO x || isConstO y) a b with
        | false => rw [hg] at h; cases h
        | true =>
          rw [hg] at h
          simp only [cond_true] at h
          cases he : eqV P 40 t a b with
          | none => rw [he] at h; cases h
          | some c =>
            rw [he] at h; cases h
            exact ⟨⟨.bool c, (binOp_eq (n := 39) (by decide) ha hb (fun k n k' n' e => hni _ _ _ _ e.1 e.2) (fun x y e => hns _ _ e.1 e.2) he).1, rfl⟩, guard_ok ha hb hg⟩
      · cases hg : guardOk P t (isConstO x || isConstO y) a b with
        | false => rw [hg] at h; cases h
        | true =>
          rw [hg] at h
          simp only [cond_true] at h
          cases he : eqV P 40 t a b with
          | none => rw [he] at h; cases h
          | some c =>
            rw [he] at h; cases h
            exact ⟨⟨.bool (!c), (binOp_eq (n := 39) (by decide) ha hb (fun k n k' n' e => hni _ _ _ _ e.1 e.2) (fun x y e => hns _ _ e.1 e.2) he).2, rfl⟩, guard_ok ha hb hg⟩
      · cases h
  obtain ⟨⟨z, hz, hr⟩, hgd⟩ := key
  exact ⟨z, fun w => by rw [Sem.run_bind, hgd, Result.andThen_ok, hz], hr⟩

theorem low_max (k : IntKind) : low k (if k.signed then -1 else k.max) = modulus k - 1 := by cases k <;> rfl

theorem unV_ok {P : Program} {φ : Phi} {op : UnOp} {a : V} {a' : Value} {v : V} (ha : rel φ a a') (h : unV op a = some v) : Yw P φ (Op.unary op a') v := by
  unfold unV at h
  split at h
  · simp only [rel] at ha; subst ha
    cases h
    rename_i k n
    exact Yw.pure (.int k (k.wrap (0 - n))) rfl (by rw [wrapD_eq]; rfl)
  · simp only [rel] at ha; subst ha
    rename_i k n
    have hb : bitsV .xor k (if k.signed then -1 else k.max) n = some v := by
      rw [← h]; simp only [bitsV, low_max]; rfl
    obtain ⟨m, rfl, hm⟩ := bitsV_ok (P := P) hb
    exact ⟨.int k m, fun w => hm w, rfl⟩
  · simp only [rel] at ha; subst ha
    cases h
    exact Yw.pure _ rfl rfl
  · cases h

/-! slices -/
def relO (φ : Phi) : Option V → Option Value → Prop
  | none, x => x = none
  | some v, x => ∃ y, x = some y ∧ rel φ v y

theorem evaOpt_rel {φ : Phi} {t : Tr V} {ρ : Operand → Value} {o : Option Operand} {v : Option V} (hr : ∀ x ∈ o.toList, ∀ v, eva t x = some v → rel φ v (ρ x)) (h : evaOpt t o = some v) : relO φ v (o.map ρ) := by
  cases o with
  | none => simp [evaOpt] at h; subst h; rfl
  | some x =>
    simp only [evaOpt] at h
    cases hx : eva t x with
    | none => rw [hx] at h; cases h
    | some u => rw [hx] at h; cases h; exact ⟨_, rfl, hr x (by simp) u hx⟩

theorem boundV_ok {P : Program} {φ : Phi} {y d n : Nat} {o : V} {x : Value} {code : BoundsCode} (hr : rel φ o x) (h : boundV y (some o) d = some n) :
    n ≤ y ∧ ∀ w, (Instr.sliceBound x y code).run P w = .ok n w := by
  cases o with
  | int k m =>
    cases m with
    | ofNat m =>
      simp only [boundV, ble_dec] at h
      by_cases hm : m ≤ y
      · simp only [hm, decide_true, cond_true] at h; cases h
        simp only [rel] at hr; subst hr
        refine ⟨hm, fun w => ?_⟩
        simp only [Instr.sliceBound, asIntOf, Sem.run_bind, Sem.run_pure, Result.andThen_ok]
        rw [if_pos ⟨by simp, by simp; exact hm⟩]; rfl
      · simp only [hm, decide_false, cond_false] at h; cases h
    | negSucc m => simp [boundV] at h
  | _ => simp [boundV] at h

theorem boundV_le {cap cap' d n : Nat} {o : V} (hc : cap ≤ cap') (h : boundV cap (some o) d = some n) : boundV cap' (some o) d = some n := by
  cases o with
  | int k m => cases m with
    | ofNat m =>
      simp only [boundV, ble_dec] at h ⊢
      by_cases hn : m ≤ cap
      · simp only [hn, decide_true, cond_true] at h; cases h
        simp [show n ≤ cap' by omega]
      · simp only [hn, decide_false, cond_false] at h; cases h
    | negSucc m => simp [boundV] at h
  | _ => simp [boundV] at h

theorem boundO {P : Program} {φ : Phi} {y d n : Nat} {o : Option V} {x : Option Value} (hr : relO φ o x) (hdy : o = none → d ≤ y) (h : boundV y o d = some n) :
    n ≤ y ∧ (x = none → n = d) ∧ (∀ v, x = some v → ∀ (code : BoundsCode) w, (Instr.sliceBound v y code).run P w = .ok n w) := by
  cases o with
  | none => simp only [relO] at hr; subst hr; simp only [boundV] at h; cases h; exact ⟨hdy rfl, fun _ => rfl, fun v hv => by cases hv⟩
  | some o =>
    obtain ⟨z, rfl, hz⟩ := hr
    exact ⟨(boundV_ok (P := P) (code := .index) hz h).1, (fun e => by cases e), fun v hv code w => by cases hv; exact (boundV_ok hz h).2 w⟩

theorem boundsV_ok {P : Program} {φ : Phi} {isSlice : Bool} {len cap cap' : Nat} {lo hi mx : Option V} {lo' hi' mx' : Option Value} {l h m : Nat} (hlo : relO φ lo lo') (hhi : relO φ hi hi') (hmx : relO φ mx mx') (hc : cap ≤ cap')
    (he : boundsV len cap lo hi mx = some (l, h, m)) : ∃ m', (∀ w, (Instr.sliceBounds isSlice len cap' lo' hi' mx').run P w = .ok (l, h, m') w) ∧ (mx.isSome = true → m' = m) ∧ (mx.isSome = false → m = cap ∧ m' = cap') := by
  unfold boundsV at he
  cases hm1 : boundV cap mx cap with
  | none => rw [hm1] at he; cases he
  | some m1 =>
    rw [hm1] at he
    simp only [] at he
    cases mx with
    | none =>
      simp only [relO] at hmx; subst hmx
      simp only [boundV] at hm1; cases hm1
      simp only [] at he
      cases hh1 : boundV cap hi len with
      | none => rw [hh1] at he; cases he
      | some h1 =>
        rw [hh1] at he
        simp only [] at he
        cases hl1 : boundV h1 lo 0 with
        | none => rw [hl1] at he; cases he
        | some l1 =>
          rw [hl1] at he
          cases he
          have fl := boundO (P := P) hlo (fun _ => Nat.zero_le _) hl1
          refine ⟨cap', fun w => ?_, by simp, fun _ => ⟨rfl, rfl⟩⟩
          unfold Instr.sliceBounds
          simp only [Sem.run_bind, Sem.run_pure, Result.andThen_ok]
          cases hi with
          | none =>
            simp only [relO] at hhi; subst hhi; simp only [boundV] at hh1; cases hh1
            simp only [Sem.run_bind, Sem.run_pure, Result.andThen_ok, Option.isSome_none, Bool.false_eq_true, if_false]
            cases lo' with
            | none => rw [fl.2.1 rfl]; rfl
            | some v => simp only [Sem.run_bind, fl.2.2 v rfl, Result.andThen_ok, Sem.run_pure]
          | some o =>
            obtain ⟨y, rfl, hy⟩ := hhi
            simp only [Sem.run_bind, (boundV_ok (P := P) hy (boundV_le hc hh1)).2 w, Result.andThen_ok, Option.isSome_none, Bool.false_eq_true, if_false]
            cases lo' with
            | none => rw [fl.2.1 rfl]; rfl
            | some v => simp only [Sem.run_bind, fl.2.2 v rfl, Result.andThen_ok, Sem.run_pure]
    | some om =>
      obtain ⟨ym, rfl, hym⟩ := hmx
      cases hi with
      | none => simp at he
      | some oh =>
        obtain ⟨yh, rfl, hyh⟩ := hhi
        simp only [] at he
        cases hh1 : boundV m1 (some oh) len with
        | none => rw [hh1] at he; cases he
        | some h1 =>
          rw [hh1] at he
          simp only [] at he
          cases hl1 : boundV h1 lo 0 with
          | none => rw [hl1] at he; cases he
          | some l1 =>
            rw [hl1] at he
            cases he
            have fl := boundO (P := P) hlo (fun _ => Nat.zero_le _) hl1
            refine ⟨m, fun w => ?_, fun _ => rfl, by simp⟩
            unfold Instr.sliceBounds
            simp only [Sem.run_bind, (boundV_ok (P := P) hym (boundV_le hc hm1)).2 w, Result.andThen_ok, (boundV_ok (P := P) hyh hh1).2 w, Option.isSome_some, if_true]
            cases lo' with
            | none => rw [fl.2.1 rfl]; rfl
            | some v => simp only [Sem.run_bind, fl.2.2 v rfl, Result.andThen_ok, Sem.run_pure]
end Dv
end
