/-
  Regions in text order come to what the evaluator says.
-/
import Derived.Test.YtljfaogegcidgaaGreatDoorDvF
import Derived.TacticsIn
section
namespace Dv
open Go
universe u

/-! ### The fence that lets everything in -/
def WF (ro : Option Nat) : Fence := { fn := fun _ => True, depth := none, alive := false, round := ro }
theorem WF_none : WF none = Fence.wide := rfl
theorem WF_room (ro : Option Nat) (n : Nat) : (WF ro).room n := fun _ h => by simp [WF] at h

/-- Behind a call of the model's: it comes back with a value. -/
def RCalls (P : Program) (f : FuncId) (args : Array Value) (w : World) (R : Value → World → Prop) : Prop :=
  ((callFunc f args).run P w = .ok (.enter f args) w ∧ Calls P f args w fun e w' => ∃ v, e = .returned v ∧ R v w') ∨
  (∃ v w', (callFunc f args).run P w = .ok (.value v) w' ∧ R v w')

theorem RCalls.mono {P : Program} {f : FuncId} {args : Array Value} {w : World} {R R' : Value → World → Prop} (h : RCalls P f args w R) (hr : ∀ v w', R v w' → R' v w') : RCalls P f args w R' := by
  rcases h with ⟨h1, h2⟩ | ⟨v, w', h1, h2⟩
  · exact .inl ⟨h1, h2.mono fun e w' ⟨v, e', hR⟩ => ⟨v, e', hr _ _ hR⟩⟩
  · exact .inr ⟨v, w', h1, hr _ _ h2⟩

theorem callsIn_of_calls {ro : Option Nat} {P : Program} {f : FuncId} {args : Array Value} {w : World} {R : Ending → World → Prop} (h : Calls P f args w R) : CallsIn (WF ro) 0 P f args w R :=
  (callsIn_wide.2 h : CallsIn Fence.wide 0 P f args w R)

def notDefer : Op → Bool
  | .defer _ => false
  | _ => true

section
variable {ro : Option Nat} {P : Program} {o : Oper} {a : Act} {w w' : World} {next : Act → World → Prop} {Q : Exit → Act → World → Prop}

theorem semAt_of (hd : notDefer o.op = true) : o.semAt (WF ro).round a.eval = execOp a.eval o :=
  Oper.semAt_eq _ _ _ fun c e => by rw [e] at hd; cases hd

theorem wp_value {y : Value} (hd : notDefer o.op = true) (h : (execOp a.eval o).run P w = .ok (.value y) w') (hn : next (a.put o.dst y) w') : o.wpIn (WF ro) 0 P a w next Q := by
  refine ⟨fun _ _ => trivial, ?_⟩
  rw [semAt_of hd, h]; exact hn
theorem wp_skip' (hd : notDefer o.op = true) (h : (execOp a.eval o).run P w = .ok .skip w') (hn : next (a.put o.dst undef) w') : o.wpIn (WF ro) 0 P a w next Q := by
  refine ⟨fun _ _ => trivial, ?_⟩
  rw [semAt_of hd, h]; exact hn
theorem wp_call {f : FuncId} {args : Array Value} {R : Value → World → Prop} (hd : notDefer o.op = true) (h : ∀ w, (execOp a.eval o).run P w = (callFunc f args).run P w) (hc : RCalls P f args w R) (hn : ∀ y w', R y w' → next (a.put o.dst y) w') : o.wpIn (WF ro) 0 P a w next Q := by
  refine ⟨fun _ _ => trivial, ?_⟩
  rw [semAt_of hd, h]
  rcases hc with ⟨h1, h2⟩ | ⟨v, w', h1, h2⟩
  · rw [h1, Oper.uponIn_enter]
    refine ⟨fun hx => by simp [WF] at hx, (callsIn_of_calls h2).mono fun e w' ⟨v, e', hR⟩ => ?_⟩
    subst e'
    exact hn _ _ hR
  · rw [h1]; exact hn _ _ h2
end

theorem wp_round {ro : Option Nat} {P : Program} {o : Oper} {a : Act} {w : World} {next : Act → World → Prop} {Q : Exit → Act → World → Prop} {l : Nat} {f : FuncId} {tmps : Array Value} {asg body : Code} {R : Value → World → Prop} (hd : notDefer o.op = true) (h : (execOp a.eval o).run P w = .ok (.round l f tmps asg body) w)
    (hc : RoundIn Fence.wide 0 P l f tmps asg body w fun e w' => ∃ v, e = .returned v ∧ R v w') (hn : ∀ y w', R y w' → next (a.put o.dst y) w') : o.wpIn (WF ro) 0 P a w next Q := by
  refine ⟨fun _ _ => trivial, ?_⟩
  rw [semAt_of hd, h, Oper.uponIn_round]
  have hc : RoundIn (WF ro) 0 P l f tmps asg body w fun e w' => ∃ v, e = .returned v ∧ R v w' := hc
  refine ⟨fun hx => by simp [WF] at hx, hc.mono fun e w' ⟨v, e', hR⟩ => ?_⟩
  subst e'
  exact hn _ _ hR

/-! ### What is called -/
theorem method_ok {P : Program} {φ : Phi} {t : TypeId} {v : V} {v' : Value} {name : String} {f : FuncId} (hv : rel φ v v') (h : methodT P t name = some f) {fuel : Nat} : ∀ w, (method (fuel + 1) t v' name).run P w = .ok (f, v') w := by
  intro w
  unfold methodT at h
  split at h
  · rename_i i hi
    split at h
    · rename_i m hm
      cases hp : m.path.isEmpty with
      | false => rw [hp] at h; cases h
      | true =>
        rw [hp] at h
        simp only [cond_true] at h
        have hpe : m.path.toList = [] := by simpa using hp
        unfold method
        simp only [Sem.run_bind, run_typeInfo w hi, Result.andThen_ok, hm, hpe, follow, Sem.run_pure]
        split at h
        · rename_i g e hmf hu
          cases h
          simp only [hmf, Sem.run_bind, receiverAt, run_underlying hu, Result.andThen_ok, Place.get, Sem.run_pure]
        · cases h
        · rename_i g d hne hmf hu
          cases h
          simp only [hmf, Sem.run_bind, receiverAt, run_underlying hu, Result.andThen_ok]
          cases d <;> first
            | exact (hne _ rfl).elim
            | simp only [Place.get, Sem.run_bind, Sem.run_pure, Result.andThen_ok]
        · cases h
    · cases h
  · cases h

theorem extract_cons (x : Value) (A : Array Value) : (#[x] ++ A).extract 1 (#[x] ++ A).size = A := by
  apply Array.ext'
  simp only [Array.toList_extract, Array.toList_append, List.extract, Array.size_append, List.size_toArray, List.length_cons, List.length_nil]
  simp [List.take_of_length_le]

theorem rels_cons {φ : Phi} {v : V} {vs : List V} {xs : List Value} (h : rels φ (v :: vs) xs) : ∃ y ys, xs = y :: ys ∧ rel φ v y ∧ rels φ vs ys := h

/-- what is run, where a target is called -/
def TgtIs (P : Program) (φ : Phi) (s : Sem Next) : Tgt → Array Value → Prop
  | .fn f, args => ∀ w, s.run P w = (callFunc f args).run P w
  | .rnd b, args => ∃ l, φ b = some l ∧ ∀ w, s.run P w = (Instr.yield l.rb args).run P w

theorem resolve_ok {P : Program} {φ : Phi} {t : Tr V} {ρ : Operand → Value} {c : Call} {type : TypeId} {tg : Tgt} {args : List V} (hρ : ∀ x ∈ c.operands, ∀ u, eva t x = some u → rel φ u (ρ x)) (h : resolveV P t c = some (tg, args)) :
    ∃ args' : Array Value, rels φ args args'.toList ∧ TgtIs P φ (do let d ← resolve ρ c type; invoke d.target d.args) tg args' := by
  obtain ⟨callee, cargs, ctypes⟩ := c
  unfold resolveV at h
  cases hargs : evas t cargs.toList with
  | none => rw [hargs] at h; cases h
  | some vs =>
    rw [hargs] at h
    have hvs := evas_rel (φ := φ) (ρ := ρ) (fun x hx u hu => hρ x (by simp [Call.operands]; right; simpa using hx) u hu) hargs
    have hvs' : rels φ vs (cargs.map ρ).toList := by simpa using hvs
    cases callee with
    | builtin b => cases h
    | invoke r name =>
      simp only [] at h
      split at h
      · rename_i ty v hr
        obtain ⟨v', e, hv⟩ := hρ r (by simp [Call.operands]) _ hr
        cases hm : methodT P ty name with
        | none => rw [hm] at h; cases h
        | some g =>
          rw [hm] at h; cases h
          have etl : (#[v'] ++ cargs.map ρ).toList = v' :: cargs.toList.map ρ := by simp
          refine ⟨#[v'] ++ cargs.map ρ, by rw [etl]; exact ⟨_, _, rfl, hv, hvs⟩, fun w => ?_⟩
          have hmo := method_ok (P := P) hv hm (fuel := P.types.size + Made.depth - 1) w
          have hfu : P.types.size + Made.depth - 1 + 1 = P.types.size + Made.depth := by simp [Made.depth]
          rw [hfu] at hmo
          have e0 : (#[Value.iface ty v'] ++ cargs.map ρ)[0]? = some (.iface ty v') := by
            rw [Array.getElem?_append_left (by simp)]; rfl
          have e1 := extract_cons (Value.iface ty v') (cargs.map ρ)
          simp only [resolve, Sem.run_bind, Sem.run_pure, Result.andThen_ok, invoke, e, e0, e1, callMethod, run_program, hmo]
      · cases h
    | value g =>
      simp only [] at h
      split at h
      · rename_i fn first captured hg
        obtain ⟨fn', fs', cs', e, hfn, hf, hc⟩ := hρ g (by simp [Call.operands]) _ hg
        rcases hfn with ⟨b, l, rfl, hb, rfl⟩ | ⟨hny, hff⟩
        · simp only [] at h
          split at h
          · rename_i hf hc
            cases h
            have e1 : fs' = #[] := Array.ext' hf
            have e2 : cs' = #[] := Array.ext' hc
            subst e1; subst e2
            refine ⟨cargs.map ρ, hvs', l, hb, fun w => ?_⟩
            simp only [resolve, e, Deferred.ofValue, Sem.run_bind, Sem.run_pure, Result.andThen_ok, invoke, Array.empty_append]
          · cases h
        obtain rfl : fn = fn' := hff.symm
        have hfa : rels φ (first ++ vs) (fs' ++ cargs.map ρ).toList := by simpa using hf.append hvs
        have hres : ∀ w, ((do let d ← resolve ρ ⟨.value g, cargs, ctypes⟩ type; invoke d.target d.args) : Sem Next).run P w = (invoke (.fn fn cs') (fs' ++ cargs.map ρ)).run P w := fun w => by
          simp only [resolve, e, Deferred.ofValue, Sem.run_bind, Sem.run_pure, Result.andThen_ok]
        cases fn with
        | func g' =>
          simp only [Option.some.injEq, Prod.mk.injEq] at h
          obtain ⟨rfl, rfl⟩ := h
          refine ⟨fs' ++ cargs.map ρ ++ cs', by simpa [List.append_assoc] using hfa.append hc, fun w => ?_⟩
          rw [hres]; rfl
        | method name =>
          simp only [] at h
          split at h
          · rename_i ty v rest hfe
            cases hm : methodT P ty name with
            | none => rw [hm] at h; cases h
            | some g' =>
              rw [hm] at h; cases h
              rw [hfe] at hfa
              obtain ⟨y, ys, ey, ⟨v', rfl, hv⟩, hys⟩ := hfa
              have hmo := method_ok (P := P) hv hm (fuel := P.types.size + Made.depth - 1)
              have hfu : P.types.size + Made.depth - 1 + 1 = P.types.size + Made.depth := by simp [Made.depth]
              rw [hfu] at hmo
              have earr : fs' ++ cargs.map ρ = (Value.iface ty v' :: ys).toArray := by apply Array.ext'; simpa using ey
              refine ⟨(v' :: ys).toArray, ⟨_, _, rfl, hv, hys⟩, fun w => ?_⟩
              have e1 : ((Value.iface ty v' :: ys).toArray).extract 1 ((Value.iface ty v' :: ys).toArray).size = ys.toArray := by apply Array.ext'; simp
              have e2 : #[v'] ++ ys.toArray = (v' :: ys).toArray := by apply Array.ext'; simp
              rw [hres, earr]
              simp only [invoke, List.getElem?_toArray, List.getElem?_cons_zero, e1, callMethod, Sem.run_bind, run_program, Result.andThen_ok, hmo w, e2]
          · cases h
        | methodOf ty name =>
          simp only [] at h
          split at h
          · rename_i r rest i hfe hi
            obtain ⟨d, hd, hsh⟩ := underlying_of hi
            rw [hfe] at hfa
            obtain ⟨y, ys, ey, hy, hys⟩ := hfa
            have earr : fs' ++ cargs.map ρ = (y :: ys).toArray := by apply Array.ext'; simpa using ey
            have e1 : ((y :: ys).toArray).extract 1 ((y :: ys).toArray).size = ys.toArray := by apply Array.ext'; simp
            rw [hsh] at h
            split at h
            · rename_i ty' v hsi
              obtain ⟨ms, rfl⟩ := shOf_iface hsi
              obtain ⟨v', rfl, hv⟩ := hy
              cases hm : methodT P ty' name with
              | none => rw [hm] at h; cases h
              | some g' =>
                rw [hm] at h; cases h
                have hmo := method_ok (P := P) hv hm (fuel := P.types.size + Made.depth - 1)
                have hfu : P.types.size + Made.depth - 1 + 1 = P.types.size + Made.depth := by simp [Made.depth]
                rw [hfu] at hmo
                refine ⟨(v' :: ys).toArray, ⟨_, _, rfl, hv, hys⟩, fun w => ?_⟩
                have e2 : #[v'] ++ ys.toArray = (v' :: ys).toArray := by apply Array.ext'; simp
                rw [hres, earr]
                simp only [invoke, List.getElem?_toArray, List.getElem?_cons_zero, Sem.run_bind, run_underlying hd, e1, callMethod, run_program, Result.andThen_ok, hmo w, e2]
            · cases h
            · rename_i hne _
              cases hm : methodT P ty name with
              | none => rw [hm] at h; cases h
              | some g' =>
                rw [hm] at h; cases h
                have hmo := method_ok (P := P) hy hm (fuel := P.types.size + Made.depth - 1)
                have hfu : P.types.size + Made.depth - 1 + 1 = P.types.size + Made.depth := by simp [Made.depth]
                rw [hfu] at hmo
                refine ⟨(y :: ys).toArray, ⟨_, _, rfl, hy, hys⟩, fun w => ?_⟩
                have e2 : #[y] ++ ys.toArray = (y :: ys).toArray := by apply Array.ext'; simp
                rw [hres, earr]
                cases d <;> first
                  | exact (hne rfl).elim
                  | simp only [invoke, List.getElem?_toArray, List.getElem?_cons_zero, Sem.run_bind, run_underlying hd, e1, callMethod, run_program, Result.andThen_ok, hmo w, e2]
          · cases h
        | via ty path g' ptr =>
          simp only [] at h
          split at h
          · rename_i v rest i hfe hpath hi
            obtain ⟨d, hd, hsh⟩ := underlying_of hi
            rw [hfe] at hfa
            obtain ⟨y, ys, ey, hy, hys⟩ := hfa
            have earr : fs' ++ cargs.map ρ = (y :: ys).toArray := by apply Array.ext'; simpa using ey
            have e1 : ((y :: ys).toArray).extract 1 ((y :: ys).toArray).size = ys.toArray := by apply Array.ext'; simp
            have e2 : #[y] ++ ys.toArray = (y :: ys).toArray := by apply Array.ext'; simp
            have fin : ∀ (hrec : ∀ w, (receiverVia ty y path ptr).run P w = .ok y w), ∃ args' : Array Value, rels φ (v :: rest) args'.toList ∧ ∀ w, ((do let d ← resolve ρ ⟨.value g, cargs, ctypes⟩ type; invoke d.target d.args) : Sem Next).run P w = (callFunc g' args').run P w := fun hrec =>
              ⟨(y :: ys).toArray, ⟨_, _, rfl, hy, hys⟩, fun w => by
                rw [hres, earr]
                simp only [invoke, List.getElem?_toArray, List.getElem?_cons_zero, Sem.run_bind, hrec w, Result.andThen_ok, e1, e2]⟩
            have hrec0 : ∀ w, (receiverVia ty y path ptr).run P w = (receiverAt ty (.val y) ptr none).run P w := fun w => by
              simp only [receiverVia, hpath, follow, Sem.run_bind, Sem.run_pure, Result.andThen_ok]
            rw [hsh] at h
            split at h
            · rename_i el hse
              obtain rfl := shOf_ptr hse
              cases h
              exact fin fun w => by rw [hrec0]; simp only [receiverAt, Sem.run_bind, run_underlying hd, Result.andThen_ok, Place.get, Sem.run_pure]
            · cases h
            · rename_i hne
              cases h
              refine fin fun w => ?_
              rw [hrec0]
              simp only [receiverAt, Sem.run_bind, run_underlying hd, Result.andThen_ok]
              cases d <;> first
                | exact (hne _ rfl).elim
                | simp only [Place.get, Sem.run_pure]
            · cases h
          · cases h
        | yield l => exact (hny l rfl).elim
      · cases h
end Dv
end

section
namespace Dv
open Go
universe u

/-- a computation comes to one end, with these results -/
def IsC (F : (V → H → Prop) → Prop) (v : V) (h : H) : Prop := ∀ k, F k ↔ k v h
def IsT (F : (Tr V → H → Prop) → Prop) (t : Tr V) (h : H) : Prop := ∀ k, F k ↔ k t h
def IsE (F : (Ex → Tr V → H → Prop) → Prop) (e : Ex) (t : Tr V) (h : H) : Prop := ∀ k, F k ↔ k e t h

/-- each call that comes to something comes to one end -/
def PtCall (call : Tgt → List V → H → (V → H → Prop) → Prop) : Prop := ∀ f args h k, call f args h k → ∃ v h', IsC (call f args h) v h' ∧ h.n ≤ h'.n

noncomputable def effV (P : Program) (t : Tr V) (h : H) (op : Op) : Option (V × H) :=
  match op with
  | .store ty a x => match eva t a, eva t x, mkTI P ty with
    | some (.ptr b o), some v, some i => if v.cells.length = i.size then (storeV h b o v.cells).map fun h => (undefV, h) else none
    | _, _, _ => none
  | .call { callee := .builtin b, args, argTypes } => match b, args.toList, argTypes.toList with
    | .append, [s, x], ty :: xty :: _ => match eva t s, eva t x with
      | some s, some x => appendV P h ty xty s x
      | _, _ => none
    | .copy, [d, x], ty :: _ => match eva t d, eva t x with
      | some d, some x => copyV P h ty d x
      | _, _ => none
    | _, _, _ => none
  | _ => none

/-- a call of a function -/
def callOp : Op → Option Call
  | .call { callee := .builtin _, .. } => none
  | .call c => some c
  | _ => none

theorem exk (k : V → H → Prop) (a : V) (b : H) : (∃ v h', (a = v ∧ b = h') ∧ k v h') ↔ k a b := ⟨fun ⟨v, h', ⟨e1, e2⟩, hk⟩ => by rw [e1, e2]; exact hk, fun hk => ⟨a, b, ⟨rfl, rfl⟩, hk⟩⟩

theorem exf (k : Tgt → List V → Prop) (a : Tgt) (b : List V) : (∃ f as, (a = f ∧ b = as) ∧ k f as) ↔ k a b := ⟨fun ⟨v, h', ⟨e1, e2⟩, hk⟩ => by rw [e1, e2]; exact hk, fun hk => ⟨a, b, ⟨rfl, rfl⟩, hk⟩⟩

theorem effK_iff {C : Cx} {call : Tgt → List V → H → (V → H → Prop) → Prop} {t : Tr V} {h : H} {op : Op} {k : V → H → Prop} :
    effK Bad C call t h op k ↔ (callOp op = none ∧ ∃ v h', effV C.P t h op = some (v, h') ∧ k v h') ∨ (∃ c f args, callOp op = some c ∧ resolveV C.P t c = some (f, args) ∧ call f args h k) := by
  cases op <;> simp only [effK, effV, callOp] <;> try (simp; done)
  case store ty a x =>
    cases eva t a with
    | none => simp
    | some va =>
      cases va <;> (try simp only []) <;> try (simp; done)
      rename_i b o
      cases eva t x with
      | none => simp
      | some v =>
        cases mkTI C.P ty with
        | none => simp
        | some i =>
          simp only [beq_dec, lenL_eq]
          by_cases hl : v.cells.length = i.size
          · simp only [hl, decide_true, cond_true, if_true]
            rw [storeK_iff]
            cases storeV h b o v.cells <;> simp [exk]
          · simp [hl]
  case call c =>
    obtain ⟨callee, args, argTypes⟩ := c
    cases callee with
    | value g =>
      cases hr : resolveV C.P t ⟨.value g, args, argTypes⟩ with
      | none => simp [hr]
      | some r => obtain ⟨f, as⟩ := r; simp [hr, exf]
    | invoke r m =>
      cases hr : resolveV C.P t ⟨.invoke r m, args, argTypes⟩ with
      | none => simp [hr]
      | some r => obtain ⟨f, as⟩ := r; simp [hr, exf]
    | builtin b =>
      simp only [true_and, reduceCtorEq, false_and, exists_const, exists_false, or_false]
      split
      · rename_i s x ty xty ts e1 e2
        simp only [e1, e2]
        cases eva t s with
        | none => simp
        | some s =>
          cases eva t x with
          | none => simp
          | some x => exact appendK_iff _ _ _ _ _ _ _
      · rename_i d x ty ts e1 e2
        simp only [e1, e2]
        cases eva t d with
        | none => simp
        | some d =>
          cases eva t x with
          | none => simp
          | some x => exact copyK_iff _ _ _ _ _ _
      · rename_i h1 h2
        constructor
        · intro h; exact h.elim
        · rintro ⟨v, h', he, _⟩
          split at he
          · rename_i s x ty xty ts e1 e2
            exact (h1 _ _ _ _ _ rfl e1 e2).elim
          · rename_i d x ty ts e1 e2
            exact (h2 _ _ _ _ rfl e1 e2).elim
          · cases he

theorem storeV_n {h h' : H} {b o : Nat} {vs : List V} (he : storeV h b o vs = some h') : h'.n = h.n := by
  unfold storeV at he
  split at he
  · split at he
    · cases he; rfl
    · cases he
  · cases he
theorem appendV_n {P : Program} {h h' : H} {ty xty : TypeId} {s x v : V} (he : appendV P h ty xty s x = some (v, h')) : h.n ≤ h'.n := by
  unfold appendV at he
  repeat' (split at he <;> try (cases he; done))
  all_goals first
    | (cases he; exact Nat.le_refl _)
    | (cases he; exact Nat.le_succ _)
    | (rw [Option.map_eq_some_iff] at he; obtain ⟨h'', he, e⟩ := he; cases e; exact Nat.le_of_eq (storeV_n he).symm)
theorem copyV_n {P : Program} {h h' : H} {ty : TypeId} {d x v : V} (he : copyV P h ty d x = some (v, h')) : h.n ≤ h'.n := by
  unfold copyV at he
  repeat' (split at he <;> try (cases he; done))
  all_goals first
    | (cases he; exact Nat.le_refl _)
    | (rw [Option.map_eq_some_iff] at he; obtain ⟨h'', he, e⟩ := he; cases e; exact Nat.le_of_eq (storeV_n he).symm)
theorem effV_n {P : Program} {t : Tr V} {h h' : H} {op : Op} {v : V} (he : effV P t h op = some (v, h')) : h.n ≤ h'.n := by
  unfold effV at he
  repeat' (split at he <;> try (cases he; done))
  all_goals first
    | exact appendV_n he
    | exact copyV_n he
    | (rw [Option.map_eq_some_iff] at he; obtain ⟨h'', he, e⟩ := he; cases e; exact Nat.le_of_eq (storeV_n he).symm)

theorem effK_pt {C : Cx} {call : Tgt → List V → H → (V → H → Prop) → Prop} (hc : PtCall call) {t : Tr V} {h : H} {op : Op} {k : V → H → Prop} (hk : effK Bad C call t h op k) :
    ∃ v h', IsC (effK Bad C call t h op) v h' ∧ h.n ≤ h'.n ∧ ((callOp op = none ∧ effV C.P t h op = some (v, h')) ∨ (∃ c f args, callOp op = some c ∧ resolveV C.P t c = some (f, args) ∧ IsC (call f args h) v h')) := by
  rcases effK_iff.1 hk with ⟨h0, v, h', he, _⟩ | ⟨c, f, args, h0, hr, hcall⟩
  · refine ⟨v, h', fun k => ?_, effV_n he, .inl ⟨h0, he⟩⟩
    rw [effK_iff]
    constructor
    · rintro (⟨_, v2, h2, he2, hk2⟩ | ⟨c, _, _, hc0, _⟩)
      · rw [he] at he2; cases he2; exact hk2
      · rw [h0] at hc0; cases hc0
    · intro hk; exact .inl ⟨h0, v, h', he, hk⟩
  · obtain ⟨v, h', hI, hn⟩ := hc f args h k hcall
    refine ⟨v, h', fun k => ?_, hn, .inr ⟨c, f, args, h0, hr, hI⟩⟩
    rw [effK_iff]
    constructor
    · rintro (⟨h00, _⟩ | ⟨c2, f2, args2, hc0, hr2, hcall2⟩)
      · rw [h0] at h00; cases h00
      · rw [h0] at hc0; cases hc0
        rw [hr] at hr2; cases hr2
        exact (hI k).1 hcall2
    · intro hk; exact .inr ⟨c, f, args, h0, hr, (hI k).2 hk⟩

theorem undef_rel (φ : Phi) : rel φ undefV undef := ⟨#[], rfl, rfl⟩

theorem effV_ok {P : Program} {φ : Phi} {h h' : H} {w : World} (hr : HR φ h w) {t : Tr V} {ρ : Operand → Value} {o : Oper} {v : V} (hρ : ∀ x ∈ o.op.operands, ∀ u, eva t x = some u → rel φ u (ρ x)) (he : effV P t h o.op = some (v, h')) (hf : Free φ h.n h'.n) :
    ∃ φ' w' y, ((execOp ρ o).run P w = .ok (.value y) w' ∨ ((execOp ρ o).run P w = .ok .skip w' ∧ y = undef)) ∧ Fr φ h w φ' h' w' ∧ HR φ' h' w' ∧ rel φ' v y := by
  obtain ⟨dst, op, type, pos, after, guard⟩ := o
  simp only [] at hρ he
  cases op <;> simp only [effV] at he <;> try (cases he; done)
  case store ty a x =>
    split at he
    · rename_i b o vx i ha hx hi
      obtain ⟨l, hφ, hya⟩ := hρ a (by simp [Op.operands]) _ ha
      have hxr := hρ x (by simp [Op.operands]) _ hx
      obtain ⟨inf, d, h1, _, h3, _⟩ := mkTI_spec hi
      split at he
      · rename_i hl
        rw [Option.map_eq_some_iff] at he
        obtain ⟨h'', hst, e⟩ := he
        cases e
        obtain ⟨w', hw', hfr, hr'⟩ := store_ok (P := P) hr hφ hxr.cells hst
        have hlen := hxr.cells.length
        simp only [Array.length_toList] at hlen
        refine ⟨φ, w', undef, .inr ⟨?_, rfl⟩, hfr, hr', undef_rel φ⟩
        have hsz : ¬ (ρ x).cells.size ≠ inf.size := fun hne => hne (by omega)
        simp only [execOp, Instr.storeAt, hya, Instr.sureAddr, Sem.run_bind, Sem.run_pure, Result.andThen_ok, storeVar, run_sizeOf' h1, hsz, if_false, hw']
      · cases he
    · cases he
  case call c =>
    obtain ⟨callee, args, argTypes⟩ := c
    cases callee with
    | value g => cases he
    | invoke r m => cases he
    | builtin b =>
      simp only [] at he
      split at he
      · rename_i s x ty xty ts e1 e2
        have ea : args.map ρ = #[ρ s, ρ x] := by apply Array.ext'; simp [e1]
        have et : argTypes = (ty :: xty :: ts).toArray := by apply Array.ext'; simp [e2]
        have hm : ∀ z ∈ [s, x], z ∈ (Op.call ⟨.builtin .append, args, argTypes⟩).operands := fun z hz => by
          have : z ∈ args.toList := by rw [e1]; exact hz
          simp [Op.operands, Call.operands]; simpa using this
        split at he
        · rename_i vs vx hs hx
          obtain ⟨φ', w', y, hrun, hfr, hr', hv⟩ := append_ok (P := P) (type := type) (ts := ts) hr (hρ s (hm s (by simp)) _ hs) (hρ x (hm x (by simp)) _ hx) he hf
          refine ⟨φ', w', y, .inl ?_, hfr, hr', hv⟩
          simp only [execOp, resolve, invoke, builtin, Sem.run_bind, Sem.run_pure, Result.andThen_ok, ea, et, hrun]
        · cases he
      · rename_i d x ty ts e1 e2
        have ea : args.map ρ = #[ρ d, ρ x] := by apply Array.ext'; simp [e1]
        have et : argTypes = (ty :: ts).toArray := by apply Array.ext'; simp [e2]
        have hm : ∀ z ∈ [d, x], z ∈ (Op.call ⟨.builtin .copy, args, argTypes⟩).operands := fun z hz => by
          have : z ∈ args.toList := by rw [e1]; exact hz
          simp [Op.operands, Call.operands]; simpa using this
        split at he
        · rename_i vd vx hd hx
          obtain ⟨w', y, hrun, hfr, hr', hv⟩ := copy_ok (P := P) (type := type) (ts := ts) hr (hρ d (hm d (by simp)) _ hd) (hρ x (hm x (by simp)) _ hx) he
          refine ⟨φ, w', y, .inl ?_, hfr, hr', hv⟩
          simp only [execOp, resolve, invoke, builtin, Sem.run_bind, Sem.run_pure, Result.andThen_ok, ea, et, hrun]
        · cases he
      · cases he
end Dv
end

section
namespace Dv
open Go
universe u

/-- An operation that is carried out comes to this. -/
inductive OpR (C : Cx) (call : Tgt → List V → H → (V → H → Prop) → Prop) (t : Tr V) (h : H) (op : Op) : V → H → Prop
  | pure {v : V} (hk : kindOf C.P op = .pure) (hv : pureV C.P t op = some v) : OpR C call t h op v h
  | read {v : V} (hk : kindOf C.P op = .read) (hv : readV C.P t h op = some v) : OpR C call t h op v h
  | alloc {o : O} {vf : Nat → V} (hk : kindOf C.P op = .alloc) (hv : allocV C.P t op = some (o, vf)) : OpR C call t h op (vf h.n) (h.push o)
  | eff {v : V} {h' : H} (hk : kindOf C.P op = .eff) (h0 : callOp op = none) (hv : effV C.P t h op = some (v, h')) : OpR C call t h op v h'
  | call {c : Call} {f : Tgt} {args : List V} {v : V} {h' : H} (hk : kindOf C.P op = .eff) (h0 : callOp op = some c) (hv : resolveV C.P t c = some (f, args)) (hc : IsC (call f args h) v h') (hn : h.n ≤ h'.n) : OpR C call t h op v h'

section
variable {C : Cx} {call : Tgt → List V → H → (V → H → Prop) → Prop}

theorem OpR.n {t : Tr V} {h h' : H} {op : Op} {v : V} (r : OpR C call t h op v h') : h.n ≤ h'.n := by
  cases r with
  | pure => exact Nat.le_refl _
  | read => exact Nat.le_refl _
  | alloc => exact Nat.le_succ _
  | eff _ _ hv => exact effV_n hv
  | call _ _ _ _ hn => exact hn

theorem effK_OpR (hc : PtCall call) {t : Tr V} {h : H} {op : Op} {k : V → H → Prop} (hkd : kindOf C.P op = .eff) (hk : effK Bad C call t h op k) :
    ∃ v h', OpR C call t h op v h' ∧ IsC (effK Bad C call t h op) v h' := by
  obtain ⟨v, h', hI, hn, hr⟩ := effK_pt hc hk
  rcases hr with ⟨h0, he⟩ | ⟨c, f, args, h0, hr, hI'⟩
  · exact ⟨v, h', .eff hkd h0 he, hI⟩
  · exact ⟨v, h', .call hkd h0 hr hI' hn, hI⟩

theorem opK_OpR (hc : PtCall call) {t : Tr V} {h : H} {op : Op} {k : V → H → Prop} (hk : opK Bad C call t h op k) :
    ∃ v h', OpR C call t h op v h' ∧ IsC (opK Bad C call t h op) v h' := by
  unfold opK at hk
  split at hk
  · rename_i hkd
    split at hk
    · rename_i v hv
      exact ⟨v, h, .pure hkd hv, fun k => by simp [opK, hkd, hv]⟩
    · cases hk
  · rename_i hkd
    split at hk
    · rename_i v hv
      exact ⟨v, h, .read hkd hv, fun k => by simp [opK, hkd, hv]⟩
    · cases hk
  · rename_i hkd
    split at hk
    · rename_i o vf hv
      exact ⟨vf h.n, h.push o, .alloc hkd hv, fun k => by simp [opK, hkd, hv, H.newK_eq]⟩
    · cases hk
  · rename_i hkd
    obtain ⟨v, h', hr, hI⟩ := effK_OpR hc hkd hk
    exact ⟨v, h', hr, fun k => by simp only [opK, hkd]; exact hI k⟩

noncomputable def putV (nt : Nat) (t : Tr V) (dst : Option Tmp) (v : V) : Option (Tr V) :=
  match dst with
  | some d => if d < nt then some (t.set depth d v) else none
  | none => some t

theorem putK_iff {nt : Nat} {t : Tr V} {dst : Option Tmp} {v : V} {k : Tr V → Prop} : putK Bad nt t dst v k ↔ ∃ t', putV nt t dst v = some t' ∧ k t' := by
  unfold putK putV
  cases dst with
  | none => simp
  | some d =>
    simp only [blt_dec]
    by_cases hd : d < nt
    · simp [hd, Tr.setK_eq]
    · simp [hd]

/-- The slots of the evaluator and those of the machine. -/
def TR (φ : Phi) (nt : Nat) (t : Tr V) (a : Act) : Prop := nt ≤ a.tmps.size ∧ ∀ i v, t.get i = some v → ∃ x, a.tmps[i]? = some x ∧ rel φ v x

theorem TR.mono {φ ψ : Phi} {nt : Nat} {t : Tr V} {a : Act} (h : TR φ nt t a) (hle : φ.le ψ) : TR ψ nt t a :=
  ⟨h.1, fun i v hv => let ⟨x, hx, hr⟩ := h.2 i v hv; ⟨x, hx, hr.mono hle _ _⟩⟩

theorem Act.put_tmps_size (a : Act) (dst : Option Tmp) (y : Value) : (a.put dst y).tmps.size = a.tmps.size := by
  cases dst <;> simp [Act.put]
theorem Act.put_defers (a : Act) (dst : Option Tmp) (y : Value) : (a.put dst y).defers = a.defers := by
  cases dst <;> simp [Act.put]

theorem TR.put {φ : Phi} {nt : Nat} {t t' : Tr V} {a : Act} {dst : Option Tmp} {v : V} {y : Value} (h : TR φ nt t a) (hy : rel φ v y) (hp : putV nt t dst v = some t') : TR φ nt t' (a.put dst y) := by
  refine ⟨by rw [Act.put_tmps_size]; exact h.1, fun i u hu => ?_⟩
  unfold putV at hp
  cases dst with
  | none => cases hp; exact h.2 i u hu
  | some d =>
    simp only [] at hp
    split at hp
    · rename_i hd
      cases hp
      have hsz := h.1
      simp only [Act.put]
      rcases Tr.get_set v depth t d i u hu with ⟨rfl, rfl⟩ | ⟨h1, h2⟩
      · exact ⟨y, by simp [Array.getElem?_setIfInBounds]; exact Nat.lt_of_lt_of_le hd hsz, hy⟩
      · obtain ⟨x, hx, hr⟩ := h.2 i u h2
        exact ⟨x, by rw [Array.getElem?_setIfInBounds]; simpa [h1, Ne.symm h1] using hx, hr⟩
    · cases hp

/-- Whether an operation is carried out, seen by the machine. -/
theorem wanted_ok {φ : Phi} {ops : Array Oper} {t : Tr V} {a : Act} {o : Oper} {b : Bool} (h : wantedV ops.toList t o = some b)
    (ht : ∀ d ∈ looksL ops.toList o, ∀ v, t.get d = some v → ∃ x, a.tmps[d]? = some x ∧ rel φ v x) : Region.wanted o (yielded ops a.tmps) = b := by
  unfold wantedV at h
  unfold Region.wanted
  cases hg : o.guard with
  | none => rw [hg] at h; cases h; rfl
  | some g =>
    obtain ⟨j, want⟩ := g
    rw [hg] at h
    simp only [] at h ⊢
    unfold yielded
    have en : nth ops.toList j = ops[j]? := by rw [nth_eq]; simp
    rw [en] at h
    cases hj : ops[j]? with
    | none => rw [hj] at h; cases h; rfl
    | some oj =>
      rw [hj] at h
      simp only [Option.bind_some] at h ⊢
      cases hd : oj.dst with
      | none => rw [hd] at h; cases h; rfl
      | some d =>
        rw [hd] at h
        simp only [Option.bind_some] at h ⊢
        have hmem : d ∈ looksL ops.toList o := by
          refine List.mem_append_right _ ?_
          simp [hg, en, hj, hd]
        split at h
        · rename_i b' hb
          obtain ⟨x, hx, hr⟩ := ht d hmem _ hb
          cases hr
          simp only [hx]
          cases h
          cases b' <;> cases want <;> rfl
        · rename_i hb
          obtain ⟨x, hx, y, rfl, hr⟩ := ht d hmem _ hb
          cases h
          simp only [hx]
          rfl
        · cases h

/-- behind a call, or behind a round -/
def TCalls (P : Program) (φ : Phi) (tg : Tgt) (args : Array Value) (w : World) (R : Value → World → Prop) : Prop :=
  match tg with
  | .fn f => RCalls P f args w R
  | .rnd b => ∀ l, φ b = some l → ∃ fn tmps asg body, (Instr.yield l.rb args).run P w = .ok (.round l.rb fn tmps asg body) w ∧ RoundIn Fence.wide 0 P l.rb fn tmps asg body w fun e w' => ∃ v, e = .returned v ∧ R v w'

/-- What a call answers, is what the model's call comes to. -/
def CallOK (P : Program) (call : Tgt → List V → H → (V → H → Prop) → Prop) : Prop :=
  ∀ f args h v h', IsC (call f args h) v h' → ∀ (φ : Phi) (w : World) (args' : Array Value), HR φ h w → rels φ args args'.toList → Free φ h.n h'.n →
    TCalls P φ f args' w fun y w' => ∃ φ', Fr φ h w φ' h' w' ∧ HR φ' h' w' ∧ rel φ' v y

theorem callOp_some {op : Op} {c : Call} (h : callOp op = some c) : op = .call c := by
  unfold callOp at h
  split at h
  · cases h
  · cases h; rfl
  · cases h

theorem OpR.notDefer {t : Tr V} {h h' : H} {op : Op} {v : V} (r : OpR C call t h op v h') : notDefer op = true := by
  cases op <;> try rfl
  cases r with
  | pure hk => cases hk
  | read hk => cases hk
  | alloc hk => cases hk
  | eff _ _ hv => cases hv
  | call _ h0 => cases h0

/-- One operation, in the walk. -/
theorem OpR.wp {ro : Option Nat} {P : Program} {φ : Phi} {h h' : H} {w : World} {t : Tr V} {o : Oper} {v : V} {a : Act} {next : Act → World → Prop} {Q : Exit → Act → World → Prop} (hP : C.P = P) (hcall : CallOK P call) (r : OpR C call t h o.op v h')
    (hr : HR φ h w) (hρ : ∀ x ∈ o.op.operands, ∀ u, eva t x = some u → rel φ u (a.eval x)) (hf : Free φ h.n h'.n)
    (hn : ∀ φ' w' y, Fr φ h w φ' h' w' → HR φ' h' w' → rel φ' v y → next (a.put o.dst y) w') : o.wpIn (WF ro) 0 P a w next Q := by
  have hd := r.notDefer
  subst hP
  cases r with
  | pure _ hv =>
    obtain ⟨y, h1, h2⟩ := pureV_ok hρ hv
    exact wp_value hd (h1 w) (hn φ w y (.refl ..) hr h2)
  | read _ hv =>
    obtain ⟨y, h1, h2⟩ := readV_ok hr hρ hv
    exact wp_value hd h1 (hn φ w y (.refl ..) hr h2)
  | alloc _ hv =>
    obtain ⟨w', y, cs, el, c, fr, h1, h2⟩ := allocV_ok hρ hv
    obtain ⟨g1, g2, g3⟩ := HR.new hr h2 (hf _ (Nat.le_refl _) (Nat.lt_succ_self _))
    exact wp_value hd h1 (hn _ w' y g1 g2 g3)
  | eff _ _ hv =>
    obtain ⟨φ', w', y, h1, g1, g2, g3⟩ := effV_ok hr hρ hv hf
    rcases h1 with h1 | ⟨h1, rfl⟩
    · exact wp_value hd h1 (hn _ w' y g1 g2 g3)
    · exact wp_skip' hd h1 (hn _ w' _ g1 g2 g3)
  | @call c f args _ _ _ h0 hv hc _ =>
    have hop := callOp_some h0
    obtain ⟨args', ha, hrun⟩ := resolve_ok (type := o.type) (ρ := a.eval) (c := c) (fun x hx u hu => hρ x (by rw [hop]; simpa [Op.operands] using hx) u hu) hv
    have hexec : execOp a.eval o = (do let d ← resolve a.eval c o.type; invoke d.target d.args) := by
      obtain ⟨dst, op, type, pos, after, guard⟩ := o
      simp only [] at hop
      subst hop
      rfl
    have hcl := hcall f args h v h' hc φ w args' hr ha hf
    cases f with
    | fn f => exact wp_call hd (f := f) (args := args') (fun w => by rw [hexec]; exact hrun w) hcl fun y w' ⟨φ', g1, g2, g3⟩ => hn φ' w' y g1 g2 g3
    | rnd b =>
      obtain ⟨l, hl, hrun⟩ := hrun
      obtain ⟨fn, tmps, asg, body, h1, h2⟩ := hcl l hl
      exact wp_round hd (by rw [hexec, hrun w]; exact h1) h2 fun y w' ⟨φ', g1, g2, g3⟩ => hn φ' w' y g1 g2 g3
end


/-! ### The operations of a region, in the text's order -/
section
variable {C : Cx} {call : Tgt → List V → H → (V → H → Prop) → Prop}

theorem opsK_pt (hc : PtCall call) {nt : Nat} {all : List Oper} : ∀ (l : List Oper) (t : Tr V) (h : H) (k : Tr V → H → Prop), opsK Bad C call nt all l t h k →
    ∃ T H', IsT (opsK Bad C call nt all l t h) T H' ∧ h.n ≤ H'.n
  | [], t, h, k, _ => ⟨t, h, fun k => Iff.rfl, Nat.le_refl _⟩
  | o :: l, t, h, k, hk => by
    simp only [opsK] at hk
    split at hk
    · rename_i hw
      obtain ⟨v, h', hr, hI⟩ := opK_OpR hc hk
      have hk2 := (hI _).1 hk
      obtain ⟨t', hp, hk3⟩ := putK_iff.1 hk2
      obtain ⟨T, H', hT, hn⟩ := opsK_pt hc l t' h' k hk3
      refine ⟨T, H', fun k => ?_, Nat.le_trans hr.n hn⟩
      simp only [opsK, hw]
      rw [hI, putK_iff]
      simp only [hp, Option.some.injEq, exists_eq_left']
      exact hT k
    · rename_i hw
      obtain ⟨t', hp, hk3⟩ := putK_iff.1 hk
      obtain ⟨T, H', hT, hn⟩ := opsK_pt hc l t' h k hk3
      refine ⟨T, H', fun k => ?_, hn⟩
      simp only [opsK, hw]
      rw [putK_iff]
      simp only [hp, Option.some.injEq, exists_eq_left']
      exact hT k
    · cases hk

theorem TR.looks {φ : Phi} {nt : Nat} {t : Tr V} {a : Act} (h : TR φ nt t a) (x : Operand) (u : V) (hu : eva t x = some u) : rel φ u (a.eval x) := eva_rel h.2 x u hu

theorem opsK_ok {ro : Option Nat} {P : Program} (hP : C.P = P) (hc : PtCall call) (hcall : CallOK P call) {nt : Nat} {ops : Array Oper} {Q : Exit → Act → World → Prop} {T : Tr V} {H' : H} : ∀ (l : List Oper) (t : Tr V) (h : H), opsK Bad C call nt ops.toList l t h (fun t' h' => t' = T ∧ h' = H') →
    ∀ (φ : Phi) (w : World) (a : Act), HR φ h w → TR φ nt t a → Free φ h.n H'.n →
      (∀ φ' w' a', Fr φ h w φ' H' w' → HR φ' H' w' → TR φ' nt T a' → a'.defers = a.defers → Q .normal a' w') → wpListIn (WF ro) 0 P ops Q l a w
  | [], t, h, hk, φ, w, a, hr, ht, hf, hQ => by
    obtain ⟨rfl, rfl⟩ : t = T ∧ h = H' := hk
    exact hQ φ w a (.refl ..) hr ht rfl
  | o :: l, t, h, hk, φ, w, a, hr, ht, hf, hQ => by
    simp only [opsK] at hk
    simp only [wpListIn]
    split at hk
    · rename_i hw
      obtain ⟨v, h', hop, hI⟩ := opK_OpR hc hk
      have hk2 := (hI _).1 hk
      obtain ⟨t', hp, hk3⟩ := putK_iff.1 hk2
      obtain ⟨T2, H2, hT, hn⟩ := opsK_pt hc l t' h' _ hk3
      obtain ⟨rfl, rfl⟩ := (hT _).1 hk3
      rw [if_pos (wanted_ok hw fun d _ v hv => ht.2 d v hv)]
      refine hop.wp hP hcall hr (fun x _ u hu => ht.looks x u hu) (hf.left hn) fun φ' w' y hfr hr' hy => ?_
      refine opsK_ok hP hc hcall l t' h' hk3 φ' w' _ hr' ((ht.mono hfr.ext).put hy hp) (hf.right hfr) fun φ'' w'' a' hfr2 hr2 ht2 hd => ?_
      exact hQ φ'' w'' a' (hfr.trans hfr2) hr2 ht2 (by rw [hd, Act.put_defers])
    · rename_i hw
      obtain ⟨t', hp, hk3⟩ := putK_iff.1 hk
      rw [if_neg (by rw [wanted_ok hw fun d _ v hv => ht.2 d v hv]; decide)]
      refine ⟨fun _ _ => trivial, ?_⟩
      refine opsK_ok hP hc hcall l t' h hk3 φ w _ hr (ht.put (undef_rel φ) hp) hf fun φ'' w'' a' hfr2 hr2 ht2 hd => ?_
      exact hQ φ'' w'' a' hfr2 hr2 ht2 (by rw [hd, Act.put_defers])
    · cases hk
end
end Dv
end
