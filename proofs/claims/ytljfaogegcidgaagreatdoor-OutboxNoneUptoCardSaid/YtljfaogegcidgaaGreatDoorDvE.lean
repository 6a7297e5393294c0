/-
  Loads, new blocks and stores answer as the model's do.
-/
import Derived.Test.YtljfaogegcidgaaGreatDoorDvD
section
namespace Dv
open Go
universe u

noncomputable def H.push (h : H) (o : O) : H := ⟨Nat.succ h.n, h.t.set depth h.n o⟩
noncomputable def H.upd (h : H) (b : Nat) (o : O) : H := ⟨h.n, h.t.set depth b o⟩

theorem H.newK_eq {R : Sort u} (h : H) (o : O) (k : Nat → H → R) : h.newK o k = k h.n (h.push o) := Tr.setK_eq _ _ _ _ _
theorem H.setK_eq {R : Sort u} (h : H) (b : Nat) (o : O) (k : H → R) : h.setK b o k = k (h.upd b o) := Tr.setK_eq _ _ _ _ _

theorem H.get_eq (h : H) (b : Nat) : h.get b = if b < h.n then h.t.get b else none := by
  unfold H.get
  by_cases hb : b < h.n
  · rw [if_pos hb]
    have : Nat.sub h.n b = (h.n - b - 1) + 1 := by show h.n - b = _; omega
    rw [this]
  · rw [if_neg hb]
    have : Nat.sub h.n b = 0 := by show h.n - b = 0; omega
    rw [this]; rfl

theorem H.get_lt {h : H} {b : Nat} {o : O} (e : h.get b = some o) : b < h.n := by
  rw [H.get_eq] at e
  by_cases hb : b < h.n
  · exact hb
  · rw [if_neg hb] at e; cases e

theorem H.get_push {h : H} {o o' : O} {b : Nat} (e : (h.push o).get b = some o') : (b = h.n ∧ o' = o) ∨ (b < h.n ∧ h.get b = some o') := by
  have hl := H.get_lt e
  rw [H.get_eq, if_pos hl] at e
  rcases Tr.get_set o depth h.t h.n b o' e with ⟨h1, h2⟩ | ⟨h1, h2⟩
  · exact .inl ⟨h1, h2⟩
  · have hl' : b < h.n + 1 := hl
    have : b < h.n := by omega
    exact .inr ⟨this, by rw [H.get_eq, if_pos this]; exact h2⟩

theorem H.get_upd {h : H} {o o' : O} {b c : Nat} (e : (h.upd b o).get c = some o') : (c = b ∧ o' = o) ∨ (c ≠ b ∧ h.get c = some o') := by
  have hl := H.get_lt e
  rw [H.get_eq, if_pos hl] at e
  rcases Tr.get_set o depth h.t b c o' e with ⟨h1, h2⟩ | ⟨h1, h2⟩
  · exact .inl ⟨h1, h2⟩
  · exact .inr ⟨h1, by rw [H.get_eq, if_pos (show c < h.n from hl)]; exact h2⟩

/-! ### Reads -/
theorem cells_of {φ : Phi} {h : H} {w : World} (hr : HR φ h w) {b : Nat} {cs : List V} {l : Loc} (hc : h.cellsAt b = some cs) (hφ : φ b = some l) :
    ∃ c e fr, w.heap[l.rb]? = some (.cells c e fr) ∧ c.size = l.tot ∧ l.base + cs.length ≤ l.tot ∧ (∀ (i : Nat) (v : V), cs[i]? = some v → ∃ x, c[l.base + i]? = some x ∧ rel φ v x) := by
  unfold H.cellsAt at hc
  split at hc
  · rename_i cs' e rw lo hi hg
    cases hc
    obtain ⟨c, fr, h1, h2, h3, h4, _⟩ := hr.obj b _ l hg hφ
    exact ⟨c, e, fr, h1, h2, h3, h4⟩
  · cases hc

theorem cell_eq {w : World} {rb : Nat} {c : Array Value} {e : TypeId} {fr : Nat × Nat} (h : w.heap[rb]? = some (.cells c e fr)) (o : Nat) : w.cell? ⟨rb, o, none⟩ = c[o]? := by
  simp [World.cell?, h]

/-- n cells that are there -/
theorem run_loads {P : Program} {φ : Phi} {w : World} {rb off : Nat} {c : Array Value} {e : TypeId} {fr : Nat × Nat} (h : w.heap[rb]? = some (.cells c e fr)) {l : List V} (hl : ∀ (i : Nat) (v : V), l[i]? = some v → ∃ x, c[off + i]? = some x ∧ rel φ v x) :
    ∃ xs : List Value, (loadCells ⟨rb, off, none⟩ l.length).run P w = .ok xs.toArray w ∧ rels φ l xs ∧ xs.length = l.length ∧ ∀ i, i < l.length → c[off + i]? = xs[i]? := by
  refine ⟨(List.range l.length).map fun j => (c[off + j]?).getD undef, ?_, ?_, by simp, ?_⟩
  · refine run_loadCells w _ _ _ fun j hj => ?_
    rw [Addr_add, cell_eq h]
    obtain ⟨x, hx, _⟩ := hl j l[j] (by simp [hj])
    simp [hx]
  · refine rels.of_get (by simp) fun i v hv => ?_
    have hi : i < l.length := (List.getElem?_eq_some_iff.1 hv).1
    obtain ⟨x, hx, hr⟩ := hl i v hv
    exact ⟨x, by simp [hi, hx], hr⟩
  · intro i hi
    obtain ⟨x, hx, hr⟩ := hl i l[i] (by simp [hi])
    simp [hi, hx]

def readC (c : Array Value) (off n : Nat) : List Value := (List.range n).map fun j => (c[off + j]?).getD undef
theorem run_loads' {P : Program} {φ : Phi} {w : World} {rb off : Nat} {c : Array Value} {e : TypeId} {fr : Nat × Nat} (h : w.heap[rb]? = some (.cells c e fr)) {l : List V} (hl : ∀ (i : Nat) (v : V), l[i]? = some v → ∃ x, c[off + i]? = some x ∧ rel φ v x) :
    (loadCells ⟨rb, off, none⟩ l.length).run P w = .ok (readC c off l.length).toArray w ∧ rels φ l (readC c off l.length) := by
  refine ⟨run_loadCells w _ _ _ fun j hj => ?_, rels.of_get (by simp [readC]) fun i v hv => ?_⟩
  · rw [Addr_add, cell_eq h]
    obtain ⟨x, hx, _⟩ := hl j l[j] (by simp [hj])
    simp [hx]
  · have hi : i < l.length := (List.getElem?_eq_some_iff.1 hv).1
    obtain ⟨x, hx, hr⟩ := hl i v hv
    exact ⟨x, by simp [readC, hi, hx], hr⟩

theorem loadV_ok {P : Program} {φ : Phi} {h : H} {w : World} (hr : HR φ h w) {ty : TypeId} {a : V} {a' : Value} {v : V} (ha : rel φ a a') (he : loadV P h ty a = some v) :
    ∃ y, (Instr.loadAt ty a').run P w = .ok y w ∧ rel φ v y := by
  unfold loadV at he
  split at he
  · rename_i b o
    obtain ⟨l, hφ, rfl⟩ := ha
    split at he
    · rename_i cs i hcs hi
      obtain ⟨c, e, fr, h1, h2, h3, h4⟩ := cells_of hr hcs hφ
      obtain ⟨inf, d, g1, g2, g3, _, g5, _, _⟩ := mkTI_spec hi
      unfold partV at he
      rw [g5] at he
      by_cases hb : isAggSh (shOf d) = true
      · rw [if_pos hb] at he
        cases hs : sub? cs o i.size with
        | none => rw [hs] at he; cases he
        | some l' =>
          rw [hs] at he; cases he
          obtain ⟨rfl, hl⟩ := sub?_eq hs
          obtain ⟨xs, hx, hxr, hxl, _⟩ := run_loads (P := P) (φ := φ) (off := l.base + o) h1 (l := (cs.drop o).take i.size) (fun j u hu => by
            rw [List.getElem?_take] at hu
            split at hu
            · rw [List.getElem?_drop] at hu
              obtain ⟨x, hx, hxr⟩ := h4 _ u hu
              exact ⟨x, by rw [← hx]; congr 1; omega, hxr⟩
            · cases hu)
          refine ⟨.agg xs.toArray, ?_, _, rfl, by simpa using hxr⟩
          unfold Instr.loadAt loadVar
          rw [hl, g3] at hx
          simp only [Sem.run_bind, Instr.sureAddr, Sem.run_pure, Result.andThen_ok, run_isAgg g2, hb, if_true, run_sizeOf' g1, hx]
      · rw [if_neg hb] at he
        rw [nth_eq] at he
        obtain ⟨x, hx, hxr⟩ := h4 o v he
        refine ⟨x, ?_, hxr⟩
        simp only [Bool.not_eq_true] at hb
        unfold Instr.loadAt loadVar
        simp only [Sem.run_bind, Instr.sureAddr, Sem.run_pure, Result.andThen_ok, run_isAgg g2, hb, Bool.false_eq_true, if_false, run_load, cell_eq h1, hx]
    · cases he
  · cases he

theorem bytesV_ok {φ : Phi} : ∀ {l : List V} {ns : List Nat} {xs : List Value}, bytesV l = some ns → rels φ l xs → ∃ ms : List Nat, xs = ms.map (fun (n : Nat) => Value.int .u8 (n : Int)) ∧ ns = ms.map (· % 256)
  | [], ns, xs, h, hr => by simp only [bytesV] at h; cases h; simp only [rels] at hr; subst hr; exact ⟨[], rfl, rfl⟩
  | v :: l, ns, xs, h, ⟨y, ys, e, h1, h2⟩ => by
    subst e
    unfold bytesV at h
    split at h
    · rename_i hh; cases hh
    · rename_i n l' hh
      cases hh
      simp only [rel] at h1; subst h1
      split at h
      · rename_i r hr
        cases h
        obtain ⟨ms, rfl, rfl⟩ := bytesV_ok hr h2
        exact ⟨n :: ms, rfl, rfl⟩
      · cases h
    · cases h

theorem run_push {P : Program} {w : World} (f : Value → ByteArray → Sem (ForInStep ByteArray)) (hf : ∀ (n : Nat) s, f (.int .u8 (n : Int)) s = pure (ForInStep.yield (s.push (UInt8.ofNat n)))) : ∀ (ns : List Nat) (s : ByteArray),
    (forIn (ns.map fun (n : Nat) => Value.int .u8 (n : Int)) s f : Sem ByteArray).run P w = .ok ⟨s.data ++ (ns.map UInt8.ofNat).toArray⟩ w
  | [], s => by simp
  | n :: ns, s => by
    simp only [List.map_cons, List.forIn_cons, hf, Sem.run_bind, Sem.run_pure, Result.andThen_ok]
    rw [run_push f hf ns _]
    congr 2
    simp [ByteArray.push]

theorem bytesOf_ofNat (ns : List Nat) : bytesOf ⟨(ns.map UInt8.ofNat).toArray⟩ = ns.map (· % 256) := by
  unfold bytesOf
  simp only [List.map_map]
  apply List.map_congr_left
  intro n hn
  simp [UInt8.toNat_ofNat']

theorem readV_ok {P : Program} {φ : Phi} {h : H} {w : World} (hr : HR φ h w) {t : Tr V} {ρ : Operand → Value} {o : Oper} {v : V} (hρ : ∀ x ∈ o.op.operands, ∀ u, eva t x = some u → rel φ u (ρ x)) (he : readV P t h o.op = some v) :
    ∃ y, (execOp ρ o).run P w = .ok (.value y) w ∧ rel φ v y := by
  obtain ⟨dst, op, type, pos, after, guard⟩ := o
  simp only [] at hρ he
  cases op <;> simp only [Op.operands] at hρ <;> simp only [readV] at he <;> try (cases he; done)
  case load ty a =>
    split at he
    · rename_i u hu
      obtain ⟨y, hy, hyr⟩ := loadV_ok hr (hρ a (by simp) u hu) he
      exact ⟨y, by simp only [execOp, Sem.run_bind, hy]; rfl, hyr⟩
    · cases he
  case convert s d x =>
    split at he
    · rename_i i j u hi hj hu
      obtain ⟨d1, hd1, hs1⟩ := underlying_of hi
      obtain ⟨d2, hd2, hs2⟩ := underlying_of hj
      have hx := hρ x (by simp) u hu
      rw [hs1, hs2] at he
      split at he
      · rename_i el e1 e2
        obtain rfl := shOf_slice e1
        obtain rfl := shOf_str e2
        split at he
        · rename_i k hk
          obtain ⟨d3, hd3, hs3⟩ := underlying_of hk
          rw [hs3] at he
          split at he
          · rename_i e3
            obtain rfl := shOf_int e3
            simp only [rel] at hx
            cases he
            refine ⟨.string .empty, ?_, .empty, rfl, rfl⟩
            simp only [execOp, hx]
            simp [convert, run_underlying hd1, run_underlying hd2, run_underlying hd3, Conv.bytesToString]
          · rename_i b o len cap fz e3
            obtain rfl := shOf_int e3
            obtain ⟨l, off, cap', hφ, e, hle, hcap, hex, htot, hoff, _⟩ := hx
            split at he
            · rename_i cs hcs
              obtain ⟨c, e', fr, h1, h2, h3, h4⟩ := cells_of hr hcs hφ
              split at he
              · rename_i l' hs
                obtain ⟨rfl, hl⟩ := sub?_eq hs
                cases hb : bytesV ((cs.drop o).take len) with
                | none => rw [hb] at he; cases he
                | some ns =>
                  rw [hb] at he; cases he
                  have hloads : ∃ xs : List Value, (loadCells ⟨l.rb, off, none⟩ len).run P w = .ok xs.toArray w ∧ rels φ ((cs.drop o).take len) xs := by
                    by_cases h0 : len = 0
                    · subst h0
                      exact ⟨[], rfl, by simp [rels]⟩
                    · have ho := hoff (.inr (by omega))
                      subst ho
                      obtain ⟨xs, hx, hxr, hxl, _⟩ := run_loads (P := P) (φ := φ) (off := l.base + o) h1 (l := (cs.drop o).take len) (fun j u hu => by
                        rw [List.getElem?_take] at hu
                        split at hu
                        · rw [List.getElem?_drop] at hu
                          obtain ⟨x, hx, hxr⟩ := h4 _ u hu
                          exact ⟨x, by rw [← hx]; congr 1; omega, hxr⟩
                        · cases hu)
                      rw [hl] at hx
                      exact ⟨xs, hx, hxr⟩
                  obtain ⟨xs, hx, hxr⟩ := hloads
                  obtain ⟨ms, rfl, rfl⟩ := bytesV_ok hb hxr
                  refine ⟨.string ⟨(ms.map UInt8.ofNat).toArray⟩, ?_, _, rfl, bytesOf_ofNat ms⟩
                  simp only [execOp, e]
                  simp only [convert, Sem.run_bind, run_underlying hd1, run_underlying hd2, run_underlying hd3, Result.andThen_ok, Conv.bytesToString, hx]
                  rw [← Array.forIn_toList, run_push _ (fun n s => rfl) ms .empty]
                  simp [ByteArray.empty, ByteArray.emptyWithCapacity]
                  rfl
              · cases he
            · cases he
          · cases he
        · cases he
      · cases he
    · cases he

/-! ### New blocks -/
/-- an operation has laid one new block, and nothing else -/
structure NewB (φ : Phi) (obj : O) (vf : Nat → V) (w w' : World) (y : Value) (cs : List V) (el : TypeId) (c : Array Value) (fr : Nat × Nat) : Prop where
  heap : w'.heap = w.heap.push (.cells c el fr)
  os : w'.os = w.os
  tape : w'.tape = w.tape
  output : w'.output = w.output
  o : ∃ lo hi, obj = .cells cs el true lo hi ∧ (lo = 0 → hi = 0 → ∀ i, i ≤ c.size → fr.1 ≤ i → i < fr.2 → False)
  len : cs.length ≤ c.size
  cells : ∀ (i : Nat) (v : V), cs[i]? = some v → ∃ x, c[i]? = some x ∧ rel φ v x
  free : ∀ i, i < c.size → fr.1 ≤ i → i < fr.2 → False
  val : ∀ (ψ : Phi) (b : Nat), φ.le ψ → ψ b = some ⟨w.heap.size, 0, c.size⟩ → rel ψ (vf b) y

def Phi.set (φ : Phi) (b : Nat) (l : Loc) : Phi := fun c => if c = b then some l else φ c
theorem Phi.le_set {φ : Phi} {b : Nat} {l : Loc} (h : φ b = none) : φ.le (φ.set b l) := fun c x e => by
  unfold Phi.set; split
  · rename_i hc; subst hc; rw [h] at e; cases e
  · exact e
theorem Phi.set_self (φ : Phi) (b : Nat) (l : Loc) : φ.set b l b = some l := by simp [Phi.set]

theorem rb_lt {φ : Phi} {w : World} {l : Loc} {o : O} (h : objRel φ w l o) (hl : o.live = true) : l.rb < w.heap.size := by
  cases o with
  | dead => cases hl
  | cells cs e rw lo hi =>
    obtain ⟨c, fr, h1, _⟩ := h
    exact (Array.getElem?_eq_some_iff.1 h1).1
  | loop st pend nt t ps asg body =>
    obtain ⟨r, h1, _⟩ := h
    exact (Array.getElem?_eq_some_iff.1 h1).1

theorem objRel.mono {φ ψ : Phi} {w w' : World} {l : Loc} {o : O} (h : objRel φ w l o) (hle : φ.le ψ) (hh : o.live = true → w'.heap[l.rb]? = w.heap[l.rb]?) : objRel ψ w' l o := by
  cases o with
  | dead => trivial
  | cells cs e rw lo hi =>
    obtain ⟨c, fr, h1, h2, h3, h4, h5⟩ := h
    refine ⟨c, fr, by rw [hh rfl]; exact h1, h2, h3, fun i v hv => ?_, h5⟩
    obtain ⟨x, hx, hr⟩ := h4 i v hv
    exact ⟨x, hx, hr.mono hle _ _⟩
  | loop st pend nt t ps asg body =>
    obtain ⟨r, h1, h2, h3, h4, h5, h6, h7, h8⟩ := h
    refine ⟨r, by rw [hh rfl]; exact h1, h2, h3, h4, h5, h6, h7, fun i v hv => ?_⟩
    obtain ⟨x, hx, hr⟩ := h8 i v hv
    exact ⟨x, hx, hr.mono hle _ _⟩

theorem HR.new {φ : Phi} {h : H} {w w' : World} {y : Value} {obj : O} {vf : Nat → V} {cs : List V} {el : TypeId} {c : Array Value} {fr : Nat × Nat} (hr : HR φ h w) (hn : NewB φ obj vf w w' y cs el c fr) (hf : φ h.n = none) :
    Fr φ h w (φ.set h.n ⟨w.heap.size, 0, c.size⟩) (h.push obj) w' ∧ HR (φ.set h.n ⟨w.heap.size, 0, c.size⟩) (h.push obj) w' ∧ rel (φ.set h.n ⟨w.heap.size, 0, c.size⟩) (vf h.n) y := by
  have hle := Phi.le_set (l := ⟨w.heap.size, 0, c.size⟩) hf
  have hold : ∀ rb, rb < w.heap.size → w'.heap[rb]? = w.heap[rb]? := fun rb hlt => by
    rw [hn.heap, Array.getElem?_push, if_neg (by omega)]
  refine ⟨⟨hle, fun b x e e' => ?_, Nat.le_succ _, by rw [hn.heap]; simp, hn.os, hn.tape, hn.output, fun rb hlt hown => ⟨hold rb hlt, ?_⟩, ?_, fun rb r hr => ⟨r, by rw [hold rb (Array.getElem?_eq_some_iff.1 hr).1]; exact hr⟩⟩, ⟨?_, ?_, hle _ _ hr.fix⟩, hn.val _ _ hle (Phi.set_self ..)⟩
  · unfold Phi.set at e'
    split at e'
    · rename_i hb; subst hb; exact ⟨Nat.le_refl _, Nat.lt_succ_self _⟩
    · rw [e] at e'; cases e'
  · rintro ⟨b, l, o, hg, hrw, hφ, rfl⟩
    rcases H.get_push hg with ⟨rfl, rfl⟩ | ⟨hb, hg'⟩
    · rw [Phi.set_self] at hφ; cases hφ; exact absurd hlt (Nat.lt_irrefl _)
    · unfold Phi.set at hφ
      rw [if_neg (by omega)] at hφ
      exact hown ⟨b, l, o, hg', hrw, hφ, rfl⟩
  · rintro rb hlt ⟨b, l, o, hg, hlv, hφ, rfl⟩
    rcases H.get_push hg with ⟨rfl, rfl⟩ | ⟨hb, hg'⟩
    · rw [Phi.set_self] at hφ; cases hφ; exact absurd hlt (Nat.lt_irrefl _)
    · unfold Phi.set at hφ
      rw [if_neg (by omega)] at hφ
      exact ⟨b, l, o, hg', hlv, hφ, rfl⟩
  · intro b o l hg hφ
    rcases H.get_push hg with ⟨rfl, rfl⟩ | ⟨hb, hg'⟩
    · rw [Phi.set_self] at hφ; cases hφ
      obtain ⟨lo, hi, ho, hz⟩ := hn.o
      rw [ho]
      refine ⟨c, fr, by rw [hn.heap]; simp, rfl, by simpa using hn.len, fun i v hv => ?_, fun i _ hi h1 h2 => (hn.free i hi h1 h2).elim, hz⟩
      obtain ⟨x, hx, hrel⟩ := hn.cells i v hv
      exact ⟨x, by simpa using hx, hrel.mono hle _ _⟩
    · unfold Phi.set at hφ
      rw [if_neg (by omega)] at hφ
      have := hr.obj b o l hg' hφ
      exact this.mono hle fun hl => hold _ (rb_lt this hl)
  · intro b b' o o' l l' hg hg' hφ hφ' hrb hl hl' hrw
    rcases H.get_push hg with ⟨rfl, rfl⟩ | ⟨hb, hg⟩ <;> rcases H.get_push hg' with ⟨hb', ho'⟩ | ⟨hb', hg'⟩
    · exact hb'.symm
    · rw [Phi.set_self] at hφ; cases hφ
      unfold Phi.set at hφ'
      rw [if_neg (by omega)] at hφ'
      have := rb_lt (hr.obj b' o' l' hg' hφ') hl'
      exact absurd hrb (by show w.heap.size ≠ l'.rb; omega)
    · subst hb'
      rw [Phi.set_self] at hφ'; cases hφ'
      unfold Phi.set at hφ
      rw [if_neg (by omega)] at hφ
      have := rb_lt (hr.obj b o l hg hφ) hl
      exact absurd hrb (by show l.rb ≠ w.heap.size; omega)
    · unfold Phi.set at hφ hφ'
      rw [if_neg (by omega)] at hφ hφ'
      exact hr.inj b b' o o' l l' hg hg' hφ hφ' hrb hl hl' hrw

theorem rels_repeat {φ : Phi} {l : List V} {xs : List Value} (h : rels φ l xs) : ∀ n, rels φ (repeatL l n) ((List.replicate n xs).flatten)
  | 0 => by simp [repeatL, rels]
  | n + 1 => by simp only [repeatL, List.replicate_succ, List.flatten_cons]; exact h.append (rels_repeat h n)

theorem range_mod (z : Array Value) (n : Nat) (hz : 0 < z.size) : ((Array.range (n * z.size)).map (z[· % z.size]!)).toList = (List.replicate n z.toList).flatten := by
  induction n with
  | zero => simp
  | succ n ih =>
    rw [List.replicate_succ', List.flatten_append, ← ih]
    rw [Nat.succ_mul]
    apply List.ext_getElem?
    intro i
    simp only [Array.toList_map, Array.toList_range, List.getElem?_map]
    by_cases h1 : i < n * z.size
    · rw [List.getElem?_append_left (by simpa using h1)]
      simp [h1, show i < n * z.size + z.size by omega]
    · rw [List.getElem?_append_right (by simpa using h1)]
      simp only [List.length_map, List.length_range, List.flatten_cons, List.flatten_nil, List.append_nil]
      by_cases h2 : i < n * z.size + z.size
      · have e : i % z.size = i - n * z.size := by
          have h3 : (i - n * z.size + n * z.size) % z.size = (i - n * z.size) % z.size := Nat.add_mul_mod_self_right _ _ _
          rw [Nat.sub_add_cancel (Nat.le_of_not_lt h1)] at h3
          rw [h3, Nat.mod_eq_of_lt (by omega)]
        simp [h2, e, show i - n * z.size < z.size by omega]
      · simp [h2]
        omega

theorem newRow_ok {P : Program} {φ : Phi} {w : World} {el : TypeId} {cs : List V} {c : Array Value} (hr : rels φ cs c.toList) {vf : Nat → V} {y : Value}
    (hv : ∀ (ψ : Phi) (b : Nat), φ.le ψ → ψ b = some ⟨w.heap.size, 0, c.size⟩ → rel ψ (vf b) y) :
    (newRow el c).run P w = .ok ⟨w.heap.size, 0, none⟩ { w with heap := w.heap.push (.cells c el) } ∧
    NewB φ (.cells cs el true 0 0) vf w { w with heap := w.heap.push (.cells c el) } y cs el c (0, 0) := by
  have hl := hr.length
  simp only [Array.length_toList] at hl
  refine ⟨by simp [newRow], ⟨rfl, rfl, rfl, rfl, ⟨0, 0, rfl, fun _ _ i _ _ h => by simp at h⟩, by omega, fun i v hv => ?_, fun i _ _ h => by simp at h, hv⟩⟩
  obtain ⟨x, hx, hxr⟩ := hr.get i v hv
  exact ⟨x, by simpa using hx, hxr⟩

theorem bytes_cells (φ : Phi) (s : ByteArray) : rels φ ((bytesOf s).map fun c => V.int .u8 (.ofNat c)) ((s.data.map fun b => Value.int .u8 b.toNat).toList) := by
  refine rels.of_get (by simp [bytesOf]) fun i v hv => ?_
  simp only [bytesOf, List.getElem?_map] at hv
  simp only [Array.toList_map, List.getElem?_map]
  cases hb : s.data.toList[i]? with
  | none => rw [hb] at hv; cases hv
  | some b => rw [hb] at hv; cases hv; exact ⟨_, rfl, rfl⟩

theorem zero_ok {P : Program} {t : TypeId} {inf : TypeInfo} {z' : Value} (h1 : P.info? t = some inf) (hz : inf.zero = some z') (w : World) : (zeroValue t).run P w = .ok z' w := by
  simp [zeroValue, run_typeInfo w h1, hz]

theorem allocV_ok {P : Program} {φ : Phi} {w : World} {t : Tr V} {ρ : Operand → Value} {o : Oper} {obj : O} {vf : Nat → V} (hρ : ∀ x ∈ o.op.operands, ∀ u, eva t x = some u → rel φ u (ρ x)) (he : allocV P t o.op = some (obj, vf)) :
    ∃ w' y cs el c fr, (execOp ρ o).run P w = .ok (.value y) w' ∧ NewB φ obj vf w w' y cs el c fr := by
  obtain ⟨dst, op, type, pos, after, guard⟩ := o
  simp only [] at hρ he
  cases op <;> simp only [Op.operands] at hρ <;> simp only [allocV] at he <;> try (cases he; done)
  case alloc ty =>
    split at he
    · rename_i i hi
      obtain ⟨inf, d, h1, hd, h3, _, _, _, hz⟩ := mkTI_spec hi
      split at he
      · rename_i z hz0
        cases he
        obtain ⟨z', hz', hzr⟩ := hz z hz0
        obtain ⟨hrun, hn⟩ := newRow_ok (P := P) (w := w) (el := ty) (cs := z.cells) (c := z'.cells) (vf := fun b => .ptr b 0) (y := .pointer (some ⟨w.heap.size, 0, none⟩)) ((hzr φ).cells) (fun ψ b _ hb => ⟨_, hb, rfl⟩)
        refine ⟨_, _, _, _, _, _, ?_, hn⟩
        simp only [execOp, Instr.alloc, Sem.run_bind, zero_ok h1 hz', Result.andThen_ok, newVar, hrun, Sem.run_pure]
      · cases he
    · cases he
  case box ty x =>
    split at he
    · rename_i u hu
      cases he
      have hr := hρ x (by simp) u hu
      obtain ⟨hrun, hn⟩ := newRow_ok (P := P) (w := w) (el := ty) (cs := u.cells) (c := (ρ x).cells) (vf := fun b => .ptr b 0) (y := .pointer (some ⟨w.heap.size, 0, none⟩)) hr.cells (fun ψ b _ hb => ⟨_, hb, rfl⟩)
      refine ⟨_, _, _, _, _, _, ?_, hn⟩
      simp only [execOp, Instr.box, Sem.run_bind, newVar, hrun, Result.andThen_ok, Sem.run_pure]
    · cases he
  case buildSlice ty len parts =>
    split at he
    · rename_i i ps hi hps
      obtain ⟨inf, d, h1, hd, _, _, _, hsh, _⟩ := mkTI_spec hi
      rw [hsh] at he
      split at he
      · rename_i el e
        obtain rfl := shOf_slice e
        split at he
        · rename_i j hj
          obtain ⟨inf', d', h1', hd', h3', _, _, _, hz⟩ := mkTI_spec hj
          split at he
          · rename_i z hz0
            obtain ⟨z', hz', hzr⟩ := hz z hz0
            simp only [ble_dec, beq_dec, lenL_eq] at he
            by_cases hle : len.mul j.size ≤ 16777216
            · simp only [hle, decide_true, cond_true] at he
              by_cases hlen : z.cells.length = j.size
              · simp only [hlen, decide_true, cond_true] at he
                split at he
                · rename_i cs hcs
                  cases he
                  have hr := evaParts_rel (φ := φ) (ρ := ρ) (fun x hx u hu => hρ x (by simpa using hx) u hu) hps
                  have hr' : partsRel φ ps ((parts.map fun (i, x) => (i, ρ x)).toList) := by simpa using hr
                  have hzl := (hzr φ).cells.length
                  simp only [Array.length_toList] at hzl
                  have hzs : z'.cells.size = inf'.size := by omega
                  have hbase : rels φ (repeatL z.cells len) (((Array.range (len * inf'.size)).map ((if len * inf'.size = 0 then #[] else z'.cells)[· % (if len * inf'.size = 0 then #[] else z'.cells).size]!)).toList) := by
                    by_cases h0 : len * inf'.size = 0
                    · have : repeatL z.cells len = [] := by
                        rcases Nat.mul_eq_zero.1 h0 with h | h
                        · subst h; rfl
                        · have : z.cells = [] := List.length_eq_zero_iff.1 (by omega)
                          rw [this]; clear hcs hle h0
                          induction len with
                          | zero => rfl
                          | succ n ih => simp [repeatL, ih]
                      rw [this]; simp [h0, rels]
                    · rw [if_neg h0, ← hzs, range_mod _ _ (by rw [hzs]; exact Nat.pos_of_ne_zero fun h => h0 (by rw [h]; simp))]
                      exact rels_repeat (hzr φ).cells len
                  obtain ⟨zs, hzs', hrz⟩ := fill_rel (pl' := fun i => some (i * inf'.size, inf'.size)) (fun i x hx => by cases hx; simp [h3']) hr' hbase hcs
                  obtain ⟨hrun, hn⟩ := newRow_ok (P := P) (w := w) (el := el) (cs := cs) (c := zs) (vf := fun b => .slice b 0 len len 0) (y := .slice (some ⟨w.heap.size, 0, none⟩) len len) hrz
                    (fun ψ b _ hb => ⟨_, _, _, hb, rfl, Nat.le_refl _, Nat.le_refl _, fun _ => rfl, fun h => absurd rfl h, fun _ => rfl, Nat.le_refl _⟩)
                  refine ⟨_, _, _, _, _, _, ?_, hn⟩
                  have hle' : ¬ (len * inf'.size > 2 ^ 24) := by
                    have : len.mul j.size = len * j.size := rfl
                    rw [this, h3'] at hle; omega
                  simp only [execOp, Instr.buildSlice, Sem.run_bind, run_underlying hd, Result.andThen_ok, run_sizeOf' h1', Sem.run_ite, hle', if_false, Sem.run_pure]
                  by_cases h0 : len * inf'.size = 0
                  · simp only [h0, if_true] at hzs' ⊢
                    simp only [Result.andThen_ok, hzs', Sem.run_bind, hrun, Sem.run_pure]
                  · simp only [h0, if_false] at hzs' ⊢
                    simp only [zero_ok h1' hz', Result.andThen_ok, hzs', Sem.run_bind, hrun, Sem.run_pure]
                · cases he
              · simp only [hlen, decide_false, cond_false] at he; cases he
            · simp only [hle, decide_false, cond_false] at he; cases he
          · cases he
        · cases he
      · cases he
    · cases he
  case makeSlice ty l c =>
    split at he
    · rename_i i k1 l k2 c hi hl hc
      obtain ⟨inf, d, h1, hd, _, _, _, hsh, _⟩ := mkTI_spec hi
      have el := hρ _ (by simp) _ hl
      have ec := hρ _ (by simp) _ hc
      simp only [rel] at el ec
      rw [hsh] at he
      split at he
      · rename_i el' e
        obtain rfl := shOf_slice e
        split at he
        · rename_i j hj
          obtain ⟨inf', d', h1', hd', h3', h4', _, _, hz⟩ := mkTI_spec hj
          split at he
          · rename_i z hz0
            obtain ⟨z', hz', hzr⟩ := hz z hz0
            simp only [ble_dec, beq_dec, lenL_eq] at he
            by_cases hlc : l ≤ c
            · simp only [hlc, decide_true, cond_true] at he
              by_cases hroom : c.mul (Nat.succ j.bytes) ≤ 140737488355328
              · simp only [hroom, decide_true, cond_true] at he
                by_cases hlen : z.cells.length = j.size
                · simp only [hlen, decide_true, cond_true] at he
                  cases he
                  have hzl := (hzr φ).cells.length
                  simp only [Array.length_toList] at hzl
                  have hzs : z'.cells.size = inf'.size := by omega
                  have hr' : c * (inf'.bytes + 1) ≤ 140737488355328 := by rw [← h4']; exact hroom
                  have hcb : c ≤ 140737488355328 ∧ c * inf'.bytes ≤ 140737488355328 := by
                    rw [Nat.mul_add] at hr'; omega
                  have hbase : rels φ (repeatL z.cells c) (((Array.range (c * inf'.size)).map ((if c * inf'.size = 0 then #[] else z'.cells)[· % (if c * inf'.size = 0 then #[] else z'.cells).size]!)).toList) := by
                    by_cases h0 : c * inf'.size = 0
                    · have : repeatL z.cells c = [] := by
                        rcases Nat.mul_eq_zero.1 h0 with h | h
                        · subst h; rfl
                        · have : z.cells = [] := List.length_eq_zero_iff.1 (by omega)
                          rw [this]; clear hroom hr' hcb h0 hlc hc ec
                          induction c with
                          | zero => rfl
                          | succ n ih => simp [repeatL, ih]
                      rw [this]; simp [h0, rels]
                    · rw [if_neg h0, ← hzs, range_mod _ _ (by rw [hzs]; exact Nat.pos_of_ne_zero fun h => h0 (by rw [h]; simp))]
                      exact rels_repeat (hzr φ).cells c
                  obtain ⟨hrun, hn⟩ := newRow_ok (P := P) (w := w) (el := el') (vf := fun b => .slice b 0 l c 0) (y := .slice (some ⟨w.heap.size, 0, none⟩) l c) hbase
                    (fun ψ b _ hb => ⟨_, _, _, hb, rfl, hlc, Nat.le_refl _, fun _ => rfl, fun h => absurd rfl h, fun _ => rfl, Nat.le_refl _⟩)
                  refine ⟨_, _, _, _, _, _, ?_, hn⟩
                  have wl : IntKind.i64.wrap (l : Int) = l := by
                    rw [← wrapS_eq]; show wrapS .i64 (.ofNat l) = _
                    simp only [wrapS, blt_dec, half]
                    simp [show l < 9223372036854775808 by omega]
                  have wc : IntKind.i64.wrap (c : Int) = c := by
                    rw [← wrapS_eq]; show wrapS .i64 (.ofNat c) = _
                    simp only [wrapS, blt_dec, half]
                    simp [show c < 9223372036854775808 by omega]
                  have hnot : ((decide ((c : Int) < 0) || decide ((inf'.bytes : Int) * (c : Int) > 2 ^ 48)) || decide ((l : Int) < 0) || decide ((l : Int) > (c : Int))) = false := by
                    have hb : (inf'.bytes : Int) * (c : Int) = ((c * inf'.bytes : Nat) : Int) := by rw [Nat.mul_comm]; simp
                    rw [hb]
                    simp only [Bool.or_eq_false_iff, decide_eq_false_iff_not]
                    refine ⟨⟨⟨by omega, ?_⟩, by omega⟩, by omega⟩
                    have : (2 : Int) ^ 48 = 281474976710656 := by decide
                    omega
                  simp only [execOp, el, ec, Int.ofNat_eq_natCast, Instr.makeSlice, Sem.run_bind, run_underlying hd, Result.andThen_ok, asInt, asIntOf, Sem.run_pure, run_typeInfo w h1', wl, wc, hnot, Bool.false_eq_true, if_false, run_askRoom, Int.toNat_natCast, run_sizeOf' h1', Sem.run_ite]
                  by_cases h0 : c * inf'.size = 0
                  · simp only [h0, if_true] at hrun ⊢
                    simp only [Result.andThen_ok, Sem.run_bind, hrun, Sem.run_pure]
                  · simp only [h0, if_false] at hrun ⊢
                    simp only [zero_ok h1' hz', Result.andThen_ok, Sem.run_bind, hrun, Sem.run_pure]
                · simp only [hlen, decide_false, cond_false] at he; cases he
              · simp only [hroom, decide_false, cond_false] at he; cases he
            · simp only [hlc, decide_false, cond_false] at he; cases he
          · cases he
        · cases he
      · cases he
    · cases he
  case convert s d x =>
    split at he
    · rename_i i j a hi hj ha
      obtain ⟨d1, hd1, hs1⟩ := underlying_of hi
      obtain ⟨d2, hd2, hs2⟩ := underlying_of hj
      obtain ⟨s', e, rfl⟩ := hρ x (by simp) _ ha
      rw [hs1, hs2] at he
      split at he
      · rename_i el e1 e2
        obtain rfl := shOf_str e1
        obtain rfl := shOf_slice e2
        split at he
        · rename_i k hk
          obtain ⟨d3, hd3, hs3⟩ := underlying_of hk
          rw [hs3] at he
          split at he
          · rename_i e3
            obtain rfl := shOf_int e3
            cases hk1 : Nat.beq k.size 1 with
            | false => rw [hk1] at he; cases he
            | true =>
              rw [hk1] at he
              simp only [cond_true] at he
              cases he
              generalize hcap : (Question.appendCap s'.size 0 el).cut (w.tape w.drawn (.appendCap s'.size 0 el)) = cap
              have hle : s'.size ≤ cap := by rw [← hcap]; simp only [Question.cut]; omega
              have hbl := bytesOf_length s'
              let c : Array Value := (s'.data.map fun b => Value.int .u8 b.toNat) ++ Array.replicate (cap - s'.size) (.int .u8 0)
              have hcs : c.size = cap := by
                simp only [c, Array.size_append, Array.size_map, Array.size_replicate]
                have : s'.data.size = s'.size := rfl
                omega
              refine ⟨{ w with heap := w.heap.push (.cells c el (cap, cap + 1)), drawn := w.drawn + 1 }, .slice (some ⟨w.heap.size, 0, none⟩) s'.size cap, (bytesOf s').map (fun c => V.int .u8 (.ofNat c)), el, c, (cap, cap + 1), ?_, ?_⟩
              · have hrow : (newRow el c).run P { w with drawn := w.drawn + 1 } = .ok ⟨w.heap.size, 0, none⟩ { w with heap := w.heap.push (.cells c el), drawn := w.drawn + 1 } := rfl
                have hmark : (markStringish ⟨w.heap.size, 0, none⟩).run P { w with heap := w.heap.push (.cells c el), drawn := w.drawn + 1 } = .ok () { w with heap := w.heap.push (.cells c el (cap, cap + 1)), drawn := w.drawn + 1 } := by
                  unfold markStringish
                  simp only [Sem.run_bind, run_shape, Result.andThen_ok, World.shape?]
                  simp only [Array.getElem?_push_size, run_freeze, hcs]
                  simp only [World.freeze]
                  rw [if_neg (by decide)]
                  congr 2
                  apply Array.ext_getElem?
                  intro i
                  simp only [Array.getElem?_modify, Array.getElem?_push]
                  by_cases hi : i = w.heap.size
                  · simp [hi]
                  · simp [hi, Ne.symm hi]
                have hf : (Question.appendCap s'.size 0 el).forced = false := rfl
                simp only [execOp, e, convert, Sem.run_bind, run_underlying hd1, run_underlying hd2, run_underlying hd3, Result.andThen_ok, Conv.stringToBytes, run_choose, hf, Bool.false_eq_true, if_false, hcap]
                show (((((newRow el c).run P { w with drawn := w.drawn + 1 }).andThen fun a w' => _).andThen fun a w' => _)) = _
                rw [hrow]
                simp only [Result.andThen_ok, hmark, Sem.run_pure]
              · refine ⟨rfl, rfl, rfl, rfl, ⟨1, 1, rfl, fun h => by cases h⟩, by simp [hcs, bytesOf_length]; omega, fun i v hv => ?_, fun i hi h1 _ => ?_, fun ψ b _ hb => ?_⟩
                · obtain ⟨y, hy, hyr⟩ := (bytes_cells φ s').get i v hv
                  refine ⟨y, ?_, hyr⟩
                  have hy' : (s'.data.map fun b => Value.int .u8 b.toNat)[i]? = some y := by simpa using hy
                  simp only [c]
                  rw [Array.getElem?_append_left (Array.getElem?_eq_some_iff.1 hy').1]
                  exact hy'
                · have : i < cap := by omega
                  exact absurd h1 (by show ¬ cap ≤ i; omega)
                · rw [hcs] at hb
                  refine ⟨_, 0, cap, hb, ?_, Nat.le_refl _, by simp [lenL_eq, bytesOf_length]; exact hle, (fun h => by cases h), (fun _ => by show 0 + cap * 1 ≤ cap; omega), fun _ => rfl, Nat.le_refl _⟩
                  simp [lenL_eq, bytesOf_length]
          · cases he
        · cases he
      · cases he
    · cases he
end Dv
end

section
namespace Dv
open Go

abbrev Bad : String → Prop := fun _ => False

theorem one_of {φ : Phi} {v : V} {x : Value} (h : rel φ v x) (h1 : oneV v = true) : x.oneCell' = true := by
  cases v <;> simp only [rel] at h <;> first
    | (simp [oneV] at h1; done)
    | (subst h; rfl)
    | (obtain ⟨_, rfl, _⟩ := h; rfl)
    | (obtain ⟨_, _, rfl⟩ := h; rfl)
    | (obtain ⟨_, _, _, rfl, _⟩ := h; rfl)
    | (obtain ⟨_, _, _, _, rfl, _⟩ := h; rfl)

theorem ones_of {φ : Phi} : ∀ {vs : List V} {xs : List Value}, rels φ vs xs → allOne vs = true → ∀ x ∈ xs, x.oneCell' = true
  | [], xs, h, _, x, hx => by simp only [rels] at h; subst h; cases hx
  | v :: vs, xs, ⟨y, ys, e, h1, h2⟩, ha, x, hx => by
    subst e
    cases hv : oneV v with
    | false => simp [allOne, hv] at ha
    | true =>
      simp [allOne, hv] at ha
      rcases List.mem_cons.1 hx with rfl | hx
      · exact one_of h1 hv
      · exact ones_of h2 ha x hx

/-- What a row of stores into one block leaves. -/
theorem run_stores {P : Program} {rb off : Nat} {e : TypeId} {fr : Nat × Nat} : ∀ (xs : List Value) (i : Nat) (c : Array Value) (w : World), w.heap[rb]? = some (.cells c e fr) → off + i + xs.length ≤ c.size →
    (∀ j, i ≤ j → j < i + xs.length → ¬ (fr.1 ≤ off + j ∧ off + j < fr.2)) → (∀ x ∈ xs, x.oneCell' = true) →
    ∃ w' c', (storeCells ⟨rb, off, none⟩ xs i).run P w = .ok () w' ∧ w'.heap[rb]? = some (.cells c' e fr) ∧ c'.size = c.size ∧
      (∀ k, c'[k]? = if off + i ≤ k ∧ k < off + i + xs.length then xs[k - (off + i)]? else c[k]?) ∧ (∀ r, r ≠ rb → w'.heap[r]? = w.heap[r]?) ∧ w'.heap.size = w.heap.size ∧ w'.os = w.os ∧ w'.tape = w.tape ∧ w'.output = w.output
  | [], i, c, w, hc, _, _, _ => ⟨w, c, rfl, hc, rfl, fun k => by rw [if_neg (by simp)], fun _ _ => rfl, rfl, rfl, rfl, rfl⟩
  | x :: xs, i, c, w, hc, hle, hfr, h1 => by
    simp only [List.length_cons] at hle hfr
    have hlt : off + i < c.size := by omega
    have hcell : w.cell? ⟨rb, off + i, none⟩ = some c[off + i] := by rw [cell_eq hc]; simp [hlt]
    have hnf : w.frozen? ⟨rb, off + i, none⟩ = false := by
      have := hfr i (Nat.le_refl _) (by omega)
      obtain ⟨lo, hi⟩ := fr
      simp only [World.frozen?, hc]
      simp only [Bool.and_eq_false_iff, decide_eq_false_iff_not]
      simp only at this
      omega
    have hst : (store ((⟨rb, off, none⟩ : Addr).add i) x).run P w = .ok () (w.setCell ⟨rb, off + i, none⟩ x) := by
      rw [Addr_add, run_store P w _ x _ (h1 x (by simp)), hcell]
      simp [hnf]
    have hheap : (w.setCell ⟨rb, off + i, none⟩ x).heap[rb]? = some (.cells (c.setIfInBounds (off + i) x) e fr) := by
      simp [World.setCell, Array.getElem?_modify, hc]
    obtain ⟨w', c', g1, g2, g3, g4, g5, g6, g7, g8, g9⟩ := run_stores (P := P) xs (i + 1) (c.setIfInBounds (off + i) x) (w.setCell ⟨rb, off + i, none⟩ x) hheap (by simp; omega) (fun j h2 h3 => hfr j (by omega) (by omega)) (fun y hy => h1 y (by simp [hy]))
    refine ⟨w', c', ?_, g2, by rw [g3]; simp, fun k => ?_, fun r hr => ?_, by rw [g6]; simp [World.setCell], g7, g8, g9⟩
    · simp only [storeCells, Sem.run_bind, hst, Result.andThen_ok, g1]
    · rw [g4 k]
      by_cases hk : k = off + i
      · subst hk
        rw [if_neg (by omega), if_pos (by simp)]
        simp [hlt]
      · by_cases hk2 : off + (i + 1) ≤ k ∧ k < off + (i + 1) + xs.length
        · rw [if_pos hk2, if_pos (by simp; omega)]
          rw [show k - (off + i) = (k - (off + (i + 1))) + 1 by omega]
          simp
        · rw [if_neg hk2, if_neg (by simp; omega)]
          rw [Array.getElem?_setIfInBounds_ne (by omega)]
    · rw [g5 r hr]
      simp [World.setCell, Array.getElem?_modify, Ne.symm hr]

noncomputable def storeV (h : H) (b o : Nat) (vs : List V) : Option H :=
  match h.get b with
  | some (.cells cs e rw lo hi) =>
    if o + vs.length ≤ cs.length ∧ mayWrite rw lo hi o vs.length = true ∧ allOne vs = true then some (h.upd b (.cells (putAt cs o vs) e rw lo hi)) else none
  | _ => none

theorem storeK_iff (h : H) (b o : Nat) (vs : List V) (k : H → Prop) : storeK Bad h b o vs k ↔ ∃ h', storeV h b o vs = some h' ∧ k h' := by
  unfold storeK storeV
  cases hg : h.get b with
  | none => simp
  | some obj =>
    cases obj with
    | dead => simp
    | loop => simp
    | cells cs e rw lo hi =>
      simp only [ble_dec, lenL_eq]
      have e1 : Nat.add o vs.length = o + vs.length := rfl
      rw [e1]
      by_cases h1 : o + vs.length ≤ cs.length
      · simp only [h1, decide_true, cond_true]
        cases h2 : mayWrite rw lo hi o vs.length with
        | false => simp
        | true =>
          cases h3 : allOne vs with
          | false => simp
          | true => simp [forceK_eq, H.setK_eq]
      · simp [h1]

theorem putAt_length {α : Type} (l : List α) (i : Nat) (xs : List α) (h : i + xs.length ≤ l.length) : (putAt l i xs).length = l.length := by
  rw [putAt_eq l i xs (by omega)]; simp; omega
theorem putAt_get {α : Type} (l : List α) (i : Nat) (xs : List α) (h : i + xs.length ≤ l.length) (k : Nat) : (putAt l i xs)[k]? = if i ≤ k ∧ k < i + xs.length then xs[k - i]? else l[k]? := by
  rw [putAt_eq l i xs (by omega)]
  by_cases h1 : k < i
  · rw [if_neg (by omega), List.append_assoc, List.getElem?_append_left (by simp; omega), List.getElem?_take, if_pos h1]
  · by_cases h2 : k < i + xs.length
    · rw [if_pos (by omega), List.append_assoc, List.getElem?_append_right (by simp; omega), List.getElem?_append_left (by simp; omega)]
      simp only [List.length_take]; congr 1; omega
    · rw [if_neg (by omega), List.getElem?_append_right (by simp; omega), List.getElem?_drop]
      simp only [List.length_append, List.length_take]; congr 1; omega

theorem store_ok {P : Program} {φ : Phi} {h h' : H} {w : World} (hr : HR φ h w) {b o : Nat} {vs : List V} {xs : List Value} {l : Loc} (hφ : φ b = some l) (hv : rels φ vs xs) (he : storeV h b o vs = some h') :
    ∃ w', (storeCells ⟨l.rb, l.base + o, none⟩ xs).run P w = .ok () w' ∧ Fr φ h w φ h' w' ∧ HR φ h' w' := by
  unfold storeV at he
  split at he
  · rename_i cs e rw lo hi hg
    split at he
    · rename_i hc
      obtain ⟨hle, hmay, hone⟩ := hc
      cases he
      obtain ⟨c, fr, g1, g2, g3, g4, g5, g6⟩ := hr.obj b _ l hg hφ
      have hlen := hv.length
      have hrw : rw = true := by
        cases rw with
        | true => rfl
        | false => simp [mayWrite] at hmay
      subst hrw
      have hm : hi ≤ lo ∨ o + vs.length ≤ lo ∨ hi ≤ o := by
        simp only [mayWrite, cond_true, ble_dec, Bool.or_eq_true, decide_eq_true_eq] at hmay
        have e1 : Nat.add o vs.length = o + vs.length := rfl
        rw [e1] at hmay
        omega
      obtain ⟨w', c', k1, k2, k3, k4, k5, k6, k7, k8, k9⟩ := run_stores (P := P) (off := l.base + o) xs 0 c w g1 (by omega) (fun j _ h2 h3 => by
        have := g5 (l.base + o + j) (by omega) (by omega) h3.1 h3.2
        omega) (ones_of hv hone)
      refine ⟨w', k1, ⟨.refl φ, fun _ _ e e' => (by rw [e] at e'; cases e'), Nat.le_refl _, by omega, k7, k8, k9, fun rb hlt hown => ?_, ?_, fun rb r hr => ⟨r, by rw [k5 rb fun e => (by rw [e, g1] at hr; cases hr)]; exact hr⟩⟩, ⟨?_, ?_, hr.fix⟩⟩
      · have hne : rb ≠ l.rb := fun h' => hown ⟨b, l, _, hg, rfl, hφ, h'.symm⟩
        refine ⟨k5 rb hne, fun ⟨b', l', o', hg', hrw', hφ', hrb'⟩ => hown ?_⟩
        rcases H.get_upd hg' with ⟨rfl, rfl⟩ | ⟨_, hg'⟩
        · rw [hφ] at hφ'; cases hφ'; exact absurd hrb'.symm hne
        · exact ⟨b', l', o', hg', hrw', hφ', hrb'⟩
      · rintro rb _ ⟨b', l', o', hg', hlv, hφ', hrb'⟩
        rcases H.get_upd hg' with ⟨rfl, rfl⟩ | ⟨_, hg'⟩
        · exact ⟨b', l', _, hg, rfl, hφ', hrb'⟩
        · exact ⟨b', l', o', hg', hlv, hφ', hrb'⟩
      · intro b' o' l' hg' hφ'
        rcases H.get_upd hg' with ⟨rfl, rfl⟩ | ⟨hbb, hg'⟩
        · rw [hφ] at hφ'; cases hφ'
          refine ⟨c', fr, k2, by omega, by rw [putAt_length _ _ _ hle]; exact g3, fun i v hv' => ?_, fun i hb hi h1 h2 => g5 i hb (by omega) h1 h2, fun z1 z2 i hi h1 h2 => g6 z1 z2 i (by omega) h1 h2⟩
          rw [putAt_get _ _ _ hle] at hv'
          rw [k4]
          simp only [Nat.add_zero]
          by_cases hio : o ≤ i ∧ i < o + vs.length
          · rw [if_pos hio] at hv'
            rw [if_pos (by omega)]
            obtain ⟨x, hx, hxr⟩ := hv.get _ v hv'
            exact ⟨x, by rw [← hx]; congr 1; omega, hxr⟩
          · rw [if_neg hio] at hv'
            rw [if_neg (by omega)]
            exact g4 i v hv'
        · have hobj := hr.obj b' o' l' hg' hφ'
          refine hobj.mono (.refl φ) fun hl => k5 _ fun hrb => ?_
          exact hbb (hr.inj b b' _ o' l l' hg hg' hφ hφ' hrb.symm rfl hl rfl).symm
      · intro b1 b2 o1 o2 l1 l2 h1 h2 p1 p2 hrb hl1 hl2 hrw1
        rcases H.get_upd h1 with ⟨hb1, ho1⟩ | ⟨hb1, h1'⟩ <;> rcases H.get_upd h2 with ⟨hb2, ho2⟩ | ⟨hb2, h2'⟩
        · rw [hb1, hb2]
        · subst hb1
          exact hr.inj b1 b2 _ o2 l1 l2 hg h2' p1 p2 hrb rfl hl2 rfl
        · subst hb2
          exact hr.inj b1 b2 o1 _ l1 l2 h1' hg p1 p2 hrb hl1 rfl hrw1
        · exact hr.inj b1 b2 o1 o2 l1 l2 h1' h2' p1 p2 hrb hl1 hl2 hrw1
    · cases he
  · cases he
end Dv
end
