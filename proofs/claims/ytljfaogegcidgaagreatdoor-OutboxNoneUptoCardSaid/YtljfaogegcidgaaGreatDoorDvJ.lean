/-
  A faster evaluator, and that it answers the same.
-/
import Derived.Test.YtljfaogegcidgaaGreatDoorDvI
namespace Dv
open Go

abbrev KV := V → H → Prop
abbrev KT := Tr V → H → Prop
abbrev KE := Ex → Tr V → H → Prop
abbrev CallF := Tgt → List V → H → KV → Prop
abbrev GetF := Tr V → Option V
abbrev SetF := V → Tr V → (Tr V → Prop) → Prop
abbrev ExecF := CallF → Tr V → H → KV → Prop
abbrev RegF := CallF → Tr V → H → KT → Prop

noncomputable def optK {α : Type} (o : Option α) (f : α → Prop) : Prop := Option.rec (motive := fun _ => Prop) False f o
noncomputable def bindO {α β : Type} (o : Option α) (f : α → Option β) : Option β := Option.rec (motive := fun _ => Option β) none f o

/-! ### Slots: the way to a slot is data (the kernel keeps what it has once come to, of a closed thing that is looked at) -/
inductive Pth where
  | here | left (p : Pth) | right (p : Pth)
noncomputable def pthF (n : Nat) : Nat → Pth := Nat.rec (motive := fun _ => Nat → Pth) (fun _ => .here)
  (fun _ ih i => Nat.rec (motive := fun _ => Pth) .here (fun j _ => Bool.rec (motive := fun _ => Pth) (.right (ih (Nat.div j 2))) (.left (ih (Nat.div j 2))) (Nat.beq (Nat.mod j 2) 0)) i) n
noncomputable def pthOf (i : Nat) : Pth := pthF depth i
noncomputable def pthG (i : Nat) : Pth := pthF i i

noncomputable def g0 : GetF := Tr.rec (motive := fun _ => Option V) none (fun v _ _ _ _ => v)
noncomputable def gL (g : GetF) : GetF := Tr.rec (motive := fun _ => Option V) none (fun _ l _ _ _ => g l)
noncomputable def gR (g : GetF) : GetF := Tr.rec (motive := fun _ => Option V) none (fun _ _ r _ _ => g r)
noncomputable def getP (p : Pth) : GetF := Pth.rec (motive := fun _ => GetF) g0 (fun _ ih => gL ih) (fun _ ih => gR ih) p

theorem getP_eq : ∀ (n i : Nat) (t : Tr V), i ≤ n → getP (pthF n i) t = t.get i
  | 0, i, t, h => by
    obtain rfl : i = 0 := by omega
    cases t <;> rfl
  | n + 1, 0, t, _ => by cases t <;> rfl
  | n + 1, j + 1, t, h => by
    show getP (Bool.rec (motive := fun _ => Pth) (.right (pthF n (Nat.div j 2))) (.left (pthF n (Nat.div j 2))) (Nat.beq (Nat.mod j 2) 0)) t = _
    have hle : Nat.div j 2 ≤ n := by show j / 2 ≤ n; omega
    cases t with
    | nil => cases Nat.beq (Nat.mod j 2) 0 <;> rfl
    | nd v l r =>
      rw [Tr.get_nd_succ]
      cases Nat.beq (Nat.mod j 2) 0
      · exact getP_eq n _ r hle
      · exact getP_eq n _ l hle
theorem getG_eq (i : Nat) (t : Tr V) : getP (pthG i) t = t.get i := getP_eq i i t (Nat.le_refl _)

/-- puts where the way ends; behind as many turns as it is looked for, nothing is put -/
noncomputable def s0 : SetF := fun x t k => Tr.rec (motive := fun _ => Prop) (k (.nd (some x) .nil .nil)) (fun _ l r _ _ => k (.nd (some x) l r)) t
noncomputable def sL (s : SetF) : SetF := fun x t k => Tr.rec (motive := fun _ => Prop) (s x .nil fun l => k (.nd none l .nil)) (fun v l r _ _ => s x l fun l => k (.nd v l r)) t
noncomputable def sR (s : SetF) : SetF := fun x t k => Tr.rec (motive := fun _ => Prop) (s x .nil fun r => k (.nd none .nil r)) (fun v l r _ _ => s x r fun r => k (.nd v l r)) t
noncomputable def setP (p : Pth) : SetF := Pth.rec (motive := fun _ => SetF) s0 (fun _ ih => sL ih) (fun _ ih => sR ih) p

/-- is a slot's number one that the depth reaches? -/
def inDepth : Nat → Nat → Bool
  | 0, _ => false
  | _ + 1, 0 => true
  | n + 1, j + 1 => inDepth n (j / 2)
theorem setP_eq : ∀ (n i : Nat) (x : V) (t : Tr V) (k : Tr V → Prop), inDepth n i = true → setP (pthF n i) x t k = t.setK x n i k
  | 0, _, _, _, _, h => by cases h
  | n + 1, 0, x, t, k, _ => by cases t <;> rfl
  | n + 1, j + 1, x, t, k, h => by
    show setP (Bool.rec (motive := fun _ => Pth) (.right (pthF n (Nat.div j 2))) (.left (pthF n (Nat.div j 2))) (Nat.beq (Nat.mod j 2) 0)) x t k = Bool.rec (motive := fun _ => Prop) _ _ (Nat.beq (Nat.mod j 2) 0)
    cases Nat.beq (Nat.mod j 2) 0 <;> cases t <;> exact setP_eq n _ _ _ _ h
noncomputable def puNone : SetF := fun _ t k => k t
noncomputable def puBad : SetF := fun _ _ _ => False
noncomputable def puSlow (i : Nat) : SetF := fun x t k => t.setK x depth i k
inductive BxS where
  | mk (s : SetF)
noncomputable def puOf (nt : Nat) (dst : Option Tmp) : BxS :=
  match dst with
  | some d => cond (Nat.blt d nt) (cond (inDepth depth d) (.mk (setP (pthOf d))) (.mk (puSlow d))) (.mk puBad)
  | none => .mk puNone
noncomputable def pu (b : BxS) : SetF := fun x t k => BxS.rec (motive := fun _ => Prop) (fun s => s x t k) b
theorem puOf_eq (nt : Nat) (dst : Option Tmp) (v : V) (t : Tr V) (k : Tr V → Prop) : pu (puOf nt dst) v t k = putK Bad nt t dst v k := by
  unfold puOf putK
  cases dst with
  | none => rfl
  | some d =>
    cases hb : Nat.blt d nt with
    | false => simp only [hb, cond_false]; rfl
    | true =>
      cases hd : inDepth depth d with
      | false => simp only [hb, hd, cond_true, cond_false]; rfl
      | true => simp only [hb, hd, cond_true]; exact setP_eq _ _ _ _ _ hd

/-! ### Looking at a value -/
section
variable {β : Type}
noncomputable def onBool (x : V) (e : β) (f : Bool → β) : β := V.rec (motive_1 := fun _ => β) (motive_2 := fun _ => β) f (fun _ _ => e) (fun _ => e) e (fun _ _ => e) e (fun _ _ _ _ _ => e) e (fun _ => e) e (fun _ _ _ _ _ => e) e (fun _ _ _ => e) (fun _ _ => e) (fun _ _ => e) e (fun _ _ _ _ => e) x
noncomputable def onInt (x : V) (e : β) (f : IntKind → Int → β) : β := V.rec (motive_1 := fun _ => β) (motive_2 := fun _ => β) (fun _ => e) f (fun _ => e) e (fun _ _ => e) e (fun _ _ _ _ _ => e) e (fun _ => e) e (fun _ _ _ _ _ => e) e (fun _ _ _ => e) (fun _ _ => e) (fun _ _ => e) e (fun _ _ _ _ => e) x
noncomputable def onStr (x : V) (e : β) (f : List Nat → β) : β := V.rec (motive_1 := fun _ => β) (motive_2 := fun _ => β) (fun _ => e) (fun _ _ => e) f e (fun _ _ => e) e (fun _ _ _ _ _ => e) e (fun _ => e) e (fun _ _ _ _ _ => e) e (fun _ _ _ => e) (fun _ _ => e) (fun _ _ => e) e (fun _ _ _ _ => e) x
noncomputable def onPtr (x : V) (e : β) (f : Nat → Nat → β) : β := V.rec (motive_1 := fun _ => β) (motive_2 := fun _ => β) (fun _ => e) (fun _ _ => e) (fun _ => e) e f e (fun _ _ _ _ _ => e) e (fun _ => e) e (fun _ _ _ _ _ => e) e (fun _ _ _ => e) (fun _ _ => e) (fun _ _ => e) e (fun _ _ _ _ => e) x
noncomputable def onSlice (x : V) (e : β) (f : Nat → Nat → Nat → β) : β := V.rec (motive_1 := fun _ => β) (motive_2 := fun _ => β) (fun _ => e) (fun _ _ => e) (fun _ => e) e (fun _ _ => e) e (fun b o n _ _ => f b o n) e (fun _ => e) e (fun _ _ _ _ _ => e) e (fun _ _ _ => e) (fun _ _ => e) (fun _ _ => e) e (fun _ _ _ _ => e) x
noncomputable def onAgg (x : V) (e : β) (f : List V → β) : β := V.rec (motive_1 := fun _ => β) (motive_2 := fun _ => β) (fun _ => e) (fun _ _ => e) (fun _ => e) e (fun _ _ => e) e (fun _ _ _ _ _ => e) e (fun _ => e) e (fun _ _ _ _ _ => e) e (fun _ _ _ => e) (fun cs _ => f cs) (fun _ _ => e) e (fun _ _ _ _ => e) x
noncomputable def onTup (x : V) (e : β) (f : List V → β) : β := V.rec (motive_1 := fun _ => β) (motive_2 := fun _ => β) (fun _ => e) (fun _ _ => e) (fun _ => e) e (fun _ _ => e) e (fun _ _ _ _ _ => e) e (fun _ => e) e (fun _ _ _ _ _ => e) e (fun _ _ _ => e) (fun _ _ => e) (fun cs _ => f cs) e (fun _ _ _ _ => e) x
noncomputable def onNat (n : Int) (e : β) (f : Nat → β) : β := Int.rec (motive := fun _ => β) f (fun _ => e) n
end

/-! ### Lists by their recursors -/
noncomputable def nthR {α : Type} (l : List α) : Nat → Option α := List.rec (motive := fun _ => Nat → Option α) (fun _ => none) (fun a _ ih i => Nat.rec (motive := fun _ => Option α) (some a) (fun j _ => ih j) i) l
theorem nthR_eq {α : Type} : ∀ (l : List α) (i : Nat), nthR l i = nth l i
  | [], _ => by simp only [nth]; rfl
  | a :: l, 0 => rfl
  | a :: l, i + 1 => (nthR_eq l i : nthR l i = nth l i)
noncomputable def lenR {α : Type} (l : List α) : Nat := List.rec (motive := fun _ => Nat) 0 (fun _ _ ih => Nat.succ ih) l
theorem lenR_eq {α : Type} : ∀ l : List α, lenR l = lenL l
  | [] => rfl
  | _ :: l => congrArg Nat.succ (lenR_eq l)
noncomputable def partR (i : TI) (cs : List V) (off : Nat) : Option V := Bool.rec (motive := fun _ => Option V) (nthR cs off) ((sub? cs off i.size).map V.agg) i.agg
theorem partR_eq (i : TI) (cs : List V) (off : Nat) : partR i cs off = partV i cs off := by
  unfold partR partV
  cases i.agg
  · exact nthR_eq cs off
  · rfl

/-! ### Operands -/
inductive GD where
  | way (p : Pth)
  | val (o : Option V)
noncomputable def gd (g : GD) : GetF := fun t => GD.rec (motive := fun _ => Option V) (fun p => getP p t) (fun o => o) g
noncomputable def gOf : Operand → GD
  | .tmp i => .way (pthG i)
  | .const v => .val (ofValue 4 v)
  | .global _ => .val none
  | .func f => .val (some (.func (.func f) [] []))
theorem gOf_eq (x : Operand) (t : Tr V) : gd (gOf x) t = eva t x := by
  cases x <;> first | exact getG_eq _ _ | rfl

inductive GL where
  | nil | cons (g : GD) (l : GL)
noncomputable def gl (l : GL) (t : Tr V) : Option (List V) := GL.rec (motive := fun _ => Option (List V)) (some []) (fun g _ ih => bindO (gd g t) fun v => bindO ih fun vs => some (v :: vs)) l
noncomputable def gsOf : List Operand → GL
  | [] => .nil
  | x :: l => .cons (gOf x) (gsOf l)
theorem gsOf_eq : ∀ (l : List Operand) (t : Tr V), gl (gsOf l) t = evas t l
  | [], _ => rfl
  | x :: l, t => by
    show bindO (gd (gOf x) t) (fun v => bindO (gl (gsOf l) t) fun vs => some (v :: vs)) = _
    simp only [evas, gOf_eq, gsOf_eq l t]
    cases eva t x with
    | none => rfl
    | some v => cases evas t l <;> rfl
inductive GPL where
  | nil | cons (i : Nat) (g : GD) (l : GPL)
noncomputable def gp (l : GPL) (t : Tr V) : Option (List (Nat × V)) := GPL.rec (motive := fun _ => Option (List (Nat × V))) (some []) (fun i g _ ih => bindO (gd g t) fun v => bindO ih fun vs => some ((i, v) :: vs)) l
noncomputable def gpOf : List (Nat × Operand) → GPL
  | [] => .nil
  | (i, x) :: l => .cons i (gOf x) (gpOf l)
theorem gpOf_eq : ∀ (l : List (Nat × Operand)) (t : Tr V), gp (gpOf l) t = evaParts t l
  | [], _ => rfl
  | (i, x) :: l, t => by
    show bindO (gd (gOf x) t) (fun v => bindO (gp (gpOf l) t) fun vs => some ((i, v) :: vs)) = _
    simp only [evaParts, gOf_eq, gpOf_eq l t]
    cases eva t x with
    | none => rfl
    | some v => cases evaParts t l <;> rfl
noncomputable def go (x : Option GD) (t : Tr V) : Option (Option V) := Option.rec (motive := fun _ => Option (Option V)) (some none) (fun g => bindO (gd g t) fun v => some (some v)) x
noncomputable def goOf (x : Option Operand) : Option GD := x.map gOf
theorem goOf_eq (x : Option Operand) (t : Tr V) : go (goOf x) t = evaOpt t x := by
  cases x with
  | none => rfl
  | some x => show bindO (gd (gOf x) t) _ = _; rw [gOf_eq]; show _ = (eva t x).map some; cases eva t x <;> rfl

/-! ### Whole numbers -/
inductive BxI where
  | mk (f : IntKind → Int → IntKind → Int → Option V)
def i_add (k : IntKind) (a : Int) (k' : IntKind) (b : Int) : Option V := cond (kindEq k k') (some (.int k (wrapD k (Int.add a b)))) none
def i_sub (k : IntKind) (a : Int) (k' : IntKind) (b : Int) : Option V := cond (kindEq k k') (some (.int k (wrapD k (Int.sub a b)))) none
def i_mul (k : IntKind) (a : Int) (k' : IntKind) (b : Int) : Option V := cond (kindEq k k') (some (.int k (wrapD k (Int.mul a b)))) none
def i_quo (k : IntKind) (a : Int) (k' : IntKind) (b : Int) : Option V := cond (kindEq k k') (cond (eqI b 0) none (some (.int k (wrapD k (Int.tdiv a b))))) none
def i_rem (k : IntKind) (a : Int) (k' : IntKind) (b : Int) : Option V := cond (kindEq k k') (cond (eqI b 0) none (some (.int k (Int.tmod a b)))) none
def i_and (k : IntKind) (a : Int) (k' : IntKind) (b : Int) : Option V := cond (kindEq k k') (some (.int k (wrapBig k (Nat.land (low k a) (low k b))))) none
def i_or (k : IntKind) (a : Int) (k' : IntKind) (b : Int) : Option V := cond (kindEq k k') (some (.int k (wrapBig k (Nat.lor (low k a) (low k b))))) none
def i_xor (k : IntKind) (a : Int) (k' : IntKind) (b : Int) : Option V := cond (kindEq k k') (some (.int k (wrapBig k (Nat.xor (low k a) (low k b))))) none
def i_eql (k : IntKind) (a : Int) (k' : IntKind) (b : Int) : Option V := cond (kindEq k k') (some (.bool (eqI a b))) none
def i_neq (k : IntKind) (a : Int) (k' : IntKind) (b : Int) : Option V := cond (kindEq k k') (some (.bool (!eqI a b))) none
def i_lss (k : IntKind) (a : Int) (k' : IntKind) (b : Int) : Option V := cond (kindEq k k') (some (.bool (ltI a b))) none
def i_leq (k : IntKind) (a : Int) (k' : IntKind) (b : Int) : Option V := cond (kindEq k k') (some (.bool (!ltI b a))) none
def i_gtr (k : IntKind) (a : Int) (k' : IntKind) (b : Int) : Option V := cond (kindEq k k') (some (.bool (ltI b a))) none
def i_geq (k : IntKind) (a : Int) (k' : IntKind) (b : Int) : Option V := cond (kindEq k k') (some (.bool (!ltI a b))) none
def i_shl (k : IntKind) (a : Int) (_ : IntKind) (b : Int) : Option V := shiftV .shl k a b
def i_shr (k : IntKind) (a : Int) (_ : IntKind) (b : Int) : Option V := shiftV .shr k a b
def i_slow (op : BinOp) (k : IntKind) (a : Int) (k' : IntKind) (b : Int) : Option V := cond (kindEq k k') (intV op k a b) none
def iBin : BinOp → BxI
  | .add => .mk i_add
  | .sub => .mk i_sub
  | .mul => .mk i_mul
  | .quo => .mk i_quo
  | .rem => .mk i_rem
  | .and => .mk i_and
  | .or => .mk i_or
  | .xor => .mk i_xor
  | .eql => .mk i_eql
  | .neq => .mk i_neq
  | .lss => .mk i_lss
  | .leq => .mk i_leq
  | .gtr => .mk i_gtr
  | .geq => .mk i_geq
  | .shl => .mk i_shl
  | .shr => .mk i_shr
  | op => .mk (i_slow op)
noncomputable def ib (b : BxI) (k : IntKind) (x : Int) (k' : IntKind) (y : Int) : Option V := BxI.rec (motive := fun _ => Option V) (fun f => f k x k' y) b

/-! ### Operations that look at no memory -/
inductive BxG where
  | mk (g : GetF)
noncomputable def pv (b : BxG) : GetF := fun t => BxG.rec (motive := fun _ => Option V) (fun g => g t) b
noncomputable def pvGet (g : GD) : GetF := fun t => gd g t
noncomputable def pvBin (f : BxI) (slow : V → V → Option V) (gx gy : GD) : GetF := fun t =>
  bindO (gd gx t) fun x => bindO (gd gy t) fun y => onInt x (slow x y) fun k a => onInt y (slow x y) fun k' b => ib f k a k' b
noncomputable def pvThen (g : GD) (f : V → Option V) : GetF := fun t => bindO (gd g t) f
noncomputable def pvThen2 (gx gy : GD) (f : V → V → Option V) : GetF := fun t => bindO (gd gx t) fun x => bindO (gd gy t) fun y => f x y
noncomputable def cvInt (k : IntKind) : V → Option V := fun x => onInt x none fun _ n => some (.int k (wrapD k n))
noncomputable def faAt (off : Nat) : V → Option V := fun x => onPtr x none fun b o => some (.ptr b (Nat.add o off))
noncomputable def fdAt (j : TI) (off : Nat) : V → Option V := fun x => onAgg x none fun cs => partR j cs off
noncomputable def iaSlice (size : Nat) : V → V → Option V := fun x ix => onInt ix none fun _ n => onNat n none fun n => onSlice x none fun b o len => cond (Nat.blt n len) (some (.ptr b (Nat.add o (Nat.mul n size)))) none
noncomputable def iaArr (len size : Nat) : V → V → Option V := fun x ix => onInt ix none fun _ n => onNat n none fun n => onPtr x none fun b o => cond (Nat.blt n len) (some (.ptr b (Nat.add o (Nat.mul n size)))) none
noncomputable def ixStr : V → V → Option V := fun x ix => onInt ix none fun _ n => onNat n none fun n => onStr x none fun s => bindO (nthR s n) fun c => some (.int .u8 (.ofNat c))
noncomputable def ixArr (j : TI) (len : Nat) : V → V → Option V := fun x ix => onInt ix none fun _ n => onNat n none fun n => onAgg x none fun cs => cond (Nat.blt n len) (partR j cs (Nat.mul n j.size)) none
noncomputable def exAt (i : Nat) : V → Option V := fun x => onTup x none fun vs => nthR vs i
theorem fdAt_agg (j : TI) (off : Nat) (cs : List V) : fdAt j off (.agg cs) = partV j cs off := partR_eq j cs off
theorem exAt_tup (i : Nat) (vs : List V) : exAt i (.tuple vs) = nth vs i := nthR_eq vs i
theorem ixStr_str (k : IntKind) (s : List Nat) (m : Nat) : ixStr (.str s) (.int k (.ofNat m)) = (nth s m).map fun c => V.int .u8 (.ofNat c) := by
  show bindO (nthR s m) _ = _
  rw [nthR_eq]; cases nth s m <;> rfl
theorem ixArr_agg (j : TI) (len : Nat) (k : IntKind) (cs : List V) (m : Nat) : ixArr j len (.agg cs) (.int k (.ofNat m)) = cond (Nat.blt m len) (partV j cs (Nat.mul m j.size)) none := by
  show cond _ (partR j cs _) none = _
  rw [partR_eq]
noncomputable def mkI (ty : TypeId) : V → Option V := fun v => some (.iface ty v)
noncomputable def pvSlice (P : Program) (ty : TypeId) (gx : GD) (lo hi mx : Option GD) : GetF := fun t => bindO (gd gx t) fun v => bindO (go lo t) fun lo => bindO (go hi t) fun hi => bindO (go mx t) fun mx => sliceV P ty v lo hi mx
noncomputable def buildOf (P : Program) (ty : TypeId) (ps : List (Nat × V)) : Option V :=
  match mkTI P ty with
  | some i => match i.zero with
    | some z => match i.sh with
      | .strct fs => match placesL P fs with
        | some pl => (fillV (nth pl) z.cells ps).map V.agg
        | none => none
      | .arr _ e => match sizeT P e with
        | some size => (fillV (fun i => some (Nat.mul i size, size)) z.cells ps).map V.agg
        | none => none
      | _ => none
    | none => none
  | none => none
noncomputable def pvBuild (f : List (Nat × V) → Option V) (ps : GPL) : GetF := fun t => bindO (gp ps t) f

noncomputable def slowG (P : Program) (op : Op) : GetF := fun t => pureV P t op
noncomputable def slowP (P : Program) (op : Op) : BxG := .mk (slowG P op)

noncomputable def pvConv (P : Program) (s d : TypeId) (x : Operand) : BxG :=
  match mkTI P s, mkTI P d with
  | some i, some j => match i.sh, j.sh with
    | .int _, .int k => .mk (pvThen (gOf x) (cvInt k))
    | _, _ => slowP P (.convert s d x)
  | _, _ => slowP P (.convert s d x)
noncomputable def pvFA (P : Program) (s : TypeId) (x : Operand) (f : Nat) : BxG :=
  match mkTI P s with
  | some i => match i.sh with
    | .strct fs => match nth fs f with
      | some (off, ft) => match sizeT P ft with
        | some (_ + 1) => .mk (pvThen (gOf x) (faAt off))
        | _ => slowP P (.fieldAddr s x f)
      | none => slowP P (.fieldAddr s x f)
    | _ => slowP P (.fieldAddr s x f)
  | none => slowP P (.fieldAddr s x f)
noncomputable def pvFd (P : Program) (s : TypeId) (x : Operand) (f : Nat) : BxG :=
  match mkTI P s with
  | some i => match i.sh with
    | .strct fs => match nth fs f with
      | some (off, ft) => match mkTI P ft with
        | some j => .mk (pvThen (gOf x) (fdAt j off))
        | none => slowP P (.field s x f)
      | none => slowP P (.field s x f)
    | _ => slowP P (.field s x f)
  | none => slowP P (.field s x f)
noncomputable def pvIA (P : Program) (ty : TypeId) (x ix : Operand) : BxG :=
  match mkTI P ty with
  | some i => match i.sh with
    | .slice e => match sizeT P e with
      | some size => .mk (pvThen2 (gOf x) (gOf ix) (iaSlice size))
      | none => slowP P (.indexAddr ty x ix)
    | .arr len e => match sizeT P e with
      | some size => .mk (pvThen2 (gOf x) (gOf ix) (iaArr len size))
      | none => slowP P (.indexAddr ty x ix)
    | _ => slowP P (.indexAddr ty x ix)
  | none => slowP P (.indexAddr ty x ix)
noncomputable def pvIx (P : Program) (ty : TypeId) (x ix : Operand) : BxG :=
  match mkTI P ty with
  | some i => match i.sh with
    | .str => .mk (pvThen2 (gOf x) (gOf ix) ixStr)
    | .arr len e => match mkTI P e with
      | some j => .mk (pvThen2 (gOf x) (gOf ix) (ixArr j len))
      | none => slowP P (.index ty x ix)
    | _ => slowP P (.index ty x ix)
  | none => slowP P (.index ty x ix)
noncomputable def pvMI (P : Program) (ty : TypeId) (x : Operand) : BxG :=
  match mkTI P ty with
  | some i => match i.sh with
    | .iface => slowP P (.makeInterface ty x)
    | _ => .mk (pvThen (gOf x) (mkI ty))
  | none => slowP P (.makeInterface ty x)
noncomputable def pvCall (P : Program) (c : Call) : BxG :=
  match c with
  | { callee := .builtin b, args, argTypes } => match b, args.toList, argTypes.toList with
    | .len, [x], ty :: _ => .mk (pvThen (gOf x) (lenV P ty))
    | _, _, _ => slowP P (.call c)
  | _ => slowP P (.call c)

noncomputable def pvOf (P : Program) (op : Op) : BxG :=
  match op with
  | .move x => .mk (pvGet (gOf x))
  | .assign x => .mk (pvGet (gOf x))
  | .binOp op xt x y _ => .mk (pvBin (iBin op) (binV P op xt (isConstO x || isConstO y)) (gOf x) (gOf y))
  | .unOp op _ x => .mk (pvThen (gOf x) (unV op))
  | .convert s d x => pvConv P s d x
  | .fieldAddr s x f => pvFA P s x f
  | .field s x f => pvFd P s x f
  | .indexAddr ty x ix => pvIA P ty x ix
  | .index ty x ix => pvIx P ty x ix
  | .extract x i => .mk (pvThen (gOf x) (exAt i))
  | .makeInterface ty x => pvMI P ty x
  | .slice ty x lo hi mx => .mk (pvSlice P ty (gOf x) (goOf lo) (goOf hi) (goOf mx))
  | .build ty parts => .mk (pvBuild (buildOf P ty) (gpOf parts.toList))
  | .typeAssert x _ want ok => .mk (pvThen (gOf x) fun v => typeAssertV P v want ok)
  | .call c => pvCall P c
  | op => slowP P op

theorem slowP_eq (P : Program) (op : Op) (t : Tr V) : pv (slowP P op) t = pureV P t op := rfl

theorem pvThen_eq (x : Operand) (f : V → Option V) (t : Tr V) : pv (.mk (pvThen (gOf x) f)) t = (match eva t x with | some v => f v | none => none) := by
  show bindO (gd (gOf x) t) f = _
  rw [gOf_eq]; cases eva t x <;> rfl
theorem pvThen2_eq (x y : Operand) (f : V → V → Option V) (t : Tr V) : pv (.mk (pvThen2 (gOf x) (gOf y) f)) t = (match eva t x, eva t y with | some v, some u => f v u | _, _ => none) := by
  show bindO (gd (gOf x) t) _ = _
  rw [gOf_eq, gOf_eq]; cases eva t x <;> cases eva t y <;> rfl

theorem iBin_eq (P : Program) (op : BinOp) (xt : TypeId) (lit : Bool) (k k' : IntKind) (a b : Int) : ib (iBin op) k a k' b = binV P op xt lit (.int k a) (.int k' b) := by
  cases op <;> rfl

theorem pvOf_eq (P : Program) (op : Op) (t : Tr V) : pv (pvOf P op) t = pureV P t op := by
  cases op <;> try exact slowP_eq P _ t
  case move x => exact gOf_eq x t
  case assign x => exact gOf_eq x t
  case binOp op xt x y tag =>
    show bindO (gd (gOf x) t) _ = _
    simp only [pureV, gOf_eq]
    cases eva t x with
    | none => rfl
    | some a =>
      cases eva t y with
      | none => rfl
      | some b => cases a <;> try rfl
                  cases b <;> try rfl
                  exact iBin_eq P op xt _ _ _ _ _
  case unOp op ty x => simp only [pvOf, pvThen_eq, pureV]; cases eva t x <;> rfl
  case convert s d x =>
    show pv (pvConv P s d x) t = pv (slowP P (.convert s d x)) t
    unfold pvConv
    split
    · rename_i i j hi hj
      split
      · rename_i k0 k e1 e2
        rw [pvThen_eq, slowP_eq]
        simp only [pureV]
        cases eva t x with
        | none => rfl
        | some v => simp only [convertV, hi, hj, e1, e2]; cases v <;> rfl
      · rfl
    · rfl
  case fieldAddr s x f =>
    show pv (pvFA P s x f) t = pv (slowP P (.fieldAddr s x f)) t
    unfold pvFA
    split
    · rename_i i hi
      split
      · rename_i fs e1
        split
        · rename_i off ft e2
          split
          · rename_i m e3
            rw [pvThen_eq, slowP_eq]
            simp only [pureV]
            cases eva t x with
            | none => rfl
            | some v => simp only [fieldAddrV, hi]; cases v <;> simp only [e1, e2, e3] <;> rfl
          · rfl
        · rfl
      · rfl
    · rfl
  case field s x f =>
    show pv (pvFd P s x f) t = pv (slowP P (.field s x f)) t
    unfold pvFd
    split
    · rename_i i hi
      split
      · rename_i fs e1
        split
        · rename_i off ft e2
          split
          · rename_i j e3
            rw [pvThen_eq, slowP_eq]
            simp only [pureV]
            cases eva t x with
            | none => rfl
            | some v => simp only [fieldV, hi]; cases v <;> simp only [e1, e2, e3] <;> first | exact fdAt_agg .. | rfl
          · rfl
        · rfl
      · rfl
    · rfl
  case indexAddr ty x ix =>
    show pv (pvIA P ty x ix) t = pv (slowP P (.indexAddr ty x ix)) t
    unfold pvIA
    split
    · rename_i i hi
      split
      · rename_i e e1
        split
        · rename_i size e2
          rw [pvThen2_eq, slowP_eq]
          simp only [pureV]
          cases eva t x with
          | none => rfl
          | some v =>
            cases eva t ix with
            | none => rfl
            | some u =>
              cases u <;> simp only [indexAddrV, hi] <;> try rfl
              rename_i k n
              cases n with
              | negSucc m => rfl
              | ofNat m => cases v <;> simp only [e1, e2] <;> rfl
        · rfl
      · rename_i len e e1
        split
        · rename_i size e2
          rw [pvThen2_eq, slowP_eq]
          simp only [pureV]
          cases eva t x with
          | none => rfl
          | some v =>
            cases eva t ix with
            | none => rfl
            | some u =>
              cases u <;> simp only [indexAddrV, hi] <;> try rfl
              rename_i k n
              cases n with
              | negSucc m => rfl
              | ofNat m => cases v <;> simp only [e1, e2] <;> rfl
        · rfl
      · rfl
    · rfl
  case index ty x ix =>
    show pv (pvIx P ty x ix) t = pv (slowP P (.index ty x ix)) t
    unfold pvIx
    split
    · rename_i i hi
      split
      · rename_i e1
        rw [pvThen2_eq, slowP_eq]
        simp only [pureV]
        cases eva t x with
        | none => rfl
        | some v =>
          cases eva t ix with
          | none => rfl
          | some u =>
            cases u <;> simp only [indexV, hi] <;> try rfl
            rename_i k n
            cases n with
            | negSucc m => rfl
            | ofNat m =>
              cases v <;> simp only [e1] <;> try rfl
              exact ixStr_str ..
      · rename_i len e e1
        split
        · rename_i j e2
          rw [pvThen2_eq, slowP_eq]
          simp only [pureV]
          cases eva t x with
          | none => rfl
          | some v =>
            cases eva t ix with
            | none => rfl
            | some u =>
              cases u <;> simp only [indexV, hi] <;> try rfl
              rename_i k n
              cases n with
              | negSucc m => rfl
              | ofNat m => cases v <;> simp only [e1, e2] <;> first | exact ixArr_agg .. | rfl
        · rfl
      · rfl
    · rfl
  case extract x i =>
    simp only [pvOf, pvThen_eq, pureV]
    cases eva t x with
    | none => rfl
    | some v => cases v <;> first | exact exAt_tup .. | rfl
  case makeInterface ty x =>
    show pv (pvMI P ty x) t = pv (slowP P (.makeInterface ty x)) t
    unfold pvMI
    split
    · rename_i i hi
      split
      · rfl
      · rename_i e1
        rw [pvThen_eq, slowP_eq]
        simp only [pureV, hi]
        cases eva t x with
        | none => rfl
        | some v =>
          cases hs : i.sh <;> first | exact (e1 hs).elim | (simp only [hs]; rfl)
    · rfl
  case slice ty x lo hi mx =>
    show bindO (gd (gOf x) t) _ = _
    simp only [pureV, gOf_eq, goOf_eq]
    cases eva t x with
    | none => rfl
    | some v =>
      cases evaOpt t lo with
      | none => rfl
      | some lo =>
        cases evaOpt t hi with
        | none => rfl
        | some hi => cases evaOpt t mx <;> rfl
  case build ty parts =>
    show bindO (gp (gpOf parts.toList) t) _ = _
    simp only [pureV, gpOf_eq]
    cases evaParts t parts.toList with
    | none => cases mkTI P ty <;> rfl
    | some ps =>
      show buildOf P ty ps = _
      unfold buildOf
      cases mkTI P ty <;> rfl
  case typeAssert x ty want ok => simp only [pvOf, pvThen_eq, pureV]; cases eva t x <;> rfl
  case call c =>
    obtain ⟨callee, args, argTypes⟩ := c
    cases callee <;> try rfl
    rename_i b
    show pv (pvCall P ⟨.builtin b, args, argTypes⟩) t = pv (slowP P (.call ⟨.builtin b, args, argTypes⟩)) t
    unfold pvCall
    simp only []
    split
    · rename_i x ty ts e1 e2
      rw [pvThen_eq, slowP_eq]
      simp only [pureV, e1, e2]
      cases eva t x <;> rfl
    · rfl

/-! ### Operations of each kind -/
inductive BxR where
  | mk (f : Tr V → H → Option V)
noncomputable def rd (b : BxR) (t : Tr V) (h : H) : Option V := BxR.rec (motive := fun _ => Option V) (fun f => f t h) b
noncomputable def rdLoad (i : TI) (g : GD) : Tr V → H → Option V := fun t h => bindO (gd g t) fun a => onPtr a none fun b o => bindO (h.cellsAt b) fun cs => partR i cs o
noncomputable def slowR (P : Program) (op : Op) : Tr V → H → Option V := fun t h => readV P t h op
noncomputable def rdOf (P : Program) (op : Op) : BxR :=
  match op with
  | .load ty a => match mkTI P ty with
    | some i => .mk (rdLoad i (gOf a))
    | none => .mk (slowR P (.load ty a))
  | op => .mk (slowR P op)
theorem rdOf_eq (P : Program) (op : Op) (t : Tr V) (h : H) : rd (rdOf P op) t h = readV P t h op := by
  cases op <;> try rfl
  rename_i ty a
  show rd (rdOf P (.load ty a)) t h = _
  simp only [rdOf]
  split
  · rename_i i hi
    show bindO (gd (gOf a) t) _ = readV P t h _
    simp only [readV, gOf_eq]
    cases eva t a with
    | none => rfl
    | some v =>
      cases v <;> simp only [loadV, hi] <;> try rfl
      rename_i b o
      show bindO (h.cellsAt b) _ = _
      cases h.cellsAt b with
      | none => rfl
      | some cs => exact partR_eq ..
  · rfl

inductive BxE where
  | mk (f : ExecF)
noncomputable def ex (b : BxE) : ExecF := fun call t h k => BxE.rec (motive := fun _ => Prop) (fun f => f call t h k) b
noncomputable def exPure (b : BxG) : ExecF := fun _ t h k => optK (pv b t) fun v => k v h
noncomputable def exRead (b : BxR) : ExecF := fun _ t h k => optK (rd b t h) fun v => k v h
noncomputable def exNew (o : O) : ExecF := fun _ _ h k => h.newK o fun b h => k (.ptr b 0) h
noncomputable def exBox (ty : TypeId) (g : GD) : ExecF := fun _ t h k => optK (gd g t) fun v => h.newK (.cells v.cells ty true 0 0) fun b h => k (.ptr b 0) h
noncomputable def exStore (n : Nat) (ga gx : GD) : ExecF := fun _ t h k => optK (gd ga t) fun a => onPtr a False fun b o => optK (gd gx t) fun v => cond (Nat.beq (lenL v.cells) n) (storeK Bad h b o v.cells fun h => k undefV h) False
/-- one cell is put in; what comes behind it is left as it is -/
noncomputable def setNthK (x : V) (l : List V) : Nat → (List V → Prop) → Prop :=
  List.rec (motive := fun _ => Nat → (List V → Prop) → Prop) (fun _ _ => False) (fun a l ih i k => Nat.rec (motive := fun _ => Prop) (k (x :: l)) (fun j _ => ih j fun l => k (a :: l)) i) l
noncomputable def store1K (h : H) (b o : Nat) (v : V) (k : H → Prop) : Prop :=
  match h.get b with
  | some (.cells cs e rw lo hi) => cond (mayWrite rw lo hi o 1) (cond (oneV v) (setNthK v cs o fun cs => h.setK b (.cells cs e rw lo hi) k) False) False
  | _ => False
noncomputable def one1 (l : List V) (f : V → Prop) : Prop := List.rec (motive := fun _ => Prop) False (fun a l _ => List.rec (motive := fun _ => Prop) (f a) (fun _ _ _ => False) l) l
noncomputable def exStore1 (ga gx : GD) : ExecF := fun _ t h k => optK (gd ga t) fun a => onPtr a False fun b o => optK (gd gx t) fun v => one1 v.cells fun u => store1K h b o u fun h => k undefV h
theorem setNthK_eq (x : V) : ∀ (l : List V) (i : Nat) (k : List V → Prop), setNthK x l i k = cond (Nat.ble (Nat.add i 1) (lenL l)) (k (putAt l i [x])) False
  | [], i, k => by cases i <;> rfl
  | a :: l, 0, k => by
    show k (x :: l) = _
    have e : putAt (a :: l) 0 [x] = x :: l := by
      show [x] ++ dropN (lenL [x]) (a :: l) = _
      rfl
    rw [e]
    have e2 : Nat.ble (Nat.add 0 1) (lenL (a :: l)) = true := by rw [ble_dec, lenL_eq]; simp
    rw [e2]; rfl
  | a :: l, j + 1, k => by
    show setNthK x l j (fun l => k (a :: l)) = _
    rw [setNthK_eq x l j]
    have e : Nat.ble (Nat.add (j + 1) 1) (lenL (a :: l)) = Nat.ble (Nat.add j 1) (lenL l) := by
      simp only [ble_dec, lenL_eq, List.length_cons, Nat.add_eq]
      congr 1; exact propext ⟨fun h => by omega, fun h => by omega⟩
    rw [e]; rfl
theorem store1K_eq (h : H) (b o : Nat) (v : V) (k : H → Prop) : store1K h b o v k = storeK Bad h b o [v] k := by
  unfold store1K storeK
  cases h.get b with
  | none => rfl
  | some ob =>
    cases ob with
    | dead => rfl
    | loop => rfl
    | cells cs e rw lo hi =>
      have hl : lenL [v] = 1 := rfl
      simp only [setNthK_eq, forceK_eq, hl, allOne]
      cases oneV v <;> cases mayWrite rw lo hi o 1 <;> cases Nat.ble (Nat.add o 1) (lenL cs) <;> rfl
theorem exStore1_eq (ga gx : GD) : exStore1 ga gx = exStore 1 ga gx := by
  funext call t h k
  unfold exStore1 exStore
  congr 1; funext a
  congr 1; funext b o
  congr 1; funext v
  cases hc : v.cells with
  | nil => rfl
  | cons u l =>
    cases l with
    | nil => exact store1K_eq h b o u _
    | cons u2 l =>
      have e : Nat.beq (lenL (u :: u2 :: l)) 1 = false := by rw [beq_dec, lenL_eq]; simp
      rw [e]; rfl
noncomputable def exCall (f : FuncId) (gs : GL) : ExecF := fun call t h k => optK (gl gs t) fun args => call (.fn f) args h k
noncomputable def slowA (P : Program) (op : Op) : ExecF := fun _ t h k => match allocV P t op with
  | some (o, v) => h.newK o fun b h => k (v b) h
  | none => Bad "alloc"
noncomputable def slowE (C : Cx) (op : Op) : ExecF := fun call t h k => effK Bad C call t h op k

noncomputable def alOf (P : Program) (op : Op) : BxE :=
  match op with
  | .alloc ty => match mkTI P ty with
    | some i => match i.zero with
      | some z => .mk (exNew (.cells z.cells ty true 0 0))
      | none => .mk (slowA P (.alloc ty))
    | none => .mk (slowA P (.alloc ty))
  | .box ty x => .mk (exBox ty (gOf x))
  | op => .mk (slowA P op)
noncomputable def efOf (C : Cx) (op : Op) : BxE :=
  match op with
  | .store ty a x => match mkTI C.P ty with
    | some i => cond (Nat.beq i.size 1) (.mk (exStore1 (gOf a) (gOf x))) (.mk (exStore i.size (gOf a) (gOf x)))
    | none => .mk (slowE C (.store ty a x))
  | .call { callee := .value (.func f), args, argTypes := _ } => .mk (exCall f (gsOf args.toList))
  | op => .mk (slowE C op)
noncomputable def exOf (C : Cx) (op : Op) : BxE :=
  match kindOf C.P op with
  | .pure => .mk (exPure (pvOf C.P op))
  | .read => .mk (exRead (rdOf C.P op))
  | .alloc => alOf C.P op
  | .eff => efOf C op

theorem alOf_alloc (P : Program) (ty : TypeId) (call : CallF) (t : Tr V) (h : H) (k : KV) : ex (alOf P (.alloc ty)) call t h k = slowA P (.alloc ty) call t h k := by
  unfold alOf
  simp only []
  split
  · rename_i i hi
    split
    · rename_i z hz
      show exNew _ call t h k = _
      simp only [exNew, slowA, allocV, hi, hz]
    · rfl
  · rfl
theorem alOf_box (P : Program) (ty : TypeId) (x : Operand) (call : CallF) (t : Tr V) (h : H) (k : KV) : ex (alOf P (.box ty x)) call t h k = slowA P (.box ty x) call t h k := by
  have e : alOf P (.box ty x) = .mk (exBox ty (gOf x)) := by simp only [alOf]
  rw [e]
  show exBox ty (gOf x) call t h k = _
  simp only [exBox, slowA, allocV, gOf_eq]
  cases eva t x with
  | none => simp only [optK, Bad]
  | some v => simp only [optK]
theorem alOf_eq (P : Program) (op : Op) (call : CallF) (t : Tr V) (h : H) (k : KV) : ex (alOf P op) call t h k = slowA P op call t h k := by
  cases op <;> first
    | exact alOf_alloc ..
    | exact alOf_box ..
    | (simp only [alOf]; rfl)
theorem efOf_eq (C : Cx) (op : Op) (call : CallF) (t : Tr V) (h : H) (k : KV) : ex (efOf C op) call t h k = effK Bad C call t h op k := by
  cases op <;> try (simp only [efOf]; rfl)
  case store ty a x =>
    simp only [efOf]
    split
    · rename_i i hi
      have e1 : ex (cond (Nat.beq i.size 1) (.mk (exStore1 (gOf a) (gOf x))) (.mk (exStore i.size (gOf a) (gOf x)))) = exStore i.size (gOf a) (gOf x) := by
        rw [beq_dec]
        by_cases hs : i.size = 1
        · rw [hs, exStore1_eq]; rfl
        · simp only [hs, decide_false, cond_false]; rfl
      rw [e1]
      show optK (gd (gOf a) t) _ = effK Bad C call t h _ k
      simp only [effK, gOf_eq, hi]
      cases eva t a with
      | none => rfl
      | some va =>
        cases va <;> try rfl
        cases eva t x <;> rfl
    · rfl
  case call c =>
    obtain ⟨callee, args, argTypes⟩ := c
    cases callee <;> try (simp only [efOf]; rfl)
    rename_i g
    cases g <;> try (simp only [efOf]; rfl)
    rename_i f
    simp only [efOf]
    show optK (gl (gsOf args.toList) t) _ = _
    simp only [effK, resolveV, gsOf_eq]
    cases evas t args.toList with
    | none => rfl
    | some as =>
      show call (.fn f) as h k = call (.fn f) ([] ++ as ++ []) h k
      rw [List.append_nil]; rfl
theorem exOf_eq (C : Cx) (op : Op) (call : CallF) (t : Tr V) (h : H) (k : KV) : ex (exOf C op) call t h k = opK Bad C call t h op k := by
  unfold exOf opK
  cases kindOf C.P op with
  | pure => show optK (pv (pvOf C.P op) t) _ = _; rw [pvOf_eq]; cases pureV C.P t op <;> rfl
  | read => show optK (rd (rdOf C.P op) t h) _ = _; rw [rdOf_eq]; cases readV C.P t h op <;> rfl
  | alloc => exact alOf_eq C.P op call t h k
  | eff => exact efOf_eq C op call t h k

/-! ### Regions -/
inductive BxC where
  | mk (f : RegF)
noncomputable def co (b : BxC) : RegF := fun call t h k => BxC.rec (motive := fun _ => Prop) (fun f => f call t h k) b
noncomputable def coPure (b : BxG) (s : BxS) : RegF := fun _ t h k => optK (pv b t) fun v => pu s v t fun t => k t h
noncomputable def coPut (e : BxE) (s : BxS) : RegF := fun call t h k => ex e call t h fun v h => pu s v t fun t => k t h
noncomputable def coSlow (all : List Oper) (o : Oper) (e : BxE) (s : BxS) : RegF := fun call t h k => match wantedV all t o with
  | some true => ex e call t h fun v h => pu s v t fun t => k t h
  | some false => pu s undefV t fun t => k t h
  | none => Bad "guard"
noncomputable def coOf (C : Cx) (nt : Nat) (all : List Oper) (o : Oper) : BxC :=
  match o.guard with
  | none => match kindOf C.P o.op with
    | .pure => .mk (coPure (pvOf C.P o.op) (puOf nt o.dst))
    | _ => .mk (coPut (exOf C o.op) (puOf nt o.dst))
  | some _ => .mk (coSlow all o (exOf C o.op) (puOf nt o.dst))
theorem coOf_eq (C : Cx) (nt : Nat) (all : List Oper) (o : Oper) (call : CallF) (t : Tr V) (h : H) (k : KT) : co (coOf C nt all o) call t h k = coSlow all o (exOf C o.op) (puOf nt o.dst) call t h k := by
  unfold coOf
  cases hg : o.guard with
  | some g => rfl
  | none =>
    have e1 : coSlow all o (exOf C o.op) (puOf nt o.dst) call t h k = coPut (exOf C o.op) (puOf nt o.dst) call t h k := by
      simp only [coSlow, wantedV, hg]; rfl
    rw [e1]
    simp only []
    split
    · rename_i hk
      have e2 : exOf C o.op = .mk (exPure (pvOf C.P o.op)) := by unfold exOf; rw [hk]
      rw [e2]
      show optK (pv (pvOf C.P o.op) t) _ = optK (pv (pvOf C.P o.op) t) _
      rfl
    · rfl

inductive RL where
  | nil | cons (b : BxC) (l : RL)
noncomputable def rl (l : RL) : RegF := fun call t h k => RL.rec (motive := fun _ => Tr V → H → Prop) (fun t h => k t h) (fun b _ ih t h => co b call t h ih) l t h
noncomputable def rlOf (C : Cx) (nt : Nat) (all : List Oper) : List Oper → RL
  | [] => .nil
  | o :: l => .cons (coOf C nt all o) (rlOf C nt all l)
theorem rlOf_eq (C : Cx) (nt : Nat) (all : List Oper) (call : CallF) : ∀ (l : List Oper) (t : Tr V) (h : H) (k : KT), rl (rlOf C nt all l) call t h k = opsK Bad C call nt all l t h k
  | [], _, _, _ => rfl
  | o :: l, t, h, k => by
    show co (coOf C nt all o) call t h (fun t h => rl (rlOf C nt all l) call t h k) = _
    rw [coOf_eq]
    simp only [coSlow, opsK]
    have e : ∀ t h, rl (rlOf C nt all l) call t h k = opsK Bad C call nt all l t h k := fun t h => rlOf_eq C nt all call l t h k
    cases wantedV all t o with
    | none => rfl
    | some b =>
      cases b
      · simp only [e, puOf_eq]
      · simp only [e, puOf_eq]; exact exOf_eq ..

/-- do two values look alike? (at once, where they are of one cell) -/
noncomputable def sameF (x y : V) : Bool :=
  onInt x (onPtr x (onBool x (sameV x y) fun a => onBool y false fun b => cond a b (!b)) fun b o => onPtr y false fun c p => cond (Nat.beq b c) (Nat.beq o p) false) fun j a => onInt y false fun k b => cond (kindEq j k) (eqI a b) false
theorem sameF_eq (x y : V) : sameF x y = sameV x y := by
  cases x <;> cases y <;> first | rfl | (simp only [sameF, onInt, onPtr, onBool, sameV])

/-! a region whose order is drawn -/
noncomputable def readOkF (P : Program) (news : List (Nat × O)) (gs : List H) (r : Rd) : Bool :=
  go (takeN (Nat.succ (Nat.sub r.hi r.lo)) (dropN r.lo gs))
where
  go : List H → Bool
    | [] => true
    | g :: l => cond (match rd (rdOf P r.op) r.t g with
      | some v => sameF v r.v
      | none => match rd (rdOf P r.op) r.t (H.plus ⟨g.n, .nil⟩ news) with
        | some v => sameF v r.v
        | none => false) (go l) false
noncomputable def readsOkF (P : Program) (news : List (Nat × O)) (gs : List H) : List Rd → Bool
  | [] => true
  | r :: l => cond (readOkF P news gs r) (readsOkF P news gs l) false
theorem readOkF_go (P : Program) (news : List (Nat × O)) (r : Rd) : ∀ l : List H, readOkF.go P news r l = readOk.go P news r l
  | [] => rfl
  | g :: l => by
    simp only [readOkF.go, readOk.go, rdOf_eq, sameF_eq, readOkF_go P news r l]
    cases readV P r.t g r.op with
    | some v => rfl
    | none => cases readV P r.t (H.plus ⟨g.n, .nil⟩ news) r.op <;> rfl
theorem readsOkF_eq (P : Program) (news : List (Nat × O)) (gs : List H) : ∀ l : List Rd, readsOkF P news gs l = readsOk P news gs l
  | [] => rfl
  | r :: l => by simp only [readsOkF, readsOk, readsOkF_eq P news gs l, readOkF, readOk, readOkF_go]

abbrev DrK := Tr V → H → List H → List (Nat × O) → List Rd → Prop
abbrev DsF := CallF → Tr V → H → List H → List (Nat × O) → List Rd → DrK → Prop
inductive BxD where
  | mk (f : DsF)
noncomputable def ds (b : BxD) : DsF := fun call t h gs ns rs k => BxD.rec (motive := fun _ => Prop) (fun f => f call t h gs ns rs k) b
noncomputable def dsSkip (s : BxS) (eff : Bool) : DsF := fun _ t h gs ns rs k => pu s undefV t fun t => k t h (cond eff (h :: gs) gs) ns rs
noncomputable def dsPure (s : BxS) (b : BxG) : DsF := fun _ t h gs ns rs k => optK (pv b t) fun v => pu s v t fun t => k t h gs ns rs
noncomputable def dsRead (s : BxS) (op : Op) (lo hi : Nat) (b : BxR) : DsF := fun _ t h gs ns rs k => optK (rd b t h) fun v => pu s v t fun t' => k t' h gs ns (⟨op, t, v, lo, hi⟩ :: rs)
noncomputable def dsAlloc (P : Program) (s : BxS) (op : Op) : DsF := fun _ t h gs ns rs k => match allocV P t op with
  | some (o, v) => h.newK o fun b h => pu s (v b) t fun t => k t h gs ((b, o) :: ns) rs
  | none => Bad "alloc"
noncomputable def dsEff (s : BxS) (e : BxE) : DsF := fun call t h gs ns rs k => ex e call t h fun v h => pu s v t fun t => k t h (h :: gs) ns rs
noncomputable def dsOf (C : Cx) (nt : Nat) (x : It) (lo hi : Nat) : BxD :=
  match x.kind with
  | .pure => .mk (dsPure (puOf nt x.o.dst) (pvOf C.P x.o.op))
  | .read => .mk (dsRead (puOf nt x.o.dst) x.o.op lo hi (rdOf C.P x.o.op))
  | .alloc => .mk (dsAlloc C.P (puOf nt x.o.dst) x.o.op)
  | .eff => .mk (dsEff (puOf nt x.o.dst) (efOf C x.o.op))
noncomputable def dwGuard (all : List Oper) (o : Oper) (skip run : BxD) : DsF := fun call t h gs ns rs k =>
  optK (wantedV all t o) fun b => Bool.rec (motive := fun _ => Prop) (ds skip call t h gs ns rs k) (ds run call t h gs ns rs k) b
noncomputable def dwOf (all : List Oper) (o : Oper) (skip run : BxD) : BxD :=
  match o.guard with
  | none => run
  | some _ => .mk (dwGuard all o skip run)
inductive DL where
  | nil | cons (b : BxD) (l : DL)
noncomputable def dl (P : Program) (l : DL) : CallF → Tr V → H → List H → List (Nat × O) → List Rd → KT → Prop := fun call t h gs ns rs k =>
  DL.rec (motive := fun _ => DrK) (fun t h gs ns rs => cond (readsOkF P ns.reverse gs.reverse rs) (k t h) False) (fun b _ ih t h gs ns rs => ds b call t h gs ns rs ih) l t h gs ns rs
noncomputable def dlOf (C : Cx) (nt : Nat) (all : List Oper) : List (It × Nat × Nat) → DL
  | [] => .nil
  | (x, lo, hi) :: l => .cons (dwOf all x.o (.mk (dsSkip (puOf nt x.o.dst) (isEff x.kind))) (dsOf C nt x lo hi)) (dlOf C nt all l)
theorem dwOf_eq (all : List Oper) (o : Oper) (skip run : BxD) (call : CallF) (t : Tr V) (h : H) (gs : List H) (ns : List (Nat × O)) (rs : List Rd) (k : DrK) : ds (dwOf all o skip run) call t h gs ns rs k = dwGuard all o skip run call t h gs ns rs k := by
  unfold dwOf
  cases hg : o.guard with
  | some g => rfl
  | none => simp only [dwGuard, wantedV, hg]; rfl
theorem dlOf_eq (C : Cx) (nt : Nat) (all : List Oper) (call : CallF) : ∀ (l : List (It × Nat × Nat)) (t : Tr V) (h : H) (gs : List H) (ns : List (Nat × O)) (rs : List Rd) (k : KT), dl C.P (dlOf C nt all l) call t h gs ns rs k = drawK Bad C call nt all l t h gs ns rs k
  | [], t, h, gs, ns, rs, k => by show cond (readsOkF _ _ _ _) _ _ = _; rw [readsOkF_eq]; rfl
  | (x, lo, hi) :: l, t, h, gs, ns, rs, k => by
    show ds (dwOf all x.o _ _) call t h gs ns rs (fun t h gs ns rs => dl C.P (dlOf C nt all l) call t h gs ns rs k) = _
    rw [dwOf_eq]
    have e : ∀ t h gs ns rs, dl C.P (dlOf C nt all l) call t h gs ns rs k = drawK Bad C call nt all l t h gs ns rs k := fun t h gs ns rs => dlOf_eq C nt all call l t h gs ns rs k
    simp only [dwGuard, drawK]
    cases wantedV all t x.o with
    | none => rfl
    | some b =>
      cases b
      · dsimp only [optK, ds]
        simp only [dsSkip, e, puOf_eq]
      · dsimp only [optK]
        unfold dsOf
        cases x.kind with
        | pure => simp only [ds, dsPure, e, pvOf_eq, puOf_eq]; cases pureV C.P t x.o.op <;> rfl
        | read => simp only [ds, dsRead, e, rdOf_eq, puOf_eq]; cases readV C.P t h x.o.op <;> rfl
        | alloc => simp only [ds, dsAlloc, e, puOf_eq]; cases allocV C.P t x.o.op <;> rfl
        | eff => simp only [ds, dsEff, e, efOf_eq, puOf_eq]

/-! ### Code -/
inductive CC where
  | skip | ret | exit (id : Nat) | goto (l : Nat)
  | seq (a b : CC)
  | cond (g : GD) (a b : CC)
  | block (id : Nat) (c : CC)
  | loop (c : CC)
  | scope (c : Code)
  | ops (l : RL)
  | draw (d : DL)
  | gen (c : Code)

noncomputable def comp (C : Cx) (nt : Nat) : Code → CC
  | .skip => .skip
  | .label _ => .skip
  | .ret => .ret
  | .exit id => .exit id
  | .goto l => .goto l
  | .seq a b => .seq (comp C nt a) (comp C nt b)
  | .cond c a b => .cond (gOf c) (comp C nt a) (comp C nt b)
  | .block id c => .block id (comp C nt c)
  | .loop c => .loop (comp C nt c)
  | .scope c => .scope c
  | .region _ ops false => .ops (rlOf C nt ops.toList ops.toList)
  | .region id ops true => match plan C.P ops.toList with
    | some p => .draw (dlOf C nt ops.toList p)
    | none => .gen (.region id ops true)
  | c => .gen c

structure FFns where
  code : Nat → CC → Tr V → H → KE → Prop
  scope : Nat → Code → Code → Tr V → H → KE → Prop
  loop : Nat → CC → Tr V → H → KE → Prop
  call : CallF

noncomputable def FFns.fns (C : Cx) (F : FFns) : Fns Prop := ⟨fun nt c t h k => F.code nt (comp C nt c) t h k, F.scope, fun nt c t h k => F.loop nt (comp C nt c) t h k, F.call⟩

noncomputable def kSeq (F : FFns) (nt : Nat) (b : CC) (k : KE) : KE := fun e t h => Ex.rec (motive := fun _ => Prop) (F.code nt b t h k) (fun id => k (.exit id) t h) (fun l => k (.goto l) t h) (k .ret t h) e
noncomputable def kBlock (id : Nat) (k : KE) : KE := fun e t h => Ex.rec (motive := fun _ => Prop) (k .normal t h) (fun i => cond (Nat.beq i id) (k .normal t h) (k (.exit i) t h)) (fun l => k (.goto l) t h) (k .ret t h) e
noncomputable def cCond (F : FFns) (nt : Nat) (g : GD) (a b : CC) (t : Tr V) (h : H) (k : KE) : Prop := optK (gd g t) fun v => onBool v False fun x => Bool.rec (motive := fun _ => Prop) (F.code nt b t h k) (F.code nt a t h k) x
noncomputable def stepCF (C : Cx) (F : FFns) (nt : Nat) (c : CC) (t : Tr V) (h : H) (k : KE) : Prop :=
  CC.rec (motive := fun _ => Prop) (k .normal t h) (k .ret t h) (fun id => k (.exit id) t h) (fun l => k (.goto l) t h)
    (fun a b _ _ => F.code nt a t h (kSeq F nt b k)) (fun g a b _ _ => cCond F nt g a b t h k) (fun id c _ => F.code nt c t h (kBlock id k)) (fun c _ => F.loop nt c t h k) (fun c => F.scope nt c c t h k)
    (fun l => rl l F.call t h (k .normal)) (fun d => dl C.P d F.call t h [h] [] [] (k .normal)) (fun c => stepC Bad C (F.fns C) nt c t h k) c
noncomputable def stepSF (C : Cx) (F : FFns) (nt : Nat) (c rest : Code) (t : Tr V) (h : H) (k : KE) : Prop := stepS (F.fns C) nt c rest t h k
noncomputable def kLoop (F : FFns) (nt : Nat) (c : CC) (k : KE) : KE := fun e t h => Ex.rec (motive := fun _ => Prop) (F.loop nt c t h k) (fun id => k (.exit id) t h) (fun l => k (.goto l) t h) (k .ret t h) e
noncomputable def stepLF (F : FFns) (nt : Nat) (c : CC) (t : Tr V) (h : H) (k : KE) : Prop := F.code nt c t h (kLoop F nt c k)
noncomputable def stepGF (C : Cx) (F : FFns) (g : Tgt) (args : List V) (h : H) (k : KV) : Prop := Tgt.rec (motive := fun _ => Prop) (fun f => stepF Bad C (F.fns C) f args h k) (fun b => stepR Bad (F.fns C) b args h k) g
noncomputable def fast (C : Cx) (n : Nat) : FFns :=
  Nat.rec (motive := fun _ => FFns) ⟨fun _ _ _ _ _ => False, fun _ _ _ _ _ _ => False, fun _ _ _ _ _ => False, fun _ _ _ _ => False⟩
    (fun _ F => ⟨stepCF C F, stepSF C F, stepLF F, stepGF C F⟩) n

theorem stepCF_eq (C : Cx) (F : FFns) (nt : Nat) (c : Code) (t : Tr V) (h : H) (k : KE) : stepCF C F nt (comp C nt c) t h k = stepC Bad C (F.fns C) nt c t h k := by
  cases c <;> try rfl
  case seq a b =>
    show F.code nt (comp C nt a) t h _ = F.code nt (comp C nt a) t h _
    congr 1; funext e t h; cases e <;> rfl
  case cond c a b =>
    show cCond F nt (gOf c) _ _ t h k = _
    simp only [cCond, stepC, gOf_eq]
    cases eva t c with
    | none => rfl
    | some v =>
      cases v <;> try rfl
      rename_i b
      cases b <;> rfl
  case block id c =>
    show F.code nt (comp C nt c) t h _ = F.code nt (comp C nt c) t h _
    congr 1; funext e t h; cases e <;> rfl
  case region id ops d =>
    cases d with
    | false => show rl (rlOf C nt _ _) _ t h _ = _; rw [rlOf_eq]; rfl
    | true =>
      simp only [comp, stepC]
      split
      · rename_i p hp
        show dl C.P (dlOf C nt _ _) _ t h _ _ _ _ = _
        rw [dlOf_eq, hp]; rfl
      · rename_i hp
        show stepC Bad C (F.fns C) nt (.region id ops true) t h k = _
        simp only [stepC]
theorem stepLF_eq (C : Cx) (F : FFns) (nt : Nat) (c : Code) (t : Tr V) (h : H) (k : KE) : stepLF F nt (comp C nt c) t h k = stepL (F.fns C) nt c t h k := by
  show F.code nt (comp C nt c) t h _ = F.code nt (comp C nt c) t h _
  congr 1; funext e t h; cases e <;> rfl

/-- THE FAST EVALUATOR ANSWERS WHAT THE EVALUATOR ANSWERS. -/
theorem fast_fns (C : Cx) : ∀ n, (fast C n).fns C = run Bad C n
  | 0 => rfl
  | n + 1 => by
    have ih := fast_fns C n
    have e1 : (fun nt c t h k => stepCF C (fast C n) nt (comp C nt c) t h k) = stepC Bad C (run Bad C n) := by
      funext nt c t h k; rw [stepCF_eq, ih]
    have e2 : stepSF C (fast C n) = stepS (run Bad C n) := by
      funext nt c r t h k; simp only [stepSF, ih]
    have e3 : (fun nt c t h k => stepLF (fast C n) nt (comp C nt c) t h k) = stepL (run Bad C n) := by
      funext nt c t h k; rw [stepLF_eq, ih]
    have e4 : stepGF C (fast C n) = (fun g => match g with
      | .fn f => stepF Bad C (run Bad C n) f
      | .rnd b => stepR Bad (run Bad C n) b) := by
      funext g args h k
      cases g
      · show stepF Bad C ((fast C n).fns C) _ _ _ _ = _; rw [ih]
      · show stepR Bad ((fast C n).fns C) _ _ _ _ = _; rw [ih]
    exact congr (congr (congr (congrArg Fns.mk e1) e2) e3) e4
theorem fast_call (C : Cx) (n : Nat) : (fast C n).call = (run Bad C n).call := by
  have := congrArg Fns.call (fast_fns C n)
  exact this
end Dv
