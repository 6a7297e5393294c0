/-
  An evaluator of the model's code that the kernel can run: its definitions.
-/
import GoSem.Core.Region
import GoSem.Core.View
import GoSem.Core.Layout
import GoSem.Op.Equal
namespace Dv
open Go

/-! ### A store of things by number: a binary tree -/
inductive Tr (α : Type) where
  | nil
  | nd (v : Option α) (l r : Tr α)
  deriving Inhabited

noncomputable def Tr.get {α : Type} (t : Tr α) : Nat → Option α :=
  Tr.rec (motive := fun _ => Nat → Option α) (fun _ => none)
    (fun v _ _ gl gr i => Nat.rec (motive := fun _ => Option α) v
      (fun j _ => Bool.rec (motive := fun _ => Option α) (gr (Nat.div j 2)) (gl (Nat.div j 2)) (Nat.beq (Nat.mod j 2) 0)) i) t

universe u
/-- Puts x at a place; the tree that is handed on is written out. -/
noncomputable def Tr.setK {α : Type} {R : Sort u} (x : α) (f : Nat) : Tr α → Nat → (Tr α → R) → R :=
  Nat.rec (motive := fun _ => Tr α → Nat → (Tr α → R) → R) (fun _ _ k => k .nil)
    (fun _ ih t i k => Nat.rec (motive := fun _ => R)
      (Tr.rec (motive := fun _ => R) (k (.nd (some x) .nil .nil)) (fun _ l r _ _ => k (.nd (some x) l r)) t)
      (fun j _ => Bool.rec (motive := fun _ => R)
         (Tr.rec (motive := fun _ => R) (ih .nil (Nat.div j 2) fun r => k (.nd none .nil r)) (fun v l r _ _ => ih r (Nat.div j 2) fun r => k (.nd v l r)) t)
         (Tr.rec (motive := fun _ => R) (ih .nil (Nat.div j 2) fun l => k (.nd none l .nil)) (fun v l r _ _ => ih l (Nat.div j 2) fun l => k (.nd v l r)) t)
         (Nat.beq (Nat.mod j 2) 0)) i) f

/-! ### Values -/
inductive V where
  | bool (b : Bool)
  | int (k : IntKind) (n : Int)
  | str (s : List Nat)
  | nilp
  | ptr (b o : Nat)
  | nils
  /-- at block b from cell o on: so many elements, so many places; fz = 0: exactly so many places; else: at least so many, of fz cells each (and if there are none, it is not known where) -/
  | slice (b o len cap : Nat) (fz : Nat)
  | nilm
  | map (b : Nat)
  | nilf
  | func (fn : Fn) (first captured : List V)
  | nili
  | iface (t : TypeId) (v : V)
  | agg (cs : List V)
  | tuple (vs : List V)
  deriving Inhabited

def V.cells : V → List V
  | .agg cs => cs
  | v => [v]

def undefV : V := .tuple []

/-- What lies at a block: cells (may they be written? which are not to be written any more?), or nothing any more. -/
inductive O where
  | cells (cs : List V) (elem : TypeId) (rw : Bool) (lo hi : Nat)
  | dead
  /-- the record of a range over a function: its state, the jump that is pending, the activation's slots, what a round does -/
  | loop (st : LoopState) (pend : Option Code) (nt : Nat) (t : Tr V) (ps : List Tmp) (asg body : Code)
  deriving Inhabited

structure H where
  n : Nat
  t : Tr O
  deriving Inhabited

noncomputable def H.get (h : H) (b : Nat) : Option O := Nat.rec (motive := fun _ => Option O) none (fun _ _ => h.t.get b) (Nat.sub h.n b)

def depth : Nat := 60

noncomputable def H.newK {R : Sort u} (h : H) (o : O) (k : Nat → H → R) : R := h.t.setK o depth h.n fun t => k h.n ⟨Nat.succ h.n, t⟩
noncomputable def H.setK {R : Sort u} (h : H) (b : Nat) (o : O) (k : H → R) : R := h.t.setK o depth b fun t => k ⟨h.n, t⟩

/-! ### Lists -/
def nth {α : Type} : List α → Nat → Option α
  | [], _ => none
  | a :: _, 0 => some a
  | _ :: l, i + 1 => nth l i

def setNth {α : Type} : List α → Nat → α → List α
  | [], _, _ => []
  | _ :: l, 0, x => x :: l
  | a :: l, i + 1, x => a :: setNth l i x

def takeN {α : Type} : Nat → List α → List α
  | 0, _ => []
  | _, [] => []
  | n + 1, a :: l => a :: takeN n l

def dropN {α : Type} : Nat → List α → List α
  | 0, l => l
  | _, [] => []
  | n + 1, _ :: l => dropN n l

def lenL {α : Type} : List α → Nat
  | [] => 0
  | _ :: l => Nat.succ (lenL l)

/-- n things from place i on, if they are there -/
def sub? {α : Type} (l : List α) (i n : Nat) : Option (List α) :=
  let r := takeN n (dropN i l)
  if Nat.beq (lenL r) n then some r else none

/-- puts new things in from place i on -/
def putAt {α : Type} : List α → Nat → List α → List α
  | l, 0, xs => xs ++ dropN (lenL xs) l
  | [], _ + 1, _ => []
  | a :: l, i + 1, xs => a :: putAt l i xs

def eqL : List Nat → List Nat → Bool
  | [], [] => true
  | a :: x, b :: y => cond (Nat.beq a b) (eqL x y) false
  | _, _ => false

def lessL : List Nat → List Nat → Bool
  | _, [] => false
  | [], _ :: _ => true
  | a :: x, b :: y => cond (Nat.blt a b) true (cond (Nat.beq a b) (lessL x y) false)

/-- hands a list on, cell by cell written out -/
def forceK {α : Type} {R : Sort u} : List α → (List α → R) → R
  | [], k => k []
  | a :: l, k => forceK l fun l => k (a :: l)

/-! ### Whole numbers -/
def ltI : Int → Int → Bool
  | .ofNat a, .ofNat b => Nat.blt a b
  | .negSucc _, .ofNat _ => true
  | .ofNat _, .negSucc _ => false
  | .negSucc a, .negSucc b => Nat.blt b a

def eqI : Int → Int → Bool
  | .ofNat a, .ofNat b => Nat.beq a b
  | .negSucc a, .negSucc b => Nat.beq a b
  | _, _ => false

def modulus : IntKind → Nat
  | .i8 | .u8 => 256
  | .i16 | .u16 => 65536
  | .i32 | .u32 => 4294967296
  | .i64 | .u64 => 18446744073709551616

def half : IntKind → Nat
  | .i8 | .u8 => 128
  | .i16 | .u16 => 32768
  | .i32 | .u32 => 2147483648
  | .i64 | .u64 => 9223372036854775808

/-- the number modulo the kind's modulus -/
def low (k : IntKind) : Int → Nat
  | .ofNat m => Nat.mod m (modulus k)
  | .negSucc m => Nat.sub (modulus k) (Nat.succ (Nat.mod m (modulus k)))

def wrapBig (k : IntKind) (m : Nat) : Int :=
  cond (cond k.signed (Nat.ble (half k) m) false) (Int.negSucc (Nat.sub (Nat.sub (modulus k) m) 1)) (Int.ofNat m)

def wrapS (k : IntKind) : Int → Int
  | .ofNat m => cond (Nat.blt m (half k)) (.ofNat m) (wrapBig k (Nat.mod m (modulus k)))
  | .negSucc m => wrapBig k (Nat.sub (modulus k) (Nat.succ (Nat.mod m (modulus k))))
/-- (of a kind without a sign: at once as a whole number that is not negative, whatever stands in it) -/
def wrapD (k : IntKind) (n : Int) : Int := cond k.signed (wrapS k n) (.ofNat (low k n))

/-- a number by a power of two, rounded down -/
def shrI (d : Nat) : Int → Int
  | .ofNat m => .ofNat (Nat.div m d)
  | .negSucc m => .negSucc (Nat.div m d)

def kindEq : IntKind → IntKind → Bool
  | .i8, .i8 | .i16, .i16 | .i32, .i32 | .i64, .i64 | .u8, .u8 | .u16, .u16 | .u32, .u32 | .u64, .u64 => true
  | _, _ => false

/-! ### Types -/
inductive Sh where
  | bool | int (k : IntKind) | str | ptr (e : TypeId) | slice (e : TypeId) | arr (n : Nat) (e : TypeId)
  | strct (fs : List (Nat × TypeId)) | map (k e : TypeId) | func | iface | other
  deriving Inhabited

def shOf : TypeDesc → Sh
  | .bool => .bool
  | .int k => .int k
  | .string => .str
  | .pointer e => .ptr e
  | .slice e => .slice e
  | .array n e => .arr n e
  | .struct fs => .strct (fs.toList.map fun f => (f.offset, f.type))
  | .map k e => .map k e
  | .func .. => .func
  | .interface _ => .iface
  | _ => .other

structure TI where
  size : Nat
  bytes : Nat
  agg : Bool
  zero : Option V
  sh : Sh
  deriving Inhabited

def bytesOf (s : ByteArray) : List Nat := s.data.toList.map UInt8.toNat

/-- a value without addresses -/
def ofValue : Nat → Value → Option V
  | 0, _ => none
  | n + 1, v =>
    match v with
    | .bool b => some (.bool b)
    | .int k i => some (.int k i)
    | .string s => some (.str (bytesOf s))
    | .pointer none => some .nilp
    | .slice none 0 0 => some .nils
    | .map none => some .nilm
    | .nilFunc => some .nilf
    | .nilIface => some .nili
    | .iface t x => (ofValue n x).map (V.iface t)
    | .agg cs => (go n cs.toList).map V.agg
    | .tuple cs => (go n cs.toList).map V.tuple
    | _ => none
where
  go (n : Nat) : List Value → Option (List V)
    | [] => some []
    | x :: l => match ofValue n x with
      | some v => match go n l with
        | some vs => some (v :: vs)
        | none => none
      | none => none

def isAggSh : Sh → Bool
  | .strct _ | .arr _ _ => true
  | _ => false

def mkTI (P : Program) (t : TypeId) : Option TI :=
  match P.info? t with
  | some i => match P.underlying t with
    | some d => some { size := i.size, bytes := i.bytes, agg := isAggSh (shOf d), zero := match i.zero with | some z => ofValue 4 z | none => none, sh := shOf d }
    | none => none
  | none => none

/-! ### Operands -/
noncomputable def eva (t : Tr V) : Operand → Option V
  | .tmp i => t.get i
  | .const v => ofValue 4 v
  | .global _ => none
  | .func f => some (.func (.func f) [] [])

noncomputable def evas (t : Tr V) : List Operand → Option (List V)
  | [] => some []
  | x :: l => match eva t x with
    | some v => match evas t l with
      | some vs => some (v :: vs)
      | none => none
    | none => none

/-! ### Operations that look at no memory -/
/-- a part of some cells, of a type -/
def partV (i : TI) (cs : List V) (off : Nat) : Option V :=
  if i.agg then (sub? cs off i.size).map V.agg else nth cs off

/-- puts parts into cells -/
def fillV (place : Nat → Option (Nat × Nat)) (cells : List V) : List (Nat × V) → Option (List V)
  | [] => some cells
  | (i, v) :: rest =>
    match place i with
    | none => none
    | some (off, size) =>
      cond (Nat.beq (lenL v.cells) size) (cond (Nat.ble (Nat.add off size) (lenL cells)) (fillV place (putAt cells off v.cells) rest) none) none

noncomputable def evaParts (t : Tr V) : List (Nat × Operand) → Option (List (Nat × V))
  | [] => some []
  | (i, x) :: l => match eva t x with
    | some v => match evaParts t l with
      | some vs => some ((i, v) :: vs)
      | none => none
    | none => none

def sizeT (P : Program) (t : TypeId) : Option Nat := (mkTI P t).map (·.size)

def placesL (P : Program) : List (Nat × TypeId) → Option (List (Nat × Nat))
  | [] => some []
  | (off, t) :: fs => match sizeT P t with
    | some s => match placesL P fs with
      | some l => some ((off, s) :: l)
      | none => none
    | none => none

def repeatL {α : Type} (l : List α) : Nat → List α
  | 0 => []
  | n + 1 => l ++ repeatL l n

/-- do the fields of two structs look alike, one by one? -/
def eqF (P : Program) (eq : TypeId → V → V → Option Bool) (xs ys : List V) : List (Nat × TypeId) → Option Bool
  | [] => some true
  | (off, t) :: fs => match mkTI P t with
    | some i => match partV i xs off, partV i ys off with
      | some x, some y => match eq t x y with
        | some true => eqF P eq xs ys fs
        | some false => some false
        | none => none
      | _, _ => none
    | none => none

/-- do two values without addresses look alike? -/
def eqV (P : Program) : Nat → TypeId → V → V → Option Bool
  | 0, _, _, _ => none
  | n + 1, t, x, y =>
    match mkTI P t with
    | none => none
    | some i =>
      match i.sh, x, y with
      | .bool, .bool a, .bool b => some (a == b)
      | .int _, .int k a, .int k' b => cond (kindEq k k') (some (eqI a b)) none
      | .str, .str a, .str b => some (eqL a b)
      | .ptr _, .nilp, .nilp => some true
      | .ptr _, .nilp, .ptr _ _ => some false
      | .ptr _, .ptr _ _, .nilp => some false
      | .iface, .nili, .nili => some true
      | .iface, .nili, .iface _ _ => some false
      | .iface, .iface _ _, .nili => some false
      | .iface, .iface tx vx, .iface ty vy =>
        cond (Nat.beq tx ty) (match P.info? tx with
          | some j => cond j.comparable (eqV P n tx vx vy) none
          | none => none) (some false)
      | .strct fs, .agg xs, .agg ys =>
        cond (P.stoodInHeld t) none (match P.underlying t with
          | some (.struct gs) => cond (gs.toList.all fun f => f.name != "_") (eqF P (eqV P n) xs ys fs) none
          | _ => none)
      | .slice _, .nils, .nils => some true
      | .slice _, .nils, .slice .. => some false
      | .slice _, .slice .., .nils => some false
      | .map _ _, .nilm, .nilm => some true
      | .map _ _, .nilm, .map _ => some false
      | .map _ _, .map _, .nilm => some false
      | .func, .nilf, .nilf => some true
      | .func, .nilf, .func .. => some false
      | .func, .func .., .nilf => some false
      | _, _, _ => none

def isConstO : Operand → Bool
  | .const _ => true
  | _ => false

def bitsV (op : BinOp) (k : IntKind) (a b : Int) : Option V :=
  match op with
  | .and => some (.int k (wrapBig k (Nat.land (low k a) (low k b))))
  | .or => some (.int k (wrapBig k (Nat.lor (low k a) (low k b))))
  | .xor => some (.int k (wrapBig k (Nat.xor (low k a) (low k b))))
  | .andNot => some (.int k (wrapBig k (Nat.land (low k a) (Nat.sub (Nat.sub (modulus k) 1) (low k b)))))
  | _ => none

def shiftV (op : BinOp) (k : IntKind) (a : Int) (y : Int) : Option V :=
  match y with
  | .negSucc _ => none
  | .ofNat y =>
    let n := cond (Nat.ble y k.bits) y k.bits
    match op with
    | .shl => some (.int k (wrapD k (Int.mul a (Int.ofNat (Nat.pow 2 n)))))
    | .shr => some (.int k (shrI (Nat.pow 2 n) a))
    | _ => none

def intV (op : BinOp) (k : IntKind) (a b : Int) : Option V :=
  match op with
  | .add => some (.int k (wrapD k (Int.add a b)))
  | .sub => some (.int k (wrapD k (Int.sub a b)))
  | .mul => some (.int k (wrapD k (Int.mul a b)))
  | .quo => cond (eqI b 0) none (some (.int k (wrapD k (Int.tdiv a b))))
  | .rem => cond (eqI b 0) none (some (.int k (Int.tmod a b)))
  | .and | .or | .xor | .andNot => bitsV op k a b
  | .eql => some (.bool (eqI a b))
  | .neq => some (.bool (!eqI a b))
  | .lss => some (.bool (ltI a b))
  | .leq => some (.bool (!ltI b a))
  | .gtr => some (.bool (ltI b a))
  | .geq => some (.bool (!ltI a b))
  | _ => none

def maxI : Nat := 9223372036854775807

def strV (op : BinOp) (a b : List Nat) : Option V :=
  match op with
  | .add => cond (Nat.ble (Nat.add (lenL a) (lenL b)) maxI) (some (.str (a ++ b))) none
  | .eql => some (.bool (eqL a b))
  | .neq => some (.bool (!eqL a b))
  | .lss => some (.bool (lessL a b))
  | .leq => some (.bool (lessL a b || eqL a b))
  | .gtr => some (.bool (!(lessL a b || eqL a b)))
  | .geq => some (.bool (!lessL a b))
  | _ => none

/-- may two values be compared without the model's guard? (two nils of an interface: only where one of them is a literal) -/
def guardOk (P : Program) (t : TypeId) (lit : Bool) : V → V → Bool
  | .nili, .nili => lit
  | .agg _, .agg _ => !P.eqGuardType P.depth t
  | _, _ => true

def binV (P : Program) (op : BinOp) (t : TypeId) (lit : Bool) (x y : V) : Option V :=
  match x, y with
  | .int k a, .int k' b =>
    match op with
    | .shl | .shr => shiftV op k a b
    | _ => cond (kindEq k k') (intV op k a b) none
  | .str a, .str b => strV op a b
  | x, y =>
    match op with
    | .eql => cond (guardOk P t lit x y) ((eqV P 40 t x y).map fun b => .bool b) none
    | .neq => cond (guardOk P t lit x y) ((eqV P 40 t x y).map fun b => .bool (!b)) none
    | _ => none

def unV (op : UnOp) (x : V) : Option V :=
  match op, x with
  | .neg, .int k n => some (.int k (wrapD k (Int.sub 0 n)))
  | .xor, .int k n => some (.int k (wrapBig k (Nat.xor (Nat.sub (modulus k) 1) (low k n))))
  | .not, .bool b => some (.bool (!b))
  | _, _ => none

/-- a bound of a slice expression: a whole number between 0 and y -/
def boundV (y : Nat) : Option V → Nat → Option Nat
  | none, d => some d
  | some (.int _ (.ofNat n)), _ => cond (Nat.ble n y) (some n) none
  | some _, _ => none

noncomputable def evaOpt (t : Tr V) : Option Operand → Option (Option V)
  | none => some none
  | some x => (eva t x).map some

/-- low, high, max of a slice expression over len things in cap places -/
def boundsV (len cap : Nat) (lo hi mx : Option V) : Option (Nat × Nat × Nat) :=
  match boundV cap mx cap with
  | none => none
  | some m =>
    match mx, hi with
    | some _, none => none
    | _, _ =>
      match boundV m hi len with
      | none => none
      | some h =>
        match boundV h lo 0 with
        | none => none
        | some l => some (l, h, m)

def sliceV (P : Program) (t : TypeId) (x : V) (lo hi mx : Option V) : Option V :=
  match mkTI P t with
  | none => none
  | some i =>
    match i.sh, x with
    | .str, .str s =>
      match mx with
      | some _ => none
      | none => match boundsV (lenL s) (lenL s) lo hi none with
        | some (l, h, _) => some (.str (takeN (Nat.sub h l) (dropN l s)))
        | none => none
    | .slice e, .slice b o len cap fz =>
      match boundsV len cap lo hi mx, sizeT P e with
      | some (l, h, m), some size => cond (Nat.beq fz 0 || (Nat.beq fz size && !(mx.isSome && Nat.beq cap 0)))
          (some (.slice b (cond (Nat.beq m l) o (Nat.add o (Nat.mul l size))) (Nat.sub h l) (Nat.sub m l) (cond mx.isSome 0 fz))) none
      | _, _ => none
    | .slice e, .nils =>
      match boundsV 0 0 lo hi mx, sizeT P e with
      | some _, some _ => some .nils
      | _, _ => none
    | .arr n e, .ptr b o =>
      match boundsV n n lo hi mx, sizeT P e with
      | some (l, h, m), some size => some (.slice b (cond (Nat.beq m l) o (Nat.add o (Nat.mul l size))) (Nat.sub h l) (Nat.sub m l) 0)
      | _, _ => none
    | _, _ => none

def fieldAddrV (P : Program) (t : TypeId) (x : V) (f : Nat) : Option V :=
  match mkTI P t, x with
  | some i, .ptr b o =>
    match i.sh with
    | .strct fs => match nth fs f with
      | some (off, ft) => match sizeT P ft with
        | some (_ + 1) => some (.ptr b (Nat.add o off))
        | _ => none
      | none => none
    | _ => none
  | _, _ => none

def fieldV (P : Program) (t : TypeId) (x : V) (f : Nat) : Option V :=
  match mkTI P t, x with
  | some i, .agg cs =>
    match i.sh with
    | .strct fs => match nth fs f with
      | some (off, ft) => match mkTI P ft with
        | some j => partV j cs off
        | none => none
      | none => none
    | _ => none
  | _, _ => none

def indexAddrV (P : Program) (t : TypeId) (x ix : V) : Option V :=
  match mkTI P t, ix with
  | some i, .int _ (.ofNat n) =>
    match i.sh, x with
    | .arr len e, .ptr b o => match sizeT P e with
      | some size => cond (Nat.blt n len) (some (.ptr b (Nat.add o (Nat.mul n size)))) none
      | none => none
    | .slice e, .slice b o len _ _ => match sizeT P e with
      | some size => cond (Nat.blt n len) (some (.ptr b (Nat.add o (Nat.mul n size)))) none
      | none => none
    | _, _ => none
  | _, _ => none

def indexV (P : Program) (t : TypeId) (x ix : V) : Option V :=
  match mkTI P t, ix with
  | some i, .int _ (.ofNat n) =>
    match i.sh, x with
    | .arr len e, .agg cs => match mkTI P e with
      | some j => cond (Nat.blt n len) (partV j cs (Nat.mul n j.size)) none
      | none => none
    | .str, .str s => (nth s n).map fun c => .int .u8 (.ofNat c)
    | _, _ => none
  | _, _ => none

def convertV (P : Program) (s d : TypeId) (x : V) : Option V :=
  match mkTI P s, mkTI P d with
  | some i, some j =>
    match i.sh, j.sh, x with
    | .int _, .int k, .int _ n => some (.int k (wrapD k n))
    | .str, .str, .str a => some (.str a)
    | _, _, _ => none
  | _, _ => none

/-- has a type all methods that an interface wants? -/
def implementsT (P : Program) (want : TypeId) (t : TypeId) : Option Bool :=
  match P.underlying want, P.info? t with
  | some (.interface ms), some i => some (ms.toList.all fun m => i.methods.any fun g => g.name == m.1 && g.sig == m.2)
  | _, _ => none

def typeAssertV (P : Program) (x : V) (want : TypeId) (ok : Bool) : Option V :=
  match mkTI P want with
  | none => none
  | some i =>
    let fails : Option V := cond ok (match i.zero with | some z => some (.tuple [z, .bool false]) | none => none) none
    let holds (v : V) : Option V := some (cond ok (.tuple [v, .bool true]) v)
    match i.sh, x with
    | .iface, .nili => fails
    | .iface, .iface t v => match implementsT P want t with
      | some true => holds (.iface t v)
      | some false => fails
      | none => none
    | _, .nili => fails
    | _, .iface t v => cond (Nat.beq t want) (holds v) fails
    | _, _ => none

def lenV (P : Program) (t : TypeId) (x : V) : Option V :=
  match mkTI P t with
  | none => none
  | some i =>
    match i.sh, x with
    | .str, .str s => some (.int .i64 (.ofNat (lenL s)))
    | .arr n _, _ => some (.int .i64 (.ofNat n))
    | .ptr e, _ => match mkTI P e with
      | some j => match j.sh with
        | .arr n _ => some (.int .i64 (.ofNat n))
        | _ => none
      | none => none
    | .slice _, .slice _ _ n _ _ => some (.int .i64 (.ofNat n))
    | .slice _, .nils => some (.int .i64 0)
    | .map _ _, .nilm => some (.int .i64 0)
    | _, _ => none

def minmaxV (mx : Bool) : List V → Option V
  | [] => none
  | .int k a :: rest => go k a rest
  | _ => none
where
  go (k : IntKind) (a : Int) : List V → Option V
    | [] => some (.int k a)
    | .int _ b :: rest => go k (cond mx (cond (ltI a b) b a) (cond (ltI b a) b a)) rest
    | _ => none

noncomputable def pureV (P : Program) (t : Tr V) : Op → Option V
  | .move x | .assign x => eva t x
  | .pick c a b => match eva t c with
    | some (.bool true) => eva t a
    | some (.bool false) => eva t b
    | _ => none
  | .build ty parts => match mkTI P ty, evaParts t parts.toList with
    | some i, some ps => match i.zero with
      | some z => match i.sh with
        | .strct fs => match placesL P fs with
          | some pl => (fillV (nth pl) z.cells ps).map V.agg
          | none => none
        | .arr _ e => match sizeT P e with
          | some size => (fillV (fun i => some (Nat.mul i size, size)) z.cells ps).map V.agg
          | none => none
        | _ => none
      | none => none
    | _, _ => none
  | .nilCheck x => match eva t x with
    | some .nilp | some .nili | some .nilf | none => none
    | some (.func (.method _) _ _) => none
    | some v => some v
  | .binOp op xt x y _ => match eva t x, eva t y with
    | some a, some b => binV P op xt (isConstO x || isConstO y) a b
    | _, _ => none
  | .unOp op _ x => match eva t x with
    | some a => unV op a
    | none => none
  | .convert s d x => match eva t x with
    | some a => convertV P s d a
    | none => none
  | .makeInterface ty x => match mkTI P ty, eva t x with
    | some i, some v => match i.sh with
      | .iface => none
      | _ => some (.iface ty v)
    | _, _ => none
  | .makeFunc fn first captured => match evas t first.toList, evas t captured.toList with
    | some a, some b => match fn with
      | .yield _ => none
      | _ => some (.func fn a b)
    | _, _ => none
  | .slice ty x lo hi mx => match eva t x, evaOpt t lo, evaOpt t hi, evaOpt t mx with
    | some v, some lo, some hi, some mx => sliceV P ty v lo hi mx
    | _, _, _, _ => none
  | .fieldAddr s x f => match eva t x with
    | some v => fieldAddrV P s v f
    | none => none
  | .field s x f => match eva t x with
    | some v => fieldV P s v f
    | none => none
  | .indexAddr ty x ix => match eva t x, eva t ix with
    | some v, some i => indexAddrV P ty v i
    | _, _ => none
  | .index ty x ix => match eva t x, eva t ix with
    | some v, some i => indexV P ty v i
    | _, _ => none
  | .typeAssert x _ want ok => match eva t x with
    | some v => typeAssertV P v want ok
    | none => none
  | .extract x i => match eva t x with
    | some (.tuple vs) => nth vs i
    | _ => none
  | .call { callee := .builtin b, args, argTypes } => match b, args.toList, argTypes.toList with
    | .len, [x], ty :: _ => match eva t x with
      | some v => lenV P ty v
      | none => none
    | .cap, [x], ty :: _ => match eva t x, mkTI P ty with
      | some (.slice _ _ _ c 0), some i => match i.sh with
        | .slice _ => some (.int .i64 (.ofNat c))
        | _ => none
      | some .nils, some i => match i.sh with
        | .slice _ => some (.int .i64 0)
        | _ => none
      | _, _ => none
    | .min, xs, _ => match evas t xs with
      | some vs => minmaxV false vs
      | none => none
    | .max, xs, _ => match evas t xs with
      | some vs => minmaxV true vs
      | none => none
    | _, _, _ => none
  | _ => none

/-! ### Operations that only read memory -/
noncomputable def H.cellsAt (h : H) (b : Nat) : Option (List V) :=
  match h.get b with
  | some (.cells cs _ _ _ _) => some cs
  | _ => none

noncomputable def loadV (P : Program) (h : H) (t : TypeId) (a : V) : Option V :=
  match a with
  | .ptr b o => match h.cellsAt b, mkTI P t with
    | some cs, some i => partV i cs o
    | _, _ => none
  | _ => none

/-- byte values as numbers -/
def bytesV : List V → Option (List Nat)
  | [] => some []
  | .int .u8 (.ofNat n) :: l => match bytesV l with | some r => some (Nat.mod n 256 :: r) | none => none
  | _ => none

noncomputable def readV (P : Program) (t : Tr V) (h : H) : Op → Option V
  | .load ty a => match eva t a with
    | some v => loadV P h ty v
    | none => none
  | .convert s d x => match mkTI P s, mkTI P d, eva t x with
    | some i, some j, some v => match i.sh, j.sh with
      | .slice e, .str => match mkTI P e with
        | some k => match k.sh, v with
          | .int .u8, .nils => some (.str [])
          | .int .u8, .slice b o len _ _ => match h.cellsAt b with
            | some cs => match sub? cs o len with
              | some l => (bytesV l).map V.str
              | none => none
            | none => none
          | _, _ => none
        | none => none
      | _, _ => none
    | _, _, _ => none
  | _ => none

/-! ### Operations that make a block -/
/-- what the new block holds, and the value, by the block's number -/
noncomputable def allocV (P : Program) (t : Tr V) : Op → Option (O × (Nat → V))
  | .alloc ty => match mkTI P ty with
    | some i => match i.zero with
      | some z => some (.cells z.cells ty true 0 0, fun b => .ptr b 0)
      | none => none
    | none => none
  | .box ty x => match eva t x with
    | some v => some (.cells v.cells ty true 0 0, fun b => .ptr b 0)
    | none => none
  | .buildSlice ty len parts => match mkTI P ty, evaParts t parts.toList with
    | some i, some ps => match i.sh with
      | .slice e => match mkTI P e with
        | some j => match j.zero with
          | some z => cond (Nat.ble (Nat.mul len j.size) 16777216) (cond (Nat.beq (lenL z.cells) j.size)
              (match fillV (fun i => some (Nat.mul i j.size, j.size)) (repeatL z.cells len) ps with
               | some cs => some (.cells cs e true 0 0, fun b => .slice b 0 len len 0)
               | none => none) none) none
          | none => none
        | none => none
      | _ => none
    | _, _ => none
  | .makeSlice ty l c => match mkTI P ty, eva t l, eva t c with
    | some i, some (.int _ (.ofNat l)), some (.int _ (.ofNat c)) => match i.sh with
      | .slice e => match mkTI P e with
        | some j => match j.zero with
          | some z => cond (Nat.ble l c) (cond (Nat.ble (Nat.mul c (Nat.succ j.bytes)) 140737488355328) (cond (Nat.beq (lenL z.cells) j.size)
              (some (.cells (repeatL z.cells c) e true 0 0, fun b => .slice b 0 l c 0)) none) none) none
          | none => none
        | none => none
      | _ => none
    | _, _, _ => none
  | .convert s d x => match mkTI P s, mkTI P d, eva t x with
    | some i, some j, some (.str a) => match i.sh, j.sh with
      | .str, .slice e => match mkTI P e with
        | some k => match k.sh with
          | .int .u8 => cond (Nat.beq k.size 1) (some (.cells (a.map fun c => .int .u8 (.ofNat c)) e true 1 1, fun b => .slice b 0 (lenL a) (lenL a) 1)) none
          | _ => none
        | none => none
      | _, _ => none
    | _, _, _ => none
  | _ => none

/-! ### Operations that write -/
/-- may n cells from o on be written? -/
def mayWrite (rw : Bool) (lo hi o n : Nat) : Bool := cond rw (Nat.ble hi lo || Nat.ble (Nat.add o n) lo || Nat.ble hi o) false

/-- a value of one cell -/
def oneV : V → Bool
  | .agg _ | .tuple _ => false
  | _ => true
def allB {α : Type} (p : α → Bool) : List α → Bool
  | [] => true
  | x :: l => cond (p x) (allB p l) false

def allOne : List V → Bool
  | [] => true
  | v :: l => cond (oneV v) (allOne l) false

noncomputable def storeK {R : Sort u} (bad : String → R) (h : H) (b o : Nat) (vs : List V) (k : H → R) : R :=
  match h.get b with
  | some (.cells cs e rw lo hi) =>
    cond (Nat.ble (Nat.add o (lenL vs)) (lenL cs)) (cond (mayWrite rw lo hi o (lenL vs))
      (cond (allOne vs) (forceK (putAt cs o vs) fun cs => h.setK b (.cells cs e rw lo hi) k) (bad "store: no cells")) (bad "store: not to be written")) (bad "store: out of the block")
  | _ => bad "store: no block"

/-- the cells of what is appended or copied: the first n elements -/
noncomputable def sourceV (h : H) (size n : Nat) : V → Option (List V)
  | .nils => if Nat.beq n 0 then some [] else none
  | .slice b o _ _ _ => if Nat.beq (Nat.mul n size) 0 then some [] else match h.cellsAt b with
    | some cs => sub? cs o (Nat.mul n size)
    | none => none
  | .str s => cond (Nat.beq size 1) ((sub? s 0 n).map fun l => l.map fun c => .int .u8 (.ofNat c)) none
  | _ => none

def lenOfV : V → Option Nat
  | .nils => some 0
  | .slice _ _ n _ _ => some n
  | .str s => some (lenL s)
  | _ => none

def lenOfS : V → Option Nat
  | .nils => some 0
  | .slice _ _ n _ _ => some n
  | _ => none

noncomputable def killK {R : Sort u} (h : H) (b : Nat) (k : H → R) : R := h.setK b .dead k

/-- is there room for so many elements, whatever the capacity that Go takes? -/
def roomOk (j : TI) (need : Nat) : Bool :=
  cond (Nat.beq j.size 0) false (cond (match j.zero with | some z => Nat.beq (lenL z.cells) j.size | none => false)
    (Nat.ble (Nat.mul (Nat.add (Nat.mul 2 need) 768) (Nat.succ j.bytes)) 140737488355328) false)

def notIntT (P : Program) (t : TypeId) : Option Unit :=
  match mkTI P t with
  | some j => match j.sh with
    | .int _ => none
    | _ => some ()
  | none => none

/-- the cells not to be written any more, seen from cell o on (0, 0: there are none, and no mark behind the block's end) -/
def shLo (lo hi o : Nat) : Nat := cond (Nat.ble hi lo) (cond (Nat.beq (Nat.add lo hi) 0) 0 1) (cond (Nat.ble hi o) 1 (Nat.sub lo o))
def shHi (lo hi o : Nat) : Nat := cond (Nat.ble hi lo) (cond (Nat.beq (Nat.add lo hi) 0) 0 1) (cond (Nat.ble hi o) 1 (Nat.sub hi o))

noncomputable def appendK {R : Sort u} (bad : String → R) (P : Program) (h : H) (ty xty : TypeId) (s x : V) (k : V → H → R) : R :=
  match mkTI P ty with
  | none => bad "append: type"
  | some i =>
    match i.sh with
    | .slice e =>
      match mkTI P e, notIntT P xty, lenOfV x with
      | some j, some _, some n =>
        match sourceV h j.size n x with
        | none => bad "append: source"
        | some new =>
          match s with
          | .nils =>
            cond (Nat.beq n 0) (k .nils h)
              (cond (roomOk j n)
                (forceK new fun new => h.newK (.cells new e true 0 0) fun b h => k (.slice b 0 n n j.size) h) (bad "append: room"))
          | .slice b o len cap fz =>
            let need := Nat.add len n
            cond (Nat.ble need cap)
              (cond (Nat.beq (lenL new) 0) (k (.slice b o need cap fz) h)
                (storeK bad h b (Nat.add o (Nat.mul len j.size)) new fun h => k (.slice b o need cap fz) h))
              (cond (roomOk j need)
                (match h.get b with
                 | some (.cells cs e' rw lo hi) =>
                   match sub? cs o (Nat.mul len j.size) with
                   | some old =>
                     cond (Nat.beq fz 0)
                       (forceK (old ++ new) fun cells => h.newK (.cells cells e true 0 0) fun b h => k (.slice b 0 need need j.size) h)
                       (cond (cond rw (cond (Nat.beq e' e) (cond (Nat.beq fz j.size) (cond (allOne new) (Nat.ble hi lo || cond (Nat.beq cap 0) false (Nat.ble hi (Nat.add o (Nat.mul len j.size)))) false) false) false) false)
                         (forceK (old ++ new) fun cells => killK h b fun h => h.newK (.cells cells e true (shLo lo hi o) (shHi lo hi o)) fun b h => k (.slice b 0 need need j.size) h)
                         (bad "append: a block that is not its own"))
                   | none => bad "append: old cells"
                 | _ => bad "append: no block")
                (bad "append: room"))
          | _ => bad "append: to what?"
      | _, _, _ => bad "append: types"
    | _ => bad "append: no slice type"

noncomputable def copyK {R : Sort u} (bad : String → R) (P : Program) (h : H) (ty : TypeId) (d x : V) (k : V → H → R) : R :=
  match mkTI P ty with
  | none => bad "copy: type"
  | some i =>
    match i.sh with
    | .slice e =>
      match mkTI P e, lenOfV x, lenOfS d with
      | some j, some a, some c =>
        let n := cond (Nat.ble a c) a c
        match sourceV h j.size n x with
        | none => bad "copy: source"
        | some cells =>
          cond (Nat.beq (lenL cells) 0) (k (.int .i64 (.ofNat n)) h)
            (match d with
             | .slice b o _ _ _ => storeK bad h b o cells fun h => k (.int .i64 (.ofNat n)) h
             | _ => bad "copy: to what?")
      | _, _, _ => bad "copy: types"
    | _ => bad "copy: no slice type"

/-! ### Summaries: what a function answers, in place of its text -/
structure Ans where
  v : V
  upd : List (Nat × O)
  new : List O
  /-- what it leans on, if that is not to be seen at once -/
  side : Option Prop := none
def gateP (p : Option Prop) (x : Prop) : Prop := match p with
  | none => x
  | some q => q ∧ x

abbrev Summ := List V → H → Option Ans

noncomputable def updsK {R : Sort u} : List (Nat × O) → H → (H → R) → R
  | [], h, k => k h
  | (b, o) :: l, h, k => h.setK b o fun h => updsK l h k
noncomputable def newsK {R : Sort u} : List O → H → (H → R) → R
  | [], h, k => k h
  | o :: l, h, k => h.newK o fun _ h => newsK l h k

structure Cx where
  P : Program
  S : Nat → Option Summ

/-! ### Calls -/
/-- what is called: a function, or a round of a loop -/
inductive Tgt where
  | fn (f : FuncId)
  | rnd (b : Nat)
  deriving Inhabited

/-- the function behind a method of a type, where the receiver is handed on as it is -/
def methodT (P : Program) (t : TypeId) (name : String) : Option FuncId :=
  match P.info? t with
  | some i => match i.methods.find? (·.name == name) with
    | some m => cond m.path.isEmpty (match m.func, P.underlying t with
      | some (f, true), some (.pointer _) => some f
      | some (f, false), some (.pointer _) => none
      | some (f, false), some _ => some f
      | _, _ => none) none
    | none => none
  | none => none

inductive Ex where
  | normal | exit (id : Nat) | goto (l : Nat) | ret
  deriving Inhabited

/-- what a call comes to: a function's number, and all its arguments -/
noncomputable def resolveV (P : Program) (t : Tr V) (c : Call) : Option (Tgt × List V) :=
  match evas t c.args.toList with
  | none => none
  | some args =>
    match c.callee with
    | .builtin _ => none
    | .invoke r name => match eva t r with
      | some (.iface ty v) => (methodT P ty name).map fun f => (.fn f, v :: args)
      | _ => none
    | .value f => match eva t f with
      | some (.func fn first captured) => match fn with
        | .func g => some (.fn g, first ++ args ++ captured)
        | .method name => match first ++ args with
          | .iface ty v :: rest => (methodT P ty name).map fun f => (.fn f, v :: rest)
          | _ => none
        | .methodOf ty name => match first ++ args, mkTI P ty with
          | r :: rest, some i => match i.sh, r with
            | .iface, .iface ty' v => (methodT P ty' name).map fun f => (.fn f, v :: rest)
            | .iface, _ => none
            | _, v => (methodT P ty name).map fun f => (.fn f, v :: rest)
          | _, _ => none
        | .via ty path g ptr => match first ++ args, path.toList, mkTI P ty with
          | v :: rest, [], some i => match i.sh, ptr with
            | .ptr _, true => some (.fn g, v :: rest)
            | .ptr _, false => none
            | _, false => some (.fn g, v :: rest)
            | _, true => none
          | _, _, _ => none
        | .yield b => match first, captured with
          | [], [] => some (.rnd b, args)
          | _, _ => none
      | _ => none

inductive Kind where
  | pure | read | alloc | eff
  deriving DecidableEq, Inhabited

def kindOf (P : Program) : Op → Kind
  | .load .. => .read
  | .alloc _ | .box .. | .buildSlice .. | .makeSlice .. => .alloc
  | .convert s d _ => match mkTI P s, mkTI P d with
    | some i, some j => match i.sh, j.sh with
      | .slice _, .str => .read
      | .str, .slice _ => .alloc
      | _, _ => .pure
    | _, _ => .pure
  | .store .. => .eff
  | .call { callee := .builtin b, .. } => match b with
    | .len | .cap | .min | .max => .pure
    | _ => .eff
  | .call _ => .eff
  | .move _ | .assign _ | .pick .. | .build .. | .nilCheck _ | .binOp .. | .unOp .. | .makeInterface .. | .makeFunc .. | .slice .. | .fieldAddr .. | .field .. | .indexAddr .. | .index .. | .typeAssert .. | .extract .. => .pure
  | _ => .eff

section
variable {R : Sort u} (bad : String → R) (C : Cx) (call : Tgt → List V → H → (V → H → R) → R)

noncomputable def effK (t : Tr V) (h : H) (op : Op) (k : V → H → R) : R :=
  match op with
  | .store ty a x => match eva t a, eva t x, mkTI C.P ty with
    | some (.ptr b o), some v, some i => cond (Nat.beq (lenL v.cells) i.size) (storeK bad h b o v.cells fun h => k undefV h) (bad "store: size")
    | _, _, _ => bad "store"
  | .call { callee := .builtin b, args, argTypes } => match b, args.toList, argTypes.toList with
    | .append, [s, x], ty :: xty :: _ => match eva t s, eva t x with
      | some s, some x => appendK bad C.P h ty xty s x k
      | _, _ => bad "append"
    | .copy, [d, x], ty :: _ => match eva t d, eva t x with
      | some d, some x => copyK bad C.P h ty d x k
      | _, _ => bad "copy"
    | _, _, _ => bad "builtin"
  | .call c => match resolveV C.P t c with
    | some (f, args) => call f args h k
    | none => bad "call: of what?"
  | _ => bad "an operation that is not taken"

noncomputable def opK (t : Tr V) (h : H) (op : Op) (k : V → H → R) : R :=
  match kindOf C.P op with
  | .pure => match pureV C.P t op with
    | some v => k v h
    | none => bad "pure"
  | .read => match readV C.P t h op with
    | some v => k v h
    | none => bad "read"
  | .alloc => match allocV C.P t op with
    | some (o, v) => h.newK o fun b h => k (v b) h
    | none => bad "alloc"
  | .eff => effK bad C call t h op k

noncomputable def putK (nt : Nat) (t : Tr V) (dst : Option Tmp) (v : V) (k : Tr V → R) : R :=
  match dst with
  | some d => cond (Nat.blt d nt) (t.setK v depth d k) (bad "a slot that is not there")
  | none => k t

/-- is an operation carried out? -/
noncomputable def wantedV (ops : List Oper) (t : Tr V) (o : Oper) : Option Bool :=
  match o.guard with
  | none => some true
  | some (j, want) => match nth ops j with
    | some oj => match oj.dst with
      | some d => match t.get d with
        | some (.bool b) => some (b == want)
        | some (.tuple []) => some false
        | _ => none
      | none => some false
    | none => some false

/-- the operations one behind the other, as the text has them -/
noncomputable def opsK (nt : Nat) (all : List Oper) : List Oper → Tr V → H → (Tr V → H → R) → R
  | [], t, h, k => k t h
  | o :: l, t, h, k => match wantedV all t o with
    | some true => opK bad C call t h o.op fun v h => putK bad nt t o.dst v fun t => opsK nt all l t h k
    | some false => putK bad nt t o.dst undefV fun t => opsK nt all l t h k
    | none => bad "guard"
end

/-! ### A region whose order is drawn -/
/-- a read that was made: the operation, the slots as they were, what it gave, and how many effects lie ahead of it at least, and at most -/
structure Rd where
  op : Op
  t : Tr V
  v : V
  lo : Nat
  hi : Nat

mutual
def sameV : V → V → Bool
  | .bool a, .bool b => cond a b (!b)
  | .int j a, .int k b => cond (kindEq j k) (eqI a b) false
  | .str a, .str b => eqL a b
  | .nilp, .nilp | .nils, .nils | .nilm, .nilm | .nilf, .nilf | .nili, .nili => true
  | .ptr b o, .ptr c p => cond (Nat.beq b c) (Nat.beq o p) false
  | .slice b o l c e, .slice b' o' l' c' e' => cond (Nat.beq b b') (cond (Nat.beq o o') (cond (Nat.beq l l') (cond (Nat.beq c c') (Nat.beq e e') false) false) false) false
  | .map a, .map b => Nat.beq a b
  | .func f x y, .func g x' y' => cond (decide (f = g)) (cond (samesV x x') (samesV y y') false) false
  | .iface t v, .iface u w => cond (Nat.beq t u) (sameV v w) false
  | .agg x, .agg y => samesV x y
  | .tuple x, .tuple y => samesV x y
  | _, _ => false
def samesV : List V → List V → Bool
  | [], [] => true
  | a :: x, b :: y => cond (sameV a b) (samesV x y) false
  | _, _ => false
end

/-- for each operation the set of those that come ahead of it, as bits -/
def masks : List Oper → List Nat → List Nat
  | [], acc => acc
  | o :: l, acc => masks l (acc ++ [o.after.toList.foldl (fun s e => cond (Region.binds .any e) (Nat.lor s (Nat.lor (Nat.pow 2 e.on) ((nth acc e.on).getD 0))) s) 0])

def looksL (all : List Oper) (o : Oper) : List Tmp :=
  (o.op.operands.toList.filterMap fun | .tmp t => some t | _ => none) ++
  (match o.guard with
   | some (g, _) => match nth all g with
     | some x => x.dst.toList
     | none => []
   | none => [])

/-- one operation of a region: itself, its number, what kind it is, what comes ahead of it -/
structure It where
  o : Oper
  i : Nat
  kind : Kind
  mask : Nat

def items (P : Program) : List Oper → Nat → List Nat → List It
  | o :: l, i, m :: ms => ⟨o, i, kindOf P o.op, m⟩ :: items P l (Nat.succ i) ms
  | _, _, _ => []

def isEff (k : Kind) : Bool := match k with | .eff => true | _ => false
def isAlloc (k : Kind) : Bool := match k with | .alloc => true | _ => false

/-- x stands ahead of y in the text: may they stand in one region? -/
def pairOk (all : List Oper) (x y : It) : Bool :=
  (y.mask.testBit x.i || !(isEff y.kind && (isEff x.kind || isAlloc x.kind))) &&
  (match x.o.dst with
   | some d => !(y.o.dst == some d) && (y.mask.testBit x.i || !(looksL all y.o).contains d)
   | none => true) &&
  (match y.o.dst with
   | some d => y.mask.testBit x.i || !(looksL all x.o).contains d
   | none => true)

def pairsOk (all : List Oper) : List It → Bool
  | [] => true
  | x :: l => l.all (pairOk all x) && pairsOk all l

def afterOk (x : It) : Bool := x.o.after.toList.all fun e => !Region.binds .any e || Nat.blt e.on x.i

/-- the plan of a region: for each operation how many effects come ahead of it at least, and at most; none: it is not taken -/
def plan (P : Program) (ops : List Oper) : Option (List (It × Nat × Nat)) :=
  let its := items P ops 0 (masks ops [])
  let effs := its.filter fun x => isEff x.kind
  cond (pairsOk ops its && its.all afterOk)
    (some (its.map fun x => (x, lenL (effs.filter fun e => x.mask.testBit e.i), lenL (effs.filter fun e => !e.mask.testBit x.i)))) none

/-- a memory with the region's own new blocks that are not yet in it -/
noncomputable def H.plus : H → List (Nat × O) → H
  | g, [] => g
  | g, (b, o) :: l => cond (Nat.blt b g.n) (H.plus g l) (H.plus ⟨Nat.succ b, g.t.setK o depth b fun t => t⟩ l)

/-- is a read the same at all stages between? (a block that the stage does not have is one of the region's own) -/
noncomputable def readOk (P : Program) (news : List (Nat × O)) (gs : List H) (r : Rd) : Bool :=
  go (takeN (Nat.succ (Nat.sub r.hi r.lo)) (dropN r.lo gs))
where
  go : List H → Bool
    | [] => true
    | g :: l => cond (match readV P r.t g r.op with
      | some v => sameV v r.v
      | none => match readV P r.t (H.plus ⟨g.n, .nil⟩ news) r.op with
        | some v => sameV v r.v
        | none => false) (go l) false

noncomputable def readsOk (P : Program) (news : List (Nat × O)) (gs : List H) : List Rd → Bool
  | [] => true
  | r :: l => cond (readOk P news gs r) (readsOk P news gs l) false

section
variable {R : Sort u} (bad : String → R) (C : Cx) (call : Tgt → List V → H → (V → H → R) → R)

noncomputable def drawK (nt : Nat) (all : List Oper) : List (It × Nat × Nat) → Tr V → H → List H → List (Nat × O) → List Rd → (Tr V → H → R) → R
  | [], t, h, gs, ns, rs, k => cond (readsOk C.P ns.reverse gs.reverse rs) (k t h) (bad "a read that hangs on the order")
  | (x, lo, hi) :: l, t, h, gs, ns, rs, k => match wantedV all t x.o with
    | some true => match x.kind with
      | .pure => match pureV C.P t x.o.op with
        | some v => putK bad nt t x.o.dst v fun t => drawK nt all l t h gs ns rs k
        | none => bad "pure"
      | .read => match readV C.P t h x.o.op with
        | some v => putK bad nt t x.o.dst v fun t' => drawK nt all l t' h gs ns (⟨x.o.op, t, v, lo, hi⟩ :: rs) k
        | none => bad "read"
      | .alloc => match allocV C.P t x.o.op with
        | some (o, v) => h.newK o fun b h => putK bad nt t x.o.dst (v b) fun t => drawK nt all l t h gs ((b, o) :: ns) rs k
        | none => bad "alloc"
      | .eff => effK bad C call t h x.o.op fun v h => putK bad nt t x.o.dst v fun t => drawK nt all l t h (h :: gs) ns rs k
    | some false => putK bad nt t x.o.dst undefV fun t => drawK nt all l t h (cond (isEff x.kind) (h :: gs) gs) ns rs k
    | none => bad "guard"
end

/-! ### Code, and calls -/
structure Fns (R : Sort u) where
  code : Nat → Code → Tr V → H → (Ex → Tr V → H → R) → R
  scope : Nat → Code → Code → Tr V → H → (Ex → Tr V → H → R) → R
  loop : Nat → Code → Tr V → H → (Ex → Tr V → H → R) → R
  call : Tgt → List V → H → (V → H → R) → R

section
variable {R : Sort u} (bad : String → R) (C : Cx) (ih : Fns R)

noncomputable def stepC (nt : Nat) (c : Code) (t : Tr V) (h : H) (k : Ex → Tr V → H → R) : R :=
  match c with
  | .skip => k .normal t h
  | .label _ => k .normal t h
  | .ret => k .ret t h
  | .exit id => k (.exit id) t h
  | .goto l => k (.goto l) t h
  | .seq a b => ih.code nt a t h fun e t h => match e with
    | .normal => ih.code nt b t h k
    | e => k e t h
  | .cond c a b => match eva t c with
    | some (.bool true) => ih.code nt a t h k
    | some (.bool false) => ih.code nt b t h k
    | _ => bad "cond"
  | .block id c => ih.code nt c t h fun e t h => match e with
    | .exit i => cond (Nat.beq i id) (k .normal t h) (k (.exit i) t h)
    | e => k e t h
  | .loop c => ih.loop nt c t h k
  | .scope c => ih.scope nt c c t h k
  | .region _ ops false => opsK bad C ih.call nt ops.toList ops.toList t h fun t h => k .normal t h
  | .region _ ops true => match plan C.P ops.toList with
    | some p => drawK bad C ih.call nt ops.toList p t h [h] [] [] fun t h => k .normal t h
    | none => bad "a region that is not taken"
  | .rangeFunc g ps asg body => match eva t g with
    | some (.func (.func f) first captured) => match (C.P.funcs[f]?).bind (·.body) with
      | some _ => h.newK (.loop .ready none nt t ps.toList asg body) fun b h => ih.call (.fn f) (first ++ [.func (.yield b) [] []] ++ captured) h fun _ h => match h.get b with
        | some (.loop st pend nt' t' ps' asg' body') => match st with
          | .busy => bad "range over a function: busy"
          | _ => h.setK b (.loop .exhausted pend nt' t' ps' asg' body') fun h => match pend with
            | none => k .normal t h
            | some .ret => k .ret t h
            | some (.exit id) => k (.exit id) t h
            | some (.goto l) => k (.goto l) t h
            | some _ => bad "range over a function: jump"
        | _ => bad "range over a function: no loop"
      | none => bad "range over a function: no body"
    | _ => bad "range over a function: of what?"
  | _ => bad "code that is not taken"

noncomputable def stepS (nt : Nat) (c : Code) (rest : Code) (t : Tr V) (h : H) (k : Ex → Tr V → H → R) : R :=
  ih.code nt rest t h fun e t h => match e with
    | .goto l => match findL c l with
      | some r => ih.scope nt c r t h k
      | none => k (.goto l) t h
    | e => k e t h
where
  findL : Code → Nat → Option Code
    | .seq a b, l =>
      match findL a l with
      | some rest => some (.seq rest b)
      | none => findL b l
    | .label l', l => if l' == l then some .skip else none
    | _, _ => none

noncomputable def stepL (nt : Nat) (c : Code) (t : Tr V) (h : H) (k : Ex → Tr V → H → R) : R :=
  ih.code nt c t h fun e t h => match e with
    | .normal => ih.loop nt c t h k
    | e => k e t h

noncomputable def argsK : Nat → List V → Tr V → (Tr V → R) → R
  | _, [], t, k => k t
  | i, v :: l, t, k => t.setK v depth i fun t => argsK (Nat.succ i) l t k

noncomputable def putsK : List Tmp → List V → Tr V → (Tr V → R) → R
  | [], [], t, k => k t
  | p :: ps, v :: l, t, k => t.setK v depth p fun t => putsK ps l t k
  | _, _, _, _ => bad "yield: so many?"

/-- a round of a range over a function -/
noncomputable def stepR (b : Nat) (args : List V) (h : H) (k : V → H → R) : R :=
  match h.get b with
  | some (.loop _ _ nt t ps asg body) => cond (allB (fun p => Nat.blt p nt) ps) (putsK bad ps args t fun t => ih.code nt asg t h fun e t h => match e with
    | .normal => match h.get b with
      | some (.loop .ready pend nt' t' ps' asg' body') => h.setK b (.loop .busy pend nt' t' ps' asg' body') fun h => ih.code nt body t h fun e _ h => match h.get b with
        | some (.loop _ _ nt' t' ps' asg' body') => match e with
          | .normal => h.setK b (.loop .ready none nt' t' ps' asg' body') fun h => k (.bool true) h
          | .ret => h.setK b (.loop .done (some .ret) nt' t' ps' asg' body') fun h => k (.bool false) h
          | .exit id => h.setK b (.loop .done (some (.exit id)) nt' t' ps' asg' body') fun h => k (.bool false) h
          | .goto l => h.setK b (.loop .done (some (.goto l)) nt' t' ps' asg' body') fun h => k (.bool false) h
        | _ => bad "yield: no loop"
      | _ => bad "yield: not ready"
    | _ => bad "yield: assignment")
    (bad "yield: a slot that is not there")
  | _ => bad "yield: of what?"

noncomputable def resV (P : Program) (t : Tr V) (h : H) : List ResultVar → Option (List V)
  | [] => some []
  | r :: l => match (match r with
      | .tmp i => t.get i
      | .cell a ty => match t.get a with
        | some p => loadV P h ty p
        | none => none) with
    | some v => match resV P t h l with
      | some vs => some (v :: vs)
      | none => none
    | none => none

end

/-- what a summary answers, if there is one and it answers -/
def summ (C : Cx) (f : FuncId) (args : List V) (h : H) : Option Ans :=
  match C.S f with
  | some s => s args h
  | none => none
noncomputable def stepF (bad : String → Prop) (C : Cx) (ih : Fns Prop) (f : FuncId) (args : List V) (h : H) (k : V → H → Prop) : Prop :=
  match summ C f args h with
  | some a => gateP a.side (updsK a.upd h fun h => newsK a.new h fun h => k a.v h)
  | none => match C.P.funcs[f]? with
    | some fn => match fn.body with
      | some c => argsK 0 args .nil fun t => ih.code fn.ntmps c t h fun e t h =>
        let done : Prop := match resV C.P t h fn.results.toList with
          | some [v] => k v h
          | some vs => k (.tuple vs) h
          | none => bad "results"
        match e with
        | .normal => done
        | .ret => done
        | _ => bad "a body that is left otherwise"
      | none => bad "no body"
    | none => bad "no function"

noncomputable def run (bad : String → Prop) (C : Cx) (n : Nat) : Fns Prop :=
  Nat.rec (motive := fun _ => Fns Prop) ⟨fun _ _ _ _ _ => bad "fuel", fun _ _ _ _ _ _ => bad "fuel", fun _ _ _ _ _ => bad "fuel", fun _ _ _ _ => bad "fuel"⟩
    (fun _ ih => ⟨stepC bad C ih, stepS ih, stepL ih, fun g => match g with
      | .fn f => stepF bad C ih f
      | .rnd b => stepR bad ih b⟩) n

end Dv
