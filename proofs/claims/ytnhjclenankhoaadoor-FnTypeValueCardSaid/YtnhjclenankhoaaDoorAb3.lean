/- The evaluator of the frame 'Ab': what a function's code does to abstract values, as a proposition that is reckoned by unfolding. -/
import Derived.Test.YtnhjclenankhoaaDoorAb2
set_option linter.all false
namespace Ab
open Go

/-! ### Small words, made so that unfolding reckons them -/
def nth {α : Type} : List α → Nat → α → α
  | [], _, d => d
  | x :: xs, n, d => match n with | 0 => x | n + 1 => nth xs n d

def tk {α : Type} : Nat → List α → List α
  | 0, _ => []
  | _ + 1, [] => []
  | n + 1, x :: xs => x :: tk n xs

def dp {α : Type} : Nat → List α → List α
  | 0, xs => xs
  | _ + 1, [] => []
  | n + 1, _ :: xs => dp n xs

def ln {α : Type} : List α → Nat
  | [] => 0
  | _ :: xs => ln xs + 1

def ap {α : Type} : List α → List α → List α
  | [], ys => ys
  | x :: xs, ys => x :: ap xs ys

def mp1 {α β : Type} (f : α → β) : List α → List β
  | [] => []
  | x :: xs => f x :: mp1 f xs

def st {α : Type} : List α → Nat → α → List α
  | [], _, _ => []
  | x :: xs, n, v => match n with | 0 => v :: xs | n + 1 => x :: st xs n v

/-- cells ws over cells cs from a place on; none if they do not fit -/
def splice {α : Type} : List α → Nat → List α → Option (List α)
  | cs, 0, [] => some cs
  | [], _ + 1, _ => none
  | [], 0, _ :: _ => none
  | c :: cs, n + 1, ws => match splice cs n ws with | some r => some (c :: r) | none => none
  | _ :: cs, 0, w :: ws => match splice cs 0 ws with | some r => some (w :: r) | none => none

def hasN : List Nat → Nat → Bool
  | [], _ => false
  | x :: xs, n => match Nat.beq x n with | true => true | false => hasN xs n

def kq : IntKind → IntKind → Bool
  | .i8, .i8 | .i16, .i16 | .i32, .i32 | .i64, .i64 | .u8, .u8 | .u16, .u16 | .u32, .u32 | .u64, .u64 => true
  | _, _ => false

/-! ### The table of types -/
inductive TKind where
  | struct | slice | string | bool | int (k : IntKind) | iface | ptr | func | map | other

structure TI where
  kind : TKind := .other
  size : Nat := 1
  fs : List (Nat × Nat) := []
  elem : Nat := 0
  key : Nat := 0
  zero : List DV := []
  bytes : Nat := 8

abbrev Tab := List (Nat × TI)

def tg : Tab → Nat → TI
  | [], _ => { kind := .other, size := 0 }
  | (a, i) :: r, n => match Nat.beq a n with | true => i | false => tg r n

/-- z is the number of cells of an element of the slice type t -/
def eqz (τ : Tab) (t z : Nat) : Bool := match (tg τ (tg τ t).elem).size with | 0 => false | n + 1 => Nat.beq z (n + 1)

def TI.agg (i : TI) : Bool := match i.kind with | .struct => true | _ => false

/-! ### What stops the reckoning -/
structure Br (b : Bool) (p q : Prop) : Prop where
  t : b = true → p
  f : b = false → q
structure Rng (k : IntKind) (n : Int) (p : Prop) : Prop where
  lo : k.min ≤ n
  hi : n ≤ k.max
  k : p
structure Req (c : Prop) (p : Prop) : Prop where
  h : c
  k : p

/-- an operand's constant -/
def cv : Value → AV
  | .int k n => .d (.i k n)
  | .bool b => match b with | true => .tt | false => .ff
  | .string s => .d (.s s.data.toList)
  | .float k b => .d (.v (.float k b))
  | .complex k a b => .d (.v (.complex k a b))
  | .pointer a => .d (.v (.pointer a))
  | .slice a l c => .d (.v (.slice a l c))
  | .map r => .d (.v (.map r))
  | .chan r => .d (.v (.chan r))
  | .func f a b => .d (.v (.func f a b))
  | .nilFunc => .d (.v .nilFunc)
  | .iface t x => .d (.v (.iface t x))
  | .nilIface => .d (.v .nilIface)
  | .agg _ => .junk
  | .tuple _ => .junk

def evo (s : List AV) : Operand → AV
  | .tmp t => nth s t .junk
  | .const v => cv v
  | .global g => .d (.v (.pointer (some ⟨g, 0, none⟩)))
  | .func f => .fn f []

def cellsA : AV → List AV
  | .agg cs => cs
  | x => [x]

def boolOf : AV → Option Bool
  | .tt => some true
  | .ff => some false
  | .d (.b x) => some x
  | _ => none

/-! ### Forcing: the value in its outermost shape -/
def fD (x : DV) (k : DV → Prop) : Prop :=
  match x with
  | .i a n => k (.i a n)
  | .b c => k (.b c)
  | .s l => k (.s l)
  | .sl z xs => k (.sl z xs)
  | .sf z xs => k (.sf z xs)
  | .ifa t cs => k (.ifa t cs)
  | .if1 t y => k (.if1 t y)
  | .v u => k (.v u)

def fDs : List DV → (List DV → Prop) → Prop
  | [], k => k []
  | x :: xs, k => fD x fun x' => fDs xs fun xs' => k (x' :: xs')

mutual
def fA : AV → (AV → Prop) → Prop
  | .d x, k => fD x fun x' => k (.d x')
  | .tt, k => k .tt
  | .ff, k => k .ff
  | .row c v, k => k (.row c v)
  | .ptr n off, k => k (.ptr n off)
  | .da cs, k => fDs cs fun cs' => k (.da cs')
  | .ra c v z i off, k => k (.ra c v z i off)
  | .agg cs, k => fL cs fun cs' => k (.agg cs')
  | .tup cs, k => fL cs fun cs' => k (.tup cs')
  | .fn f cs, k => fL cs fun cs' => k (.fn f cs')
  | .ifc t x, k => fA x fun x' => k (.ifc t x')
  | .mp n, k => k (.mp n)
  | .und, k => k .und
  | .junk, k => k .junk
def fL : List AV → (List AV → Prop) → Prop
  | [], k => k []
  | x :: xs, k => fA x fun x' => fL xs fun xs' => k (x' :: xs')
end

def fO : Obj → (Obj → Prop) → Prop
  | .cells cs, k => fL cs fun cs' => k (.cells cs')
  | .row v s z xs, k => k (.row v s z xs)
  | .map t es, k => k (.map t es)
  | .dead, k => k .dead

def fOs : List Obj → (List Obj → Prop) → Prop
  | [], k => k []
  | x :: xs, k => fO x fun x' => fOs xs fun xs' => k (x' :: xs')

/-! ### Renaming of objects -/
/-- old number, new number, the version that counts, the version that it gets -/
abbrev Ren := List (Nat × Nat × Nat × Nat)

def rlook : Ren → Nat → Option (Nat × Nat × Nat)
  | [], _ => none
  | (k, r) :: rs, n => match Nat.beq k n with | true => some r | false => rlook rs n

mutual
def ren (R : Ren) : AV → AV
  | .d x => .d x
  | .tt => .tt
  | .ff => .ff
  | .row c v => match rlook R c with
    | some (c', vc, vn) => match Nat.beq v vc with | true => .row c' vn | false => .junk
    | none => .junk
  | .ptr k off => match rlook R k with
    | some (k', _, _) => .ptr k' off
    | none => .junk
  | .da cs => .da cs
  | .ra c v z i off => match rlook R c with
    | some (c', vc, vn) => match Nat.beq v vc with | true => .ra c' vn z i off | false => .junk
    | none => .junk
  | .agg cs => .agg (renL R cs)
  | .tup cs => .tup (renL R cs)
  | .fn f cs => .fn f (renL R cs)
  | .ifc t x => .ifc t (ren R x)
  | .mp k => match rlook R k with
    | some (k', _, _) => .mp k'
    | none => .junk
  | .und => .und
  | .junk => .junk
def renL (R : Ren) : List AV → List AV
  | [] => []
  | x :: xs => ren R x :: renL R xs
end

/-! ### Rows as data -/
/-- a row's whole contents, if the value is the row as it is -/
def rowOf (O : List Obj) (c v : Nat) : Option (Bool × Nat × List (List DV)) :=
  match nth O c .dead with
  | .row v' s z xs => match Nat.beq v v' with | true => some (s, z, xs) | false => none
  | _ => none

/- what is no more written: rows in it stand as data -/
mutual
def frz (O : List Obj) (keep : Nat → Bool) : AV → AV
  | .row c v => match keep c with
    | true => .row c v
    | false => match rowOf O c v with
      | some (_, z, xs) => .d (.sl z xs)
      | none => .junk
  | .agg cs => .agg (frzL O keep cs)
  | .tup cs => .tup (frzL O keep cs)
  | .ifc t x => .ifc t (frz O keep x)
  | .fn f cs => .fn f (frzL O keep cs)
  | .d x => .d x
  | .tt => .tt
  | .ff => .ff
  | .ptr k off => .ptr k off
  | .da cs => .da cs
  | .ra c v z i off => .ra c v z i off
  | .mp k => .mp k
  | .und => .und
  | .junk => .junk
def frzL (O : List Obj) (keep : Nat → Bool) : List AV → List AV
  | [] => []
  | x :: xs => frz O keep x :: frzL O keep xs
end

mutual
def rowsIn : AV → List Nat
  | .row c _ => [c]
  | .agg cs => rowsInL cs
  | .tup cs => rowsInL cs
  | .ifc _ x => rowsIn x
  | .fn _ cs => rowsInL cs
  | _ => []
def rowsInL : List AV → List Nat
  | [] => []
  | x :: xs => ap (rowsIn x) (rowsInL xs)
end

/-- these rows are not written into any more (they may still grow) -/
def still1 : List Obj → List Nat → Nat → List Obj
  | [], _, _ => []
  | o :: os, cs, n => (match o with
    | .row v s z xs => .row v (match hasN cs n with | true => false | false => s) z xs
    | o => o) :: still1 os cs (n + 1)

def still (O : List Obj) (cs : List Nat) : List Obj := still1 O cs 0

/- a value as data cells -/
mutual
def toD : AV → Option DV
  | .d x => some x
  | .tt => some (.b true)
  | .ff => some (.b false)
  | .ifc t x => match x with
    | .agg cs => match toDs cs with | some ds => some (.ifa t ds) | none => none
    | x => match toD x with | some d => some (.if1 t d) | none => none
  | _ => none
def toDs : List AV → Option (List DV)
  | [] => some []
  | x :: xs => match toD x with
    | some d => match toDs xs with | some ds => some (d :: ds) | none => none
    | none => none
end

/-- values as one element's cells each; the rows in them are still from then on -/
def dats (O : List Obj) (xs : List AV) : Option (List DV) := toDs (frzL O (fun _ => false) xs)

/-! ### Reading operations -/
def loadK (τ : Tab) (t : Nat) (cs : List AV) (k : AV → Prop) : Prop :=
  let i := tg τ t
  match i.size, Nat.ble i.size (ln cs) with
  | _ + 1, true => match i.agg with
    | true => k (.agg (tk i.size cs))
    | false => match tk i.size cs with
      | [c] => k c
      | _ => False
  | _, _ => False

def bitsOp (op : BinOp) (k : IntKind) (x y : Int) : Int :=
  let a := BitVec.ofInt k.bits x
  let b := BitVec.ofInt k.bits y
  match op with
  | .and => k.wrap (a &&& b).toNat
  | .or => k.wrap (a ||| b).toNat
  | .xor => k.wrap (a ^^^ b).toNat
  | _ => k.wrap (a &&& ~~~b).toNat

def intK (op : BinOp) (k : IntKind) (a b : Int) (K : AV → Prop) : Prop :=
  match op with
  | .add => Rng k (a + b) (K (.d (.i k (a + b))))
  | .sub => Rng k (a - b) (K (.d (.i k (a - b))))
  | .mul => Rng k (a * b) (K (.d (.i k (a * b))))
  | .quo => Req (b ≠ 0) (Rng k (a.tdiv b) (K (.d (.i k (a.tdiv b)))))
  | .rem => Req (b ≠ 0) (K (.d (.i k (a.tmod b))))
  | .and => K (.d (.i k (bitsOp .and k a b)))
  | .or => K (.d (.i k (bitsOp .or k a b)))
  | .xor => K (.d (.i k (bitsOp .xor k a b)))
  | .andNot => K (.d (.i k (bitsOp .andNot k a b)))
  | .eql => K (.d (.b (a == b)))
  | .neq => K (.d (.b (a != b)))
  | .lss => K (.d (.b (decide (a < b))))
  | .leq => K (.d (.b (decide (a ≤ b))))
  | .gtr => K (.d (.b (decide (a > b))))
  | .geq => K (.d (.b (decide (a ≥ b))))
  | _ => False

def strK (op : BinOp) (a b : List UInt8) (K : AV → Prop) : Prop :=
  match op with
  | .add => Req (a.length + b.length ≤ 9223372036854775807) (K (.d (.s (a ++ b))))
  | .eql => K (.d (.b (a == b)))
  | .neq => K (.d (.b (!(a == b))))
  | _ => False

/-- nil-ness of what may be compared with nil -/
def isNilI : AV → Option Bool
  | .d (.v .nilIface) => some true
  | .d (.v (.iface _ _)) => some false
  | .d (.ifa _ _) => some false
  | .d (.if1 _ _) => some false
  | .ifc _ _ => some false
  | _ => none
def isNilF : AV → Option Bool
  | .d (.v .nilFunc) => some true
  | .fn _ _ => some false
  | _ => none

def bAV : Bool → AV
  | true => .tt
  | false => .ff

def nilK (τ : Tab) (op : BinOp) (t : Nat) (x y : AV) (K : AV → Prop) : Prop :=
  match (tg τ t).kind, y with
  | .iface, .d (.v .nilIface) => match isNilI x with
    | some b => match op with
      | .eql => K (bAV b)
      | .neq => K (bAV (Bool.not b))
      | _ => False
    | none => False
  | .func, .d (.v .nilFunc) => match isNilF x with
    | some b => match op with
      | .eql => K (bAV b)
      | .neq => K (bAV (Bool.not b))
      | _ => False
    | none => False
  | _, _ => False

def boolK (τ : Tab) (op : BinOp) (t : Nat) (x y : AV) (K : AV → Prop) : Prop :=
  match (tg τ t).kind, boolOf x, boolOf y with
  | .bool, some a, some b => match op with
    | .eql => K (.d (.b (a == b)))
    | .neq => K (.d (.b (!(a == b))))
    | _ => False
  | _, _, _ => False

def constNil : Operand → Bool
  | .const .nilIface => true
  | .const .nilFunc => true
  | _ => false

def binK (τ : Tab) (op : BinOp) (t : Nat) (x y : AV) (K : AV → Prop) : Prop :=
  match x, y with
  | .d (.i k a), .d (.i k' b) => match kq k k' with
    | true => intK op k a b K
    | false => False
  | .d (.s a), .d (.s b) => strK op a b K
  | x, y => boolK τ op t x y K

/-! ### What may stand in a cell -/
def one1 : AV → Bool
  | .agg _ | .tup _ | .junk | .und => false
  | _ => true
def ones : List AV → Bool
  | [] => true
  | x :: xs => match one1 x with | true => ones xs | false => false

def okCells (x : AV) : Option (List AV) :=
  match ones (cellsA x) with
  | true => some (cellsA x)
  | false => none

def fillA (τ : Tab) (fs : List (Nat × Nat)) (e : Operand → AV) : List AV → List (Nat × Operand) → Option (List AV)
  | cells, [] => some cells
  | cells, (i, x) :: r =>
    match nth fs i (0, 0) with
    | (off, ft) => match Nat.blt i (ln fs) with
      | false => none
      | true => match okCells (e x) with
        | none => none
        | some [] => none
        | some (c :: cs) => match Nat.beq (ln (c :: cs)) (tg τ ft).size with
          | false => none
          | true => match splice cells off (c :: cs) with
            | some cells' => fillA τ fs e cells' r
            | none => none

/-- bytes of a row of bytes -/
def bytesOf : List (List DV) → Option (List UInt8)
  | [] => some []
  | [.i .u8 n] :: r => match bytesOf r with | some l => some (UInt8.ofNat n.toNat :: l) | none => none
  | _ :: _ => none

def intOf? : AV → Option Int
  | .d (.i _ n) => some n
  | _ => none

/-- a slice's bounds -/
def bndK (len : Nat) (lo hi : Option AV) (k : Nat → Nat → Prop) : Prop :=
  match lo, hi with
  | none, none => k 0 len
  | some l, none => match intOf? l with
    | some l => Req (0 ≤ l ∧ l ≤ len) (k l.toNat len)
    | none => False
  | none, some h => match intOf? h with
    | some h => Req (0 ≤ h ∧ h ≤ len) (k 0 h.toNat)
    | none => False
  | some l, some h => match intOf? l, intOf? h with
    | some l, some h => Req (0 ≤ l ∧ l ≤ h ∧ h ≤ len) (k l.toNat h.toNat)
    | _, _ => False

def omap {α β : Type} (f : α → β) : Option α → Option β
  | none => none
  | some x => some (f x)

def mkZero (i : TI) : AV := match i.agg with
  | true => .agg (mp1 .d i.zero)
  | false => match i.zero with
    | [c] => .d c
    | _ => .junk

def evK (τ : Tab) (o : Op) (e : Operand → AV) (O : List Obj) (K : AV → Prop) : Prop :=
  match o with
  | .move x => K (e x)
  | .assign x => K (e x)
  | .pick c a b => match e c with
    | .tt => K (e a)
    | .ff => K (e b)
    | .d (.b c) => match boolOf (e a), boolOf (e b) with
      | some x, some y => K (.d (.b (bif c then x else y)))
      | _, _ => False
    | _ => False
  | .build t parts => match (tg τ t).kind with
    | .struct => match fillA τ (tg τ t).fs e (mp1 .d (tg τ t).zero) parts.toList with
      | some cs => K (.agg cs)
      | none => False
    | _ => False
  | .load t a => match e a with
    | .ptr n off => match nth O n .dead with
      | .cells cs => loadK τ t (dp off cs) K
      | _ => False
    | .da cs => loadK τ t (mp1 .d cs) K
    | .ra c v z i off => match rowOf O c v with
      | some (_, z', xs) => match Nat.beq z z' with
        | true => ∃ r, xs[i]? = some r ∧ loadK τ t (mp1 .d (dp off r)) K
        | false => False
      | none => False
    | _ => False
  | .nilCheck x => match e x with
    | .ptr n off => K (.ptr n off)
    | .da cs => K (.da cs)
    | .ra c v z i off => K (.ra c v z i off)
    | .fn f cs => K (.fn f cs)
    | _ => False
  | .binOp op t x y _ => match constNil y with
    | true => nilK τ op t (e x) (e y) K
    | false => binK τ op t (e x) (e y) K
  | .unOp op _ x => match op with
    | .not => match e x with
      | .tt => K .ff
      | .ff => K .tt
      | .d (.b c) => K (.d (.b (!c)))
      | _ => False
    | .neg => match e x with
      | .d (.i k n) => Rng k (0 - n) (K (.d (.i k (0 - n))))
      | _ => False
    | _ => False
  | .convert src dst x => match (tg τ dst).kind with
    | .int k => match (tg τ src).kind, e x with
      | .other, _ => False
      | _, .d (.i _ n) => Rng k n (K (.d (.i k n)))
      | _, _ => False
    | .string => match (tg τ src).kind with
      | .string => match e x with
        | .d (.s l) => K (.d (.s l))
        | _ => False
      | .slice => match (tg τ (tg τ src).elem).kind with
        | .int .u8 => match low (e x) with
          | .d (.sl 1 xs) => match bytesOf xs with
            | some l => K (.d (.s l))
            | none => False
          | .row c v => match rowOf O c v with
            | some (_, 1, xs) => match bytesOf xs with
              | some l => K (.d (.s l))
              | none => False
            | _ => False
          | _ => False
        | _ => False
      | _ => False
    | _ => False
  | .fieldAddr s x f => match Nat.blt f (ln (tg τ s).fs), (tg τ s).kind with
    | true, .struct => match nth (tg τ s).fs f (0, 0) with
      | (fo, ft) => match (tg τ ft).size with
        | 0 => False
        | _ + 1 => match e x with
          | .ptr n off => K (.ptr n (off + fo))
          | .da cs => K (.da (dp fo cs))
          | .ra c v z i off => K (.ra c v z i (off + fo))
          | _ => False
    | _, _ => False
  | .field s x f => match Nat.blt f (ln (tg τ s).fs), (tg τ s).kind with
    | true, .struct => match nth (tg τ s).fs f (0, 0) with
      | (fo, ft) => match e x with
        | .agg cs => loadK τ ft (dp fo cs) K
        | _ => False
    | _, _ => False
  | .indexAddr t x ix => match (tg τ t).kind, intOf? (e ix) with
    | .slice, some n => match low (e x) with
      | .d (.sl z xs) => match eqz τ t z with
        | true => Req (0 ≤ n) (∃ r, xs[n.toNat]? = some r ∧ fDs r fun r' => K (.da r'))
        | false => False
      | .row c v => match rowOf O c v with
        | some (_, z, xs) => match eqz τ t z with
          | true => Req (0 ≤ n ∧ n < xs.length) (K (.ra c v z n.toNat 0))
          | false => False
        | none => False
      | _ => False
    | _, _ => False
  | .index t x ix => match (tg τ t).kind, intOf? (e ix) with
    | .string, some n => match e x with
      | .d (.s l) => Req (0 ≤ n) (∃ c, l[n.toNat]? = some c ∧ K (.d (.i .u8 c.toNat)))
      | _ => False
    | _, _ => False
  | .slice t x lo hi mx => match mx with
    | some _ => False
    | none => match (tg τ t).kind with
      | .string => match e x with
        | .d (.s l) => bndK l.length (omap e lo) (omap e hi) fun a b => K (.d (.s ((l.take b).drop a)))
        | _ => False
      | _ => False
  | .extract x n => match e x with
    | .tup vs => match Nat.blt n (ln vs) with
      | true => K (nth vs n .junk)
      | false => False
    | _ => False
  | .call c => match c.callee, c.args.toList, c.argTypes.toList with
    | .builtin .len, [x], [t] => match (tg τ t).kind, low (e x) with
      | .slice, .d (.sl _ xs) => K (.d (.i .i64 xs.length))
      | .slice, .row c v => match rowOf O c v with
        | some (_, _, xs) => K (.d (.i .i64 xs.length))
        | none => False
      | .slice, .d (.v (.slice none 0 0)) => K (.d (.i .i64 0))
      | .string, .d (.s l) => K (.d (.i .i64 l.length))
      | _, _ => False
    | _, _, _ => False
  | .makeInterface t x => match (tg τ t).kind with
    | .iface => False
    | .other => False
    | _ => K (.ifc t (e x))
  | .makeFunc f first caps => match f, first.toList with
    | .func f, [] => K (.fn f (mp1 e caps.toList))
    | _, _ => False
  | .typeAssert x _ t ok => match (tg τ t).kind, ok with
    | .iface, _ => False
    | .other, _ => False
    | _, true => match e x with
      | .ifc u y => match Nat.beq u t with
        | true => K (.tup [y, .tt])
        | false => K (.tup [mkZero (tg τ t), .ff])
      | .d (.ifa u cs) => match Nat.beq u t with
        | true => K (.tup [.agg (mp1 .d cs), .tt])
        | false => K (.tup [mkZero (tg τ t), .ff])
      | .d (.v .nilIface) => K (.tup [mkZero (tg τ t), .ff])
      | _ => False
    | _, false => match e x with
      | .ifc u y => match Nat.beq u t with
        | true => K y
        | false => False
      | .d (.ifa u cs) => match Nat.beq u t with
        | true => K (.agg (mp1 .d cs))
        | false => False
      | _ => False
  | _ => False
end Ab
