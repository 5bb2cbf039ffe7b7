/- The abstract values of the frame 'Ab', and what they stand for in the model's memory: no Go function's proof by itself. -/
import Derived.ProofKit
import Derived.Deep.LoopGhost
set_option linter.all false
namespace Ab
open Go

/-- the value of one cell -/
def oneV : Value → Bool
  | .agg _ | .tuple _ => false
  | _ => true

/-- A cell of data that nobody writes any more. -/
inductive DV where
  | i (k : IntKind) (n : Int)
  | b (x : Bool)
  | s (l : List UInt8)
  | sl (z : Nat) (xs : List (List DV))
  | sf (z : Nat) (xs : List (List DV))
  | ifa (t : TypeId) (cs : List DV)
  | if1 (t : TypeId) (x : DV)
  | v (x : Value)

/-- What a slot, or a cell of an object, holds. -/
inductive AV where
  | d (x : DV)
  | tt
  | ff
  | row (c v : Nat)
  | ptr (k off : Nat)
  | da (cs : List DV)
  | ra (c v z i off : Nat)
  | agg (cs : List AV)
  | tup (vs : List AV)
  | fn (f : FuncId) (caps : List AV)
  | ifc (t : TypeId) (x : AV)
  | mp (k : Nat)
  | und
  | junk

/-- An object that the code may write. -/
inductive Obj where
  | cells (cs : List AV)
  | row (v : Nat) (st : Bool) (z : Nat) (xs : List (List DV))
  | map (t : TypeId) (es : List (DV × List AV))
  | dead

/-! ### Data in memory -/
abbrev Imm := Nat → Option (List Value)

def Imm.le (I J : Imm) : Prop := ∀ b ys, I b = some ys → ∃ zs, J b = some (ys ++ zs)

def rd (I : Imm) (b off : Nat) : Option Value := (I b).bind fun ys => ys[off]?

mutual
def DVal (I : Imm) : DV → Value → Prop
  | .i k n, u => u = .int k n
  | .b x, u => u = .bool x
  | .s l, u => u = .string ⟨l.toArray⟩
  | .sl z xs, u => ∃ a cap, u = .slice a xs.length cap ∧ xs.length ≤ cap ∧ (xs = [] ∨ ∃ b off, a = some ⟨b, off, none⟩ ∧ DRows I z b off xs)
  | .sf z xs, u => ∃ a, u = .slice a xs.length xs.length ∧ (xs = [] ∨ ∃ b off, a = some ⟨b, off, none⟩ ∧ DRows I z b off xs)
  | .ifa t cs, u => ∃ us : List Value, u = .iface t (.agg us.toArray) ∧ DList I cs us
  | .if1 t x, u => ∃ y, u = .iface t y ∧ DVal I x y
  | .v x, u => u = x ∧ oneV x = true
def DRows (I : Imm) (z b : Nat) : Nat → List (List DV) → Prop
  | _, [] => True
  | off, r :: rs => r.length = z ∧ DCells I b off r ∧ DRows I z b (off + z) rs
def DCells (I : Imm) (b : Nat) : Nat → List DV → Prop
  | _, [] => True
  | off, c :: cs => (∃ u, rd I b off = some u ∧ DVal I c u) ∧ DCells I b (off + 1) cs
def DList (I : Imm) : List DV → List Value → Prop
  | [], [] => True
  | c :: cs, u :: us => DVal I c u ∧ DList I cs us
  | _, _ => False
end

/-- What stands behind the numbers of the objects. -/
structure Gh where
  imm : Imm
  own : Nat → Option Nat
  n : Nat
  blk : Nat → Nat
  row : Nat → Nat × Value

mutual
def Val (g : Gh) : AV → Value → Prop
  | .d x, u => DVal g.imm x u
  | .tt, u => u = .bool true
  | .ff, u => u = .bool false
  | .row c v, u => c < g.n ∧ (∃ a l cp, u = .slice a l cp) ∧ (v < (g.row c).1 ∨ (v = (g.row c).1 ∧ u = (g.row c).2))
  | .ptr k off, u => k < g.n ∧ u = .pointer (some ⟨g.blk k, off, none⟩)
  | .da cs, u => ∃ b off, u = .pointer (some ⟨b, off, none⟩) ∧ DCells g.imm b off cs
  | .ra c v z i off, u => c < g.n ∧ (∃ a, u = .pointer (some a)) ∧ (v < (g.row c).1 ∨ (v = (g.row c).1 ∧ ∃ b o len cap, (g.row c).2 = .slice (some ⟨b, o, none⟩) len cap ∧
      u = .pointer (some ⟨b, o + i * z + off, none⟩)))
  | .agg cs, u => ∃ us : List Value, u = .agg us.toArray ∧ ValL g cs us
  | .tup cs, u => ∃ us : List Value, u = .tuple us.toArray ∧ ValL g cs us
  | .fn f cs, u => ∃ us : List Value, u = .func (.func f) #[] us.toArray ∧ ValL g cs us
  | .ifc t x, u => ∃ y, u = .iface t y ∧ Val g x y
  | .mp k, u => k < g.n ∧ u = .map (some (g.blk k))
  | .und, u => u = undef
  | .junk, _ => True
def ValL (g : Gh) : List AV → List Value → Prop
  | [], [] => True
  | c :: cs, u :: us => Val g c u ∧ ValL g cs us
  | _, _ => False
end
end Ab
