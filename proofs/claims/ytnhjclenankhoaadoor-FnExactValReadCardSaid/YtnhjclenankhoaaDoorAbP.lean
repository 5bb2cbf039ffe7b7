/- The abstract values of the frame 'Ab', and what they stand for in the model's memory: no Go function's proof by itself. -/
import Derived.ProofKit
import Derived.Deep.LoopGhost
import Derived.Lib.FrozenHead
import Derived.Lib.Strings
import Derived.Lib.SmallJoins
import Derived.Laws.Build
import Derived.Laws.AppendOwn
set_option linter.all false
namespace Ab
open Go

/-- the value of one cell -/
def oneV : Value → Bool
  | .agg _ | .tuple _ => false
  | _ => true

/-- A cell of data that nobody writes any more. -/
inductive DV where
  | i (k : IntKind) (n : Int)
  | b (x : Bool)
  | s (l : List UInt8)
  | sl (z : Nat) (xs : List (List DV))
  | sf (z : Nat) (xs : List (List DV))
  | ifa (t : TypeId) (cs : List DV)
  | if1 (t : TypeId) (x : DV)
  | v (x : Value)

/-- What a slot, or a cell of an object, holds. -/
inductive AV where
  | d (x : DV)
  | tt
  | ff
  | row (c v : Nat)
  | ptr (k off : Nat)
  | da (cs : List DV)
  | ra (c v z i off : Nat)
  | agg (cs : List AV)
  | tup (vs : List AV)
  | fn (f : FuncId) (caps : List AV)
  | ifc (t : TypeId) (x : AV)
  | mp (k : Nat)
  | und
  | junk

/-- An object that the code may write. -/
inductive Obj where
  | cells (cs : List AV)
  | row (v : Nat) (st : Bool) (z : Nat) (xs : List (List DV))
  | map (t : TypeId) (es : List (DV × List AV))
  | dead

/-! ### Data in memory -/
abbrev Imm := Nat → Option (List Value)

def Imm.le (I J : Imm) : Prop := ∀ b ys, I b = some ys → ∃ zs, J b = some (ys ++ zs)

def rd (I : Imm) (b off : Nat) : Option Value := (I b).bind fun ys => ys[off]?

mutual
def DVal (I : Imm) : DV → Value → Prop
  | .i k n, u => u = .int k n
  | .b x, u => u = .bool x
  | .s l, u => u = .string ⟨l.toArray⟩
  | .sl z xs, u => ∃ a cap, u = .slice a xs.length cap ∧ xs.length ≤ cap ∧ (xs = [] ∨ ∃ b off, a = some ⟨b, off, none⟩ ∧ DRows I z b off xs)
  | .sf z xs, u => ∃ a, u = .slice a xs.length xs.length ∧ (xs = [] ∨ ∃ b off, a = some ⟨b, off, none⟩ ∧ DRows I z b off xs)
  | .ifa t cs, u => ∃ us : List Value, u = .iface t (.agg us.toArray) ∧ DList I cs us
  | .if1 t x, u => ∃ y, u = .iface t y ∧ DVal I x y
  | .v x, u => u = x ∧ oneV x = true
def DRows (I : Imm) (z b : Nat) : Nat → List (List DV) → Prop
  | _, [] => True
  | off, r :: rs => r.length = z ∧ DCells I b off r ∧ DRows I z b (off + z) rs
def DCells (I : Imm) (b : Nat) : Nat → List DV → Prop
  | _, [] => True
  | off, c :: cs => (∃ u, rd I b off = some u ∧ DVal I c u) ∧ DCells I b (off + 1) cs
def DList (I : Imm) : List DV → List Value → Prop
  | [], [] => True
  | c :: cs, u :: us => DVal I c u ∧ DList I cs us
  | _, _ => False
end

/-- What stands behind the numbers of the objects. -/
structure Gh where
  imm : Imm
  own : Nat → Option Nat
  n : Nat
  blk : Nat → Nat
  row : Nat → Nat × Value

mutual
def Val (g : Gh) : AV → Value → Prop
  | .d x, u => DVal g.imm x u
  | .tt, u => u = .bool true
  | .ff, u => u = .bool false
  | .row c v, u => c < g.n ∧ (∃ a l cp, u = .slice a l cp) ∧ (v < (g.row c).1 ∨ (v = (g.row c).1 ∧ u = (g.row c).2))
  | .ptr k off, u => k < g.n ∧ u = .pointer (some ⟨g.blk k, off, none⟩)
  | .da cs, u => ∃ b off, u = .pointer (some ⟨b, off, none⟩) ∧ DCells g.imm b off cs
  | .ra c v z i off, u => c < g.n ∧ (∃ a, u = .pointer (some a)) ∧ (v < (g.row c).1 ∨ (v = (g.row c).1 ∧ ∃ b o len cap, (g.row c).2 = .slice (some ⟨b, o, none⟩) len cap ∧
      u = .pointer (some ⟨b, o + i * z + off, none⟩)))
  | .agg cs, u => ∃ us : List Value, u = .agg us.toArray ∧ ValL g cs us
  | .tup cs, u => ∃ us : List Value, u = .tuple us.toArray ∧ ValL g cs us
  | .fn f cs, u => ∃ us : List Value, u = .func (.func f) #[] us.toArray ∧ ValL g cs us
  | .ifc t x, u => ∃ y, u = .iface t y ∧ Val g x y
  | .mp k, u => k < g.n ∧ u = .map (some (g.blk k))
  | .und, u => u = undef
  | .junk, _ => True
def ValL (g : Gh) : List AV → List Value → Prop
  | [], [] => True
  | c :: cs, u :: us => Val g c u ∧ ValL g cs us
  | _, _ => False
end
end Ab

/- Laws of what the frame 'Ab' says of memory: what was data stays data; parts of data are data. -/
namespace Ab
open Go

theorem rd_mono {I J : Imm} (h : I.le J) {b o : Nat} {u : Value} (hr : rd I b o = some u) : rd J b o = some u := by
  unfold rd at hr ⊢
  cases hI : I b with
  | none => simp [hI] at hr
  | some ys =>
    obtain ⟨zs, hz⟩ := h b ys hI
    simp [hI] at hr
    simp [hz]
    have hlt : o < ys.length := by
      rcases Nat.lt_or_ge o ys.length with h' | h'
      · exact h'
      · simp [List.getElem?_eq_none h'] at hr
    rw [List.getElem?_append_left hlt]; exact hr

mutual
theorem DVal_mono {I J : Imm} (h : I.le J) : ∀ (x : DV) (u : Value), DVal I x u → DVal J x u
  | .i _ _, _, hx => hx
  | .b _, _, hx => hx
  | .s _, _, hx => hx
  | .v _, _, hx => hx
  | .sl z xs, u, hx => by
    obtain ⟨a, cap, hu, hc, hr⟩ := hx
    refine ⟨a, cap, hu, hc, hr.imp id ?_⟩
    rintro ⟨b, off, ha, hr⟩
    exact ⟨b, off, ha, DRows_mono h z b off xs hr⟩
  | .sf z xs, u, hx => by
    obtain ⟨a, hu, hr⟩ := hx
    refine ⟨a, hu, hr.imp id ?_⟩
    rintro ⟨b, off, ha, hr⟩
    exact ⟨b, off, ha, DRows_mono h z b off xs hr⟩
  | .ifa t cs, u, hx => by
    obtain ⟨us, hu, hl⟩ := hx
    exact ⟨us, hu, DList_mono h cs us hl⟩
  | .if1 t x, u, hx => by
    obtain ⟨y, hu, hl⟩ := hx
    exact ⟨y, hu, DVal_mono h x y hl⟩
theorem DRows_mono {I J : Imm} (h : I.le J) (z b : Nat) : ∀ (off : Nat) (xs : List (List DV)), DRows I z b off xs → DRows J z b off xs
  | _, [], _ => trivial
  | off, r :: rs, ⟨h1, h2, h3⟩ => ⟨h1, DCells_mono h b off r h2, DRows_mono h z b (off + z) rs h3⟩
theorem DCells_mono {I J : Imm} (h : I.le J) (b : Nat) : ∀ (off : Nat) (cs : List DV), DCells I b off cs → DCells J b off cs
  | _, [], _ => trivial
  | off, c :: cs, ⟨⟨u, hu, hv⟩, h2⟩ => ⟨⟨u, rd_mono h hu, DVal_mono h c u hv⟩, DCells_mono h b (off + 1) cs h2⟩
theorem DList_mono {I J : Imm} (h : I.le J) : ∀ (cs : List DV) (us : List Value), DList I cs us → DList J cs us
  | [], [], _ => trivial
  | c :: cs, u :: us, ⟨h1, h2⟩ => ⟨DVal_mono h c u h1, DList_mono h cs us h2⟩
  | [], _ :: _, hx => hx
  | _ :: _, [], hx => hx
end

theorem Imm.le_refl (I : Imm) : I.le I := fun _ ys h => ⟨[], by simpa using h⟩
theorem Imm.le_trans {I J K : Imm} (h : I.le J) (k : J.le K) : I.le K := fun b ys hb => by
  obtain ⟨zs, hz⟩ := h b ys hb
  obtain ⟨ws, hw⟩ := k b _ hz
  exact ⟨zs ++ ws, by rw [hw, List.append_assoc]⟩

structure Gh.le (g h : Gh) : Prop where
  imm : g.imm.le h.imm
  n : g.n ≤ h.n
  blk : ∀ k, k < g.n → h.blk k = g.blk k
  row : ∀ k, k < g.n → (g.row k).1 < (h.row k).1 ∨ h.row k = g.row k

theorem Gh.le_refl (g : Gh) : g.le g := ⟨Imm.le_refl _, Nat.le_refl _, fun _ _ => rfl, fun _ _ => .inr rfl⟩
theorem Gh.le_trans {g h k : Gh} (a : g.le h) (b : h.le k) : g.le k := by
  refine ⟨Imm.le_trans a.imm b.imm, Nat.le_trans a.n b.n, fun i hi => (b.blk i (Nat.lt_of_lt_of_le hi a.n)).trans (a.blk i hi), fun i hi => ?_⟩
  rcases a.row i hi with h1 | h1 <;> rcases b.row i (Nat.lt_of_lt_of_le hi a.n) with h2 | h2
  · left; omega
  · left; rw [h2]; exact h1
  · left; rw [← h1]; exact h2
  · right; rw [h2, h1]

mutual
theorem Val_mono {g h : Gh} (hl : g.le h) : ∀ (x : AV) (u : Value), Val g x u → Val h x u
  | .d x, u, hx => DVal_mono hl.imm x u hx
  | .tt, _, hx => hx
  | .ff, _, hx => hx
  | .row c v, u, ⟨hc, hq, hx⟩ => by
    refine ⟨Nat.lt_of_lt_of_le hc hl.n, hq, ?_⟩
    rcases hl.row c hc with h1 | h1
    · left; rcases hx with hx | hx <;> omega
    · rw [h1]; exact hx
  | .ptr k off, u, ⟨hc, hx⟩ => ⟨Nat.lt_of_lt_of_le hc hl.n, by rw [hl.blk k hc]; exact hx⟩
  | .da cs, u, ⟨b, off, hu, hc⟩ => ⟨b, off, hu, DCells_mono hl.imm b off cs hc⟩
  | .ra c v z i off, u, ⟨hc, hq, hx⟩ => by
    refine ⟨Nat.lt_of_lt_of_le hc hl.n, hq, ?_⟩
    rcases hl.row c hc with h1 | h1
    · left; rcases hx with hx | hx <;> omega
    · rw [h1]; exact hx
  | .agg cs, u, ⟨us, hu, hx⟩ => ⟨us, hu, ValL_mono hl cs us hx⟩
  | .tup cs, u, ⟨us, hu, hx⟩ => ⟨us, hu, ValL_mono hl cs us hx⟩
  | .fn f cs, u, ⟨us, hu, hx⟩ => ⟨us, hu, ValL_mono hl cs us hx⟩
  | .ifc t x, u, ⟨y, hu, hx⟩ => ⟨y, hu, Val_mono hl x y hx⟩
  | .mp k, u, ⟨hc, hx⟩ => ⟨Nat.lt_of_lt_of_le hc hl.n, by rw [hl.blk k hc]; exact hx⟩
  | .und, _, hx => hx
  | .junk, _, _ => trivial
theorem ValL_mono {g h : Gh} (hl : g.le h) : ∀ (cs : List AV) (us : List Value), ValL g cs us → ValL h cs us
  | [], [], _ => trivial
  | c :: cs, u :: us, ⟨h1, h2⟩ => ⟨Val_mono hl c u h1, ValL_mono hl cs us h2⟩
  | [], _ :: _, hx => hx
  | _ :: _, [], hx => hx
end

/-! ### Lists -/
theorem ValL_length {g : Gh} : ∀ {cs : List AV} {us : List Value}, ValL g cs us → cs.length = us.length
  | [], [], _ => rfl
  | _ :: cs, _ :: us, ⟨_, h⟩ => by simp [ValL_length h]

theorem ValL_get {g : Gh} : ∀ {cs : List AV} {us : List Value}, ValL g cs us → ∀ (i : Nat), Val g (cs.getD i .junk) (us.getD i undef)
  | [], [], _, i => by simp [Val]
  | c :: cs, u :: us, ⟨h, h'⟩, i => by
    cases i with
    | zero => simpa using h
    | succ i => simpa using ValL_get h' i

theorem ValL_set {g : Gh} : ∀ {cs : List AV} {us : List Value}, ValL g cs us → ∀ (i : Nat) {x : AV} {u : Value}, Val g x u → ValL g (cs.set i x) (us.set i u)
  | [], [], _, i, _, _, _ => by simp [ValL]
  | c :: cs, u :: us, ⟨h, h'⟩, i, x, y, hx => by
    cases i with
    | zero => exact ⟨hx, h'⟩
    | succ i => exact ⟨h, ValL_set h' i hx⟩

theorem ValL_append {g : Gh} : ∀ {cs : List AV} {us : List Value} {ds : List AV} {vs : List Value}, ValL g cs us → ValL g ds vs → ValL g (cs ++ ds) (us ++ vs)
  | [], [], _, _, _, h => h
  | _ :: _, _ :: _, _, _, ⟨h, h'⟩, k => ⟨h, ValL_append h' k⟩

theorem ValL_take {g : Gh} : ∀ {cs : List AV} {us : List Value} (n : Nat), ValL g cs us → ValL g (cs.take n) (us.take n)
  | [], [], n, _ => by cases n <;> simp [ValL]
  | _ :: _, _ :: _, n, ⟨h, h'⟩ => by
    cases n with
    | zero => simp [ValL]
    | succ n => exact ⟨h, ValL_take n h'⟩

theorem ValL_drop {g : Gh} : ∀ {cs : List AV} {us : List Value} (n : Nat), ValL g cs us → ValL g (cs.drop n) (us.drop n)
  | [], [], n, _ => by cases n <;> simp [ValL]
  | _ :: _, _ :: _, n, ⟨h, h'⟩ => by
    cases n with
    | zero => exact ⟨h, h'⟩
    | succ n => exact ValL_drop n h'

theorem ValL_junk {g : Gh} : ∀ (n : Nat) (us : List Value), us.length = n → ValL g (List.replicate n .junk) us
  | 0, [], _ => trivial
  | n + 1, _ :: us, h => ⟨trivial, ValL_junk n us (by simpa using h)⟩

/-- data cells as cells -/
theorem ValL_of_DList {g : Gh} : ∀ {cs : List DV} {us : List Value}, DList g.imm cs us → ValL g (cs.map .d) us
  | [], [], _ => trivial
  | _ :: _, _ :: _, ⟨h, h'⟩ => ⟨h, ValL_of_DList h'⟩

theorem DList_length {I : Imm} : ∀ {cs : List DV} {us : List Value}, DList I cs us → cs.length = us.length
  | [], [], _ => rfl
  | _ :: cs, _ :: us, ⟨_, h⟩ => by simp [DList_length h]

/-- The cells of a piece of immutable memory, as they stand in the prefix. -/
theorem DCells_list {I : Imm} {b : Nat} : ∀ {cs : List DV} {off : Nat}, DCells I b off cs →
    ∃ us, DList I cs us ∧ ∀ j, j < us.length → rd I b (off + j) = us[j]?
  | [], off, _ => ⟨[], trivial, fun j h => by simp at h⟩
  | c :: cs, off, ⟨⟨u, hu, hv⟩, h⟩ => by
    obtain ⟨us, h1, h2⟩ := DCells_list h
    refine ⟨u :: us, ⟨hv, h1⟩, fun j hj => ?_⟩
    cases j with
    | zero => simpa using hu
    | succ j =>
      have := h2 j (by simpa using hj)
      simpa [Nat.add_assoc, Nat.add_comm 1 j] using this

theorem DCells_drop {I : Imm} {b : Nat} : ∀ {cs : List DV} {off : Nat} (n : Nat), DCells I b off cs → DCells I b (off + n) (cs.drop n)
  | [], _, n, _ => by cases n <;> simp [DCells]
  | c :: cs, off, 0, h => h
  | c :: cs, off, n + 1, ⟨_, h⟩ => by
    have := DCells_drop n h
    simpa [Nat.add_assoc, Nat.add_comm 1 n] using this

theorem DCells_take {I : Imm} {b : Nat} : ∀ {cs : List DV} {off : Nat} (n : Nat), DCells I b off cs → DCells I b off (cs.take n)
  | [], _, n, _ => by cases n <;> simp [DCells]
  | c :: cs, off, 0, h => by simp [DCells]
  | c :: cs, off, n + 1, ⟨h0, h⟩ => ⟨h0, DCells_take n h⟩

theorem DRows_get {I : Imm} {z b : Nat} : ∀ {xs : List (List DV)} {off : Nat}, DRows I z b off xs → ∀ {i : Nat} {r : List DV}, xs[i]? = some r →
    r.length = z ∧ DCells I b (off + i * z) r
  | [], _, _, i, r, h => by simp at h
  | x :: xs, off, ⟨h1, h2, h3⟩, i, r, h => by
    cases i with
    | zero => simp at h; subst h; exact ⟨h1, by simpa using h2⟩
    | succ i =>
      have := DRows_get h3 (i := i) (r := r) (by simpa using h)
      refine ⟨this.1, ?_⟩
      have e : off + (i + 1) * z = off + z + i * z := by rw [Nat.add_mul]; omega
      rw [e]; exact this.2

/-! ### What says less -/
def DW (x y : DV) : Prop := ∀ I u, DVal I x u → DVal I y u
def DWL (xs ys : List DV) : Prop := ∀ I us, DList I xs us → DList I ys us
def Wk (x y : AV) : Prop := ∀ g u, Val g x u → Val g y u
def WkL (xs ys : List AV) : Prop := ∀ g us, ValL g xs us → ValL g ys us

def DWRows : List (List DV) → List (List DV) → Prop
  | [], [] => True
  | r :: rs, q :: qs => r.length = q.length ∧ DWL r q ∧ DWRows rs qs
  | _, _ => False

def WkO (o o' : Obj) : Prop := o = o' ∨ match o, o' with
  | .cells cs, .cells ds => WkL cs ds
  | .row v s z xs, .row v' s' z' ys => v = v' ∧ s = s' ∧ z = z' ∧ DWRows xs ys
  | _, _ => False

def WkOs : List Obj → List Obj → Prop
  | [], [] => True
  | o :: os, q :: qs => WkO o q ∧ WkOs os qs
  | _, _ => False

theorem DW.rfl {x : DV} : DW x x := fun _ _ h => h
theorem DWL.rfl {x : List DV} : DWL x x := fun _ _ h => h
theorem Wk.rfl {x : AV} : Wk x x := fun _ _ h => h
theorem WkL.rfl {x : List AV} : WkL x x := fun _ _ h => h
theorem WkO.rfl {x : Obj} : WkO x x := .inl (Eq.refl _)
theorem WkOs.rfl : ∀ {x : List Obj}, WkOs x x
  | [] => trivial
  | _ :: _ => ⟨WkO.rfl, WkOs.rfl⟩
theorem WkOs.of_eq {x y : List Obj} (h : x = y) : WkOs x y := by subst h; exact WkOs.rfl
theorem Wk.of_eq {x y : AV} (h : x = y) : Wk x y := by subst h; exact Wk.rfl
theorem WkL.of_eq {x y : List AV} (h : x = y) : WkL x y := by subst h; exact WkL.rfl
theorem Wk.trans {x y z : AV} (h : Wk x y) (k : Wk y z) : Wk x z := fun g u hv => k g u (h g u hv)
theorem DW.trans {x y z : DV} (h : DW x y) (k : DW y z) : DW x z := fun g u hv => k g u (h g u hv)
theorem WkL.nil : WkL [] [] := WkL.rfl
theorem WkL.cons {x y : AV} {xs ys : List AV} (h : Wk x y) (k : WkL xs ys) : WkL (x :: xs) (y :: ys) := fun g us hv => by
  cases us with
  | nil => exact hv.elim
  | cons u us => exact ⟨h g u hv.1, k g us hv.2⟩
theorem DWL.nil : DWL [] [] := DWL.rfl
theorem DWL.cons {x y : DV} {xs ys : List DV} (h : DW x y) (k : DWL xs ys) : DWL (x :: xs) (y :: ys) := fun g us hv => by
  cases us with
  | nil => exact hv.elim
  | cons u us => exact ⟨h g u hv.1, k g us hv.2⟩
theorem Wk.agg {xs ys : List AV} (h : WkL xs ys) : Wk (.agg xs) (.agg ys) := fun g u ⟨us, hu, hv⟩ => ⟨us, hu, h g us hv⟩
theorem Wk.tup {xs ys : List AV} (h : WkL xs ys) : Wk (.tup xs) (.tup ys) := fun g u ⟨us, hu, hv⟩ => ⟨us, hu, h g us hv⟩
theorem Wk.fn {f : Nat} {xs ys : List AV} (h : WkL xs ys) : Wk (.fn f xs) (.fn f ys) := fun g u ⟨us, hu, hv⟩ => ⟨us, hu, h g us hv⟩
theorem Wk.ifc {t : TypeId} {x y : AV} (h : Wk x y) : Wk (.ifc t x) (.ifc t y) := fun g u ⟨us, hu, hv⟩ => ⟨us, hu, h g us hv⟩
theorem Wk.d {x y : DV} (h : DW x y) : Wk (.d x) (.d y) := fun g u hv => h g.imm u hv
theorem Wk.tt : Wk .tt (.d (.b true)) := fun _ _ h => h
theorem Wk.ff : Wk .ff (.d (.b false)) := fun _ _ h => h
theorem Wk.junk {x : AV} : Wk x .junk := fun _ _ _ => trivial
theorem DW.nil (z : Nat) : DW (.v (.slice none 0 0)) (.sl z []) := fun I u ⟨hu, _⟩ => ⟨none, 0, hu, Nat.le_refl _, .inl (Eq.refl _)⟩
theorem Wk.nil (z : Nat) : Wk (.d (.v (.slice none 0 0))) (.d (.sl z [])) := Wk.d (DW.nil z)
theorem DWL.len {xs ys : List DV} (h : DWL xs ys) {I : Imm} {us : List Value} (hv : DList I xs us) : xs.length = ys.length := by
  rw [DList_length hv, DList_length (h I us hv)]

theorem DCells_of_list {I : Imm} {b : Nat} : ∀ {cs : List DV} {us : List Value} {off : Nat}, DList I cs us → (∀ j, j < us.length → rd I b (off + j) = us[j]?) → DCells I b off cs
  | [], [], _, _, _ => trivial
  | c :: cs, u :: us, off, ⟨h1, h2⟩, hm => by
    refine ⟨⟨u, by simpa using hm 0 (by simp), h1⟩, DCells_of_list h2 (fun j hj => ?_)⟩
    have := hm (j + 1) (by simpa using hj)
    simpa [Nat.add_assoc, Nat.add_comm 1 j] using this

theorem DRows_wk {I : Imm} {z b : Nat} : ∀ {xs ys : List (List DV)} {off : Nat}, DWRows xs ys → DRows I z b off xs → DRows I z b off ys
  | [], [], _, _, _ => trivial
  | r :: rs, q :: qs, off, ⟨h1, h2, h3⟩, ⟨k1, k2, k3⟩ => by
    obtain ⟨us, hl, hm⟩ := DCells_list k2
    exact ⟨by rw [← h1]; exact k1, DCells_of_list (h2 I us hl) hm, DRows_wk h3 k3⟩
  | [], _ :: _, _, h, _ => h.elim
  | _ :: _, [], _, h, _ => h.elim

theorem DWRows.len : ∀ {xs ys : List (List DV)}, DWRows xs ys → xs.length = ys.length
  | [], [], _ => rfl
  | _ :: _, _ :: _, ⟨_, _, h⟩ => by simp [DWRows.len h]
  | [], _ :: _, h => h.elim
  | _ :: _, [], h => h.elim
theorem DWRows.rfl : ∀ {xs : List (List DV)}, DWRows xs xs
  | [] => trivial
  | _ :: _ => ⟨Eq.refl _, DWL.rfl, DWRows.rfl⟩
theorem DWRows.elen {z : Nat} : ∀ {xs ys : List (List DV)}, DWRows xs ys → (∀ r ∈ xs, r.length = z) → ∀ r ∈ ys, r.length = z
  | [], [], _, _, r, hr => by simp at hr
  | x :: xs, y :: ys, ⟨h1, _, h3⟩, h, r, hr => by
    rcases List.mem_cons.1 hr with rfl | hr
    · rw [← h1]; exact h x (by simp)
    · exact DWRows.elen h3 (fun r hr => h r (List.mem_cons_of_mem _ hr)) r hr
  | [], _ :: _, h, _, _, _ => h.elim
  | _ :: _, [], h, _, _, _ => h.elim
theorem DList_split {I : Imm} : ∀ {cs ds : List DV} {us : List Value}, DList I (cs ++ ds) us → ∃ vs ws, us = vs ++ ws ∧ DList I cs vs ∧ DList I ds ws
  | [], ds, us, h => ⟨[], us, rfl, trivial, h⟩
  | c :: cs, ds, u :: us, ⟨h1, h2⟩ => by
    obtain ⟨vs, ws, h3, h4, h5⟩ := DList_split h2
    exact ⟨u :: vs, ws, by rw [h3]; rfl, ⟨h1, h4⟩, h5⟩
theorem DList_join {I : Imm} : ∀ {cs ds : List DV} {us vs : List Value}, DList I cs us → DList I ds vs → DList I (cs ++ ds) (us ++ vs)
  | [], _, [], _, _, k => k
  | c :: cs, _, u :: us, _, h, k => ⟨h.1, DList_join h.2 k⟩
theorem DWRows.flat : ∀ {xs ys : List (List DV)}, DWRows xs ys → DWL xs.flatten ys.flatten
  | [], [], _ => DWL.rfl
  | x :: xs, y :: ys, ⟨_, h2, h3⟩ => fun I us h => by
    obtain ⟨vs, ws, rfl, h4, h5⟩ := DList_split h
    exact DList_join (h2 I vs h4) (DWRows.flat h3 I ws h5)
  | [], _ :: _, h => h.elim
  | _ :: _, [], h => h.elim
theorem DW.sl {z : Nat} {xs ys : List (List DV)} (h : DWRows xs ys) : DW (.sl z xs) (.sl z ys) := fun I u ⟨a, cap, hu, hc, hr⟩ => by
  refine ⟨a, cap, by rw [← h.len]; exact hu, by rw [← h.len]; exact hc, ?_⟩
  rcases hr with rfl | ⟨b, off, ha, hr⟩
  · left
    have := h.len
    exact List.eq_nil_of_length_eq_zero (by rw [← this]; rfl)
  · exact .inr ⟨b, off, ha, DRows_wk h hr⟩
theorem DW.sf {z : Nat} {xs : List (List DV)} : DW (.sf z xs) (.sl z xs) := fun I u ⟨a, hu, hr⟩ => ⟨a, _, hu, Nat.le_refl _, hr⟩
theorem DW.nilf (z : Nat) : DW (.v (.slice none 0 0)) (.sf z []) := fun I u ⟨hu, _⟩ => ⟨none, hu, .inl (Eq.refl _)⟩
theorem DW.sff {z : Nat} {xs ys : List (List DV)} (h : DWRows xs ys) : DW (.sf z xs) (.sf z ys) := fun I u ⟨a, hu, hr⟩ => by
  refine ⟨a, by rw [← h.len]; exact hu, ?_⟩
  rcases hr with rfl | ⟨b, off, ha, hr⟩
  · left
    have := h.len
    exact List.eq_nil_of_length_eq_zero (by rw [← this]; rfl)
  · exact .inr ⟨b, off, ha, DRows_wk h hr⟩

/-- a full slice, read as any slice is -/
def low : AV → AV
  | .d x => match x with
    | .sf z xs => .d (.sl z xs)
    | x => .d x
  | x => x
theorem low_val {g : Gh} {x : AV} {u : Value} (h : Val g x u) : Val g (low x) u := by
  cases x with
  | d x =>
    cases x with
    | sf z xs => exact DW.sf _ _ h
    | _ => exact h
  | _ => exact h
end Ab

/- The evaluator of the frame 'Ab': what a function's code does to abstract values, as a proposition that is reckoned by unfolding. -/
namespace Ab
open Go

/-! ### Small words, made so that unfolding reckons them -/
def nth {α : Type} : List α → Nat → α → α
  | [], _, d => d
  | x :: xs, n, d => match n with | 0 => x | n + 1 => nth xs n d

def tk {α : Type} : Nat → List α → List α
  | 0, _ => []
  | _ + 1, [] => []
  | n + 1, x :: xs => x :: tk n xs

def dp {α : Type} : Nat → List α → List α
  | 0, xs => xs
  | _ + 1, [] => []
  | n + 1, _ :: xs => dp n xs

def ln {α : Type} : List α → Nat
  | [] => 0
  | _ :: xs => ln xs + 1

def ap {α : Type} : List α → List α → List α
  | [], ys => ys
  | x :: xs, ys => x :: ap xs ys

def mp1 {α β : Type} (f : α → β) : List α → List β
  | [] => []
  | x :: xs => f x :: mp1 f xs

def st {α : Type} : List α → Nat → α → List α
  | [], _, _ => []
  | x :: xs, n, v => match n with | 0 => v :: xs | n + 1 => x :: st xs n v

/-- cells ws over cells cs from a place on; none if they do not fit -/
def splice {α : Type} : List α → Nat → List α → Option (List α)
  | cs, 0, [] => some cs
  | [], _ + 1, _ => none
  | [], 0, _ :: _ => none
  | c :: cs, n + 1, ws => match splice cs n ws with | some r => some (c :: r) | none => none
  | _ :: cs, 0, w :: ws => match splice cs 0 ws with | some r => some (w :: r) | none => none

def hasN : List Nat → Nat → Bool
  | [], _ => false
  | x :: xs, n => match Nat.beq x n with | true => true | false => hasN xs n

def kq : IntKind → IntKind → Bool
  | .i8, .i8 | .i16, .i16 | .i32, .i32 | .i64, .i64 | .u8, .u8 | .u16, .u16 | .u32, .u32 | .u64, .u64 => true
  | _, _ => false

/-! ### The table of types -/
inductive TKind where
  | struct | slice | string | bool | int (k : IntKind) | iface | ptr | func | map | other

structure TI where
  kind : TKind := .other
  size : Nat := 1
  fs : List (Nat × Nat) := []
  elem : Nat := 0
  key : Nat := 0
  zero : List DV := []
  bytes : Nat := 8

abbrev Tab := List (Nat × TI)

def tg : Tab → Nat → TI
  | [], _ => { kind := .other, size := 0 }
  | (a, i) :: r, n => match Nat.beq a n with | true => i | false => tg r n

/-- z is the number of cells of an element of the slice type t -/
def eqz (τ : Tab) (t z : Nat) : Bool := match (tg τ (tg τ t).elem).size with | 0 => false | n + 1 => Nat.beq z (n + 1)

def TI.agg (i : TI) : Bool := match i.kind with | .struct => true | _ => false

/-! ### What stops the reckoning -/
structure Br (b : Bool) (p q : Prop) : Prop where
  t : b = true → p
  f : b = false → q
structure Rng (k : IntKind) (n : Int) (p : Prop) : Prop where
  lo : k.min ≤ n
  hi : n ≤ k.max
  k : p
structure Req (c : Prop) (p : Prop) : Prop where
  h : c
  k : p

/-- an operand's constant -/
def cv : Value → AV
  | .int k n => .d (.i k n)
  | .bool b => match b with | true => .tt | false => .ff
  | .string s => .d (.s s.data.toList)
  | .float k b => .d (.v (.float k b))
  | .complex k a b => .d (.v (.complex k a b))
  | .pointer a => .d (.v (.pointer a))
  | .slice a l c => .d (.v (.slice a l c))
  | .map r => .d (.v (.map r))
  | .chan r => .d (.v (.chan r))
  | .func f a b => .d (.v (.func f a b))
  | .nilFunc => .d (.v .nilFunc)
  | .iface t x => .d (.v (.iface t x))
  | .nilIface => .d (.v .nilIface)
  | .agg _ => .junk
  | .tuple _ => .junk

def evo (s : List AV) : Operand → AV
  | .tmp t => nth s t .junk
  | .const v => cv v
  | .global g => .d (.v (.pointer (some ⟨g, 0, none⟩)))
  | .func f => .fn f []

def cellsA : AV → List AV
  | .agg cs => cs
  | x => [x]

def boolOf : AV → Option Bool
  | .tt => some true
  | .ff => some false
  | .d (.b x) => some x
  | _ => none

/-! ### Forcing: the value in its outermost shape -/
def fD (x : DV) (k : DV → Prop) : Prop :=
  match x with
  | .i a n => k (.i a n)
  | .b c => k (.b c)
  | .s l => k (.s l)
  | .sl z xs => k (.sl z xs)
  | .sf z xs => k (.sf z xs)
  | .ifa t cs => k (.ifa t cs)
  | .if1 t y => k (.if1 t y)
  | .v u => k (.v u)

def fDs : List DV → (List DV → Prop) → Prop
  | [], k => k []
  | x :: xs, k => fD x fun x' => fDs xs fun xs' => k (x' :: xs')

/-- numbers and truth values, reckoned out -/
def fN : Nat → (Nat → Prop) → Prop
  | 0, k => k 0
  | n + 1, k => fN n fun m => k (m + 1)
def fB (b : Bool) (k : Bool → Prop) : Prop := match b with | true => k true | false => k false

mutual
def fA : AV → (AV → Prop) → Prop
  | .d x, k => fD x fun x' => k (.d x')
  | .tt, k => k .tt
  | .ff, k => k .ff
  | .row c v, k => fN v fun v' => k (.row c v')
  | .ptr n off, k => k (.ptr n off)
  | .da cs, k => fDs cs fun cs' => k (.da cs')
  | .ra c v z i off, k => k (.ra c v z i off)
  | .agg cs, k => fL cs fun cs' => k (.agg cs')
  | .tup cs, k => fL cs fun cs' => k (.tup cs')
  | .fn f cs, k => fL cs fun cs' => k (.fn f cs')
  | .ifc t x, k => fA x fun x' => k (.ifc t x')
  | .mp n, k => k (.mp n)
  | .und, k => k .und
  | .junk, k => k .junk
def fL : List AV → (List AV → Prop) → Prop
  | [], k => k []
  | x :: xs, k => fA x fun x' => fL xs fun xs' => k (x' :: xs')
end

def fO : Obj → (Obj → Prop) → Prop
  | .cells cs, k => fL cs fun cs' => k (.cells cs')
  | .row v s z xs, k => fN v fun v' => fB s fun s' => k (.row v' s' z xs)
  | .map t es, k => k (.map t es)
  | .dead, k => k .dead

def fOs : List Obj → (List Obj → Prop) → Prop
  | [], k => k []
  | x :: xs, k => fO x fun x' => fOs xs fun xs' => k (x' :: xs')

/-! ### Renaming of objects -/
/-- old number, new number, the version that counts, the version that it gets -/
abbrev Ren := List (Nat × Nat × Nat × Nat)

def rlook : Ren → Nat → Option (Nat × Nat × Nat)
  | [], _ => none
  | (k, r) :: rs, n => match Nat.beq k n with | true => some r | false => rlook rs n

mutual
def ren (R : Ren) : AV → AV
  | .d x => .d x
  | .tt => .tt
  | .ff => .ff
  | .row c v => match rlook R c with
    | some (c', vc, vn) => match Nat.beq v vc with | true => .row c' vn | false => .junk
    | none => .junk
  | .ptr k off => match rlook R k with
    | some (k', _, _) => .ptr k' off
    | none => .junk
  | .da cs => .da cs
  | .ra c v z i off => match rlook R c with
    | some (c', vc, vn) => match Nat.beq v vc with | true => .ra c' vn z i off | false => .junk
    | none => .junk
  | .agg cs => .agg (renL R cs)
  | .tup cs => .tup (renL R cs)
  | .fn f cs => .fn f (renL R cs)
  | .ifc t x => .ifc t (ren R x)
  | .mp k => match rlook R k with
    | some (k', _, _) => .mp k'
    | none => .junk
  | .und => .und
  | .junk => .junk
def renL (R : Ren) : List AV → List AV
  | [] => []
  | x :: xs => ren R x :: renL R xs
end

/-! ### Rows as data -/
/-- a row's whole contents, if the value is the row as it is -/
def rowOf (O : List Obj) (c v : Nat) : Option (Bool × Nat × List (List DV)) :=
  match nth O c .dead with
  | .row v' s z xs => match Nat.beq v v' with | true => some (s, z, xs) | false => none
  | _ => none

/- what is no more written: rows in it stand as data -/
mutual
def frz (O : List Obj) (keep : Nat → Bool) : AV → AV
  | .row c v => match keep c with
    | true => .row c v
    | false => match rowOf O c v with
      | some (_, z, xs) => .d (.sl z xs)
      | none => .junk
  | .agg cs => .agg (frzL O keep cs)
  | .tup cs => .tup (frzL O keep cs)
  | .ifc t x => .ifc t (frz O keep x)
  | .fn f cs => .fn f (frzL O keep cs)
  | .d x => .d x
  | .tt => .tt
  | .ff => .ff
  | .ptr k off => .ptr k off
  | .da cs => .da cs
  | .ra c v z i off => .ra c v z i off
  | .mp k => .mp k
  | .und => .und
  | .junk => .junk
def frzL (O : List Obj) (keep : Nat → Bool) : List AV → List AV
  | [] => []
  | x :: xs => frz O keep x :: frzL O keep xs
end

mutual
def rowsIn : AV → List Nat
  | .row c _ => [c]
  | .agg cs => rowsInL cs
  | .tup cs => rowsInL cs
  | .ifc _ x => rowsIn x
  | .fn _ cs => rowsInL cs
  | _ => []
def rowsInL : List AV → List Nat
  | [] => []
  | x :: xs => ap (rowsIn x) (rowsInL xs)
end

/-- these rows are not written into any more (they may still grow) -/
def still1 : List Obj → List Nat → Nat → List Obj
  | [], _, _ => []
  | o :: os, cs, n => (match o with
    | .row v s z xs => .row v (match hasN cs n with | true => false | false => s) z xs
    | o => o) :: still1 os cs (n + 1)

def still (O : List Obj) (cs : List Nat) : List Obj := still1 O cs 0

/- a value as data cells -/
mutual
def toD : AV → Option DV
  | .d x => some x
  | .tt => some (.b true)
  | .ff => some (.b false)
  | .ifc t x => match x with
    | .agg cs => match toDs cs with | some ds => some (.ifa t ds) | none => none
    | x => match toD x with | some d => some (.if1 t d) | none => none
  | _ => none
def toDs : List AV → Option (List DV)
  | [] => some []
  | x :: xs => match toD x with
    | some d => match toDs xs with | some ds => some (d :: ds) | none => none
    | none => none
end

/-- values as one element's cells each; the rows in them are still from then on -/
def dats (O : List Obj) (xs : List AV) : Option (List DV) := toDs (frzL O (fun _ => false) xs)

/-! ### Reading operations -/
def loadK (τ : Tab) (t : Nat) (cs : List AV) (k : AV → Prop) : Prop :=
  let i := tg τ t
  match i.size, Nat.ble i.size (ln cs) with
  | _ + 1, true => match i.agg with
    | true => k (.agg (tk i.size cs))
    | false => match tk i.size cs with
      | [c] => k c
      | _ => False
  | _, _ => False

def bitsOp (op : BinOp) (k : IntKind) (x y : Int) : Int :=
  let a := BitVec.ofInt k.bits x
  let b := BitVec.ofInt k.bits y
  match op with
  | .and => k.wrap (a &&& b).toNat
  | .or => k.wrap (a ||| b).toNat
  | .xor => k.wrap (a ^^^ b).toNat
  | _ => k.wrap (a &&& ~~~b).toNat

def intK (op : BinOp) (k : IntKind) (a b : Int) (K : AV → Prop) : Prop :=
  match op with
  | .add => Rng k (a + b) (K (.d (.i k (a + b))))
  | .sub => Rng k (a - b) (K (.d (.i k (a - b))))
  | .mul => Rng k (a * b) (K (.d (.i k (a * b))))
  | .quo => Req (b ≠ 0) (Rng k (a.tdiv b) (K (.d (.i k (a.tdiv b)))))
  | .rem => Req (b ≠ 0) (K (.d (.i k (a.tmod b))))
  | .and => K (.d (.i k (bitsOp .and k a b)))
  | .or => K (.d (.i k (bitsOp .or k a b)))
  | .xor => K (.d (.i k (bitsOp .xor k a b)))
  | .andNot => K (.d (.i k (bitsOp .andNot k a b)))
  | .eql => K (.d (.b (a == b)))
  | .neq => K (.d (.b (a != b)))
  | .lss => K (.d (.b (decide (a < b))))
  | .leq => K (.d (.b (decide (a ≤ b))))
  | .gtr => K (.d (.b (decide (a > b))))
  | .geq => K (.d (.b (decide (a ≥ b))))
  | _ => False

def strK (op : BinOp) (a b : List UInt8) (K : AV → Prop) : Prop :=
  match op with
  | .add => Req (a.length + b.length ≤ 9223372036854775807) (K (.d (.s (a ++ b))))
  | .eql => K (.d (.b (a == b)))
  | .neq => K (.d (.b (!(a == b))))
  | _ => False

/-- nil-ness of what may be compared with nil -/
def isNilI : AV → Option Bool
  | .d (.v .nilIface) => some true
  | .d (.v (.iface _ _)) => some false
  | .d (.ifa _ _) => some false
  | .d (.if1 _ _) => some false
  | .ifc _ _ => some false
  | _ => none
def isNilF : AV → Option Bool
  | .d (.v .nilFunc) => some true
  | .fn _ _ => some false
  | _ => none

def bAV : Bool → AV
  | true => .tt
  | false => .ff

def nilK (τ : Tab) (op : BinOp) (t : Nat) (x y : AV) (K : AV → Prop) : Prop :=
  match (tg τ t).kind, y with
  | .iface, .d (.v .nilIface) => match isNilI x with
    | some b => match op with
      | .eql => K (bAV b)
      | .neq => K (bAV (Bool.not b))
      | _ => False
    | none => False
  | .func, .d (.v .nilFunc) => match isNilF x with
    | some b => match op with
      | .eql => K (bAV b)
      | .neq => K (bAV (Bool.not b))
      | _ => False
    | none => False
  | _, _ => False

def boolK (τ : Tab) (op : BinOp) (t : Nat) (x y : AV) (K : AV → Prop) : Prop :=
  match (tg τ t).kind, boolOf x, boolOf y with
  | .bool, some a, some b => match op with
    | .eql => K (.d (.b (a == b)))
    | .neq => K (.d (.b (!(a == b))))
    | _ => False
  | _, _, _ => False

def constNil : Operand → Bool
  | .const .nilIface => true
  | .const .nilFunc => true
  | _ => false

def binK (τ : Tab) (op : BinOp) (t : Nat) (x y : AV) (K : AV → Prop) : Prop :=
  match x, y with
  | .d (.i k a), .d (.i k' b) => match kq k k' with
    | true => intK op k a b K
    | false => False
  | .d (.s a), .d (.s b) => strK op a b K
  | x, y => boolK τ op t x y K

/-! ### What may stand in a cell -/
def one1 : AV → Bool
  | .agg _ | .tup _ | .junk | .und => false
  | _ => true
def ones : List AV → Bool
  | [] => true
  | x :: xs => match one1 x with | true => ones xs | false => false

def okCells (x : AV) : Option (List AV) :=
  match ones (cellsA x) with
  | true => some (cellsA x)
  | false => none

def fillA (τ : Tab) (fs : List (Nat × Nat)) (e : Operand → AV) : List AV → List (Nat × Operand) → Option (List AV)
  | cells, [] => some cells
  | cells, (i, x) :: r =>
    match nth fs i (0, 0) with
    | (off, ft) => match Nat.blt i (ln fs) with
      | false => none
      | true => match okCells (e x) with
        | none => none
        | some [] => none
        | some (c :: cs) => match Nat.beq (ln (c :: cs)) (tg τ ft).size with
          | false => none
          | true => match splice cells off (c :: cs) with
            | some cells' => fillA τ fs e cells' r
            | none => none

/-- bytes of a row of bytes -/
def bytesOf : List (List DV) → Option (List UInt8)
  | [] => some []
  | [.i .u8 n] :: r => match bytesOf r with | some l => some (UInt8.ofNat n.toNat :: l) | none => none
  | _ :: _ => none

def intOf? : AV → Option Int
  | .d (.i _ n) => some n
  | _ => none

/-- a slice's bounds -/
def bndK (len : Nat) (lo hi : Option AV) (k : Nat → Nat → Prop) : Prop :=
  match lo, hi with
  | none, none => k 0 len
  | some l, none => match intOf? l with
    | some l => Req (0 ≤ l ∧ l ≤ len) (k l.toNat len)
    | none => False
  | none, some h => match intOf? h with
    | some h => Req (0 ≤ h ∧ h ≤ len) (k 0 h.toNat)
    | none => False
  | some l, some h => match intOf? l, intOf? h with
    | some l, some h => Req (0 ≤ l ∧ l ≤ h ∧ h ≤ len) (k l.toNat h.toNat)
    | _, _ => False

def omap {α β : Type} (f : α → β) : Option α → Option β
  | none => none
  | some x => some (f x)

def mkZero (i : TI) : AV := match i.agg with
  | true => .agg (mp1 .d i.zero)
  | false => match i.zero with
    | [c] => .d c
    | _ => .junk

def evK (τ : Tab) (o : Op) (e : Operand → AV) (O : List Obj) (K : AV → Prop) : Prop :=
  match o with
  | .move x => K (e x)
  | .assign x => K (e x)
  | .pick c a b => match e c with
    | .tt => K (e a)
    | .ff => K (e b)
    | .d (.b c) => match boolOf (e a), boolOf (e b) with
      | some x, some y => K (.d (.b (bif c then x else y)))
      | _, _ => False
    | _ => False
  | .build t parts => match (tg τ t).kind with
    | .struct => match fillA τ (tg τ t).fs e (mp1 .d (tg τ t).zero) parts.toList with
      | some cs => K (.agg cs)
      | none => False
    | _ => False
  | .load t a => match e a with
    | .ptr n off => match nth O n .dead with
      | .cells cs => loadK τ t (dp off cs) K
      | _ => False
    | .da cs => loadK τ t (mp1 .d cs) K
    | .ra c v z i off => match rowOf O c v with
      | some (_, z', xs) => match Nat.beq z z' with
        | true => ∃ r, xs[i]? = some r ∧ loadK τ t (mp1 .d (dp off r)) K
        | false => False
      | none => False
    | _ => False
  | .nilCheck x => match e x with
    | .ptr n off => K (.ptr n off)
    | .da cs => K (.da cs)
    | .ra c v z i off => K (.ra c v z i off)
    | .fn f cs => K (.fn f cs)
    | _ => False
  | .binOp op t x y _ => match constNil y with
    | true => nilK τ op t (e x) (e y) K
    | false => binK τ op t (e x) (e y) K
  | .unOp op _ x => match op with
    | .not => match e x with
      | .tt => K .ff
      | .ff => K .tt
      | .d (.b c) => K (.d (.b (!c)))
      | _ => False
    | .neg => match e x with
      | .d (.i k n) => Rng k (0 - n) (K (.d (.i k (0 - n))))
      | _ => False
    | _ => False
  | .convert src dst x => match (tg τ dst).kind with
    | .int k => match (tg τ src).kind, e x with
      | .other, _ => False
      | _, .d (.i _ n) => Rng k n (K (.d (.i k n)))
      | _, _ => False
    | .string => match (tg τ src).kind with
      | .string => match e x with
        | .d (.s l) => K (.d (.s l))
        | _ => False
      | .slice => match (tg τ (tg τ src).elem).kind with
        | .int .u8 => match low (e x) with
          | .d (.sl 1 xs) => match bytesOf xs with
            | some l => K (.d (.s l))
            | none => False
          | .row c v => match rowOf O c v with
            | some (_, 1, xs) => match bytesOf xs with
              | some l => K (.d (.s l))
              | none => False
            | _ => False
          | _ => False
        | _ => False
      | _ => False
    | _ => False
  | .fieldAddr s x f => match Nat.blt f (ln (tg τ s).fs), (tg τ s).kind with
    | true, .struct => match nth (tg τ s).fs f (0, 0) with
      | (fo, ft) => match (tg τ ft).size with
        | 0 => False
        | _ + 1 => match e x with
          | .ptr n off => K (.ptr n (off + fo))
          | .da cs => K (.da (dp fo cs))
          | .ra c v z i off => K (.ra c v z i (off + fo))
          | _ => False
    | _, _ => False
  | .field s x f => match Nat.blt f (ln (tg τ s).fs), (tg τ s).kind with
    | true, .struct => match nth (tg τ s).fs f (0, 0) with
      | (fo, ft) => match e x with
        | .agg cs => loadK τ ft (dp fo cs) K
        | _ => False
    | _, _ => False
  | .indexAddr t x ix => match (tg τ t).kind, intOf? (e ix) with
    | .slice, some n => match low (e x) with
      | .d (.sl z xs) => match eqz τ t z with
        | true => Req (0 ≤ n) (∃ r, xs[n.toNat]? = some r ∧ fDs r fun r' => K (.da r'))
        | false => False
      | .row c v => match rowOf O c v with
        | some (_, z, xs) => match eqz τ t z with
          | true => Req (0 ≤ n ∧ n < xs.length) (K (.ra c v z n.toNat 0))
          | false => False
        | none => False
      | _ => False
    | _, _ => False
  | .index t x ix => match (tg τ t).kind, intOf? (e ix) with
    | .string, some n => match e x with
      | .d (.s l) => Req (0 ≤ n) (∃ c, l[n.toNat]? = some c ∧ K (.d (.i .u8 c.toNat)))
      | _ => False
    | _, _ => False
  | .slice t x lo hi mx => match mx with
    | some _ => False
    | none => match (tg τ t).kind with
      | .string => match e x with
        | .d (.s l) => bndK l.length (omap e lo) (omap e hi) fun a b => K (.d (.s ((l.take b).drop a)))
        | _ => False
      | _ => False
  | .extract x n => match e x with
    | .tup vs => match Nat.blt n (ln vs) with
      | true => K (nth vs n .junk)
      | false => False
    | _ => False
  | .call c => match c.callee, c.args.toList, c.argTypes.toList with
    | .builtin .len, [x], [t] => match (tg τ t).kind, low (e x) with
      | .slice, .d (.sl _ xs) => K (.d (.i .i64 xs.length))
      | .slice, .row c v => match rowOf O c v with
        | some (_, _, xs) => K (.d (.i .i64 xs.length))
        | none => False
      | .slice, .d (.v (.slice none 0 0)) => K (.d (.i .i64 0))
      | .string, .d (.s l) => K (.d (.i .i64 l.length))
      | _, _ => False
    | _, _, _ => False
  | .makeInterface t x => match (tg τ t).kind with
    | .iface => False
    | .other => False
    | _ => K (.ifc t (e x))
  | .makeFunc f first caps => match f, first.toList with
    | .func f, [] => K (.fn f (mp1 e caps.toList))
    | _, _ => False
  | .typeAssert x _ t ok => match (tg τ t).kind, ok with
    | .iface, _ => False
    | .other, _ => False
    | _, true => match e x with
      | .ifc u y => match Nat.beq u t with
        | true => K (.tup [y, .tt])
        | false => K (.tup [mkZero (tg τ t), .ff])
      | .d (.ifa u cs) => match Nat.beq u t with
        | true => K (.tup [.agg (mp1 .d cs), .tt])
        | false => K (.tup [mkZero (tg τ t), .ff])
      | .d (.v .nilIface) => K (.tup [mkZero (tg τ t), .ff])
      | _ => False
    | _, false => match e x with
      | .ifc u y => match Nat.beq u t with
        | true => K y
        | false => False
      | .d (.ifa u cs) => match Nat.beq u t with
        | true => K (.agg (mp1 .d cs))
        | false => False
      | _ => False
  | _ => False
end Ab

/- The evaluator of the frame 'Ab', its second half: what writes or makes memory, calls, regions, code. -/
namespace Ab
open Go

abbrev Spec := List AV → List Obj → (AV → List Obj → Prop) → Prop
structure FS where
  byRef : List Nat := []
  spec : Spec
abbrev Ctx := List (Nat × FS)

def cl : Ctx → Nat → Option FS
  | [], _ => none
  | (a, x) :: r, n => match Nat.beq a n with | true => some x | false => cl r n

/-! ### Forced writes -/
def stK {α : Type} : List α → Nat → α → (List α → Prop) → Prop
  | [], _, _, k => k []
  | x :: xs, n, v, k => match n with
    | 0 => k (v :: xs)
    | n + 1 => stK xs n v fun ys => k (x :: ys)

def apK {α : Type} : List α → List α → (List α → Prop) → Prop
  | [], ys, k => k ys
  | x :: xs, ys, k => apK xs ys fun zs => k (x :: zs)

def fS {α : Type} : List α → (List α → Prop) → Prop
  | [], k => k []
  | x :: xs, k => fS xs fun ys => k (x :: ys)

def putK (s : List AV) (d : Option Nat) (x : AV) (k : List AV → Prop) : Prop :=
  match d with
  | none => k s
  | some n => stK s n x k

/-! ### Calls -/
def ver (O : List Obj) (k : Nat) : Nat :=
  match nth O k .dead with
  | .row v _ _ _ => v
  | _ => 0

def good (O : List Obj) (c v : Nat) : Bool :=
  match rowOf O c v with
  | some _ => true
  | none => false

mutual
def refs (O : List Obj) : AV → List Nat
  | .row c v => match good O c v with | true => [c] | false => []
  | .ra c v _ _ _ => match good O c v with | true => [c] | false => []
  | .ptr k _ => [k]
  | .mp k => [k]
  | .agg cs => refsL O cs
  | .tup cs => refsL O cs
  | .fn _ cs => refsL O cs
  | .ifc _ x => refs O x
  | _ => []
def refsL (O : List Obj) : List AV → List Nat
  | [] => []
  | x :: xs => ap (refs O x) (refsL O xs)
end

def refsE (O : List Obj) : List (DV × List AV) → List Nat
  | [] => []
  | (_, x) :: r => ap (refsL O x) (refsE O r)

def refsO (O : List Obj) : Obj → List Nat
  | .cells cs => refsL O cs
  | .map _ es => refsE O es
  | _ => []

/-- all objects that are reached, in the order in which they are met -/
def bfs (O : List Obj) : Nat → List Nat → List Nat → List Nat
  | 0, _, seen => seen
  | _ + 1, [], seen => seen
  | n + 1, k :: q, seen => match hasN seen k with
    | true => bfs O n q seen
    | false => match Nat.blt k (ln O) with
      | true => bfs O n (ap q (refsO O (nth O k .dead))) (ap seen [k])
      | false => bfs O n q seen

def renE (R : Ren) : List (DV × List AV) → List (DV × List AV)
  | [] => []
  | (a, x) :: r => (a, renL R x) :: renE R r

def renO (R : Ren) (v : Nat) : Obj → Obj
  | .cells cs => .cells (renL R cs)
  | .row _ s z xs => .row v s z xs
  | .map t es => .map t es
  | .dead => .dead

def mkR (O : List Obj) : List Nat → Nat → Ren
  | [], _ => []
  | k :: p, i => (k, i, ver O k, 0) :: mkR O p (i + 1)

def subO (R : Ren) (O : List Obj) : List Nat → List Obj
  | [] => []
  | k :: p => renO R 0 (nth O k .dead) :: subO R O p

/-- the callee's objects back among the caller's: number i is p[i], or a new one -/
def backV (O : List Obj) (k v : Nat) : Nat := match v with | 0 => ver O k | _ + 1 => ver O k + 1

def vO : Obj → Nat
  | .row v _ _ _ => v
  | _ => 0

def mkB (O : List Obj) (n : Nat) : List Obj → List Nat → Nat → Ren
  | [], _, _ => []
  | o :: os, [], i => (i, n, vO o, vO o) :: mkB O (n + 1) os [] (i + 1)
  | o :: os, k :: p, i => (i, k, vO o, backV O k (vO o)) :: mkB O n os p (i + 1)

def mergeO (R : Ren) (O : List Obj) : List Obj → List Nat → List Obj → List Obj
  | acc, _, [] => acc
  | acc, [], o :: os => mergeO R O (ap acc [renO R (vO o) o]) [] os
  | acc, k :: p, o :: os => mergeO R O (st acc k (renO R (backV O k (vO o)) o)) p os

/-- the arguments: rows as data, but where the callee takes them as they are -/
def frzArgs (O : List Obj) (by_ : List Nat) : List AV → Nat → List AV
  | [], _ => []
  | x :: xs, i => (match hasN by_ i with | true => x | false => frz O (fun _ => false) x) :: frzArgs O by_ xs (i + 1)

def frzRows (by_ : List Nat) : List AV → Nat → List Nat
  | [], _ => []
  | x :: xs, i => ap (match hasN by_ i with | true => [] | false => rowsIn x) (frzRows by_ xs (i + 1))

def callK (Γ : Ctx) (f : Nat) (args : List AV) (O : List Obj) (K : AV → List Obj → Prop) : Prop :=
  match cl Γ f with
  | none => False
  | some fs =>
    fOs (still O (frzRows fs.byRef args 0)) fun O1 =>
    fL (frzArgs O fs.byRef args 0) fun args1 =>
    fS (bfs O1 200 (refsL O1 args1) []) fun p =>
    fL (renL (mkR O1 p 0) args1) fun A =>
    fOs (subO (mkR O1 p 0) O1 p) fun X =>
    ∃ A' X', WkL A A' ∧ WkOs X X' ∧ fs.spec A' X' fun r Oc =>
      Req (ln p ≤ ln Oc) (
      fA (ren (mkB O1 (ln O1) Oc p 0) r) fun r' =>
      fOs (mergeO (mkB O1 (ln O1) Oc p 0) O1 O1 p Oc) fun O' =>
      K r' O')

/-! ### Operations that write or make memory -/
def isEff (τ : Tab) : Op → Bool
  | .alloc _ | .box _ _ | .buildSlice _ _ _ | .store _ _ _ => true
  | .slice t _ _ _ _ => match (tg τ t).kind with | .string => false | _ => true
  | .call c => match c.callee with | .builtin .len => false | _ => true
  | _ => false

def reps {α : Type} : Nat → α → List α
  | 0, _ => []
  | n + 1, x => x :: reps n x

def fillR (O : List Obj) (e : Operand → AV) (z : Nat) : List (List DV) → List (Nat × Operand) → Option (List (List DV))
  | rows, [] => some rows
  | rows, (i, x) :: r => match Nat.blt i (ln rows) with
    | false => none
    | true => match Nat.beq (ln (cellsA (e x))) z with
      | false => none
      | true => match dats O (cellsA (e x)) with
        | some ds => fillR O e z (st rows i ds) r
        | none => none

def rowsParts (e : Operand → AV) : List (Nat × Operand) → List Nat
  | [] => []
  | (_, x) :: r => ap (rowsIn (e x)) (rowsParts e r)

def fRows : List (List DV) → (List (List DV) → Prop) → Prop
  | [], k => k []
  | x :: xs, k => fDs x fun x' => fRows xs fun xs' => k (x' :: xs')

def byteRows : List UInt8 → List (List DV)
  | [] => []
  | c :: l => [.i .u8 c.toNat] :: byteRows l

/-- the elements of what is appended -/
def elemsOf (O : List Obj) (z : Nat) (x : AV) : Option (List (List DV)) :=
  match low x with
  | .d (.sl z' xs) => match Nat.beq z z' with | true => some xs | false => none
  | .d (.v (.slice none 0 0)) => some []
  | .row c v => match rowOf O c v with
    | some (_, z', xs) => match Nat.beq z z' with | true => some xs | false => none
    | none => none
  | _ => none

def maxRow : Nat := 68719476736

def appK (τ : Tab) (t : Nat) (s x : AV) (O : List Obj) (K : AV → List Obj → Prop) : Prop :=
  match (tg τ t).kind, (tg τ (tg τ t).elem).size with
  | .slice, _ + 1 =>
    match elemsOf O (tg τ (tg τ t).elem).size x with
    | none => False
    | some ys => match s with
      | .row c v => match rowOf O c v with
        | some (s, z, xs) => match eqz τ t z with
          | true => Req (xs.length + ys.length ≤ maxRow) (stK O c (.row (v + 1) s z (xs ++ ys)) fun O' => K (.row c (v + 1)) O')
          | false => False
        | none => False
      | .d (.sf z xs) => match eqz τ t z with
        | true => Req ((xs.length = 0 ∨ 0 < ys.length) ∧ xs.length + ys.length ≤ maxRow) (apK O [.row 0 true z (xs ++ ys)] fun O' => K (.row (ln O) 0) O')
        | false => False
      | .d (.v (.slice none 0 0)) => Req (ys.length ≤ maxRow) (apK O [.row 0 true (tg τ (tg τ t).elem).size ys] fun O' => K (.row (ln O) 0) O')
      | _ => False
  | _, _ => False

/-- a string's bytes are appended -/
def appS (τ : Tab) (t u : Nat) (s x : AV) (O : List Obj) (K : AV → List Obj → Prop) : Prop :=
  match (tg τ t).kind, (tg τ u).kind, (tg τ (tg τ t).elem).size with
  | .slice, .string, 1 => match x with
    | .d (.s bs) => match s with
      | .row c v => match rowOf O c v with
        | some (s, z, xs) => match eqz τ t z with
          | true => Req (xs.length + bs.length ≤ maxRow) (stK O c (.row (v + 1) s z (xs ++ byteRows bs)) fun O' => K (.row c (v + 1)) O')
          | false => False
        | none => False
      | .d (.v (.slice none 0 0)) => Req (bs.length ≤ maxRow) (apK O [.row 0 true 1 (byteRows bs)] fun O' => K (.row (ln O) 0) O')
      | _ => False
    | _ => False
  | _, _, _ => False

/-- the zero of a builder: a pointer, a slice -/
def isBld : List DV → Bool
  | [.v (.pointer none), .v (.slice none 0 0)] => true
  | _ => false

def effK (τ : Tab) (Γ : Ctx) (o : Op) (e : Operand → AV) (O : List Obj) (K : AV → List Obj → Prop) : Prop :=
  match o with
  | .box _ x => match okCells (e x) with
    | some cs => fL cs fun cs' => apK O [.cells cs'] fun O' => K (.ptr (ln O) 0) O'
    | none => False
  | .alloc t => match (tg τ t).kind with
    | .other => False
    | _ => match ones (mp1 .d (tg τ t).zero) with
      | true => match isBld (tg τ t).zero with
        | true => apK O [.map t []] fun O' => K (.ptr (ln O) 0) O'
        | false => fL (mp1 .d (tg τ t).zero) fun cs => apK O [.cells cs] fun O' => K (.ptr (ln O) 0) O'
      | false => False
  | .buildSlice t n parts => match (tg τ t).kind, (tg τ (tg τ t).elem).size with
    | .slice, _ + 1 => match Nat.ble (n * (tg τ (tg τ t).elem).size) 16777216 with
      | true => match fillR O e (tg τ (tg τ t).elem).size (reps n (tg τ (tg τ t).elem).zero) parts.toList with
        | some xs => fRows xs fun xs' => fOs (still O (rowsParts e parts.toList)) fun O1 => K (.d (.sf (tg τ (tg τ t).elem).size xs')) O1 ∨ apK O1 [.row 0 true (tg τ (tg τ t).elem).size xs'] fun O' => K (.row (ln O) 0) O'
        | none => False
      | false => False
    | _, _ => False
  | .store t a x => match okCells (e x) with
    | none => False
    | some ws => match Nat.beq (ln ws) (tg τ t).size, (tg τ t).size with
      | false, _ => False
      | true, 0 => False
      | true, _ + 1 => match e a with
        | .ptr n off => match nth O n .dead with
          | .cells cs => match splice cs off ws with
            | some cs' => stK O n (.cells cs') fun O' => K .junk O'
            | none => False
          | _ => False
        | .ra c v z i off => match rowOf O c v with
          | some (true, z', xs) => match Nat.beq z z' with
            | true => match dats O ws, hasN (rowsInL ws) c with
              | some ds, false => ∃ r, xs[i]? = some r ∧ fDs r fun r' => match splice r' off ds with
                | some r2 => fOs (still O (rowsInL ws)) fun O1 => stK O1 c (.row v true z (xs.set i r2)) fun O' => K .junk O'
                | none => False
              | _, _ => False
            | false => False
          | _ => False
        | _ => False
  | .slice t x lo hi mx => match mx, (tg τ t).kind with
    | none, .slice => match low (e x) with
      | .d (.sl z xs) => match eqz τ t z with
        | true => bndK xs.length (omap e lo) (omap e hi) fun a b => K (.d (.sl z ((xs.take b).drop a))) O
        | false => False
      | .row c v => match rowOf O c v with
        | some (s, z, xs) => match eqz τ t z with
          | true => bndK xs.length (omap e lo) (omap e hi) fun a b => (fOs (still O [c]) fun O' => K (.d (.sl z ((xs.take b).drop a))) O') ∨
              (match s, lo with
               | true, none => stK O c (.row (v + 1) true z (xs.take b)) fun O' => K (.row c (v + 1)) O'
               | _, _ => False)
          | false => False
        | none => False
      | _ => False
    | _, _ => False
  | .call c => match c.callee with
    | .builtin .append => match c.args.toList, c.argTypes.toList with
      | [s, x], [t, u] => match Nat.beq t u with
        | true => appK τ t (e s) (e x) O K
        | false => appS τ t u (e s) (e x) O K
      | _, _ => False
    | .value f => match e f with
      | .fn n caps => callK Γ n (ap (mp1 e c.args.toList) caps) O K
      | _ => False
    | _ => False
  | _ => False

def opK (τ : Tab) (Γ : Ctx) (o : Op) (e : Operand → AV) (O : List Obj) (K : AV → List Obj → Prop) : Prop :=
  match isEff τ o with
  | true => effK τ Γ o e O fun v O' => fA v fun v' => K v' O'
  | false => evK τ o e O fun v => fA v fun v' => K v' O

def upto : Nat → Nat → List Nat
  | 0, _ => []
  | n + 1, i => i :: upto n (i + 1)

/-! ### Regions -/
def noOper : Oper := { dst := none, op := .move (.const undef), type := 0, pos := "", after := #[], guard := none }

def oneB : Value → Bool
  | .bool _ => true
  | _ => false

/-- whether an operation is wanted: by what its guard's slot holds, which then is known -/
def gdK (all : List Oper) (s : List AV) (o : Oper) (k : Bool → List AV → Prop) : Prop :=
  match o.guard with
  | none => k true s
  | some (j, want) => match Nat.blt j (ln all) with
    | false => False
    | true => match (nth all j noOper).dst with
      | none => False
      | some d => match nth s d .junk with
        | .und => k false s
        | .tt => k want s
        | .ff => k (Bool.not want) s
        | .d (.b x) => Br x (stK s d .tt fun s' => k want s') (stK s d .ff fun s' => k (Bool.not want) s')
        | .d (.v u) => match oneB u with
          | true => False
          | false => k false s
        | _ => False

/- (by the list's own recursor: what is left of a region then stands in one form, for Lean and for the kernel) -/
def opsG (τ : Tab) (Γ : Ctx) (all : List Oper) (ops : List Oper) : List AV → List Obj → (List AV → List Obj → Prop) → Prop :=
  List.rec (motive := fun _ => List AV → List Obj → (List AV → List Obj → Prop) → Prop) (fun s O K => K s O)
    (fun o _ ih s O K => gdK all s o fun w s => match w with
      | true => opK τ Γ o.op (evo s) O fun v O' => putK s o.dst v fun s' => ih s' O' K
      | false => putK s o.dst .und fun s' => ih s' O K) ops
theorem opsG_nil {τ : Tab} {Γ : Ctx} {all : List Oper} {s : List AV} {O : List Obj} {K : List AV → List Obj → Prop} : opsG τ Γ all [] s O K = K s O := rfl
theorem opsG_cons {τ : Tab} {Γ : Ctx} {all : List Oper} {o : Oper} {os : List Oper} {s : List AV} {O : List Obj} {K : List AV → List Obj → Prop} :
    opsG τ Γ all (o :: os) s O K = gdK all s o fun w s => match w with
      | true => opK τ Γ o.op (evo s) O fun v O' => putK s o.dst v fun s' => opsG τ Γ all os s' O' K
      | false => putK s o.dst .und fun s' => opsG τ Γ all os s' O K := rfl

/-! ### A region that draws its order -/
def after1 (e : List Edge) : List Nat :=
  match e with
  | [] => []
  | x :: xs => match Region.binds .any x with | true => x.on :: after1 xs | false => after1 xs

def uni : List Nat → List Nat → List Nat
  | [], ys => ys
  | x :: xs, ys => match hasN ys x with | true => uni xs ys | false => uni xs (x :: ys)

/-- all that these come behind, themselves with it -/
def close (acc : List (List Nat)) : List Nat → List Nat
  | [] => []
  | j :: js => uni (j :: nth acc j []) (close acc js)

/-- of each operation, all that come ahead of it (also by way of others) -/
def preds : List Oper → List (List Nat) → List (List Nat)
  | [], acc => acc
  | o :: os, acc => preds os (ap acc [close acc (after1 o.after.toList)])

def allIn (D : List Nat) : List Nat → Bool
  | [] => true
  | j :: js => match hasN D j with | true => allIn D js | false => false

/-- a list whose elements are data, as data -/
def litK (τ : Tab) (t n : Nat) (parts : Array (Nat × Operand)) (e : Operand → AV) (K : AV → Prop) : Prop :=
  match (tg τ t).kind, (tg τ (tg τ t).elem).size with
  | .slice, _ + 1 => match Nat.ble (n * (tg τ (tg τ t).elem).size) 16777216 with
    | true => match fillR [] e (tg τ (tg τ t).elem).size (reps n (tg τ (tg τ t).elem).zero) parts.toList with
      | some xs => fRows xs fun xs' => K (.d (.sf (tg τ (tg τ t).elem).size xs'))
      | none => False
    | false => False
  | _, _ => False

/-- a part of a list that is data -/
def sliceD (τ : Tab) (t : Nat) (x : Operand) (lo hi mx : Option Operand) (e : Operand → AV) (K : AV → Prop) : Prop :=
  match mx, (tg τ t).kind with
  | none, .slice => match low (e x) with
    | .d (.sl z xs) => match eqz τ t z with
      | true => bndK xs.length (omap e lo) (omap e hi) fun a b => K (.d (.sl z ((xs.take b).drop a)))
      | false => False
    | _ => False
  | _, _ => False

/-- with the mark set, new lists of data, and parts of such, count as what only reads -/
def isEffD (τ : Tab) (lt : Bool) (o : Op) : Bool :=
  match lt with
  | false => isEff τ o
  | true => match o with
    | .buildSlice _ _ _ => false
    | .slice _ _ _ _ _ => false
    | o => isEff τ o

def evKD (τ : Tab) (lt : Bool) (o : Op) (e : Operand → AV) (O : List Obj) (K : AV → Prop) : Prop :=
  match lt with
  | false => evK τ o e O K
  | true => match o with
    | .buildSlice t n parts => litK τ t n parts e K
    | .slice t x lo hi mx => match (tg τ t).kind with
      | .string => evK τ (.slice t x lo hi mx) e O K
      | _ => sliceD τ t x lo hi mx e K
    | o => evK τ o e O K

def opKD (τ : Tab) (lt : Bool) (Γ : Ctx) (o : Op) (e : Operand → AV) (O : List Obj) (K : AV → List Obj → Prop) : Prop :=
  match isEffD τ lt o with
  | true => effK τ Γ o e O fun v O' => fA v fun v' => K v' O'
  | false => evKD τ lt o e O fun v => fA v fun v' => K v' O

/-- memory that is taken with no condition: it may be taken at any time -/
def isAl (τ : Tab) (o : Oper) : Bool :=
  match o.guard, o.op with
  | none, .alloc t => match (tg τ t).kind with
    | .other => false
    | _ => not (isBld (tg τ t).zero)
  | _, _ => false

/-- 0: it only reads; 1: it has an effect; 2: it takes memory -/
def cls (τ : Tab) (lt : Bool) (o : Oper) : Nat :=
  match isEffD τ lt o.op with
  | false => 0
  | true => match isAl τ o with | true => 2 | false => 1

/-- the next operation of a class -/
def next1 (τ : Tab) (lt : Bool) (c : Nat) (D : List Nat) : List Oper → List (List Nat) → Nat → Option Nat
  | o :: os, p :: ps, i => match hasN D i with
    | true => next1 τ lt c D os ps (i + 1)
    | false => match allIn D p with
      | false => next1 τ lt c D os ps (i + 1)
      | true => match Nat.beq (cls τ lt o) c with
        | true => some i
        | false => next1 τ lt c D os ps (i + 1)
  | _, _, _ => none

def mkOrd (τ : Tab) (lt : Bool) (ops : List Oper) (ps : List (List Nat)) : Nat → List Nat → List Nat
  | 0, _ => []
  | n + 1, D => match next1 τ lt 0 D ops ps 0 with
    | some i => i :: mkOrd τ lt ops ps n (i :: D)
    | none => match next1 τ lt 1 D ops ps 0 with
      | some i => i :: mkOrd τ lt ops ps n (i :: D)
      | none => match next1 τ lt 2 D ops ps 0 with
        | some i => i :: mkOrd τ lt ops ps n (i :: D)
        | none => []

/-- each operation once; all effects ahead of one in this order must come ahead of it anyhow, but where it takes memory; and what comes ahead of it comes ahead of it in this order -/
def ordOk (τ : Tab) (lt : Bool) (ops : List Oper) (ps : List (List Nat)) : List Nat → List Nat → List Nat → Bool
  | D, _, [] => allIn D (upto (ln ops) 0)
  | D, E, i :: r => match Nat.blt i (ln ops), hasN D i with
    | true, false => match (match isAl τ (nth ops i noOper) with | true => true | false => allIn (nth ps i []) E), allIn D (nth ps i []) with
      | true, true => ordOk τ lt ops ps (i :: D) (match isEffD τ lt (nth ops i noOper).op with | true => i :: E | false => E) r
      | _, _ => false
    | _, _ => false

/-- each slot is written by one operation, and is there -/
def dstOk (n : Nat) : List Oper → List Nat → Bool
  | [], _ => true
  | o :: os, T => match o.dst with
    | none => dstOk n os T
    | some d => match Nat.blt d n, hasN T d with
      | true, false => dstOk n os (d :: T)
      | _, _ => false

/-- the slots that the operations write that are not among these -/
def outs : List Oper → List Nat → Nat → List Nat
  | [], _, _ => []
  | o :: os, D, i => match o.dst with
    | none => outs os D (i + 1)
    | some d => match hasN D i with | true => outs os D (i + 1) | false => d :: outs os D (i + 1)

/-- the slots that operations behind this one write: they hold what they held at the region's start -/
def sucs : List Oper → List (List Nat) → Nat → List Nat
  | o :: os, p :: ps, i => match hasN p i with
    | true => (match o.dst with | some d => d :: sucs os ps i | none => sucs os ps i)
    | false => sucs os ps i
  | _, _, _ => []

/-- an operand, if the slots M are not known, and those of N hold what they held at the start (s0) -/
def evm (N M : List Nat) (s0 s : List AV) (x : Operand) : AV :=
  match x with
  | .tmp t => match hasN N t with
    | true => nth s0 t .junk
    | false => match hasN M t with | true => .junk | false => nth s t .junk
  | .const v => cv v
  | .global g => .d (.v (.pointer (some ⟨g, 0, none⟩)))
  | .func f => .fn f []

def isLoad : Op → Bool
  | .load _ _ | .indexAddr _ _ _ | .convert _ _ _ | .call _ => true
  | _ => false

/-- whether an operation is wanted; what the guard's slot holds then is known; p: what comes ahead of it -/
def gdD (all : List Oper) (p : List Nat) (s : List AV) (o : Oper) (k : Bool → List AV → Prop) : Prop :=
  match o.guard with
  | none => k true s
  | some (j, want) => match Nat.blt j (ln all), hasN p j with
    | true, true => match (nth all j noOper).dst with
      | none => False
      | some d => match nth s d .junk with
        | .und => k false s
        | .tt => k want s
        | .ff => k (Bool.not want) s
        | .d (.b x) => Br x (stK s d .tt fun s' => k want s') (stK s d .ff fun s' => k (Bool.not want) s')
        | .d (.v u) => match oneB u with
          | true => False
          | false => k false s
        | _ => False
    | _, _ => False

/-- what was read reads so still -/
def again (τ : Tab) (lt : Bool) (s0 : List AV) (ops : List Oper) (ps : List (List Nat)) (i : Nat) (s : List AV) (O : List Obj) (D : List Nat) (K : Prop) : Prop :=
  List.rec (motive := fun _ => Prop) K
    (fun j _ ih => match isLoad (nth ops j noOper).op, isEffD τ lt (nth ops j noOper).op, hasN (nth ps i []) j with
      | true, false, false => match (nth ops j noOper).dst with
        | none => False
        | some d => Req (gdD ops (nth ps j []) s (nth ops j noOper) fun w s1 => match w with
            | true => fS (sucs ops ps j) fun N => fS (outs ops (nth ps j []) 0) fun M => evKD τ lt (nth ops j noOper).op (evm N M s0 s1) O (fun v => fA v fun v' => Wk v' (nth s d .junk))
            | false => nth s d .junk = .und) ih
      | _, _, _ => ih) D
theorem again_nil {τ : Tab} {lt : Bool} {s0 : List AV} {ops : List Oper} {ps : List (List Nat)} {i : Nat} {s : List AV} {O : List Obj} {K : Prop} : again τ lt s0 ops ps i s O [] K = K := rfl
theorem again_cons {τ : Tab} {lt : Bool} {s0 : List AV} {ops : List Oper} {ps : List (List Nat)} {i j : Nat} {s : List AV} {O : List Obj} {D : List Nat} {K : Prop} : again τ lt s0 ops ps i s O (j :: D) K =
    match isLoad (nth ops j noOper).op, isEffD τ lt (nth ops j noOper).op, hasN (nth ps i []) j with
      | true, false, false => match (nth ops j noOper).dst with
        | none => False
        | some d => Req (gdD ops (nth ps j []) s (nth ops j noOper) fun w s1 => match w with
            | true => fS (sucs ops ps j) fun N => fS (outs ops (nth ps j []) 0) fun M => evKD τ lt (nth ops j noOper).op (evm N M s0 s1) O (fun v => fA v fun v' => Wk v' (nth s d .junk))
            | false => nth s d .junk = .und) (again τ lt s0 ops ps i s O D K)
      | _, _, _ => again τ lt s0 ops ps i s O D K := rfl

def opsD (τ : Tab) (lt : Bool) (s0 : List AV) (Γ : Ctx) (ops : List Oper) (ps : List (List Nat)) (r : List Nat) : List Nat → List AV → List Obj → (List AV → List Obj → Prop) → Prop :=
  List.rec (motive := fun _ => List Nat → List AV → List Obj → (List AV → List Obj → Prop) → Prop) (fun _ s O K => K s O)
    (fun i _ ih D s O K => gdD ops (nth ps i []) s (nth ops i noOper) fun w s => match w with
      | true => fS (sucs ops ps i) fun N => fS (outs ops (nth ps i []) 0) fun M => opKD τ lt Γ (nth ops i noOper).op (evm N M s0 s) O fun v O' => putK s (nth ops i noOper).dst v fun s' =>
          match isEffD τ lt (nth ops i noOper).op with
          | true => again τ lt s0 ops ps i s' O' D (ih (i :: D) s' O' K)
          | false => ih (i :: D) s' O' K
      | false => putK s (nth ops i noOper).dst .und fun s' => ih (i :: D) s' O K) r
theorem opsD_nil {τ : Tab} {lt : Bool} {s0 : List AV} {Γ : Ctx} {ops : List Oper} {ps : List (List Nat)} {D : List Nat} {s : List AV} {O : List Obj} {K : List AV → List Obj → Prop} : opsD τ lt s0 Γ ops ps [] D s O K = K s O := rfl
theorem opsD_cons {τ : Tab} {lt : Bool} {s0 : List AV} {Γ : Ctx} {ops : List Oper} {ps : List (List Nat)} {i : Nat} {r D : List Nat} {s : List AV} {O : List Obj} {K : List AV → List Obj → Prop} :
    opsD τ lt s0 Γ ops ps (i :: r) D s O K = gdD ops (nth ps i []) s (nth ops i noOper) fun w s => match w with
      | true => fS (sucs ops ps i) fun N => fS (outs ops (nth ps i []) 0) fun M => opKD τ lt Γ (nth ops i noOper).op (evm N M s0 s) O fun v O' => putK s (nth ops i noOper).dst v fun s' =>
          match isEffD τ lt (nth ops i noOper).op with
          | true => again τ lt s0 ops ps i s' O' D (opsD τ lt s0 Γ ops ps r (i :: D) s' O' K)
          | false => opsD τ lt s0 Γ ops ps r (i :: D) s' O' K
      | false => putK s (nth ops i noOper).dst .und fun s' => opsD τ lt s0 Γ ops ps r (i :: D) s' O K := rfl

def fNs : List (List Nat) → (List (List Nat) → Prop) → Prop
  | [], k => k []
  | x :: xs, k => fS x fun x' => fNs xs fun xs' => k (x' :: xs')

/-! ### Code -/
inductive Ex where
  | normal
  | exit (n : Nat)
  | ret

def thenQ (k : List AV → List Obj → Prop) (Q : Ex → List AV → List Obj → Prop) : Ex → List AV → List Obj → Prop
  | .normal, s, O => k s O
  | .exit n, s, O => Q (.exit n) s O
  | .ret, s, O => Q .ret s O

def blockQ (id : Nat) (Q : Ex → List AV → List Obj → Prop) : Ex → List AV → List Obj → Prop
  | .normal, s, O => Q .normal s O
  | .exit n, s, O => match Nat.beq n id with | true => Q .normal s O | false => Q (.exit n) s O
  | .ret, s, O => Q .ret s O

/-! ### Loops -/
def dsts : List Oper → List Nat
  | [] => []
  | o :: os => match o.dst with | some d => d :: dsts os | none => dsts os

def writes : Code → List Nat
  | .region _ ops _ => dsts ops.toList
  | .seq a b => ap (writes a) (writes b)
  | .cond c a b => match c with | .tmp t => t :: ap (writes a) (writes b) | _ => ap (writes a) (writes b)
  | .block _ c => writes c
  | .loop c => writes c
  | .scope c => writes c
  | .rangeFunc _ _ a b => ap (writes a) (writes b)
  | _ => []

def junkW (W : List Nat) : List AV → Nat → List AV
  | [], _ => []
  | x :: xs, n => (match hasN W n with | true => .junk | false => x) :: junkW W xs (n + 1)

def setKeys : List AV → List (Nat × AV) → List AV
  | s, [] => s
  | s, (n, v) :: r => setKeys (st s n v) r

/-- from the objects as they are to those of a loop's head -/
def headR (O : List Obj) : List Obj → Nat → Ren
  | [], _ => []
  | o :: os, k => (k, k, ver O k, vO o) :: headR O os (k + 1)

/-- the same for slots of which nothing is said: a row that the loop may change is forgotten -/
def baseR (O : List Obj) : List Obj → Nat → Ren
  | [], _ => []
  | o :: os, k => (k, k, (match vO o with | 0 => ver O k | _ + 1 => ver O k + 1), 0) :: baseR O os (k + 1)

def headO (R : Ren) : List Obj → List Obj → List Obj
  | _, [] => []
  | [], _ :: _ => []
  | o :: os, t :: ts => (match o, t with
    | .row _ s z xs, .row v s' _ _ => .row v (match s' with | true => s | false => false) z xs
    | o, _ => renO R 0 o) :: headO R os ts

def versOk : List Obj → List Obj → Bool
  | _, [] => true
  | [], _ :: _ => false
  | o :: os, t :: ts => match (match o, t with
    | .row v _ _ _, .row w _ _ _ => match w with | 0 => Nat.beq v 0 | _ + 1 => true
    | .row _ _ _ _, _ => false
    | _, .row _ _ _ _ => false
    | _, _ => true) with
    | true => versOk os ts
    | false => false

def keysOk (R : Ren) (s : List AV) : List (Nat × AV) → Prop
  | [] => True
  | (n, v) :: r => Wk (ren R (nth s n .junk)) v ∧ keysOk R s r

/-- what a row is made of where there is none yet: a slot, or a cell of an object, that holds the nil slice -/
inductive Rw where
  | slot (n z : Nat)
  | cell (k off z : Nat)
  | frz (k : Nat)
  | mv (j i : Nat)
  | bump (i : Nat)
  | data (c : Nat)

/- row j (at version vj) becomes row i (at version v) -/
mutual
def mvS (j vj i v : Nat) : AV → AV
  | .row c w => match Nat.beq c j with
    | true => match Nat.beq w vj with | true => .row i v | false => .junk
    | false => .row c w
  | .ra c w z n off => match Nat.beq c j with
    | true => match Nat.beq w vj with | true => .ra i v z n off | false => .junk
    | false => .ra c w z n off
  | .ptr n off => .ptr n off
  | .agg cs => .agg (mvL j vj i v cs)
  | .tup cs => .tup (mvL j vj i v cs)
  | .fn f cs => .fn f (mvL j vj i v cs)
  | .ifc t x => .ifc t (mvS j vj i v x)
  | .d x => .d x
  | .tt => .tt
  | .ff => .ff
  | .da cs => .da cs
  | .mp n => .mp n
  | .und => .und
  | .junk => .junk
def mvL (j vj i v : Nat) : List AV → List AV
  | [] => []
  | x :: xs => mvS j vj i v x :: mvL j vj i v xs
end
def mvO (j vj i v : Nat) : List Obj → List Obj
  | [] => []
  | o :: os => (match o with | .cells cs => .cells (mvL j vj i v cs) | o => o) :: mvO j vj i v os

/- an object that is written no more: pointers to it point to data -/
mutual
def daS (k : Nat) (ds : List DV) : AV → AV
  | .ptr n off => match Nat.beq n k with | true => .da (dp off ds) | false => .ptr n off
  | .agg cs => .agg (daL k ds cs)
  | .tup cs => .tup (daL k ds cs)
  | .fn f cs => .fn f (daL k ds cs)
  | .ifc t x => .ifc t (daS k ds x)
  | .d x => .d x
  | .tt => .tt
  | .ff => .ff
  | .row c v => .row c v
  | .da cs => .da cs
  | .ra c v z i off => .ra c v z i off
  | .mp n => .mp n
  | .und => .und
  | .junk => .junk
def daL (k : Nat) (ds : List DV) : List AV → List AV
  | [] => []
  | x :: xs => daS k ds x :: daL k ds xs
end
def daO (k : Nat) (ds : List DV) : List Obj → List Obj
  | [] => []
  | o :: os => (match o with | .cells cs => .cells (daL k ds cs) | o => o) :: daO k ds os

def nilA : AV → Bool
  | .d (.v (.slice none 0 0)) => true
  | _ => false

def frzO (O : List Obj) (keep : Nat → Bool) : Obj → Obj
  | .cells cs => .cells (frzL O keep cs)
  | o => o

/-- all rows but one -/
def notN (c k : Nat) : Bool := match Nat.beq k c with | true => false | false => true

def rwK : List Rw → List AV → List Obj → (List AV → List Obj → Prop) → Prop
  | [], s, O, K => K s O
  | .slot n z :: r, s, O, K => match nilA (nth s n .junk) with
    | true => stK s n (.row (ln O) 0) fun s' => apK O [.row 0 true z []] fun O' => rwK r s' O' K
    | false => False
  | .cell k off z :: r, s, O, K => match nth O k .dead with
    | .cells cs => match nilA (nth cs off .junk) with
      | true => stK cs off (.row (ln O) 0) fun cs' => stK O k (.cells cs') fun O1 => apK O1 [.row 0 true z []] fun O' => rwK r s O' K
      | false => False
    | _ => False
  | .frz k :: r, s, O, K => match nth O k .dead with
    | .cells cs => match dats O cs with
      | some ds => fDs ds fun ds' => fOs (still O (rowsInL cs)) fun O1 => fL (daL k ds' s) fun s' => stK O1 k (.row 1 false 0 []) fun O2 => fOs (daO k ds' O2) fun O' => rwK r s' O' K
      | none => False
    | _ => False
  | .mv j i :: r, s, O, K => match nth O j .dead, nth O i .dead, Nat.beq i j with
    | .row vj st z xs, .row vi _ _ _, false => fL (mvL j vj i (vi + 1) s) fun s' => stK O i (.row (vi + 1) st z xs) fun O1 => stK O1 j (.row (vj + 1) false 0 []) fun O2 => fOs (mvO j vj i (vi + 1) O2) fun O' => rwK r s' O' K
    | _, _, _ => False
  | .bump i :: r, s, O, K => match nth O i .dead with
    | .row v st z xs => fL (mvL i v i (v + 1) s) fun s' => stK O i (.row (v + 1) st z xs) fun O1 => fOs (mvO i v i (v + 1) O1) fun O' => rwK r s' O' K
    | _ => False
  | .data c :: r, s, O, K => fOs (still O [c]) fun O1 => fL (frzL O (notN c) s) fun s' => fOs (mp1 (frzO O (notN c)) O1) fun O' => rwK r s' O' K

/-- steps that change no memory, ahead of a region -/
inductive AnyG (p : List Rw → Prop) : Prop where
  | mk (G : List Rw) (h : p G)
theorem AnyG.skip {p : List Rw → Prop} (h : p []) : AnyG p := ⟨[], h⟩

def regD (τ : Tab) (Γ : Ctx) (ops : List Oper) (s : List AV) (O : List Obj) (K : List AV → List Obj → Prop) : Prop :=
  fNs (preds ops []) fun ps => match dstOk (ln s) ops [] with
    | true => fS (mkOrd τ false ops ps (ln ops) []) fun r => match ordOk τ false ops ps [] [] r with
      | true => opsD τ false s Γ ops ps r [] s O K
      | false => fS (mkOrd τ true ops ps (ln ops) []) fun r => match ordOk τ true ops ps [] [] r with
        | true => AnyG fun G => rwK G s O fun s' O' => opsD τ true s' Γ ops ps r [] s' O' K
        | false => False
    | false => False

/-- a state meets a loop's head -/
structure Meet (n : Nat) (W : List Nat) (base : List AV) (vals : List (Nat × AV)) (objs : List Obj) (s : List AV) (O : List Obj) : Prop where
  ml : ln objs = n
  mv : versOk O objs = true
  mo : WkOs (headO (headR O objs 0) O objs) objs
  mk1 : keysOk (headR O objs 0) s vals
  mb : junkW W (renL (baseR O objs 0) s) 0 = base

def loopK (W : List Nat) (body : (Ex → List AV → List Obj → Prop) → List AV → List Obj → Prop)
    (Q : Ex → List AV → List Obj → Prop) (s : List AV) (O : List Obj) : Prop :=
  ∃ (rw_ : List Rw) (X : Type) (I : X → Prop) (μ : X → Nat) (vals : X → List (Nat × AV)) (objs : X → List Obj) (x0 : X), I x0 ∧
    rwK rw_ s O fun s1 O1 => fL (junkW W (renL (baseR O1 (objs x0) 0) s1) 0) fun base =>
      Meet (ln O1) W base (vals x0) (objs x0) s1 O1 ∧
      ∀ x, I x → fL (setKeys base (vals x)) fun s' => body (fun e s2 O2 => match e with
        | .normal => ∃ x', I x' ∧ μ x' < μ x ∧ ∃ rw2 : List Rw, rwK rw2 s2 O2 fun s3 O3 => Meet (ln O1) W base (vals x') (objs x') s3 O3
        | .exit n => Q (.exit n) s2 O2
        | .ret => Q .ret s2 O2) s' (objs x)

abbrev PQ := Ex → List AV → List Obj → Prop

def condK (c : Operand) (a b : PQ → List AV → List Obj → Prop) : PQ → List AV → List Obj → Prop := fun Q s O =>
  match c with
  | .tmp t => match nth s t .junk with
    | .tt => a Q s O
    | .ff => b Q s O
    | .d (.b x) => Br x (stK s t .tt fun s' => a Q s' O) (stK s t .ff fun s' => b Q s' O)
    | _ => False
  | .const (.bool x) => match x with
    | true => a Q s O
    | false => b Q s O
  | _ => False

def regK (τ : Tab) (Γ : Ctx) (ops : List Oper) (draw : Bool) : PQ → List AV → List Obj → Prop := fun Q s O =>
  match draw with
  | false => opsG τ Γ ops ops s O fun s' O' => Q .normal s' O'
  | true => regD τ Γ ops s O fun s' O' => Q .normal s' O'

def wpA (τ : Tab) (Γ : Ctx) (c : Code) : PQ → List AV → List Obj → Prop :=
  Code.rec (motive := fun _ => PQ → List AV → List Obj → Prop)
    (fun Q s O => Q .normal s O)
    (fun _ ops draw => regK τ Γ ops.toList draw)
    (fun _ _ a b Q s O => a (thenQ (fun s' O' => b Q s' O') Q) s O)
    (fun c _ _ a b => condK c a b)
    (fun id _ a Q s O => a (blockQ id Q) s O)
    (fun c a Q s O => loopK (writes c) a Q s O)
    (fun _ _ _ _ _ _ _ _ _ => False)
    (fun n Q s O => Q (.exit n) s O)
    (fun _ _ _ _ _ => False)
    (fun _ Q s O => Q .normal s O)
    (fun _ _ _ _ => False)
    (fun Q s O => Q .ret s O)
    (fun _ _ _ _ => False) c

/-! ### A function's end -/
def res1 (τ : Tab) (s : List AV) (O : List Obj) : ResultVar → (AV → Prop) → Prop
  | .tmp t, k => k (nth s t .junk)
  | .cell a t, k => match nth s a .junk with
    | .ptr n off => match nth O n .dead with
      | .cells cs => loadK τ t (dp off cs) k
      | _ => False
    | _ => False

def resL (τ : Tab) (s : List AV) (O : List Obj) : List ResultVar → (List AV → Prop) → Prop
  | [], k => k []
  | r :: rs, k => res1 τ s O r fun x => resL τ s O rs fun xs => k (x :: xs)

/-- a Bool that is known is one that is reckoned -/
def norB : AV → AV
  | .tt => .d (.b true)
  | .ff => .d (.b false)
  | x => x

def resK (τ : Tab) (s : List AV) (O : List Obj) (rs : List ResultVar) (k : AV → Prop) : Prop :=
  match rs with
  | [r] => res1 τ s O r fun x => k (norB x)
  | rs => resL τ s O rs fun xs => k (.tup (mp1 norB xs))

/-- the objects that are handed back: the n that came in, and those of a list -/
def expR (O : List Obj) (n : Nat) : List Nat → Nat → Ren
  | [], _ => []
  | k :: ks, i => (k, i, ver O k, (match Nat.blt i n with | true => (match ver O k with | 0 => 0 | _ + 1 => 1) | false => 0)) :: expR O n ks (i + 1)

def expO (R : Ren) (O : List Obj) (n : Nat) (keep : Nat → Bool) : List Nat → Nat → List Obj
  | [], _ => []
  | k :: ks, i => renO R (match Nat.blt i n with | true => (match ver O k with | 0 => 0 | _ + 1 => 1) | false => 0) (frzO O keep (nth O k .dead)) :: expO R O n keep ks (i + 1)

def nodupB : List Nat → Bool
  | [] => true
  | x :: xs => match hasN xs x with | true => false | false => nodupB xs

def inB (n m : Nat) : List Nat → Bool
  | [] => true
  | k :: ks => match Nat.ble n k, Nat.blt k m with | true, true => inB n m ks | _, _ => false

/-- the end of a function that was handed n objects; q: the new ones that it hands back -/
def expK0 (n : Nat) (r : AV) (O : List Obj) (Q : AV → List Obj → Prop) : Prop :=
  ∃ q : List Nat, (nodupB q = true ∧ inB n (ln O) q = true) ∧
    fA (ren (expR O n (ap (upto n 0) q) 0) (frz O (hasN (ap (upto n 0) q)) r)) fun r' =>
    fOs (expO (expR O n (ap (upto n 0) q) 0) O n (hasN (ap (upto n 0) q)) (ap (upto n 0) q) 0) fun O' =>
    Q r' O'

/-- the same behind steps that change no memory -/
def expK (n : Nat) (r : AV) (O : List Obj) (Q : AV → List Obj → Prop) : Prop :=
  ∃ G : List Rw, rwK G [r] O fun s O' => expK0 n (nth s 0 .junk) O' Q
theorem endK {n : Nat} {r : AV} {O : List Obj} {Q : AV → List Obj → Prop} (h : expK0 n r O Q) : expK n r O Q := ⟨[], h⟩

def fnPost (τ : Tab) (rs : List ResultVar) (n : Nat) (Q : AV → List Obj → Prop) : Ex → List AV → List Obj → Prop
  | .normal, s, O => resK τ s O rs fun r => fA r fun r' => expK n r' O Q
  | .ret, s, O => resK τ s O rs fun r => fA r fun r' => expK n r' O Q
  | .exit _, _, _ => False

/-- the same, and what says less -/
def wkQ (Q : AV → List Obj → Prop) : AV → List Obj → Prop := fun r O => ∃ r' O', Wk r r' ∧ WkOs O O' ∧ Q r' O'

def pad (s : List AV) (n : Nat) : List AV := ap s (reps n .und)

def runK (τ : Tab) (Γ : Ctx) (c : Code) (rs : List ResultVar) (ntmps : Nat) (args : List AV) (O : List Obj) (Q : AV → List Obj → Prop) : Prop :=
  fL (pad args (ntmps - ln args)) fun s => wpA τ Γ c (fnPost τ rs (ln O) Q) s O
end Ab

/- The frame 'Ab' is sound, first part: what holds of memory; the words of the evaluator as Lean's own; operations that only read. -/
namespace Ab
open Go
set_option linter.unusedSimpArgs false
set_option linter.unusedVariables false

/-! ### The evaluator's words -/
theorem nth_eq {α : Type} (d : α) : ∀ (l : List α) (n : Nat), nth l n d = l.getD n d
  | [], n => by simp [nth]
  | x :: xs, 0 => by simp [nth]
  | x :: xs, n + 1 => by simp [nth, nth_eq d xs n]
theorem tk_eq {α : Type} : ∀ (n : Nat) (l : List α), tk n l = l.take n
  | 0, _ => by simp [tk]
  | n + 1, [] => by simp [tk]
  | n + 1, x :: xs => by simp [tk, tk_eq n xs]
theorem dp_eq {α : Type} : ∀ (n : Nat) (l : List α), dp n l = l.drop n
  | 0, _ => by simp [dp]
  | n + 1, [] => by simp [dp]
  | n + 1, x :: xs => by simp [dp, dp_eq n xs]
theorem ln_eq {α : Type} : ∀ (l : List α), ln l = l.length
  | [] => rfl
  | _ :: xs => by simp [ln, ln_eq xs]
theorem ap_eq {α : Type} : ∀ (l m : List α), ap l m = l ++ m
  | [], _ => rfl
  | _ :: xs, m => by simp [ap, ap_eq xs m]
theorem mp1_eq {α β : Type} (f : α → β) : ∀ (l : List α), mp1 f l = l.map f
  | [] => rfl
  | _ :: xs => by simp [mp1, mp1_eq f xs]
theorem st_eq {α : Type} : ∀ (l : List α) (n : Nat) (v : α), st l n v = l.set n v
  | [], _, _ => by simp [st]
  | _ :: xs, 0, _ => by simp [st]
  | _ :: xs, n + 1, v => by simp [st, st_eq xs n v]
theorem stK_eq {α : Type} : ∀ (l : List α) (n : Nat) (v : α) (k : List α → Prop), stK l n v k = k (l.set n v)
  | [], _, _, k => by simp [stK]
  | _ :: xs, 0, _, k => by simp [stK]
  | x :: xs, n + 1, v, k => by simp [stK, stK_eq xs n v]
theorem apK_eq {α : Type} : ∀ (l m : List α) (k : List α → Prop), apK l m k = k (l ++ m)
  | [], _, k => rfl
  | x :: xs, m, k => by simp [apK, apK_eq xs m]
theorem fS_eq {α : Type} : ∀ (l : List α) (k : List α → Prop), fS l k = k l
  | [], k => rfl
  | x :: xs, k => by simp [fS, fS_eq xs]
theorem fNs_eq : ∀ (l : List (List Nat)) (k : List (List Nat) → Prop), fNs l k = k l
  | [], k => rfl
  | x :: xs, k => by simp [fNs, fS_eq, fNs_eq xs]
theorem fD_eq (x : DV) (k : DV → Prop) : fD x k = k x := by cases x <;> rfl
theorem fDs_eq : ∀ (l : List DV) (k : List DV → Prop), fDs l k = k l
  | [], k => rfl
  | x :: xs, k => by simp [fDs, fD_eq, fDs_eq xs]
theorem fRows_eq : ∀ (l : List (List DV)) (k : List (List DV) → Prop), fRows l k = k l
  | [], k => rfl
  | x :: xs, k => by simp [fRows, fDs_eq, fRows_eq xs]
theorem fN_eq : ∀ (n : Nat) (k : Nat → Prop), fN n k = k n
  | 0, k => rfl
  | n + 1, k => by simp [fN, fN_eq n]
theorem fB_eq (b : Bool) (k : Bool → Prop) : fB b k = k b := by cases b <;> rfl
mutual
theorem fA_eq : ∀ (x : AV) (k : AV → Prop), fA x k = k x
  | .d x, k => by simp [fA, fD_eq]
  | .tt, k => rfl
  | .ff, k => rfl
  | .row _ _, k => by simp [fA, fN_eq]
  | .ptr _ _, k => rfl
  | .da cs, k => by simp [fA, fDs_eq]
  | .ra _ _ _ _ _, k => rfl
  | .agg cs, k => by simp [fA, fL_eq cs]
  | .tup cs, k => by simp [fA, fL_eq cs]
  | .fn f cs, k => by simp [fA, fL_eq cs]
  | .ifc t x, k => by simp [fA, fA_eq x]
  | .mp _, k => rfl
  | .und, k => rfl
  | .junk, k => rfl
theorem fL_eq : ∀ (l : List AV) (k : List AV → Prop), fL l k = k l
  | [], k => rfl
  | x :: xs, k => by simp [fL, fA_eq x, fL_eq xs]
end
theorem fO_eq (o : Obj) (k : Obj → Prop) : fO o k = k o := by cases o <;> simp [fO, fL_eq, fN_eq, fB_eq]
theorem fOs_eq : ∀ (l : List Obj) (k : List Obj → Prop), fOs l k = k l
  | [], k => rfl
  | x :: xs, k => by simp [fOs, fO_eq, fOs_eq xs]
theorem hasN_iff : ∀ (l : List Nat) (n : Nat), hasN l n = true ↔ n ∈ l
  | [], n => by simp [hasN]
  | x :: xs, n => by
    unfold hasN
    cases h : Nat.beq x n with
    | true => simp [Nat.eq_of_beq_eq_true h]
    | false =>
      have hne : n ≠ x := fun e => by subst e; simp at h
      simp [hasN_iff xs n, hne]
theorem beq_nat {a b : Nat} : Nat.beq a b = true ↔ a = b := ⟨Nat.eq_of_beq_eq_true, fun h => by subst h; simp⟩
theorem kq_eq {a b : IntKind} (h : kq a b = true) : a = b := by cases a <;> cases b <;> simp_all [kq]
theorem splice_eq {α : Type} : ∀ (cs : List α) (n : Nat) (ws r : List α), splice cs n ws = some r → n + ws.length ≤ cs.length ∧ r = cs.take n ++ ws ++ cs.drop (n + ws.length)
  | cs, 0, [], r, h => by simp [splice] at h; simp [h]
  | [], n + 1, ws, r, h => by simp [splice] at h
  | [], 0, _ :: _, r, h => by simp [splice] at h
  | c :: cs, n + 1, ws, r, h => by
    unfold splice at h
    split at h
    · rename_i r' hr
      have := splice_eq cs n ws r' hr
      simp at h; subst h
      refine ⟨by simp; omega, ?_⟩
      rw [this.2]; simp [show n + 1 + ws.length = n + ws.length + 1 by omega]
    · simp at h
  | c :: cs, 0, w :: ws, r, h => by
    unfold splice at h
    split at h
    · rename_i r' hr
      have := splice_eq cs 0 ws r' hr
      simp at h; subst h
      refine ⟨by simp; omega, ?_⟩
      rw [this.2]; simp
    · simp at h

/-! ### Types -/
def kindOk (P : Program) (t : Nat) (i : TI) : Prop :=
  match i.kind with
  | .struct => ∃ fs, P.underlying t = some (.struct fs) ∧ fs.toList.map (fun f => (f.offset, f.type)) = i.fs ∧ fs.toList.all (fun f => (P.info? f.type).isSome) = true
  | .slice => P.underlying t = some (.slice i.elem)
  | .string => P.underlying t = some .string
  | .bool => P.underlying t = some .bool
  | .int k => P.underlying t = some (.int k)
  | .iface => ∃ ms, P.underlying t = some (.interface ms)
  | .ptr => P.underlying t = some (.pointer i.elem)
  | .func => ∃ a b c, P.underlying t = some (.func a b c)
  | .map => P.underlying t = some (.map i.key i.elem)
  | .other => True

def vD : Value → DV
  | .int k n => .i k n
  | .bool b => .b b
  | .string s => .s s.data.toList
  | v => .v v

structure Tok1 (P : Program) (t : Nat) (i : TI) : Prop where
  info : ∃ ti z, P.info? t = some ti ∧ ti.size = i.size ∧ ti.bytes = i.bytes ∧ ti.zero = some z ∧ z.cells.toList.map vD = i.zero ∧ z.cells.size = i.size ∧ z = (match i.agg with | true => .agg z.cells | false => z.cells.getD 0 undef) ∧ z.cells.toList.all oneV = true
  agg : ∃ d, P.underlying t = some d ∧ (match d with | .struct _ | .array _ _ => true | _ => false) = i.agg
  kind : kindOk P t i
  small : i.bytes ≤ 1024

def Tok (P : Program) : Tab → Prop
  | [] => True
  | (t, i) :: r => Tok1 P t i ∧ Tok P r

theorem Tok.get {P : Program} : ∀ {τ : Tab} (h : Tok P τ) (t : Nat), (tg τ t).size = 0 ∧ (tg τ t).kind = .other ∨ Tok1 P t (tg τ t)
  | [], _, t => .inl ⟨rfl, rfl⟩
  | (a, i) :: r, h, t => by
    unfold tg
    cases hb : Nat.beq a t with
    | true => right; rw [← Nat.eq_of_beq_eq_true hb]; exact h.1
    | false => exact Tok.get h.2 t

theorem Tok.of_size {P : Program} {τ : Tab} (h : Tok P τ) {t : Nat} (hs : (tg τ t).size ≠ 0) : Tok1 P t (tg τ t) := by
  rcases h.get t with h | h
  · exact absurd h.1 hs
  · exact h
theorem Tok.of_kind {P : Program} {τ : Tab} (h : Tok P τ) {t : Nat} (hs : (tg τ t).kind ≠ .other) : Tok1 P t (tg τ t) := by
  rcases h.get t with h | h
  · exact absurd h.2 hs
  · exact h

section
variable {P : Program} {t : Nat} {i : TI}
theorem Tok1.sizeOf (h : Tok1 P t i) (w : World) : (Go.sizeOf t).run P w = .ok i.size w := by
  obtain ⟨ti, z, hi, hs, _⟩ := h.info
  simp [Go.sizeOf, typeInfo, hi, hs]
theorem Tok1.typeInfo (h : Tok1 P t i) (w : World) : ∃ ti, (Go.typeInfo t).run P w = .ok ti w ∧ ti.bytes = i.bytes := by
  obtain ⟨ti, z, hi, hs, hb, _⟩ := h.info
  exact ⟨ti, by simp [Go.typeInfo, hi], hb⟩
theorem Tok1.isAgg (h : Tok1 P t i) (w : World) : (Go.isAgg t).run P w = .ok i.agg w := by
  obtain ⟨d, hd, he⟩ := h.agg
  unfold Go.isAgg
  rw [Sem.run_bind, run_underlying hd w]
  cases d <;> simp_all
theorem Tok1.zero (h : Tok1 P t i) (w : World) : ∃ z, (Go.zeroValue t).run P w = .ok z w ∧ z.cells.toList.map vD = i.zero ∧ z.cells.size = i.size ∧ z = (match i.agg with | true => .agg z.cells | false => z.cells.getD 0 undef) ∧ z.cells.toList.all oneV = true := by
  obtain ⟨ti, z, hi, hs, hb, hz, hc, hd⟩ := h.info
  exact ⟨z, by simp [zeroValue, Go.typeInfo, hi, hz], hc, hd⟩
end

theorem DVal_vD (I : Imm) (v : Value) (h : oneV v = true) : DVal I (vD v) v := by
  cases v <;> simp_all [vD, DVal, oneV]
theorem DList_vD (I : Imm) : ∀ (vs : List Value), vs.all oneV = true → DList I (vs.map vD) vs
  | [], _ => trivial
  | v :: vs, h => by
    simp only [List.all_cons, Bool.and_eq_true] at h
    exact ⟨DVal_vD I v h.1, DList_vD I vs h.2⟩

/-! ### What holds of memory -/
structure RowAt (w : World) (g : Gh) (k : Nat) (st : Bool) (z : Nat) (xs : List (List DV)) (a : Option Addr) (cap : Nat) : Prop where
  len : xs.length ≤ cap
  elen : ∀ r ∈ xs, r.length = z
  mem : cap = 0 ∨ ∃ b off c t us, a = some ⟨b, off, none⟩ ∧ w.heap[b]? = some (.cells c t (0, 0)) ∧ off + cap * z ≤ c.size ∧ g.own b = some k ∧
    (c.toList.drop off).take (xs.length * z) = us ∧ DList g.imm xs.flatten us ∧
    g.imm b = if st then none else some (c.toList.take (off + xs.length * z))

/-- A builder: fresh, or one that holds bytes (two entries: the bytes' type, the bytes). -/
def BldAt (w : World) (own : Nat → Prop) (b : Nat) (t : TypeId) (es : List (DV × List AV)) : Prop :=
  ∃ p v, w.heap[b]? = some (.cells #[p, v] t (0, 0)) ∧ (p = .pointer none ∨ p = .pointer (some ⟨b, 0, none⟩)) ∧ v.ownBlock ≠ some b ∧ (∀ j, v.ownBlock = some j → own j) ∧
    match es with
    | [] => p = .pointer none ∧ v = .slice none 0 0
    | [(.i _ e, _), (.s l, _)] => w.ownsRowF 0 e.toNat 1 v l.length (Lib.byteCells l)
    | _ => False
theorem BldAt.keep {w w' : World} {own own' : Nat → Prop} {b : Nat} {t : TypeId} {es : List (DV × List AV)} (hk : ∀ j, own j → w'.heap[j]? = w.heap[j]? ∧ own' j) (hb : own b) (h : BldAt w own b t es) : BldAt w' own' b t es := by
  obtain ⟨p, v, h1, h2, h3, h4, h5⟩ := h
  refine ⟨p, v, by rw [(hk b hb).1]; exact h1, h2, h3, fun j hj => (hk j (h4 j hj)).2, ?_⟩
  split at h5
  · exact h5
  · refine ⟨h5.1, h5.2.imp id ?_⟩
    rintro ⟨g, cap, cur, fz, rfl, q1, q2, q3⟩
    exact ⟨g, cap, cur, fz, rfl, q1, by rw [(hk g (h4 g rfl)).1]; exact q2, q3⟩
  · exact h5

def SatO (w : World) (g : Gh) (k : Nat) : Obj → Prop
  | .cells cs => ∃ c t, w.heap[g.blk k]? = some (.cells c t (0, 0)) ∧ g.own (g.blk k) = some k ∧ g.imm (g.blk k) = none ∧ g.row k = (0, .nilFunc) ∧ ValL g cs c.toList
  | .row v st z xs => ∃ a cap, g.row k = (v, .slice a xs.length cap) ∧ RowAt w g k st z xs a cap
  | .map t es => BldAt w (fun b => g.own b = some k ∧ g.imm b = none) (g.blk k) t es ∧ g.own (g.blk k) = some k ∧ g.imm (g.blk k) = none ∧ g.row k = (0, .nilFunc)
  | .dead => False

structure Sat (w : World) (g : Gh) (O : List Obj) : Prop where
  n : O.length = g.n
  imm : ∀ b ys, g.imm b = some ys → ∃ c t f, w.heap[b]? = some (.cells c t f) ∧ ys <+: c.toList
  obj : ∀ k o, O[k]? = some o → SatO w g k o
  own : ∀ b k, g.own b = some k → b < w.heap.size ∧ k < g.n

structure Fr (w w' : World) (g g' : Gh) : Prop where
  size : w.heap.size ≤ w'.heap.size
  os : w'.os = w.os
  tape : w'.tape = w.tape
  out : w'.output = w.output
  heap : ∀ b, b < w.heap.size → g.own b = none → w'.heap[b]? = w.heap[b]?
  imm : ∀ b, b < w.heap.size → g.own b = none → g'.imm b = g.imm b
  own : ∀ b, b < w.heap.size → g.own b = none → g'.own b = none

theorem Fr.refl (w : World) (g : Gh) : Fr w w g g := ⟨Nat.le_refl _, rfl, rfl, rfl, fun _ _ _ => rfl, fun _ _ _ => rfl, fun _ _ h => h⟩
theorem Fr.trans {w1 w2 w3 : World} {g1 g2 g3 : Gh} (a : Fr w1 w2 g1 g2) (b : Fr w2 w3 g2 g3) : Fr w1 w3 g1 g3 :=
  ⟨Nat.le_trans a.size b.size, b.os.trans a.os, b.tape.trans a.tape, b.out.trans a.out,
   fun i hi ho => (b.heap i (Nat.lt_of_lt_of_le hi a.size) (a.own i hi ho)).trans (a.heap i hi ho),
   fun i hi ho => (b.imm i (Nat.lt_of_lt_of_le hi a.size) (a.own i hi ho)).trans (a.imm i hi ho),
   fun i hi ho => b.own i (Nat.lt_of_lt_of_le hi a.size) (a.own i hi ho)⟩

theorem Sat.imm_lt {w : World} {g : Gh} {O : List Obj} (h : Sat w g O) {b : Nat} {ys : List Value} (hb : g.imm b = some ys) : b < w.heap.size := by
  obtain ⟨c, t, f, hh, _⟩ := h.imm b ys hb
  exact (Array.getElem?_eq_some_iff.1 hh).1

/-- An object is as it was, if its memory is. -/
theorem SatO.keep {w w' : World} {g g' : Gh} {k : Nat} (hl : g.le g') (hk : k < g.n) (hrow : g'.row k = g.row k)
    (hb : ∀ b, g.own b = some k → w'.heap[b]? = w.heap[b]? ∧ g'.own b = some k ∧ g'.imm b = g.imm b) : ∀ {o : Obj}, SatO w g k o → SatO w' g' k o
  | .cells cs, ⟨c, t, hh, ho, hi, hrw, hv⟩ => by
    obtain ⟨h1, h2, h3⟩ := hb _ ho
    exact ⟨c, t, by rw [hl.blk k hk, h1]; exact hh, by rw [hl.blk k hk]; exact h2, by rw [hl.blk k hk, h3]; exact hi, by rw [hrow, hrw], ValL_mono hl _ _ hv⟩
  | .row v st z xs, ⟨a, cap, hr, hm⟩ => by
    refine ⟨a, cap, by rw [hrow]; exact hr, hm.len, hm.elen, ?_⟩
    rcases hm.mem with h | ⟨b, off, c, t, us, ha, hh, hs, ho, hu, hd, hi⟩
    · exact .inl h
    · obtain ⟨h1, h2, h3⟩ := hb _ ho
      exact .inr ⟨b, off, c, t, us, ha, by rw [h1]; exact hh, hs, h2, hu, DList_mono hl.imm _ _ hd, by rw [h3]; exact hi⟩
  | .map _ _, ⟨hh, ho, hi, hrw⟩ => by
    obtain ⟨h1, h2, h3⟩ := hb _ ho
    exact ⟨by rw [hl.blk k hk]; exact hh.keep (fun j hj => ⟨(hb j hj.1).1, (hb j hj.1).2.1, by rw [(hb j hj.1).2.2]; exact hj.2⟩) ⟨ho, hi⟩, by rw [hl.blk k hk]; exact h2, by rw [hl.blk k hk, h3]; exact hi, by rw [hrow, hrw]⟩
  | .dead, h => h.elim

theorem SatO.wk {w : World} {g : Gh} {k : Nat} {o o' : Obj} (h : WkO o o') (hs : SatO w g k o) : SatO w g k o' := by
  rcases h with rfl | h
  · exact hs
  · cases o with
    | cells cs =>
      cases o' with
      | cells ds =>
        obtain ⟨c, t, h1, h2, h3, h4, h5⟩ := hs
        exact ⟨c, t, h1, h2, h3, h4, h _ _ h5⟩
      | _ => exact h.elim
    | row v s z xs =>
      cases o' with
      | row v' s' z' ys =>
        obtain ⟨rfl, rfl, rfl, hr⟩ := h
        obtain ⟨a, cap, h1, h2⟩ := hs
        refine ⟨a, cap, by rw [← hr.len]; exact h1, by rw [← hr.len]; exact h2.len, hr.elen h2.elen, ?_⟩
        rcases h2.mem with h3 | ⟨b, off, c, t, us, k1, k2, k3, k4, k5, k6, k7⟩
        · exact .inl h3
        · exact .inr ⟨b, off, c, t, us, k1, k2, k3, k4, by rw [← hr.len]; exact k5, hr.flat _ _ k6, by rw [← hr.len]; exact k7⟩
      | _ => exact h.elim
    | map => cases o' <;> exact h.elim
    | dead => exact hs.elim

theorem WkOs.get : ∀ {l m : List Obj}, WkOs l m → ∀ (k : Nat) (o : Obj), m[k]? = some o → ∃ o', l[k]? = some o' ∧ WkO o' o
  | [], [], _, k, o, h => by simp at h
  | x :: xs, y :: ys, ⟨h1, h2⟩, 0, o, h => by simp at h; subst h; exact ⟨x, by simp, h1⟩
  | x :: xs, y :: ys, ⟨h1, h2⟩, k + 1, o, h => by
    obtain ⟨o', h3, h4⟩ := WkOs.get h2 k o (by simpa using h)
    exact ⟨o', by simpa using h3, h4⟩
  | [], _ :: _, h, _, _, _ => h.elim
  | _ :: _, [], h, _, _, _ => h.elim
theorem WkOs.len : ∀ {l m : List Obj}, WkOs l m → l.length = m.length
  | [], [], _ => Eq.refl _
  | _ :: _, _ :: _, ⟨_, h⟩ => by simp [WkOs.len h]
  | [], _ :: _, h => h.elim
  | _ :: _, [], h => h.elim
theorem Sat.wk {w : World} {g : Gh} {l m : List Obj} (h : WkOs l m) (hs : Sat w g l) : Sat w g m :=
  ⟨by rw [← h.len]; exact hs.n, hs.imm, fun k o hk => let ⟨o', h1, h2⟩ := h.get k o hk; SatO.wk h2 (hs.obj k o' h1), hs.own⟩
theorem WkO.vO {o o' : Obj} (h : WkO o o') : vO o = vO o' := by
  rcases h with rfl | h
  · exact Eq.refl _
  · cases o <;> cases o' <;> first | exact Eq.refl _ | exact h.1 | exact h.elim
end Ab

/- The frame 'Ab' is sound, second part: operations that only read. -/
namespace Ab
open Go
set_option linter.unusedSimpArgs false
set_option linter.unusedVariables false

section
variable {P : Program} {τ : Tab} {w : World} {g : Gh} {O : List Obj}

theorem add_none (b off n : Nat) : (⟨b, off, none⟩ : Addr).add n = ⟨b, off + n, none⟩ := by
  unfold Addr.add; split
  · subst n; rfl
  · rfl

/-- Cells in memory, read as a variable of a type. -/
theorem loadK_sound (hτ : Tok P τ) {t b off : Nat} {cs : List AV} {us : List Value} {K : AV → Prop} (hv : ValL g cs us)
    (hm : ∀ j, j < us.length → w.cell? ⟨b, off + j, none⟩ = us[j]?) (h : loadK τ t cs K) :
    ∃ v u, K v ∧ Val g v u ∧ (Instr.loadAt t (.pointer (some ⟨b, off, none⟩))).run P w = .ok u w := by
  unfold loadK at h
  have hlen := ValL_length hv
  generalize hi : tg τ t = i at h
  dsimp only at h
  split at h
  · rename_i n hs hle
    have tk1 : Tok1 P t i := hi ▸ hτ.of_size (by rw [hi, hs]; simp)
    have hle' : i.size ≤ us.length := by
      have := Nat.le_of_ble_eq_true hle
      rw [ln_eq, hlen] at this; exact this
    have hcells : (loadCells ⟨b, off, none⟩ i.size).run P w = .ok (us.take i.size).toArray w := by
      have := run_loadCells_list (P := P) w ⟨b, off, none⟩ (us.take i.size) (fun j v hj => by
        rw [add_none]
        have hj' : j < i.size := by
          rcases Nat.lt_or_ge j i.size with h' | h'
          · exact h'
          · rw [List.getElem?_eq_none (by simp; omega)] at hj; cases hj
        rw [hm j (by omega)]
        rw [List.getElem?_take_of_lt hj'] at hj; exact hj)
      rw [show (us.take i.size).length = i.size by simp; omega] at this
      exact this
    have hsz := tk1.sizeOf w
    have hag := tk1.isAgg w
    split at h
    · rename_i ha
      rw [tk_eq] at h
      refine ⟨_, .agg (us.take i.size).toArray, h, ⟨_, rfl, ValL_take _ hv⟩, ?_⟩
      rw [ha] at hag
      simp [Instr.loadAt, Instr.sureAddr, loadVar, hag, hsz, hcells]
    · rename_i ha
      rw [ha] at hag
      split at h
      · rename_i c hc
        rw [tk_eq] at hc
        have ht := ValL_take i.size hv
        rw [hc] at ht
        have hl1 : (us.take i.size).length = 1 := by have := ValL_length ht; simpa using this.symm
        have hs1 : i.size = 1 := by rw [List.length_take] at hl1; omega
        obtain ⟨u, hu⟩ : ∃ u, us.take i.size = [u] := by
          match us.take i.size, hl1 with
          | [u], _ => exact ⟨u, rfl⟩
        rw [hu] at ht
        refine ⟨c, u, h, ht.1, ?_⟩
        have h0 := hm 0 (by omega)
        have hu0 : us[0]? = some u := by
          have : (us.take i.size)[0]? = some u := by rw [hu]; rfl
          rwa [List.getElem?_take_of_lt (by omega)] at this
        simp only [Nat.add_zero] at h0
        simp [Instr.loadAt, Instr.sureAddr, loadVar, hag, h0, hu0]
      · exact h.elim
  · exact h.elim

/-- Immutable memory reads as it is told. -/
theorem Sat.rd (hS : Sat w g O) {b o : Nat} {u : Value} (h : Ab.rd g.imm b o = some u) : w.cell? ⟨b, o, none⟩ = some u := by
  unfold Ab.rd at h
  cases hI : g.imm b with
  | none => simp [hI] at h
  | some ys =>
    simp [hI] at h
    obtain ⟨c, t, f, hh, zs, hz⟩ := hS.imm b ys hI
    have : c.toList[o]? = some u := by
      rw [← hz, List.getElem?_append_left (by
        rcases Nat.lt_or_ge o ys.length with h' | h'
        · exact h'
        · simp [List.getElem?_eq_none h'] at h)]
      exact h
    simp only [World.cell?, hh]
    simpa using this

theorem Sat.cells (hS : Sat w g O) {b off : Nat} {cs : List DV} (h : DCells g.imm b off cs) :
    ∃ us, ValL g (cs.map .d) us ∧ ∀ j, j < us.length → w.cell? ⟨b, off + j, none⟩ = us[j]? := by
  obtain ⟨us, h1, h2⟩ := DCells_list h
  refine ⟨us, ValL_of_DList h1, fun j hj => ?_⟩
  have h3 := h2 j hj
  rw [List.getElem?_eq_getElem hj] at h3 ⊢
  exact hS.rd h3

theorem Sat.get (hS : Sat w g O) {k : Nat} {o : Obj} (h : nth O k .dead = o) (ho : o ≠ .dead) : O[k]? = some o ∧ k < g.n := by
  rw [nth_eq] at h
  rcases Nat.lt_or_ge k O.length with hk | hk
  · refine ⟨?_, by rw [← hS.n]; exact hk⟩
    rw [List.getElem?_eq_getElem hk]
    simp [List.getD, List.getElem?_eq_getElem hk] at h
    rw [h]
  · simp [List.getD, List.getElem?_eq_none hk] at h
    exact absurd h.symm ho

theorem rowOf_some {c v : Nat} {r : Bool × Nat × List (List DV)} (h : rowOf O c v = some r) : nth O c .dead = .row v r.1 r.2.1 r.2.2 := by
  unfold rowOf at h
  split at h
  · rename_i v' s z xs hn
    split at h
    · rename_i hb
      have := Nat.eq_of_beq_eq_true hb
      subst this
      simp at h; subst h; exact hn
    · cases h
  · cases h

/-- A row that is as it is: its slice. -/
theorem Sat.row (hS : Sat w g O) {c v : Nat} {s : Bool} {z : Nat} {xs : List (List DV)} (h : rowOf O c v = some (s, z, xs)) :
    c < g.n ∧ ∃ a cap, g.row c = (v, .slice a xs.length cap) ∧ RowAt w g c s z xs a cap := by
  have hn := rowOf_some h
  obtain ⟨h1, h2⟩ := hS.get hn (by simp)
  exact ⟨h2, hS.obj c _ h1⟩

theorem Val_row {c v : Nat} {u x : Value} (h : Val g (.row c v) u) (hr : g.row c = (v, x)) : u = x := by
  obtain ⟨_, _, h⟩ := h
  rw [hr] at h
  rcases h with h | h
  · simp at h
  · exact h.2

theorem flatten_get {α : Type} {z : Nat} : ∀ {xs : List (List α)} (_ : ∀ r ∈ xs, r.length = z) {i : Nat} {r : List α}, xs[i]? = some r →
    (xs.flatten.drop (i * z)).take z = r
  | [], _, i, r, h => by simp at h
  | x :: xs, hl, 0, r, h => by
    simp at h; subst h
    have := hl x (by simp)
    simp [← this]
  | x :: xs, hl, i + 1, r, h => by
    have hx := hl x (by simp)
    have hl' : ∀ r ∈ xs, r.length = z := fun q hq => hl q (List.mem_cons_of_mem _ hq)
    have ih := flatten_get hl' (i := i) (r := r) (by simpa using h)
    simp only [List.flatten_cons]
    rw [show (i + 1) * z = x.length + i * z by rw [Nat.add_mul, hx]; omega, List.drop_append, List.drop_eq_nil_of_le (by omega)]
    simpa using ih

/-- A row's element in memory. -/
theorem RowAt.elem {k : Nat} {st : Bool} {z : Nat} {xs : List (List DV)} {a : Option Addr} {cap : Nat} (h : RowAt w g k st z xs a cap) {i : Nat} {r : List DV}
    (hi : xs[i]? = some r) : ∃ b off us, a = some ⟨b, off, none⟩ ∧ DList g.imm r us ∧ ∀ j, j < us.length → w.cell? ⟨b, off + i * z + j, none⟩ = us[j]? := by
  have hlt : i < xs.length := by
    rcases Nat.lt_or_ge i xs.length with h' | h'
    · exact h'
    · rw [List.getElem?_eq_none h'] at hi; cases hi
  rcases h.mem with h0 | ⟨b, off, c, t, us, ha, hh, hs, ho, hu, hd, _⟩
  · have := h.len; omega
  have hz : r.length = z := h.elen r (List.mem_of_getElem? hi)
  have hfl : xs.flatten.length = xs.length * z := by
    have : ∀ ys : List (List DV), (∀ r ∈ ys, r.length = z) → ys.flatten.length = ys.length * z := by
      intro ys
      induction ys with
      | nil => simp
      | cons y ys ih =>
        intro hy
        have := ih fun r hr => hy r (by simp [hr])
        simp [hy y (by simp), Nat.add_mul, this] at this ⊢
        omega
    exact this xs h.elen
  have hul : us.length = xs.length * z := by rw [← DList_length hd, hfl]
  refine ⟨b, off, (us.drop (i * z)).take z, ha, ?_, ?_⟩
  · have key : ∀ (cs : List DV) (vs : List Value) (n m : Nat), DList g.imm cs vs → DList g.imm ((cs.drop n).take m) ((vs.drop n).take m) := by
      intro cs
      induction cs with
      | nil =>
        intro vs n m hl
        cases vs with
        | nil => simp [DList]
        | cons v vs => exact hl.elim
      | cons c cs ih =>
        intro vs n m hl
        cases vs with
        | nil => exact hl.elim
        | cons v vs =>
          obtain ⟨h1, h2⟩ := hl
          cases n with
          | succ n => simpa using ih vs n m h2
          | zero =>
            cases m with
            | zero => simp [DList]
            | succ m =>
              have := ih vs 0 m h2
              simp at this ⊢
              exact ⟨h1, this⟩
    have := key _ _ (i * z) z hd
    rwa [flatten_get h.elen hi] at this
  · intro j hj
    simp only [List.length_take, List.length_drop] at hj
    have hj' : j < z := by omega
    have hjz : i * z + j < xs.length * z := by
      have : (i + 1) * z ≤ xs.length * z := Nat.mul_le_mul_right z hlt
      rw [Nat.add_mul] at this; omega
    rw [List.getElem?_take_of_lt hj', List.getElem?_drop, ← hu, List.getElem?_take_of_lt hjz, List.getElem?_drop]
    simp only [World.cell?, hh]
    simp [Nat.add_assoc]
end
end Ab

/- The frame 'Ab' is sound, third part: the reading operations one by one. -/
namespace Ab
open Go
set_option linter.unusedSimpArgs false
set_option linter.unusedVariables false

section
variable {P : Program} {τ : Tab} {w : World} {g : Gh} {O : List Obj}

theorem one1_val {x : AV} {u : Value} (h : one1 x = true) (hv : Val g x u) : u.oneCell' = true := by
  cases x with
  | d x =>
    cases x <;> simp only [Val, DVal] at hv
    case i => subst hv; rfl
    case b => subst hv; rfl
    case s => subst hv; rfl
    case sl => obtain ⟨a, cap, hu, _⟩ := hv; subst hu; rfl
    case sf => obtain ⟨a, hu, _⟩ := hv; subst hu; rfl
    case ifa => obtain ⟨us, hu, _⟩ := hv; subst hu; rfl
    case if1 => obtain ⟨us, hu, _⟩ := hv; subst hu; rfl
    case v y => obtain ⟨rfl, h1⟩ := hv; cases u <;> simp_all [oneV, Value.oneCell']
  | tt => simp [Val] at hv; subst hv; rfl
  | ff => simp [Val] at hv; subst hv; rfl
  | row c v => obtain ⟨_, ⟨_, _, _, hu⟩, _⟩ := hv; subst hu; rfl
  | ptr k off => obtain ⟨_, hu⟩ := hv; subst hu; rfl
  | da cs => obtain ⟨_, _, hu, _⟩ := hv; subst hu; rfl
  | ra c v z i off => obtain ⟨_, ⟨_, hu⟩, _⟩ := hv; subst hu; rfl
  | agg cs => simp [one1] at h
  | tup cs => simp [one1] at h
  | fn f cs => obtain ⟨us, hu, _⟩ := hv; subst hu; rfl
  | ifc t x => obtain ⟨us, hu, _⟩ := hv; subst hu; rfl
  | mp k => obtain ⟨_, hu⟩ := hv; subst hu; rfl
  | und => simp [one1] at h
  | junk => simp [one1] at h

theorem cells_one {u : Value} (h : u.oneCell' = true) : u.cells = #[u] := by cases u <;> first | rfl | (simp [Value.oneCell'] at h)

theorem ones_val : ∀ {cs : List AV} {us : List Value}, ones cs = true → ValL g cs us → ∀ v ∈ us, v.oneCell' = true
  | [], [], _, _, v, hv => by simp at hv
  | c :: cs, u :: us, h, ⟨h1, h2⟩, v, hv => by
    unfold ones at h
    split at h
    · rename_i ho
      rcases List.mem_cons.1 hv with rfl | hv
      · exact one1_val ho h1
      · exact ones_val h h2 v hv
    · cases h

theorem okCells_val {x : AV} {u : Value} {ws : List AV} (h : okCells x = some ws) (hv : Val g x u) : ValL g ws u.cells.toList ∧ ∀ v ∈ u.cells.toList, v.oneCell' = true := by
  unfold okCells at h
  split at h
  · rename_i ho
    simp at h
    have hag : ∀ cs, x = .agg cs → ValL g ws u.cells.toList ∧ ∀ v ∈ u.cells.toList, v.oneCell' = true := by
      intro cs hx
      subst hx
      simp only [cellsA] at h ho
      subst h
      obtain ⟨us, hu, hl⟩ := hv
      subst hu
      exact ⟨by simpa [Value.cells] using hl, fun v hv' => ones_val ho hl v (by simpa [Value.cells] using hv')⟩
    by_cases hx : ∃ cs, x = .agg cs
    · obtain ⟨cs, hx⟩ := hx; exact hag cs hx
    · have hc : cellsA x = [x] := by
        cases x <;> first | rfl | (exact absurd ⟨_, rfl⟩ hx)
      rw [hc] at h ho
      subst h
      have h1 : one1 x = true := by
        unfold ones at ho
        split at ho
        · assumption
        · cases ho
      have hu := one1_val h1 hv
      rw [cells_one hu]
      exact ⟨⟨hv, trivial⟩, by intro v hv'; simp at hv'; subst hv'; exact hu⟩
  · cases h

/-! ### 'build' -/
theorem zip_fill (vs : List Value) : ∀ (off k : Nat) (cells : Array Value), off + k + vs.length ≤ cells.size →
    ((vs.zipIdx k).foldl (fun (cs : Array Value) (x : Value × Nat) => cs.setIfInBounds (off + x.2) x.1) cells).toList =
      cells.toList.take (off + k) ++ vs ++ cells.toList.drop (off + k + vs.length) := by
  induction vs with
  | nil => intro off k cells _; simp
  | cons v vs ih =>
    intro off k cells h
    simp only [List.length_cons] at h
    simp only [List.zipIdx_cons, List.foldl_cons]
    rw [ih off (k + 1) _ (by simp; omega)]
    simp only [Array.toList_setIfInBounds, List.length_cons]
    apply List.ext_getElem?
    intro j
    have hl : off + k < cells.toList.length := by simp; omega
    simp only [List.getElem?_append, List.length_append, List.length_take, List.length_set, List.length_cons, List.getElem?_drop]
    have e1 : min (off + (k + 1)) cells.toList.length = off + k + 1 := by omega
    have e2 : min (off + k) cells.toList.length = off + k := by omega
    rw [e1, e2]
    by_cases h1 : j < off + k
    · rw [if_pos (by omega), if_pos (by omega), if_pos (by omega), if_pos h1, List.getElem?_take_of_lt (by omega), List.getElem?_take_of_lt h1, List.getElem?_set_ne (by omega)]
    · by_cases h2 : j = off + k
      · subst h2
        rw [if_pos (by omega), if_pos (by omega), if_pos (by omega), if_neg (by omega), List.getElem?_take_of_lt (by omega), List.getElem?_set_self (by omega)]
        simp
      · by_cases h3 : j < off + k + (vs.length + 1)
        · rw [if_pos (by omega), if_neg (by omega), if_pos h3, if_neg h1]
          have : j - (off + k) = (j - (off + k + 1)) + 1 := by omega
          rw [this]; simp
        · rw [if_neg (by omega), if_neg (by omega), List.getElem?_set_ne (by omega)]
          congr 1; omega

theorem fold_fill (u : Value) (off : Nat) (cells : Array Value) (h : off + u.cells.size ≤ cells.size) :
    (u.cells.zipIdx.foldl (fun cs (c, j) => cs.setIfInBounds (off + j) c) cells).toList =
      cells.toList.take off ++ u.cells.toList ++ cells.toList.drop (off + u.cells.size) := by
  rw [← Array.foldl_toList, Array.toList_zipIdx]
  have := zip_fill u.cells.toList off 0 cells (by simpa using h)
  simpa using this

theorem fillA_sound (hτ : Tok P τ) {e : Operand → AV} {ev : Operand → Value} (he : ∀ x, Val g (e x) (ev x)) {fs : Array Field}
    (place : Nat → Option (Nat × Nat)) (hp : ∀ i f, fs[i]? = some f → (tg τ f.type).size ≠ 0 → place i = some (f.offset, (tg τ f.type).size)) :
    ∀ (parts : List (Nat × Operand)) (cells : List AV) (us : Array Value) (r : List AV), ValL g cells us.toList →
      fillA τ (fs.toList.map fun f => (f.offset, f.type)) e cells parts = some r →
      ∃ us', Instr.fill place us (parts.map fun x => (x.1, ev x.2)) = some us' ∧ ValL g r us'.toList
  | [], cells, us, r, hv, h => by
    simp [fillA] at h; subst h
    exact ⟨us, rfl, hv⟩
  | (i, x) :: parts, cells, us, r, hv, h => by
    unfold fillA at h
    dsimp only at h
    split at h
    · cases h
    · rename_i hlt
      have hlt' : i < fs.size := by
        have := Nat.le_of_ble_eq_true hlt
        rw [ln_eq] at this; simp at this; omega
      have hf : fs[i]? = some fs[i] := by simp [hlt']
      have hn : nth (fs.toList.map fun f => (f.offset, f.type)) i (0, 0) = (fs[i].offset, fs[i].type) := by
        rw [nth_eq]; simp [List.getD, hlt']
      rw [hn] at h
      dsimp only at h
      split at h
      · cases h
      · cases h
      · rename_i c cs hoc
        split at h
        · cases h
        · rename_i hsz
          have hsz := Nat.eq_of_beq_eq_true hsz
          rw [ln_eq] at hsz
          obtain ⟨hcv, _⟩ := okCells_val hoc (he x)
          have hlen := ValL_length hcv
          have hsize : (ev x).cells.size = (tg τ fs[i].type).size := by rw [← hsz, hlen]; simp
          split at h
          · rename_i cells' hs
            obtain ⟨hle, hs⟩ := splice_eq _ _ _ _ hs
            have hul := ValL_length hv
            have hle' : fs[i].offset + (ev x).cells.size ≤ us.size := by
              have : (ev x).cells.size = (c :: cs).length := by rw [hlen]; simp
              rw [this]; simp at hul; omega
            have hpl := hp i _ hf (by rw [← hsz]; simp)
            have hfold := fold_fill (ev x) fs[i].offset us hle'
            have hnew : ValL g cells' ((ev x).cells.zipIdx.foldl (fun cs (c, j) => cs.setIfInBounds (fs[i].offset + j) c) us).toList := by
              rw [hfold, hs]
              have hl2 : (c :: cs).length = (ev x).cells.size := by rw [hlen]; simp
              rw [hl2]
              exact ValL_append (ValL_append (ValL_take _ hv) hcv) (ValL_drop _ hv)
            obtain ⟨us', h1, h2⟩ := fillA_sound hτ he place hp parts cells' _ r hnew h
            refine ⟨us', ?_, h2⟩
            simp only [List.map_cons, Instr.fill, hpl]
            rw [if_neg (by simp [hsize]; rw [← hsize]; omega)]
            exact h1
          · cases h
end
end Ab

/- The frame 'Ab' is sound, fourth part: what reads, and nothing else, comes to what it is told. -/
namespace Ab
open Go
set_option linter.unusedSimpArgs false
set_option linter.unusedVariables false

section
variable {P : Program} {τ : Tab} {w : World} {g : Gh} {O : List Obj}

theorem wrap_in {k : IntKind} {n : Int} (h1 : k.min ≤ n) (h2 : n ≤ k.max) : k.wrap n = n := by
  cases k <;> simp [IntKind.wrap, IntKind.min, IntKind.max, IntKind.bits, IntKind.signed] at * <;> omega

theorem boolOf_val {x : AV} {b : Bool} {u : Value} (h : boolOf x = some b) (hv : Val g x u) : u = .bool b := by
  unfold boolOf at h
  split at h <;> simp at h <;> subst h <;> simpa [Val, DVal] using hv

theorem intK_sound {op : BinOp} {k : IntKind} {a b : Int} {K : AV → Prop} (t : TypeId) (h : intK op k a b K) :
    ∃ v u, K v ∧ Val g v u ∧ (Go.binOp op t (.int k a) (.int k b)).run P w = .ok u w := by
  cases op <;> simp only [intK] at h
  case add => obtain ⟨h1, h2, h⟩ := h; exact ⟨_, _, h, rfl, by simp [Go.binOp, Op.intArith, wrap_in h1 h2]⟩
  case sub => obtain ⟨h1, h2, h⟩ := h; exact ⟨_, _, h, rfl, by simp [Go.binOp, Op.intArith, wrap_in h1 h2]⟩
  case mul => obtain ⟨h1, h2, h⟩ := h; exact ⟨_, _, h, rfl, by simp [Go.binOp, Op.intArith, wrap_in h1 h2]⟩
  case quo => obtain ⟨h0, h1, h2, h⟩ := h; exact ⟨_, _, h, rfl, by simp [Go.binOp, Op.intDiv, h0, wrap_in h1 h2]⟩
  case rem => obtain ⟨h0, h⟩ := h; exact ⟨_, _, h, rfl, by simp [Go.binOp, Op.intDiv, h0]⟩
  case and => exact ⟨_, _, h, rfl, by simp [Go.binOp, Op.intBits, bitsOp]⟩
  case or => exact ⟨_, _, h, rfl, by simp [Go.binOp, Op.intBits, bitsOp]⟩
  case xor => exact ⟨_, _, h, rfl, by simp [Go.binOp, Op.intBits, bitsOp]⟩
  case andNot => exact ⟨_, _, h, rfl, by simp [Go.binOp, Op.intBits, bitsOp]⟩
  case eql => exact ⟨_, _, h, rfl, by simp [Go.binOp, Op.intCmp]⟩
  case neq => exact ⟨_, _, h, rfl, by simp [Go.binOp, Op.intCmp]⟩
  case lss => exact ⟨_, _, h, rfl, by simp [Go.binOp, Op.intCmp]⟩
  case leq => exact ⟨_, _, h, rfl, by simp [Go.binOp, Op.intCmp]⟩
  case gtr => exact ⟨_, _, h, rfl, by simp [Go.binOp, Op.intCmp]⟩
  case geq => exact ⟨_, _, h, rfl, by simp [Go.binOp, Op.intCmp]⟩

theorem size_mk (l : List UInt8) : (⟨l.toArray⟩ : ByteArray).size = l.length := by simp [ByteArray.size]
theorem append_mk (a b : List UInt8) : (⟨a.toArray⟩ : ByteArray) ++ ⟨b.toArray⟩ = ⟨(a ++ b).toArray⟩ := by
  apply ByteArray.ext
  apply Array.ext'
  rw [Joins.data_append]

theorem toList_mk' (l : List UInt8) : (⟨l.toArray⟩ : ByteArray).toList = l := by rw [ByteArray.toList_eq]

theorem strK_sound {op : BinOp} {a b : List UInt8} {K : AV → Prop} (t : TypeId) (h : strK op a b K) :
    ∃ v u, K v ∧ Val g v u ∧ (Go.binOp op t (.string ⟨a.toArray⟩) (.string ⟨b.toArray⟩)).run P w = .ok u w := by
  cases op <;> simp only [strK] at h
  case add =>
    obtain ⟨h1, h⟩ := h
    refine ⟨_, _, h, rfl, ?_⟩
    have : ¬ ((((⟨a.toArray⟩ : ByteArray).size + (⟨b.toArray⟩ : ByteArray).size : Nat) : Int) > IntKind.i64.max) := by
      rw [size_mk, size_mk]; simp [IntKind.max, IntKind.signed, IntKind.bits]; omega
    simp only [Go.binOp, Op.stringOp]
    rw [if_neg this]
    simp [append_mk]
  case eql => exact ⟨_, _, h, rfl, by simp [Go.binOp, Op.stringOp, toList_mk']⟩
  case neq => exact ⟨_, _, h, rfl, by simp [Go.binOp, Op.stringOp, toList_mk']⟩
  all_goals exact h.elim

theorem guard_int (op : BinOp) (t : TypeId) (x y : Operand) (k k' : IntKind) (a b : Int) : (eqGuard op t x y (.int k a) (.int k' b)).run P w = .ok () w := by
  unfold eqGuard; split <;> simp
theorem guard_str (op : BinOp) (t : TypeId) (x y : Operand) (a b : ByteArray) : (eqGuard op t x y (.string a) (.string b)).run P w = .ok () w := by
  unfold eqGuard; split <;> simp
theorem guard_bool (op : BinOp) (t : TypeId) (x y : Operand) (a b : Bool) : (eqGuard op t x y (.bool a) (.bool b)).run P w = .ok () w := by
  unfold eqGuard; split <;> simp

theorem isNilI_val {x : AV} {b : Bool} {u : Value} (h : isNilI x = some b) (hv : Val g x u) :
    (b = true ∧ u = .nilIface) ∨ (b = false ∧ ∃ t y, u = .iface t y) := by
  unfold isNilI at h
  split at h <;> simp at h <;> subst h
  · left; exact ⟨rfl, hv.1⟩
  · right; exact ⟨rfl, ⟨_, _, hv.1⟩⟩
  · right; obtain ⟨us, hu, _⟩ := hv; exact ⟨rfl, ⟨_, _, hu⟩⟩
  · right; obtain ⟨us, hu, _⟩ := hv; exact ⟨rfl, ⟨_, _, hu⟩⟩
  · right; obtain ⟨us, hu, _⟩ := hv; exact ⟨rfl, ⟨_, _, hu⟩⟩
theorem isNilF_val {x : AV} {b : Bool} {u : Value} (h : isNilF x = some b) (hv : Val g x u) :
    (b = true ∧ u = .nilFunc) ∨ (b = false ∧ ∃ f a c, u = .func f a c) := by
  unfold isNilF at h
  split at h <;> simp at h <;> subst h
  · left; exact ⟨rfl, hv.1⟩
  · right; obtain ⟨us, hu, _⟩ := hv; exact ⟨rfl, ⟨_, _, _, hu⟩⟩

theorem equal_step {t : TypeId} {d : TypeDesc} {x y : Value} (hu : P.underlying t = some d) :
    (Op.equal t x y).run P w = (Op.equalIn (9999 + 1) t x y).run P w := rfl
theorem eq_nilI {t : TypeId} {ms} (hu : P.underlying t = some (.interface ms)) : (Op.equal t .nilIface .nilIface).run P w = .ok true w := by
  rw [equal_step hu, Op.equalIn, Sem.run_bind, run_underlying hu]; rfl
theorem eq_someI {t : TypeId} {ms} {a : TypeId} {b : Value} (hu : P.underlying t = some (.interface ms)) : (Op.equal t (.iface a b) .nilIface).run P w = .ok false w := by
  rw [equal_step hu, Op.equalIn, Sem.run_bind, run_underlying hu]; rfl
theorem eq_nilF {t : TypeId} {a b c} (hu : P.underlying t = some (.func a b c)) : (Op.equal t .nilFunc .nilFunc).run P w = .ok true w := by
  rw [equal_step hu, Op.equalIn, Sem.run_bind, run_underlying hu]; rfl
theorem eq_someF {t : TypeId} {a b c} {f : Fn} {x y : Array Value} (hu : P.underlying t = some (.func a b c)) : (Op.equal t (.func f x y) .nilFunc).run P w = .ok false w := by
  rw [equal_step hu, Op.equalIn, Sem.run_bind, run_underlying hu]; rfl
theorem eq_bool {t : TypeId} {a b : Bool} (hu : P.underlying t = some .bool) : (Op.equal t (.bool a) (.bool b)).run P w = .ok (a == b) w := by
  rw [equal_step hu, Op.equalIn, Sem.run_bind, run_underlying hu]; rfl

/-- '==' and '!=' where Go's own equality is asked -/
theorem eqop {t : TypeId} {x y : Operand} {a b : Value} {r : Bool} (hg : (eqGuard .eql t x y a b).run P w = .ok () w) (hq : (Op.equal t a b).run P w = .ok r w)
    (hb : Go.binOp .eql t a b = (do pure (.bool (← Op.equal t a b)))) : ((do eqGuard .eql t x y a b; Go.binOp .eql t a b) : Sem Value).run P w = .ok (.bool r) w := by
  rw [hb]; simp [hg, hq]
theorem neop {t : TypeId} {x y : Operand} {a b : Value} {r : Bool} (hg : (eqGuard .neq t x y a b).run P w = .ok () w) (hq : (Op.equal t a b).run P w = .ok r w)
    (hb : Go.binOp .neq t a b = (do pure (.bool (!(← Op.equal t a b))))) : ((do eqGuard .neq t x y a b; Go.binOp .neq t a b) : Sem Value).run P w = .ok (.bool (!r)) w := by
  rw [hb]; simp [hg, hq]

theorem bAV_val (b : Bool) : Val g (bAV b) (.bool b) := by cases b <;> rfl

theorem nilK_sound (hτ : Tok P τ) {e : Operand → AV} {ev : Operand → Value} (he : ∀ x, Val g (e x) (ev x)) {op : BinOp} {t : TypeId} {x y : Operand} {K : AV → Prop}
    (hc : constNil y = true) (h : nilK τ op t (e x) (e y) K) :
    ∃ v u, K v ∧ Val g v u ∧ ((do eqGuard op t x y (ev x) (ev y); Go.binOp op t (ev x) (ev y)) : Sem Value).run P w = .ok u w := by
  have hcy : ∃ c, y = .const c := by
    unfold constNil at hc; split at hc <;> first | exact ⟨_, rfl⟩ | cases hc
  obtain ⟨c, rfl⟩ := hcy
  unfold nilK at h
  split at h
  · rename_i hk hy
    have tk1 := hτ.of_kind (t := t) (by rw [hk]; simp)
    have hkd := tk1.kind
    rw [kindOk, hk] at hkd
    obtain ⟨ms, hu⟩ := hkd
    have hey : ev (.const c) = .nilIface := by have := he (.const c); rw [hy] at this; exact this.1
    split at h
    · rename_i b hb
      rw [hey]
      rcases isNilI_val hb (he x) with ⟨rfl, hx⟩ | ⟨rfl, t', y', hx⟩ <;> rw [hx]
      · split at h
        · exact ⟨_, _, h, bAV_val _, eqop (by simp [eqGuard]) (eq_nilI hu) rfl⟩
        · exact ⟨_, _, h, bAV_val _, neop (by simp [eqGuard]) (eq_nilI hu) rfl⟩
        · exact h.elim
      · split at h
        · exact ⟨_, _, h, bAV_val _, eqop (by simp [eqGuard]) (eq_someI hu) rfl⟩
        · exact ⟨_, _, h, bAV_val _, neop (by simp [eqGuard]) (eq_someI hu) rfl⟩
        · exact h.elim
    · exact h.elim
  · rename_i hk hy
    have tk1 := hτ.of_kind (t := t) (by rw [hk]; simp)
    have hkd := tk1.kind
    rw [kindOk, hk] at hkd
    obtain ⟨a, b, c', hu⟩ := hkd
    have hey : ev (.const c) = .nilFunc := by have := he (.const c); rw [hy] at this; exact this.1
    split at h
    · rename_i b hb
      rw [hey]
      rcases isNilF_val hb (he x) with ⟨rfl, hx⟩ | ⟨rfl, t', y', z', hx⟩ <;> rw [hx]
      · split at h
        · exact ⟨_, _, h, bAV_val _, eqop (by simp [eqGuard]) (eq_nilF hu) rfl⟩
        · exact ⟨_, _, h, bAV_val _, neop (by simp [eqGuard]) (eq_nilF hu) rfl⟩
        · exact h.elim
      · split at h
        · exact ⟨_, _, h, bAV_val _, eqop (by simp [eqGuard]) (eq_someF hu) rfl⟩
        · exact ⟨_, _, h, bAV_val _, neop (by simp [eqGuard]) (eq_someF hu) rfl⟩
        · exact h.elim
    · exact h.elim
  · exact h.elim

theorem binK_sound (hτ : Tok P τ) {e : Operand → AV} {ev : Operand → Value} (he : ∀ x, Val g (e x) (ev x)) {op : BinOp} {t : TypeId} {x y : Operand} {K : AV → Prop}
    (h : binK τ op t (e x) (e y) K) :
    ∃ v u, K v ∧ Val g v u ∧ ((do eqGuard op t x y (ev x) (ev y); Go.binOp op t (ev x) (ev y)) : Sem Value).run P w = .ok u w := by
  unfold binK at h
  split at h
  · rename_i k a k' b hx hy
    split at h
    · rename_i hk
      have := kq_eq hk; subst this
      have h1 : ev x = .int k a := by have := he x; rw [hx] at this; exact this
      have h2 : ev y = .int k b := by have := he y; rw [hy] at this; exact this
      obtain ⟨v, u, hK, hv, hr⟩ := intK_sound (P := P) (w := w) (g := g) t h
      exact ⟨v, u, hK, hv, by rw [h1, h2]; simp [guard_int, hr]⟩
    · exact h.elim
  · rename_i a b hx hy
    have h1 : ev x = .string ⟨a.toArray⟩ := by have := he x; rw [hx] at this; exact this
    have h2 : ev y = .string ⟨b.toArray⟩ := by have := he y; rw [hy] at this; exact this
    obtain ⟨v, u, hK, hv, hr⟩ := strK_sound (P := P) (w := w) (g := g) t h
    exact ⟨v, u, hK, hv, by rw [h1, h2]; simp [guard_str, hr]⟩
  · unfold boolK at h
    split at h
    · rename_i a b hk ha hb
      have h1 := boolOf_val ha (he x)
      have h2 := boolOf_val hb (he y)
      have tk1 := hτ.of_kind (t := t) (by rw [hk]; simp)
      have hu := tk1.kind
      rw [kindOk, hk] at hu
      dsimp only at hu
      rw [h1, h2]
      split at h
      · exact ⟨_, _, h, rfl, eqop (guard_bool _ _ _ _ _ _) (eq_bool hu) rfl⟩
      · exact ⟨_, _, h, rfl, neop (guard_bool _ _ _ _ _ _) (eq_bool hu) rfl⟩
      · exact h.elim
    · exact h.elim
end
end Ab

/- The frame 'Ab' is sound, fifth part: every operation that only reads. -/
namespace Ab
open Go
set_option linter.unusedSimpArgs false
set_option linter.unusedVariables false

section
variable {P : Program} {τ : Tab} {w : World} {g : Gh} {O : List Obj}

theorem asB_run {b : Bool} : (asBool (.bool b)).run P w = .ok b w := rfl

theorem intOf_val {x : AV} {n : Int} {u : Value} (h : intOf? x = some n) (hv : Val g x u) : ∃ k, u = .int k n := by
  unfold intOf? at h
  split at h
  · rename_i k m
    simp at h; subst h; exact ⟨k, hv⟩
  · cases h

theorem bytes_sound : ∀ {xs : List (List DV)} {l : List UInt8} {us : List Value}, bytesOf xs = some l → DList g.imm xs.flatten us →
    ∃ ns : List Int, us = ns.map (Value.int .u8) ∧ xs.length = us.length ∧ l = ns.map (fun n => UInt8.ofNat n.toNat)
  | [], l, us, h, hd => by
    simp [bytesOf] at h; subst h
    cases us with
    | nil => exact ⟨[], rfl, rfl, rfl⟩
    | cons u us => exact hd.elim
  | x :: xs, l, us, h, hd => by
    unfold bytesOf at h
    split at h
    · rename_i heq; cases heq
    · rename_i n r heq
      simp only [List.cons.injEq] at heq
      obtain ⟨rfl, rfl⟩ := heq
      split at h
      · rename_i l' hl'
        simp at h; subst h
        cases us with
        | nil => exact hd.elim
        | cons u us =>
          have hd' : DVal g.imm (.i .u8 n) u ∧ DList g.imm xs.flatten us := by simpa [DList] using hd
          obtain ⟨hu, hd2⟩ := hd'
          simp only [DVal] at hu
          subst hu
          obtain ⟨ns, h1, h2, h3⟩ := bytes_sound hl' hd2
          exact ⟨n :: ns, by simp [h1], by simp [h2], by simp [h3]⟩
      · cases h
    · cases h

theorem push_fold : ∀ (ns : List Int) (s : ByteArray), ns.foldl (fun r n => r.push (UInt8.ofNat n.toNat)) s = ⟨(s.data.toList ++ ns.map (fun n => UInt8.ofNat n.toNat)).toArray⟩
  | [], s => by simp
  | n :: ns, s => by
    simp only [List.foldl_cons]
    rw [push_fold ns]
    simp [ByteArray.push]

theorem run_bytes {b off cap : Nat} {ns : List Int} (hm : ∀ j, j < ns.length → w.cell? ⟨b, off + j, none⟩ = some (.int .u8 (ns.getD j 0))) :
    (Conv.bytesToString (.slice (some ⟨b, off, none⟩) ns.length cap)).run P w = .ok (.string ⟨(ns.map (fun n => UInt8.ofNat n.toNat)).toArray⟩) w := by
  have hl := run_loadCells_list (P := P) w ⟨b, off, none⟩ (ns.map (Value.int .u8)) (fun j v hj => by
    rw [add_none]
    simp only [List.getElem?_map, Option.map_eq_some_iff] at hj
    obtain ⟨n, hn, rfl⟩ := hj
    have hj' : j < ns.length := by
      rcases Nat.lt_or_ge j ns.length with h' | h'
      · exact h'
      · rw [List.getElem?_eq_none h'] at hn; cases hn
    rw [hm j hj', List.getD_eq_getElem?_getD, hn]; rfl)
  rw [List.length_map] at hl
  rw [run_bytesToString w _ _ cap ns hl, push_fold]
  simp

theorem bndK_sound0 {len : Nat} {lo hi : Option Operand} {e : Operand → AV} {ev : Operand → Value} (he : ∀ x, Val g (e x) (ev x)) {k : Nat → Nat → Prop} (sl : Bool) (cap : Nat) (hcap : len ≤ cap)
    (h : bndK len (omap e lo) (omap e hi) k) : ∃ a b, k a b ∧ a ≤ b ∧ b ≤ len ∧ (Instr.sliceBounds sl len cap (lo.map ev) (hi.map ev) none).run P w = .ok (a, b, cap) w ∧ (lo = none → a = 0) := by
  have bnd : ∀ (x : Operand) (n : Int) (y : Nat) (code : BoundsCode), intOf? (e x) = some n → 0 ≤ n → n ≤ (y : Int) → (Instr.sliceBound (ev x) y code).run P w = .ok n.toNat w := by
    intro x n y code hx h0 h1
    obtain ⟨kk, hk⟩ := intOf_val hx (he x)
    simp [Instr.sliceBound, hk, asIntOf, h0, h1]
  cases lo with
  | none =>
    cases hi with
    | none =>
      simp only [omap, bndK] at h
      exact ⟨_, _, h, by omega, by omega, by simp [Instr.sliceBounds], fun _ => rfl⟩
    | some hi =>
      simp only [omap, bndK] at h
      split at h
      · rename_i n hn
        obtain ⟨⟨h0, h1⟩, h⟩ := h
        exact ⟨_, _, h, by omega, by omega, by simp [Instr.sliceBounds, bnd hi n cap _ hn h0 (by omega)], fun _ => rfl⟩
      · exact h.elim
  | some lo =>
    cases hi with
    | none =>
      simp only [omap, bndK] at h
      split at h
      · rename_i n hn
        obtain ⟨⟨h0, h1⟩, h⟩ := h
        exact ⟨_, _, h, by omega, by omega, by simp [Instr.sliceBounds, bnd lo n len _ hn h0 h1], fun e => by cases e⟩
      · exact h.elim
    | some hi =>
      simp only [omap, bndK] at h
      split at h
      · rename_i m n hm hn
        obtain ⟨⟨h0, h1, h2⟩, h⟩ := h
        refine ⟨_, _, h, by omega, by omega, ?_, fun e => by cases e⟩
        have hb := bnd hi n cap (if sl then .sliceAcap else .sliceAlen) hn (by omega) (by omega)
        have hc := bnd lo m n.toNat .sliceB hm h0 (by omega)
        simp [Instr.sliceBounds, hb, hc]
      · exact h.elim

theorem bndK_sound {len : Nat} {lo hi : Option Operand} {e : Operand → AV} {ev : Operand → Value} (he : ∀ x, Val g (e x) (ev x)) {k : Nat → Nat → Prop} (sl : Bool) (cap : Nat) (hcap : len ≤ cap)
    (h : bndK len (omap e lo) (omap e hi) k) : ∃ a b, k a b ∧ a ≤ b ∧ b ≤ len ∧ (Instr.sliceBounds sl len cap (lo.map ev) (hi.map ev) none).run P w = .ok (a, b, cap) w := by
  obtain ⟨a, b, h1, h2, h3, h4, _⟩ := bndK_sound0 (P := P) (w := w) he sl cap hcap h
  exact ⟨a, b, h1, h2, h3, h4⟩

theorem fields_of (hτ : Tok P τ) {s : Nat} (hk : (tg τ s).kind = .struct) : ∃ fs : Array Field, P.underlying s = some (.struct fs) ∧ fs.toList.map (fun f => (f.offset, f.type)) = (tg τ s).fs ∧ fs.toList.all (fun f => (P.info? f.type).isSome) = true := by
  have tk1 := hτ.of_kind (t := s) (by rw [hk]; simp)
  have hkd := tk1.kind
  rw [kindOk, hk] at hkd
  exact hkd

theorem field_of {fs : Array Field} {l : List (Nat × Nat)} (hl : fs.toList.map (fun f => (f.offset, f.type)) = l) {f : Nat} (hf : Nat.blt f (ln l) = true) :
    ∃ fd, fs[f]? = some fd ∧ nth l f (0, 0) = (fd.offset, fd.type) := by
  have hlt : f < fs.size := by
    have h := Nat.le_of_ble_eq_true hf
    rw [ln_eq, ← hl] at h; simp at h; omega
  refine ⟨fs[f], by simp [hlt], ?_⟩
  rw [nth_eq, ← hl]
  simp [List.getD, hlt]

theorem ValL_vD : ∀ (vs : List Value), vs.all oneV = true → ValL g ((vs.map vD).map .d) vs
  | [], _ => trivial
  | v :: vs, h => by
    simp only [List.all_cons, Bool.and_eq_true] at h
    exact ⟨DVal_vD _ v h.1, ValL_vD vs h.2⟩

theorem mkZero_sound (hτ : Tok P τ) {t : Nat} (hk : (tg τ t).kind ≠ .other) : ∃ u, (zeroValue t).run P w = .ok u w ∧ Val g (mkZero (tg τ t)) u := by
  have tk1 := hτ.of_kind hk
  obtain ⟨z, hz, hc, hs, hsh, hone⟩ := tk1.zero w
  refine ⟨z, hz, ?_⟩
  have hl := ValL_vD (g := g) z.cells.toList hone
  rw [hc] at hl
  unfold mkZero
  cases ha : (tg τ t).agg with
  | true =>
    rw [ha] at hsh
    dsimp only at hsh ⊢
    rw [mp1_eq]
    exact ⟨z.cells.toList, by rw [hsh]; simp [Value.cells], hl⟩
  | false =>
    rw [ha] at hsh
    dsimp only at hsh ⊢
    split
    · rename_i c hz1
      rw [hz1] at hl
      have h1 : z.cells.toList.length = 1 := by have := ValL_length hl; simpa using this.symm
      obtain ⟨u, hu⟩ : ∃ u, z.cells.toList = [u] := by
        match z.cells.toList, h1 with
        | [u], _ => exact ⟨u, rfl⟩
      rw [hu] at hl
      have : z = u := by
        rw [hsh]
        have : z.cells = #[u] := by apply Array.ext'; simpa using hu
        rw [this]; rfl
      rw [this]; exact hl.1
    · trivial

theorem rows_imm {I : Imm} {z b off : Nat} {c : List Value} : ∀ {xs : List (List DV)} {us : List Value} (k : Nat), (∀ r ∈ xs, r.length = z) → DList I xs.flatten us →
    (∀ j, j < us.length → rd I b (off + k + j) = us[j]?) → DRows I z b (off + k) xs := by
  intro xs
  induction xs with
  | nil => intro us k _ _ _; trivial
  | cons x xs ih =>
    intro us k hl hd hr
    have hx := hl x (by simp)
    have key : ∀ (cs : List DV) (vs : List Value) (o : Nat), DList I cs vs → (∀ j, j < vs.length → rd I b (o + j) = vs[j]?) → DCells I b o cs := by
      intro cs
      induction cs with
      | nil => intro vs o _ _; trivial
      | cons c cs ih2 =>
        intro vs o hd hr
        cases vs with
        | nil => exact hd.elim
        | cons v vs =>
          refine ⟨⟨v, by simpa using hr 0 (by simp), hd.1⟩, ih2 vs (o + 1) hd.2 fun j hj => ?_⟩
          have := hr (j + 1) (by simpa using hj)
          rw [show o + 1 + j = o + (j + 1) by omega, this]; simp
    have split_ : ∀ (cs ds : List DV) (vs : List Value), DList I (cs ++ ds) vs → DList I cs (vs.take cs.length) ∧ DList I ds (vs.drop cs.length) := by
      intro cs
      induction cs with
      | nil => intro ds vs h; exact ⟨by simp [DList], by simpa using h⟩
      | cons c cs ih3 =>
        intro ds vs h
        cases vs with
        | nil => exact h.elim
        | cons v vs =>
          obtain ⟨h1, h2⟩ := h
          obtain ⟨h3, h4⟩ := ih3 ds vs h2
          exact ⟨⟨h1, h3⟩, h4⟩
    rw [List.flatten_cons] at hd
    obtain ⟨h1, h2⟩ := split_ _ _ _ hd
    refine ⟨hx, key _ _ _ h1 (fun j hj => ?_), ?_⟩
    · simp only [List.length_take] at hj
      rw [List.getElem?_take_of_lt (by omega)]
      exact hr j (by omega)
    · have := ih (us := us.drop x.length) (k + z) (fun r hr => hl r (List.mem_cons_of_mem _ hr)) h2 (fun j hj => by
        simp only [List.length_drop] at hj
        rw [List.getElem?_drop, hx, show off + (k + z) + j = off + k + (z + j) by omega]
        exact hr (z + j) (by rw [hx] at hj; omega))
      rw [show off + k + z = off + (k + z) by omega]; exact this
end
end Ab

/- The frame 'Ab' is sound, sixth part: 'evK' is true of what the model runs. -/
namespace Ab
open Go
set_option linter.unusedSimpArgs false
set_option linter.unusedVariables false

section
variable {P : Program} {τ : Tab} {w : World} {g : Gh} {O : List Obj}

/-- The slice of a row as it is: its elements' cells, one behind the other. -/
theorem RowAt.all {k : Nat} {st : Bool} {z : Nat} {xs : List (List DV)} {a : Option Addr} {cap : Nat} (h : RowAt w g k st z xs a cap) :
    xs = [] ∨ ∃ b off us, a = some ⟨b, off, none⟩ ∧ DList g.imm xs.flatten us ∧ us.length = xs.length * z ∧ ∀ j, j < us.length → w.cell? ⟨b, off + j, none⟩ = us[j]? := by
  rcases h.mem with h0 | ⟨b, off, c, t, us, ha, hh, hs, ho, hu, hd, _⟩
  · left
    have := h.len
    cases xs with
    | nil => rfl
    | cons x xs => simp at this; omega
  · right
    have hul : us.length = xs.length * z := by
      rw [← hu]; simp
      have : xs.length * z ≤ cap * z := Nat.mul_le_mul_right z h.len
      omega
    refine ⟨b, off, us, ha, hd, hul, fun j hj => ?_⟩
    rw [← hu, List.getElem?_take_of_lt (by omega), List.getElem?_drop]
    simp only [World.cell?, hh]
    simp

theorem DRows_all {I : Imm} {z b : Nat} : ∀ {xs : List (List DV)} {off : Nat}, DRows I z b off xs → ∃ us, DList I xs.flatten us ∧ us.length = xs.length * z ∧ ∀ j, j < us.length → rd I b (off + j) = us[j]?
  | [], off, _ => ⟨[], trivial, by simp, fun j h => by simp at h⟩
  | x :: xs, off, ⟨h1, h2, h3⟩ => by
    obtain ⟨us, ha, hb⟩ := DCells_list h2
    obtain ⟨vs, hc, hd, he⟩ := DRows_all h3
    have app : ∀ (cs ds : List DV) (us vs : List Value), DList I cs us → DList I ds vs → DList I (cs ++ ds) (us ++ vs) := by
      intro cs
      induction cs with
      | nil => intro ds us vs h k; cases us with
        | nil => exact k
        | cons u us => exact h.elim
      | cons c cs ih => intro ds us vs h k; cases us with
        | nil => exact h.elim
        | cons u us => exact ⟨h.1, ih ds us vs h.2 k⟩
    have hul : us.length = z := by rw [← DList_length ha, h1]
    refine ⟨us ++ vs, by rw [List.flatten_cons]; exact app _ _ _ _ ha hc, by simp [hul, hd, Nat.add_mul]; omega, fun j hj => ?_⟩
    rcases Nat.lt_or_ge j us.length with h | h
    · rw [List.getElem?_append_left h]; exact hb j h
    · rw [List.getElem?_append_right h]
      have := he (j - us.length) (by simp at hj; omega)
      rw [← this]; congr 1; omega

theorem rowOf_none_of_stale : True := trivial

theorem len_run {ev : Operand → Value} {o : Oper} {x : Operand} {t : TypeId} {n : Int} (ho : o.op = .call { callee := .builtin .len, args := #[x], argTypes := #[t] })
    (h : (Builtin.len_ #[t] o.type #[ev x]).run P w = .ok (.int .i64 n) w) : (execOp ev o).run P w = .ok (.value (.int .i64 n)) w := by
  simp [execOp, ho, resolve, invoke, Go.builtin, h]

theorem args_one {α : Type} {a : Array α} {x : α} (h : a.toList = [x]) : a = #[x] := by apply Array.ext'; simpa using h

theorem cv_val (v : Value) : Val g (cv v) v := by
  cases v <;> simp [cv, Val, DVal, oneV]
  case bool b => cases b <;> simp [Val]

theorem places_run (fs : Array Field) (h : fs.toList.all (fun f => (P.info? f.type).isSome) = true) :
    (fs.mapM fun f => do pure (f.offset, ← Go.sizeOf f.type) : Sem (Array (Nat × Nat))).run P w = .ok (fs.map fun f => (f.offset, P.cellsOf f.type)) w := by
  have key : ∀ l : List Field, l.all (fun f => (P.info? f.type).isSome) = true →
      (l.mapM fun f => do pure (f.offset, ← Go.sizeOf f.type) : Sem (List (Nat × Nat))).run P w = .ok (l.map fun f => (f.offset, P.cellsOf f.type)) w := by
    intro l
    induction l with
    | nil => intro _; simp
    | cons f l ih =>
      intro h
      simp only [List.all_cons, Bool.and_eq_true] at h
      obtain ⟨ti, hti⟩ := Option.isSome_iff_exists.1 h.1
      have hs : (Go.sizeOf f.type).run P w = .ok (P.cellsOf f.type) w := by simp [Go.sizeOf, typeInfo, hti, Program.cellsOf]
      simp only [List.mapM_cons, Sem.run_bind, hs, ih h.2, Result.andThen_ok, Sem.run_pure, List.map_cons]
  rw [Array.mapM_eq_mapM_toList]
  simp only [Sem.run_map, key fs.toList h, Result.andThen_ok]
  congr 1
  apply Array.ext'
  simp

/-- A part of a struct that is a value. -/
theorem part_sound (hτ : Tok P τ) {t off : Nat} {cs : List AV} {us : List Value} {K : AV → Prop} (hv : ValL g cs us)
    (h : loadK τ t (cs.drop off) K) : ∃ v u, K v ∧ Val g v u ∧ (Go.part t us.toArray off).run P w = .ok u w := by
  unfold loadK at h
  have hv' := ValL_drop off hv
  have hlen := ValL_length hv'
  generalize hi : tg τ t = i at h
  dsimp only at h
  split at h
  · rename_i n hs hle
    have tk1 : Tok1 P t i := hi ▸ hτ.of_size (by rw [hi, hs]; simp)
    have hle' : i.size ≤ us.length - off := by
      have := Nat.le_of_ble_eq_true hle
      rw [ln_eq, hlen, List.length_drop] at this; exact this
    have hsz := tk1.sizeOf w
    have hag := tk1.isAgg w
    split at h
    · rename_i ha
      rw [tk_eq] at h
      rw [ha] at hag
      refine ⟨_, .agg ((us.drop off).take i.size).toArray, h, ⟨_, rfl, ValL_take _ hv'⟩, ?_⟩
      simp only [Go.part, Sem.run_bind, hag, Result.andThen_ok, if_true, hsz, Sem.run_pure]
      congr 2
      apply Array.ext'
      simp [Array.toList_extract, List.extract_eq_take_drop]
    · rename_i ha
      rw [ha] at hag
      split at h
      · rename_i c hc
        rw [tk_eq] at hc
        have ht := ValL_take i.size hv'
        rw [hc] at ht
        have hl1 : ((us.drop off).take i.size).length = 1 := by have := ValL_length ht; simpa using this.symm
        obtain ⟨u, hu⟩ : ∃ u, (us.drop off).take i.size = [u] := by
          match (us.drop off).take i.size, hl1 with
          | [u], _ => exact ⟨u, rfl⟩
        rw [hu] at ht
        refine ⟨c, u, h, ht.1, ?_⟩
        have hu0 : us[off]? = some u := by
          have : ((us.drop off).take i.size)[0]? = some u := by rw [hu]; rfl
          rw [List.getElem?_take_of_lt (by omega), List.getElem?_drop] at this
          simpa using this
        simp [Go.part, hag, hu0]
      · exact h.elim
  · exact h.elim

/-- An operation that only reads comes to what the evaluator tells, and leaves the world as it is. -/
theorem evK_sound (hτ : Tok P τ) (hS : Sat w g O) {e : Operand → AV} {ev : Operand → Value} (he : ∀ x, Val g (e x) (ev x))
    (hcst : ∀ u, ev (.const u) = u) (hfn : ∀ f, ev (.func f) = .func (.func f) #[] #[])
    (o : Oper) {K : AV → Prop} (h : evK τ o.op e O K) : ∃ v u, K v ∧ Val g v u ∧ (execOp ev o).run P w = .ok (.value u) w := by
  obtain ⟨dst, op, ty, pos, aft, gd⟩ := o
  dsimp only at h
  cases op with
  | move x => exact ⟨_, _, h, he x, by simp [execOp]⟩
  | assign x => exact ⟨_, _, h, he x, by simp [execOp]⟩
  | pick c a b =>
    simp only [evK] at h
    have hc := he c
    split at h
    · rename_i hx; rw [hx] at hc; simp only [Val] at hc
      exact ⟨_, _, h, he a, by simp [execOp, hc, asBool]⟩
    · rename_i hx; rw [hx] at hc; simp only [Val] at hc
      exact ⟨_, _, h, he b, by simp [execOp, hc, asBool]⟩
    · rename_i cc hx; rw [hx] at hc; simp only [Val, DVal] at hc
      split at h
      · rename_i x y h1 h2
        have k1 := boolOf_val h1 (he a)
        have k2 := boolOf_val h2 (he b)
        refine ⟨_, _, h, rfl, ?_⟩
        cases cc <;> simp [execOp, hc, asBool, k1, k2]
      · exact h.elim
    · exact h.elim
  | build t parts =>
    simp only [evK] at h
    split at h
    · rename_i hk
      split at h
      · rename_i cs hf
        obtain ⟨fs, hu, hl, hall⟩ := fields_of hτ hk
        have tk1 := hτ.of_kind (t := t) (by rw [hk]; simp)
        obtain ⟨z, hz, hc, hs, _, hone⟩ := tk1.zero w
        have hzl := ValL_vD (g := g) z.cells.toList hone
        rw [hc, ← mp1_eq] at hzl
        rw [← hl] at hf
        have hpl := places_run (P := P) (w := w) fs hall
        obtain ⟨us, h1, h2⟩ := fillA_sound hτ he (fun i => (fs.map fun f => (f.offset, P.cellsOf f.type))[i]?) (fun i f hfi hsz => by
          simp only [Array.getElem?_map, hfi, Option.map_some]
          obtain ⟨ti, zz, hti, hts, _⟩ := (hτ.of_size hsz).info
          simp [Program.cellsOf, hti, hts]) parts.toList _ z.cells cs hzl hf
        refine ⟨_, .agg us, h, ⟨us.toList, by simp, h2⟩, ?_⟩
        have hparts : (parts.map fun x => (x.1, ev x.2)).toList = parts.toList.map fun x => (x.1, ev x.2) := by simp
        simp only [execOp, Instr.build, Sem.run_bind, hz, Result.andThen_ok, run_underlying hu, hpl, hparts, h1, Sem.run_pure]
      · exact h.elim
    · exact h.elim
  | load t a =>
    simp only [evK] at h
    have ha := he a
    split at h
    · rename_i n off hx
      rw [hx] at ha; obtain ⟨hn, hu⟩ := ha
      split at h
      · rename_i cs hcs
        obtain ⟨h1, h2⟩ := hS.get hcs (by simp)
        obtain ⟨c, t', hh, hown, him, _, hv⟩ := hS.obj n _ h1
        rw [dp_eq] at h
        obtain ⟨v, u, hK, hv', hr⟩ := loadK_sound (w := w) (b := g.blk n) (off := off) hτ (ValL_drop off hv) (fun j hj => by
          rw [List.getElem?_drop]; simp only [World.cell?, hh]; simp) h
        exact ⟨v, u, hK, hv', by simp [execOp, hu, hr]⟩
      · exact h.elim
    · rename_i cs hx
      rw [hx] at ha; obtain ⟨b, off, hu, hc⟩ := ha
      obtain ⟨us, h1, h2⟩ := hS.cells hc
      rw [mp1_eq] at h
      obtain ⟨v, u, hK, hv', hr⟩ := loadK_sound (w := w) (b := b) (off := off) hτ h1 h2 h
      exact ⟨v, u, hK, hv', by simp [execOp, hu, hr]⟩
    · rename_i c v z i off hx
      rw [hx] at ha
      split at h
      · rename_i st z' xs hro
        obtain ⟨hcn, a', cap, hrow, hat⟩ := hS.row hro
        split at h
        · rename_i hz
          have hz := Nat.eq_of_beq_eq_true hz; subst hz
          obtain ⟨r, hr, h⟩ := h
          obtain ⟨_, _, ha⟩ := ha
          rw [hrow] at ha
          rcases ha with ha | ⟨_, b, o2, len, cap', hs, hu⟩
          · simp at ha
          · obtain ⟨b', off', us, hab, hd, hcell⟩ := hat.elem hr
            simp only [Value.slice.injEq] at hs
            obtain ⟨hs1, _, _⟩ := hs
            rw [hab] at hs1
            simp only [Option.some.injEq, Addr.mk.injEq] at hs1
            obtain ⟨rfl, rfl, _⟩ := hs1
            rw [mp1_eq, dp_eq, List.map_drop] at h
            obtain ⟨v', u, hK, hv', hrr⟩ := loadK_sound (w := w) (b := b') (off := off' + i * z + off) hτ (ValL_drop off (ValL_of_DList hd)) (fun j hj => by
              rw [List.getElem?_drop, ← hcell (off + j) (by simp at hj; omega)]; congr 2; omega) h
            exact ⟨v', u, hK, hv', by simp [execOp, hu, hrr]⟩
        · exact h.elim
      · exact h.elim
    · exact h.elim
  | nilCheck x =>
    simp only [evK] at h
    have hx := he x
    split at h
    · rename_i n off hx'; rw [hx'] at hx
      refine ⟨_, _, h, hx, ?_⟩
      obtain ⟨_, hu⟩ := hx
      simp [execOp, hu]
    · rename_i cs hx'; rw [hx'] at hx
      refine ⟨_, _, h, hx, ?_⟩
      obtain ⟨_, _, hu, _⟩ := hx
      simp [execOp, hu]
    · rename_i c v z i off hx'; rw [hx'] at hx
      refine ⟨_, _, h, hx, ?_⟩
      obtain ⟨_, ⟨a, hu⟩, _⟩ := hx
      simp [execOp, hu]
    · rename_i f cs hx'; rw [hx'] at hx
      refine ⟨_, _, h, hx, ?_⟩
      obtain ⟨us, hu, _⟩ := hx
      simp [execOp, hu]
    · exact h.elim
  | binOp op t x y yt =>
    simp only [evK] at h
    split at h
    · rename_i hc
      obtain ⟨v, u, hK, hv, hr⟩ := nilK_sound (w := w) hτ he hc h
      exact ⟨v, u, hK, hv, by simp only [execOp, Sem.run_bind] at hr ⊢; simp [hr]⟩
    · obtain ⟨v, u, hK, hv, hr⟩ := binK_sound (w := w) (x := x) (y := y) hτ he h
      exact ⟨v, u, hK, hv, by simp only [execOp, Sem.run_bind] at hr ⊢; simp [hr]⟩
  | unOp op t x =>
    simp only [evK] at h
    have hx := he x
    split at h
    · split at h
      · rename_i hx'; rw [hx'] at hx; simp only [Val] at hx
        exact ⟨_, _, h, rfl, by simp [execOp, Op.unary, hx]⟩
      · rename_i hx'; rw [hx'] at hx; simp only [Val] at hx
        exact ⟨_, _, h, rfl, by simp [execOp, Op.unary, hx]⟩
      · rename_i c hx'; rw [hx'] at hx; simp only [Val, DVal] at hx
        exact ⟨_, _, h, rfl, by simp [execOp, Op.unary, hx]⟩
      · exact h.elim
    · split at h
      · rename_i k n hx'; rw [hx'] at hx; simp only [Val, DVal] at hx
        obtain ⟨h1, h2, h⟩ := h
        have hw := wrap_in h1 h2
        exact ⟨_, _, h, rfl, by simp only [Int.zero_sub] at hw ⊢; simp [execOp, Op.unary, Op.intArith, hx, hw]⟩
      · exact h.elim
    · exact h.elim
  | convert src dst' x =>
    simp only [evK] at h
    have hx := he x
    split at h
    · rename_i k hk
      have hd := (hτ.of_kind (t := dst') (by rw [hk]; simp)).kind
      rw [kindOk, hk] at hd
      dsimp only at hd
      split at h
      · exact h.elim
      · rename_i k' n hx' hne
        rw [hx'] at hx; simp only [Val, DVal] at hx
        obtain ⟨h1, h2, h⟩ := h
        obtain ⟨d, hs, _⟩ := (hτ.of_kind (t := src) (by intro e; exact hne e)).agg
        refine ⟨_, _, h, rfl, ?_⟩
        simp [execOp, convert, run_underlying hs, run_underlying hd, hx, Conv.intToInt, wrap_in h1 h2]
      · exact h.elim
    · rename_i hk
      have hd := (hτ.of_kind (t := dst') (by rw [hk]; simp)).kind
      rw [kindOk, hk] at hd
      dsimp only at hd
      split at h
      · rename_i hk2
        have hs := (hτ.of_kind (t := src) (by rw [hk2]; simp)).kind
        rw [kindOk, hk2] at hs
        dsimp only at hs
        split at h
        · rename_i l hx'
          rw [hx'] at hx; simp only [Val, DVal] at hx
          exact ⟨_, _, h, rfl, by simp [execOp, convert, run_underlying hs, run_underlying hd, hx]⟩
        · exact h.elim
      · rename_i hk2
        have hs := (hτ.of_kind (t := src) (by rw [hk2]; simp)).kind
        rw [kindOk, hk2] at hs
        dsimp only at hs
        split at h
        · rename_i hk3
          have hel := (hτ.of_kind (t := (tg τ src).elem) (by rw [hk3]; simp)).kind
          rw [kindOk, hk3] at hel
          dsimp only at hel
          have go : ∀ (a : Option Addr) (xs : List (List DV)) (cap : Nat) (l : List UInt8), bytesOf xs = some l →
              (xs = [] ∨ ∃ b off us, a = some ⟨b, off, none⟩ ∧ DList g.imm xs.flatten us ∧ ∀ j, j < us.length → w.cell? ⟨b, off + j, none⟩ = us[j]?) →
              ev x = .slice a xs.length cap → (convert src dst' (ev x)).run P w = .ok (.string ⟨l.toArray⟩) w := by
            intro a xs cap l hb hm hev
            rw [hev, run_convert_bytes_string w src dst' _ a _ _ hs hel hd]
            rcases hm with rfl | ⟨b, off, us, rfl, hdl, hcell⟩
            · simp [bytesOf] at hb; subst hb
              cases a with
              | none => simp [Conv.bytesToString]; rfl
              | some a =>
                rw [run_bytesToString w a _ cap [] (by simp [loadCells, loadCellsFrom])]
                simp
                rfl
            · obtain ⟨ns, h1, h2, h3⟩ := bytes_sound hb hdl
              subst h3
              rw [h2, h1, List.length_map]
              refine run_bytes (fun j hj => ?_)
              rw [hcell j (by rw [h1]; simpa using hj), h1]
              simp [hj, List.getD]
          replace hx := low_val hx
          split at h
          · rename_i xs hx'
            split at h
            · rename_i l hb
              rw [hx'] at hx
              obtain ⟨a, cap, hu, _, hr⟩ := hx
              refine ⟨_, _, h, rfl, ?_⟩
              have := go a xs cap l hb (by
                rcases hr with hr | ⟨b, off, ha, hr⟩
                · exact .inl hr
                · obtain ⟨us, h1, h2, h3⟩ := DRows_all hr
                  refine .inr ⟨b, off, us, ha, h1, fun j hj => ?_⟩
                  have h4 := h3 j hj
                  rw [List.getElem?_eq_getElem hj] at h4 ⊢
                  exact hS.rd h4) hu
              simp [execOp, this]
            · exact h.elim
          · rename_i c v hx'
            split at h
            · rename_i st xs hro
              split at h
              · rename_i l hb
                rw [hx'] at hx
                obtain ⟨hcn, a, cap, hrow, hat⟩ := hS.row hro
                have hu := Val_row hx hrow
                refine ⟨_, _, h, rfl, ?_⟩
                have := go a xs cap l hb (by
                  rcases hat.all with h1 | ⟨b, off, us, h1, h2, _, h3⟩
                  · exact .inl h1
                  · exact .inr ⟨b, off, us, h1, h2, h3⟩) hu
                simp [execOp, this]
              · exact h.elim
            · exact h.elim
          · exact h.elim
        · exact h.elim
      · exact h.elim
    · exact h.elim
  | fieldAddr s x f =>
    simp only [evK] at h
    split at h
    · rename_i hf hk
      obtain ⟨fs, hu, hl, hall⟩ := fields_of hτ hk
      obtain ⟨fd, hfd, hn⟩ := field_of hl hf
      rw [hn] at h
      dsimp only at h
      split at h
      · exact h.elim
      · rename_i m hsz
        have tk1 := hτ.of_size (t := fd.type) (by rw [hsz]; simp)
        have hso := tk1.sizeOf w
        have hne : ¬ (tg τ fd.type).size = 0 := by rw [hsz]; simp
        have run : ∀ b o, ev x = .pointer (some ⟨b, o, none⟩) → (Instr.fieldAt s (ev x) f).run P w = .ok (.pointer (some ⟨b, o + fd.offset, none⟩)) w := by
          intro b o hev
          simp [Instr.fieldAt, run_underlying hu, hfd, hev, Instr.sureAddr, fieldPlace, hso, hne, add_none]
        have hx := he x
        split at h
        · rename_i n off hx'
          rw [hx'] at hx
          obtain ⟨h1, h2⟩ := hx
          exact ⟨_, _, h, ⟨h1, rfl⟩, by simp [execOp, run _ _ h2]⟩
        · rename_i cs hx'
          rw [hx'] at hx
          obtain ⟨b, off, h1, h2⟩ := hx
          rw [dp_eq] at h
          exact ⟨_, _, h, ⟨b, off + fd.offset, rfl, DCells_drop _ h2⟩, by simp [execOp, run _ _ h1]⟩
        · rename_i c v z i off hx'
          rw [hx'] at hx
          obtain ⟨h1, ⟨a, h2⟩, h3⟩ := hx
          have hr : (Instr.fieldAt s (ev x) f).run P w = .ok (.pointer (some (a.add fd.offset))) w := by
            simp [Instr.fieldAt, run_underlying hu, hfd, h2, Instr.sureAddr, fieldPlace, hso, hne]
          refine ⟨_, .pointer (some (a.add fd.offset)), h, ⟨h1, ⟨_, rfl⟩, ?_⟩, by simp [execOp, hr]⟩
          rcases h3 with h3 | ⟨h3, b, o, len, cap, h4, h5⟩
          · exact .inl h3
          · refine .inr ⟨h3, b, o, len, cap, h4, ?_⟩
            rw [h2] at h5
            simp only [Value.pointer.injEq, Option.some.injEq] at h5
            rw [h5, add_none]
            simp [Nat.add_assoc]
        · exact h.elim
    · exact h.elim
  | field s x f =>
    simp only [evK] at h
    split at h
    · rename_i hf hk
      obtain ⟨fs, hu, hl, hall⟩ := fields_of hτ hk
      obtain ⟨fd, hfd, hn⟩ := field_of hl hf
      rw [hn] at h
      dsimp only at h
      split at h
      · rename_i cs hx'
        have hx := he x
        rw [hx'] at hx
        obtain ⟨us, hux, hv⟩ := hx
        rw [dp_eq] at h
        obtain ⟨v, u, hK, hv', hr⟩ := part_sound (w := w) hτ hv h
        exact ⟨v, u, hK, hv', by simp [execOp, Instr.field, run_underlying hu, hfd, hux, asAgg, hr]⟩
      · exact h.elim
    · exact h.elim
  | indexAddr t x ix =>
    simp only [evK] at h
    split at h
    · rename_i n hk hn
      obtain ⟨ki, hix⟩ := intOf_val hn (he ix)
      have hu := (hτ.of_kind (t := t) (by rw [hk]; simp)).kind
      rw [kindOk, hk] at hu
      dsimp only at hu
      have hx := low_val (he x)
      have ez : ∀ z, eqz τ t z = true → z = (tg τ (tg τ t).elem).size ∧ (tg τ (tg τ t).elem).size ≠ 0 := by
        intro z hz
        unfold eqz at hz
        split at hz
        · cases hz
        · rename_i m hm; exact ⟨by rw [hm]; exact Nat.eq_of_beq_eq_true hz, by rw [hm]; simp⟩
      have run : ∀ b o len cap, (tg τ (tg τ t).elem).size ≠ 0 → ev x = .slice (some ⟨b, o, none⟩) len cap → 0 ≤ n → n < (len : Int) →
          (Instr.indexAt t (ev x) (ev ix)).run P w = .ok (.pointer (some ⟨b, o + n.toNat * (tg τ (tg τ t).elem).size, none⟩)) w := by
        intro b o len cap hs hev h0 h1
        have hso := (hτ.of_size hs).sizeOf w
        simp [Instr.indexAt, hix, asIntOf, run_underlying hu, hev, h0, h1, hso, add_none]
      split at h
      · rename_i z xs hx'
        split at h
        · rename_i hz
          obtain ⟨rfl, hs⟩ := ez z hz
          obtain ⟨h0, r, hr, h⟩ := h
          rw [fDs_eq] at h
          rw [hx'] at hx
          obtain ⟨a, cap, hu', _, hrows⟩ := hx
          have hlt : n.toNat < xs.length := by
            rcases Nat.lt_or_ge n.toNat xs.length with h' | h'
            · exact h'
            · rw [List.getElem?_eq_none h'] at hr; cases hr
          rcases hrows with rfl | ⟨b, off, ha, hrows⟩
          · simp at hlt
          · subst ha
            obtain ⟨_, hc⟩ := DRows_get hrows hr
            exact ⟨_, _, h, ⟨b, _, rfl, hc⟩, by simp [execOp, run b off _ _ hs hu' h0 (by omega)]⟩
        · exact h.elim
      · rename_i c v hx'
        split at h
        · rename_i st z xs hro
          split at h
          · rename_i hz
            obtain ⟨rfl, hs⟩ := ez z hz
            obtain ⟨⟨h0, h1⟩, h⟩ := h
            obtain ⟨hcn, a, cap, hrow, hat⟩ := hS.row hro
            rw [hx'] at hx
            have hu' := Val_row hx hrow
            have hlt : n.toNat < xs.length := by omega
            obtain ⟨b, off, us, ha, _, _⟩ := hat.elem (i := n.toNat) (List.getElem?_eq_getElem hlt)
            subst ha
            refine ⟨_, _, h, ⟨hcn, ⟨_, rfl⟩, .inr ⟨by rw [hrow], b, off, _, _, by rw [hrow], rfl⟩⟩, ?_⟩
            simp [execOp, run b off _ _ hs hu' h0 (by omega)]
          · exact h.elim
        · exact h.elim
      · exact h.elim
    · exact h.elim
  | index t x ix =>
    simp only [evK] at h
    split at h
    · rename_i n hk hn
      obtain ⟨ki, hix⟩ := intOf_val hn (he ix)
      have hu := (hτ.of_kind (t := t) (by rw [hk]; simp)).kind
      rw [kindOk, hk] at hu
      dsimp only at hu
      have hx := he x
      split at h
      · rename_i l hx'
        rw [hx'] at hx; simp only [Val, DVal] at hx
        obtain ⟨h0, c, hc, h⟩ := h
        refine ⟨_, _, h, rfl, ?_⟩
        have hget : (⟨l.toArray⟩ : ByteArray)[n.toNat]? = some c := by
          have hlt : n.toNat < l.length := by
            rcases Nat.lt_or_ge n.toNat l.length with h' | h'
            · exact h'
            · rw [List.getElem?_eq_none h'] at hc; cases hc
          have hlt' : n.toNat < (⟨l.toArray⟩ : ByteArray).size := by rw [size_mk]; exact hlt
          rw [List.getElem?_eq_getElem hlt] at hc
          simp only [Option.some.injEq] at hc
          rw [← hc]
          exact getElem?_pos (⟨l.toArray⟩ : ByteArray) n.toNat hlt'
        simp [execOp, Instr.index, hix, asIntOf, run_underlying hu, hx, h0, hget]
      · exact h.elim
    · exact h.elim
  | slice t x lo hi mx =>
    simp only [evK] at h
    split at h
    · exact h.elim
    · split at h
      · rename_i hk
        have hu := (hτ.of_kind (t := t) (by rw [hk]; simp)).kind
        rw [kindOk, hk] at hu
        dsimp only at hu
        have hx := he x
        split at h
        · rename_i l hx'
          rw [hx'] at hx; simp only [Val, DVal] at hx
          obtain ⟨a, b, hK, hab, hbl, hr⟩ := bndK_sound (P := P) (w := w) he false l.length (Nat.le_refl _) h
          refine ⟨_, _, hK, rfl, ?_⟩
          have hs := size_mk l
          simp only [execOp, Instr.sliceAt, Sem.run_bind, run_underlying hu, Result.andThen_ok, Instr.slice, hx, Option.map_none, Option.isSome_none, Bool.false_eq_true, if_false, hs, hr, Sem.run_pure]
          rw [Lib.extract_eq]
          simp [List.drop_take]
        · exact h.elim
      · exact h.elim
  | extract x n =>
    simp only [evK] at h
    have hx := he x
    split at h
    · rename_i vs hx'
      split at h
      · rename_i hn
        rw [hx'] at hx
        obtain ⟨us, hu, hv⟩ := hx
        have hlt : n < us.length := by
          have := Nat.le_of_ble_eq_true hn
          rw [ln_eq, ValL_length hv] at this; omega
        have hg := ValL_get hv n
        rw [nth_eq] at h
        refine ⟨_, _, h, hg, ?_⟩
        simp [execOp, Instr.extract, hu, hlt, List.getD]
      · exact h.elim
    · exact h.elim
  | call c =>
    simp only [evK] at h
    obtain ⟨callee, args, ats⟩ := c
    dsimp only at h
    split at h
    · rename_i x t hargs hats
      have ha := args_one hargs
      have hb := args_one hats
      subst ha; subst hb
      have hx := low_val (he x)
      have run : ∀ n : Int, (Builtin.len_ #[t] ty #[ev x]).run P w = .ok (.int .i64 n) w →
          (execOp ev { dst := dst, op := .call { callee := .builtin .len, args := #[x], argTypes := #[t] }, type := ty, pos := pos, after := aft, guard := gd }).run P w = .ok (.value (.int .i64 n)) w :=
        fun n hn => len_run (o := { dst := dst, op := .call { callee := .builtin .len, args := #[x], argTypes := #[t] }, type := ty, pos := pos, after := aft, guard := gd }) rfl hn
      have hsl : (tg τ t).kind = .slice → ∀ a l c, ev x = .slice a l c → (Builtin.len_ #[t] ty #[ev x]).run P w = .ok (.int .i64 l) w := by
        intro hk a l c hev
        have hu := (hτ.of_kind (t := t) (by rw [hk]; simp)).kind
        rw [kindOk, hk] at hu
        dsimp only at hu
        simp [Builtin.len_, run_underlying hu, hev, goInt]
      split at h
      · rename_i z xs hk hx'
        rw [hx'] at hx
        obtain ⟨a, cap, hu, _⟩ := hx
        exact ⟨_, _, h, rfl, run _ (hsl hk _ _ _ hu)⟩
      · rename_i c v hk hx'
        split at h
        · rename_i st z xs hro
          rw [hx'] at hx
          obtain ⟨hcn, a, cap, hrow, hat⟩ := hS.row hro
          exact ⟨_, _, h, rfl, run _ (hsl hk _ _ _ (Val_row hx hrow))⟩
        · exact h.elim
      · rename_i hk hx'
        rw [hx'] at hx
        exact ⟨_, _, h, rfl, run _ (hsl hk _ _ _ hx.1)⟩
      · rename_i l hk hx'
        rw [hx'] at hx; simp only [Val, DVal] at hx
        have hu := (hτ.of_kind (t := t) (by rw [hk]; simp)).kind
        rw [kindOk, hk] at hu
        dsimp only at hu
        exact ⟨_, _, h, rfl, run _ (by simp [Builtin.len_, run_underlying hu, hx, goInt, size_mk])⟩
      · exact h.elim
    · exact h.elim
  | makeInterface t x =>
    simp only [evK] at h
    have go : (tg τ t).kind ≠ .iface → (tg τ t).kind ≠ .other → (Instr.makeInterface t (ev x)).run P w = .ok (.iface t (ev x)) w := by
      intro h1 h2
      refine run_makeInterface w t (ev x) ?_
      have hk := (hτ.of_kind h2).kind
      unfold kindOk at hk
      split at hk <;> first
        | (obtain ⟨_, hk, _⟩ := hk; simp [Program.concrete, hk]; done)
        | (obtain ⟨_, _, _, hk⟩ := hk; simp [Program.concrete, hk]; done)
        | (simp [Program.concrete, hk]; done)
        | (rename_i he; exact absurd he h1)
        | (rename_i he; exact absurd he h2)
    split at h
    · exact h.elim
    · exact h.elim
    · rename_i h1 h2
      exact ⟨_, _, h, ⟨_, rfl, he x⟩, by simp [execOp, go h1 h2]⟩
  | makeFunc f first caps =>
    simp only [evK] at h
    split at h
    · rename_i fn hf
      have hfirst : first = #[] := by apply Array.ext'; simpa using hf
      subst hfirst
      rw [mp1_eq] at h
      refine ⟨_, .func (.func fn) #[] (caps.map ev), h, ⟨caps.toList.map ev, ?_, ?_⟩, by simp [execOp, Instr.makeFunc]⟩
      · rw [show caps.map ev = (caps.toList.map ev).toArray from by apply Array.ext'; simp]
      · have : ∀ l : List Operand, ValL g (l.map e) (l.map ev) := by
          intro l; induction l with
          | nil => trivial
          | cons x l ih => exact ⟨he x, ih⟩
        exact this _
    · exact h.elim
  | typeAssert x xt t ok =>
    simp only [evK] at h
    have hx := he x
    have und : (tg τ t).kind ≠ .iface → (tg τ t).kind ≠ .other → ∃ d, (underlying t).run P w = .ok d w ∧ (∀ ms, d ≠ .interface ms) := by
      intro h1 h2
      have hk := (hτ.of_kind h2).kind
      unfold kindOk at hk
      split at hk <;> first
        | (obtain ⟨_, hk, _⟩ := hk; exact ⟨_, run_underlying hk w, by simp⟩)
        | (obtain ⟨_, _, _, hk⟩ := hk; exact ⟨_, run_underlying hk w, by simp⟩)
        | (exact ⟨_, run_underlying hk w, by simp⟩)
        | (rename_i he; exact absurd he h1)
        | (rename_i he; exact absurd he h2)
    have hit : ∀ y, (tg τ t).kind ≠ .iface → (tg τ t).kind ≠ .other → ev x = .iface t y → (Instr.typeAssert (ev x) xt t ok).run P w = .ok (if ok then .tuple #[y, .bool true] else y) w := by
      intro y h1 h2 hev
      obtain ⟨d, hd, hn⟩ := und h1 h2
      rw [hev, Instr.typeAssert, Sem.run_bind, hd]
      simp only [Result.andThen_ok]
      cases d <;> first | (exact absurd rfl (hn _)) | simp
    have miss : (tg τ t).kind ≠ .iface → (tg τ t).kind ≠ .other → (ev x = .nilIface ∨ ∃ u y, u ≠ t ∧ ev x = .iface u y) →
        ∃ z, (Instr.typeAssert (ev x) xt t true).run P w = .ok (.tuple #[z, .bool false]) w ∧ Val g (mkZero (tg τ t)) z := by
      intro h1 h2 hev
      obtain ⟨d, hd, hn⟩ := und h1 h2
      obtain ⟨z, hz, hzv⟩ := mkZero_sound (w := w) (g := g) hτ h2
      refine ⟨z, ?_, hzv⟩
      rcases hev with hev | ⟨u, y, hne, hev⟩ <;> rw [hev, Instr.typeAssert, Sem.run_bind, hd] <;> simp only [Result.andThen_ok]
      · cases d <;> first | (exact absurd rfl (hn _)) | simp [hz]
      · cases d <;> first | (exact absurd rfl (hn _)) | simp [hz, hne]
    have two : ∀ (a b : AV) (u v : Value), Val g a u → Val g b v → Val g (.tup [a, b]) (.tuple #[u, v]) := fun a b u v h1 h2 => ⟨[u, v], rfl, h1, h2, trivial⟩
    split at h
    · exact h.elim
    · exact h.elim
    · rename_i h1 h2
      have n1 : (tg τ t).kind ≠ .iface := fun e => h1 e
      have n2 : (tg τ t).kind ≠ .other := fun e => h2 e
      split at h
      · rename_i u y hx'
        rw [hx'] at hx
        obtain ⟨y', hu, hy⟩ := hx
        split at h
        · rename_i hb
          have := Nat.eq_of_beq_eq_true hb; subst this
          have hr := hit y' n1 n2 hu
          exact ⟨_, _, h, two _ _ _ _ hy rfl, by simp [execOp, hr]⟩
        · rename_i hb
          obtain ⟨z, hr, hz⟩ := miss n1 n2 (.inr ⟨u, y', by intro e; subst e; simp at hb, hu⟩)
          exact ⟨_, _, h, two _ _ _ _ hz rfl, by simp [execOp, hr]⟩
      · rename_i u cs hx'
        rw [hx'] at hx
        obtain ⟨us, hu, hy⟩ := hx
        rw [mp1_eq] at h
        split at h
        · rename_i hb
          have := Nat.eq_of_beq_eq_true hb; subst this
          have hr := hit _ n1 n2 hu
          exact ⟨_, _, h, two _ _ _ _ ⟨us, rfl, ValL_of_DList hy⟩ rfl, by simp [execOp, hr]⟩
        · rename_i hb
          obtain ⟨z, hr, hz⟩ := miss n1 n2 (.inr ⟨u, _, by intro e; subst e; simp at hb, hu⟩)
          exact ⟨_, _, h, two _ _ _ _ hz rfl, by simp [execOp, hr]⟩
      · rename_i hx'
        rw [hx'] at hx
        obtain ⟨z, hr, hz⟩ := miss n1 n2 (.inl hx.1)
        exact ⟨_, _, h, two _ _ _ _ hz rfl, by simp [execOp, hr]⟩
      · exact h.elim
    · rename_i h1 h2
      have n1 : (tg τ t).kind ≠ .iface := fun e => h1 e
      have n2 : (tg τ t).kind ≠ .other := fun e => h2 e
      split at h
      · rename_i u y hx'
        rw [hx'] at hx
        obtain ⟨y', hu, hy⟩ := hx
        split at h
        · rename_i hb
          have := Nat.eq_of_beq_eq_true hb; subst this
          have hr := hit y' n1 n2 hu
          exact ⟨_, _, h, hy, by simp [execOp, hr]⟩
        · exact h.elim
      · rename_i u cs hx'
        rw [hx'] at hx
        obtain ⟨us, hu, hy⟩ := hx
        rw [mp1_eq] at h
        split at h
        · rename_i hb
          have := Nat.eq_of_beq_eq_true hb; subst this
          have hr := hit _ n1 n2 hu
          exact ⟨_, _, h, ⟨us, rfl, ValL_of_DList hy⟩, by simp [execOp, hr]⟩
        · exact h.elim
      · exact h.elim
  | _ => exact h.elim
end
end Ab

/- The frame 'Ab' is sound, seventh part: new objects; rows that are not written any more; stores. -/
namespace Ab
open Go
set_option linter.unusedSimpArgs false
set_option linter.unusedVariables false

section
variable {P : Program} {τ : Tab} {w : World} {g : Gh} {O : List Obj}

/-! ### One more object -/
/-- the objects with one more, whose memory is block b -/
def Gh.push (g : Gh) (b : Nat) (own : Bool) (r : Nat × Value) : Gh :=
  { imm := g.imm, own := fun x => if own = true ∧ x = b then some g.n else g.own x, n := g.n + 1,
    blk := fun k => if k = g.n then b else g.blk k, row := fun k => if k = g.n then r else g.row k }

theorem Gh.le_push (g : Gh) (b : Nat) (own : Bool) (r : Nat × Value) : g.le (g.push b own r) := by
  refine ⟨Imm.le_refl _, by simp [Gh.push], fun k hk => ?_, fun k hk => .inr ?_⟩
  · simp [Gh.push]; omega
  · simp [Gh.push]; omega

theorem Sat.push {w' : World} (hS : Sat w g O) {o : Obj} {b : Nat} {own : Bool} {r : Nat × Value} (hsz : w.heap.size ≤ w'.heap.size)
    (hh : ∀ i, i < w.heap.size → w'.heap[i]? = w.heap[i]?) (hb : own = true → w.heap.size ≤ b ∧ b < w'.heap.size)
    (ho : SatO w' (g.push b own r) g.n o) : Sat w' (g.push b own r) (O ++ [o]) := by
  have hown : ∀ x, x < w.heap.size → (g.push b own r).own x = g.own x := by
    intro x hx
    simp only [Gh.push]
    rw [if_neg]
    rintro ⟨h1, h2⟩
    have := (hb h1).1; omega
  refine ⟨by simp [Gh.push, hS.n], ?_, ?_, ?_⟩
  · intro x ys hx
    obtain ⟨c, t, f, h1, h2⟩ := hS.imm x ys hx
    exact ⟨c, t, f, by rw [hh x (hS.imm_lt hx)]; exact h1, h2⟩
  · intro k o' hk
    rcases Nat.lt_or_ge k O.length with hlt | hge
    · rw [List.getElem?_append_left hlt] at hk
      have hkn : k < g.n := by rw [← hS.n]; exact hlt
      refine SatO.keep (Gh.le_push g b own r) hkn (by simp [Gh.push]; omega) (fun x hx => ?_) (hS.obj k o' hk)
      have hlt' := (hS.own x k hx).1
      exact ⟨hh x hlt', by rw [hown x hlt']; exact hx, rfl⟩
    · rw [List.getElem?_append_right hge] at hk
      have : k - O.length = 0 := by
        rcases Nat.eq_zero_or_pos (k - O.length) with h | h
        · exact h
        · rw [List.getElem?_eq_none (by simp; omega)] at hk; cases hk
      rw [this] at hk
      simp at hk; subst hk
      have hkn : k = g.n := by have := hS.n; omega
      rw [hkn]; exact ho
  · intro x k hx
    simp only [Gh.push] at hx
    split at hx
    · rename_i h
      simp at hx; subst hx
      obtain ⟨h1, h2⟩ := h
      exact ⟨by rw [h2]; exact (hb h1).2, by simp [Gh.push]⟩
    · have := hS.own x k hx
      exact ⟨by omega, by simp [Gh.push]; omega⟩

theorem Fr.push {w' : World} (hS : Sat w g O) {b : Nat} {own : Bool} {r : Nat × Value} (hsz : w.heap.size ≤ w'.heap.size) (h1 : w'.os = w.os) (h2 : w'.tape = w.tape) (h3 : w'.output = w.output)
    (hh : ∀ i, i < w.heap.size → w'.heap[i]? = w.heap[i]?) (hb : own = true → w.heap.size ≤ b) : Fr w w' g (g.push b own r) := by
  refine ⟨hsz, h1, h2, h3, fun i hi _ => hh i hi, fun i hi _ => rfl, fun i hi ho => ?_⟩
  simp only [Gh.push]
  rw [if_neg]
  · exact ho
  · rintro ⟨h4, h5⟩
    have := hb h4; omega

theorem own_fresh (hS : Sat w g O) {b : Nat} (hb : w.heap.size ≤ b) : g.own b = none ∧ g.imm b = none := by
  constructor
  · cases h : g.own b with
    | none => rfl
    | some k => have := (hS.own b k h).1; omega
  · cases h : g.imm b with
    | none => rfl
    | some ys => have := hS.imm_lt h; omega

/-- A new object of cells. -/
theorem new_cells (hS : Sat w g O) {cs : List AV} {c : Array Value} (t : TypeId) (hv : ValL g cs c.toList) :
    ∃ g', g.le g' ∧ Fr w (w.alloc (.cells c t)) g g' ∧ Sat (w.alloc (.cells c t)) g' (O ++ [.cells cs]) ∧ g'.n = g.n + 1 ∧ g'.blk g.n = w.heap.size := by
  have hh : ∀ i, i < w.heap.size → (w.alloc (.cells c t)).heap[i]? = w.heap[i]? := by
    intro i hi
    show (w.heap.push _)[i]? = _
    rw [Array.getElem?_push, if_neg (by omega)]
  refine ⟨g.push w.heap.size true (0, .nilFunc), Gh.le_push _ _ _ _, Fr.push hS (by simp) rfl rfl rfl hh (fun _ => Nat.le_refl _),
    hS.push (by simp) hh (fun _ => ⟨Nat.le_refl _, by simp⟩) ⟨c, t, ?_, ?_, ?_, by simp [Gh.push], ValL_mono (Gh.le_push _ _ _ _) _ _ hv⟩, rfl, by simp [Gh.push]⟩
  · show (w.heap.push _)[(g.push w.heap.size true (0, .nilFunc)).blk g.n]? = _
    simp [Gh.push]
  · simp [Gh.push]
  · simp [Gh.push]; exact (own_fresh hS (Nat.le_refl _)).2

/-- A new row, of cells that have been laid in a block of their own. -/
theorem new_row (hS : Sat w g O) {z : Nat} {xs : List (List DV)} {us rest : List Value} {t : TypeId} {cap : Nat} (hz : ∀ r ∈ xs, r.length = z) (hd : DList g.imm xs.flatten us)
    (hcap : xs.length ≤ cap) (hus : us.length = xs.length * z) (hr : us.length + rest.length = cap * z) {w' : World} (hw : w' = w.alloc (.cells (us ++ rest).toArray t) ∨ w' = (w.alloc (.cells (us ++ rest).toArray t)).drew ∨ w' = w.drew.alloc (.cells (us ++ rest).toArray t)) :
    ∃ g', g.le g' ∧ Fr w w' g g' ∧ Sat w' g' (O ++ [.row 0 true z xs]) ∧ g'.n = g.n + 1 ∧ g'.row g.n = (0, .slice (some ⟨w.heap.size, 0, none⟩) xs.length cap) := by
  have hw2 : w'.heap = w.heap.push (.cells (us ++ rest).toArray t) ∧ w'.os = w.os ∧ w'.tape = w.tape ∧ w'.output = w.output := by
    rcases hw with rfl | rfl | rfl <;> exact ⟨rfl, rfl, rfl, rfl⟩
  obtain ⟨he, h1, h2, h3⟩ := hw2
  have hh : ∀ i, i < w.heap.size → w'.heap[i]? = w.heap[i]? := by
    intro i hi
    rw [he, Array.getElem?_push, if_neg (by omega)]
  have hsz : w'.heap.size = w.heap.size + 1 := by rw [he]; simp
  refine ⟨g.push w.heap.size true (0, .slice (some ⟨w.heap.size, 0, none⟩) xs.length cap), Gh.le_push _ _ _ _, Fr.push hS (by omega) h1 h2 h3 hh (fun _ => Nat.le_refl _),
    hS.push (by omega) hh (fun _ => ⟨Nat.le_refl _, by omega⟩) ⟨some ⟨w.heap.size, 0, none⟩, cap, by simp [Gh.push], hcap, hz, .inr ⟨w.heap.size, 0, (us ++ rest).toArray, t, us, rfl, ?_, ?_, ?_, ?_, ?_, ?_⟩⟩, rfl, by simp [Gh.push]⟩
  · rw [he]; simp
  · simp; omega
  · simp [Gh.push]
  · simp [hus]
  · exact hd
  · simp [Gh.push]; exact (own_fresh hS (Nat.le_refl _)).2

/-- A new row that has no memory yet. -/
theorem new_nil (hS : Sat w g O) (z : Nat) (a : Option Addr) :
    ∃ g', g.le g' ∧ Fr w w g g' ∧ Sat w g' (O ++ [.row 0 true z []]) ∧ g'.n = g.n + 1 ∧ g'.row g.n = (0, .slice a 0 0) := by
  refine ⟨g.push 0 false (0, .slice a 0 0), Gh.le_push _ _ _ _, Fr.push hS (Nat.le_refl _) rfl rfl rfl (fun _ _ => rfl) (by simp),
    hS.push (Nat.le_refl _) (fun _ _ => rfl) (by simp) ⟨a, 0, by simp [Gh.push], by simp, by simp, .inl rfl⟩, rfl, by simp [Gh.push]⟩

/-! ### Rows that are still -/
def stillO (b : Bool) : Obj → Obj
  | .row v s z xs => .row v (match b with | true => false | false => s) z xs
  | o => o

theorem still1_get : ∀ (O : List Obj) (cs : List Nat) (n k : Nat), (still1 O cs n)[k]? = (O[k]?).map (stillO (hasN cs (n + k)))
  | [], cs, n, k => by simp [still1]
  | o :: os, cs, n, 0 => by
    cases o <;> simp [still1, stillO] <;> (cases hasN cs n <;> rfl)
  | o :: os, cs, n, k + 1 => by
    simp only [still1, List.getElem?_cons_succ]
    rw [still1_get os cs (n + 1) k, show n + 1 + k = n + (k + 1) by omega]

theorem still_get (O : List Obj) (cs : List Nat) (k : Nat) : (still O cs)[k]? = (O[k]?).map (stillO (hasN cs k)) := by
  rw [still, still1_get]; simp

theorem still_len (O : List Obj) (cs : List Nat) : (still O cs).length = O.length := by
  have : ∀ (l : List Obj) (cs : List Nat) (n : Nat), (still1 l cs n).length = l.length := by
    intro l; induction l with
    | nil => intro _ _; rfl
    | cons o os ih => intro cs n; simp [still1, ih]
  exact this _ _ _

theorem still_nil (O : List Obj) : still O [] = O := by
  apply List.ext_getElem?
  intro k
  rw [still_get]
  cases h : O[k]? with
  | none => rfl
  | some o => cases o <;> simp [stillO, hasN]

theorem still_cons (O : List Obj) (c : Nat) (cs : List Nat) : still O (c :: cs) = still (still O [c]) cs := by
  apply List.ext_getElem?
  intro k
  rw [still_get, still_get, still_get]
  cases h : O[k]? with
  | none => rfl
  | some o =>
    cases o <;> simp [stillO, hasN]
    rename_i v s z xs
    cases hc : Nat.beq c k <;> cases hasN cs k <;> rfl

/-- What a row holds, as data. -/
theorem RowAt.data {k : Nat} {z : Nat} {xs : List (List DV)} {a : Option Addr} {cap : Nat} (h : RowAt w g k false z xs a cap) :
    DVal g.imm (.sl z xs) (.slice a xs.length cap) := by
  refine ⟨a, cap, rfl, h.len, ?_⟩
  rcases h.mem with h0 | ⟨b, off, c, t, us, ha, hh, hs, ho, hu, hd, hi⟩
  · left
    have := h.len
    cases xs with
    | nil => rfl
    | cons x xs => simp at this; omega
  · right
    refine ⟨b, off, ha, ?_⟩
    have hul : us.length = xs.length * z := by
      rw [← hu]; simp
      have : xs.length * z ≤ cap * z := Nat.mul_le_mul_right z h.len
      omega
    have := rows_imm (I := g.imm) (b := b) (off := off) (c := []) (xs := xs) (us := us) (z := z) 0 h.elen hd (fun j hj => by
      simp only [Ab.rd, hi, Nat.add_zero]
      simp only [Bool.false_eq_true, if_false, Option.bind_some]
      rw [List.getElem?_take_of_lt (by omega), ← hu, List.getElem?_take_of_lt (by omega), List.getElem?_drop])
    simpa using this

theorem still_one (hS : Sat w g O) (k : Nat) : ∃ g', g.le g' ∧ Fr w w g g' ∧ Sat w g' (still O [k]) ∧ g'.n = g.n ∧ g'.row = g.row ∧ g'.blk = g.blk ∧ g'.own = g.own := by
  -- the row, if it is one that is written, becomes data
  by_cases hk : ∃ v z xs, O[k]? = some (.row v true z xs)
  · obtain ⟨v, z, xs, hk⟩ := hk
    have hkn : k < g.n := by
      rw [← hS.n]
      rcases Nat.lt_or_ge k O.length with h | h
      · exact h
      · rw [List.getElem?_eq_none h] at hk; cases hk
    obtain ⟨a, cap, hrow, hat⟩ := hS.obj k _ hk
    have other : ∀ j o, j ≠ k → (still O [k])[j]? = some o → O[j]? = some o := by
      intro j o hj h
      rw [still_get] at h
      have hf : hasN [k] j = false := by
        cases hh : hasN [k] j with
        | false => rfl
        | true => have := (hasN_iff _ _).1 hh; simp at this; exact absurd this hj
      rw [hf] at h
      cases ho : O[j]? with
      | none => rw [ho] at h; cases h
      | some o' => rw [ho] at h; simp at h; rw [← h]; cases o' <;> rfl
    have same : (still O [k])[k]? = some (.row v false z xs) := by
      rw [still_get, hk]
      have : hasN [k] k = true := (hasN_iff _ _).2 (by simp)
      simp [this, stillO]
    rcases hat.mem with h0 | ⟨b, off, c, t, us, ha, hh, hs, ho, hu, hd, hi⟩
    · refine ⟨g, Gh.le_refl g, Fr.refl _ _, ⟨by rw [still_len]; exact hS.n, hS.imm, ?_, hS.own⟩, rfl, rfl, rfl, rfl⟩
      intro j o hj
      by_cases hjk : j = k
      · subst hjk
        rw [same] at hj; simp at hj; subst hj
        exact ⟨a, cap, hrow, hat.len, hat.elen, .inl h0⟩
      · exact hS.obj j o (other j o hjk hj)
    · have him : g.imm b = none := hi
      let g' : Gh := { g with imm := fun x => if x = b then some (c.toList.take (off + xs.length * z)) else g.imm x }
      have hle : g.le g' := by
        refine ⟨fun x ys hx => ?_, Nat.le_refl _, fun _ _ => rfl, fun _ _ => .inr rfl⟩
        refine ⟨[], ?_⟩
        show (if x = b then _ else _) = _
        rw [if_neg (by rintro rfl; rw [him] at hx; cases hx)]; simpa using hx
      refine ⟨g', hle, ⟨Nat.le_refl _, rfl, rfl, rfl, fun _ _ _ => rfl, fun i hi' hown => ?_, fun _ _ h => h⟩, ⟨?_, ?_, ?_, hS.own⟩, rfl, rfl, rfl, rfl⟩
      · show (if i = b then _ else _) = _
        rw [if_neg (by rintro rfl; rw [ho] at hown; cases hown)]
      · rw [still_len]; exact hS.n
      · intro x ys hx
        by_cases hxb : x = b
        · subst hxb
          have : ys = c.toList.take (off + xs.length * z) := by
            have : g'.imm x = some (c.toList.take (off + xs.length * z)) := if_pos rfl
            rw [this] at hx; simpa using hx.symm
          exact ⟨c, t, _, hh, by rw [this]; exact List.take_prefix _ _⟩
        · have : g'.imm x = g.imm x := if_neg hxb
          rw [this] at hx
          exact hS.imm x ys hx
      · intro j o hj
        by_cases hjk : j = k
        · subst hjk
          rw [same] at hj; simp at hj; subst hj
          exact ⟨a, cap, hrow, hat.len, hat.elen, .inr ⟨b, off, c, t, us, ha, hh, hs, ho, hu, DList_mono hle.imm _ _ hd, if_pos rfl⟩⟩
        · have hj' := other j o hjk hj
          have hjn : j < g.n := by
            rw [← hS.n]
            rcases Nat.lt_or_ge j O.length with h | h
            · exact h
            · rw [List.getElem?_eq_none h] at hj'; cases hj'
          refine SatO.keep hle hjn rfl (fun x hx => ⟨rfl, hx, ?_⟩) (hS.obj j o hj')
          show (if x = b then _ else _) = _
          rw [if_neg]
          rintro rfl
          rw [ho] at hx; simp at hx; exact hjk hx.symm
  · refine ⟨g, Gh.le_refl g, Fr.refl _ _, ?_, rfl, rfl, rfl, rfl⟩
    have : still O [k] = O := by
      apply List.ext_getElem?
      intro j
      rw [still_get]
      cases ho : O[j]? with
      | none => rfl
      | some o =>
        cases o <;> simp [stillO]
        rename_i v s z xs
        cases hc : hasN [k] j with
        | false => rfl
        | true =>
          have := (hasN_iff _ _).1 hc
          simp at this; subst this
          cases s with
          | false => rfl
          | true => exact absurd ⟨v, z, xs, ho⟩ hk
    rw [this]; exact hS

theorem still_many (hS : Sat w g O) (cs : List Nat) : ∃ g', g.le g' ∧ Fr w w g g' ∧ Sat w g' (still O cs) ∧ g'.n = g.n ∧ g'.row = g.row ∧ g'.blk = g.blk ∧ g'.own = g.own := by
  induction cs generalizing g O with
  | nil => exact ⟨g, Gh.le_refl g, Fr.refl _ _, by rw [still_nil]; exact hS, rfl, rfl, rfl, rfl⟩
  | cons c cs ih =>
    obtain ⟨g1, a1, b1, c1, d1, e1, f1, h1⟩ := still_one hS c
    obtain ⟨g2, a2, b2, c2, d2, e2, f2, h2⟩ := ih c1
    exact ⟨g2, Gh.le_trans a1 a2, b1.trans b2, by rw [still_cons]; exact c2, d2.trans d1, e2.trans e1, f2.trans f1, h2.trans h1⟩

/-- New memory that is data from the first. -/
theorem new_data (hS : Sat w g O) {z : Nat} {xs : List (List DV)} {us : List Value} (t : TypeId) (hz : ∀ r ∈ xs, r.length = z) (hd : DList g.imm xs.flatten us) (hus : us.length = xs.length * z) :
    ∃ g', g.le g' ∧ Fr w (w.alloc (.cells us.toArray t)) g g' ∧ Sat (w.alloc (.cells us.toArray t)) g' O ∧ DVal g'.imm (.sf z xs) (.slice (some ⟨w.heap.size, 0, none⟩) xs.length xs.length) := by
  have hfresh := own_fresh hS (Nat.le_refl w.heap.size)
  have hh : ∀ i, i < w.heap.size → (w.alloc (.cells us.toArray t)).heap[i]? = w.heap[i]? := by
    intro i hi
    show (w.heap.push _)[i]? = _
    rw [Array.getElem?_push, if_neg (by omega)]
  let g' : Gh := { g with imm := fun x => if x = w.heap.size then some us else g.imm x }
  have him : g.imm.le g'.imm := by
    intro x ys hx
    have hne : x ≠ w.heap.size := by rintro rfl; rw [hfresh.2] at hx; cases hx
    exact ⟨[], by show (if x = _ then _ else _) = _; rw [if_neg hne]; simpa using hx⟩
  have hle : g.le g' := ⟨him, Nat.le_refl _, fun _ _ => rfl, fun _ _ => .inr rfl⟩
  refine ⟨g', hle, ⟨by simp, rfl, rfl, rfl, fun i hi _ => hh i hi, fun i hi _ => if_neg (by omega), fun _ _ h => h⟩, ⟨hS.n, fun b ys hb => ?_, fun k o hk => ?_, fun b k hb => ?_⟩, ?_⟩
  · by_cases hbh : b = w.heap.size
    · subst hbh
      have : g'.imm w.heap.size = some us := if_pos rfl
      rw [this] at hb
      simp at hb; subst hb
      refine ⟨us.toArray, t, (0, 0), ?_, by simp⟩
      show (w.heap.push _)[w.heap.size]? = _
      simp
    · have : g'.imm b = g.imm b := if_neg hbh
      rw [this] at hb
      obtain ⟨c, t', f, h1, h2⟩ := hS.imm b ys hb
      exact ⟨c, t', f, by rw [hh b (hS.imm_lt hb)]; exact h1, h2⟩
  · have hkn : k < g.n := by rw [← hS.n]; exact (List.getElem?_eq_some_iff.1 hk).1
    refine SatO.keep hle hkn rfl (fun b hb => ?_) (hS.obj k o hk)
    have hbl := (hS.own b k hb).1
    exact ⟨hh b hbl, hb, if_neg (by omega)⟩
  · have := hS.own b k hb
    exact ⟨by simp; omega, this.2⟩
  · refine ⟨_, rfl, .inr ⟨w.heap.size, 0, rfl, ?_⟩⟩
    have := rows_imm (I := g'.imm) (b := w.heap.size) (off := 0) (c := []) (xs := xs) (us := us) (z := z) 0 hz (DList_mono him _ _ hd) (fun j hj => by
      have h1 : g'.imm w.heap.size = some us := if_pos rfl
      simp only [Ab.rd, h1, Option.bind_some, Nat.zero_add, Nat.add_zero])
    simpa using this
end
end Ab

/- The frame 'Ab' is sound, eighth part: values as data; an object that is written; append. -/
namespace Ab
open Go
set_option linter.unusedSimpArgs false
set_option linter.unusedVariables false

section
variable {P : Program} {τ : Tab} {w : World} {g : Gh} {O : List Obj}

/-! ### Values as data -/
mutual
theorem frz_val {g' : Gh} {cs : List Nat} {keep : Nat → Bool} (hS : Sat w g' (still O cs)) : ∀ (x : AV) (u : Value), (∀ c ∈ rowsIn x, keep c = false → c ∈ cs) → Val g' x u → Val g' (frz O keep x) u
  | .d _, _, _, hv => hv
  | .tt, _, _, hv => hv
  | .ff, _, _, hv => hv
  | .ptr _ _, _, _, hv => hv
  | .da _, _, _, hv => hv
  | .ra _ _ _ _ _, _, _, hv => hv
  | .mp _, _, _, hv => hv
  | .und, _, _, hv => hv
  | .junk, _, _, hv => hv
  | .row c v, u, hc, hv => by
    unfold frz
    split
    · exact hv
    · rename_i hk
      split
      · rename_i s z xs hro
        have hmem := hc c (by simp [rowsIn]) hk
        have hn := rowOf_some hro
        rw [nth_eq] at hn
        have hlt : c < O.length := by
          rcases Nat.lt_or_ge c O.length with h | h
          · exact h
          · simp [List.getD, List.getElem?_eq_none h] at hn
        have ho : O[c]? = some (.row v s z xs) := by
          rw [List.getElem?_eq_getElem hlt]
          simp [List.getD, List.getElem?_eq_getElem hlt] at hn
          rw [hn]
        have hst : (still O cs)[c]? = some (.row v false z xs) := by
          rw [still_get, ho]
          simp [stillO, (hasN_iff _ _).2 hmem]
        obtain ⟨a, cap, hrow, hat⟩ := hS.obj c _ hst
        have hu := Val_row hv hrow
        rw [hu]
        exact hat.data
      · trivial
  | .agg cs', u, hc, hv => by
    obtain ⟨us, hu, hl⟩ := hv
    exact ⟨us, hu, frz_valL hS cs' us hc hl⟩
  | .tup cs', u, hc, hv => by
    obtain ⟨us, hu, hl⟩ := hv
    exact ⟨us, hu, frz_valL hS cs' us hc hl⟩
  | .fn f cs', u, hc, hv => by
    obtain ⟨us, hu, hl⟩ := hv
    exact ⟨us, hu, frz_valL hS cs' us hc hl⟩
  | .ifc t x, u, hc, hv => by
    obtain ⟨y, hu, hl⟩ := hv
    exact ⟨y, hu, frz_val hS x y hc hl⟩
theorem frz_valL {g' : Gh} {cs : List Nat} {keep : Nat → Bool} (hS : Sat w g' (still O cs)) : ∀ (xs : List AV) (us : List Value), (∀ c ∈ rowsInL xs, keep c = false → c ∈ cs) → ValL g' xs us → ValL g' (frzL O keep xs) us
  | [], [], _, _ => trivial
  | x :: xs, u :: us, hc, ⟨h1, h2⟩ => by
    have ha : ∀ c ∈ rowsIn x, keep c = false → c ∈ cs := fun c h => hc c (by simp only [rowsInL, ap_eq]; exact List.mem_append.2 (.inl h))
    have hb : ∀ c ∈ rowsInL xs, keep c = false → c ∈ cs := fun c h => hc c (by simp only [rowsInL, ap_eq]; exact List.mem_append.2 (.inr h))
    exact ⟨frz_val hS x u ha h1, frz_valL hS xs us hb h2⟩
  | [], _ :: _, _, h => h.elim
  | _ :: _, [], _, h => h.elim
end

mutual
theorem toD_val : ∀ (x : AV) (u : Value) (d : DV), toD x = some d → Val g x u → DVal g.imm d u
  | .d x, u, d, h, hv => by simp [toD] at h; subst h; exact hv
  | .tt, u, d, h, hv => by simp [toD] at h; subst h; exact hv
  | .ff, u, d, h, hv => by simp [toD] at h; subst h; exact hv
  | .ifc t x, u, d, h, hv => by
    obtain ⟨y, hu, hy⟩ := hv
    unfold toD at h
    split at h
    · rename_i cs
      split at h
      · rename_i ds hds
        simp at h; subst h
        obtain ⟨us, hus, hl⟩ := hy
        exact ⟨us, by rw [hu, hus], toDs_val cs us ds hds hl⟩
      · cases h
    · rename_i x' _
      split at h
      · rename_i d' hd'
        simp at h; subst h
        exact ⟨y, hu, toD_val _ y d' hd' hy⟩
      · cases h
  | .row _ _, _, _, h, _ => by simp [toD] at h
  | .ptr _ _, _, _, h, _ => by simp [toD] at h
  | .da _, _, _, h, _ => by simp [toD] at h
  | .ra _ _ _ _ _, _, _, h, _ => by simp [toD] at h
  | .agg _, _, _, h, _ => by simp [toD] at h
  | .tup _, _, _, h, _ => by simp [toD] at h
  | .fn _ _, _, _, h, _ => by simp [toD] at h
  | .mp _, _, _, h, _ => by simp [toD] at h
  | .und, _, _, h, _ => by simp [toD] at h
  | .junk, _, _, h, _ => by simp [toD] at h
theorem toDs_val : ∀ (xs : List AV) (us : List Value) (ds : List DV), toDs xs = some ds → ValL g xs us → DList g.imm ds us
  | [], [], ds, h, _ => by simp [toDs] at h; subst h; trivial
  | x :: xs, u :: us, ds, h, ⟨h1, h2⟩ => by
    unfold toDs at h
    split at h
    · rename_i d hd
      split at h
      · rename_i ds' hds
        simp at h; subst h
        exact ⟨toD_val x u d hd h1, toDs_val xs us ds' hds h2⟩
      · cases h
    · cases h
  | [], _ :: _, _, _, h => h.elim
  | _ :: _, [], _, _, h => h.elim
end

/-- Values that become data: the rows in them are still. -/
theorem dats_val {g' : Gh} {cs : List Nat} (hS : Sat w g' (still O cs)) {xs : List AV} {us : List Value} {ds : List DV} (hc : ∀ c ∈ rowsInL xs, c ∈ cs) (hv : ValL g' xs us)
    (h : dats O xs = some ds) : DList g'.imm ds us :=
  toDs_val _ _ _ h (frz_valL hS xs us (fun c h _ => hc c h) hv)

/-! ### An object that is written -/
theorem Sat.upd {w' : World} {g' : Gh} (hS : Sat w g O) {k : Nat} {o' : Obj} (hk : k < g.n) (hle : g.le g') (hn : g'.n = g.n) (hrow : ∀ j, j ≠ k → j < g.n → g'.row j = g.row j)
    (hsz : w.heap.size ≤ w'.heap.size)
    (hb : ∀ b, b < w.heap.size → g.own b ≠ some k → w'.heap[b]? = w.heap[b]? ∧ g'.own b = g.own b ∧ g'.imm b = g.imm b)
    (him : ∀ b ys, g'.imm b = some ys → ¬ (b < w.heap.size ∧ g.own b ≠ some k) → ∃ c t f, w'.heap[b]? = some (.cells c t f) ∧ ys <+: c.toList)
    (how : ∀ b j, g'.own b = some j → ¬ (b < w.heap.size ∧ g.own b ≠ some k) → b < w'.heap.size ∧ j < g.n)
    (ho : SatO w' g' k o') : Sat w' g' (O.set k o') := by
  refine ⟨by simp [hS.n, hn], ?_, ?_, ?_⟩
  · intro b ys hi
    by_cases hc : b < w.heap.size ∧ g.own b ≠ some k
    · obtain ⟨h1, h2, h3⟩ := hb b hc.1 hc.2
      rw [h3] at hi
      obtain ⟨c, t, f, hh, hp⟩ := hS.imm b ys hi
      exact ⟨c, t, f, by rw [h1]; exact hh, hp⟩
    · exact him b ys hi hc
  · intro j o hj
    by_cases hjk : j = k
    · subst hjk
      rw [List.getElem?_set_self (by rw [hS.n]; exact hk)] at hj
      simp at hj; subst hj; exact ho
    · rw [List.getElem?_set_ne (fun e => hjk e.symm)] at hj
      have hjn : j < g.n := by
        rw [← hS.n]
        rcases Nat.lt_or_ge j O.length with h | h
        · exact h
        · rw [List.getElem?_eq_none h] at hj; cases hj
      refine SatO.keep hle hjn (hrow j hjk hjn) (fun b hob => ?_) (hS.obj j o hj)
      obtain ⟨hlt, _⟩ := hS.own b j hob
      have hne : g.own b ≠ some k := by rw [hob]; intro e; simp at e; exact hjk e
      obtain ⟨h1, h2, h3⟩ := hb b hlt hne
      exact ⟨h1, by rw [h2]; exact hob, h3⟩
  · intro b j hj
    by_cases hc : b < w.heap.size ∧ g.own b ≠ some k
    · obtain ⟨h1, h2, h3⟩ := hb b hc.1 hc.2
      rw [h2] at hj
      have := hS.own b j hj
      exact ⟨by omega, by rw [hn]; exact this.2⟩
    · have := how b j hj hc
      exact ⟨this.1, by rw [hn]; exact this.2⟩

/-- Cells of an object, or of a row, written in their place. -/
theorem setRow_keeps (w : World) (b : Nat) (c : Array Value) : ∀ i, i ≠ b → (w.setRow b c).heap[i]? = w.heap[i]? := fun i hi => setRow_other w b i c hi

theorem storeAt_run (hτ : Tok P τ) {t b off : Nat} {c : Array Value} {e : TypeId} {u : Value} (hs : (tg τ t).size ≠ 0) (hh : w.heap[b]? = some (.cells c e (0, 0)))
    (hsz : u.cells.size = (tg τ t).size) (hfit : off + u.cells.size ≤ c.size) (h1 : ∀ v ∈ u.cells.toList, v.oneCell' = true) :
    (Instr.storeAt t (.pointer (some ⟨b, off, none⟩)) u).run P w = .ok () (w.setRow b (c.toList.take off ++ u.cells.toList ++ c.toList.drop (off + u.cells.size)).toArray) := by
  have hso := (hτ.of_size hs).sizeOf w
  have := run_storeCells_at P b off e u.cells.toList 0 c w hh (by simpa using hfit) h1
  simp only [Nat.add_zero, Array.length_toList] at this
  simp only [Instr.storeAt, Instr.sureAddr, Sem.run_bind, Sem.run_pure, Result.andThen_ok, storeVar, hso]
  rw [if_neg (by rw [hsz]; simp)]
  simpa using this

theorem store_cells (hτ : Tok P τ) (hS : Sat w g O) {t n off : Nat} {cs cs' ws : List AV} {u : Value} (hs : (tg τ t).size ≠ 0) (hcs : nth O n .dead = .cells cs)
    (hv : ValL g ws u.cells.toList) (h1 : ∀ v ∈ u.cells.toList, v.oneCell' = true) (hl : ws.length = (tg τ t).size) (hsp : splice cs off ws = some cs') :
    ∃ w' g', (Instr.storeAt t (.pointer (some ⟨g.blk n, off, none⟩)) u).run P w = .ok () w' ∧ g.le g' ∧ Fr w w' g g' ∧ Sat w' g' (O.set n (.cells cs')) := by
  obtain ⟨h2, hn⟩ := hS.get hcs (by simp)
  obtain ⟨c, e, hh, hown, him, hrw, hvc⟩ := hS.obj n _ h2
  obtain ⟨hle, hcs'⟩ := splice_eq _ _ _ _ hsp
  have hlen := ValL_length hv
  have hlen2 := ValL_length hvc
  have hus : u.cells.size = ws.length := by rw [hlen]; simp
  have hfit : off + u.cells.size ≤ c.size := by rw [hus]; simp at hlen2; omega
  have hr := storeAt_run (P := P) hτ hs hh (by rw [hus, hl]) hfit h1
  generalize hc' : (c.toList.take off ++ u.cells.toList ++ c.toList.drop (off + u.cells.size)).toArray = c' at hr
  refine ⟨_, g, hr, Gh.le_refl g, ⟨by simp, rfl, rfl, rfl, fun i hi ho => setRow_other _ _ _ _ ?_, fun _ _ _ => rfl, fun _ _ h => h⟩,
    hS.upd hn (Gh.le_refl g) rfl (fun _ _ _ => rfl) (by simp) (fun b hb hne => ⟨setRow_other _ _ _ _ ?_, rfl, rfl⟩) (fun b ys hi hc => ?_) (fun b j hj hc => ?_) ?_⟩
  · rintro rfl; rw [hown] at ho; cases ho
  · rintro rfl; exact hne hown
  · by_cases hbn : b = g.blk n
    · rw [hbn, him] at hi; cases hi
    · obtain ⟨c2, t2, f2, hh2, hp2⟩ := hS.imm b ys hi
      exact ⟨c2, t2, f2, by rw [setRow_other _ _ _ _ hbn]; exact hh2, hp2⟩
  · have := hS.own b j hj
    exact ⟨by simpa using this.1, this.2⟩
  · refine ⟨c', e, setRow_heap w _ c _ e _ hh, hown, him, hrw, ?_⟩
    rw [← hc']
    simp only [List.toList_toArray]
    rw [hcs', ← hus]
    exact ValL_append (ValL_append (ValL_take _ hvc) hv) (ValL_drop _ hvc)

/-! ### Append -/
theorem flat_len {α : Type} {z : Nat} : ∀ {ys : List (List α)}, (∀ r ∈ ys, r.length = z) → ys.flatten.length = ys.length * z
  | [], _ => by simp
  | y :: ys, h => by
    have ih := flat_len (ys := ys) (fun r hr => h r (List.mem_cons_of_mem _ hr))
    simp [h y (by simp), ih, Nat.add_mul]; omega

theorem DList_append {I : Imm} : ∀ {cs ds : List DV} {us vs : List Value}, DList I cs us → DList I ds vs → DList I (cs ++ ds) (us ++ vs)
  | [], _, [], _, _, k => k
  | c :: cs, _, u :: us, _, h, k => ⟨h.1, DList_append h.2 k⟩

/-- What is appended: its cells. -/
structure Src (w : World) (g : Gh) (z : Nat) (ys : List (List DV)) (u : Value) : Prop where
  elen : ∀ r ∈ ys, r.length = z
  mem : ∃ a cap, u = .slice a ys.length cap ∧ (ys = [] ∨ ∃ b off us, a = some ⟨b, off, none⟩ ∧ DList g.imm ys.flatten us ∧ us.length = ys.length * z ∧ ∀ j, j < us.length → w.cell? ⟨b, off + j, none⟩ = us[j]?)

theorem elems_src (hS : Sat w g O) {z : Nat} {x : AV} {ys : List (List DV)} {u : Value} (h : elemsOf O z x = some ys) (hv : Val g x u) : Src w g z ys u := by
  unfold elemsOf at h
  replace hv := low_val hv
  generalize low x = y at h hv
  split at h
  · rename_i z' xs
    split at h
    · rename_i hz
      have := Nat.eq_of_beq_eq_true hz; subst this
      simp at h; subst h
      obtain ⟨a, cap, hu, _, hr⟩ := hv
      have hel : ∀ r ∈ xs, r.length = z := by
        rcases hr with rfl | ⟨b, off, _, hr⟩
        · simp
        · intro r hr'
          obtain ⟨i, hi⟩ := List.getElem?_of_mem hr'
          exact (DRows_get hr hi).1
      refine ⟨hel, a, cap, hu, ?_⟩
      rcases hr with hr | ⟨b, off, ha, hr⟩
      · exact .inl hr
      · obtain ⟨us, h1, h2, h3⟩ := DRows_all hr
        refine .inr ⟨b, off, us, ha, h1, h2, fun j hj => ?_⟩
        have h4 := h3 j hj
        rw [List.getElem?_eq_getElem hj] at h4 ⊢
        exact hS.rd h4
    · cases h
  · simp at h; subst h
    exact ⟨by simp, none, 0, hv.1, .inl rfl⟩
  · rename_i c v
    split at h
    · rename_i st z' xs hro
      split at h
      · rename_i hz
        have := Nat.eq_of_beq_eq_true hz; subst this
        simp at h; subst h
        obtain ⟨hcn, a, cap, hrow, hat⟩ := hS.row hro
        have hu := Val_row hv hrow
        refine ⟨hat.elen, a, cap, hu, ?_⟩
        rcases hat.all with h1 | ⟨b, off, us, h1, h2, h3, h4⟩
        · exact .inl h1
        · exact .inr ⟨b, off, us, h1, h2, h3, h4⟩
      · cases h
    · cases h
  · cases h

theorem oneV_of_D : ∀ {c : DV} {u : Value} {I : Imm}, DVal I c u → u.oneCell' = true := by
  intro c u I h
  cases c <;> simp only [DVal] at h
  case i => subst h; rfl
  case b => subst h; rfl
  case s => subst h; rfl
  case sl => obtain ⟨a, cap, hu, _⟩ := h; subst hu; rfl
  case sf => obtain ⟨a, hu, _⟩ := h; subst hu; rfl
  case ifa => obtain ⟨us, hu, _⟩ := h; subst hu; rfl
  case if1 => obtain ⟨us, hu, _⟩ := h; subst hu; rfl
  case v y => obtain ⟨rfl, h1⟩ := h; cases u <;> simp_all [oneV, Value.oneCell']
end
end Ab

/- The frame 'Ab' is sound, ninth part: append. -/
namespace Ab
open Go
set_option linter.unusedSimpArgs false
set_option linter.unusedVariables false

section
variable {P : Program} {τ : Tab} {w : World} {g : Gh} {O : List Obj}

theorem eqz_ne {t z : Nat} (h : eqz τ t z = true) : z = (tg τ (tg τ t).elem).size ∧ (tg τ (tg τ t).elem).size ≠ 0 := by
  unfold eqz at h
  split at h
  · cases h
  · rename_i m hm; exact ⟨by rw [hm]; exact Nat.eq_of_beq_eq_true h, by rw [hm]; simp⟩

theorem DList_one : ∀ {cs : List DV} {us : List Value} {I : Imm}, DList I cs us → ∀ u ∈ us, u.oneCell' = true
  | [], [], _, _, u, hu => by simp at hu
  | c :: cs, v :: us, I, h, u, hu => by
    rcases List.mem_cons.1 hu with rfl | hu
    · exact oneV_of_D h.1
    · exact DList_one h.2 u hu

/-- nothing appended -/
theorem run_append_none {t ty e : TypeId} {sz : Nat} (ht : P.underlying t = some (.slice e)) (hs : (Go.sizeOf e).run P w = .ok sz w)
    (b : Option Addr) (sLen sCap : Nat) (a : Option Addr) (c : Nat) (h : sLen ≤ sCap) :
    (Builtin.append_ #[t, t] ty #[.slice b sLen sCap, .slice a 0 c]).run P w = .ok (.slice b sLen sCap) w := by
  have hf : (Builtin.firstCells sz 0 (.slice a 0 c)).run P w = .ok #[] w := by
    cases a <;> simp [Builtin.firstCells, loadCells, loadCellsFrom]
  cases b <;> simp [Builtin.append_, run_underlying ht, hs, Builtin.lenOf, h, hf, storeCells]

/-- room: in place -/
theorem run_append_fit {t ty e : TypeId} {sz : Nat} (ht : P.underlying t = some (.slice e)) (hs : (Go.sizeOf e).run P w = .ok sz w)
    (g off sLen sCap : Nat) (cur : Array Value) (te : TypeId) (hg : w.heap[g]? = some (.cells cur te (0, 0)))
    (a : Addr) (m c : Nat) (news : List Value) (hl : news.length = m * sz) (hnews : ∀ j u, news[j]? = some u → w.cell? (a.add j) = some u) (h1 : ∀ u ∈ news, u.oneCell' = true)
    (hroom : sLen + m ≤ sCap) (hfit : off + sLen * sz + news.length ≤ cur.size) :
    (Builtin.append_ #[t, t] ty #[.slice (some ⟨g, off, none⟩) sLen sCap, .slice (some a) m c]).run P w =
      .ok (.slice (some ⟨g, off, none⟩) (sLen + m) sCap) (w.setRow g (cur.toList.take (off + sLen * sz) ++ news ++ cur.toList.drop (off + sLen * sz + news.length)).toArray) := by
  have hf := run_firstCells_some (P := P) w sz m a m c news hl hnews
  have hst := run_storeCells_at P g (off + sLen * sz) te news 0 cur w hg (by simpa using hfit) h1
  simp only [Nat.add_zero] at hst
  simp [Builtin.append_, run_underlying ht, hs, Builtin.lenOf, hroom, hf, add_none, hst]

/-- A row that is appended to. -/
theorem append_row (hτ : Tok P τ) (hS : Sat w g O) {t ty c v : Nat} {s : Bool} {z : Nat} {xs ys : List (List DV)} {u x : Value} (hk : (tg τ t).kind = .slice)
    (hro : rowOf O c v = some (s, z, xs)) (hz : eqz τ t z = true) (hu : Val g (.row c v) u) (hx : Src w g z ys x) (hmax : xs.length + ys.length ≤ maxRow) :
    ∃ u' w' g', (Builtin.append_ #[t, t] ty #[u, x]).run P w = .ok u' w' ∧ g.le g' ∧ Fr w w' g g' ∧ Sat w' g' (O.set c (.row (v + 1) s z (xs ++ ys))) ∧ Val g' (.row c (v + 1)) u' := by
  obtain ⟨rfl, hsz⟩ := eqz_ne hz
  have ht := (hτ.of_kind (t := t) (by rw [hk]; simp)).kind
  rw [kindOk, hk] at ht
  dsimp only at ht
  have tke := hτ.of_size hsz
  have hso := tke.sizeOf w
  obtain ⟨hcn, a, cap, hrow, hat⟩ := hS.row hro
  have huv := Val_row hu hrow
  have hO : O[c]? = some (.row v s (tg τ (tg τ t).elem).size xs) := (hS.get (rowOf_some hro) (by simp)).1
  obtain ⟨hel, ax, capx, hxv, hxm⟩ := hx
  subst huv; subst hxv
  have hall : ∀ r ∈ xs ++ ys, r.length = (tg τ (tg τ t).elem).size := by
    intro r hr
    rcases List.mem_append.1 hr with hr | hr
    · exact hat.elen r hr
    · exact hel r hr
  -- the new number of the row
  let gv (u : Value) (im : Imm) (ow : Nat → Option Nat) : Gh := { g with imm := im, own := ow, row := fun k => if k = c then (v + 1, u) else g.row k }
  have hle : ∀ u im ow, g.imm.le im → g.le (gv u im ow) := by
    intro u im ow him
    refine ⟨him, Nat.le_refl _, fun _ _ => rfl, fun k _ => ?_⟩
    show (g.row k).1 < (if k = c then (v + 1, u) else g.row k).1 ∨ (if k = c then (v + 1, u) else g.row k) = g.row k
    by_cases hkc : k = c
    · left; subst hkc; rw [if_pos rfl, hrow]; simp
    · right; rw [if_neg hkc]
  have hval : ∀ a' l cp im ow, Val (gv (.slice a' l cp) im ow) (.row c (v + 1)) (.slice a' l cp) := by
    intro a' l cp im ow
    exact ⟨hcn, ⟨_, _, _, rfl⟩, .inr ⟨by simp [gv], by simp [gv]⟩⟩
  by_cases hy : ys = []
  · subst hy
    refine ⟨_, _, gv (.slice a xs.length cap) g.imm g.own, run_append_none ht hso a _ cap ax capx hat.len, hle _ _ _ (Imm.le_refl _), ⟨Nat.le_refl _, rfl, rfl, rfl, fun _ _ _ => rfl, fun _ _ _ => rfl, fun _ _ h => h⟩, ?_, hval _ _ _ _ _⟩
    refine hS.upd hcn (hle _ _ _ (Imm.le_refl _)) rfl (fun j hj _ => if_neg hj) (Nat.le_refl _) (fun b hb hne => ⟨rfl, rfl, rfl⟩) (fun b ys hi _ => hS.imm b ys hi) (fun b j hj _ => hS.own b j hj) ?_
    refine ⟨a, cap, by simp [gv], by simpa using hat.len, by simpa using hat.elen, ?_⟩
    rcases hat.mem with h0 | ⟨b, off, cc, tt, us, ha, hh, hs, ho, hus, hd, hi⟩
    · exact .inl h0
    · exact .inr ⟨b, off, cc, tt, us, ha, hh, hs, ho, by simpa using hus, by simpa using hd, by simpa using hi⟩
  · obtain ⟨bx, ox, vs, hax, hdx, hvl, hcx⟩ := hxm.resolve_left hy
    subst hax
    have hnews : ∀ j q, vs[j]? = some q → w.cell? ((⟨bx, ox, none⟩ : Addr).add j) = some q := by
      intro j q hj
      have hlt : j < vs.length := by
        rcases Nat.lt_or_ge j vs.length with h | h
        · exact h
        · rw [List.getElem?_eq_none h] at hj; cases hj
      rw [add_none, hcx j hlt, hj]
    have hypos : 0 < ys.length := by
      rcases Nat.eq_zero_or_pos ys.length with h | h
      · exact absurd (List.eq_nil_of_length_eq_zero h) hy
      · exact h
    have hflat : (xs ++ ys).flatten = xs.flatten ++ ys.flatten := by simp
    by_cases hroom : xs.length + ys.length ≤ cap
    · -- in place
      obtain ⟨b, off, cc, tt, us, ha, hh, hs, ho, hus, hd, hi⟩ := hat.mem.resolve_left (by omega)
      subst ha
      have hul : us.length = xs.length * (tg τ (tg τ t).elem).size := by rw [← DList_length hd, flat_len hat.elen]
      have hcz : (xs.length + ys.length) * (tg τ (tg τ t).elem).size ≤ cap * (tg τ (tg τ t).elem).size := Nat.mul_le_mul_right _ hroom
      rw [Nat.add_mul] at hcz
      have hr := run_append_fit (P := P) (ty := ty) ht hso b off xs.length cap cc tt hh ⟨bx, ox, none⟩ ys.length capx vs hvl hnews (DList_one hdx) hroom (by rw [hvl]; omega)
      generalize hsz' : (tg τ (tg τ t).elem).size = sz at *
      generalize hcc' : (cc.toList.take (off + xs.length * sz) ++ vs ++ cc.toList.drop (off + xs.length * sz + vs.length)).toArray = cc' at hr
      have hcl : cc'.toList = cc.toList.take (off + xs.length * sz) ++ vs ++ cc.toList.drop (off + xs.length * sz + vs.length) := by rw [← hcc']
      have hcsz : cc'.size = cc.size := by
        rw [← Array.length_toList, hcl]; simp; omega
      have htake : cc'.toList.take (off + (xs.length + ys.length) * sz) = cc.toList.take (off + xs.length * sz) ++ vs := by
        rw [hcl, List.take_left' (by simp; rw [hvl, Nat.add_mul]; omega)]
      let im : Imm := fun x => if x = b then (if s then none else some (cc'.toList.take (off + (xs.length + ys.length) * sz))) else g.imm x
      have him : g.imm.le im := by
        intro x zs hx
        by_cases hxb : x = b
        · subst hxb
          cases s with
          | true => simp at hi; rw [hi] at hx; cases hx
          | false =>
            simp at hi
            rw [hi] at hx
            simp at hx
            refine ⟨vs, ?_⟩
            show (if x = x then _ else _) = _
            rw [if_pos rfl, htake, ← hx]
            rfl
        · exact ⟨[], by show (if x = b then _ else _) = _; rw [if_neg hxb]; simpa using hx⟩
      refine ⟨_, _, gv (.slice (some ⟨b, off, none⟩) (xs.length + ys.length) cap) im g.own, hr, hle _ _ _ him, ?_, ?_, hval _ _ _ _ _⟩
      · refine ⟨by simp, rfl, rfl, rfl, fun i hi' hown => setRow_other _ _ _ _ ?_, fun i hi' hown => ?_, fun _ _ h => h⟩
        · rintro rfl; rw [ho] at hown; cases hown
        · show (if i = b then _ else _) = _
          rw [if_neg]; rintro rfl; rw [ho] at hown; cases hown
      · refine hS.upd hcn (hle _ _ _ him) rfl (fun j hj _ => if_neg hj) (by simp) (fun i hi' hne => ⟨setRow_other _ _ _ _ ?_, rfl, ?_⟩) (fun i zs hiz hc => ?_) (fun i j hj hc => ?_) ?_
        · rintro rfl; exact hne ho
        · show (if i = b then _ else _) = _
          rw [if_neg]; rintro rfl; exact hne ho
        · by_cases hib : i = b
          · subst hib
            have : (if s then none else some (cc'.toList.take (off + (xs.length + ys.length) * sz))) = some zs := by
              have : (if i = i then (if s then none else some (cc'.toList.take (off + (xs.length + ys.length) * sz))) else g.imm i) = some zs := hiz
              rwa [if_pos rfl] at this
            cases s with
            | true => simp at this
            | false =>
              simp at this
              exact ⟨cc', tt, _, setRow_heap w i cc _ tt _ hh, by rw [← this]; exact List.take_prefix _ _⟩
          · have : g.imm i = some zs := by
              have : (if i = b then _ else g.imm i) = some zs := hiz
              rwa [if_neg hib] at this
            obtain ⟨c2, t2, f2, hh2, hp2⟩ := hS.imm i zs this
            exact ⟨c2, t2, f2, by rw [setRow_other _ _ _ _ hib]; exact hh2, hp2⟩
        · have := hS.own i j hj
          exact ⟨by simpa using this.1, this.2⟩
        · refine ⟨some ⟨b, off, none⟩, cap, by simp [gv], by simpa using hroom, hall, .inr ⟨b, off, cc', tt, us ++ vs, rfl, setRow_heap w b cc _ tt _ hh, by rw [hcsz]; exact hs, ho, ?_, ?_, ?_⟩⟩
          · rw [hcl]
            simp only [List.length_append]
            have e1 : (cc.toList.take (off + xs.length * sz)).length = off + xs.length * sz := by simp; omega
            rw [List.append_assoc, List.drop_append_of_le_length (by omega)]
            have e2 : (cc.toList.take (off + xs.length * sz)).drop off = us := by
              rw [← hus, List.drop_take]; congr 1; omega
            rw [e2, ← List.append_assoc, List.take_left' (by simp [hul, hvl, Nat.add_mul])]
          · rw [hflat]; exact DList_append (DList_mono him _ _ hd) (DList_mono him _ _ hdx)
          · show (if b = b then _ else _) = _
            rw [if_pos rfl]
            simp
    · -- a new block
      have hge := grownCap_ge w (xs.length + ys.length) cap (tg τ t).elem
      obtain ⟨ti, zz, hti, hts, htb, htz, hzc, hzs, _⟩ := tke.info
      have hbytes : (xs.length + ys.length) * ti.bytes ≤ 140737488355328 := by
        rw [htb]
        have := tke.small
        calc (xs.length + ys.length) * (tg τ (tg τ t).elem).bytes ≤ maxRow * 1024 := Nat.mul_le_mul hmax this
          _ ≤ _ := by simp [maxRow]
      have hmx : xs.length + ys.length ≤ 68719476736 := hmax
      -- the old cells
      have hold : ∃ olds : List Value, olds.length = xs.length * ti.size ∧ (∀ ab, a = some ab → ∀ j q, olds[j]? = some q → w.cell? (ab.add j) = some q) ∧ DList g.imm xs.flatten olds := by
        rcases hat.all with h1 | ⟨b, off, us, h1, h2, h3, h4⟩
        · subst h1; exact ⟨[], by simp, by simp, trivial⟩
        · refine ⟨us, by rw [hts]; exact h3, fun ab hab j q hj => ?_, h2⟩
          rw [h1] at hab; simp at hab; subst hab
          have hlt : j < us.length := by
            rcases Nat.lt_or_ge j us.length with h | h
            · exact h
            · rw [List.getElem?_eq_none h] at hj; cases hj
          rw [add_none, h4 j hlt, hj]
      obtain ⟨olds, hol, hoc, hod⟩ := hold
      have hrun : ∃ rest : List Value, (olds ++ vs).length + rest.length = grownCap w (xs.length + ys.length) cap (tg τ t).elem * (tg τ (tg τ t).elem).size ∧
          (Builtin.append_ #[t, t] ty #[.slice a xs.length cap, .slice (some ⟨bx, ox, none⟩) ys.length capx]).run P w =
            .ok (.slice (some ⟨w.heap.size, 0, none⟩) (xs.length + ys.length) (grownCap w (xs.length + ys.length) cap (tg τ t).elem))
              (w.drew.alloc (.cells ((olds ++ vs) ++ rest).toArray (tg τ t).elem)) := by
        refine ⟨(Builtin.zeroCells zz.cells (grownCap w (xs.length + ys.length) cap (tg τ t).elem - (xs.length + ys.length))).toList, ?_, ?_⟩
        · simp only [Array.length_toList, size_zeroCells, hzs, List.length_append, hol, hvl, hts, ← Nat.add_mul]
          congr 1; omega
        · cases a with
          | some ab =>
            have := run_append_grow (P := P) w t ty (tg τ t).elem ti zz ht hti htz ab xs.length cap olds hol (hoc ab rfl) ⟨bx, ox, none⟩ ys.length capx vs (by rw [hts]; exact hvl) hnews (by omega) (by omega) (growslice_fits (by omega) hbytes)
            rw [this]
            congr 2
            simp
          | none =>
            have hcap0 : cap = 0 := by
              rcases hat.mem with h | ⟨_, _, _, _, _, h, _⟩
              · exact h
              · cases h
            subst hcap0
            have hx0 : xs = [] := by
              have := hat.len
              cases xs with
              | nil => rfl
              | cons x xs => simp at this
            subst hx0
            have hol0 : olds = [] := List.eq_nil_of_length_eq_zero (by simpa using hol)
            subst hol0
            have := run_append_nil (P := P) w t ty (tg τ t).elem ti zz ht hti htz ⟨bx, ox, none⟩ ys.length capx vs (by rw [hts]; exact hvl) hnews hypos (by simp at hmx; omega) (by simp at hbytes; omega)
            simp only [List.length_nil, Nat.zero_add, List.nil_append]
            rw [this]
            congr 2
            simp
      obtain ⟨rest, hrl, hr⟩ := hrun
      generalize hsz' : (tg τ (tg τ t).elem).size = sz at *
      generalize hgc : grownCap w (xs.length + ys.length) cap (tg τ t).elem = gc at *
      let im : Imm := fun x => if x = w.heap.size then (if s then none else some (((olds ++ vs) ++ rest).take ((xs.length + ys.length) * sz))) else g.imm x
      let ow : Nat → Option Nat := fun x => if x = w.heap.size then some c else if g.own x = some c then none else g.own x
      have hfresh := own_fresh hS (Nat.le_refl w.heap.size)
      have him : g.imm.le im := by
        intro x zs hx
        have hne : x ≠ w.heap.size := by rintro rfl; rw [hfresh.2] at hx; cases hx
        exact ⟨[], by show (if x = _ then _ else _) = _; rw [if_neg hne]; simpa using hx⟩
      have hheap : ∀ i, i < w.heap.size → (w.drew.alloc (.cells ((olds ++ vs) ++ rest).toArray (tg τ t).elem)).heap[i]? = w.heap[i]? := by
        intro i hi
        show (w.heap.push _)[i]? = _
        rw [Array.getElem?_push, if_neg (by omega)]
      refine ⟨_, _, gv (.slice (some ⟨w.heap.size, 0, none⟩) (xs.length + ys.length) gc) im ow, hr, hle _ _ _ him, ?_, ?_, hval _ _ _ _ _⟩
      · refine ⟨by simp, rfl, rfl, rfl, fun i hi' _ => hheap i hi', fun i hi' _ => ?_, fun i hi' hown => ?_⟩
        · show (if i = _ then _ else _) = _
          rw [if_neg (by omega)]
        · show (if i = _ then _ else _) = _
          rw [if_neg (by omega), hown]; simp
      · refine hS.upd hcn (hle _ _ _ him) rfl (fun j hj _ => if_neg hj) (by simp) (fun i hi' hne => ⟨hheap i hi', ?_, ?_⟩) (fun i zs hiz hc => ?_) (fun i j hj hc => ?_) ?_
        · show (if i = _ then _ else _) = _
          rw [if_neg (by omega), if_neg hne]
        · show (if i = _ then _ else _) = _
          rw [if_neg (by omega)]
        · by_cases hib : i = w.heap.size
          · subst hib
            have : (if s then none else some (((olds ++ vs) ++ rest).take ((xs.length + ys.length) * sz))) = some zs := by
              have : (if w.heap.size = w.heap.size then (if s then none else some (((olds ++ vs) ++ rest).take ((xs.length + ys.length) * sz))) else g.imm w.heap.size) = some zs := hiz
              rwa [if_pos rfl] at this
            cases s with
            | true => simp at this
            | false =>
              simp at this
              refine ⟨((olds ++ vs) ++ rest).toArray, (tg τ t).elem, (0, 0), ?_, by rw [← this]; simpa using List.take_prefix _ _⟩
              show (w.heap.push _)[w.heap.size]? = _
              simp
          · have : g.imm i = some zs := by
              have : (if i = _ then _ else g.imm i) = some zs := hiz
              rwa [if_neg hib] at this
            obtain ⟨c2, t2, f2, hh2, hp2⟩ := hS.imm i zs this
            exact ⟨c2, t2, f2, by rw [hheap i (hS.imm_lt this)]; exact hh2, hp2⟩
        · have hj' : (if i = w.heap.size then some c else if g.own i = some c then none else g.own i) = some j := hj
          split at hj'
          · rename_i hi
            simp at hj'; subst hj'
            exact ⟨by rw [hi]; simp, hcn⟩
          · split at hj'
            · cases hj'
            · have := hS.own i j hj'
              exact ⟨by simp; omega, this.2⟩
        · refine ⟨some ⟨w.heap.size, 0, none⟩, gc, by simp [gv], by simpa using hge, hall, .inr ⟨w.heap.size, 0, ((olds ++ vs) ++ rest).toArray, (tg τ t).elem, olds ++ vs, rfl, ?_, ?_, ?_, ?_, ?_, ?_⟩⟩
          · show (w.heap.push _)[w.heap.size]? = _
            simp
          · simp at hrl ⊢; omega
          · show (if w.heap.size = w.heap.size then _ else _) = _
            rw [if_pos rfl]
          · have hlen : (olds ++ vs).length = (xs ++ ys).length * sz := by simp [hol, hvl, hts, Nat.add_mul]
            rw [List.drop_zero, ← hlen]
            exact List.take_left
          · rw [hflat]; exact DList_append (DList_mono him _ _ hod) (DList_mono him _ _ hdx)
          · show (if w.heap.size = w.heap.size then _ else _) = _
            rw [if_pos rfl]
            simp
end
end Ab

/- The frame 'Ab' is sound, an addition: append of what is no slice of the same kind (a string's bytes). -/
namespace Ab
open Go
set_option linter.unusedSimpArgs false
set_option linter.unusedVariables false

section
variable {P : Program} {τ : Tab} {w : World} {g : Gh} {O : List Obj}

/-- What is appended, of any kind that has cells -/
structure SrcX (P : Program) (w : World) (g : Gh) (z : Nat) (ys : List (List DV)) (t2 : TypeId) (x : Value) : Prop where
  elen : ∀ r ∈ ys, r.length = z
  len : ∀ w', (Builtin.lenOf x).run P w' = .ok ys.length w'
  ty : P.underlying t2 = some .string
  mem : ∃ us : List Value, DList g.imm ys.flatten us ∧ us.length = ys.length * z ∧ ∀ w', w' = w ∨ w' = w.drew → (Builtin.firstCells z ys.length x).run P w' = .ok us.toArray w'

theorem run_appendX_none {t t2 ty e : TypeId} {sz : Nat} {x : Value} (ht : P.underlying t = some (.slice e)) (hu : P.underlying t2 = some .string) (hs : (Go.sizeOf e).run P w = .ok sz w)
    (b : Option Addr) (sLen sCap : Nat) (hl : (Builtin.lenOf x).run P w = .ok 0 w) (hf : (Builtin.firstCells sz 0 x).run P w = .ok #[] w) (h : sLen ≤ sCap) :
    (Builtin.append_ #[t, t2] ty #[.slice b sLen sCap, x]).run P w = .ok (.slice b sLen sCap) w := by
  cases b <;> simp [Builtin.append_, run_underlying ht, run_underlying hu, hs, hl, h, hf, storeCells]

theorem run_appendX_fit {t t2 ty e : TypeId} {sz : Nat} {x : Value} (ht : P.underlying t = some (.slice e)) (hu : P.underlying t2 = some .string) (hs : (Go.sizeOf e).run P w = .ok sz w)
    (g off sLen sCap : Nat) (cur : Array Value) (te : TypeId) (hg : w.heap[g]? = some (.cells cur te (0, 0)))
    {m : Nat} (hl : (Builtin.lenOf x).run P w = .ok m w) (news : List Value) (hf : (Builtin.firstCells sz m x).run P w = .ok news.toArray w) (h1 : ∀ u ∈ news, u.oneCell' = true)
    (hroom : sLen + m ≤ sCap) (hfit : off + sLen * sz + news.length ≤ cur.size) :
    (Builtin.append_ #[t, t2] ty #[.slice (some ⟨g, off, none⟩) sLen sCap, x]).run P w =
      .ok (.slice (some ⟨g, off, none⟩) (sLen + m) sCap) (w.setRow g (cur.toList.take (off + sLen * sz) ++ news ++ cur.toList.drop (off + sLen * sz + news.length)).toArray) := by
  have hst := run_storeCells_at P g (off + sLen * sz) te news 0 cur w hg (by simpa using hfit) h1
  simp only [Nat.add_zero] at hst
  simp [Builtin.append_, run_underlying ht, run_underlying hu, hs, hl, hroom, hf, add_none, hst]

theorem run_appendX_nil (w : World) (t t2 ty e : TypeId) (i : TypeInfo) (z : Value) {x : Value} (ht : P.underlying t = some (.slice e)) (hu : P.underlying t2 = some .string) (hi : P.info? e = some i) (hz : i.zero = some z)
    {n : Nat} (hl : ∀ w', (Builtin.lenOf x).run P w' = .ok n w') (news : List Value) (hf : (Builtin.firstCells i.size n x).run P w.drew = .ok news.toArray w.drew)
    (h0 : 0 < n) (h63 : (n : Int) ≤ 9223372036854775807) (h48 : n * i.bytes ≤ 281474976710656) :
    (Builtin.append_ #[t, t2] ty #[.slice none 0 0, x]).run P w =
      .ok (.slice (some ⟨w.heap.size, 0, none⟩) n (grownCap w n 0 e)) (w.drew.alloc (.cells (news.toArray ++ Builtin.zeroCells z.cells (grownCap w n 0 e - n)) e)) := by
  have hn : n ≠ 0 := by omega
  have h63' : ¬ (9223372036854775807 < (n : Int)) := by omega
  have h48' : ¬ (281474976710656 < Builtin.nextslicecap n 0 * i.bytes) := by rw [nextslicecap_zero h0]; omega
  simp [Builtin.append_, run_underlying ht, run_underlying hu, Go.sizeOf, typeInfo, zeroValue, hi, hz, hl, hn, h63', h48', Question.forced, run_firstCells_none, hf, newRow, grownCap]

theorem run_appendX_grow (w : World) (t t2 ty e : TypeId) (i : TypeInfo) (z : Value) {x : Value} (ht : P.underlying t = some (.slice e)) (hu : P.underlying t2 = some .string) (hi : P.info? e = some i) (hz : i.zero = some z)
    (b : Addr) (sLen sCap : Nat) (olds : List Value) (hlo : olds.length = sLen * i.size) (holds : ∀ j v, olds[j]? = some v → w.cell? (b.add j) = some v)
    {n : Nat} (hl : ∀ w', (Builtin.lenOf x).run P w' = .ok n w') (news : List Value) (hf : (Builtin.firstCells i.size n x).run P w.drew = .ok news.toArray w.drew)
    (hg : sCap < sLen + n) (h63 : ((sLen + n : Nat) : Int) ≤ 9223372036854775807) (hfit : Builtin.nextslicecap (sLen + n) sCap * i.bytes ≤ 281474976710656) :
    (Builtin.append_ #[t, t2] ty #[.slice (some b) sLen sCap, x]).run P w =
      .ok (.slice (some ⟨w.heap.size, 0, none⟩) (sLen + n) (grownCap w (sLen + n) sCap e))
        (w.drew.alloc (.cells (olds.toArray ++ news.toArray ++ Builtin.zeroCells z.cells (grownCap w (sLen + n) sCap e - (sLen + n))) e)) := by
  have hn : ¬ (sLen + n ≤ sCap) := by omega
  have h63' : ¬ (9223372036854775807 < ((sLen : Int) + (n : Int))) := by omega
  have h48' : ¬ (281474976710656 < Builtin.nextslicecap (sLen + n) sCap * i.bytes) := by omega
  have hfo := run_firstCells_some (P := P) w.drew i.size sLen b sLen sCap olds hlo (by simpa using holds)
  simp [Builtin.append_, run_underlying ht, run_underlying hu, Go.sizeOf, typeInfo, zeroValue, hi, hz, hl, hn, h63', h48', Question.forced, hf, hfo, newRow, grownCap]
  congr 2
  apply Array.ext'
  simp [List.append_assoc]

/-- A row that is appended to. -/
theorem append_rowX (hτ : Tok P τ) (hS : Sat w g O) {t t2 ty c v : Nat} {s : Bool} {z : Nat} {xs ys : List (List DV)} {u x : Value} (hk : (tg τ t).kind = .slice)
    (hro : rowOf O c v = some (s, z, xs)) (hz : eqz τ t z = true) (hu : Val g (.row c v) u) (hx : SrcX P w g z ys t2 x) (hmax : xs.length + ys.length ≤ maxRow) :
    ∃ u' w' g', (Builtin.append_ #[t, t2] ty #[u, x]).run P w = .ok u' w' ∧ g.le g' ∧ Fr w w' g g' ∧ Sat w' g' (O.set c (.row (v + 1) s z (xs ++ ys))) ∧ Val g' (.row c (v + 1)) u' := by
  obtain ⟨rfl, hsz⟩ := eqz_ne hz
  have ht := (hτ.of_kind (t := t) (by rw [hk]; simp)).kind
  rw [kindOk, hk] at ht
  dsimp only at ht
  have tke := hτ.of_size hsz
  have hso := tke.sizeOf w
  obtain ⟨hcn, a, cap, hrow, hat⟩ := hS.row hro
  have huv := Val_row hu hrow
  have hO : O[c]? = some (.row v s (tg τ (tg τ t).elem).size xs) := (hS.get (rowOf_some hro) (by simp)).1
  obtain ⟨hel, hlx, hux, vs, hdx, hvl, hcx⟩ := hx
  subst huv
  have hall : ∀ r ∈ xs ++ ys, r.length = (tg τ (tg τ t).elem).size := by
    intro r hr
    rcases List.mem_append.1 hr with hr | hr
    · exact hat.elen r hr
    · exact hel r hr
  -- the new number of the row
  let gv (u : Value) (im : Imm) (ow : Nat → Option Nat) : Gh := { g with imm := im, own := ow, row := fun k => if k = c then (v + 1, u) else g.row k }
  have hle : ∀ u im ow, g.imm.le im → g.le (gv u im ow) := by
    intro u im ow him
    refine ⟨him, Nat.le_refl _, fun _ _ => rfl, fun k _ => ?_⟩
    show (g.row k).1 < (if k = c then (v + 1, u) else g.row k).1 ∨ (if k = c then (v + 1, u) else g.row k) = g.row k
    by_cases hkc : k = c
    · left; subst hkc; rw [if_pos rfl, hrow]; simp
    · right; rw [if_neg hkc]
  have hval : ∀ a' l cp im ow, Val (gv (.slice a' l cp) im ow) (.row c (v + 1)) (.slice a' l cp) := by
    intro a' l cp im ow
    exact ⟨hcn, ⟨_, _, _, rfl⟩, .inr ⟨by simp [gv], by simp [gv]⟩⟩
  by_cases hy : ys = []
  · subst hy
    refine ⟨_, _, gv (.slice a xs.length cap) g.imm g.own, run_appendX_none ht hux hso a _ cap (hlx w) (by have h0 : vs = [] := List.eq_nil_of_length_eq_zero (by simpa using hvl); subst h0; exact hcx w (.inl rfl)) hat.len, hle _ _ _ (Imm.le_refl _), ⟨Nat.le_refl _, rfl, rfl, rfl, fun _ _ _ => rfl, fun _ _ _ => rfl, fun _ _ h => h⟩, ?_, hval _ _ _ _ _⟩
    refine hS.upd hcn (hle _ _ _ (Imm.le_refl _)) rfl (fun j hj _ => if_neg hj) (Nat.le_refl _) (fun b hb hne => ⟨rfl, rfl, rfl⟩) (fun b ys hi _ => hS.imm b ys hi) (fun b j hj _ => hS.own b j hj) ?_
    refine ⟨a, cap, by simp [gv], by simpa using hat.len, by simpa using hat.elen, ?_⟩
    rcases hat.mem with h0 | ⟨b, off, cc, tt, us, ha, hh, hs, ho, hus, hd, hi⟩
    · exact .inl h0
    · exact .inr ⟨b, off, cc, tt, us, ha, hh, hs, ho, by simpa using hus, by simpa using hd, by simpa using hi⟩
  · have hypos : 0 < ys.length := by
      rcases Nat.eq_zero_or_pos ys.length with h | h
      · exact absurd (List.eq_nil_of_length_eq_zero h) hy
      · exact h
    have hflat : (xs ++ ys).flatten = xs.flatten ++ ys.flatten := by simp
    by_cases hroom : xs.length + ys.length ≤ cap
    · -- in place
      obtain ⟨b, off, cc, tt, us, ha, hh, hs, ho, hus, hd, hi⟩ := hat.mem.resolve_left (by omega)
      subst ha
      have hul : us.length = xs.length * (tg τ (tg τ t).elem).size := by rw [← DList_length hd, flat_len hat.elen]
      have hcz : (xs.length + ys.length) * (tg τ (tg τ t).elem).size ≤ cap * (tg τ (tg τ t).elem).size := Nat.mul_le_mul_right _ hroom
      rw [Nat.add_mul] at hcz
      have hr := run_appendX_fit (P := P) (ty := ty) ht hux hso b off xs.length cap cc tt hh (hlx w) vs (hcx w (.inl rfl)) (DList_one hdx) hroom (by rw [hvl]; omega)
      generalize hsz' : (tg τ (tg τ t).elem).size = sz at *
      generalize hcc' : (cc.toList.take (off + xs.length * sz) ++ vs ++ cc.toList.drop (off + xs.length * sz + vs.length)).toArray = cc' at hr
      have hcl : cc'.toList = cc.toList.take (off + xs.length * sz) ++ vs ++ cc.toList.drop (off + xs.length * sz + vs.length) := by rw [← hcc']
      have hcsz : cc'.size = cc.size := by
        rw [← Array.length_toList, hcl]; simp; omega
      have htake : cc'.toList.take (off + (xs.length + ys.length) * sz) = cc.toList.take (off + xs.length * sz) ++ vs := by
        rw [hcl, List.take_left' (by simp; rw [hvl, Nat.add_mul]; omega)]
      let im : Imm := fun x => if x = b then (if s then none else some (cc'.toList.take (off + (xs.length + ys.length) * sz))) else g.imm x
      have him : g.imm.le im := by
        intro x zs hx
        by_cases hxb : x = b
        · subst hxb
          cases s with
          | true => simp at hi; rw [hi] at hx; cases hx
          | false =>
            simp at hi
            rw [hi] at hx
            simp at hx
            refine ⟨vs, ?_⟩
            show (if x = x then _ else _) = _
            rw [if_pos rfl, htake, ← hx]
            rfl
        · exact ⟨[], by show (if x = b then _ else _) = _; rw [if_neg hxb]; simpa using hx⟩
      refine ⟨_, _, gv (.slice (some ⟨b, off, none⟩) (xs.length + ys.length) cap) im g.own, hr, hle _ _ _ him, ?_, ?_, hval _ _ _ _ _⟩
      · refine ⟨by simp, rfl, rfl, rfl, fun i hi' hown => setRow_other _ _ _ _ ?_, fun i hi' hown => ?_, fun _ _ h => h⟩
        · rintro rfl; rw [ho] at hown; cases hown
        · show (if i = b then _ else _) = _
          rw [if_neg]; rintro rfl; rw [ho] at hown; cases hown
      · refine hS.upd hcn (hle _ _ _ him) rfl (fun j hj _ => if_neg hj) (by simp) (fun i hi' hne => ⟨setRow_other _ _ _ _ ?_, rfl, ?_⟩) (fun i zs hiz hc => ?_) (fun i j hj hc => ?_) ?_
        · rintro rfl; exact hne ho
        · show (if i = b then _ else _) = _
          rw [if_neg]; rintro rfl; exact hne ho
        · by_cases hib : i = b
          · subst hib
            have : (if s then none else some (cc'.toList.take (off + (xs.length + ys.length) * sz))) = some zs := by
              have : (if i = i then (if s then none else some (cc'.toList.take (off + (xs.length + ys.length) * sz))) else g.imm i) = some zs := hiz
              rwa [if_pos rfl] at this
            cases s with
            | true => simp at this
            | false =>
              simp at this
              exact ⟨cc', tt, _, setRow_heap w i cc _ tt _ hh, by rw [← this]; exact List.take_prefix _ _⟩
          · have : g.imm i = some zs := by
              have : (if i = b then _ else g.imm i) = some zs := hiz
              rwa [if_neg hib] at this
            obtain ⟨c2, t2, f2, hh2, hp2⟩ := hS.imm i zs this
            exact ⟨c2, t2, f2, by rw [setRow_other _ _ _ _ hib]; exact hh2, hp2⟩
        · have := hS.own i j hj
          exact ⟨by simpa using this.1, this.2⟩
        · refine ⟨some ⟨b, off, none⟩, cap, by simp [gv], by simpa using hroom, hall, .inr ⟨b, off, cc', tt, us ++ vs, rfl, setRow_heap w b cc _ tt _ hh, by rw [hcsz]; exact hs, ho, ?_, ?_, ?_⟩⟩
          · rw [hcl]
            simp only [List.length_append]
            have e1 : (cc.toList.take (off + xs.length * sz)).length = off + xs.length * sz := by simp; omega
            rw [List.append_assoc, List.drop_append_of_le_length (by omega)]
            have e2 : (cc.toList.take (off + xs.length * sz)).drop off = us := by
              rw [← hus, List.drop_take]; congr 1; omega
            rw [e2, ← List.append_assoc, List.take_left' (by simp [hul, hvl, Nat.add_mul])]
          · rw [hflat]; exact DList_append (DList_mono him _ _ hd) (DList_mono him _ _ hdx)
          · show (if b = b then _ else _) = _
            rw [if_pos rfl]
            simp
    · -- a new block
      have hge := grownCap_ge w (xs.length + ys.length) cap (tg τ t).elem
      obtain ⟨ti, zz, hti, hts, htb, htz, hzc, hzs, _⟩ := tke.info
      have hbytes : (xs.length + ys.length) * ti.bytes ≤ 140737488355328 := by
        rw [htb]
        have := tke.small
        calc (xs.length + ys.length) * (tg τ (tg τ t).elem).bytes ≤ maxRow * 1024 := Nat.mul_le_mul hmax this
          _ ≤ _ := by simp [maxRow]
      have hmx : xs.length + ys.length ≤ 68719476736 := hmax
      -- the old cells
      have hold : ∃ olds : List Value, olds.length = xs.length * ti.size ∧ (∀ ab, a = some ab → ∀ j q, olds[j]? = some q → w.cell? (ab.add j) = some q) ∧ DList g.imm xs.flatten olds := by
        rcases hat.all with h1 | ⟨b, off, us, h1, h2, h3, h4⟩
        · subst h1; exact ⟨[], by simp, by simp, trivial⟩
        · refine ⟨us, by rw [hts]; exact h3, fun ab hab j q hj => ?_, h2⟩
          rw [h1] at hab; simp at hab; subst hab
          have hlt : j < us.length := by
            rcases Nat.lt_or_ge j us.length with h | h
            · exact h
            · rw [List.getElem?_eq_none h] at hj; cases hj
          rw [add_none, h4 j hlt, hj]
      obtain ⟨olds, hol, hoc, hod⟩ := hold
      have hrun : ∃ rest : List Value, (olds ++ vs).length + rest.length = grownCap w (xs.length + ys.length) cap (tg τ t).elem * (tg τ (tg τ t).elem).size ∧
          (Builtin.append_ #[t, t2] ty #[.slice a xs.length cap, x]).run P w =
            .ok (.slice (some ⟨w.heap.size, 0, none⟩) (xs.length + ys.length) (grownCap w (xs.length + ys.length) cap (tg τ t).elem))
              (w.drew.alloc (.cells ((olds ++ vs) ++ rest).toArray (tg τ t).elem)) := by
        refine ⟨(Builtin.zeroCells zz.cells (grownCap w (xs.length + ys.length) cap (tg τ t).elem - (xs.length + ys.length))).toList, ?_, ?_⟩
        · simp only [Array.length_toList, size_zeroCells, hzs, List.length_append, hol, hvl, hts, ← Nat.add_mul]
          congr 1; omega
        · cases a with
          | some ab =>
            have := run_appendX_grow (P := P) w t t2 ty (tg τ t).elem ti zz ht hux hti htz ab xs.length cap olds hol (hoc ab rfl) (fun w' => hlx w') vs (by rw [hts]; exact hcx _ (.inr rfl)) (by omega) (by omega) (growslice_fits (by omega) hbytes)
            rw [this]
            congr 2
            simp
          | none =>
            have hcap0 : cap = 0 := by
              rcases hat.mem with h | ⟨_, _, _, _, _, h, _⟩
              · exact h
              · cases h
            subst hcap0
            have hx0 : xs = [] := by
              have := hat.len
              cases xs with
              | nil => rfl
              | cons x xs => simp at this
            subst hx0
            have hol0 : olds = [] := List.eq_nil_of_length_eq_zero (by simpa using hol)
            subst hol0
            have := run_appendX_nil (P := P) w t t2 ty (tg τ t).elem ti zz ht hux hti htz (fun w' => hlx w') vs (by rw [hts]; exact hcx _ (.inr rfl)) hypos (by simp at hmx; omega) (by simp at hbytes; omega)
            simp only [List.length_nil, Nat.zero_add, List.nil_append]
            rw [this]
            congr 2
            simp
      obtain ⟨rest, hrl, hr⟩ := hrun
      generalize hsz' : (tg τ (tg τ t).elem).size = sz at *
      generalize hgc : grownCap w (xs.length + ys.length) cap (tg τ t).elem = gc at *
      let im : Imm := fun x => if x = w.heap.size then (if s then none else some (((olds ++ vs) ++ rest).take ((xs.length + ys.length) * sz))) else g.imm x
      let ow : Nat → Option Nat := fun x => if x = w.heap.size then some c else if g.own x = some c then none else g.own x
      have hfresh := own_fresh hS (Nat.le_refl w.heap.size)
      have him : g.imm.le im := by
        intro x zs hx
        have hne : x ≠ w.heap.size := by rintro rfl; rw [hfresh.2] at hx; cases hx
        exact ⟨[], by show (if x = _ then _ else _) = _; rw [if_neg hne]; simpa using hx⟩
      have hheap : ∀ i, i < w.heap.size → (w.drew.alloc (.cells ((olds ++ vs) ++ rest).toArray (tg τ t).elem)).heap[i]? = w.heap[i]? := by
        intro i hi
        show (w.heap.push _)[i]? = _
        rw [Array.getElem?_push, if_neg (by omega)]
      refine ⟨_, _, gv (.slice (some ⟨w.heap.size, 0, none⟩) (xs.length + ys.length) gc) im ow, hr, hle _ _ _ him, ?_, ?_, hval _ _ _ _ _⟩
      · refine ⟨by simp, rfl, rfl, rfl, fun i hi' _ => hheap i hi', fun i hi' _ => ?_, fun i hi' hown => ?_⟩
        · show (if i = _ then _ else _) = _
          rw [if_neg (by omega)]
        · show (if i = _ then _ else _) = _
          rw [if_neg (by omega), hown]; simp
      · refine hS.upd hcn (hle _ _ _ him) rfl (fun j hj _ => if_neg hj) (by simp) (fun i hi' hne => ⟨hheap i hi', ?_, ?_⟩) (fun i zs hiz hc => ?_) (fun i j hj hc => ?_) ?_
        · show (if i = _ then _ else _) = _
          rw [if_neg (by omega), if_neg hne]
        · show (if i = _ then _ else _) = _
          rw [if_neg (by omega)]
        · by_cases hib : i = w.heap.size
          · subst hib
            have : (if s then none else some (((olds ++ vs) ++ rest).take ((xs.length + ys.length) * sz))) = some zs := by
              have : (if w.heap.size = w.heap.size then (if s then none else some (((olds ++ vs) ++ rest).take ((xs.length + ys.length) * sz))) else g.imm w.heap.size) = some zs := hiz
              rwa [if_pos rfl] at this
            cases s with
            | true => simp at this
            | false =>
              simp at this
              refine ⟨((olds ++ vs) ++ rest).toArray, (tg τ t).elem, (0, 0), ?_, by rw [← this]; simpa using List.take_prefix _ _⟩
              show (w.heap.push _)[w.heap.size]? = _
              simp
          · have : g.imm i = some zs := by
              have : (if i = _ then _ else g.imm i) = some zs := hiz
              rwa [if_neg hib] at this
            obtain ⟨c2, t2, f2, hh2, hp2⟩ := hS.imm i zs this
            exact ⟨c2, t2, f2, by rw [hheap i (hS.imm_lt this)]; exact hh2, hp2⟩
        · have hj' : (if i = w.heap.size then some c else if g.own i = some c then none else g.own i) = some j := hj
          split at hj'
          · rename_i hi
            simp at hj'; subst hj'
            exact ⟨by rw [hi]; simp, hcn⟩
          · split at hj'
            · cases hj'
            · have := hS.own i j hj'
              exact ⟨by simp; omega, this.2⟩
        · refine ⟨some ⟨w.heap.size, 0, none⟩, gc, by simp [gv], by simpa using hge, hall, .inr ⟨w.heap.size, 0, ((olds ++ vs) ++ rest).toArray, (tg τ t).elem, olds ++ vs, rfl, ?_, ?_, ?_, ?_, ?_, ?_⟩⟩
          · show (w.heap.push _)[w.heap.size]? = _
            simp
          · simp at hrl ⊢; omega
          · show (if w.heap.size = w.heap.size then _ else _) = _
            rw [if_pos rfl]
          · have hlen : (olds ++ vs).length = (xs ++ ys).length * sz := by simp [hol, hvl, hts, Nat.add_mul]
            rw [List.drop_zero, ← hlen]
            exact List.take_left
          · rw [hflat]; exact DList_append (DList_mono him _ _ hod) (DList_mono him _ _ hdx)
          · show (if w.heap.size = w.heap.size then _ else _) = _
            rw [if_pos rfl]
            simp
end
end Ab

/- The frame 'Ab' is sound, tenth part: slices, stores into rows, slice literals. -/
namespace Ab
open Go
set_option linter.unusedSimpArgs false
set_option linter.unusedVariables false

section
variable {P : Program} {τ : Tab} {w : World} {g : Gh} {O : List Obj}

theorem DRows_drop {I : Imm} {z b : Nat} : ∀ {xs : List (List DV)} {off : Nat} (n : Nat), DRows I z b off xs → DRows I z b (off + n * z) (xs.drop n)
  | [], off, n, _ => by simp [DRows]
  | x :: xs, off, 0, h => by simpa using h
  | x :: xs, off, n + 1, ⟨_, _, h⟩ => by
    have := DRows_drop n h
    rw [show off + z + n * z = off + (n + 1) * z by rw [Nat.add_mul]; omega] at this
    simpa using this
theorem DRows_take {I : Imm} {z b : Nat} : ∀ {xs : List (List DV)} {off : Nat} (n : Nat), DRows I z b off xs → DRows I z b off (xs.take n)
  | [], off, n, _ => by simp [DRows]
  | x :: xs, off, 0, h => by simp [DRows]
  | x :: xs, off, n + 1, ⟨h1, h2, h3⟩ => ⟨h1, h2, DRows_take n h3⟩

/-- A piece of a slice of data. -/
theorem slice_data {I : Imm} {z : Nat} {xs : List (List DV)} {a : Option Addr} {cap lo hi : Nat} (hlo : lo ≤ hi) (hhi : hi ≤ xs.length) (hcap : xs.length ≤ cap)
    (h : xs = [] ∨ ∃ b off, a = some ⟨b, off, none⟩ ∧ DRows I z b off xs) :
    DVal I (.sl z ((xs.take hi).drop lo)) (.slice (if cap = lo then a else a.map (·.add (lo * z))) (hi - lo) (cap - lo)) := by
  have hl : ((xs.take hi).drop lo).length = hi - lo := by simp; omega
  refine ⟨_, _, by rw [hl], by omega, ?_⟩
  by_cases he : lo = hi
  · left; apply List.eq_nil_of_length_eq_zero; omega
  · right
    rcases h with rfl | ⟨b, off, ha, h⟩
    · simp at hhi; omega
    · refine ⟨b, off + lo * z, ?_, DRows_drop lo (DRows_take hi h)⟩
      rw [if_neg (by omega), ha]
      simp [add_none]

theorem slice_run (hτ : Tok P τ) {t : Nat} (hk : (tg τ t).kind = .slice) (hs : (tg τ (tg τ t).elem).size ≠ 0) {a : Option Addr} {len cap lo hi : Nat} {l h : Option Value}
    (hb : (Instr.sliceBounds true len cap l h none).run P w = .ok (lo, hi, cap) w) :
    (Instr.sliceAt t (.slice a len cap) l h none).run P w = .ok (.slice (if cap = lo then a else a.map (·.add (lo * (tg τ (tg τ t).elem).size))) (hi - lo) (cap - lo)) w := by
  have ht := (hτ.of_kind (t := t) (by rw [hk]; simp)).kind
  rw [kindOk, hk] at ht
  dsimp only at ht
  have hso := (hτ.of_size hs).sizeOf w
  simp [Instr.sliceAt, Instr.slice, run_underlying ht, hb, hso]

/-! ### A row whose cells are written -/
theorem flatten_set {α : Type} {z : Nat} : ∀ {xs : List (List α)} (_ : ∀ r ∈ xs, r.length = z) (i : Nat) (ds : List α), i < xs.length → ds.length = z →
    (xs.set i ds).flatten = xs.flatten.take (i * z) ++ ds ++ xs.flatten.drop ((i + 1) * z)
  | [], _, i, ds, h, _ => by simp at h
  | x :: xs, hl, 0, ds, _, hd => by
    have hx := hl x (by simp)
    simp [← hx]
  | x :: xs, hl, i + 1, ds, h, hd => by
    have hx := hl x (by simp)
    have ih := flatten_set (xs := xs) (fun r hr => hl r (List.mem_cons_of_mem _ hr)) i ds (by simpa using h) hd
    simp only [List.set_cons_succ, List.flatten_cons, ih]
    have e1 : (i + 1) * z = x.length + i * z := by rw [Nat.add_mul, hx]; omega
    have e2 : (i + 1 + 1) * z = x.length + (i + 1) * z := by rw [hx, Nat.add_mul (i + 1)]; omega
    rw [e2, List.drop_length_add_append, e1, List.take_length_add_append]
    simp

theorem DList_take {I : Imm} : ∀ {cs : List DV} {us : List Value} (n : Nat), DList I cs us → DList I (cs.take n) (us.take n)
  | [], [], n, _ => by simp [DList]
  | c :: cs, u :: us, 0, _ => by simp [DList]
  | c :: cs, u :: us, n + 1, h => ⟨h.1, DList_take n h.2⟩
theorem DList_drop {I : Imm} : ∀ {cs : List DV} {us : List Value} (n : Nat), DList I cs us → DList I (cs.drop n) (us.drop n)
  | [], [], n, _ => by simp [DList]
  | c :: cs, u :: us, 0, h => h
  | c :: cs, u :: us, n + 1, h => DList_drop n h.2

/-- Cells of an element of a row are written. -/
theorem store_elem (hτ : Tok P τ) (hS : Sat w g O) {t c v z i off : Nat} {xs : List (List DV)} {r r2 : List DV} {ds : List DV} {u p : Value} (hs : (tg τ t).size ≠ 0)
    (hro : rowOf O c v = some (true, z, xs)) (hi : xs[i]? = some r) (hsp : splice r off ds = some r2) (hd : DList g.imm ds u.cells.toList) (hl : ds.length = (tg τ t).size)
    (hp : Val g (.ra c v z i off) p) :
    ∃ w' g', (Instr.storeAt t p u).run P w = .ok () w' ∧ g.le g' ∧ Fr w w' g g' ∧ Sat w' g' (O.set c (.row v true z (xs.set i r2))) := by
  obtain ⟨hcn, a, cap, hrow, hat⟩ := hS.row hro
  obtain ⟨_, _, hp⟩ := hp
  rw [hrow] at hp
  rcases hp with hp | ⟨_, b, o2, len, cap', hsl, hpv⟩
  · simp at hp
  simp only [Value.slice.injEq] at hsl
  obtain ⟨ha, rfl, rfl⟩ := hsl
  have hlt : i < xs.length := by
    rcases Nat.lt_or_ge i xs.length with h | h
    · exact h
    · rw [List.getElem?_eq_none h] at hi; cases hi
  obtain ⟨b', o', cc, tt, us, ha', hh, hsz, ho, hus, hdl, him⟩ := hat.mem.resolve_left (by have := hat.len; omega)
  rw [ha] at ha'
  simp only [Option.some.injEq, Addr.mk.injEq] at ha'
  obtain ⟨rfl, rfl, _⟩ := ha'
  obtain ⟨hle, hr2⟩ := splice_eq _ _ _ _ hsp
  have hrz : r.length = z := hat.elen r (List.mem_of_getElem? hi)
  have hr2z : r2.length = z := by rw [hr2]; simp; omega
  have hul : us.length = xs.length * z := by rw [← DList_length hdl, flat_len hat.elen]
  have hucs : u.cells.size = ds.length := by rw [DList_length hd]; simp
  have hiz : (i + 1) * z ≤ xs.length * z := Nat.mul_le_mul_right z hlt
  have hcz : xs.length * z ≤ cap * z := Nat.mul_le_mul_right z hat.len
  rw [Nat.add_mul] at hiz
  have hfit : o2 + i * z + off + u.cells.size ≤ cc.size := by omega
  have hone : ∀ q ∈ u.cells.toList, q.oneCell' = true := DList_one hd
  have hr := storeAt_run (P := P) (u := u) hτ hs hh (by rw [hucs, hl]) hfit hone
  generalize hcc' : (cc.toList.take (o2 + i * z + off) ++ u.cells.toList ++ cc.toList.drop (o2 + i * z + off + u.cells.size)).toArray = cc' at hr
  have hcl : cc'.toList = cc.toList.take (o2 + i * z + off) ++ u.cells.toList ++ cc.toList.drop (o2 + i * z + off + u.cells.size) := by rw [← hcc']
  have hcsz : cc'.size = cc.size := by
    rw [← Array.length_toList, hcl]; simp; omega
  simp only [if_true] at him
  rw [hpv]
  refine ⟨_, g, hr, Gh.le_refl g, ⟨by simp, rfl, rfl, rfl, fun i hi' hown => setRow_other _ _ _ _ ?_, fun _ _ _ => rfl, fun _ _ h => h⟩,
    hS.upd hcn (Gh.le_refl g) rfl (fun _ _ _ => rfl) (by simp) (fun b2 hb hne => ⟨setRow_other _ _ _ _ ?_, rfl, rfl⟩) (fun b2 ys hi' hc => ?_) (fun b2 j hj hc => ?_) ?_⟩
  · rintro rfl; rw [ho] at hown; cases hown
  · rintro rfl; exact hne ho
  · by_cases hbn : b2 = b
    · rw [hbn, him] at hi'; cases hi'
    · obtain ⟨c2, t2, f2, hh2, hp2⟩ := hS.imm b2 ys hi'
      exact ⟨c2, t2, f2, by rw [setRow_other _ _ _ _ hbn]; exact hh2, hp2⟩
  · have := hS.own b2 j hj
    exact ⟨by simpa using this.1, this.2⟩
  · refine ⟨some ⟨b, o2, none⟩, cap, by rw [hrow]; simp [ha], by simpa using hat.len, ?_, .inr ⟨b, o2, cc', tt, us.take (i * z + off) ++ u.cells.toList ++ us.drop (i * z + off + ds.length), rfl, setRow_heap w b cc _ tt _ hh, by rw [hcsz]; exact hsz, ho, ?_, ?_, by simpa using him⟩⟩
    · intro q hq
      rcases List.mem_or_eq_of_mem_set hq with h | h
      · exact hat.elen q h
      · rw [h]; exact hr2z
    · rw [hcl, List.length_set]
      rw [List.append_assoc, List.drop_append_of_le_length (by simp; omega), ← List.append_assoc]
      have e2 : (cc.toList.take (o2 + i * z + off)).drop o2 = us.take (i * z + off) := by
        rw [← hus, List.drop_take, List.take_take]
        congr 1
        omega
      rw [e2, hucs]
      rw [List.take_append, List.take_of_length_le (by simp; omega)]
      congr 1
      have hl1 : (us.take (i * z + off) ++ u.cells.toList).length = i * z + off + ds.length := by simp [hucs]; omega
      rw [hl1, ← hus, List.drop_take, List.drop_drop]
      congr 2
      omega
    · rw [flatten_set hat.elen i r2 hlt hr2z, hr2]
      have hxr : (xs.flatten.drop (i * z)).take z = r := flatten_get hat.elen hi
      have e1 : xs.flatten.take (i * z) ++ (r.take off ++ ds ++ r.drop (off + ds.length)) ++ xs.flatten.drop ((i + 1) * z) =
          xs.flatten.take (i * z + off) ++ ds ++ xs.flatten.drop (i * z + off + ds.length) := by
        have t1 : xs.flatten.take (i * z) ++ r.take off = xs.flatten.take (i * z + off) := by
          rw [← hxr, List.take_take, Nat.min_eq_left (by omega), List.take_add]
        have t2 : r.drop (off + ds.length) ++ xs.flatten.drop ((i + 1) * z) = xs.flatten.drop (i * z + off + ds.length) := by
          have d1 : r.drop (off + ds.length) = (xs.flatten.drop (i * z + off + ds.length)).take (z - (off + ds.length)) := by
            rw [← hxr, List.drop_take, List.drop_drop]; congr 2; omega
          have d2 : xs.flatten.drop ((i + 1) * z) = (xs.flatten.drop (i * z + off + ds.length)).drop (z - (off + ds.length)) := by
            rw [List.drop_drop]; congr 1; rw [Nat.add_mul]; omega
          rw [d1, d2, List.take_append_drop]
        simp only [List.append_assoc] at t1 t2 ⊢
        rw [t2, ← List.append_assoc, t1]
      rw [e1]
      exact DList_append (DList_append (DList_take _ hdl) hd) (DList_drop _ hdl)
end
end Ab
