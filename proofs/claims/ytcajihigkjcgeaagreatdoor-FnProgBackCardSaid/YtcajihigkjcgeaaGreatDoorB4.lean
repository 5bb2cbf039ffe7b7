/- strings.Split, Cut, TrimSuffix: contracts. -/
import Derived.Test.YtcajihigkjcgeaaGreatDoorJ1
import Derived.Lib.Split
import Derived.ChangeSame
import Derived.RowKit3
set_option linter.all false
namespace Ab
open Go Go.Proofs
set_option maxRecDepth 10000
set_option maxHeartbeats 4000000
set_option linter.all false
open Go Go.Proofs Go.RowKit Go.Shelf

/-- what the variables hold that the library's searches read -/
def TabM (B : World) : Prop := Tabs B ∧ ∃ m, B.cell? ⟨Tryz.lays145_ren.g 1, 0, none⟩ = some (.int .i64 m)
theorem cell_keep {B w : World} {g : Gh} (h : GI B w g) {a : Addr} {x : Value} (hv : B.cell? a = some x) : w.cell? a = some x := by
  have hlt := World.block_lt_of_cell? B a hv
  simp only [World.cell?] at hv ⊢
  rw [h.heap _ hlt]; exact hv
theorem below_drewN (w : World) (n : Nat) : Below w.heap.size w (w.drewN n) := by
  have h : ∀ (n : Nat) (w : World), (w.drewN n).heap = w.heap ∧ (w.drewN n).os = w.os ∧ (w.drewN n).tape = w.tape ∧ (w.drewN n).output = w.output := by
    intro n w
    exact ⟨rfl, rfl, rfl, rfl⟩
  obtain ⟨h1, h2, h3, h4⟩ := h n w
  exact ⟨h2, h3, h4, by rw [h1]; exact Nat.le_refl _, fun i _ => by rw [h1]⟩
/-- strings.TrimSuffix -/
def S_x_strings_TrimSuffix : Spec := fun args O Q => ∃ (s p : List UInt8), args = [.d (.s s), .d (.s p)] ∧ s.length ≤ 1000000000 ∧ Q (.d (.s (Lib.trimSuffix s p))) O
theorem v_x_strings_TrimSuffix {B : World} : Valid PG B x_strings_TrimSuffix S_x_strings_TrimSuffix := by
  refine valid_lib (fun args w => enters_of g_x_strings_TrimSuffix (by kernel_rfl) rfl args w) ?_
  rintro w g _ us O Q hG hv ⟨s, p, rfl, hl, hQ⟩
  match us, hv with
  | [u1, u2], ⟨h1, h2, _⟩ =>
    have h1 : u1 = .string ⟨s.toArray⟩ := h1
    have h2 : u2 = .string ⟨p.toArray⟩ := h2
    subst h1; subst h2
    refine (Tryz.strings_TrimSuffix ⟨s.toArray⟩ ⟨p.toArray⟩ w (by rw [Lib.size_eq]; simp; omega)).mono ?_
    rintro e w' ⟨rfl, rfl⟩
    exact ⟨_, .d (.s (Lib.trimSuffix s p)), rfl, fun _ => rfl, hQ, below_same _⟩
/-- strings.Cut -/
def S_x_strings_Cut : Spec := fun args O Q => ∃ (s p : List UInt8), args = [.d (.s s), .d (.s p)] ∧ s.length ≤ 1000000000 ∧ Q (.tup [.d (.s (Lib.cut s p).1), .d (.s (Lib.cut s p).2.1), bv (Lib.cut s p).2.2]) O
theorem v_x_strings_Cut {B : World} (hB : TabM B) : Valid PG B x_strings_Cut S_x_strings_Cut := by
  obtain ⟨_, m, hm⟩ := hB
  refine valid_lib (fun args w => enters_of g_x_strings_Cut (by kernel_rfl) rfl args w) ?_
  rintro w g _ us O Q hG hv ⟨s, p, rfl, hl, hQ⟩
  match us, hv with
  | [u1, u2], ⟨h1, h2, _⟩ =>
    have h1 : u1 = .string ⟨s.toArray⟩ := h1
    have h2 : u2 = .string ⟨p.toArray⟩ := h2
    subst h1; subst h2
    refine (Tryz.strings_Cut ⟨s.toArray⟩ ⟨p.toArray⟩ m w (by rw [Lib.size_eq]; simp; omega) (cell_keep hG hm)).mono ?_
    rintro e w' ⟨rfl, n, rfl⟩
    exact ⟨_, .tup [.d (.s (Lib.cut s p).1), .d (.s (Lib.cut s p).2.1), bv (Lib.cut s p).2.2], rfl, fun _ => ⟨[_, _, _], rfl, rfl, rfl, rfl, trivial⟩, hQ, below_drewN _ _⟩
/-- strings.Split -/
def S_x_strings_Split : Spec := fun args O Q => ∃ (s : List UInt8) (c : UInt8), args = [.d (.s s), .d (.s [c])] ∧ s.length ≤ 1000000000 ∧ (Lib.split s [c]).length = Lib.count s [c] + 1 ∧ Q (.d (.sl 1 ((Lib.split s [c]).map fun x => [DV.s x]))) O
theorem DRows_S {I : Imm} {b : Nat} : ∀ {l : List (List UInt8)} {off : Nat}, (∀ j x, l[j]? = some x → rd I b (off + j) = some (.string ⟨x.toArray⟩)) → DRows I 1 b off (l.map fun x => [DV.s x])
  | [], _, _ => trivial
  | x :: l, off, h => by
    refine ⟨rfl, ⟨⟨_, by simpa using h 0 x rfl, rfl⟩, trivial⟩, DRows_S (l := l) fun j y hj => ?_⟩
    have := h (j + 1) y (by simpa using hj)
    rw [← this]; congr 1; omega
theorem v_x_strings_Split {B : World} (hB : TabM B) : Valid PG B x_strings_Split S_x_strings_Split := by
  obtain ⟨_, m, hm⟩ := hB
  rintro w g O _ us Q hG hS h0 hv ⟨s, c, rfl, hl, hn, hQ⟩
  right
  refine ⟨enters_of g_x_strings_Split (by kernel_rfl) rfl _ _, ?_⟩
  match us, hv with
  | [u1, u2], ⟨h1, h2, _⟩ =>
    have h1 : u1 = .string ⟨s.toArray⟩ := h1
    have h2 : u2 = .string ⟨#[c]⟩ := h2
    subst h1; subst h2
    refine (Tryz.strings_Split ⟨s.toArray⟩ ⟨#[c]⟩ m w (by rw [Lib.size_eq]; simp; omega) (cell_keep hG hm) (by rw [Lib.size_eq]; simp)).mono ?_
    rintro e w' ⟨rfl, rfl⟩
    have hc : Lib.countB ⟨s.toArray⟩ ⟨#[c]⟩ = Lib.count s [c] := rfl
    have hd := Lib.splitB_data ⟨#[c]⟩ 0 (Lib.count s [c]) ⟨s.toArray⟩
    have hd : (Lib.splitB ⟨#[c]⟩ 0 (Lib.count s [c]) ⟨s.toArray⟩).map (·.data.toList) = Lib.split s [c] := hd
    rw [hc]
    generalize Lib.splitB ⟨#[c]⟩ 0 (Lib.count s [c]) ⟨s.toArray⟩ = bs at *
    generalize Lib.split s [c] = l at *
    subst hd
    have hlt : ∀ j ys, g.imm j = some ys → j < w.heap.size := fun j ys hj => hS.imm_lt hj
    let w' := w.alloc (.cells (bs.map Value.string).toArray (Tryz.lays146_ren.t 9))
    have hold : ∀ j, j < w.heap.size → w'.heap[j]? = w.heap[j]? := fun j hj => by
      show (w.heap.push _)[j]? = _
      rw [Array.getElem?_push, if_neg (by omega)]
    have hnew : w'.heap[w.heap.size]? = some (.cells (bs.map Value.string).toArray (Tryz.lays146_ren.t 9) (0, 0)) := by
      show (w.heap.push _)[w.heap.size]? = _
      simp
    let g' : Gh := { g with imm := fun j => if j = w.heap.size then some (bs.map Value.string) else g.imm j }
    have himm : ∀ j, j ≠ w.heap.size → g'.imm j = g.imm j := fun j hj => if_neg hj
    have hle : g.le g' := ⟨fun j ys hj => ⟨[], by rw [himm j (by have := hlt j ys hj; omega), List.append_nil]; exact hj⟩, Nat.le_refl _, fun _ _ => rfl, fun _ _ => .inr rfl⟩
    refine ⟨_, rfl, _, O, g', hQ, ?_, ⟨hS.n, fun j ys hj => ?_, fun k o hk => ?_, fun j k hj => ?_⟩, hle, ⟨?_, rfl, rfl, rfl, fun j hj _ => hold j hj, fun j hj _ => himm j (by omega), fun _ _ h => h⟩⟩
    · refine ⟨some ⟨w.heap.size, 0, none⟩, Lib.count s [c] + 1, by simp at hn ⊢; rw [hn], by simp at hn ⊢; omega, .inr ⟨w.heap.size, 0, rfl, ?_⟩⟩
      refine DRows_S fun j x hj => ?_
      have e : g'.imm w.heap.size = some (bs.map Value.string) := if_pos rfl
      simp only [rd, e, Option.bind_some, Nat.zero_add]
      simp only [List.getElem?_map, Option.map_eq_some_iff] at hj ⊢
      obtain ⟨y, hy, rfl⟩ := hj
      exact ⟨y, hy, by cases y; simp⟩
    · by_cases hjn : j = w.heap.size
      · subst hjn
        have e : g'.imm w.heap.size = some (bs.map Value.string) := if_pos rfl
        rw [e] at hj
        simp at hj; subst hj
        exact ⟨_, _, _, hnew, by simp⟩
      · rw [himm j hjn] at hj
        obtain ⟨c', t', f', k1, k2⟩ := hS.imm j ys hj
        exact ⟨c', t', f', (hold j (hlt j ys hj)).trans k1, k2⟩
    · have hkn : k < g.n := by rw [← hS.n]; exact (List.getElem?_eq_some_iff.1 hk).1
      refine SatO.keep hle hkn rfl (fun j hj => ?_) (hS.obj k o hk)
      have := (hS.own j k hj).1
      exact ⟨hold j this, hj, himm j (by omega)⟩
    · have := hS.own j k hj
      exact ⟨by show j < (w.heap.push _).size; simp; omega, this.2⟩
    · show w.heap.size ≤ (w.heap.push _).size
      simp
end Ab

/- Laws, from a start of memory. -/
namespace Ab
open Go Go.Proofs Go.ChangeShapes Go.WideShapes Go.RowKit Go.Shelf
set_option maxRecDepth 10000
set_option linter.unusedSimpArgs false
set_option linter.unusedVariables false

/-- What is there at the start, as data. -/
def startG (W : World) : Gh :=
  { imm := fun b => match W.heap[b]? with | some (.cells c _ _) => some c.toList | _ => none, own := fun _ => none, n := 0, blk := fun _ => 0, row := fun _ => (0, .nilFunc) }

theorem start_sat (W : World) : Sat W (startG W) [] := by
  refine ⟨rfl, fun b ys hb => ?_, fun k o hk => by simp at hk, fun b k hb => by cases hb⟩
  simp only [startG] at hb
  split at hb
  · rename_i c t f h
    simp at hb; subst hb
    exact ⟨c, t, f, h, List.prefix_refl _⟩
  · cases hb

theorem start_gi (W : World) : GI W W (startG W) := ⟨Nat.le_refl _, rfl, rfl, fun _ _ => rfl, fun _ _ => rfl⟩

/-- A function's contract, from the start. -/
theorem calls_start {P : Program} {W : World} {f : Nat} {S : Spec} (h : Valid P W f S) (hent : ∀ args w, (callFunc f args).run P w = .ok (.enter f args) w) {args : List AV} {us : List Value} {Q : AV → List Obj → Prop}
    (hv : ValL (startG W) args us) (hs : S args [] Q) :
    Calls P f us.toArray W (fun e w' => ∃ u, e = .returned u ∧ ∃ r O' g', Q r O' ∧ Val g' r u ∧ Below W.heap.size W w') := by
  rcases h W (startG W) [] args us Q (start_gi W) (start_sat W) (fun k hk => absurd hk (Nat.not_lt_zero k)) hv hs with ⟨u, w', h1, _⟩ | ⟨_, h2⟩
  · rw [hent] at h1; cases h1
  · refine h2.mono ?_
    rintro e w' ⟨u, rfl, r, O', g', h1, h2, h3, h4, h5⟩
    exact ⟨u, rfl, r, O', g', h1, h2, h5.os, h5.tape, h5.out, h5.size, fun k hk => h5.heap k hk rfl⟩

theorem byteRows_map (l : List UInt8) : byteRows l = l.map fun c => [DV.i .u8 c.toNat] := by
  induction l with
  | nil => rfl
  | cons c l ih => simp [byteRows, ih]

/-- bytes that came in, as data -/
theorem bytes_in {W : World} {a : Addr} {cap : Nat} {l : List UInt8} (hc : l.length ≤ cap) (h : ∀ i (hi : i < l.length), W.cell? (a.add i) = some (.int .u8 (l[i]).toNat)) :
    Val (startG W) (.d (.sl 1 (byteRows l))) (.slice (some a) l.length cap) := by
  refine ⟨some a, cap, by rw [byteRows_len], by rw [byteRows_len]; exact hc, ?_⟩
  by_cases hl : l = []
  · left; subst hl; rfl
  · right
    have hpos : 0 < l.length := List.length_pos_iff.2 hl
    obtain ⟨b, o, spot⟩ := a
    have hspot : spot = none := by
      have := World.cell?_spot (h 0 hpos)
      simpa [Addr.add] using this
    subst hspot
    refine ⟨b, o, rfl, ?_⟩
    have key : ∀ (l' : List UInt8) (k : Nat), (∀ i (hi : i < l'.length), rd (startG W).imm b (o + k + i) = some (.int .u8 (l'[i]).toNat)) → DRows (startG W).imm 1 b (o + k) (byteRows l') := by
      intro l'
      induction l' with
      | nil => intro k _; trivial
      | cons c l' ih =>
        intro k hk
        have h0 : rd (startG W).imm b (o + k) = some (.int .u8 c.toNat) := by
          have := hk 0 (by simp)
          rw [Nat.add_zero] at this
          exact this
        refine ⟨rfl, ⟨⟨_, h0, rfl⟩, trivial⟩, ?_⟩
        have := ih (k + 1) (fun i hi => by
          have := hk (i + 1) (by simpa using hi)
          simpa [Nat.add_assoc, Nat.add_comm 1 i] using this)
        simpa [Nat.add_assoc] using this
    have := key l 0 (fun i hi => by
      have hi' := h i hi
      simp only [add_none] at hi'
      simp only [Ab.rd, startG, Nat.add_zero]
      simp only [World.cell?] at hi'
      cases hh : W.heap[b]? with
      | none => rw [hh] at hi'; simp at hi'
      | some ob =>
        rw [hh] at hi'
        cases ob with
        | cells c t f => simpa using hi'
        | _ => simp at hi')
    simpa using this

/-- laws of one row of bytes: true, whatever the bytes -/
def S_l_law : Spec := fun args O Q => ∃ (l : List UInt8), args = [.d (.sl 1 (byteRows l))] ∧ O = [] ∧ Q (bv true) []
/-- a law of bytes, at a start -/
theorem law_start {W : World} {f : Nat} {fn : Func} (hfn : PG.funcs[f]? = some fn) (hname : (fn.name == "runtime.NumGoroutine") = false) {c : Code} (hb : fn.body = some c) (hv : Valid PG W f S_l_law) {a : Option Addr} {cap : Nat} {l : List UInt8}
    (h : Val (startG W) (.d (.sl 1 (byteRows l))) (.slice a l.length cap)) :
    Calls PG f #[.slice a l.length cap] W (fun e w' => e = .returned (.bool true) ∧ Below W.heap.size W w') := by
  refine (calls_start (Q := fun r O => r = bv true) hv (fun args w => enters_of hfn hname hb args w) (args := [.d (.sl 1 (byteRows l))]) (us := [.slice a l.length cap]) ⟨h, trivial⟩ ⟨l, rfl, rfl, rfl⟩).mono ?_
  rintro e w' ⟨u, rfl, r, O', g', rfl, hv, hb⟩
  have : u = .bool true := hv
  subst this
  exact ⟨rfl, hb⟩
/-- what the searches of the library read, where memory is laid as the program's -/
theorem tabM_of {W : World} (h : Tabs W) (hs : W.ShapedOpen PG) : TabM W := ⟨h, Tryz.laysM145.s1_3 W hs⟩
end Ab
