/- YtnhjclenankhoaaDoorFrM: contracts of functions of the program, by the frame 'Ab'. -/
import Derived.Test.YtnhjclenankhoaaDoorFrK
import Derived.ChangeSame
import Derived.RowKit3
set_option linter.all false
namespace Ab
open Go Go.Proofs Go.ChangeShapes Go.WideShapes Go.RowKit Go.Shelf
set_option maxRecDepth 10000
set_option linter.unusedSimpArgs false
set_option linter.unusedVariables false

/-- What is there at the start, as data. -/
def startG (W : World) : Gh :=
  { imm := fun b => match W.heap[b]? with | some (.cells c _ _) => some c.toList | _ => none, own := fun _ => none, n := 0, blk := fun _ => 0, row := fun _ => (0, .nilFunc) }

theorem start_sat (W : World) : Sat W (startG W) [] := by
  refine ⟨rfl, fun b ys hb => ?_, fun k o hk => by simp at hk, fun b k hb => by cases hb⟩
  simp only [startG] at hb
  split at hb
  · rename_i c t f h
    simp at hb; subst hb
    exact ⟨c, t, f, h, List.prefix_refl _⟩
  · cases hb

theorem start_gi (W : World) : GI W W (startG W) := ⟨Nat.le_refl _, rfl, rfl, fun _ _ => rfl, fun _ _ => rfl⟩

/-- A function's contract, from the start. -/
theorem calls_start {P : Program} {W : World} {f : Nat} {S : Spec} (h : Valid P W f S) (hent : ∀ args w, (callFunc f args).run P w = .ok (.enter f args) w) {args : List AV} {us : List Value} {Q : AV → List Obj → Prop}
    (hv : ValL (startG W) args us) (hs : S args [] Q) :
    Calls P f us.toArray W (fun e w' => ∃ u, e = .returned u ∧ ∃ r O' g', Q r O' ∧ Val g' r u ∧ Below W.heap.size W w') := by
  rcases h W (startG W) [] args us Q (start_gi W) (start_sat W) (fun k hk => absurd hk (Nat.not_lt_zero k)) hv hs with ⟨u, w', h1, _⟩ | ⟨_, h2⟩
  · rw [hent] at h1; cases h1
  · refine h2.mono ?_
    rintro e w' ⟨u, rfl, r, O', g', h1, h2, h3, h4, h5⟩
    exact ⟨u, rfl, r, O', g', h1, h2, h5.os, h5.tape, h5.out, h5.size, fun k hk => h5.heap k hk rfl⟩

theorem byteRows_map (l : List UInt8) : byteRows l = l.map fun c => [DV.i .u8 c.toNat] := by
  induction l with
  | nil => rfl
  | cons c l ih => simp [byteRows, ih]

/-- bytes that came in, as data -/
theorem bytes_in {W : World} {a : Addr} {cap : Nat} {l : List UInt8} (hc : l.length ≤ cap) (h : ∀ i (hi : i < l.length), W.cell? (a.add i) = some (.int .u8 (l[i]).toNat)) :
    Val (startG W) (.d (.sl 1 (byteRows l))) (.slice (some a) l.length cap) := by
  refine ⟨some a, cap, by rw [byteRows_len], by rw [byteRows_len]; exact hc, ?_⟩
  by_cases hl : l = []
  · left; subst hl; rfl
  · right
    have hpos : 0 < l.length := List.length_pos_iff.2 hl
    obtain ⟨b, o, spot⟩ := a
    have hspot : spot = none := by
      have := World.cell?_spot (h 0 hpos)
      simpa [Addr.add] using this
    subst hspot
    refine ⟨b, o, rfl, ?_⟩
    have key : ∀ (l' : List UInt8) (k : Nat), (∀ i (hi : i < l'.length), rd (startG W).imm b (o + k + i) = some (.int .u8 (l'[i]).toNat)) → DRows (startG W).imm 1 b (o + k) (byteRows l') := by
      intro l'
      induction l' with
      | nil => intro k _; trivial
      | cons c l' ih =>
        intro k hk
        have h0 : rd (startG W).imm b (o + k) = some (.int .u8 c.toNat) := by
          have := hk 0 (by simp)
          rw [Nat.add_zero] at this
          exact this
        refine ⟨rfl, ⟨⟨_, h0, rfl⟩, trivial⟩, ?_⟩
        have := ih (k + 1) (fun i hi => by
          have := hk (i + 1) (by simpa using hi)
          simpa [Nat.add_assoc, Nat.add_comm 1 i] using this)
        simpa [Nat.add_assoc] using this
    have := key l 0 (fun i hi => by
      have hi' := h i hi
      simp only [add_none] at hi'
      simp only [Ab.rd, startG, Nat.add_zero]
      simp only [World.cell?] at hi'
      cases hh : W.heap[b]? with
      | none => rw [hh] at hi'; simp at hi'
      | some ob =>
        rw [hh] at hi'
        cases ob with
        | cells c t f => simpa using hi'
        | _ => simp at hi')
    simpa using this

/-- laws.FnTypeValue, at a start. -/
theorem type_value {W : World} (hB : Tabs W) {a : Option Addr} {cap : Nat} {l : List UInt8} (h : Val (startG W) (.d (.sl 1 (byteRows l))) (.slice a l.length cap)) :
    Calls Tryd.prog 3 #[.slice a l.length cap] W (fun e w' => e = .returned (.bool true) ∧ Below W.heap.size W w') := by
  refine (calls_start (Q := fun r O => r = bv true) (v3' hB) (fun args w => enters_of Tryd.func3 (by kernel_rfl) rfl args w) (args := [.d (.sl 1 (byteRows l))]) (us := [.slice a l.length cap]) ⟨h, trivial⟩ ⟨l, rfl, rfl, rfl⟩).mono ?_
  rintro e w' ⟨u, rfl, r, O', g', rfl, hv, hb⟩
  have : u = .bool true := hv
  subst this
  exact ⟨rfl, hb⟩
end Ab
