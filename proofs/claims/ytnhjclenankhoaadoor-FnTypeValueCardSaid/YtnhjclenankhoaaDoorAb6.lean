/- The frame 'Ab' is sound, second part: operations that only read. -/
import Derived.Test.YtnhjclenankhoaaDoorAb5
set_option linter.all false
namespace Ab
open Go
set_option linter.unusedSimpArgs false
set_option linter.unusedVariables false

section
variable {P : Program} {τ : Tab} {w : World} {g : Gh} {O : List Obj}

theorem add_none (b off n : Nat) : (⟨b, off, none⟩ : Addr).add n = ⟨b, off + n, none⟩ := by
  unfold Addr.add; split
  · subst n; rfl
  · rfl

/-- Cells in memory, read as a variable of a type. -/
theorem loadK_sound (hτ : Tok P τ) {t b off : Nat} {cs : List AV} {us : List Value} {K : AV → Prop} (hv : ValL g cs us)
    (hm : ∀ j, j < us.length → w.cell? ⟨b, off + j, none⟩ = us[j]?) (h : loadK τ t cs K) :
    ∃ v u, K v ∧ Val g v u ∧ (Instr.loadAt t (.pointer (some ⟨b, off, none⟩))).run P w = .ok u w := by
  unfold loadK at h
  have hlen := ValL_length hv
  generalize hi : tg τ t = i at h
  dsimp only at h
  split at h
  · rename_i n hs hle
    have tk1 : Tok1 P t i := hi ▸ hτ.of_size (by rw [hi, hs]; simp)
    have hle' : i.size ≤ us.length := by
      have := Nat.le_of_ble_eq_true hle
      rw [ln_eq, hlen] at this; exact this
    have hcells : (loadCells ⟨b, off, none⟩ i.size).run P w = .ok (us.take i.size).toArray w := by
      have := run_loadCells_list (P := P) w ⟨b, off, none⟩ (us.take i.size) (fun j v hj => by
        rw [add_none]
        have hj' : j < i.size := by
          rcases Nat.lt_or_ge j i.size with h' | h'
          · exact h'
          · rw [List.getElem?_eq_none (by simp; omega)] at hj; cases hj
        rw [hm j (by omega)]
        rw [List.getElem?_take_of_lt hj'] at hj; exact hj)
      rw [show (us.take i.size).length = i.size by simp; omega] at this
      exact this
    have hsz := tk1.sizeOf w
    have hag := tk1.isAgg w
    split at h
    · rename_i ha
      rw [tk_eq] at h
      refine ⟨_, .agg (us.take i.size).toArray, h, ⟨_, rfl, ValL_take _ hv⟩, ?_⟩
      rw [ha] at hag
      simp [Instr.loadAt, Instr.sureAddr, loadVar, hag, hsz, hcells]
    · rename_i ha
      rw [ha] at hag
      split at h
      · rename_i c hc
        rw [tk_eq] at hc
        have ht := ValL_take i.size hv
        rw [hc] at ht
        have hl1 : (us.take i.size).length = 1 := by have := ValL_length ht; simpa using this.symm
        have hs1 : i.size = 1 := by rw [List.length_take] at hl1; omega
        obtain ⟨u, hu⟩ : ∃ u, us.take i.size = [u] := by
          match us.take i.size, hl1 with
          | [u], _ => exact ⟨u, rfl⟩
        rw [hu] at ht
        refine ⟨c, u, h, ht.1, ?_⟩
        have h0 := hm 0 (by omega)
        have hu0 : us[0]? = some u := by
          have : (us.take i.size)[0]? = some u := by rw [hu]; rfl
          rwa [List.getElem?_take_of_lt (by omega)] at this
        simp only [Nat.add_zero] at h0
        simp [Instr.loadAt, Instr.sureAddr, loadVar, hag, h0, hu0]
      · exact h.elim
  · exact h.elim

/-- Immutable memory reads as it is told. -/
theorem Sat.rd (hS : Sat w g O) {b o : Nat} {u : Value} (h : Ab.rd g.imm b o = some u) : w.cell? ⟨b, o, none⟩ = some u := by
  unfold Ab.rd at h
  cases hI : g.imm b with
  | none => simp [hI] at h
  | some ys =>
    simp [hI] at h
    obtain ⟨c, t, f, hh, zs, hz⟩ := hS.imm b ys hI
    have : c.toList[o]? = some u := by
      rw [← hz, List.getElem?_append_left (by
        rcases Nat.lt_or_ge o ys.length with h' | h'
        · exact h'
        · simp [List.getElem?_eq_none h'] at h)]
      exact h
    simp only [World.cell?, hh]
    simpa using this

theorem Sat.cells (hS : Sat w g O) {b off : Nat} {cs : List DV} (h : DCells g.imm b off cs) :
    ∃ us, ValL g (cs.map .d) us ∧ ∀ j, j < us.length → w.cell? ⟨b, off + j, none⟩ = us[j]? := by
  obtain ⟨us, h1, h2⟩ := DCells_list h
  refine ⟨us, ValL_of_DList h1, fun j hj => ?_⟩
  have h3 := h2 j hj
  rw [List.getElem?_eq_getElem hj] at h3 ⊢
  exact hS.rd h3

theorem Sat.get (hS : Sat w g O) {k : Nat} {o : Obj} (h : nth O k .dead = o) (ho : o ≠ .dead) : O[k]? = some o ∧ k < g.n := by
  rw [nth_eq] at h
  rcases Nat.lt_or_ge k O.length with hk | hk
  · refine ⟨?_, by rw [← hS.n]; exact hk⟩
    rw [List.getElem?_eq_getElem hk]
    simp [List.getD, List.getElem?_eq_getElem hk] at h
    rw [h]
  · simp [List.getD, List.getElem?_eq_none hk] at h
    exact absurd h.symm ho

theorem rowOf_some {c v : Nat} {r : Bool × Nat × List (List DV)} (h : rowOf O c v = some r) : nth O c .dead = .row v r.1 r.2.1 r.2.2 := by
  unfold rowOf at h
  split at h
  · rename_i v' s z xs hn
    split at h
    · rename_i hb
      have := Nat.eq_of_beq_eq_true hb
      subst this
      simp at h; subst h; exact hn
    · cases h
  · cases h

/-- A row that is as it is: its slice. -/
theorem Sat.row (hS : Sat w g O) {c v : Nat} {s : Bool} {z : Nat} {xs : List (List DV)} (h : rowOf O c v = some (s, z, xs)) :
    c < g.n ∧ ∃ a cap, g.row c = (v, .slice a xs.length cap) ∧ RowAt w g c s z xs a cap := by
  have hn := rowOf_some h
  obtain ⟨h1, h2⟩ := hS.get hn (by simp)
  exact ⟨h2, hS.obj c _ h1⟩

theorem Val_row {c v : Nat} {u x : Value} (h : Val g (.row c v) u) (hr : g.row c = (v, x)) : u = x := by
  obtain ⟨_, _, h⟩ := h
  rw [hr] at h
  rcases h with h | h
  · simp at h
  · exact h.2

theorem flatten_get {α : Type} {z : Nat} : ∀ {xs : List (List α)} (_ : ∀ r ∈ xs, r.length = z) {i : Nat} {r : List α}, xs[i]? = some r →
    (xs.flatten.drop (i * z)).take z = r
  | [], _, i, r, h => by simp at h
  | x :: xs, hl, 0, r, h => by
    simp at h; subst h
    have := hl x (by simp)
    simp [← this]
  | x :: xs, hl, i + 1, r, h => by
    have hx := hl x (by simp)
    have hl' : ∀ r ∈ xs, r.length = z := fun q hq => hl q (List.mem_cons_of_mem _ hq)
    have ih := flatten_get hl' (i := i) (r := r) (by simpa using h)
    simp only [List.flatten_cons]
    rw [show (i + 1) * z = x.length + i * z by rw [Nat.add_mul, hx]; omega, List.drop_append, List.drop_eq_nil_of_le (by omega)]
    simpa using ih

/-- A row's element in memory. -/
theorem RowAt.elem {k : Nat} {st : Bool} {z : Nat} {xs : List (List DV)} {a : Option Addr} {cap : Nat} (h : RowAt w g k st z xs a cap) {i : Nat} {r : List DV}
    (hi : xs[i]? = some r) : ∃ b off us, a = some ⟨b, off, none⟩ ∧ DList g.imm r us ∧ ∀ j, j < us.length → w.cell? ⟨b, off + i * z + j, none⟩ = us[j]? := by
  have hlt : i < xs.length := by
    rcases Nat.lt_or_ge i xs.length with h' | h'
    · exact h'
    · rw [List.getElem?_eq_none h'] at hi; cases hi
  rcases h.mem with h0 | ⟨b, off, c, t, us, ha, hh, hs, ho, hu, hd, _⟩
  · have := h.len; omega
  have hz : r.length = z := h.elen r (List.mem_of_getElem? hi)
  have hfl : xs.flatten.length = xs.length * z := by
    have : ∀ ys : List (List DV), (∀ r ∈ ys, r.length = z) → ys.flatten.length = ys.length * z := by
      intro ys
      induction ys with
      | nil => simp
      | cons y ys ih =>
        intro hy
        have := ih fun r hr => hy r (by simp [hr])
        simp [hy y (by simp), Nat.add_mul, this] at this ⊢
        omega
    exact this xs h.elen
  have hul : us.length = xs.length * z := by rw [← DList_length hd, hfl]
  refine ⟨b, off, (us.drop (i * z)).take z, ha, ?_, ?_⟩
  · have key : ∀ (cs : List DV) (vs : List Value) (n m : Nat), DList g.imm cs vs → DList g.imm ((cs.drop n).take m) ((vs.drop n).take m) := by
      intro cs
      induction cs with
      | nil =>
        intro vs n m hl
        cases vs with
        | nil => simp [DList]
        | cons v vs => exact hl.elim
      | cons c cs ih =>
        intro vs n m hl
        cases vs with
        | nil => exact hl.elim
        | cons v vs =>
          obtain ⟨h1, h2⟩ := hl
          cases n with
          | succ n => simpa using ih vs n m h2
          | zero =>
            cases m with
            | zero => simp [DList]
            | succ m =>
              have := ih vs 0 m h2
              simp at this ⊢
              exact ⟨h1, this⟩
    have := key _ _ (i * z) z hd
    rwa [flatten_get h.elen hi] at this
  · intro j hj
    simp only [List.length_take, List.length_drop] at hj
    have hj' : j < z := by omega
    have hjz : i * z + j < xs.length * z := by
      have : (i + 1) * z ≤ xs.length * z := Nat.mul_le_mul_right z hlt
      rw [Nat.add_mul] at this; omega
    rw [List.getElem?_take_of_lt hj', List.getElem?_drop, ← hu, List.getElem?_take_of_lt hjz, List.getElem?_drop]
    simp only [World.cell?, hh]
    simp [Nat.add_assoc]
end
end Ab
