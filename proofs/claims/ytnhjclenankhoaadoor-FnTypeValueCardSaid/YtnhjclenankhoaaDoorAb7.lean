/- The frame 'Ab' is sound, third part: the reading operations one by one. -/
import Derived.Test.YtnhjclenankhoaaDoorAb6
set_option linter.all false
namespace Ab
open Go
set_option linter.unusedSimpArgs false
set_option linter.unusedVariables false

section
variable {P : Program} {τ : Tab} {w : World} {g : Gh} {O : List Obj}

theorem one1_val {x : AV} {u : Value} (h : one1 x = true) (hv : Val g x u) : u.oneCell' = true := by
  cases x with
  | d x =>
    cases x <;> simp only [Val, DVal] at hv
    case i => subst hv; rfl
    case b => subst hv; rfl
    case s => subst hv; rfl
    case sl => obtain ⟨a, cap, hu, _⟩ := hv; subst hu; rfl
    case sf => obtain ⟨a, hu, _⟩ := hv; subst hu; rfl
    case ifa => obtain ⟨us, hu, _⟩ := hv; subst hu; rfl
    case if1 => obtain ⟨us, hu, _⟩ := hv; subst hu; rfl
    case v y => obtain ⟨rfl, h1⟩ := hv; cases u <;> simp_all [oneV, Value.oneCell']
  | tt => simp [Val] at hv; subst hv; rfl
  | ff => simp [Val] at hv; subst hv; rfl
  | row c v => obtain ⟨_, ⟨_, _, _, hu⟩, _⟩ := hv; subst hu; rfl
  | ptr k off => obtain ⟨_, hu⟩ := hv; subst hu; rfl
  | da cs => obtain ⟨_, _, hu, _⟩ := hv; subst hu; rfl
  | ra c v z i off => obtain ⟨_, ⟨_, hu⟩, _⟩ := hv; subst hu; rfl
  | agg cs => simp [one1] at h
  | tup cs => simp [one1] at h
  | fn f cs => obtain ⟨us, hu, _⟩ := hv; subst hu; rfl
  | ifc t x => obtain ⟨us, hu, _⟩ := hv; subst hu; rfl
  | mp k => obtain ⟨_, hu⟩ := hv; subst hu; rfl
  | und => simp [one1] at h
  | junk => simp [one1] at h

theorem cells_one {u : Value} (h : u.oneCell' = true) : u.cells = #[u] := by cases u <;> first | rfl | (simp [Value.oneCell'] at h)

theorem ones_val : ∀ {cs : List AV} {us : List Value}, ones cs = true → ValL g cs us → ∀ v ∈ us, v.oneCell' = true
  | [], [], _, _, v, hv => by simp at hv
  | c :: cs, u :: us, h, ⟨h1, h2⟩, v, hv => by
    unfold ones at h
    split at h
    · rename_i ho
      rcases List.mem_cons.1 hv with rfl | hv
      · exact one1_val ho h1
      · exact ones_val h h2 v hv
    · cases h

theorem okCells_val {x : AV} {u : Value} {ws : List AV} (h : okCells x = some ws) (hv : Val g x u) : ValL g ws u.cells.toList ∧ ∀ v ∈ u.cells.toList, v.oneCell' = true := by
  unfold okCells at h
  split at h
  · rename_i ho
    simp at h
    have hag : ∀ cs, x = .agg cs → ValL g ws u.cells.toList ∧ ∀ v ∈ u.cells.toList, v.oneCell' = true := by
      intro cs hx
      subst hx
      simp only [cellsA] at h ho
      subst h
      obtain ⟨us, hu, hl⟩ := hv
      subst hu
      exact ⟨by simpa [Value.cells] using hl, fun v hv' => ones_val ho hl v (by simpa [Value.cells] using hv')⟩
    by_cases hx : ∃ cs, x = .agg cs
    · obtain ⟨cs, hx⟩ := hx; exact hag cs hx
    · have hc : cellsA x = [x] := by
        cases x <;> first | rfl | (exact absurd ⟨_, rfl⟩ hx)
      rw [hc] at h ho
      subst h
      have h1 : one1 x = true := by
        unfold ones at ho
        split at ho
        · assumption
        · cases ho
      have hu := one1_val h1 hv
      rw [cells_one hu]
      exact ⟨⟨hv, trivial⟩, by intro v hv'; simp at hv'; subst hv'; exact hu⟩
  · cases h

/-! ### 'build' -/
theorem zip_fill (vs : List Value) : ∀ (off k : Nat) (cells : Array Value), off + k + vs.length ≤ cells.size →
    ((vs.zipIdx k).foldl (fun (cs : Array Value) (x : Value × Nat) => cs.setIfInBounds (off + x.2) x.1) cells).toList =
      cells.toList.take (off + k) ++ vs ++ cells.toList.drop (off + k + vs.length) := by
  induction vs with
  | nil => intro off k cells _; simp
  | cons v vs ih =>
    intro off k cells h
    simp only [List.length_cons] at h
    simp only [List.zipIdx_cons, List.foldl_cons]
    rw [ih off (k + 1) _ (by simp; omega)]
    simp only [Array.toList_setIfInBounds, List.length_cons]
    apply List.ext_getElem?
    intro j
    have hl : off + k < cells.toList.length := by simp; omega
    simp only [List.getElem?_append, List.length_append, List.length_take, List.length_set, List.length_cons, List.getElem?_drop]
    have e1 : min (off + (k + 1)) cells.toList.length = off + k + 1 := by omega
    have e2 : min (off + k) cells.toList.length = off + k := by omega
    rw [e1, e2]
    by_cases h1 : j < off + k
    · rw [if_pos (by omega), if_pos (by omega), if_pos (by omega), if_pos h1, List.getElem?_take_of_lt (by omega), List.getElem?_take_of_lt h1, List.getElem?_set_ne (by omega)]
    · by_cases h2 : j = off + k
      · subst h2
        rw [if_pos (by omega), if_pos (by omega), if_pos (by omega), if_neg (by omega), List.getElem?_take_of_lt (by omega), List.getElem?_set_self (by omega)]
        simp
      · by_cases h3 : j < off + k + (vs.length + 1)
        · rw [if_pos (by omega), if_neg (by omega), if_pos h3, if_neg h1]
          have : j - (off + k) = (j - (off + k + 1)) + 1 := by omega
          rw [this]; simp
        · rw [if_neg (by omega), if_neg (by omega), List.getElem?_set_ne (by omega)]
          congr 1; omega

theorem fold_fill (u : Value) (off : Nat) (cells : Array Value) (h : off + u.cells.size ≤ cells.size) :
    (u.cells.zipIdx.foldl (fun cs (c, j) => cs.setIfInBounds (off + j) c) cells).toList =
      cells.toList.take off ++ u.cells.toList ++ cells.toList.drop (off + u.cells.size) := by
  rw [← Array.foldl_toList, Array.toList_zipIdx]
  have := zip_fill u.cells.toList off 0 cells (by simpa using h)
  simpa using this

theorem fillA_sound (hτ : Tok P τ) {e : Operand → AV} {ev : Operand → Value} (he : ∀ x, Val g (e x) (ev x)) {fs : Array Field}
    (place : Nat → Option (Nat × Nat)) (hp : ∀ i f, fs[i]? = some f → (tg τ f.type).size ≠ 0 → place i = some (f.offset, (tg τ f.type).size)) :
    ∀ (parts : List (Nat × Operand)) (cells : List AV) (us : Array Value) (r : List AV), ValL g cells us.toList →
      fillA τ (fs.toList.map fun f => (f.offset, f.type)) e cells parts = some r →
      ∃ us', Instr.fill place us (parts.map fun x => (x.1, ev x.2)) = some us' ∧ ValL g r us'.toList
  | [], cells, us, r, hv, h => by
    simp [fillA] at h; subst h
    exact ⟨us, rfl, hv⟩
  | (i, x) :: parts, cells, us, r, hv, h => by
    unfold fillA at h
    dsimp only at h
    split at h
    · cases h
    · rename_i hlt
      have hlt' : i < fs.size := by
        have := Nat.le_of_ble_eq_true hlt
        rw [ln_eq] at this; simp at this; omega
      have hf : fs[i]? = some fs[i] := by simp [hlt']
      have hn : nth (fs.toList.map fun f => (f.offset, f.type)) i (0, 0) = (fs[i].offset, fs[i].type) := by
        rw [nth_eq]; simp [List.getD, hlt']
      rw [hn] at h
      dsimp only at h
      split at h
      · cases h
      · cases h
      · rename_i c cs hoc
        split at h
        · cases h
        · rename_i hsz
          have hsz := Nat.eq_of_beq_eq_true hsz
          rw [ln_eq] at hsz
          obtain ⟨hcv, _⟩ := okCells_val hoc (he x)
          have hlen := ValL_length hcv
          have hsize : (ev x).cells.size = (tg τ fs[i].type).size := by rw [← hsz, hlen]; simp
          split at h
          · rename_i cells' hs
            obtain ⟨hle, hs⟩ := splice_eq _ _ _ _ hs
            have hul := ValL_length hv
            have hle' : fs[i].offset + (ev x).cells.size ≤ us.size := by
              have : (ev x).cells.size = (c :: cs).length := by rw [hlen]; simp
              rw [this]; simp at hul; omega
            have hpl := hp i _ hf (by rw [← hsz]; simp)
            have hfold := fold_fill (ev x) fs[i].offset us hle'
            have hnew : ValL g cells' ((ev x).cells.zipIdx.foldl (fun cs (c, j) => cs.setIfInBounds (fs[i].offset + j) c) us).toList := by
              rw [hfold, hs]
              have hl2 : (c :: cs).length = (ev x).cells.size := by rw [hlen]; simp
              rw [hl2]
              exact ValL_append (ValL_append (ValL_take _ hv) hcv) (ValL_drop _ hv)
            obtain ⟨us', h1, h2⟩ := fillA_sound hτ he place hp parts cells' _ r hnew h
            refine ⟨us', ?_, h2⟩
            simp only [List.map_cons, Instr.fill, hpl]
            rw [if_neg (by simp [hsize]; rw [← hsize]; omega)]
            exact h1
          · cases h
end
end Ab
