/- The frame 'Ab' is sound, seventh part: new objects; rows that are not written any more; stores. -/
import Derived.Test.YtnhjclenankhoaaDoorAbA
set_option linter.all false
namespace Ab
open Go
set_option linter.unusedSimpArgs false
set_option linter.unusedVariables false

section
variable {P : Program} {τ : Tab} {w : World} {g : Gh} {O : List Obj}

/-! ### One more object -/
/-- the objects with one more, whose memory is block b -/
def Gh.push (g : Gh) (b : Nat) (own : Bool) (r : Nat × Value) : Gh :=
  { imm := g.imm, own := fun x => if own = true ∧ x = b then some g.n else g.own x, n := g.n + 1,
    blk := fun k => if k = g.n then b else g.blk k, row := fun k => if k = g.n then r else g.row k }

theorem Gh.le_push (g : Gh) (b : Nat) (own : Bool) (r : Nat × Value) : g.le (g.push b own r) := by
  refine ⟨Imm.le_refl _, by simp [Gh.push], fun k hk => ?_, fun k hk => .inr ?_⟩
  · simp [Gh.push]; omega
  · simp [Gh.push]; omega

theorem Sat.push {w' : World} (hS : Sat w g O) {o : Obj} {b : Nat} {own : Bool} {r : Nat × Value} (hsz : w.heap.size ≤ w'.heap.size)
    (hh : ∀ i, i < w.heap.size → w'.heap[i]? = w.heap[i]?) (hb : own = true → w.heap.size ≤ b ∧ b < w'.heap.size)
    (ho : SatO w' (g.push b own r) g.n o) : Sat w' (g.push b own r) (O ++ [o]) := by
  have hown : ∀ x, x < w.heap.size → (g.push b own r).own x = g.own x := by
    intro x hx
    simp only [Gh.push]
    rw [if_neg]
    rintro ⟨h1, h2⟩
    have := (hb h1).1; omega
  refine ⟨by simp [Gh.push, hS.n], ?_, ?_, ?_⟩
  · intro x ys hx
    obtain ⟨c, t, f, h1, h2⟩ := hS.imm x ys hx
    exact ⟨c, t, f, by rw [hh x (hS.imm_lt hx)]; exact h1, h2⟩
  · intro k o' hk
    rcases Nat.lt_or_ge k O.length with hlt | hge
    · rw [List.getElem?_append_left hlt] at hk
      have hkn : k < g.n := by rw [← hS.n]; exact hlt
      refine SatO.keep (Gh.le_push g b own r) hkn (by simp [Gh.push]; omega) (fun x hx => ?_) (hS.obj k o' hk)
      have hlt' := (hS.own x k hx).1
      exact ⟨hh x hlt', by rw [hown x hlt']; exact hx, rfl⟩
    · rw [List.getElem?_append_right hge] at hk
      have : k - O.length = 0 := by
        rcases Nat.eq_zero_or_pos (k - O.length) with h | h
        · exact h
        · rw [List.getElem?_eq_none (by simp; omega)] at hk; cases hk
      rw [this] at hk
      simp at hk; subst hk
      have hkn : k = g.n := by have := hS.n; omega
      rw [hkn]; exact ho
  · intro x k hx
    simp only [Gh.push] at hx
    split at hx
    · rename_i h
      simp at hx; subst hx
      obtain ⟨h1, h2⟩ := h
      exact ⟨by rw [h2]; exact (hb h1).2, by simp [Gh.push]⟩
    · have := hS.own x k hx
      exact ⟨by omega, by simp [Gh.push]; omega⟩

theorem Fr.push {w' : World} (hS : Sat w g O) {b : Nat} {own : Bool} {r : Nat × Value} (hsz : w.heap.size ≤ w'.heap.size) (h1 : w'.os = w.os) (h2 : w'.tape = w.tape) (h3 : w'.output = w.output)
    (hh : ∀ i, i < w.heap.size → w'.heap[i]? = w.heap[i]?) (hb : own = true → w.heap.size ≤ b) : Fr w w' g (g.push b own r) := by
  refine ⟨hsz, h1, h2, h3, fun i hi _ => hh i hi, fun i hi _ => rfl, fun i hi ho => ?_⟩
  simp only [Gh.push]
  rw [if_neg]
  · exact ho
  · rintro ⟨h4, h5⟩
    have := hb h4; omega

theorem own_fresh (hS : Sat w g O) {b : Nat} (hb : w.heap.size ≤ b) : g.own b = none ∧ g.imm b = none := by
  constructor
  · cases h : g.own b with
    | none => rfl
    | some k => have := (hS.own b k h).1; omega
  · cases h : g.imm b with
    | none => rfl
    | some ys => have := hS.imm_lt h; omega

/-- A new object of cells. -/
theorem new_cells (hS : Sat w g O) {cs : List AV} {c : Array Value} (t : TypeId) (hv : ValL g cs c.toList) :
    ∃ g', g.le g' ∧ Fr w (w.alloc (.cells c t)) g g' ∧ Sat (w.alloc (.cells c t)) g' (O ++ [.cells cs]) ∧ g'.n = g.n + 1 ∧ g'.blk g.n = w.heap.size := by
  have hh : ∀ i, i < w.heap.size → (w.alloc (.cells c t)).heap[i]? = w.heap[i]? := by
    intro i hi
    show (w.heap.push _)[i]? = _
    rw [Array.getElem?_push, if_neg (by omega)]
  refine ⟨g.push w.heap.size true (0, .nilFunc), Gh.le_push _ _ _ _, Fr.push hS (by simp) rfl rfl rfl hh (fun _ => Nat.le_refl _),
    hS.push (by simp) hh (fun _ => ⟨Nat.le_refl _, by simp⟩) ⟨c, t, ?_, ?_, ?_, by simp [Gh.push], ValL_mono (Gh.le_push _ _ _ _) _ _ hv⟩, rfl, by simp [Gh.push]⟩
  · show (w.heap.push _)[(g.push w.heap.size true (0, .nilFunc)).blk g.n]? = _
    simp [Gh.push]
  · simp [Gh.push]
  · simp [Gh.push]; exact (own_fresh hS (Nat.le_refl _)).2

/-- A new row, of cells that have been laid in a block of their own. -/
theorem new_row (hS : Sat w g O) {z : Nat} {xs : List (List DV)} {us rest : List Value} {t : TypeId} {cap : Nat} (hz : ∀ r ∈ xs, r.length = z) (hd : DList g.imm xs.flatten us)
    (hcap : xs.length ≤ cap) (hus : us.length = xs.length * z) (hr : us.length + rest.length = cap * z) {w' : World} (hw : w' = w.alloc (.cells (us ++ rest).toArray t) ∨ w' = (w.alloc (.cells (us ++ rest).toArray t)).drew ∨ w' = w.drew.alloc (.cells (us ++ rest).toArray t)) :
    ∃ g', g.le g' ∧ Fr w w' g g' ∧ Sat w' g' (O ++ [.row 0 true z xs]) ∧ g'.n = g.n + 1 ∧ g'.row g.n = (0, .slice (some ⟨w.heap.size, 0, none⟩) xs.length cap) := by
  have hw2 : w'.heap = w.heap.push (.cells (us ++ rest).toArray t) ∧ w'.os = w.os ∧ w'.tape = w.tape ∧ w'.output = w.output := by
    rcases hw with rfl | rfl | rfl <;> exact ⟨rfl, rfl, rfl, rfl⟩
  obtain ⟨he, h1, h2, h3⟩ := hw2
  have hh : ∀ i, i < w.heap.size → w'.heap[i]? = w.heap[i]? := by
    intro i hi
    rw [he, Array.getElem?_push, if_neg (by omega)]
  have hsz : w'.heap.size = w.heap.size + 1 := by rw [he]; simp
  refine ⟨g.push w.heap.size true (0, .slice (some ⟨w.heap.size, 0, none⟩) xs.length cap), Gh.le_push _ _ _ _, Fr.push hS (by omega) h1 h2 h3 hh (fun _ => Nat.le_refl _),
    hS.push (by omega) hh (fun _ => ⟨Nat.le_refl _, by omega⟩) ⟨some ⟨w.heap.size, 0, none⟩, cap, by simp [Gh.push], hcap, hz, .inr ⟨w.heap.size, 0, (us ++ rest).toArray, t, us, rfl, ?_, ?_, ?_, ?_, ?_, ?_⟩⟩, rfl, by simp [Gh.push]⟩
  · rw [he]; simp
  · simp; omega
  · simp [Gh.push]
  · simp [hus]
  · exact hd
  · simp [Gh.push]; exact (own_fresh hS (Nat.le_refl _)).2

/-- A new row that has no memory yet. -/
theorem new_nil (hS : Sat w g O) (z : Nat) (a : Option Addr) :
    ∃ g', g.le g' ∧ Fr w w g g' ∧ Sat w g' (O ++ [.row 0 true z []]) ∧ g'.n = g.n + 1 ∧ g'.row g.n = (0, .slice a 0 0) := by
  refine ⟨g.push 0 false (0, .slice a 0 0), Gh.le_push _ _ _ _, Fr.push hS (Nat.le_refl _) rfl rfl rfl (fun _ _ => rfl) (by simp),
    hS.push (Nat.le_refl _) (fun _ _ => rfl) (by simp) ⟨a, 0, by simp [Gh.push], by simp, by simp, .inl rfl⟩, rfl, by simp [Gh.push]⟩

/-! ### Rows that are still -/
def stillO (b : Bool) : Obj → Obj
  | .row v s z xs => .row v (match b with | true => false | false => s) z xs
  | o => o

theorem still1_get : ∀ (O : List Obj) (cs : List Nat) (n k : Nat), (still1 O cs n)[k]? = (O[k]?).map (stillO (hasN cs (n + k)))
  | [], cs, n, k => by simp [still1]
  | o :: os, cs, n, 0 => by
    cases o <;> simp [still1, stillO]
    cases hasN cs n <;> rfl
  | o :: os, cs, n, k + 1 => by
    simp only [still1, List.getElem?_cons_succ]
    rw [still1_get os cs (n + 1) k, show n + 1 + k = n + (k + 1) by omega]

theorem still_get (O : List Obj) (cs : List Nat) (k : Nat) : (still O cs)[k]? = (O[k]?).map (stillO (hasN cs k)) := by
  rw [still, still1_get]; simp

theorem still_len (O : List Obj) (cs : List Nat) : (still O cs).length = O.length := by
  have : ∀ (l : List Obj) (cs : List Nat) (n : Nat), (still1 l cs n).length = l.length := by
    intro l; induction l with
    | nil => intro _ _; rfl
    | cons o os ih => intro cs n; simp [still1, ih]
  exact this _ _ _

theorem still_nil (O : List Obj) : still O [] = O := by
  apply List.ext_getElem?
  intro k
  rw [still_get]
  cases h : O[k]? with
  | none => rfl
  | some o => cases o <;> simp [stillO, hasN]

theorem still_cons (O : List Obj) (c : Nat) (cs : List Nat) : still O (c :: cs) = still (still O [c]) cs := by
  apply List.ext_getElem?
  intro k
  rw [still_get, still_get, still_get]
  cases h : O[k]? with
  | none => rfl
  | some o =>
    cases o <;> simp [stillO, hasN]
    rename_i v s z xs
    cases hc : Nat.beq c k <;> cases hasN cs k <;> rfl

/-- What a row holds, as data. -/
theorem RowAt.data {k : Nat} {z : Nat} {xs : List (List DV)} {a : Option Addr} {cap : Nat} (h : RowAt w g k false z xs a cap) :
    DVal g.imm (.sl z xs) (.slice a xs.length cap) := by
  refine ⟨a, cap, rfl, h.len, ?_⟩
  rcases h.mem with h0 | ⟨b, off, c, t, us, ha, hh, hs, ho, hu, hd, hi⟩
  · left
    have := h.len
    cases xs with
    | nil => rfl
    | cons x xs => simp at this; omega
  · right
    refine ⟨b, off, ha, ?_⟩
    have hul : us.length = xs.length * z := by
      rw [← hu]; simp
      have : xs.length * z ≤ cap * z := Nat.mul_le_mul_right z h.len
      omega
    have := rows_imm (I := g.imm) (b := b) (off := off) (c := []) (xs := xs) (us := us) (z := z) 0 h.elen hd (fun j hj => by
      simp only [Ab.rd, hi, Nat.add_zero]
      simp only [Bool.false_eq_true, if_false, Option.bind_some]
      rw [List.getElem?_take_of_lt (by omega), ← hu, List.getElem?_take_of_lt (by omega), List.getElem?_drop])
    simpa using this

theorem still_one (hS : Sat w g O) (k : Nat) : ∃ g', g.le g' ∧ Fr w w g g' ∧ Sat w g' (still O [k]) ∧ g'.n = g.n ∧ g'.row = g.row ∧ g'.blk = g.blk ∧ g'.own = g.own := by
  -- the row, if it is one that is written, becomes data
  by_cases hk : ∃ v z xs, O[k]? = some (.row v true z xs)
  · obtain ⟨v, z, xs, hk⟩ := hk
    have hkn : k < g.n := by
      rw [← hS.n]
      rcases Nat.lt_or_ge k O.length with h | h
      · exact h
      · rw [List.getElem?_eq_none h] at hk; cases hk
    obtain ⟨a, cap, hrow, hat⟩ := hS.obj k _ hk
    have other : ∀ j o, j ≠ k → (still O [k])[j]? = some o → O[j]? = some o := by
      intro j o hj h
      rw [still_get] at h
      have hf : hasN [k] j = false := by
        cases hh : hasN [k] j with
        | false => rfl
        | true => have := (hasN_iff _ _).1 hh; simp at this; exact absurd this hj
      rw [hf] at h
      cases ho : O[j]? with
      | none => rw [ho] at h; cases h
      | some o' => rw [ho] at h; simp at h; rw [← h]; cases o' <;> rfl
    have same : (still O [k])[k]? = some (.row v false z xs) := by
      rw [still_get, hk]
      have : hasN [k] k = true := (hasN_iff _ _).2 (by simp)
      simp [this, stillO]
    rcases hat.mem with h0 | ⟨b, off, c, t, us, ha, hh, hs, ho, hu, hd, hi⟩
    · refine ⟨g, Gh.le_refl g, Fr.refl _ _, ⟨by rw [still_len]; exact hS.n, hS.imm, ?_, hS.own⟩, rfl, rfl, rfl, rfl⟩
      intro j o hj
      by_cases hjk : j = k
      · subst hjk
        rw [same] at hj; simp at hj; subst hj
        exact ⟨a, cap, hrow, hat.len, hat.elen, .inl h0⟩
      · exact hS.obj j o (other j o hjk hj)
    · have him : g.imm b = none := hi
      let g' : Gh := { g with imm := fun x => if x = b then some (c.toList.take (off + xs.length * z)) else g.imm x }
      have hle : g.le g' := by
        refine ⟨fun x ys hx => ?_, Nat.le_refl _, fun _ _ => rfl, fun _ _ => .inr rfl⟩
        refine ⟨[], ?_⟩
        show (if x = b then _ else _) = _
        rw [if_neg (by rintro rfl; rw [him] at hx; cases hx)]; simpa using hx
      refine ⟨g', hle, ⟨Nat.le_refl _, rfl, rfl, rfl, fun _ _ _ => rfl, fun i hi' hown => ?_, fun _ _ h => h⟩, ⟨?_, ?_, ?_, hS.own⟩, rfl, rfl, rfl, rfl⟩
      · show (if i = b then _ else _) = _
        rw [if_neg (by rintro rfl; rw [ho] at hown; cases hown)]
      · rw [still_len]; exact hS.n
      · intro x ys hx
        by_cases hxb : x = b
        · subst hxb
          have : ys = c.toList.take (off + xs.length * z) := by
            have : g'.imm x = some (c.toList.take (off + xs.length * z)) := if_pos rfl
            rw [this] at hx; simpa using hx.symm
          exact ⟨c, t, _, hh, by rw [this]; exact List.take_prefix _ _⟩
        · have : g'.imm x = g.imm x := if_neg hxb
          rw [this] at hx
          exact hS.imm x ys hx
      · intro j o hj
        by_cases hjk : j = k
        · subst hjk
          rw [same] at hj; simp at hj; subst hj
          exact ⟨a, cap, hrow, hat.len, hat.elen, .inr ⟨b, off, c, t, us, ha, hh, hs, ho, hu, DList_mono hle.imm _ _ hd, if_pos rfl⟩⟩
        · have hj' := other j o hjk hj
          have hjn : j < g.n := by
            rw [← hS.n]
            rcases Nat.lt_or_ge j O.length with h | h
            · exact h
            · rw [List.getElem?_eq_none h] at hj'; cases hj'
          refine SatO.keep hle hjn rfl (fun x hx => ⟨rfl, hx, ?_⟩) (hS.obj j o hj')
          show (if x = b then _ else _) = _
          rw [if_neg]
          rintro rfl
          rw [ho] at hx; simp at hx; exact hjk hx.symm
  · refine ⟨g, Gh.le_refl g, Fr.refl _ _, ?_, rfl, rfl, rfl, rfl⟩
    have : still O [k] = O := by
      apply List.ext_getElem?
      intro j
      rw [still_get]
      cases ho : O[j]? with
      | none => rfl
      | some o =>
        cases o <;> simp [stillO]
        rename_i v s z xs
        cases hc : hasN [k] j with
        | false => rfl
        | true =>
          have := (hasN_iff _ _).1 hc
          simp at this; subst this
          cases s with
          | false => rfl
          | true => exact absurd ⟨v, z, xs, ho⟩ hk
    rw [this]; exact hS

theorem still_many (hS : Sat w g O) (cs : List Nat) : ∃ g', g.le g' ∧ Fr w w g g' ∧ Sat w g' (still O cs) ∧ g'.n = g.n ∧ g'.row = g.row ∧ g'.blk = g.blk ∧ g'.own = g.own := by
  induction cs generalizing g O with
  | nil => exact ⟨g, Gh.le_refl g, Fr.refl _ _, by rw [still_nil]; exact hS, rfl, rfl, rfl, rfl⟩
  | cons c cs ih =>
    obtain ⟨g1, a1, b1, c1, d1, e1, f1, h1⟩ := still_one hS c
    obtain ⟨g2, a2, b2, c2, d2, e2, f2, h2⟩ := ih c1
    exact ⟨g2, Gh.le_trans a1 a2, b1.trans b2, by rw [still_cons]; exact c2, d2.trans d1, e2.trans e1, f2.trans f1, h2.trans h1⟩

/-- New memory that is data from the first. -/
theorem new_data (hS : Sat w g O) {z : Nat} {xs : List (List DV)} {us : List Value} (t : TypeId) (hz : ∀ r ∈ xs, r.length = z) (hd : DList g.imm xs.flatten us) (hus : us.length = xs.length * z) :
    ∃ g', g.le g' ∧ Fr w (w.alloc (.cells us.toArray t)) g g' ∧ Sat (w.alloc (.cells us.toArray t)) g' O ∧ DVal g'.imm (.sf z xs) (.slice (some ⟨w.heap.size, 0, none⟩) xs.length xs.length) := by
  have hfresh := own_fresh hS (Nat.le_refl w.heap.size)
  have hh : ∀ i, i < w.heap.size → (w.alloc (.cells us.toArray t)).heap[i]? = w.heap[i]? := by
    intro i hi
    show (w.heap.push _)[i]? = _
    rw [Array.getElem?_push, if_neg (by omega)]
  let g' : Gh := { g with imm := fun x => if x = w.heap.size then some us else g.imm x }
  have him : g.imm.le g'.imm := by
    intro x ys hx
    have hne : x ≠ w.heap.size := by rintro rfl; rw [hfresh.2] at hx; cases hx
    exact ⟨[], by show (if x = _ then _ else _) = _; rw [if_neg hne]; simpa using hx⟩
  have hle : g.le g' := ⟨him, Nat.le_refl _, fun _ _ => rfl, fun _ _ => .inr rfl⟩
  refine ⟨g', hle, ⟨by simp, rfl, rfl, rfl, fun i hi _ => hh i hi, fun i hi _ => if_neg (by omega), fun _ _ h => h⟩, ⟨hS.n, fun b ys hb => ?_, fun k o hk => ?_, fun b k hb => ?_⟩, ?_⟩
  · by_cases hbh : b = w.heap.size
    · subst hbh
      have : g'.imm w.heap.size = some us := if_pos rfl
      rw [this] at hb
      simp at hb; subst hb
      refine ⟨us.toArray, t, (0, 0), ?_, by simp⟩
      show (w.heap.push _)[w.heap.size]? = _
      simp
    · have : g'.imm b = g.imm b := if_neg hbh
      rw [this] at hb
      obtain ⟨c, t', f, h1, h2⟩ := hS.imm b ys hb
      exact ⟨c, t', f, by rw [hh b (hS.imm_lt hb)]; exact h1, h2⟩
  · have hkn : k < g.n := by rw [← hS.n]; exact (List.getElem?_eq_some_iff.1 hk).1
    refine SatO.keep hle hkn rfl (fun b hb => ?_) (hS.obj k o hk)
    have hbl := (hS.own b k hb).1
    exact ⟨hh b hbl, hb, if_neg (by omega)⟩
  · have := hS.own b k hb
    exact ⟨by simp; omega, this.2⟩
  · refine ⟨_, rfl, .inr ⟨w.heap.size, 0, rfl, ?_⟩⟩
    have := rows_imm (I := g'.imm) (b := w.heap.size) (off := 0) (c := []) (xs := xs) (us := us) (z := z) 0 hz (DList_mono him _ _ hd) (fun j hj => by
      have h1 : g'.imm w.heap.size = some us := if_pos rfl
      simp only [Ab.rd, h1, Option.bind_some, Nat.zero_add, Nat.add_zero])
    simpa using this
end
end Ab
