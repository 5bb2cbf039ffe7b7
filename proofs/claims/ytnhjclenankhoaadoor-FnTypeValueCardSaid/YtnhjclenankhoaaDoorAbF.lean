/- The frame 'Ab' is sound, eleventh part: slice literals; every operation that writes or makes memory, but calls. -/
import Derived.Test.YtnhjclenankhoaaDoorAbE
set_option linter.all false
namespace Ab
open Go
set_option linter.unusedSimpArgs false
set_option linter.unusedVariables false

section
variable {P : Program} {τ : Tab} {w : World} {g : Gh} {O : List Obj}

theorem ones_of_toDs {k : Nat → Bool} : ∀ {xs : List AV} {ds : List DV}, toDs (frzL O k xs) = some ds → ones xs = true
  | [], _, _ => rfl
  | x :: xs, ds, h => by
    unfold frzL toDs at h
    split at h
    · rename_i d hd
      split at h
      · rename_i ds' hds
        have h1 : one1 x = true := by
          cases x <;> simp [frz, toD] at hd <;> rfl
        unfold ones
        rw [h1]
        exact ones_of_toDs hds
      · cases h
    · cases h

theorem okCells_of_dats {x : AV} {ds : List DV} (h : dats O (cellsA x) = some ds) : okCells x = some (cellsA x) := by
  unfold okCells
  rw [ones_of_toDs h]

theorem toDs_length : ∀ {xs : List AV} {ds : List DV}, toDs xs = some ds → ds.length = xs.length
  | [], _, h => by simp [toDs] at h; subst h; rfl
  | x :: xs, ds, h => by
    unfold toDs at h
    split at h
    · split at h
      · rename_i ds' hds
        simp at h; subst h
        simp [toDs_length hds]
      · cases h
    · cases h
theorem frzL_length {k : Nat → Bool} : ∀ (xs : List AV), (frzL O k xs).length = xs.length
  | [] => rfl
  | x :: xs => by simp [frzL, frzL_length xs]
theorem dats_length {xs : List AV} {ds : List DV} (h : dats O xs = some ds) : ds.length = xs.length := by
  rw [toDs_length h, frzL_length]

theorem rowsIn_cellsA (x : AV) : rowsInL (cellsA x) = rowsIn x := by
  cases x <;> simp [cellsA, rowsInL, rowsIn, ap_eq]

theorem fillR_sound {g' : Gh} {cs : List Nat} (hS : Sat w g' (still O cs)) {e : Operand → AV} {ev : Operand → Value} (he : ∀ x, Val g' (e x) (ev x)) {z : Nat} :
    ∀ (parts : List (Nat × Operand)) (rows rows' : List (List DV)) (us : Array Value), (∀ c ∈ rowsParts e parts, c ∈ cs) → (∀ r ∈ rows, r.length = z) → DList g'.imm rows.flatten us.toList →
      fillR O e z rows parts = some rows' → ∃ us', Instr.fill (fun i => some (i * z, z)) us (parts.map fun x => (x.1, ev x.2)) = some us' ∧ DList g'.imm rows'.flatten us'.toList ∧
        rows'.length = rows.length ∧ (∀ r ∈ rows', r.length = z)
  | [], rows, rows', us, _, hz, hd, h => by
    simp [fillR] at h; subst h
    exact ⟨us, rfl, hd, rfl, hz⟩
  | (i, x) :: parts, rows, rows', us, hc, hz, hd, h => by
    unfold fillR at h
    split at h
    · cases h
    · rename_i hlt
      have hlt : i < rows.length := by
        have := Nat.le_of_ble_eq_true hlt
        rw [ln_eq] at this; omega
      split at h
      · cases h
      · rename_i hl
        have hl := Nat.eq_of_beq_eq_true hl
        rw [ln_eq] at hl
        split at h
        · rename_i ds hds
          have hok := okCells_of_dats hds
          obtain ⟨hcv, _⟩ := okCells_val hok (he x)
          have hc1 : ∀ c ∈ rowsInL (cellsA (e x)), c ∈ cs := by
            intro c hc'
            rw [rowsIn_cellsA] at hc'
            exact hc c (by simp only [rowsParts, ap_eq]; exact List.mem_append.2 (.inl hc'))
          have hdv := dats_val hS hc1 hcv hds
          have hdl : ds.length = z := by rw [dats_length hds, hl]
          have hus : (ev x).cells.size = z := by have := DList_length hdv; rw [hdl] at this; simpa using this.symm
          have hul : us.size = rows.length * z := by have := DList_length hd; rw [flat_len hz] at this; simpa using this.symm
          have hiz : (i + 1) * z ≤ rows.length * z := Nat.mul_le_mul_right z hlt
          rw [Nat.add_mul] at hiz
          have hfit : i * z + (ev x).cells.size ≤ us.size := by omega
          have hfold := fold_fill (ev x) (i * z) us hfit
          have hnew : DList g'.imm (st rows i ds).flatten ((ev x).cells.zipIdx.foldl (fun cs (c, j) => cs.setIfInBounds (i * z + j) c) us).toList := by
            rw [st_eq, flatten_set hz i ds hlt hdl, hfold, hus]
            rw [show (i + 1) * z = i * z + z by rw [Nat.add_mul]; omega]
            exact DList_append (DList_append (DList_take _ hd) hdv) (DList_drop _ hd)
          have hz' : ∀ r ∈ st rows i ds, r.length = z := by
            intro r hr
            rw [st_eq] at hr
            rcases List.mem_or_eq_of_mem_set hr with h | h
            · exact hz r h
            · rw [h]; exact hdl
          obtain ⟨us', h1, h2, h3, h4⟩ := fillR_sound hS he parts _ _ _ (fun c hc' => hc c (by simp only [rowsParts, ap_eq]; exact List.mem_append.2 (.inr hc'))) hz' hnew h
          refine ⟨us', ?_, h2, by rw [h3, st_eq, List.length_set], h4⟩
          simp only [List.map_cons, Instr.fill]
          rw [if_neg (by simp [hus]; rw [← hul] at hiz; omega)]
          exact h1
        · cases h

theorem reps_eq {α : Type} : ∀ (n : Nat) (x : α), reps n x = List.replicate n x
  | 0, _ => rfl
  | n + 1, x => by simp [reps, reps_eq n x, List.replicate_succ]

/-- The zero cells of a slice literal. -/
theorem zero_cells {I : Imm} {z : Nat} {zs : Array Value} (hz : zs.size = z) (hpos : z ≠ 0) (hone : zs.toList.all oneV = true) (n : Nat) :
    DList I (reps n (zs.toList.map vD)).flatten ((Array.range (n * z)).map (fun i => zs[i % zs.size]!)).toList := by
  have key : ((Array.range (n * z)).map (fun i => zs[i % zs.size]!)).toList = (List.replicate n zs.toList).flatten := by
    apply List.ext_getElem?
    intro j
    have hfl : ∀ m, (List.replicate m zs.toList).flatten.length = m * z := by
      intro m; rw [flat_len (z := z)]
      · simp
      · intro r hr; rw [List.eq_of_mem_replicate hr]; simpa using hz
    by_cases hj : j < n * z
    · have hq : j / z < n := by
        rw [Nat.div_lt_iff_lt_mul (by omega)]; exact hj
      have hrz : j % z < z := Nat.mod_lt _ (by omega)
      have hg := flatten_get (z := z) (xs := List.replicate n zs.toList) (by intro r hr; rw [List.eq_of_mem_replicate hr]; simpa using hz) (i := j / z) (r := zs.toList) (by simp [hq])
      have : (List.replicate n zs.toList).flatten[j]? = zs.toList[j % z]? := by
        have e : zs.toList[j % z]? = (((List.replicate n zs.toList).flatten.drop (j / z * z)).take z)[j % z]? := by rw [hg]
        rw [e, List.getElem?_take_of_lt hrz, List.getElem?_drop, Nat.mul_comm, Nat.div_add_mod]
      rw [this]
      simp [hj, hz, hrz]
    · rw [List.getElem?_eq_none (by simp; omega), List.getElem?_eq_none (by rw [hfl]; omega)]
  rw [key, reps_eq]
  have hd := DList_vD I zs.toList hone
  have : ∀ m : Nat, DList I (List.replicate m (zs.toList.map vD)).flatten (List.replicate m zs.toList).flatten := by
    intro m
    induction m with
    | zero => trivial
    | succ m ih2 =>
      rw [List.replicate_succ, List.replicate_succ, List.flatten_cons, List.flatten_cons]
      exact DList_append hd ih2
  exact this n

/-- A row is cut shorter. -/
theorem cut_row (hS : Sat w g O) {c v z d : Nat} {xs : List (List DV)} {a : Option Addr} {cap : Nat} (hro : rowOf O c v = some (true, z, xs)) (hd : d ≤ xs.length)
    (hrow : g.row c = (v, .slice a xs.length cap)) (hat : RowAt w g c true z xs a cap) :
    ∃ g', g.le g' ∧ Fr w w g g' ∧ Sat w g' (O.set c (.row (v + 1) true z (xs.take d))) ∧ Val g' (.row c (v + 1)) (.slice a d cap) := by
  obtain ⟨hcn, _⟩ := hS.row hro
  let g' : Gh := { g with row := fun k => if k = c then (v + 1, .slice a d cap) else g.row k }
  have hle : g.le g' := by
    refine ⟨Imm.le_refl _, Nat.le_refl _, fun _ _ => rfl, fun k _ => ?_⟩
    show (g.row k).1 < (if k = c then (v + 1, Value.slice a d cap) else g.row k).1 ∨ (if k = c then (v + 1, Value.slice a d cap) else g.row k) = g.row k
    by_cases hkc : k = c
    · left; subst hkc; rw [if_pos rfl, hrow]; simp
    · right; rw [if_neg hkc]
  have hlen : (xs.take d).length = d := by simp; omega
  refine ⟨g', hle, ⟨Nat.le_refl _, rfl, rfl, rfl, fun _ _ _ => rfl, fun _ _ _ => rfl, fun _ _ h => h⟩, ?_, ⟨hcn, ⟨_, _, _, rfl⟩, .inr ⟨by simp [g'], by simp [g']⟩⟩⟩
  refine hS.upd hcn hle rfl (fun j hj _ => if_neg hj) (Nat.le_refl _) (fun b hb hne => ⟨rfl, rfl, rfl⟩) (fun b ys hi _ => hS.imm b ys hi) (fun b j hj _ => hS.own b j hj) ?_
  refine ⟨a, cap, by simp [g', hlen], by have := hat.len; omega, fun r hr => hat.elen r (List.mem_of_mem_take hr), ?_⟩
  rcases hat.mem with h0 | ⟨b, off, cc, tt, us, ha, hh, hs, ho, hus, hdd, hi⟩
  · exact .inl h0
  · refine .inr ⟨b, off, cc, tt, us.take (d * z), ha, hh, hs, ho, ?_, ?_, by simpa using hi⟩
    · rw [← hus, List.take_take, hlen, Nat.min_eq_left (Nat.mul_le_mul_right z hd)]
    · have : (xs.take d).flatten = xs.flatten.take (d * z) := by
        have h1 := flat_len (z := z) (ys := xs.take d) (fun r hr => hat.elen r (List.mem_of_mem_take hr))
        rw [hlen] at h1
        conv => rhs; rw [← List.take_append_drop d xs, List.flatten_append, ← h1]
        simp
      rw [this]
      exact DList_take _ hdd

/-- A row that has no memory yet is appended to. -/
theorem append_nil (hτ : Tok P τ) (hS : Sat w g O) {t ty : Nat} {ys : List (List DV)} {x : Value} (hk : (tg τ t).kind = .slice) (hs : (tg τ (tg τ t).elem).size ≠ 0)
    (hx : Src w g (tg τ (tg τ t).elem).size ys x) (hmax : ys.length ≤ maxRow) :
    ∃ u' w' g', (Builtin.append_ #[t, t] ty #[.slice none 0 0, x]).run P w = .ok u' w' ∧ g.le g' ∧ Fr w w' g g' ∧ Sat w' g' (O ++ [.row 0 true (tg τ (tg τ t).elem).size ys]) ∧ Val g' (.row O.length 0) u' := by
  have ht := (hτ.of_kind (t := t) (by rw [hk]; simp)).kind
  rw [kindOk, hk] at ht
  dsimp only at ht
  have tke := hτ.of_size hs
  have hso := tke.sizeOf w
  obtain ⟨hel, ax, capx, hxv, hxm⟩ := hx
  subst hxv
  by_cases hy : ys = []
  · subst hy
    obtain ⟨g', h1, h2, h3, h4, h5⟩ := new_nil hS (tg τ (tg τ t).elem).size none
    exact ⟨_, w, g', run_append_none ht hso none 0 0 ax capx (Nat.le_refl _), h1, h2, h3, by rw [hS.n, h4]; omega, ⟨_, _, _, rfl⟩, .inr (by rw [hS.n, h5]; exact ⟨rfl, rfl⟩)⟩
  · obtain ⟨bx, ox, vs, hax, hdx, hvl, hcx⟩ := hxm.resolve_left hy
    subst hax
    have hypos : 0 < ys.length := List.length_pos_iff.2 hy
    have hnews : ∀ j q, vs[j]? = some q → w.cell? ((⟨bx, ox, none⟩ : Addr).add j) = some q := by
      intro j q hj
      have hlt : j < vs.length := by
        rcases Nat.lt_or_ge j vs.length with h | h
        · exact h
        · rw [List.getElem?_eq_none h] at hj; cases hj
      rw [add_none, hcx j hlt, hj]
    have hge := grownCap_ge w ys.length 0 (tg τ t).elem
    obtain ⟨ti, zz, hti, hts, htb, htz, hzc, hzs, _⟩ := tke.info
    have hbytes : ys.length * ti.bytes ≤ 140737488355328 := by
      rw [htb]
      have := tke.small
      calc ys.length * (tg τ (tg τ t).elem).bytes ≤ maxRow * 1024 := Nat.mul_le_mul hmax this
        _ ≤ _ := by simp [maxRow]
    have hmx : ys.length ≤ 68719476736 := hmax
    have hrun := run_append_nil (P := P) w t ty (tg τ t).elem ti zz ht hti htz ⟨bx, ox, none⟩ ys.length capx vs (by rw [hts]; exact hvl) hnews hypos (by omega) (by omega)
    have hrl : vs.length + (Builtin.zeroCells zz.cells (grownCap w ys.length 0 (tg τ t).elem - ys.length)).toList.length = grownCap w ys.length 0 (tg τ t).elem * (tg τ (tg τ t).elem).size := by
      simp only [Array.length_toList, size_zeroCells, hzs, hvl, ← Nat.add_mul]
      congr 1; omega
    obtain ⟨g', h1, h2, h3, h4, h5⟩ := new_row (w' := w.drew.alloc (.cells (vs ++ (Builtin.zeroCells zz.cells (grownCap w ys.length 0 (tg τ t).elem - ys.length)).toList).toArray (tg τ t).elem))
      (t := (tg τ t).elem) hS hel hdx hge hvl hrl (.inr (.inr rfl))
    refine ⟨_, _, g', hrun, h1, ?_, ?_, by rw [hS.n, h4]; omega, ⟨_, _, _, rfl⟩, .inr (by rw [hS.n, h5]; exact ⟨rfl, rfl⟩)⟩
    · have e : vs.toArray ++ Builtin.zeroCells zz.cells (grownCap w ys.length 0 (tg τ t).elem - ys.length) = (vs ++ (Builtin.zeroCells zz.cells (grownCap w ys.length 0 (tg τ t).elem - ys.length)).toList).toArray := by simp
      rw [e]; exact h2
    · have e : vs.toArray ++ Builtin.zeroCells zz.cells (grownCap w ys.length 0 (tg τ t).elem - ys.length) = (vs ++ (Builtin.zeroCells zz.cells (grownCap w ys.length 0 (tg τ t).elem - ys.length)).toList).toArray := by simp
      rw [e]; exact h3

/-- A full slice of data is appended to. -/
theorem append_full (hτ : Tok P τ) (hS : Sat w g O) {t ty : Nat} {xs ys : List (List DV)} {u x : Value} (hk : (tg τ t).kind = .slice) (hs : (tg τ (tg τ t).elem).size ≠ 0)
    (hu : Val g (.d (.sf (tg τ (tg τ t).elem).size xs)) u) (hx : Src w g (tg τ (tg τ t).elem).size ys x) (hypos : 0 < ys.length) (hmax : xs.length + ys.length ≤ maxRow) :
    ∃ u' w' g', (Builtin.append_ #[t, t] ty #[u, x]).run P w = .ok u' w' ∧ g.le g' ∧ Fr w w' g g' ∧ Sat w' g' (O ++ [.row 0 true (tg τ (tg τ t).elem).size (xs ++ ys)]) ∧ Val g' (.row O.length 0) u' := by
  obtain ⟨a, hu, hm⟩ := hu
  have hy : ys ≠ [] := fun e => by subst e; simp at hypos
  by_cases hx0 : xs = [] ∧ a = none
  · obtain ⟨rfl, rfl⟩ := hx0
    subst hu
    have := append_nil (P := P) (ty := ty) hτ hS hk hs hx (by simpa using hmax)
    simpa using this
  have ht := (hτ.of_kind (t := t) (by rw [hk]; simp)).kind
  rw [kindOk, hk] at ht
  dsimp only at ht
  have tke := hτ.of_size hs
  have hso := tke.sizeOf w
  obtain ⟨hel, ax, capx, hxv, hxm⟩ := hx
  subst hxv
  obtain ⟨bx, ox, vs, hax, hdx, hvl, hcx⟩ := hxm.resolve_left hy
  subst hax
  have hnews : ∀ j q, vs[j]? = some q → w.cell? ((⟨bx, ox, none⟩ : Addr).add j) = some q := by
    intro j q hj
    have hlt : j < vs.length := by
      rcases Nat.lt_or_ge j vs.length with h | h
      · exact h
      · rw [List.getElem?_eq_none h] at hj; cases hj
    rw [add_none, hcx j hlt, hj]
  obtain ⟨ti, zz, hti, hts, htb, htz, hzc, hzs, _⟩ := tke.info
  have hexl : ∀ r ∈ xs, r.length = (tg τ (tg τ t).elem).size := by
    rcases hm with rfl | ⟨b, off, _, hr⟩
    · simp
    · intro r hr'
      obtain ⟨i, hi⟩ := List.getElem?_of_mem hr'
      exact (DRows_get hr hi).1
  obtain ⟨ab, olds, hab, hol, hoc, hod⟩ : ∃ (ab : Addr) (olds : List Value), a = some ab ∧ olds.length = xs.length * ti.size ∧ (∀ (j : Nat) q, olds[j]? = some q → w.cell? (ab.add j) = some q) ∧ DList g.imm xs.flatten olds := by
    rcases hm with rfl | ⟨b, off, ha, hr⟩
    · cases a with
      | none => exact absurd ⟨rfl, rfl⟩ hx0
      | some ab => exact ⟨ab, [], rfl, by simp, by simp, trivial⟩
    · obtain ⟨us, h1, h2, h3⟩ := DRows_all hr
      refine ⟨_, us, ha, by rw [hts]; exact h2, fun j q hj => ?_, h1⟩
      have hlt : j < us.length := by
        rcases Nat.lt_or_ge j us.length with h | h
        · exact h
        · rw [List.getElem?_eq_none h] at hj; cases hj
      have h4 := h3 j hlt
      rw [hj] at h4
      rw [add_none]
      exact hS.rd h4
  subst hab
  have hall : ∀ r ∈ xs ++ ys, r.length = (tg τ (tg τ t).elem).size := by
    intro r hr
    rcases List.mem_append.1 hr with hr | hr
    · exact hexl r hr
    · exact hel r hr
  have hge := grownCap_ge w (xs.length + ys.length) xs.length (tg τ t).elem
  have hbytes : (xs.length + ys.length) * ti.bytes ≤ 140737488355328 := by
    rw [htb]
    have := tke.small
    calc (xs.length + ys.length) * (tg τ (tg τ t).elem).bytes ≤ maxRow * 1024 := Nat.mul_le_mul hmax this
      _ ≤ _ := by simp [maxRow]
  have hmx : xs.length + ys.length ≤ 68719476736 := hmax
  have hrun := run_append_grow (P := P) w t ty (tg τ t).elem ti zz ht hti htz ab xs.length xs.length olds hol hoc ⟨bx, ox, none⟩ ys.length capx vs (by rw [hts]; exact hvl) hnews (by omega) (by omega) (growslice_fits (by omega) hbytes)
  have hlen2 : (olds ++ vs).length = (xs ++ ys).length * (tg τ (tg τ t).elem).size := by simp [hol, hvl, hts, Nat.add_mul]
  have hrl : (olds ++ vs).length + (Builtin.zeroCells zz.cells (grownCap w (xs.length + ys.length) xs.length (tg τ t).elem - (xs.length + ys.length))).toList.length = grownCap w (xs.length + ys.length) xs.length (tg τ t).elem * (tg τ (tg τ t).elem).size := by
    rw [hlen2]
    simp only [Array.length_toList, size_zeroCells, hzs, List.length_append, ← Nat.add_mul]
    congr 1; omega
  have hdd : DList g.imm (xs ++ ys).flatten (olds ++ vs) := by rw [List.flatten_append]; exact DList_append hod hdx
  obtain ⟨g', h1, h2, h3, h4, h5⟩ := new_row (w' := w.drew.alloc (.cells ((olds ++ vs) ++ (Builtin.zeroCells zz.cells (grownCap w (xs.length + ys.length) xs.length (tg τ t).elem - (xs.length + ys.length))).toList).toArray (tg τ t).elem))
    (t := (tg τ t).elem) hS hall hdd (by simpa using hge) hlen2 hrl (.inr (.inr rfl))
  have e : olds.toArray ++ vs.toArray ++ Builtin.zeroCells zz.cells (grownCap w (xs.length + ys.length) xs.length (tg τ t).elem - (xs.length + ys.length)) = ((olds ++ vs) ++ (Builtin.zeroCells zz.cells (grownCap w (xs.length + ys.length) xs.length (tg τ t).elem - (xs.length + ys.length))).toList).toArray := by simp
  refine ⟨_, _, g', by rw [hu]; exact hrun, h1, ?_, ?_, by rw [hS.n, h4]; omega, ⟨_, _, _, rfl⟩, .inr (by rw [hS.n, h5]; simp)⟩
  · rw [e]; exact h2
  · rw [e]; exact h3

/-- What an operation that writes or makes memory comes to. -/
def Goes (P : Program) (ev : Operand → Value) (o : Oper) (w : World) (g : Gh) (K : AV → List Obj → Prop) : Prop :=
  ∃ v O' u w' g', K v O' ∧ Val g' v u ∧ Sat w' g' O' ∧ g.le g' ∧ Fr w w' g g' ∧
    ((execOp ev o).run P w = .ok (.value u) w' ∨ (execOp ev o).run P w = .ok .skip w' ∧ u = undef)

def notCall : Op → Bool
  | .call c => match c.callee with | .value _ => false | _ => true
  | _ => true

theorem args_two {α : Type} {a : Array α} {x y : α} (h : a.toList = [x, y]) : a = #[x, y] := by apply Array.ext'; simpa using h

theorem eff_sound (hτ : Tok P τ) {Γ : Ctx} (hS : Sat w g O) {e : Operand → AV} {ev : Operand → Value} (he : ∀ x, Val g (e x) (ev x))
    (o : Oper) {K : AV → List Obj → Prop} (hn : notCall o.op = true) (h : effK τ Γ o.op e O K) : Goes P ev o w g K := by
  obtain ⟨dst, op, ty, pos, aft, gd⟩ := o
  dsimp only at h hn
  cases op with
  | box t x =>
    simp only [effK] at h
    split at h
    · rename_i cs hok
      rw [fL_eq, apK_eq, ln_eq] at h
      obtain ⟨hv, _⟩ := okCells_val hok (he x)
      obtain ⟨g', h1, h2, h3, h4, h5⟩ := new_cells hS t hv
      refine ⟨_, _, .pointer (some ⟨w.heap.size, 0, none⟩), _, g', h, ⟨by rw [h4, hS.n]; omega, ?_⟩, h3, h1, h2, .inl ?_⟩
      · rw [hS.n, h5]
      · simp [execOp, Instr.box, newVar, newRow]
    · exact h.elim
  | alloc t =>
    simp only [effK] at h
    split at h
    · exact h.elim
    · rename_i hk
      split at h
      · rename_i hones
        rw [fL_eq, apK_eq, ln_eq] at h
        obtain ⟨z, hz, hc, hs, _, hone⟩ := (hτ.of_kind (t := t) (fun e => hk e)).zero w
        have hv := ValL_vD (g := g) z.cells.toList hone
        rw [hc, ← mp1_eq] at hv
        obtain ⟨g', h1, h2, h3, h4, h5⟩ := new_cells hS t hv
        refine ⟨_, _, .pointer (some ⟨w.heap.size, 0, none⟩), _, g', h, ⟨by rw [h4, hS.n]; omega, ?_⟩, h3, h1, h2, .inl ?_⟩
        · rw [hS.n, h5]
        · simp [execOp, Instr.alloc, hz, newVar, newRow]
      · exact h.elim
  | buildSlice t n parts =>
    simp only [effK] at h
    split at h
    · rename_i m hk hsz
      split at h
      · rename_i hle
        have hle := Nat.le_of_ble_eq_true hle
        split at h
        · rename_i xs hf
          rw [fRows_eq, fOs_eq, ln_eq] at h
          have hs0 : (tg τ (tg τ t).elem).size ≠ 0 := by rw [hsz]; simp
          have tke := hτ.of_size hs0
          obtain ⟨zv, hz, hc, hzs, _, hone⟩ := tke.zero w
          have ht := (hτ.of_kind (t := t) (by rw [hk]; simp)).kind
          rw [kindOk, hk] at ht
          dsimp only at ht
          obtain ⟨g1, a1, b1, c1, d1, e1, f1, o1⟩ := still_many hS (rowsParts e parts.toList)
          have he1 : ∀ x, Val g1 (e x) (ev x) := fun x => Val_mono a1 _ _ (he x)
          have hzl : ∀ r ∈ reps n (tg τ (tg τ t).elem).zero, r.length = (tg τ (tg τ t).elem).size := by
            intro r hr
            rw [reps_eq] at hr
            rw [List.eq_of_mem_replicate hr, ← hc]; simpa using hzs
          have hd0 := zero_cells (I := g1.imm) hzs hs0 hone n
          rw [hc] at hd0
          obtain ⟨us', h1, h2, h3, h4⟩ := fillR_sound c1 he1 parts.toList _ _ _ (fun c hc => hc) hzl hd0 hf
          have hlen : xs.length = n := by rw [h3, reps_eq]; simp
          have husl : us'.toList.length = xs.length * (tg τ (tg τ t).elem).size := by rw [← DList_length h2, flat_len h4]
          have hrunb : (execOp ev { dst := dst, op := .buildSlice t n parts, type := ty, pos := pos, after := aft, guard := gd }).run P w =
              .ok (.value (.slice (some ⟨w.heap.size, 0, none⟩) n n)) (w.alloc (.cells (us'.toList ++ []).toArray (tg τ t).elem)) := by
            have hparts : (parts.map fun x => (x.1, ev x.2)).toList = parts.toList.map fun x => (x.1, ev x.2) := by simp
            have hso := tke.sizeOf w
            have hnot : ¬ (n * (tg τ (tg τ t).elem).size > 2 ^ 24) := by omega
            simp only [execOp, Instr.buildSlice, Sem.run_bind, run_underlying ht, Result.andThen_ok, hso]
            rw [if_neg hnot]
            simp only [Sem.run_pure, Sem.run_bind, Result.andThen_ok]
            by_cases hn0 : n * (tg τ (tg τ t).elem).size = 0
            · rw [if_pos hn0]
              have hn00 : n = 0 := by
                rcases Nat.eq_zero_or_pos n with h | h
                · exact h
                · have := Nat.mul_pos h (Nat.pos_of_ne_zero hs0); omega
              subst hn00
              simp only [Nat.zero_mul] at h1 ⊢
              simp only [Sem.run_pure, Result.andThen_ok, hparts]
              have e0 : ∀ zz : Array Value, ((Array.range 0).map fun i => zz[i % zz.size]!) = #[] := fun zz => by simp
              rw [e0] at h1
              simp only [Sem.run_bind, Sem.run_pure, Result.andThen_ok, e0, h1, newRow, run_newObj]
              simp
            · rw [if_neg hn0]
              simp only [Sem.run_bind, hz, Result.andThen_ok, Sem.run_pure, hparts, h1, newRow, run_newObj]
              simp
          rcases h with h | h
          · have hxl : xs.length * (tg τ (tg τ t).elem).size = us'.toList.length := husl.symm
            obtain ⟨g2, a2, b2, c2, d2⟩ := new_data (z := (tg τ (tg τ t).elem).size) (xs := xs) (us := us'.toList) c1 (tg τ t).elem h4 h2 husl
            rw [List.append_nil] at hrunb
            exact ⟨_, _, .slice (some ⟨w.heap.size, 0, none⟩) n n, _, g2, h, by rw [hlen] at d2; exact d2, c2, Gh.le_trans a1 a2, b1.trans b2, .inl hrunb⟩
          · rw [apK_eq] at h
            obtain ⟨g2, a2, b2, c2, d2, e2⟩ := new_row (w' := w.alloc (.cells (us'.toList ++ []).toArray (tg τ t).elem)) (cap := n) (t := (tg τ t).elem) (rest := []) c1 h4 h2 (by omega) husl (by simp; rw [← Array.length_toList, husl, hlen]) (.inl rfl)
            refine ⟨_, _, .slice (some ⟨w.heap.size, 0, none⟩) n n, _, g2, h, ?_, c2, Gh.le_trans a1 a2, b1.trans b2, .inl hrunb⟩
            have hcl : O.length = g1.n := by rw [d1, hS.n]
            rw [hcl]
            exact ⟨by rw [d2]; omega, ⟨_, _, _, rfl⟩, .inr (by rw [e2, hlen]; exact ⟨rfl, rfl⟩)⟩
        · exact h.elim
      · exact h.elim
    · exact h.elim
  | store t a x =>
    simp only [effK] at h
    split at h
    · exact h.elim
    · rename_i ws hok
      obtain ⟨hv, hone⟩ := okCells_val hok (he x)
      split at h
      · exact h.elim
      · exact h.elim
      · rename_i m hl hsz
        have hl := Nat.eq_of_beq_eq_true hl
        rw [ln_eq] at hl
        have hs0 : (tg τ t).size ≠ 0 := by rw [hsz]; simp
        have ha := he a
        split at h
        · rename_i n off hx
          rw [hx] at ha
          obtain ⟨hn', hu⟩ := ha
          split at h
          · rename_i cs hcs
            split at h
            · rename_i cs' hsp
              rw [stK_eq] at h
              obtain ⟨w', g', hr, h1, h2, h3⟩ := store_cells hτ hS hs0 hcs hv hone (by rw [hl, hsz]) hsp
              refine ⟨_, _, undef, w', g', h, trivial, h3, h1, h2, .inr ⟨?_, rfl⟩⟩
              simp [execOp, hu, hr]
            · exact h.elim
          · exact h.elim
        · rename_i c v z i off hx
          rw [hx] at ha
          split at h
          · rename_i z' xs hro
            split at h
            · rename_i hz
              have hz := Nat.eq_of_beq_eq_true hz; subst hz
              split at h
              · rename_i ds hds hnot
                obtain ⟨r, hr, h⟩ := h
                rw [fDs_eq] at h
                split at h
                · rename_i r2 hsp
                  rw [fOs_eq, stK_eq] at h
                  -- the rows in what is stored are still
                  obtain ⟨g1, a1, b1, c1, d1, e1, f1, o1⟩ := still_many hS (rowsInL ws)
                  have hdl := dats_val c1 (fun c hc => hc) (ValL_mono a1 _ _ hv) hds
                  have hro1 : rowOf (still O (rowsInL ws)) c v = some (true, z, xs) := by
                    have hn := rowOf_some hro
                    have hO := (hS.get hn (by simp)).1
                    have hO1 : (still O (rowsInL ws))[c]? = some (.row v true z xs) := by
                      rw [still_get, hO]; simp [stillO, hnot]
                    have hn1 : nth (still O (rowsInL ws)) c .dead = .row v true z xs := by
                      rw [nth_eq, List.getD_eq_getElem?_getD, hO1]; rfl
                    unfold rowOf
                    rw [hn1]
                    simp
                  obtain ⟨w', g2, hr2, h1, h2, h3⟩ := store_elem hτ c1 hs0 hro1 hr hsp hdl (by rw [dats_length hds, hl, hsz]) (Val_mono a1 _ _ ha)
                  refine ⟨_, _, undef, w', g2, h, trivial, h3, Gh.le_trans a1 h1, b1.trans h2, .inr ⟨?_, rfl⟩⟩
                  simp [execOp, hr2]
                · exact h.elim
              · exact h.elim
            · exact h.elim
          · exact h.elim
        · exact h.elim
  | slice t x lo hi mx =>
    simp only [effK] at h
    split at h
    · rename_i hk
      have hx := low_val (he x)
      split at h
      · rename_i z xs hx'
        split at h
        · rename_i hz
          obtain ⟨rfl, hs0⟩ := eqz_ne hz
          rw [hx'] at hx
          obtain ⟨a, cap, hu, hcap, hr⟩ := hx
          obtain ⟨b, c, hK, hbc, hcl, hrun⟩ := bndK_sound (P := P) (w := w) he true cap hcap h
          exact ⟨_, O, _, w, g, hK, slice_data hbc hcl hcap hr, hS, Gh.le_refl g, Fr.refl _ _, .inl (by
            simp [execOp, hu, slice_run hτ hk hs0 hrun])⟩
        · exact h.elim
      · rename_i c v hx'
        split at h
        · rename_i s z xs hro
          split at h
          · rename_i hz
            obtain ⟨rfl, hs0⟩ := eqz_ne hz
            rw [hx'] at hx
            obtain ⟨hcn, a, cap, hrow, hat⟩ := hS.row hro
            have hu := Val_row hx hrow
            obtain ⟨b, d, hK, hbd, hdl, hrun, hb0⟩ := bndK_sound0 (P := P) (w := w) he true cap hat.len h
            have hgo := slice_run hτ hk hs0 hrun (a := a)
            rcases hK with hK | hK
            · rw [fOs_eq] at hK
              obtain ⟨g', h1, h2, h3, h4, h5, h6, h7⟩ := still_one hS c
              have hO := (hS.get (rowOf_some hro) (by simp)).1
              have hO1 : (still O [c])[c]? = some (.row v false (tg τ (tg τ t).elem).size xs) := by
                rw [still_get, hO]
                have : hasN [c] c = true := (hasN_iff _ _).2 (by simp)
                simp [stillO, this]
              obtain ⟨a', cap', hrow', hat'⟩ := h3.obj c _ hO1
              rw [h5, hrow] at hrow'
              simp only [Prod.mk.injEq, Value.slice.injEq, true_and] at hrow'
              obtain ⟨rfl, rfl⟩ := hrow'
              obtain ⟨_, _, hsl, hcap, hr⟩ := hat'.data
              simp only [Value.slice.injEq, true_and] at hsl
              obtain ⟨rfl, rfl⟩ := hsl
              exact ⟨_, _, _, w, g', hK, slice_data hbd hdl hcap hr, h3, h1, h2, .inl (by simp [execOp, hu, hgo])⟩
            · cases s with
              | false => exact hK.elim
              | true =>
                cases lo with
                | some _ => exact hK.elim
                | none =>
                  dsimp only at hK
                  rw [stK_eq] at hK
                  have hb0 : b = 0 := hb0 rfl
                  subst hb0
                  obtain ⟨g', h1, h2, h3, h4⟩ := cut_row hS hro hdl hrow hat
                  refine ⟨_, _, _, w, g', hK, h4, h3, h1, h2, .inl ?_⟩
                  have hval : (Value.slice (if cap = 0 then a else a.map (·.add (0 * (tg τ (tg τ t).elem).size))) (d - 0) (cap - 0)) = .slice a d cap := by
                    by_cases hc0 : cap = 0
                    · simp [hc0]
                    · obtain ⟨b', off, _, _, _, ha, _⟩ := hat.mem.resolve_left hc0
                      rw [if_neg hc0, ha]; simp [add_none]
                  rw [hval] at hgo
                  simp [execOp, hu] at hgo ⊢
                  simp [hgo]
          · exact h.elim
        · exact h.elim
      · exact h.elim
    · exact h.elim
  | call c =>
    obtain ⟨callee, args, ats⟩ := c
    simp only [effK] at h
    split at h
    · split at h
      · rename_i s x t u hargs hats
        have ha := args_two hargs
        have hb := args_two hats
        subst ha; subst hb
        split at h
        · rename_i htu
          have := Nat.eq_of_beq_eq_true htu; subst this
          unfold appK at h
          split at h
          · rename_i m hk hsz
            have hs0 : (tg τ (tg τ t).elem).size ≠ 0 := by rw [hsz]; simp
            split at h
            · exact h.elim
            · rename_i ys hys
              have hsrc := elems_src hS hys (he x)
              have hs := he s
              have run : ∀ u' w', (Builtin.append_ #[t, t] ty #[ev s, ev x]).run P w = .ok u' w' →
                  (execOp ev { dst := dst, op := .call { callee := .builtin .append, args := #[s, x], argTypes := #[t, t] }, type := ty, pos := pos, after := aft, guard := gd }).run P w = .ok (.value u') w' := by
                intro u' w' hr
                simp [execOp, resolve, invoke, Go.builtin, hr]
              split at h
              · rename_i c v hx'
                rw [hx'] at hs
                split at h
                · rename_i st' z xs hro
                  split at h
                  · rename_i hz
                    obtain ⟨hmax, h⟩ := h
                    rw [stK_eq] at h
                    obtain ⟨rfl, _⟩ := eqz_ne hz
                    obtain ⟨u', w', g', hr, h1, h2, h3, h4⟩ := append_row (P := P) (ty := ty) hτ hS hk hro hz hs hsrc hmax
                    exact ⟨_, _, u', w', g', h, h4, h3, h1, h2, .inl (run _ _ hr)⟩
                  · exact h.elim
                · exact h.elim
              · rename_i z xs hx'
                rw [hx'] at hs
                split at h
                · rename_i hz
                  obtain ⟨⟨hpos, hmax⟩, h⟩ := h
                  rw [apK_eq, ln_eq] at h
                  obtain ⟨rfl, _⟩ := eqz_ne hz
                  obtain ⟨u', w', g', hr, h1, h2, h3, h4⟩ := append_full (P := P) (ty := ty) hτ hS hk hs0 hs hsrc hpos hmax
                  exact ⟨_, _, u', w', g', h, h4, h3, h1, h2, .inl (run _ _ hr)⟩
                · exact h.elim
              · rename_i hx'
                rw [hx'] at hs
                obtain ⟨hmax, h⟩ := h
                rw [apK_eq, ln_eq] at h
                have hsv : ev s = .slice none 0 0 := hs.1
                obtain ⟨u', w', g', hr, h1, h2, h3, h4⟩ := append_nil (P := P) (ty := ty) hτ hS hk hs0 hsrc hmax
                exact ⟨_, _, u', w', g', h, h4, h3, h1, h2, .inl (run _ _ (by rw [hsv]; exact hr))⟩
              · exact h.elim
          · exact h.elim
        · exact h.elim
      · exact h.elim
    · cases hn
    · exact h.elim
  | _ => exact h.elim
end
end Ab
