/- The frame 'Ab' is sound, eleventh part: slice literals; every operation that writes or makes memory, but calls. -/
import Derived.Test.YtnhjclenankhoaaDoorAbP
import Derived.Laws.Sem
set_option linter.all false
namespace Ab
open Go
set_option linter.unusedSimpArgs false
set_option linter.unusedVariables false

section
variable {P : Program} {τ : Tab} {w : World} {g : Gh} {O : List Obj}

theorem ones_of_toDs {k : Nat → Bool} : ∀ {xs : List AV} {ds : List DV}, toDs (frzL O k xs) = some ds → ones xs = true
  | [], _, _ => rfl
  | x :: xs, ds, h => by
    unfold frzL toDs at h
    split at h
    · rename_i d hd
      split at h
      · rename_i ds' hds
        have h1 : one1 x = true := by
          cases x <;> simp [frz, toD] at hd <;> rfl
        unfold ones
        rw [h1]
        exact ones_of_toDs hds
      · cases h
    · cases h

theorem okCells_of_dats {x : AV} {ds : List DV} (h : dats O (cellsA x) = some ds) : okCells x = some (cellsA x) := by
  unfold okCells
  rw [ones_of_toDs h]

theorem toDs_length : ∀ {xs : List AV} {ds : List DV}, toDs xs = some ds → ds.length = xs.length
  | [], _, h => by simp [toDs] at h; subst h; rfl
  | x :: xs, ds, h => by
    unfold toDs at h
    split at h
    · split at h
      · rename_i ds' hds
        simp at h; subst h
        simp [toDs_length hds]
      · cases h
    · cases h
theorem frzL_length {k : Nat → Bool} : ∀ (xs : List AV), (frzL O k xs).length = xs.length
  | [] => rfl
  | x :: xs => by simp [frzL, frzL_length xs]
theorem dats_length {xs : List AV} {ds : List DV} (h : dats O xs = some ds) : ds.length = xs.length := by
  rw [toDs_length h, frzL_length]

theorem rowsIn_cellsA (x : AV) : rowsInL (cellsA x) = rowsIn x := by
  cases x <;> simp [cellsA, rowsInL, rowsIn, ap_eq]

theorem fillR_sound {g' : Gh} {cs : List Nat} (hS : Sat w g' (still O cs)) {e : Operand → AV} {ev : Operand → Value} (he : ∀ x, Val g' (e x) (ev x)) {z : Nat} :
    ∀ (parts : List (Nat × Operand)) (rows rows' : List (List DV)) (us : Array Value), (∀ c ∈ rowsParts e parts, c ∈ cs) → (∀ r ∈ rows, r.length = z) → DList g'.imm rows.flatten us.toList →
      fillR O e z rows parts = some rows' → ∃ us', Instr.fill (fun i => some (i * z, z)) us (parts.map fun x => (x.1, ev x.2)) = some us' ∧ DList g'.imm rows'.flatten us'.toList ∧
        rows'.length = rows.length ∧ (∀ r ∈ rows', r.length = z)
  | [], rows, rows', us, _, hz, hd, h => by
    simp [fillR] at h; subst h
    exact ⟨us, rfl, hd, rfl, hz⟩
  | (i, x) :: parts, rows, rows', us, hc, hz, hd, h => by
    unfold fillR at h
    split at h
    · cases h
    · rename_i hlt
      have hlt : i < rows.length := by
        have := Nat.le_of_ble_eq_true hlt
        rw [ln_eq] at this; omega
      split at h
      · cases h
      · rename_i hl
        have hl := Nat.eq_of_beq_eq_true hl
        rw [ln_eq] at hl
        split at h
        · rename_i ds hds
          have hok := okCells_of_dats hds
          obtain ⟨hcv, _⟩ := okCells_val hok (he x)
          have hc1 : ∀ c ∈ rowsInL (cellsA (e x)), c ∈ cs := by
            intro c hc'
            rw [rowsIn_cellsA] at hc'
            exact hc c (by simp only [rowsParts, ap_eq]; exact List.mem_append.2 (.inl hc'))
          have hdv := dats_val hS hc1 hcv hds
          have hdl : ds.length = z := by rw [dats_length hds, hl]
          have hus : (ev x).cells.size = z := by have := DList_length hdv; rw [hdl] at this; simpa using this.symm
          have hul : us.size = rows.length * z := by have := DList_length hd; rw [flat_len hz] at this; simpa using this.symm
          have hiz : (i + 1) * z ≤ rows.length * z := Nat.mul_le_mul_right z hlt
          rw [Nat.add_mul] at hiz
          have hfit : i * z + (ev x).cells.size ≤ us.size := by omega
          have hfold := fold_fill (ev x) (i * z) us hfit
          have hnew : DList g'.imm (st rows i ds).flatten ((ev x).cells.zipIdx.foldl (fun cs (c, j) => cs.setIfInBounds (i * z + j) c) us).toList := by
            rw [st_eq, flatten_set hz i ds hlt hdl, hfold, hus]
            rw [show (i + 1) * z = i * z + z by rw [Nat.add_mul]; omega]
            exact DList_append (DList_append (DList_take _ hd) hdv) (DList_drop _ hd)
          have hz' : ∀ r ∈ st rows i ds, r.length = z := by
            intro r hr
            rw [st_eq] at hr
            rcases List.mem_or_eq_of_mem_set hr with h | h
            · exact hz r h
            · rw [h]; exact hdl
          obtain ⟨us', h1, h2, h3, h4⟩ := fillR_sound hS he parts _ _ _ (fun c hc' => hc c (by simp only [rowsParts, ap_eq]; exact List.mem_append.2 (.inr hc'))) hz' hnew h
          refine ⟨us', ?_, h2, by rw [h3, st_eq, List.length_set], h4⟩
          simp only [List.map_cons, Instr.fill]
          rw [if_neg (by simp [hus]; rw [← hul] at hiz; omega)]
          exact h1
        · cases h

theorem reps_eq {α : Type} : ∀ (n : Nat) (x : α), reps n x = List.replicate n x
  | 0, _ => rfl
  | n + 1, x => by simp [reps, reps_eq n x, List.replicate_succ]

/-- The zero cells of a slice literal. -/
theorem zero_cells {I : Imm} {z : Nat} {zs : Array Value} (hz : zs.size = z) (hpos : z ≠ 0) (hone : zs.toList.all oneV = true) (n : Nat) :
    DList I (reps n (zs.toList.map vD)).flatten ((Array.range (n * z)).map (fun i => zs[i % zs.size]!)).toList := by
  have key : ((Array.range (n * z)).map (fun i => zs[i % zs.size]!)).toList = (List.replicate n zs.toList).flatten := by
    apply List.ext_getElem?
    intro j
    have hfl : ∀ m, (List.replicate m zs.toList).flatten.length = m * z := by
      intro m; rw [flat_len (z := z)]
      · simp
      · intro r hr; rw [List.eq_of_mem_replicate hr]; simpa using hz
    by_cases hj : j < n * z
    · have hq : j / z < n := by
        rw [Nat.div_lt_iff_lt_mul (by omega)]; exact hj
      have hrz : j % z < z := Nat.mod_lt _ (by omega)
      have hg := flatten_get (z := z) (xs := List.replicate n zs.toList) (by intro r hr; rw [List.eq_of_mem_replicate hr]; simpa using hz) (i := j / z) (r := zs.toList) (by simp [hq])
      have : (List.replicate n zs.toList).flatten[j]? = zs.toList[j % z]? := by
        have e : zs.toList[j % z]? = (((List.replicate n zs.toList).flatten.drop (j / z * z)).take z)[j % z]? := by rw [hg]
        rw [e, List.getElem?_take_of_lt hrz, List.getElem?_drop, Nat.mul_comm, Nat.div_add_mod]
      rw [this]
      simp [hj, hz, hrz]
    · rw [List.getElem?_eq_none (by simp; omega), List.getElem?_eq_none (by rw [hfl]; omega)]
  rw [key, reps_eq]
  have hd := DList_vD I zs.toList hone
  have : ∀ m : Nat, DList I (List.replicate m (zs.toList.map vD)).flatten (List.replicate m zs.toList).flatten := by
    intro m
    induction m with
    | zero => trivial
    | succ m ih2 =>
      rw [List.replicate_succ, List.replicate_succ, List.flatten_cons, List.flatten_cons]
      exact DList_append hd ih2
  exact this n

/-- A row is cut shorter. -/
theorem cut_row (hS : Sat w g O) {c v z d : Nat} {xs : List (List DV)} {a : Option Addr} {cap : Nat} (hro : rowOf O c v = some (true, z, xs)) (hd : d ≤ xs.length)
    (hrow : g.row c = (v, .slice a xs.length cap)) (hat : RowAt w g c true z xs a cap) :
    ∃ g', g.le g' ∧ Fr w w g g' ∧ Sat w g' (O.set c (.row (v + 1) true z (xs.take d))) ∧ Val g' (.row c (v + 1)) (.slice a d cap) := by
  obtain ⟨hcn, _⟩ := hS.row hro
  let g' : Gh := { g with row := fun k => if k = c then (v + 1, .slice a d cap) else g.row k }
  have hle : g.le g' := by
    refine ⟨Imm.le_refl _, Nat.le_refl _, fun _ _ => rfl, fun k _ => ?_⟩
    show (g.row k).1 < (if k = c then (v + 1, Value.slice a d cap) else g.row k).1 ∨ (if k = c then (v + 1, Value.slice a d cap) else g.row k) = g.row k
    by_cases hkc : k = c
    · left; subst hkc; rw [if_pos rfl, hrow]; simp
    · right; rw [if_neg hkc]
  have hlen : (xs.take d).length = d := by simp; omega
  refine ⟨g', hle, ⟨Nat.le_refl _, rfl, rfl, rfl, fun _ _ _ => rfl, fun _ _ _ => rfl, fun _ _ h => h⟩, ?_, ⟨hcn, ⟨_, _, _, rfl⟩, .inr ⟨by simp [g'], by simp [g']⟩⟩⟩
  refine hS.upd hcn hle rfl (fun j hj _ => if_neg hj) (Nat.le_refl _) (fun b hb hne => ⟨rfl, rfl, rfl⟩) (fun b ys hi _ => hS.imm b ys hi) (fun b j hj _ => hS.own b j hj) ?_
  refine ⟨a, cap, by simp [g', hlen], by have := hat.len; omega, fun r hr => hat.elen r (List.mem_of_mem_take hr), ?_⟩
  rcases hat.mem with h0 | ⟨b, off, cc, tt, us, ha, hh, hs, ho, hus, hdd, hi⟩
  · exact .inl h0
  · refine .inr ⟨b, off, cc, tt, us.take (d * z), ha, hh, hs, ho, ?_, ?_, by simpa using hi⟩
    · rw [← hus, List.take_take, hlen, Nat.min_eq_left (Nat.mul_le_mul_right z hd)]
    · have : (xs.take d).flatten = xs.flatten.take (d * z) := by
        have h1 := flat_len (z := z) (ys := xs.take d) (fun r hr => hat.elen r (List.mem_of_mem_take hr))
        rw [hlen] at h1
        conv => rhs; rw [← List.take_append_drop d xs, List.flatten_append, ← h1]
        simp
      rw [this]
      exact DList_take _ hdd

/-- A row that has no memory yet is appended to. -/
theorem vD_ptr {v : Value} (h : vD v = .v (.pointer none)) : v = .pointer none := by
  cases v <;> simp_all [vD]
theorem vD_sl {v : Value} (h : vD v = .v (.slice none 0 0)) : v = .slice none 0 0 := by
  cases v <;> simp_all [vD]
theorem bld_cells {c : Array Value} {l : List DV} (hc : c.toList.map vD = l) (hb : isBld l = true) : c = #[.pointer none, .slice none 0 0] := by
  unfold isBld at hb
  split at hb
  · obtain ⟨cl⟩ := c
    match cl, hc with
    | [a, b], hc =>
      simp only [List.map_cons, List.map_nil, List.cons.injEq, and_true] at hc
      rw [vD_ptr hc.1, vD_sl hc.2]
    | [], hc => simp at hc
    | [_], hc => simp at hc
    | _ :: _ :: _ :: _, hc => simp at hc
  · cases hb
/-- A fresh builder. -/
theorem new_bld (hS : Sat w g O) (t : TypeId) :
    ∃ g', g.le g' ∧ Fr w (w.alloc (.cells #[.pointer none, .slice none 0 0] t)) g g' ∧ Sat (w.alloc (.cells #[.pointer none, .slice none 0 0] t)) g' (O ++ [.map t []]) ∧ g'.n = g.n + 1 ∧ g'.blk g.n = w.heap.size := by
  have hh : ∀ i, i < w.heap.size → (w.alloc (.cells #[.pointer none, .slice none 0 0] t)).heap[i]? = w.heap[i]? := by
    intro i hi
    show (w.heap.push _)[i]? = _
    rw [Array.getElem?_push, if_neg (by omega)]
  refine ⟨g.push w.heap.size true (0, .nilFunc), Gh.le_push _ _ _ _, Fr.push hS (by simp) rfl rfl rfl hh (fun _ => Nat.le_refl _),
    hS.push (by simp) hh (fun _ => ⟨Nat.le_refl _, by simp⟩) ⟨?_, ?_, ?_, by simp [Gh.push]⟩, rfl, by simp [Gh.push]⟩
  · refine ⟨.pointer none, .slice none 0 0, ?_, .inl rfl, by simp [Value.ownBlock], by simp [Value.ownBlock], rfl, rfl⟩
    show (w.heap.push _)[(g.push w.heap.size true (0, .nilFunc)).blk g.n]? = _
    simp [Gh.push]
  · simp [Gh.push]
  · simp [Gh.push]; exact (own_fresh hS (Nat.le_refl _)).2
/-- nothing is appended to -/
theorem append_nil (hτ : Tok P τ) (hS : Sat w g O) {t ty : Nat} {ys : List (List DV)} {x : Value} (hk : (tg τ t).kind = .slice) (hs : (tg τ (tg τ t).elem).size ≠ 0)
    (hx : Src w g (tg τ (tg τ t).elem).size ys x) (hmax : ys.length ≤ maxRow) :
    ∃ u' w' g', (Builtin.append_ #[t, t] ty #[.slice none 0 0, x]).run P w = .ok u' w' ∧ g.le g' ∧ Fr w w' g g' ∧ Sat w' g' (O ++ [.row 0 true (tg τ (tg τ t).elem).size ys]) ∧ Val g' (.row O.length 0) u' := by
  have ht := (hτ.of_kind (t := t) (by rw [hk]; simp)).kind
  rw [kindOk, hk] at ht
  dsimp only at ht
  have tke := hτ.of_size hs
  have hso := tke.sizeOf w
  obtain ⟨hel, ax, capx, hxv, hxm⟩ := hx
  subst hxv
  by_cases hy : ys = []
  · subst hy
    obtain ⟨g', h1, h2, h3, h4, h5⟩ := new_nil hS (tg τ (tg τ t).elem).size none
    exact ⟨_, w, g', run_append_none ht hso none 0 0 ax capx (Nat.le_refl _), h1, h2, h3, by rw [hS.n, h4]; omega, ⟨_, _, _, rfl⟩, .inr (by rw [hS.n, h5]; exact ⟨rfl, rfl⟩)⟩
  · obtain ⟨bx, ox, vs, hax, hdx, hvl, hcx⟩ := hxm.resolve_left hy
    subst hax
    have hypos : 0 < ys.length := List.length_pos_iff.2 hy
    have hnews : ∀ j q, vs[j]? = some q → w.cell? ((⟨bx, ox, none⟩ : Addr).add j) = some q := by
      intro j q hj
      have hlt : j < vs.length := by
        rcases Nat.lt_or_ge j vs.length with h | h
        · exact h
        · rw [List.getElem?_eq_none h] at hj; cases hj
      rw [add_none, hcx j hlt, hj]
    have hge := grownCap_ge w ys.length 0 (tg τ t).elem
    obtain ⟨ti, zz, hti, hts, htb, htz, hzc, hzs, _⟩ := tke.info
    have hbytes : ys.length * ti.bytes ≤ 140737488355328 := by
      rw [htb]
      have := tke.small
      calc ys.length * (tg τ (tg τ t).elem).bytes ≤ maxRow * 1024 := Nat.mul_le_mul hmax this
        _ ≤ _ := by simp [maxRow]
    have hmx : ys.length ≤ 68719476736 := hmax
    have hrun := run_append_nil (P := P) w t ty (tg τ t).elem ti zz ht hti htz ⟨bx, ox, none⟩ ys.length capx vs (by rw [hts]; exact hvl) hnews hypos (by omega) (by omega)
    have hrl : vs.length + (Builtin.zeroCells zz.cells (grownCap w ys.length 0 (tg τ t).elem - ys.length)).toList.length = grownCap w ys.length 0 (tg τ t).elem * (tg τ (tg τ t).elem).size := by
      simp only [Array.length_toList, size_zeroCells, hzs, hvl, ← Nat.add_mul]
      congr 1; omega
    obtain ⟨g', h1, h2, h3, h4, h5⟩ := new_row (w' := w.drew.alloc (.cells (vs ++ (Builtin.zeroCells zz.cells (grownCap w ys.length 0 (tg τ t).elem - ys.length)).toList).toArray (tg τ t).elem))
      (t := (tg τ t).elem) hS hel hdx hge hvl hrl (.inr (.inr rfl))
    refine ⟨_, _, g', hrun, h1, ?_, ?_, by rw [hS.n, h4]; omega, ⟨_, _, _, rfl⟩, .inr (by rw [hS.n, h5]; exact ⟨rfl, rfl⟩)⟩
    · have e : vs.toArray ++ Builtin.zeroCells zz.cells (grownCap w ys.length 0 (tg τ t).elem - ys.length) = (vs ++ (Builtin.zeroCells zz.cells (grownCap w ys.length 0 (tg τ t).elem - ys.length)).toList).toArray := by simp
      rw [e]; exact h2
    · have e : vs.toArray ++ Builtin.zeroCells zz.cells (grownCap w ys.length 0 (tg τ t).elem - ys.length) = (vs ++ (Builtin.zeroCells zz.cells (grownCap w ys.length 0 (tg τ t).elem - ys.length)).toList).toArray := by simp
      rw [e]; exact h3

theorem bRows_len : ∀ l : List UInt8, (byteRows l).length = l.length
  | [] => rfl
  | _ :: l => by simp [byteRows, bRows_len l]
theorem bRows_flat {I : Imm} : ∀ l : List UInt8, DList I (byteRows l).flatten (l.map fun b => Value.int .u8 b.toNat)
  | [] => trivial
  | c :: l => ⟨rfl, bRows_flat l⟩
/-- a string as what is appended -/
theorem strX_src (hτ : Tok P τ) {u z : Nat} {bs : List UInt8} {x : Value} (hk : (tg τ u).kind = .string) (hz : z = 1) (hv : Val g (.d (.s bs)) x) : SrcX P w g z (byteRows bs) u x := by
  subst hz
  have hx : x = .string ⟨bs.toArray⟩ := hv
  subst hx
  have hu := (hτ.of_kind (t := u) (by rw [hk]; simp)).kind
  rw [kindOk, hk] at hu
  dsimp only at hu
  refine ⟨?_, fun w' => ?_, hu, bs.map fun b => Value.int .u8 b.toNat, bRows_flat bs, by simp [bRows_len], fun w' _ => ?_⟩
  · intro r hr
    induction bs with
    | nil => simp [byteRows] at hr
    | cons c l ih =>
      simp only [byteRows, List.mem_cons] at hr
      rcases hr with rfl | hr
      · rfl
      · exact ih rfl hr
  · simp [Builtin.lenOf, bRows_len, ByteArray.size]
  · have e : (⟨bs.toArray⟩ : ByteArray).extract 0 bs.length = ⟨bs.toArray⟩ := by
      have h := ByteArray.extract_zero_size (b := ⟨bs.toArray⟩)
      have hs : (⟨bs.toArray⟩ : ByteArray).size = bs.length := by simp [ByteArray.size]
      rwa [hs] at h
    simp [Builtin.firstCells, bRows_len, e]
/-- cells are appended to nothing -/
theorem append_nilX (hτ : Tok P τ) (hS : Sat w g O) {t t2 ty : Nat} {ys : List (List DV)} {x : Value} (hk : (tg τ t).kind = .slice) (hs : (tg τ (tg τ t).elem).size ≠ 0)
    (hx : SrcX P w g (tg τ (tg τ t).elem).size ys t2 x) (hmax : ys.length ≤ maxRow) :
    ∃ u' w' g', (Builtin.append_ #[t, t2] ty #[.slice none 0 0, x]).run P w = .ok u' w' ∧ g.le g' ∧ Fr w w' g g' ∧ Sat w' g' (O ++ [.row 0 true (tg τ (tg τ t).elem).size ys]) ∧ Val g' (.row O.length 0) u' := by
  have ht := (hτ.of_kind (t := t) (by rw [hk]; simp)).kind
  rw [kindOk, hk] at ht
  dsimp only at ht
  have tke := hτ.of_size hs
  have hso := tke.sizeOf w
  obtain ⟨hel, hlx, hux, vs, hdx, hvl, hcx⟩ := hx
  by_cases hy : ys = []
  · subst hy
    obtain ⟨g', h1, h2, h3, h4, h5⟩ := new_nil hS (tg τ (tg τ t).elem).size none
    exact ⟨_, w, g', run_appendX_none ht hux hso none 0 0 (hlx w) (by have h0 : vs = [] := List.eq_nil_of_length_eq_zero (by simpa using hvl); subst h0; exact hcx w (.inl rfl)) (Nat.le_refl _), h1, h2, h3, by rw [hS.n, h4]; omega, ⟨_, _, _, rfl⟩, .inr (by rw [hS.n, h5]; exact ⟨rfl, rfl⟩)⟩
  · have hypos : 0 < ys.length := List.length_pos_iff.2 hy
    have hge := grownCap_ge w ys.length 0 (tg τ t).elem
    obtain ⟨ti, zz, hti, hts, htb, htz, hzc, hzs, _⟩ := tke.info
    have hbytes : ys.length * ti.bytes ≤ 140737488355328 := by
      rw [htb]
      have := tke.small
      calc ys.length * (tg τ (tg τ t).elem).bytes ≤ maxRow * 1024 := Nat.mul_le_mul hmax this
        _ ≤ _ := by simp [maxRow]
    have hmx : ys.length ≤ 68719476736 := hmax
    have hrun := run_appendX_nil (P := P) w t t2 ty (tg τ t).elem ti zz ht hux hti htz (fun w' => hlx w') vs (by rw [hts]; exact hcx _ (.inr rfl)) hypos (by omega) (by omega)
    have hrl : vs.length + (Builtin.zeroCells zz.cells (grownCap w ys.length 0 (tg τ t).elem - ys.length)).toList.length = grownCap w ys.length 0 (tg τ t).elem * (tg τ (tg τ t).elem).size := by
      simp only [Array.length_toList, size_zeroCells, hzs, hvl, ← Nat.add_mul]
      congr 1; omega
    obtain ⟨g', h1, h2, h3, h4, h5⟩ := new_row (w' := w.drew.alloc (.cells (vs ++ (Builtin.zeroCells zz.cells (grownCap w ys.length 0 (tg τ t).elem - ys.length)).toList).toArray (tg τ t).elem))
      (t := (tg τ t).elem) hS hel hdx hge hvl hrl (.inr (.inr rfl))
    refine ⟨_, _, g', hrun, h1, ?_, ?_, by rw [hS.n, h4]; omega, ⟨_, _, _, rfl⟩, .inr (by rw [hS.n, h5]; exact ⟨rfl, rfl⟩)⟩
    · have e : vs.toArray ++ Builtin.zeroCells zz.cells (grownCap w ys.length 0 (tg τ t).elem - ys.length) = (vs ++ (Builtin.zeroCells zz.cells (grownCap w ys.length 0 (tg τ t).elem - ys.length)).toList).toArray := by simp
      rw [e]; exact h2
    · have e : vs.toArray ++ Builtin.zeroCells zz.cells (grownCap w ys.length 0 (tg τ t).elem - ys.length) = (vs ++ (Builtin.zeroCells zz.cells (grownCap w ys.length 0 (tg τ t).elem - ys.length)).toList).toArray := by simp
      rw [e]; exact h3

/-- A full slice of data is appended to. -/
theorem append_full (hτ : Tok P τ) (hS : Sat w g O) {t ty : Nat} {xs ys : List (List DV)} {u x : Value} (hk : (tg τ t).kind = .slice) (hs : (tg τ (tg τ t).elem).size ≠ 0)
    (hu : Val g (.d (.sf (tg τ (tg τ t).elem).size xs)) u) (hx : Src w g (tg τ (tg τ t).elem).size ys x) (hypos : xs.length = 0 ∨ 0 < ys.length) (hmax : xs.length + ys.length ≤ maxRow) :
    ∃ u' w' g', (Builtin.append_ #[t, t] ty #[u, x]).run P w = .ok u' w' ∧ g.le g' ∧ Fr w w' g g' ∧ Sat w' g' (O ++ [.row 0 true (tg τ (tg τ t).elem).size (xs ++ ys)]) ∧ Val g' (.row O.length 0) u' := by
  obtain ⟨a, hu, hm⟩ := hu
  by_cases hy : ys = []
  · subst hy
    have hxs : xs = [] := List.eq_nil_of_length_eq_zero (by simpa using hypos)
    subst hxs
    have ht := (hτ.of_kind (t := t) (by rw [hk]; simp)).kind
    rw [kindOk, hk] at ht
    dsimp only at ht
    have hso := (hτ.of_size hs).sizeOf w
    obtain ⟨hel, ax, capx, hxv, hxm⟩ := hx
    subst hxv
    obtain ⟨g', h1, h2, h3, h4, h5⟩ := new_nil hS (tg τ (tg τ t).elem).size a
    subst hu
    exact ⟨_, w, g', run_append_none ht hso a 0 0 ax capx (Nat.le_refl _), h1, h2, h3, by rw [hS.n, h4]; omega, ⟨_, _, _, rfl⟩, .inr (by rw [hS.n, h5]; exact ⟨rfl, rfl⟩)⟩
  have hypos : 0 < ys.length := List.length_pos_iff.2 hy
  by_cases hx0 : xs = [] ∧ a = none
  · obtain ⟨rfl, rfl⟩ := hx0
    subst hu
    have := append_nil (P := P) (ty := ty) hτ hS hk hs hx (by simpa using hmax)
    simpa using this
  have ht := (hτ.of_kind (t := t) (by rw [hk]; simp)).kind
  rw [kindOk, hk] at ht
  dsimp only at ht
  have tke := hτ.of_size hs
  have hso := tke.sizeOf w
  obtain ⟨hel, ax, capx, hxv, hxm⟩ := hx
  subst hxv
  obtain ⟨bx, ox, vs, hax, hdx, hvl, hcx⟩ := hxm.resolve_left hy
  subst hax
  have hnews : ∀ j q, vs[j]? = some q → w.cell? ((⟨bx, ox, none⟩ : Addr).add j) = some q := by
    intro j q hj
    have hlt : j < vs.length := by
      rcases Nat.lt_or_ge j vs.length with h | h
      · exact h
      · rw [List.getElem?_eq_none h] at hj; cases hj
    rw [add_none, hcx j hlt, hj]
  obtain ⟨ti, zz, hti, hts, htb, htz, hzc, hzs, _⟩ := tke.info
  have hexl : ∀ r ∈ xs, r.length = (tg τ (tg τ t).elem).size := by
    rcases hm with rfl | ⟨b, off, _, hr⟩
    · simp
    · intro r hr'
      obtain ⟨i, hi⟩ := List.getElem?_of_mem hr'
      exact (DRows_get hr hi).1
  obtain ⟨ab, olds, hab, hol, hoc, hod⟩ : ∃ (ab : Addr) (olds : List Value), a = some ab ∧ olds.length = xs.length * ti.size ∧ (∀ (j : Nat) q, olds[j]? = some q → w.cell? (ab.add j) = some q) ∧ DList g.imm xs.flatten olds := by
    rcases hm with rfl | ⟨b, off, ha, hr⟩
    · cases a with
      | none => exact absurd ⟨rfl, rfl⟩ hx0
      | some ab => exact ⟨ab, [], rfl, by simp, by simp, trivial⟩
    · obtain ⟨us, h1, h2, h3⟩ := DRows_all hr
      refine ⟨_, us, ha, by rw [hts]; exact h2, fun j q hj => ?_, h1⟩
      have hlt : j < us.length := by
        rcases Nat.lt_or_ge j us.length with h | h
        · exact h
        · rw [List.getElem?_eq_none h] at hj; cases hj
      have h4 := h3 j hlt
      rw [hj] at h4
      rw [add_none]
      exact hS.rd h4
  subst hab
  have hall : ∀ r ∈ xs ++ ys, r.length = (tg τ (tg τ t).elem).size := by
    intro r hr
    rcases List.mem_append.1 hr with hr | hr
    · exact hexl r hr
    · exact hel r hr
  have hge := grownCap_ge w (xs.length + ys.length) xs.length (tg τ t).elem
  have hbytes : (xs.length + ys.length) * ti.bytes ≤ 140737488355328 := by
    rw [htb]
    have := tke.small
    calc (xs.length + ys.length) * (tg τ (tg τ t).elem).bytes ≤ maxRow * 1024 := Nat.mul_le_mul hmax this
      _ ≤ _ := by simp [maxRow]
  have hmx : xs.length + ys.length ≤ 68719476736 := hmax
  have hrun := run_append_grow (P := P) w t ty (tg τ t).elem ti zz ht hti htz ab xs.length xs.length olds hol hoc ⟨bx, ox, none⟩ ys.length capx vs (by rw [hts]; exact hvl) hnews (by omega) (by omega) (growslice_fits (by omega) hbytes)
  have hlen2 : (olds ++ vs).length = (xs ++ ys).length * (tg τ (tg τ t).elem).size := by simp [hol, hvl, hts, Nat.add_mul]
  have hrl : (olds ++ vs).length + (Builtin.zeroCells zz.cells (grownCap w (xs.length + ys.length) xs.length (tg τ t).elem - (xs.length + ys.length))).toList.length = grownCap w (xs.length + ys.length) xs.length (tg τ t).elem * (tg τ (tg τ t).elem).size := by
    rw [hlen2]
    simp only [Array.length_toList, size_zeroCells, hzs, List.length_append, ← Nat.add_mul]
    congr 1; omega
  have hdd : DList g.imm (xs ++ ys).flatten (olds ++ vs) := by rw [List.flatten_append]; exact DList_append hod hdx
  obtain ⟨g', h1, h2, h3, h4, h5⟩ := new_row (w' := w.drew.alloc (.cells ((olds ++ vs) ++ (Builtin.zeroCells zz.cells (grownCap w (xs.length + ys.length) xs.length (tg τ t).elem - (xs.length + ys.length))).toList).toArray (tg τ t).elem))
    (t := (tg τ t).elem) hS hall hdd (by simpa using hge) hlen2 hrl (.inr (.inr rfl))
  have e : olds.toArray ++ vs.toArray ++ Builtin.zeroCells zz.cells (grownCap w (xs.length + ys.length) xs.length (tg τ t).elem - (xs.length + ys.length)) = ((olds ++ vs) ++ (Builtin.zeroCells zz.cells (grownCap w (xs.length + ys.length) xs.length (tg τ t).elem - (xs.length + ys.length))).toList).toArray := by simp
  refine ⟨_, _, g', by rw [hu]; exact hrun, h1, ?_, ?_, by rw [hS.n, h4]; omega, ⟨_, _, _, rfl⟩, .inr (by rw [hS.n, h5]; simp)⟩
  · rw [e]; exact h2
  · rw [e]; exact h3

/-- What an operation that writes or makes memory comes to. -/
def Goes (P : Program) (ev : Operand → Value) (o : Oper) (w : World) (g : Gh) (K : AV → List Obj → Prop) : Prop :=
  ∃ v O' u w' g', K v O' ∧ Val g' v u ∧ Sat w' g' O' ∧ g.le g' ∧ Fr w w' g g' ∧
    ((execOp ev o).run P w = .ok (.value u) w' ∨ (execOp ev o).run P w = .ok .skip w' ∧ u = undef)

def notCall : Op → Bool
  | .call c => match c.callee with | .value _ => false | _ => true
  | _ => true

theorem args_two {α : Type} {a : Array α} {x y : α} (h : a.toList = [x, y]) : a = #[x, y] := by apply Array.ext'; simpa using h

theorem eff_sound (hτ : Tok P τ) {Γ : Ctx} (hS : Sat w g O) {e : Operand → AV} {ev : Operand → Value} (he : ∀ x, Val g (e x) (ev x))
    (o : Oper) {K : AV → List Obj → Prop} (hn : notCall o.op = true) (h : effK τ Γ o.op e O K) : Goes P ev o w g K := by
  obtain ⟨dst, op, ty, pos, aft, gd⟩ := o
  dsimp only at h hn
  cases op with
  | box t x =>
    simp only [effK] at h
    split at h
    · rename_i cs hok
      rw [fL_eq, apK_eq, ln_eq] at h
      obtain ⟨hv, _⟩ := okCells_val hok (he x)
      obtain ⟨g', h1, h2, h3, h4, h5⟩ := new_cells hS t hv
      refine ⟨_, _, .pointer (some ⟨w.heap.size, 0, none⟩), _, g', h, ⟨by rw [h4, hS.n]; omega, ?_⟩, h3, h1, h2, .inl ?_⟩
      · rw [hS.n, h5]
      · simp [execOp, Instr.box, newVar, newRow]
    · exact h.elim
  | alloc t =>
    simp only [effK] at h
    split at h
    · exact h.elim
    · rename_i hk
      split at h
      · rename_i hones
        obtain ⟨z, hz, hc, hs, _, hone⟩ := (hτ.of_kind (t := t) (fun e => hk e)).zero w
        split at h
        · rename_i hb
          rw [apK_eq, ln_eq] at h
          have hzc : z.cells = #[.pointer none, .slice none 0 0] := bld_cells hc hb
          obtain ⟨g', h1, h2, h3, h4, h5⟩ := new_bld hS t
          refine ⟨_, _, .pointer (some ⟨w.heap.size, 0, none⟩), _, g', h, ⟨by rw [h4, hS.n]; omega, ?_⟩, h3, h1, h2, .inl ?_⟩
          · rw [hS.n, h5]
          · simp [execOp, Instr.alloc, hz, newVar, newRow, hzc]
        rw [fL_eq, apK_eq, ln_eq] at h
        have hv := ValL_vD (g := g) z.cells.toList hone
        rw [hc, ← mp1_eq] at hv
        obtain ⟨g', h1, h2, h3, h4, h5⟩ := new_cells hS t hv
        refine ⟨_, _, .pointer (some ⟨w.heap.size, 0, none⟩), _, g', h, ⟨by rw [h4, hS.n]; omega, ?_⟩, h3, h1, h2, .inl ?_⟩
        · rw [hS.n, h5]
        · simp [execOp, Instr.alloc, hz, newVar, newRow]
      · exact h.elim
  | buildSlice t n parts =>
    simp only [effK] at h
    split at h
    · rename_i m hk hsz
      split at h
      · rename_i hle
        have hle := Nat.le_of_ble_eq_true hle
        split at h
        · rename_i xs hf
          rw [fRows_eq, fOs_eq, ln_eq] at h
          have hs0 : (tg τ (tg τ t).elem).size ≠ 0 := by rw [hsz]; simp
          have tke := hτ.of_size hs0
          obtain ⟨zv, hz, hc, hzs, _, hone⟩ := tke.zero w
          have ht := (hτ.of_kind (t := t) (by rw [hk]; simp)).kind
          rw [kindOk, hk] at ht
          dsimp only at ht
          obtain ⟨g1, a1, b1, c1, d1, e1, f1, o1⟩ := still_many hS (rowsParts e parts.toList)
          have he1 : ∀ x, Val g1 (e x) (ev x) := fun x => Val_mono a1 _ _ (he x)
          have hzl : ∀ r ∈ reps n (tg τ (tg τ t).elem).zero, r.length = (tg τ (tg τ t).elem).size := by
            intro r hr
            rw [reps_eq] at hr
            rw [List.eq_of_mem_replicate hr, ← hc]; simpa using hzs
          have hd0 := zero_cells (I := g1.imm) hzs hs0 hone n
          rw [hc] at hd0
          obtain ⟨us', h1, h2, h3, h4⟩ := fillR_sound c1 he1 parts.toList _ _ _ (fun c hc => hc) hzl hd0 hf
          have hlen : xs.length = n := by rw [h3, reps_eq]; simp
          have husl : us'.toList.length = xs.length * (tg τ (tg τ t).elem).size := by rw [← DList_length h2, flat_len h4]
          have hrunb : (execOp ev { dst := dst, op := .buildSlice t n parts, type := ty, pos := pos, after := aft, guard := gd }).run P w =
              .ok (.value (.slice (some ⟨w.heap.size, 0, none⟩) n n)) (w.alloc (.cells (us'.toList ++ []).toArray (tg τ t).elem)) := by
            have hparts : (parts.map fun x => (x.1, ev x.2)).toList = parts.toList.map fun x => (x.1, ev x.2) := by simp
            have hso := tke.sizeOf w
            have hnot : ¬ (n * (tg τ (tg τ t).elem).size > 2 ^ 24) := by omega
            simp only [execOp, Instr.buildSlice, Sem.run_bind, run_underlying ht, Result.andThen_ok, hso]
            rw [if_neg hnot]
            simp only [Sem.run_pure, Sem.run_bind, Result.andThen_ok]
            by_cases hn0 : n * (tg τ (tg τ t).elem).size = 0
            · rw [if_pos hn0]
              have hn00 : n = 0 := by
                rcases Nat.eq_zero_or_pos n with h | h
                · exact h
                · have := Nat.mul_pos h (Nat.pos_of_ne_zero hs0); omega
              subst hn00
              simp only [Nat.zero_mul] at h1 ⊢
              simp only [Sem.run_pure, Result.andThen_ok, hparts]
              have e0 : ∀ zz : Array Value, ((Array.range 0).map fun i => zz[i % zz.size]!) = #[] := fun zz => by simp
              rw [e0] at h1
              simp only [Sem.run_bind, Sem.run_pure, Result.andThen_ok, e0, h1, newRow, run_newObj]
              simp
            · rw [if_neg hn0]
              simp only [Sem.run_bind, hz, Result.andThen_ok, Sem.run_pure, hparts, h1, newRow, run_newObj]
              simp
          rcases h with h | h
          · have hxl : xs.length * (tg τ (tg τ t).elem).size = us'.toList.length := husl.symm
            obtain ⟨g2, a2, b2, c2, d2⟩ := new_data (z := (tg τ (tg τ t).elem).size) (xs := xs) (us := us'.toList) c1 (tg τ t).elem h4 h2 husl
            rw [List.append_nil] at hrunb
            exact ⟨_, _, .slice (some ⟨w.heap.size, 0, none⟩) n n, _, g2, h, by rw [hlen] at d2; exact d2, c2, Gh.le_trans a1 a2, b1.trans b2, .inl hrunb⟩
          · rw [apK_eq] at h
            obtain ⟨g2, a2, b2, c2, d2, e2⟩ := new_row (w' := w.alloc (.cells (us'.toList ++ []).toArray (tg τ t).elem)) (cap := n) (t := (tg τ t).elem) (rest := []) c1 h4 h2 (by omega) husl (by simp; rw [← Array.length_toList, husl, hlen]) (.inl rfl)
            refine ⟨_, _, .slice (some ⟨w.heap.size, 0, none⟩) n n, _, g2, h, ?_, c2, Gh.le_trans a1 a2, b1.trans b2, .inl hrunb⟩
            have hcl : O.length = g1.n := by rw [d1, hS.n]
            rw [hcl]
            exact ⟨by rw [d2]; omega, ⟨_, _, _, rfl⟩, .inr (by rw [e2, hlen]; exact ⟨rfl, rfl⟩)⟩
        · exact h.elim
      · exact h.elim
    · exact h.elim
  | store t a x =>
    simp only [effK] at h
    split at h
    · exact h.elim
    · rename_i ws hok
      obtain ⟨hv, hone⟩ := okCells_val hok (he x)
      split at h
      · exact h.elim
      · exact h.elim
      · rename_i m hl hsz
        have hl := Nat.eq_of_beq_eq_true hl
        rw [ln_eq] at hl
        have hs0 : (tg τ t).size ≠ 0 := by rw [hsz]; simp
        have ha := he a
        split at h
        · rename_i n off hx
          rw [hx] at ha
          obtain ⟨hn', hu⟩ := ha
          split at h
          · rename_i cs hcs
            split at h
            · rename_i cs' hsp
              rw [stK_eq] at h
              obtain ⟨w', g', hr, h1, h2, h3⟩ := store_cells hτ hS hs0 hcs hv hone (by rw [hl, hsz]) hsp
              refine ⟨_, _, undef, w', g', h, trivial, h3, h1, h2, .inr ⟨?_, rfl⟩⟩
              simp [execOp, hu, hr]
            · exact h.elim
          · exact h.elim
        · rename_i c v z i off hx
          rw [hx] at ha
          split at h
          · rename_i z' xs hro
            split at h
            · rename_i hz
              have hz := Nat.eq_of_beq_eq_true hz; subst hz
              split at h
              · rename_i ds hds hnot
                obtain ⟨r, hr, h⟩ := h
                rw [fDs_eq] at h
                split at h
                · rename_i r2 hsp
                  rw [fOs_eq, stK_eq] at h
                  -- the rows in what is stored are still
                  obtain ⟨g1, a1, b1, c1, d1, e1, f1, o1⟩ := still_many hS (rowsInL ws)
                  have hdl := dats_val c1 (fun c hc => hc) (ValL_mono a1 _ _ hv) hds
                  have hro1 : rowOf (still O (rowsInL ws)) c v = some (true, z, xs) := by
                    have hn := rowOf_some hro
                    have hO := (hS.get hn (by simp)).1
                    have hO1 : (still O (rowsInL ws))[c]? = some (.row v true z xs) := by
                      rw [still_get, hO]; simp [stillO, hnot]
                    have hn1 : nth (still O (rowsInL ws)) c .dead = .row v true z xs := by
                      rw [nth_eq, List.getD_eq_getElem?_getD, hO1]; rfl
                    unfold rowOf
                    rw [hn1]
                    simp
                  obtain ⟨w', g2, hr2, h1, h2, h3⟩ := store_elem hτ c1 hs0 hro1 hr hsp hdl (by rw [dats_length hds, hl, hsz]) (Val_mono a1 _ _ ha)
                  refine ⟨_, _, undef, w', g2, h, trivial, h3, Gh.le_trans a1 h1, b1.trans h2, .inr ⟨?_, rfl⟩⟩
                  simp [execOp, hr2]
                · exact h.elim
              · exact h.elim
            · exact h.elim
          · exact h.elim
        · exact h.elim
  | slice t x lo hi mx =>
    simp only [effK] at h
    split at h
    · rename_i hk
      have hx := low_val (he x)
      split at h
      · rename_i z xs hx'
        split at h
        · rename_i hz
          obtain ⟨rfl, hs0⟩ := eqz_ne hz
          rw [hx'] at hx
          obtain ⟨a, cap, hu, hcap, hr⟩ := hx
          obtain ⟨b, c, hK, hbc, hcl, hrun⟩ := bndK_sound (P := P) (w := w) he true cap hcap h
          exact ⟨_, O, _, w, g, hK, slice_data hbc hcl hcap hr, hS, Gh.le_refl g, Fr.refl _ _, .inl (by
            simp [execOp, hu, slice_run hτ hk hs0 hrun])⟩
        · exact h.elim
      · rename_i c v hx'
        split at h
        · rename_i s z xs hro
          split at h
          · rename_i hz
            obtain ⟨rfl, hs0⟩ := eqz_ne hz
            rw [hx'] at hx
            obtain ⟨hcn, a, cap, hrow, hat⟩ := hS.row hro
            have hu := Val_row hx hrow
            obtain ⟨b, d, hK, hbd, hdl, hrun, hb0⟩ := bndK_sound0 (P := P) (w := w) he true cap hat.len h
            have hgo := slice_run hτ hk hs0 hrun (a := a)
            rcases hK with hK | hK
            · rw [fOs_eq] at hK
              obtain ⟨g', h1, h2, h3, h4, h5, h6, h7⟩ := still_one hS c
              have hO := (hS.get (rowOf_some hro) (by simp)).1
              have hO1 : (still O [c])[c]? = some (.row v false (tg τ (tg τ t).elem).size xs) := by
                rw [still_get, hO]
                have : hasN [c] c = true := (hasN_iff _ _).2 (by simp)
                simp [stillO, this]
              obtain ⟨a', cap', hrow', hat'⟩ := h3.obj c _ hO1
              rw [h5, hrow] at hrow'
              simp only [Prod.mk.injEq, Value.slice.injEq, true_and] at hrow'
              obtain ⟨rfl, rfl⟩ := hrow'
              obtain ⟨_, _, hsl, hcap, hr⟩ := hat'.data
              simp only [Value.slice.injEq, true_and] at hsl
              obtain ⟨rfl, rfl⟩ := hsl
              exact ⟨_, _, _, w, g', hK, slice_data hbd hdl hcap hr, h3, h1, h2, .inl (by simp [execOp, hu, hgo])⟩
            · cases s with
              | false => exact hK.elim
              | true =>
                cases lo with
                | some _ => exact hK.elim
                | none =>
                  dsimp only at hK
                  rw [stK_eq] at hK
                  have hb0 : b = 0 := hb0 rfl
                  subst hb0
                  obtain ⟨g', h1, h2, h3, h4⟩ := cut_row hS hro hdl hrow hat
                  refine ⟨_, _, _, w, g', hK, h4, h3, h1, h2, .inl ?_⟩
                  have hval : (Value.slice (if cap = 0 then a else a.map (·.add (0 * (tg τ (tg τ t).elem).size))) (d - 0) (cap - 0)) = .slice a d cap := by
                    by_cases hc0 : cap = 0
                    · simp [hc0]
                    · obtain ⟨b', off, _, _, _, ha, _⟩ := hat.mem.resolve_left hc0
                      rw [if_neg hc0, ha]; simp [add_none]
                  rw [hval] at hgo
                  simp [execOp, hu] at hgo ⊢
                  simp [hgo]
          · exact h.elim
        · exact h.elim
      · exact h.elim
    · exact h.elim
  | call c =>
    obtain ⟨callee, args, ats⟩ := c
    simp only [effK] at h
    split at h
    · split at h
      · rename_i s x t u hargs hats
        have ha := args_two hargs
        have hb := args_two hats
        subst ha; subst hb
        split at h
        · rename_i htu
          have := Nat.eq_of_beq_eq_true htu; subst this
          unfold appK at h
          split at h
          · rename_i m hk hsz
            have hs0 : (tg τ (tg τ t).elem).size ≠ 0 := by rw [hsz]; simp
            split at h
            · exact h.elim
            · rename_i ys hys
              have hsrc := elems_src hS hys (he x)
              have hs := he s
              have run : ∀ u' w', (Builtin.append_ #[t, t] ty #[ev s, ev x]).run P w = .ok u' w' →
                  (execOp ev { dst := dst, op := .call { callee := .builtin .append, args := #[s, x], argTypes := #[t, t] }, type := ty, pos := pos, after := aft, guard := gd }).run P w = .ok (.value u') w' := by
                intro u' w' hr
                simp [execOp, resolve, invoke, Go.builtin, hr]
              split at h
              · rename_i c v hx'
                rw [hx'] at hs
                split at h
                · rename_i st' z xs hro
                  split at h
                  · rename_i hz
                    obtain ⟨hmax, h⟩ := h
                    rw [stK_eq] at h
                    obtain ⟨rfl, _⟩ := eqz_ne hz
                    obtain ⟨u', w', g', hr, h1, h2, h3, h4⟩ := append_row (P := P) (ty := ty) hτ hS hk hro hz hs hsrc hmax
                    exact ⟨_, _, u', w', g', h, h4, h3, h1, h2, .inl (run _ _ hr)⟩
                  · exact h.elim
                · exact h.elim
              · rename_i z xs hx'
                rw [hx'] at hs
                split at h
                · rename_i hz
                  obtain ⟨⟨hpos, hmax⟩, h⟩ := h
                  rw [apK_eq, ln_eq] at h
                  obtain ⟨rfl, _⟩ := eqz_ne hz
                  obtain ⟨u', w', g', hr, h1, h2, h3, h4⟩ := append_full (P := P) (ty := ty) hτ hS hk hs0 hs hsrc hpos hmax
                  exact ⟨_, _, u', w', g', h, h4, h3, h1, h2, .inl (run _ _ hr)⟩
                · exact h.elim
              · rename_i hx'
                rw [hx'] at hs
                obtain ⟨hmax, h⟩ := h
                rw [apK_eq, ln_eq] at h
                have hsv : ev s = .slice none 0 0 := hs.1
                obtain ⟨u', w', g', hr, h1, h2, h3, h4⟩ := append_nil (P := P) (ty := ty) hτ hS hk hs0 hsrc hmax
                exact ⟨_, _, u', w', g', h, h4, h3, h1, h2, .inl (run _ _ (by rw [hsv]; exact hr))⟩
              · exact h.elim
          · exact h.elim
        · unfold appS at h
          split at h
          · rename_i hk hku hsz
            have hs0 : (tg τ (tg τ t).elem).size ≠ 0 := by rw [hsz]; simp
            split at h
            · rename_i bs hxe
              have hxv := he x
              rw [hxe] at hxv
              have hsrc := strX_src (P := P) (w := w) (g := g) hτ hku hsz hxv
              have hs := he s
              have run : ∀ u' w', (Builtin.append_ #[t, u] ty #[ev s, ev x]).run P w = .ok u' w' →
                  (execOp ev { dst := dst, op := .call { callee := .builtin .append, args := #[s, x], argTypes := #[t, u] }, type := ty, pos := pos, after := aft, guard := gd }).run P w = .ok (.value u') w' := by
                intro u' w' hr
                simp [execOp, resolve, invoke, Go.builtin, hr]
              split at h
              · rename_i c v hx'
                rw [hx'] at hs
                split at h
                · rename_i st' z xs hro
                  split at h
                  · rename_i hz
                    obtain ⟨hmax, h⟩ := h
                    rw [stK_eq] at h
                    obtain ⟨rfl, _⟩ := eqz_ne hz
                    obtain ⟨u', w', g', hr, h1, h2, h3, h4⟩ := append_rowX (P := P) (ty := ty) hτ hS hk hro hz hs hsrc (by rw [bRows_len]; exact hmax)
                    exact ⟨_, _, u', w', g', h, h4, h3, h1, h2, .inl (run _ _ hr)⟩
                  · exact h.elim
                · exact h.elim
              · rename_i hx'
                rw [hx'] at hs
                obtain ⟨hmax, h⟩ := h
                rw [apK_eq, ln_eq] at h
                have hsv : ev s = .slice none 0 0 := hs.1
                obtain ⟨u', w', g', hr, h1, h2, h3, h4⟩ := append_nilX (P := P) (ty := ty) hτ hS hk hs0 hsrc (by rw [bRows_len]; exact hmax)
                rw [hsz] at h3
                exact ⟨_, _, u', w', g', h, h4, h3, h1, h2, .inl (run _ _ (by rw [hsv]; exact hr))⟩
              · exact h.elim
            · exact h.elim
          · exact h.elim
      · exact h.elim
    · cases hn
    · exact h.elim
  | _ => exact h.elim
end
end Ab

/- The frame 'Ab' is sound, twelfth part: renaming of objects; calls. -/
namespace Ab
open Go
set_option linter.unusedSimpArgs false
set_option linter.unusedVariables false

section
variable {P : Program} {τ : Tab} {w : World} {g h : Gh} {O : List Obj}

/-- A renaming, from the objects of g to those of h. -/
structure RenOk (g h : Gh) (R : Ren) : Prop where
  imm : g.imm.le h.imm
  look : ∀ k k' vc vn, rlook R k = some (k', vc, vn) → k < g.n → k' < h.n ∧ h.blk k' = g.blk k ∧ (vc < (g.row k).1 → vn < (h.row k').1) ∧
    (vc = (g.row k).1 → vn < (h.row k').1 ∨ (vn = (h.row k').1 ∧ (h.row k').2 = (g.row k).2))

mutual
theorem ren_val {R : Ren} (hR : RenOk g h R) : ∀ (x : AV) (u : Value), Val g x u → Val h (ren R x) u
  | .d x, u, hv => DVal_mono hR.imm x u hv
  | .tt, _, hv => hv
  | .ff, _, hv => hv
  | .und, _, hv => hv
  | .junk, _, _ => trivial
  | .da cs, u, ⟨b, off, hu, hc⟩ => ⟨b, off, hu, DCells_mono hR.imm b off cs hc⟩
  | .row c v, u, ⟨hc, hq, hx⟩ => by
    unfold ren
    split
    · rename_i c' vc vn hl
      split
      · rename_i hb
        have := Nat.eq_of_beq_eq_true hb; subst this
        obtain ⟨h1, h2, h3, h4⟩ := hR.look _ _ _ _ hl hc
        refine ⟨h1, hq, ?_⟩
        rcases hx with hx | ⟨hx, hu⟩
        · exact .inl (h3 hx)
        · rcases h4 hx with h5 | ⟨h5, h6⟩
          · exact .inl h5
          · exact .inr ⟨h5, by rw [h6]; exact hu⟩
      · trivial
    · trivial
  | .ptr k off, u, ⟨hc, hx⟩ => by
    unfold ren
    split
    · rename_i k' _ _ hl
      obtain ⟨h1, h2, _⟩ := hR.look _ _ _ _ hl hc
      exact ⟨h1, by rw [h2]; exact hx⟩
    · trivial
  | .mp k, u, ⟨hc, hx⟩ => by
    unfold ren
    split
    · rename_i k' _ _ hl
      obtain ⟨h1, h2, _⟩ := hR.look _ _ _ _ hl hc
      exact ⟨h1, by rw [h2]; exact hx⟩
    · trivial
  | .ra c v z i off, u, ⟨hc, hq, hx⟩ => by
    unfold ren
    split
    · rename_i c' vc vn hl
      split
      · rename_i hb
        have := Nat.eq_of_beq_eq_true hb; subst this
        obtain ⟨h1, h2, h3, h4⟩ := hR.look _ _ _ _ hl hc
        refine ⟨h1, hq, ?_⟩
        rcases hx with hx | ⟨hx, hu⟩
        · exact .inl (h3 hx)
        · rcases h4 hx with h5 | ⟨h5, h6⟩
          · exact .inl h5
          · exact .inr ⟨h5, by rw [h6]; exact hu⟩
      · trivial
    · trivial
  | .agg cs, u, ⟨us, hu, hl⟩ => ⟨us, hu, ren_valL hR cs us hl⟩
  | .tup cs, u, ⟨us, hu, hl⟩ => ⟨us, hu, ren_valL hR cs us hl⟩
  | .fn f cs, u, ⟨us, hu, hl⟩ => ⟨us, hu, ren_valL hR cs us hl⟩
  | .ifc t x, u, ⟨y, hu, hl⟩ => ⟨y, hu, ren_val hR x y hl⟩
theorem ren_valL {R : Ren} (hR : RenOk g h R) : ∀ (xs : List AV) (us : List Value), ValL g xs us → ValL h (renL R xs) us
  | [], [], _ => trivial
  | x :: xs, u :: us, ⟨h1, h2⟩ => ⟨ren_val hR x u h1, ren_valL hR xs us h2⟩
  | [], _ :: _, h => h.elim
  | _ :: _, [], h => h.elim
end

theorem SatO.ren {R : Ren} (hR : RenOk g h R) {k k' v' : Nat} (hblk : h.blk k' = g.blk k) (hb : ∀ b, g.own b = some k → h.own b = some k' ∧ h.imm b = g.imm b)
    (hrow : h.row k' = (v', (g.row k).2)) : ∀ {o : Obj}, ((∀ v s z xs, o ≠ .row v s z xs) → v' = 0) → SatO w g k o → SatO w h k' (renO R v' o)
  | .cells cs, hv', ⟨c, t, hh, ho, hi, hrw, hv⟩ => by
    obtain ⟨h1, h2⟩ := hb _ ho
    have := hv' (by simp)
    exact ⟨c, t, by rw [hblk]; exact hh, by rw [hblk]; exact h1, by rw [hblk, h2]; exact hi, by rw [hrow, hrw, this], ren_valL hR _ _ hv⟩
  | .row v st z xs, _, ⟨a, cap, hr, hm⟩ => by
    refine ⟨a, cap, by rw [hrow, hr], hm.len, hm.elen, ?_⟩
    rcases hm.mem with h0 | ⟨b, off, c, t, us, ha, hh, hs, ho, hu, hd, hi⟩
    · exact .inl h0
    · obtain ⟨h1, h2⟩ := hb _ ho
      exact .inr ⟨b, off, c, t, us, ha, hh, hs, h1, hu, DList_mono hR.imm _ _ hd, by rw [h2]; exact hi⟩
  | .map _ _, hv', ⟨hh, ho, hi, hrw⟩ => by
    obtain ⟨h1, h2⟩ := hb _ ho
    have := hv' (by simp)
    exact ⟨by rw [hblk]; exact hh.keep (own := fun b => g.own b = some k ∧ g.imm b = none) (own' := fun b => h.own b = some k' ∧ h.imm b = none) (fun j hj => ⟨rfl, (hb j hj.1).1, (hb j hj.1).2.trans hj.2⟩) ⟨ho, hi⟩, by rw [hblk]; exact h1, by rw [hblk, h2]; exact hi, by rw [hrow, hrw, this]⟩
  | .dead, _, h => h.elim

/-! ### Places in lists -/
def idxN : List Nat → Nat → Option Nat
  | [], _ => none
  | x :: xs, k => if x = k then some 0 else (idxN xs k).map (· + 1)

theorem idxN_some : ∀ {p : List Nat} {k i : Nat}, idxN p k = some i → p[i]? = some k
  | [], _, _, h => by simp [idxN] at h
  | x :: xs, k, i, h => by
    unfold idxN at h
    split at h
    · rename_i hx; simp at h; subst h; simp [hx]
    · simp only [Option.map_eq_some_iff] at h
      obtain ⟨j, hj, rfl⟩ := h
      simpa using idxN_some hj
theorem idxN_none : ∀ {p : List Nat} {k : Nat}, idxN p k = none → k ∉ p
  | [], _, _ => by simp
  | x :: xs, k, h => by
    unfold idxN at h
    split at h
    · cases h
    · rename_i hx
      simp only [Option.map_eq_none_iff] at h
      have := idxN_none h
      simp [this]; exact fun e => hx e.symm
theorem idxN_of : ∀ {p : List Nat} {k i : Nat}, p.Nodup → p[i]? = some k → idxN p k = some i
  | [], _, _, _, h => by simp at h
  | x :: xs, k, i, hn, h => by
    obtain ⟨h1, h2⟩ := List.nodup_cons.1 hn
    unfold idxN
    cases i with
    | zero => simp at h; simp [h]
    | succ i =>
      simp at h
      have hne : x ≠ k := fun e => by subst e; exact h1 (List.mem_of_getElem? h)
      simp [hne, idxN_of h2 h]

/-! ### What is reached -/
theorem bfs_ok {O : List Obj} : ∀ (n : Nat) (q seen : List Nat), seen.Nodup → (∀ k ∈ seen, k < O.length) → (bfs O n q seen).Nodup ∧ ∀ k ∈ bfs O n q seen, k < O.length
  | 0, _, seen, h1, h2 => ⟨h1, h2⟩
  | n + 1, [], seen, h1, h2 => ⟨h1, h2⟩
  | n + 1, k :: q, seen, h1, h2 => by
    unfold bfs
    split
    · exact bfs_ok n q seen h1 h2
    · rename_i hk
      split
      · rename_i hlt
        have hlt := Nat.le_of_ble_eq_true hlt
        rw [ln_eq] at hlt
        have hk' : k ∉ seen := fun hm => by rw [(hasN_iff _ _).2 hm] at hk; cases hk
        rw [ap_eq seen]
        refine bfs_ok n _ _ (List.nodup_append.2 ⟨h1, by simp, ?_⟩) ?_
        · rintro a ha b hb
          simp at hb; subst hb
          rintro rfl; exact hk' ha
        · intro j hj
          rcases List.mem_append.1 hj with hj | hj
          · exact h2 j hj
          · simp at hj; subst hj; exact hlt
      · exact bfs_ok n q seen h1 h2

theorem rlook_mkR {O : List Obj} : ∀ {p : List Nat} {i0 k : Nat} {r}, rlook (mkR O p i0) k = some r → ∃ j, p[j]? = some k ∧ r = (i0 + j, ver O k, 0)
  | [], _, _, _, h => by simp [mkR, rlook] at h
  | x :: p, i0, k, r, h => by
    unfold mkR rlook at h
    split at h
    · rename_i hb
      have := Nat.eq_of_beq_eq_true hb; subst this
      simp at h; subst h
      exact ⟨0, by simp, rfl⟩
    · obtain ⟨j, h1, h2⟩ := rlook_mkR h
      exact ⟨j + 1, by simpa using h1, by rw [h2]; simp; omega⟩

theorem rlook_mkB_nil {O : List Obj} : ∀ {os : List Obj} {n i0 i : Nat} {r}, rlook (mkB O n os [] i0) i = some r →
    ∃ j o, i = i0 + j ∧ os[j]? = some o ∧ r = (n + j, vO o, vO o)
  | [], _, _, _, _, h => by simp [mkB, rlook] at h
  | o :: os, n, i0, i, r, h => by
    unfold mkB rlook at h
    split at h
    · rename_i hb
      have := Nat.eq_of_beq_eq_true hb; subst this
      simp at h; subst h
      exact ⟨0, o, by simp, by simp, rfl⟩
    · obtain ⟨j, o', h1, h2, h3⟩ := rlook_mkB_nil h
      exact ⟨j + 1, o', by omega, by simpa using h2, by rw [h3]; simp; omega⟩

theorem rlook_mkB {O : List Obj} : ∀ {os : List Obj} {p : List Nat} {n i0 i : Nat} {r}, rlook (mkB O n os p i0) i = some r →
    ∃ j o, i = i0 + j ∧ os[j]? = some o ∧ ((∃ k, p[j]? = some k ∧ r = (k, vO o, backV O k (vO o))) ∨ (p.length ≤ j ∧ r = (n + (j - p.length), vO o, vO o)))
  | [], p, _, _, _, _, h => by cases p <;> simp [mkB, rlook] at h
  | o :: os, [], n, i0, i, r, h => by
    obtain ⟨j, o', h1, h2, h3⟩ := rlook_mkB_nil h
    exact ⟨j, o', h1, h2, .inr ⟨by simp, by simpa using h3⟩⟩
  | o :: os, k :: p, n, i0, i, r, h => by
    unfold mkB rlook at h
    split at h
    · rename_i hb
      have := Nat.eq_of_beq_eq_true hb; subst this
      simp at h; subst h
      exact ⟨0, o, by simp, by simp, .inl ⟨k, by simp, rfl⟩⟩
    · obtain ⟨j, o', h1, h2, h3⟩ := rlook_mkB h
      refine ⟨j + 1, o', by omega, by simpa using h2, ?_⟩
      rcases h3 with ⟨k', h3, h4⟩ | ⟨h3, h4⟩
      · exact .inl ⟨k', by simpa using h3, h4⟩
      · exact .inr ⟨by simp; omega, by rw [h4]; simp⟩

theorem mergeO_nil {R : Ren} {O : List Obj} : ∀ (os acc : List Obj), mergeO R O acc [] os = acc ++ os.map (fun o => renO R (vO o) o)
  | [], acc => by simp [mergeO]
  | o :: os, acc => by simp [mergeO, mergeO_nil os, ap_eq]

theorem mergeO_get {R : Ren} {O : List Obj} : ∀ (p : List Nat) (os acc : List Obj), p.length ≤ os.length → p.Nodup → (∀ k ∈ p, k < acc.length) →
    (mergeO R O acc p os).length = acc.length + (os.length - p.length) ∧
    (∀ (k : Nat), k < acc.length → k ∉ p → (mergeO R O acc p os)[k]? = acc[k]?) ∧
    (∀ (j k : Nat) (o : Obj), p[j]? = some k → os[j]? = some o → (mergeO R O acc p os)[k]? = some (renO R (backV O k (vO o)) o)) ∧
    (∀ (j : Nat) (o : Obj), os[p.length + j]? = some o → (mergeO R O acc p os)[acc.length + j]? = some (renO R (vO o) o))
  | [], os, acc, _, _, _ => by
    rw [mergeO_nil]
    refine ⟨by simp, fun k hk _ => by rw [List.getElem?_append_left hk], fun j k o h => by simp at h, fun j o h => ?_⟩
    simp at h
    rw [List.getElem?_append_right (by omega)]
    simp [h]
  | k :: p, [], acc, h, _, _ => by simp at h
  | k :: p, o :: os, acc, hl, hn, hk => by
    obtain ⟨hn1, hn2⟩ := List.nodup_cons.1 hn
    have hkk := hk k (by simp)
    simp only [mergeO, st_eq]
    obtain ⟨h1, h2, h3, h4⟩ := mergeO_get (R := R) (O := O) p os (acc.set k (renO R (backV O k (vO o)) o)) (by simpa using hl) hn2 (fun j hj => by simpa using hk j (by simp [hj]))
    simp only [List.length_set] at h1 h2 h4
    refine ⟨by rw [h1]; simp, fun j hj hjn => ?_, fun j k' o' hj ho => ?_, fun j o' ho => ?_⟩
    · simp at hjn
      rw [h2 j hj hjn.2, List.getElem?_set_ne (fun e => hjn.1 e.symm)]
    · cases j with
      | zero =>
        simp at hj ho; subst hj; subst ho
        rw [h2 k hkk hn1, List.getElem?_set_self hkk]
      | succ j => exact h3 j k' o' (by simpa using hj) (by simpa using ho)
    · refine h4 j o' ?_
      simp only [List.length_cons] at ho
      rw [show p.length + 1 + j = p.length + j + 1 by omega] at ho
      simpa using ho

theorem subO_get {R : Ren} {O : List Obj} : ∀ (p : List Nat) (i : Nat), (subO R O p)[i]? = (p[i]?).map (fun k => renO R 0 (nth O k .dead))
  | [], i => by simp [subO]
  | k :: p, 0 => by simp [subO]
  | k :: p, i + 1 => by simpa [subO] using subO_get p i

theorem subO_len {R : Ren} {O : List Obj} : ∀ (p : List Nat), (subO R O p).length = p.length
  | [] => rfl
  | k :: p => by simp [subO, subO_len p]

theorem vO_not {o : Obj} (h : ∀ v s z xs, o ≠ .row v s z xs) : vO o = 0 := by
  cases o with
  | row v s z xs => exact absurd rfl (h v s z xs)
  | _ => rfl
theorem vO_renO (R : Ren) (v : Nat) (o : Obj) (h : (∀ v s z xs, o ≠ .row v s z xs) → v = 0) (hd : ∃ k w g, SatO w g k o) : vO (renO R v o) = v := by
  obtain ⟨k, w, g, hd⟩ := hd
  cases o with
  | cells cs => simp [renO, vO, h (by simp)]
  | row v' s z xs => rfl
  | map => simp [renO, vO, h (by simp)]
  | dead => exact hd.elim

theorem SatO.ver {k : Nat} {o : Obj} (hs : SatO w g k o) : vO o = (g.row k).1 ∧ ((∀ v s z xs, o ≠ .row v s z xs) → (g.row k).2 = .nilFunc) ∧ (∀ v s z xs, o = .row v s z xs → (g.row k).2 ≠ .nilFunc) := by
  cases o with
  | cells cs =>
    obtain ⟨c, t, _, _, _, h, _⟩ := hs
    rw [h]
    exact ⟨rfl, fun _ => rfl, fun _ _ _ _ e => by cases e⟩
  | row v s z xs =>
    obtain ⟨a, cap, h, _⟩ := hs
    rw [h]
    exact ⟨rfl, fun e => absurd rfl (e _ _ _ _), fun _ _ _ _ _ => by simp⟩
  | map =>
    obtain ⟨_, _, _, h⟩ := hs
    rw [h]
    exact ⟨rfl, fun _ => rfl, fun _ _ _ _ e => by cases e⟩
  | dead => exact hs.elim

theorem Sat.at (hS : Sat w g O) {k : Nat} (hk : k < O.length) : ∃ o, O[k]? = some o ∧ nth O k .dead = o ∧ SatO w g k o ∧ ver O k = vO o := by
  have h1 : O[k]? = some O[k] := List.getElem?_eq_getElem hk
  have h2 : nth O k .dead = O[k] := by rw [nth_eq, List.getD_eq_getElem?_getD, h1]; rfl
  refine ⟨O[k], h1, h2, hS.obj k _ h1, ?_⟩
  unfold ver vO
  rw [h2]
  try cases O[k] <;> rfl

/-- The callee's objects: those that it reaches. -/
def Gh.sub (g : Gh) (p : List Nat) : Gh :=
  { imm := g.imm, own := fun b => (g.own b).bind (idxN p), n := p.length, blk := fun i => g.blk (p.getD i 0), row := fun i => (0, (g.row (p.getD i 0)).2) }

theorem getD_of {p : List Nat} {i k : Nat} (h : p[i]? = some k) : p.getD i 0 = k := by
  rw [List.getD_eq_getElem?_getD, h]; rfl

theorem sub_renOk (hS : Sat w g O) {p : List Nat} (hp : ∀ k ∈ p, k < O.length) : RenOk g (g.sub p) (mkR O p 0) := by
  refine ⟨Imm.le_refl _, fun k k' vc vn hl hk => ?_⟩
  obtain ⟨j, hj, hr⟩ := rlook_mkR hl
  simp only [Prod.mk.injEq, Nat.zero_add] at hr
  obtain ⟨rfl, rfl, rfl⟩ := hr
  obtain ⟨o, h1, h2, h3, h4⟩ := hS.at (hp k (List.mem_of_getElem? hj))
  have hver := h3.ver.1
  have hjl : k' < p.length := (List.getElem?_eq_some_iff.1 hj).1
  refine ⟨hjl, by simp [Gh.sub, hj], fun h => ?_, fun _ => .inr ⟨rfl, by simp [Gh.sub, hj]⟩⟩
  omega

theorem Sat.sub (hS : Sat w g O) {p : List Nat} (hn : p.Nodup) (hp : ∀ k ∈ p, k < O.length) : Sat w (g.sub p) (subO (mkR O p 0) O p) := by
  refine ⟨subO_len p, hS.imm, fun i o hi => ?_, fun b i hb => ?_⟩
  · rw [subO_get] at hi
    simp only [Option.map_eq_some_iff] at hi
    obtain ⟨k, hk, rfl⟩ := hi
    obtain ⟨o, h1, h2, h3, h4⟩ := hS.at (hp k (List.mem_of_getElem? hk))
    rw [h2]
    exact SatO.ren (sub_renOk hS hp) (by simp [Gh.sub, hk]) (fun b hb => ⟨by simp [Gh.sub, hb, idxN_of hn hk], rfl⟩) (by simp [Gh.sub, hk]) (fun _ => rfl) h3
  · simp only [Gh.sub, Option.bind_eq_some_iff] at hb
    obtain ⟨k, hk, hi⟩ := hb
    exact ⟨(hS.own b k hk).1, (List.getElem?_eq_some_iff.1 (idxN_some hi)).1⟩

/-! ### Back from a call -/
def bk (p : List Nat) (n i : Nat) : Nat := if i < p.length then p.getD i 0 else n + (i - p.length)

def Gh.back (g : Gh) (O : List Obj) (p : List Nat) (gc : Gh) : Gh :=
  { imm := gc.imm,
    own := fun b => match g.own b with
      | some k => (match idxN p k with | some _ => (gc.own b).map (bk p g.n) | none => some k)
      | none => (gc.own b).map (bk p g.n)
    n := g.n + (gc.n - p.length)
    blk := fun k => if k < g.n then g.blk k else gc.blk (p.length + (k - g.n))
    row := fun k => match idxN p k with
      | some i => (backV O k (gc.row i).1, (gc.row i).2)
      | none => if k < g.n then g.row k else gc.row (p.length + (k - g.n)) }

section
variable {w' : World} {gc : Gh} {Oc : List Obj} {p : List Nat}

theorem back_own (hS : Sat w g O) (hFr : Fr w w' (g.sub p) gc) {b i : Nat} (h : gc.own b = some i) : (g.back O p gc).own b = some (bk p g.n i) := by
  simp only [Gh.back]
  cases hb : g.own b with
  | none => simp [h]
  | some k =>
    dsimp only
    cases hi : idxN p k with
    | some j => simp [h]
    | none =>
      have := hFr.own b (hS.own b k hb).1 (by simp [Gh.sub, hb, hi])
      rw [this] at h; cases h

theorem back_ver (hS : Sat w g O) (hC : Sat w' gc Oc) (hle : (g.sub p).le gc) (hp : ∀ k ∈ p, k < O.length) {i k : Nat} (hk : p[i]? = some k) :
    (g.row k).1 < backV O k (gc.row i).1 ∨ (backV O k (gc.row i).1, (gc.row i).2) = g.row k := by
  obtain ⟨o, h1, h2, h3, h4⟩ := hS.at (hp k (List.mem_of_getElem? hk))
  have hv := h3.ver.1
  have hil : i < (g.sub p).n := (List.getElem?_eq_some_iff.1 hk).1
  rcases hle.row i hil with h | h
  · left
    have : 0 < (gc.row i).1 := h
    obtain ⟨m, hm⟩ : ∃ m, (gc.row i).1 = m + 1 := ⟨(gc.row i).1 - 1, by omega⟩
    rw [hm]; simp only [backV]; omega
  · right
    rw [h]
    simp only [Gh.sub, getD_of hk, backV]
    rw [h4, hv]

theorem back_le (hS : Sat w g O) (hC : Sat w' gc Oc) (hle : (g.sub p).le gc) (hp : ∀ k ∈ p, k < O.length) : g.le (g.back O p gc) := by
  refine ⟨hle.imm, by simp [Gh.back], fun k hk => by simp [Gh.back, hk], fun k hk => ?_⟩
  simp only [Gh.back]
  cases hi : idxN p k with
  | some i =>
    exact back_ver hS hC hle hp (idxN_some hi)
  | none => right; simp [hk]

theorem back_renOk (hS : Sat w g O) (hC : Sat w' gc Oc) (hle : (g.sub p).le gc) (hn : p.Nodup) (hp : ∀ k ∈ p, k < O.length) (hpl : p.length ≤ Oc.length) :
    RenOk gc (g.back O p gc) (mkB O O.length Oc p 0) := by
  refine ⟨Imm.le_refl _, fun i k' vc vn hl hi => ?_⟩
  obtain ⟨j, o, hj, ho, hr⟩ := rlook_mkB hl
  simp only [Nat.zero_add] at hj; subst hj
  have hso := (hC.obj i o ho).ver.1
  rcases hr with ⟨k, hk, hr⟩ | ⟨hge, hr⟩
  · simp only [Prod.mk.injEq] at hr
    obtain ⟨rfl, rfl, rfl⟩ := hr
    have hkl := hp k' (List.mem_of_getElem? hk)
    have hkn : k' < g.n := by rw [← hS.n]; exact hkl
    have hil : i < (g.sub p).n := (List.getElem?_eq_some_iff.1 hk).1
    refine ⟨by simp [Gh.back]; omega, ?_, fun h => by omega, fun _ => .inr ?_⟩
    · simp only [Gh.back, if_pos hkn]
      rw [hle.blk i hil]; simp [Gh.sub, hk]
    · simp only [Gh.back, idxN_of hn hk, hso]; simp
  · simp only [Prod.mk.injEq] at hr
    obtain ⟨rfl, rfl, rfl⟩ := hr
    have hnn := hS.n
    have hno : idxN p (O.length + (i - p.length)) = none := by
      cases hx : idxN p (O.length + (i - p.length)) with
      | none => rfl
      | some j =>
        have := hp _ (List.mem_of_getElem? (idxN_some hx))
        omega
    refine ⟨by simp [Gh.back]; omega, ?_, fun h => by omega, fun _ => .inr ?_⟩
    · simp only [Gh.back]
      rw [if_neg (by omega)]
      congr 1; omega
    · simp only [Gh.back, hno]
      rw [if_neg (by omega)]
      rw [show p.length + (O.length + (i - p.length) - g.n) = i by omega]
      exact ⟨hso, rfl⟩

theorem Sat.back (hS : Sat w g O) (hC : Sat w' gc Oc) (hle : (g.sub p).le gc) (hFr : Fr w w' (g.sub p) gc) (hn : p.Nodup) (hp : ∀ k ∈ p, k < O.length) (hpl : p.length ≤ Oc.length) :
    Sat w' (g.back O p gc) (mergeO (mkB O O.length Oc p 0) O O p Oc) := by
  have hR := back_renOk hS hC hle hn hp hpl
  have hl := back_le hS hC hle hp
  obtain ⟨m1, m2, m3, m4⟩ := mergeO_get (R := mkB O O.length Oc p 0) (O := O) p Oc O hpl hn hp
  have hcn := hC.n
  have hsn := hS.n
  refine ⟨by rw [m1]; simp [Gh.back]; omega, hC.imm, fun k o hk => ?_, fun b k hb => ?_⟩
  · have hklt : k < O.length + (Oc.length - p.length) := by
      rw [← m1]; exact (List.getElem?_eq_some_iff.1 hk).1
    rcases Nat.lt_or_ge k O.length with hlt | hge
    · cases hi : idxN p k with
      | none =>
        rw [m2 k hlt (idxN_none hi)] at hk
        refine SatO.keep hl (by omega) (by simp [Gh.back, hi]; omega) (fun b hb => ?_) (hS.obj k o hk)
        have hbl := (hS.own b k hb).1
        have hno : (g.sub p).own b = none := by simp [Gh.sub, hb, hi]
        refine ⟨hFr.heap b hbl hno, by simp [Gh.back, hb, hi], hFr.imm b hbl hno⟩
      | some i =>
        have hpi := idxN_some hi
        have hil : i < p.length := (List.getElem?_eq_some_iff.1 hpi).1
        have hoi : Oc[i]? = some Oc[i] := List.getElem?_eq_getElem (by omega)
        have hm := m3 i k _ hpi hoi
        rw [hm] at hk
        simp at hk; subst hk
        have hso := hC.obj i _ hoi
        have hsv := hso.ver
        obtain ⟨ok, k1, k2, k3, k4⟩ := hS.at hlt
        refine SatO.ren hR ?_ (fun b hb => ⟨?_, rfl⟩) ?_ ?_ hso
        · simp only [Gh.back]
          rw [if_pos (by omega), hle.blk i (by simpa [Gh.sub] using hil)]
          simp [Gh.sub, hpi]
        · rw [back_own hS hFr hb]; simp only [bk]; rw [if_pos hil, getD_of hpi]
        · simp [Gh.back, hi, hsv.1]
        · intro hcs
          -- the object was no row before
          have e1 : (gc.row i).2 = .nilFunc := hsv.2.1 hcs
          have e2 : (gc.row i).1 = 0 := by rw [← hsv.1]; exact vO_not hcs
          rcases hle.row i (by simpa [Gh.sub] using hil) with h5 | h5
          · rw [e2] at h5; simp at h5
          · have e3 : (g.row k).2 = .nilFunc := by
              rw [h5] at e1; simpa [Gh.sub, hpi] using e1
            have : vO ok = 0 := by
              cases ok with
              | cells => rfl
              | row v s z xs => exact absurd e3 (k3.ver.2.2 _ _ _ _ rfl)
              | map => rfl
              | dead => rfl
            rw [hsv.1, e2]; simp only [backV]; rw [k4, this]
    · have hj : k = O.length + (k - O.length) := by omega
      have hlt2 : p.length + (k - O.length) < Oc.length := by omega
      have hoi : Oc[p.length + (k - O.length)]? = some Oc[p.length + (k - O.length)] := List.getElem?_eq_getElem hlt2
      have hm := m4 (k - O.length) _ hoi
      rw [← hj] at hm
      rw [hm] at hk
      simp at hk; subst hk
      have hso := hC.obj _ _ hoi
      have hsv := hso.ver
      have hno : idxN p k = none := by
        cases hx : idxN p k with
        | none => rfl
        | some j =>
          have := hp _ (List.mem_of_getElem? (idxN_some hx))
          omega
      have hge' : ¬ k < g.n := by omega
      have hkk : p.length + (k - g.n) = p.length + (k - O.length) := by omega
      refine SatO.ren hR ?_ (fun b hb => ⟨?_, rfl⟩) ?_ ?_ hso
      · simp only [Gh.back]; rw [if_neg hge', hkk]
      · rw [back_own hS hFr hb]; simp only [bk]; rw [if_neg (by omega)]; congr 1; omega
      · simp only [Gh.back, hno]; rw [if_neg hge', hkk, hsv.1]
      · intro hcs
        exact vO_not hcs
  · simp only [Gh.back] at hb
    have fin : ∀ i, gc.own b = some i → bk p g.n i = k → b < w'.heap.size ∧ k < (g.back O p gc).n := by
      intro i hi hk
      obtain ⟨h1, h2⟩ := hC.own b i hi
      refine ⟨h1, ?_⟩
      rw [← hk]
      simp only [Gh.back, bk]
      split
      · rename_i hil
        have := hp _ (List.mem_of_getElem? (List.getElem?_eq_getElem hil))
        rw [List.getD_eq_getElem?_getD, List.getElem?_eq_getElem hil]
        simp; omega
      · omega
    cases hgb : g.own b with
    | none =>
      rw [hgb] at hb
      simp only [Option.map_eq_some_iff] at hb
      obtain ⟨i, hi, hk⟩ := hb
      exact fin i hi hk
    | some j =>
      rw [hgb] at hb
      dsimp only at hb
      cases hij : idxN p j with
      | some i0 =>
        rw [hij] at hb
        simp only [Option.map_eq_some_iff] at hb
        obtain ⟨i, hi, hk⟩ := hb
        exact fin i hi hk
      | none =>
        rw [hij] at hb
        simp at hb; subst hb
        obtain ⟨h1, h2⟩ := hS.own b j hgb
        exact ⟨Nat.lt_of_lt_of_le h1 hFr.size, by simp [Gh.back]; omega⟩

theorem Fr.back (hS : Sat w g O) (hFr : Fr w w' (g.sub p) gc) : Fr w w' g (g.back O p gc) := by
  have hno : ∀ b, g.own b = none → (g.sub p).own b = none := fun b hb => by simp [Gh.sub, hb]
  refine ⟨hFr.size, hFr.os, hFr.tape, hFr.out, fun b hb ho => hFr.heap b hb (hno b ho), fun b hb ho => hFr.imm b hb (hno b ho), fun b hb ho => ?_⟩
  simp only [Gh.back, ho, hFr.own b hb (hno b ho), Option.map_none]
end

/-! ### Calls -/
/-- A function's call comes to a value. -/
def Gets (P : Program) (f : Nat) (args : Array Value) (w : World) (R : Value → World → Prop) : Prop :=
  (∃ u w', (callFunc f args).run P w = .ok (.value u) w' ∧ R u w') ∨
  ((callFunc f args).run P w = .ok (.enter f args) w ∧ Calls P f args w (fun e w' => ∃ u, e = .returned u ∧ R u w'))

theorem Gets.mono {f : Nat} {args : Array Value} {R R' : Value → World → Prop} (h : Gets P f args w R) (hr : ∀ u w', R u w' → R' u w') : Gets P f args w R' := by
  rcases h with ⟨u, w', h1, h2⟩ | ⟨h1, h2⟩
  · exact .inl ⟨u, w', h1, hr _ _ h2⟩
  · exact .inr ⟨h1, h2.mono fun e w' ⟨u, he, hR⟩ => ⟨u, he, hr _ _ hR⟩⟩

/-- What was there at the start is as it was. -/
structure GI (B w : World) (g : Gh) : Prop where
  size : B.heap.size ≤ w.heap.size
  tape : w.tape = B.tape
  os : w.os = B.os
  heap : ∀ b, b < B.heap.size → w.heap[b]? = B.heap[b]?
  own : ∀ b, b < B.heap.size → g.own b = none

theorem GI.fr {B w w' : World} {g g' : Gh} (h : GI B w g) (hf : Fr w w' g g') : GI B w' g' :=
  ⟨Nat.le_trans h.size hf.size, hf.tape.trans h.tape, hf.os.trans h.os, fun b hb => (hf.heap b (Nat.lt_of_lt_of_le hb h.size) (h.own b hb)).trans (h.heap b hb), fun b hb => hf.own b (Nat.lt_of_lt_of_le hb h.size) (h.own b hb)⟩

/-- A function does what its contract says. -/
def Valid (P : Program) (B : World) (f : Nat) (S : Spec) : Prop :=
  ∀ (w : World) (g : Gh) (O : List Obj) (args : List AV) (us : List Value) (Q : AV → List Obj → Prop), GI B w g → Sat w g O → (∀ k, k < g.n → (g.row k).1 = 0) → ValL g args us → S args O Q →
    Gets P f us.toArray w (fun u w' => ∃ r O' g', Q r O' ∧ Val g' r u ∧ Sat w' g' O' ∧ g.le g' ∧ Fr w w' g g')

def AllValid (P : Program) (B : World) (Γ : Ctx) : Prop := ∀ f fs, cl Γ f = some fs → Valid P B f fs.spec

theorem AllValid.nil {B : World} : AllValid P B [] := fun f fs h => by simp [cl] at h
theorem AllValid.cons {B : World} {Γ : Ctx} {f : Nat} {fs : FS} (h : Valid P B f fs.spec) (hΓ : AllValid P B Γ) : AllValid P B ((f, fs) :: Γ) := fun f' fs' h' => by
  unfold cl at h'
  split at h'
  · rename_i hb
    have := Nat.eq_of_beq_eq_true hb; subst this
    simp at h'; subst h'; exact h
  · exact hΓ f' fs' h'

theorem frzArgs_val {g' : Gh} {cs : List Nat} (hS : Sat w g' (still O cs)) {by_ : List Nat} : ∀ (xs : List AV) (us : List Value) (n : Nat), (∀ c ∈ frzRows by_ xs n, c ∈ cs) → ValL g' xs us →
    ValL g' (frzArgs O by_ xs n) us
  | [], [], _, _, _ => trivial
  | x :: xs, u :: us, n, hc, ⟨h1, h2⟩ => by
    have hr := frzArgs_val hS xs us (n + 1) (fun c h => hc c (by simp only [frzRows, ap_eq]; exact List.mem_append.2 (.inr h))) h2
    unfold frzArgs
    cases hb : hasN by_ n with
    | true => exact ⟨h1, hr⟩
    | false =>
      refine ⟨frz_val hS x u (fun c h _ => hc c ?_) h1, hr⟩
      simp only [frzRows, ap_eq, hb]
      exact List.mem_append.2 (.inl h)
  | [], _ :: _, _, _, h => h.elim
  | _ :: _, [], _, _, h => h.elim

theorem callK_sound {B : World} {Γ : Ctx} (hΓ : AllValid P B Γ) (hG : GI B w g) (hS : Sat w g O) {f : Nat} {args : List AV} {us : List Value} (hv : ValL g args us) {K : AV → List Obj → Prop} (h : callK Γ f args O K) :
    Gets P f us.toArray w (fun u w' => ∃ r O' g', K r O' ∧ Val g' r u ∧ Sat w' g' O' ∧ g.le g' ∧ Fr w w' g g') := by
  unfold callK at h
  split at h
  · exact h.elim
  · rename_i fs hf
    simp only [fOs_eq, fL_eq, fS_eq, fA_eq] at h
    obtain ⟨g1, a1, b1, c1, d1, e1, f1, o1⟩ := still_many hS (frzRows fs.byRef args 0)
    have hv1 := frzArgs_val (O := O) c1 (by_ := fs.byRef) args us 0 (fun c h => h) (ValL_mono a1 _ _ hv)
    generalize hO1 : still O (frzRows fs.byRef args 0) = O1 at *
    generalize hA1 : frzArgs O fs.byRef args 0 = args1 at *
    have hbfs := bfs_ok (O := O1) 200 (refsL O1 args1) [] (by simp) (by simp)
    generalize hp : bfs O1 200 (refsL O1 args1) [] = p at *
    obtain ⟨hn, hpl⟩ := hbfs
    have hval := hΓ f fs hf
    obtain ⟨A', X', hA, hX, h⟩ := h
    have hG1 := hG.fr b1
    refine (hval w (g1.sub p) _ _ us _ ⟨hG1.size, hG1.tape, hG1.os, hG1.heap, fun b hb => by simp [Gh.sub, hG1.own b hb]⟩ ((c1.sub hn hpl).wk hX) (fun _ _ => rfl) (hA _ _ (ren_valL (sub_renOk c1 hpl) _ _ hv1)) h).mono ?_
    rintro u w' ⟨r, Oc, gc, ⟨hlen, hK⟩, hr, hC, hle, hFr⟩
    rw [ln_eq, ln_eq] at hlen
    rw [ln_eq] at hK
    exact ⟨_, _, g1.back O1 p gc, hK, ren_val (back_renOk c1 hC hle hn hpl hlen) _ _ hr, c1.back hC hle hFr hn hpl hlen, Gh.le_trans a1 (back_le c1 hC hle hpl), b1.trans (Fr.back c1 hFr)⟩
end
end Ab

/- The frame 'Ab' is sound, thirteenth part: one operation of a region; regions that draw no order. -/
namespace Ab
open Go
set_option linter.unusedSimpArgs false
set_option linter.unusedVariables false

section
variable {P : Program} {τ : Tab} {w : World} {g : Gh} {O : List Obj}

/-- A state of a function's frame. -/
structure Fst (a : Act) (w : World) (g : Gh) (s : List AV) (O : List Obj) : Prop where
  sat : Sat w g O
  val : ValL g s a.tmps.toList
  dfr : a.defers = []

theorem Val_cv (g : Gh) (v : Value) : Val g (cv v) v := by
  cases v <;> simp [cv, Val, DVal, oneV]
  · rename_i b; cases b <;> simp [Val]

theorem Fst.eval {a : Act} {s : List AV} (h : Fst a w g s O) (x : Operand) : Val g (evo s x) (a.eval x) := by
  cases x with
  | tmp t =>
    have := ValL_get h.val t
    simp only [evo, nth_eq, Act.eval]
    rw [show a.tmps.getD t undef = a.tmps.toList.getD t undef by simp [Array.getD_eq_getD_getElem?, List.getD_eq_getElem?_getD]]
    exact this
  | const v => exact Val_cv g v
  | global b => exact ⟨rfl, rfl⟩
  | func f => exact ⟨[], rfl, trivial⟩

theorem Fst.put {a : Act} {s : List AV} {w' : World} {g' : Gh} {O' : List Obj} (h : Fst a w g s O) (hS : Sat w' g' O') (hl : g.le g') {v : AV} {u : Value} (hv : Val g' v u) (d : Option Nat) {k : List AV → Prop}
    (hk : putK s d v k) : ∃ s', k s' ∧ Fst (a.put d u) w' g' s' O' := by
  cases d with
  | none => exact ⟨s, hk, hS, ValL_mono hl _ _ h.val, h.dfr⟩
  | some d =>
    simp only [putK, stK_eq] at hk
    refine ⟨_, hk, hS, ?_, h.dfr⟩
    simp only [Act.put, Array.toList_setIfInBounds]
    exact ValL_set (ValL_mono hl _ _ h.val) d hv

theorem args_vals {e : Operand → AV} {ev : Operand → Value} (he : ∀ x, Val g (e x) (ev x)) : ∀ (xs : List Operand), ValL g (xs.map e) (xs.map ev)
  | [] => trivial
  | x :: xs => ⟨he x, args_vals he xs⟩

/-- One operation, carried out. -/
theorem op_sound (hτ : Tok P τ) {B : World} {Γ : Ctx} (hΓ : AllValid P B Γ) (hG : GI B w g) (hS : Sat w g O) {a : Act} {e : Operand → AV} (he : ∀ x, Val g (e x) (a.eval x)) (o : Oper) {K : AV → List Obj → Prop}
    (h : opK τ Γ o.op e O K) {next : Act → World → Prop} {Q : Exit → Act → World → Prop}
    (hn : ∀ v u O' w' g', K v O' → Val g' v u → Sat w' g' O' → g.le g' → Fr w w' g g' → next (a.put o.dst u) w') : o.wp P a w next Q := by
  unfold opK at h
  split at h
  · rename_i heff
    by_cases hnc : notCall o.op = true
    · obtain ⟨v, O', u, w', g', hK, hv, hS', hl, hf, hr⟩ := eff_sound hτ hS he o hnc h
      rw [fA_eq] at hK
      unfold Oper.wp
      rcases hr with hr | ⟨hr, rfl⟩
      · rw [hr]; exact hn v u O' w' g' hK hv hS' hl hf
      · rw [hr]; exact hn v undef O' w' g' hK hv hS' hl hf
    · obtain ⟨dst, op, ty, pos, aft, gd⟩ := o
      dsimp only at h hnc heff ⊢
      cases op <;> try (exact absurd rfl hnc)
      rename_i c
      obtain ⟨callee, args, ats⟩ := c
      cases callee with
      | builtin b => exact absurd rfl hnc
      | invoke r m => exact absurd rfl hnc
      | value f =>
        simp only [effK] at h
        split at h
        · rename_i n caps hf
          have hfv := he f
          rw [hf] at hfv
          obtain ⟨us, hu, hus⟩ := hfv
          rw [ap_eq, mp1_eq] at h
          have hargs := ValL_append (args_vals he args.toList) hus
          have hg := callK_sound hΓ hG hS hargs h
          have hex : execOp a.eval { dst := dst, op := .call { callee := .value f, args := args, argTypes := ats }, type := ty, pos := pos, after := aft, guard := gd } = callFunc n (args.toList.map a.eval ++ us).toArray := by
            simp only [execOp, resolve, hu, Deferred.ofValue]
            have : (#[] ++ args.map a.eval) ++ us.toArray = (args.toList.map a.eval ++ us).toArray := by
              apply Array.ext'; simp
            rw [← this]
            rfl
          unfold Oper.wp
          rw [hex]
          rcases hg with ⟨u, w', h1, v, O', g', hK, hv, hS', hl, hf⟩ | ⟨h1, h2⟩
          · rw [h1]
            rw [fA_eq] at hK
            exact hn v u O' w' g' hK hv hS' hl hf
          · rw [h1]
            refine h2.mono ?_
            rintro e' w' ⟨u, rfl, v, O', g', hK, hv, hS', hl, hf⟩
            rw [fA_eq] at hK
            exact hn v u O' w' g' hK hv hS' hl hf
        · exact h.elim
  · obtain ⟨v, u, hK, hv, hr⟩ := evK_sound hτ hS he (fun _ => rfl) (fun _ => rfl) o h
    rw [fA_eq] at hK
    unfold Oper.wp
    rw [hr]
    exact hn v u O w g hK hv hS (Gh.le_refl g) (Fr.refl w g)

/-! ### Guards -/
theorem gd_slot {all : List Oper} {a : Act} {s : List AV} (hv : ValL g s a.tmps.toList) {j d : Nat} (hj : Nat.blt j (ln all) = true) (hd : (nth all j noOper).dst = some d) :
    yielded all.toArray a.tmps j = (match a.tmps.toList.getD d undef with | .bool b => some b | _ => none) := by
  have hlt : j < all.length := by have := Nat.le_of_ble_eq_true hj; rw [ln_eq] at this; omega
  have h1 : all[j]? = some (nth all j noOper) := by
    rw [nth_eq, List.getD_eq_getElem?_getD, List.getElem?_eq_getElem hlt]; rfl
  unfold yielded
  simp only [List.getElem?_toArray, h1, Option.bind_some, hd]
  rw [List.getD_eq_getElem?_getD]
  cases h : a.tmps.toList[d]? with
  | none =>
    have : a.tmps[d]? = none := by simpa using h
    simp [this, undef]
  | some v =>
    have : a.tmps[d]? = some v := by simpa using h
    simp [this]
    cases v <;> rfl

theorem noBool {g : Gh} {u v : Value} (h : oneB u = false) (hv : Val g (.d (.v u)) v) : (match v with | .bool b => some b | _ => (none : Option Bool)) = none := by
  have : v = u := hv.1
  rw [this]
  cases u <;> simp_all [oneB]

/-- Whether an operation is wanted. -/
theorem gdK_sound {all : List Oper} {a : Act} {s : List AV} (h : Fst a w g s O) (o : Oper) {k : Bool → List AV → Prop} (hk : gdK all s o k) :
    ∃ s', k (Region.wanted o (yielded all.toArray a.tmps)) s' ∧ Fst a w g s' O := by
  unfold gdK at hk
  split at hk
  · rename_i hg
    exact ⟨s, by simpa [Region.wanted, hg] using hk, h⟩
  · rename_i j want hg
    split at hk
    · exact hk.elim
    · rename_i hj
      split at hk
      · exact hk.elim
      · rename_i d hd
        have hy := gd_slot h.val hj hd
        have hsl := ValL_get h.val d
        have hnth : nth s d .junk = s.getD d .junk := nth_eq _ _ _
        have hw : Region.wanted o (yielded all.toArray a.tmps) = (yielded all.toArray a.tmps j == some want) := by simp [Region.wanted, hg]
        rw [hw, hy]
        split at hk
        · rename_i hn
          rw [hnth] at hn; rw [hn] at hsl
          have : a.tmps.toList.getD d undef = undef := hsl
          exact ⟨s, by rw [this]; simpa [undef] using hk, h⟩
        · rename_i hn
          rw [hnth] at hn; rw [hn] at hsl
          have : a.tmps.toList.getD d undef = .bool true := hsl
          refine ⟨s, ?_, h⟩
          rw [this]; cases want <;> simpa using hk
        · rename_i hn
          rw [hnth] at hn; rw [hn] at hsl
          have : a.tmps.toList.getD d undef = .bool false := hsl
          refine ⟨s, ?_, h⟩
          rw [this]; cases want <;> simpa using hk
        · rename_i x hn
          rw [hnth] at hn; rw [hn] at hsl
          have hx : a.tmps.toList.getD d undef = .bool x := hsl
          have hset : ∀ (y : AV), Val g y (.bool x) → Fst a w g (s.set d y) O := by
            intro y hy
            refine ⟨h.sat, ?_, h.dfr⟩
            have := ValL_set h.val d hy
            have he : a.tmps.toList.set d (.bool x) = a.tmps.toList := by
              apply List.ext_getElem?
              intro i
              rw [List.getElem?_set]
              split
              · rename_i hdi; subst hdi
                split
                · rename_i hlt
                  rw [List.getElem?_eq_getElem hlt]
                  rw [List.getD_eq_getElem?_getD, List.getElem?_eq_getElem hlt] at hx
                  simp at hx
                  simp [hx]
                · rename_i hlt
                  rw [List.getElem?_eq_none (by omega)]
              · rfl
            rwa [he] at this
          cases x with
          | true =>
            have := hk.t rfl
            rw [stK_eq] at this
            refine ⟨_, ?_, hset .tt rfl⟩
            rw [hx]; cases want <;> simpa using this
          | false =>
            have := hk.f rfl
            rw [stK_eq] at this
            refine ⟨_, ?_, hset .ff rfl⟩
            rw [hx]; cases want <;> simpa using this
        · rename_i u hn
          rw [hnth] at hn; rw [hn] at hsl
          split at hk
          · exact hk.elim
          · rename_i hb
            refine ⟨s, ?_, h⟩
            rw [noBool hb hsl]; simpa using hk
        · exact hk.elim

/-! ### A region in its own order -/
theorem opsG_sound (hτ : Tok P τ) {B : World} {Γ : Ctx} (hΓ : AllValid P B Γ) {all : List Oper} {Q : Exit → Act → World → Prop} {w0 : World} {g0 : Gh} (hG : GI B w0 g0) {K : List AV → List Obj → Prop}
    (hQ : ∀ a w g s O, K s O → Fst a w g s O → g0.le g → Fr w0 w g0 g → Q .normal a w) :
    ∀ (ops : List Oper) (a : Act) (w : World) (g : Gh) (s : List AV) (O : List Obj), Fst a w g s O → g0.le g → Fr w0 w g0 g → opsG τ Γ all ops s O K → wpList P all.toArray Q ops a w
  | [], a, w, g, s, O, hs, hl, hf, h => hQ a w g s O h hs hl hf
  | o :: ops, a, w, g, s, O, hs, hl, hf, h => by
    rw [opsG_cons] at h
    obtain ⟨s1, h, hs1⟩ := gdK_sound hs o h
    unfold wpList
    cases hw : Region.wanted o (yielded all.toArray a.tmps) with
    | true =>
      rw [hw] at h
      simp only [if_true]
      refine .inl (op_sound hτ hΓ (hG.fr hf) hs1.sat hs1.eval o h ?_)
      intro v u O' w' g' hK hv hS' hl' hf'
      obtain ⟨s', hk, hs'⟩ := hs1.put hS' hl' hv o.dst hK
      exact opsG_sound hτ hΓ hG hQ ops _ _ g' s' O' hs' (Gh.le_trans hl hl') (hf.trans hf') hk
    | false =>
      rw [hw] at h
      simp only [Bool.false_eq_true, if_false]
      obtain ⟨s', hk, hs'⟩ := hs1.put hs1.sat (Gh.le_refl g) (v := .und) (u := undef) rfl o.dst h
      exact opsG_sound hτ hΓ hG hQ ops _ _ g s' O hs' hl hf hk
end
end Ab

/- The frame 'Ab' is sound, fourteenth part: what a reading operation yields, apart from what follows; the order of a region. -/
namespace Ab
open Go
set_option linter.unusedSimpArgs false
set_option linter.unusedVariables false

section
variable {P : Program} {τ : Tab} {O : List Obj} {e : Operand → AV} {K : AV → Prop}

/-- A continuation that is reached with one value. -/
def Inv1 (R : (AV → Prop) → Prop) : Prop := ∀ K, R K → ∃ v, K v ∧ ∀ K' : AV → Prop, K' v → R K'

theorem Inv1.k (v : AV) : Inv1 fun K => K v := fun K h => ⟨v, h, fun _ h' => h'⟩
theorem Inv1.no : Inv1 fun _ => False := fun K h => h.elim
theorem Inv1.rng {k : IntKind} {n : Int} {R : (AV → Prop) → Prop} (h : Inv1 R) : Inv1 fun K => Rng k n (R K) := fun K ⟨h1, h2, h3⟩ => by
  obtain ⟨v, h4, h5⟩ := h K h3
  exact ⟨v, h4, fun K' h' => ⟨h1, h2, h5 K' h'⟩⟩
theorem Inv1.req {c : Prop} {R : (AV → Prop) → Prop} (h : Inv1 R) : Inv1 fun K => Req c (R K) := fun K ⟨h1, h3⟩ => by
  obtain ⟨v, h4, h5⟩ := h K h3
  exact ⟨v, h4, fun K' h' => ⟨h1, h5 K' h'⟩⟩
theorem Inv1.ex {α : Type} {p : α → Prop} {R : α → (AV → Prop) → Prop} (h : ∀ x, Inv1 (R x)) : Inv1 fun K => ∃ x, p x ∧ R x K := fun K ⟨x, h1, h3⟩ => by
  obtain ⟨v, h4, h5⟩ := h x K h3
  exact ⟨v, h4, fun K' h' => ⟨x, h1, h5 K' h'⟩⟩
theorem Inv1.bnd {len : Nat} {lo hi : Option AV} {R : Nat → Nat → (AV → Prop) → Prop} (h : ∀ a b, Inv1 (R a b)) : Inv1 fun K => bndK len lo hi fun a b => R a b K := by
  unfold bndK
  split
  · exact h _ _
  · split
    · exact (h _ _).req
    · exact .no
  · split
    · exact (h _ _).req
    · exact .no
  · split
    · exact (h _ _).req
    · exact .no
theorem Inv1.fDs {r : List DV} {R : List DV → (AV → Prop) → Prop} (h : ∀ x, Inv1 (R x)) : Inv1 fun K => fDs r fun r' => R r' K := by
  simp only [fDs_eq]; exact h r
theorem Inv1.load {t : Nat} {cs : List AV} : Inv1 fun K => loadK τ t cs K := by
  unfold loadK
  dsimp only
  split
  · split
    · exact .k _
    · split
      · exact .k _
      · exact .no
  · exact .no
theorem Inv1.int {op : BinOp} {k : IntKind} {a b : Int} : Inv1 fun K => intK op k a b K := by
  cases op <;> unfold intK <;> first | exact .k _ | exact (Inv1.k _).rng | exact (Inv1.k _).rng.req | exact (Inv1.k _).req | exact .no
theorem Inv1.str {op : BinOp} {a b : List UInt8} : Inv1 fun K => strK op a b K := by
  cases op <;> unfold strK <;> first | exact .k _ | exact (Inv1.k _).req | exact .no

theorem evK_inv1 (o : Op) : Inv1 fun K => evK τ o e O K := by
  cases o <;> try exact .no
  all_goals unfold evK
  all_goals try exact .k _
  case binOp op t x y u =>
    dsimp only
    split
    · unfold nilK
      (repeat' split) <;> first | exact .k _ | exact .no
    · unfold binK
      split
      · split
        · exact .int
        · exact .no
      · exact .str
      · unfold boolK
        (repeat' split) <;> first | exact .k _ | exact .no
  all_goals dsimp only
  all_goals (repeat' split)
  all_goals first
    | exact .k _
    | exact .no
    | exact .load
    | exact (Inv1.k _).rng
    | exact (Inv1.k _).req
    | exact Inv1.ex fun _ => .load
    | exact (Inv1.ex fun _ => Inv1.k _).req
    | exact (Inv1.ex fun _ => Inv1.fDs fun _ => Inv1.k _).req
    | exact Inv1.bnd fun _ _ => Inv1.k _

theorem evK_nl {o : Op} (h : isLoad o = false) (O' : List Obj) (hk : evK τ o e O K) : evK τ o e O' K := by
  cases o <;> first | exact hk | cases h

/-! ### Lists of data that are made in a region -/
mutual
theorem toD_nil {O : List Obj} : ∀ {x : AV} {d : DV}, toD (frz [] (fun _ => false) x) = some d → toD (frz O (fun _ => false) x) = some d ∧ rowsIn x = []
  | .row c v, d, h => by simp [frz, rowOf, nth, toD] at h
  | .agg cs, d, h => by simp [frz, toD] at h
  | .tup cs, d, h => by simp [frz, toD] at h
  | .fn f cs, d, h => by simp [frz, toD] at h
  | .ifc t (.agg cs), d, h => by
    simp only [frz, toD] at h ⊢
    split at h
    · rename_i ds hds
      have := toDs_nil (O := O) hds
      rw [this.1]
      exact ⟨h, by simp only [rowsIn]; exact this.2⟩
    · cases h
  | .ifc t (.row c v), d, h => by simp [frz, rowOf, nth, toD] at h
  | .ifc t (.tup cs), d, h => by simp [frz, toD] at h
  | .ifc t (.fn f cs), d, h => by simp [frz, toD] at h
  | .ifc t (.ifc u x), d, h => by
    have e : ∀ O : List Obj, frz O (fun _ => false) (.ifc t (.ifc u x)) = .ifc t (.ifc u (frz O (fun _ => false) x)) := fun O => by simp [frz]
    have e2 : ∀ O : List Obj, frz O (fun _ => false) (.ifc u x) = .ifc u (frz O (fun _ => false) x) := fun O => by simp [frz]
    rw [e] at h ⊢
    rw [toD.eq_def] at h ⊢
    dsimp only at h ⊢
    split at h
    · rename_i d' hd'
      have := toD_nil (O := O) (x := .ifc u x) (d := d') (by rw [e2]; exact hd')
      rw [e2] at this
      rw [this.1]
      exact ⟨h, by simp only [rowsIn] at this ⊢; exact this.2⟩
    · cases h
  | .ifc t (.d x), d, h => ⟨by simpa [frz] using h, by simp [rowsIn]⟩
  | .ifc t .tt, d, h => ⟨by simpa [frz] using h, by simp [rowsIn]⟩
  | .ifc t .ff, d, h => ⟨by simpa [frz] using h, by simp [rowsIn]⟩
  | .ifc t (.ptr _ _), d, h => ⟨by simpa [frz] using h, by simp [rowsIn]⟩
  | .ifc t (.da _), d, h => ⟨by simpa [frz] using h, by simp [rowsIn]⟩
  | .ifc t (.ra _ _ _ _ _), d, h => ⟨by simpa [frz] using h, by simp [rowsIn]⟩
  | .ifc t (.mp _), d, h => ⟨by simpa [frz] using h, by simp [rowsIn]⟩
  | .ifc t .und, d, h => ⟨by simpa [frz] using h, by simp [rowsIn]⟩
  | .ifc t .junk, d, h => ⟨by simpa [frz] using h, by simp [rowsIn]⟩
  | .d x, d, h => ⟨by simpa [frz] using h, by simp [rowsIn]⟩
  | .tt, d, h => ⟨by simpa [frz] using h, by simp [rowsIn]⟩
  | .ff, d, h => ⟨by simpa [frz] using h, by simp [rowsIn]⟩
  | .ptr _ _, d, h => ⟨by simpa [frz] using h, by simp [rowsIn]⟩
  | .da _, d, h => ⟨by simpa [frz] using h, by simp [rowsIn]⟩
  | .ra _ _ _ _ _, d, h => ⟨by simpa [frz] using h, by simp [rowsIn]⟩
  | .mp _, d, h => ⟨by simpa [frz] using h, by simp [rowsIn]⟩
  | .und, d, h => ⟨by simpa [frz] using h, by simp [rowsIn]⟩
  | .junk, d, h => ⟨by simpa [frz] using h, by simp [rowsIn]⟩
theorem toDs_nil {O : List Obj} : ∀ {xs : List AV} {ds : List DV}, toDs (frzL [] (fun _ => false) xs) = some ds → toDs (frzL O (fun _ => false) xs) = some ds ∧ rowsInL xs = []
  | [], ds, h => ⟨by simpa [frzL] using h, by simp [rowsInL]⟩
  | x :: xs, ds, h => by
    simp only [frzL, toDs] at h ⊢
    split at h
    · rename_i d hd
      split at h
      · rename_i ds' hds
        have h1 := toD_nil (O := O) hd
        have h2 := toDs_nil (O := O) hds
        rw [h1.1, h2.1]
        exact ⟨h, by simp [rowsInL, h1.2, h2.2, ap]⟩
      · cases h
    · cases h
end

theorem rows_of_cells {x : AV} (h : rowsInL (cellsA x) = []) : rowsIn x = [] := by
  cases x with
  | agg cs => simpa [cellsA, rowsIn] using h
  | row c v => simp [cellsA, rowsInL, rowsIn, ap] at h
  | tup cs => simpa [cellsA, rowsInL, rowsIn, ap_eq] using h
  | fn f cs => simpa [cellsA, rowsInL, rowsIn, ap_eq] using h
  | ifc t x => simpa [cellsA, rowsInL, rowsIn, ap_eq] using h
  | _ => simp [rowsIn]

theorem fillR_nil {O : List Obj} {e : Operand → AV} {z : Nat} : ∀ {ps : List (Nat × Operand)} {rows xs : List (List DV)}, fillR [] e z rows ps = some xs → fillR O e z rows ps = some xs ∧ rowsParts e ps = []
  | [], rows, xs, h => ⟨by simpa [fillR] using h, rfl⟩
  | (i, x) :: r, rows, xs, h => by
    unfold fillR at h ⊢
    split at h
    · cases h
    · rename_i h1
      split at h
      · cases h
      · rename_i h2
        split at h
        · rename_i ds hds
          have h3 := toDs_nil (O := O) hds
          have h4 := fillR_nil (O := O) h
          have e3 : dats O (cellsA (e x)) = some ds := h3.1
          rw [e3]
          exact ⟨h4.1, by simp [rowsParts, rows_of_cells h3.2, h4.2, ap]⟩
        · cases h

theorem litK_eff {τ : Tab} {Γ : Ctx} {e : Operand → AV} {O : List Obj} {t n : Nat} {parts : Array (Nat × Operand)} {K : AV → List Obj → Prop} (h : litK τ t n parts e (fun v => K v O)) :
    effK τ Γ (.buildSlice t n parts) e O K := by
  unfold litK at h
  unfold effK
  dsimp only
  split at h
  · rename_i m hk hs
    split at h
    · rename_i hb
      split at h
      · rename_i xs hxs
        rw [fRows_eq] at h
        have h1 := fillR_nil (O := O) hxs
        rw [h1.1]
        dsimp only
        rw [fRows_eq, fOs_eq, h1.2, still_nil]
        exact .inl h
      · exact h.elim
    · exact h.elim
  · exact h.elim

theorem sliceD_eff {τ : Tab} {Γ : Ctx} {e : Operand → AV} {O : List Obj} {t : Nat} {x : Operand} {lo hi mx : Option Operand} {K : AV → List Obj → Prop} (h : sliceD τ t x lo hi mx e (fun v => K v O)) :
    effK τ Γ (.slice t x lo hi mx) e O K := by
  unfold sliceD at h
  unfold effK
  dsimp only
  split at h
  · split at h
    · rename_i hx
      split at h
      · rename_i hz
        rw [hx]
        dsimp only
        rw [hz]
        exact h
      · exact h.elim
    · exact h.elim
  · exact h.elim

theorem opKD_op {τ : Tab} {lt : Bool} {Γ : Ctx} {o : Op} {e : Operand → AV} {O : List Obj} {K : AV → List Obj → Prop} (h : opKD τ lt Γ o e O K) : opK τ Γ o e O K := by
  cases lt with
  | false => exact h
  | true =>
    cases o with
    | buildSlice t n parts => exact litK_eff (Γ := Γ) (K := fun v O' => fA v fun v' => K v' O') h
    | slice t x lo hi mx =>
      unfold opKD isEffD evKD at h
      dsimp only at h
      unfold opK isEff
      dsimp only
      split at h
      · exact h
      · rename_i hk
        split
        · exact sliceD_eff (Γ := Γ) (K := fun v O' => fA v fun v' => K v' O') h
        · rename_i heq
          exact absurd heq (by simp)
    | _ => exact h

theorem evKD_op {τ : Tab} {lt : Bool} {Γ : Ctx} {o : Op} {e : Operand → AV} {O : List Obj} {K : AV → Prop} (he : isEffD τ lt o = false) (h : evKD τ lt o e O K) :
    opK τ Γ o e O (fun v O' => K v ∧ O' = O) := by
  refine opKD_op (lt := lt) ?_
  unfold opKD
  rw [he]
  dsimp only
  have : (fun v => fA v fun v' => K v' ∧ O = O) = K := by
    funext v; rw [fA_eq]; simp
  rw [this]; exact h

theorem evKD_inv1 {τ : Tab} {lt : Bool} {e : Operand → AV} {O : List Obj} (o : Op) : Inv1 fun K => evKD τ lt o e O K := by
  cases lt with
  | false => exact evK_inv1 o
  | true =>
    cases o with
    | buildSlice t n parts =>
      unfold evKD litK
      dsimp only
      (repeat' split) <;> first | exact .no | (simp only [fRows_eq]; exact .k _)
    | slice t x lo hi mx =>
      unfold evKD
      dsimp only
      split
      · exact evK_inv1 _
      · unfold sliceD
        (repeat' split) <;> first | exact .no | exact .bnd fun _ _ => .k _
    | _ => unfold evKD; dsimp only; exact evK_inv1 _

theorem evKD_nl {τ : Tab} {lt : Bool} {e : Operand → AV} {O : List Obj} {K : AV → Prop} {o : Op} (h : isLoad o = false) (O' : List Obj) (hk : evKD τ lt o e O K) : evKD τ lt o e O' K := by
  cases lt with
  | false => exact evK_nl h O' hk
  | true =>
    cases o with
    | buildSlice t n parts => exact hk
    | slice t x lo hi mx =>
      unfold evKD at hk ⊢
      dsimp only at hk ⊢
      split at hk
      · exact evK_nl (τ := τ) (O := O) (e := e) (K := K) h O' hk
      · exact hk
    | _ => exact evK_nl (τ := τ) (O := O) (e := e) (K := K) h O' hk

/-! ### The order of a region -/
theorem uni_mem : ∀ {xs ys : List Nat} {n : Nat}, n ∈ uni xs ys ↔ n ∈ xs ∨ n ∈ ys
  | [], ys, n => by simp [uni]
  | x :: xs, ys, n => by
    unfold uni
    split
    · rename_i h
      rw [uni_mem]
      have := (hasN_iff _ _).1 h
      constructor
      · rintro (h | h)
        · exact .inl (List.mem_cons_of_mem _ h)
        · exact .inr h
      · rintro (h | h)
        · rcases List.mem_cons.1 h with rfl | h
          · exact .inr this
          · exact .inl h
        · exact .inr h
    · rw [uni_mem]; simp only [List.mem_cons]
      constructor
      · rintro (h | h | h) <;> simp [h]
      · rintro ((h | h) | h) <;> simp [h]

theorem close_mem {acc : List (List Nat)} : ∀ {js : List Nat} {n : Nat}, n ∈ close acc js ↔ ∃ j ∈ js, n = j ∨ n ∈ nth acc j []
  | [], n => by simp [close]
  | j :: js, n => by
    simp only [close, uni_mem, List.mem_cons, close_mem (js := js)]
    constructor
    · rintro ((h | h) | ⟨j', h1, h2⟩)
      · exact ⟨j, .inl rfl, .inl h⟩
      · exact ⟨j, .inl rfl, .inr h⟩
      · exact ⟨j', .inr h1, h2⟩
    · rintro ⟨j', rfl | h1, h2⟩
      · exact .inl h2
      · exact .inr ⟨j', h1, h2⟩

theorem nth_append_left {α : Type} {d : α} {l m : List α} {n : Nat} (h : n < l.length) : nth (l ++ m) n d = nth l n d := by
  simp only [nth_eq, List.getD_eq_getElem?_getD]
  rw [List.getElem?_append_left h]

theorem preds_prefix : ∀ (ops : List Oper) (acc : List (List Nat)), ∃ rest, preds ops acc = acc ++ rest ∧ rest.length = ops.length ∧
    ∀ i o, ops[i]? = some o → ∀ x, x ∈ nth (preds ops acc) (acc.length + i) [] ↔ ∃ j ∈ after1 o.after.toList, x = j ∨ (j < acc.length + i ∧ x ∈ nth (preds ops acc) j [])
  | [], acc => ⟨[], by simp [preds], rfl, fun i o h => by simp at h⟩
  | o :: ops, acc => by
    have hp : preds (o :: ops) acc = preds ops (acc ++ [close acc (after1 o.after.toList)]) := by simp [preds, ap_eq]
    obtain ⟨rest, h1, h2, h3⟩ := preds_prefix ops (acc ++ [close acc (after1 o.after.toList)])
    refine ⟨close acc (after1 o.after.toList) :: rest, by rw [hp, h1]; simp, by simp [h2], fun i o' hi x => ?_⟩
    cases i with
    | zero =>
      simp at hi; subst hi
      rw [hp, h1]
      have e1 : nth (acc ++ [close acc (after1 o.after.toList)] ++ rest) (acc.length + 0) [] = close acc (after1 o.after.toList) := by
        simp [nth_eq, List.getD_eq_getElem?_getD]
      rw [e1, close_mem]
      constructor
      · rintro ⟨j, hj, h | h⟩
        · exact ⟨j, hj, .inl h⟩
        · have hlt : j < acc.length := by
            rcases Nat.lt_or_ge j acc.length with h' | h'
            · exact h'
            · rw [nth_eq, List.getD_eq_getElem?_getD, List.getElem?_eq_none h'] at h; simp at h
          refine ⟨j, hj, .inr ⟨by omega, ?_⟩⟩
          rw [List.append_assoc, nth_append_left hlt]; exact h
      · rintro ⟨j, hj, h | ⟨h0, h⟩⟩
        · exact ⟨j, hj, .inl h⟩
        · rw [List.append_assoc, nth_append_left (by omega)] at h
          exact ⟨j, hj, .inr h⟩
    | succ i =>
      have := h3 i o' (by simpa using hi) x
      rw [hp]
      simp only [List.length_append, List.length_singleton] at this
      rw [show acc.length + (i + 1) = acc.length + 1 + i by omega]
      exact this

theorem mem_preds {ops : List Oper} {i : Nat} {o : Oper} (h : ops[i]? = some o) {x : Nat} :
    x ∈ nth (preds ops []) i [] ↔ ∃ j ∈ after1 o.after.toList, x = j ∨ (j < i ∧ x ∈ nth (preds ops []) j []) := by
  obtain ⟨rest, _, _, h3⟩ := preds_prefix ops []
  simpa using h3 i o h x

theorem mem_after1 : ∀ {es : List Edge} {j : Nat}, j ∈ after1 es ↔ ∃ e ∈ es, Region.binds .any e = true ∧ e.on = j
  | [], j => by simp [after1]
  | e :: es, j => by
    unfold after1
    split
    · rename_i h
      simp only [List.mem_cons, mem_after1 (es := es)]
      constructor
      · rintro (h' | ⟨e', h1, h2, h3⟩)
        · exact ⟨e, .inl rfl, h, h'.symm⟩
        · exact ⟨e', .inr h1, h2, h3⟩
      · rintro ⟨e', rfl | h1, h2, h3⟩
        · exact .inl h3.symm
        · exact .inr ⟨e', h1, h2, h3⟩
    · rename_i h
      simp only [mem_after1 (es := es), List.mem_cons]
      constructor
      · rintro ⟨e', h1, h2⟩
        exact ⟨e', .inr h1, h2⟩
      · rintro ⟨e', rfl | h1, h2, h3⟩
        · rw [h2] at h; cases h
        · exact ⟨e', h1, h2, h3⟩

theorem allIn_iff {D : List Nat} : ∀ {js : List Nat}, allIn D js = true ↔ ∀ j ∈ js, j ∈ D
  | [] => by simp [allIn]
  | j :: js => by
    unfold allIn
    split
    · rename_i h
      simp [allIn_iff (js := js), (hasN_iff _ _).1 h]
    · rename_i h
      simp only [Bool.false_eq_true, false_iff]
      intro h'
      have := (hasN_iff _ _).2 (h' j (by simp))
      rw [this] at h; cases h

theorem mem_upto : ∀ {n i k : Nat}, k ∈ upto n i ↔ i ≤ k ∧ k < i + n
  | 0, i, k => by simp [upto]
  | n + 1, i, k => by
    simp only [upto, List.mem_cons, mem_upto (n := n)]
    omega

theorem mem_sucs : ∀ {ops : List Oper} {ps : List (List Nat)} {i t : Nat}, t ∈ sucs ops ps i → ∃ j o, ops[j]? = some o ∧ o.dst = some t ∧ i ∈ nth ps j []
  | [], ps, i, t, h => by cases ps <;> simp [sucs] at h
  | o :: os, [], i, t, h => by simp [sucs] at h
  | o :: os, p :: ps, i, t, h => by
    unfold sucs at h
    split at h
    · rename_i hp
      split at h
      · rename_i d hd
        rcases List.mem_cons.1 h with rfl | h
        · exact ⟨0, o, rfl, hd, (hasN_iff _ _).1 hp⟩
        · obtain ⟨j, o', h1, h2, h3⟩ := mem_sucs h
          exact ⟨j + 1, o', by simpa using h1, h2, h3⟩
      · obtain ⟨j, o', h1, h2, h3⟩ := mem_sucs h
        exact ⟨j + 1, o', by simpa using h1, h2, h3⟩
    · obtain ⟨j, o', h1, h2, h3⟩ := mem_sucs h
      exact ⟨j + 1, o', by simpa using h1, h2, h3⟩

theorem mem_outs : ∀ {ops : List Oper} {D : List Nat} {i0 t : Nat}, t ∈ outs ops D i0 ↔ ∃ (i : Nat) (o : Oper), ops[i]? = some o ∧ o.dst = some t ∧ i0 + i ∉ D
  | [], D, i0, t => by simp [outs]
  | o :: ops, D, i0, t => by
    have key : (∃ (i : Nat) (o' : Oper), (o :: ops)[i]? = some o' ∧ o'.dst = some t ∧ i0 + i ∉ D) ↔
        (o.dst = some t ∧ i0 ∉ D) ∨ ∃ (i : Nat) (o' : Oper), ops[i]? = some o' ∧ o'.dst = some t ∧ (i0 + 1) + i ∉ D := by
      constructor
      · rintro ⟨i, o', h1, h2, h3⟩
        cases i with
        | zero => simp at h1; subst h1; exact .inl ⟨h2, by simpa using h3⟩
        | succ i => exact .inr ⟨i, o', by simpa using h1, h2, by rw [show i0 + 1 + i = i0 + (i + 1) by omega]; exact h3⟩
      · rintro (⟨h1, h2⟩ | ⟨i, o', h1, h2, h3⟩)
        · exact ⟨0, o, by simp, h1, by simpa using h2⟩
        · exact ⟨i + 1, o', by simpa using h1, h2, by rw [show i0 + (i + 1) = i0 + 1 + i by omega]; exact h3⟩
    rw [key]
    unfold outs
    split
    · rename_i hd
      rw [mem_outs]; simp [hd]
    · rename_i d hd
      split
      · rename_i h
        have := (hasN_iff _ _).1 h
        rw [mem_outs]; simp [this]
      · rename_i h
        have : i0 ∉ D := fun h' => by rw [(hasN_iff _ _).2 h'] at h; cases h
        rw [List.mem_cons, mem_outs]; simp [hd, this, eq_comm]

theorem dstOk_spec {n : Nat} : ∀ {ops : List Oper} {T : List Nat}, dstOk n ops T = true →
    (∀ (i : Nat) (o : Oper) d, ops[i]? = some o → o.dst = some d → d < n ∧ d ∉ T) ∧
    (∀ (i j : Nat) (o o' : Oper) d, ops[i]? = some o → ops[j]? = some o' → o.dst = some d → o'.dst = some d → i = j)
  | [], T, _ => ⟨fun i o d h => by simp at h, fun i j o o' d h => by simp at h⟩
  | x :: ops, T, h => by
    unfold dstOk at h
    split at h
    · rename_i hx
      obtain ⟨h1, h2⟩ := dstOk_spec h
      refine ⟨fun i o d hi hd => ?_, fun i j o o' d hi hj hd hd' => ?_⟩
      · cases i with
        | zero => simp at hi; subst hi; rw [hx] at hd; cases hd
        | succ i => exact h1 i o d (by simpa using hi) hd
      · cases i with
        | zero => simp at hi; subst hi; rw [hx] at hd; cases hd
        | succ i =>
          cases j with
          | zero => simp at hj; subst hj; rw [hx] at hd'; cases hd'
          | succ j => rw [h2 i j o o' d (by simpa using hi) (by simpa using hj) hd hd']
    · rename_i d0 hx
      split at h
      · rename_i hlt hT
        have hlt := Nat.le_of_ble_eq_true hlt
        have hT : d0 ∉ T := fun h' => by rw [(hasN_iff _ _).2 h'] at hT; cases hT
        obtain ⟨h1, h2⟩ := dstOk_spec h
        refine ⟨fun i o d hi hd => ?_, fun i j o o' d hi hj hd hd' => ?_⟩
        · cases i with
          | zero => simp at hi; subst hi; rw [hx] at hd; simp at hd; subst hd; exact ⟨hlt, hT⟩
          | succ i =>
            obtain ⟨h3, h4⟩ := h1 i o d (by simpa using hi) hd
            exact ⟨h3, fun h' => h4 (List.mem_cons_of_mem _ h')⟩
        · cases i with
          | zero =>
            simp at hi; subst hi
            rw [hx] at hd; simp at hd; subst hd
            cases j with
            | zero => rfl
            | succ j => exact absurd (by simp) (h1 j o' d0 (by simpa using hj) hd').2
          | succ i =>
            cases j with
            | zero =>
              simp at hj; subst hj
              rw [hx] at hd'; simp at hd'; subst hd'
              exact absurd (by simp) (h1 i o d0 (by simpa using hi) hd).2
            | succ j => rw [h2 i j o o' d (by simpa using hi) (by simpa using hj) hd hd']
      · cases h
end
end Ab

/- The frame 'Ab' is sound, fifteenth part: a region that draws its order. -/
namespace Ab
open Go
set_option linter.unusedSimpArgs false
set_option linter.unusedVariables false

section
variable {P : Program} {τ : Tab} {w : World} {g : Gh} {O : List Obj}

/-! ### Whether an operation is wanted -/
def blsh : AV → Option (Option Bool)
  | .tt => some (some true)
  | .ff => some (some false)
  | .d (.b x) => some (some x)
  | .und => some none
  | .d (.v u) => match oneB u with | true => none | false => some none
  | _ => none

def bofV : Value → Option Bool
  | .bool b => some b
  | _ => none

theorem blsh_val {x : AV} {u : Value} {bo : Option Bool} (h : blsh x = some bo) (hv : Val g x u) : bofV u = bo := by
  unfold blsh at h
  split at h
  · have : u = .bool true := hv
    simp at h; subst h; rw [this]; rfl
  · have : u = .bool false := hv
    simp at h; subst h; rw [this]; rfl
  · have : u = .bool _ := hv
    simp at h; subst h; rw [this]; rfl
  · have : u = undef := hv
    simp at h; subst h; rw [this]; rfl
  · rename_i u'
    split at h
    · cases h
    · rename_i hb
      simp at h; subst h
      have : u = u' := hv.1
      rw [this]
      cases u' <;> simp_all [oneB, bofV]
  · cases h

/-- by what stands in the guard's slot, the operation is wanted (b) -/
def Wanted (all : List Oper) (p : List Nat) (s : List AV) (o : Oper) (b : Bool) : Prop :=
  match o.guard with
  | none => b = true
  | some (j, want) => j < all.length ∧ j ∈ p ∧ ∃ d bo, (nth all j noOper).dst = some d ∧ blsh (nth s d .junk) = some bo ∧ b = (bo == some want)

theorem Wanted.of_none {all : List Oper} {p : List Nat} {s : List AV} {o : Oper} (hg : o.guard = none) : Wanted all p s o true := by
  unfold Wanted; rw [hg]
theorem Wanted.of_some {all : List Oper} {p : List Nat} {s : List AV} {o : Oper} {j d : Nat} {want b : Bool} {bo : Option Bool} (hg : o.guard = some (j, want)) (hj : j < all.length) (hp : j ∈ p)
    (hd : (nth all j noOper).dst = some d) (hb : blsh (nth s d .junk) = some bo) (h : b = (bo == some want)) : Wanted all p s o b := by
  unfold Wanted; rw [hg]; exact ⟨hj, hp, d, bo, hd, hb, h⟩

/-- two lists of slots that say the same -/
def Eqv (s s' : List AV) : Prop := s.length = s'.length ∧ ∀ t, Wk (nth s t .junk) (nth s' t .junk) ∧ Wk (nth s' t .junk) (nth s t .junk)
theorem Eqv.rfl {s : List AV} : Eqv s s := ⟨Eq.refl _, fun _ => ⟨Wk.rfl, Wk.rfl⟩⟩
theorem Eqv.know {s : List AV} {d : Nat} {b : Bool} {y : AV} (h : nth s d .junk = .d (.b b)) (h1 : Wk (.d (.b b)) y) (h2 : Wk y (.d (.b b))) : Eqv s (s.set d y) := by
  refine ⟨by simp, fun t => ?_⟩
  by_cases hd : d = t
  · subst hd
    by_cases hlt : d < s.length
    · have : nth (s.set d y) d .junk = y := by simp [nth_eq, List.getD_eq_getElem?_getD, hlt]
      rw [this, h]; exact ⟨h1, h2⟩
    · have : s.set d y = s := List.set_eq_of_length_le (by omega)
      rw [this]; exact ⟨Wk.rfl, Wk.rfl⟩
  · have : nth (s.set d y) t .junk = nth s t .junk := by simp only [nth_eq, List.getD_eq_getElem?_getD, List.getElem?_set_ne hd]
    rw [this]; exact ⟨Wk.rfl, Wk.rfl⟩

theorem gdD_wanted {all : List Oper} {p : List Nat} {s : List AV} {o : Oper} {k : Bool → List AV → Prop} (h : gdD all p s o k) : ∃ b s', Wanted all p s' o b ∧ Eqv s s' ∧ k b s' := by
  unfold gdD at h
  split at h
  · rename_i hg
    exact ⟨true, s, .of_none hg, Eqv.rfl, h⟩
  · rename_i j want hg
    split at h
    · rename_i hj hp
      have hj : j < all.length := by have := Nat.le_of_ble_eq_true hj; rw [ln_eq] at this; omega
      have hp := (hasN_iff _ _).1 hp
      split at h
      · exact h.elim
      · rename_i d hd
        split at h
        · rename_i hs
          exact ⟨false, s, .of_some (bo := none) hg hj hp hd (by rw [hs]; rfl) (by cases want <;> rfl), Eqv.rfl, h⟩
        · rename_i hs
          exact ⟨want, s, .of_some (bo := some true) hg hj hp hd (by rw [hs]; rfl) (by cases want <;> rfl), Eqv.rfl, h⟩
        · rename_i hs
          exact ⟨!want, s, .of_some (bo := some false) hg hj hp hd (by rw [hs]; rfl) (by cases want <;> rfl), Eqv.rfl, h⟩
        · rename_i x hs
          have hlt : d < s.length := by
            rcases Nat.lt_or_ge d s.length with h' | h'
            · exact h'
            · rw [nth_eq, List.getD_eq_getElem?_getD, List.getElem?_eq_none h'] at hs; cases hs
          have hself : ∀ y, nth (s.set d y) d .junk = y := fun y => by simp [nth_eq, List.getD_eq_getElem?_getD, hlt]
          cases x with
          | true =>
            have h' := h.t rfl
            rw [stK_eq] at h'
            exact ⟨want, s.set d .tt, .of_some (bo := some true) hg hj hp hd (by rw [hself]; rfl) (by cases want <;> rfl), Eqv.know hs (fun _ _ h => h) (fun _ _ h => h), h'⟩
          | false =>
            have h' := h.f rfl
            rw [stK_eq] at h'
            exact ⟨!want, s.set d .ff, .of_some (bo := some false) hg hj hp hd (by rw [hself]; rfl) (by cases want <;> rfl), Eqv.know hs (fun _ _ h => h) (fun _ _ h => h), h'⟩
        · rename_i u hs
          split at h
          · exact h.elim
          · rename_i hb
            exact ⟨false, s, .of_some (bo := none) hg hj hp hd (by rw [hs]; simp [blsh, hb]) (by cases want <;> rfl), Eqv.rfl, h⟩
        · exact h.elim
    · exact h.elim

/-! ### The state of a region in some order -/
section
variable {Γ : Ctx} {ops : List Oper} {lt : Bool} {s0 : List AV}

abbrev op (ops : List Oper) (i : Nat) : Oper := nth ops i noOper
abbrev sc (ops : List Oper) (i : Nat) : List Nat := sucs ops (preds ops []) i
abbrev pr (ops : List Oper) (i : Nat) : List Nat := nth (preds ops []) i []

theorem op_get {i : Nat} (h : i < ops.length) : ops[i]? = some (op ops i) := by
  simp only [op, nth_eq, List.getD_eq_getElem?_getD, List.getElem?_eq_getElem h]; rfl

/-- An operation that has been reckoned with, and may come up later: what it will yield. -/
def Chk (τ : Tab) (lt : Bool) (s0 : List AV) (ops : List Oper) (s : List AV) (O : List Obj) (k : Nat) : Prop :=
  ∃ s1, (∀ t, t ∉ outs ops (pr ops k) 0 → Wk (nth s t .junk) (nth s1 t .junk)) ∧ ∃ b, Wanted ops (pr ops k) s1 (op ops k) b ∧ match b with
    | false => ∀ d, (op ops k).dst = some d → Wk .und (nth s d .junk)
    | true => isEffD τ lt (op ops k).op = false ∧ evKD τ lt (op ops k).op (evm (sc ops k) (outs ops (pr ops k) 0) s0 s1) O (fun v => ∀ d, (op ops k).dst = some d → Wk v (nth s d .junk))

theorem nth_set_ne {s : List AV} {d t : Nat} {v : AV} (h : d ≠ t) : nth (s.set d v) t .junk = nth s t .junk := by
  simp only [nth_eq, List.getD_eq_getElem?_getD, List.getElem?_set_ne h]
theorem nth_set_self {s : List AV} {d : Nat} {v : AV} (h : d < s.length) : nth (s.set d v) d .junk = v := by
  simp [nth_eq, List.getD_eq_getElem?_getD, h]

structure Dst (ops : List Oper) (n : Nat) : Prop where
  lt : ∀ (i : Nat) d, i < ops.length → (op ops i).dst = some d → d < n
  inj : ∀ (i j : Nat) d, i < ops.length → j < ops.length → (op ops i).dst = some d → (op ops j).dst = some d → i = j

theorem Chk.eqv {k : Nat} {s s' : List AV} (he : Eqv s s') (h : Chk τ lt s0 ops s O k) : Chk τ lt s0 ops s' O k := by
  obtain ⟨s1, h1, b, hw, hb⟩ := h
  refine ⟨s1, fun t ht => (he.2 t).2.trans (h1 t ht), b, hw, ?_⟩
  cases b with
  | false => exact fun d hd => (hb d hd).trans (he.2 d).1
  | true =>
    obtain ⟨hb1, hb2⟩ := hb
    obtain ⟨v, hv, hk⟩ := evKD_inv1 _ _ hb2
    exact ⟨hb1, hk _ (fun d hd => (hv d hd).trans (he.2 d).1)⟩

/-- What is reckoned with an operation outlives what another puts into its slot. -/
theorem Chk.set {k : Nat} {s : List AV} {i d : Nat} {v : AV} {n : Nat} (hD : Dst ops n) (hk : k < ops.length) (hi : i < ops.length) (hne : i ≠ k) (hd : (op ops i).dst = some d) (hik : i ∉ pr ops k)
    (h : Chk τ lt s0 ops s O k) : Chk τ lt s0 ops (s.set d v) O k := by
  obtain ⟨s1, h1, b, hw, hb⟩ := h
  have hm : d ∈ outs ops (pr ops k) 0 := mem_outs.2 ⟨i, _, op_get hi, hd, by simpa using hik⟩
  have hdd : ∀ d', (op ops k).dst = some d' → nth (s.set d v) d' .junk = nth s d' .junk := fun d' hd' => nth_set_ne (by
    rintro rfl
    exact hne (hD.inj i k d hi hk hd hd'))
  refine ⟨s1, fun t ht => ?_, b, hw, ?_⟩
  · rw [nth_set_ne (by rintro rfl; exact ht hm)]; exact h1 t ht
  · cases b with
    | false => exact fun d' hd' => by rw [hdd d' hd']; exact hb d' hd'
    | true =>
      obtain ⟨hb1, hb2⟩ := hb
      obtain ⟨v', hv, hk'⟩ := evKD_inv1 _ _ hb2
      exact ⟨hb1, hk' _ (fun d' hd' => by rw [hdd d' hd']; exact hv d' hd')⟩

/-- the operations that have come up -/
abbrev On (listed : Array Bool) (i : Nat) : Prop := listed.getD i false = true

theorem isAl_spec {o : Oper} (h : isAl τ o = true) : o.guard = none ∧ ∃ t, o.op = .alloc t ∧ (tg τ t).kind ≠ .other ∧ isBld (tg τ t).zero = false := by
  unfold isAl at h
  split at h
  · rename_i t hg ho
    split at h
    · cases h
    · rename_i hk
      exact ⟨hg, t, ho, fun e => hk e, by simpa using h⟩
  · cases h

theorem isAl_eff {o : Oper} (h : isAl τ o = true) : isEffD τ lt o.op = true := by
  obtain ⟨_, t, ho, _⟩ := isAl_spec h
  rw [ho]
  cases lt <;> rfl

/-- memory that has been taken ahead of its turn -/
def Pnd (τ : Tab) (hb : Nat) (ops : List Oper) (listed : Array Bool) (a : Act) (w : World) (g : Gh) (D : List Nat) : Prop :=
  ∃ bl : Nat → Nat, (∀ j k, On listed j → j ∉ D → On listed k → k ∉ D → bl j = bl k → j = k) ∧
    ∀ k, On listed k → k ∉ D → k < ops.length ∧ isAl τ (op ops k) = true ∧ hb ≤ bl k ∧ bl k < w.heap.size ∧ g.own (bl k) = none ∧ g.imm (bl k) = none ∧
      (∀ t, (op ops k).op = .alloc t → ∃ z : Value, z.cells.toList.map vD = (tg τ t).zero ∧ z.cells.toList.all oneV = true ∧ w.heap[bl k]? = some (.cells z.cells t (0, 0))) ∧
      ∀ d, (op ops k).dst = some d → a.tmps.toList.getD d undef = .pointer (some ⟨bl k, 0, none⟩)

theorem Pnd.mono {hb : Nat} {listed : Array Bool} {a : Act} {w' : World} {g' : Gh} {D : List Nat} (hf : Fr w w' g g') (h : Pnd τ hb ops listed a w g D) : Pnd τ hb ops listed a w' g' D := by
  obtain ⟨bl, h1, h2⟩ := h
  refine ⟨bl, h1, fun k hk hD => ?_⟩
  obtain ⟨k0, k1, k2, k3, k4, k5, k6, k7⟩ := h2 k hk hD
  have := hf.size
  refine ⟨k0, k1, k2, by omega, hf.own _ k3 k4, by rw [hf.imm _ k3 k4]; exact k5, fun t ht => ?_, k7⟩
  obtain ⟨z, z1, z2, z3⟩ := k6 t ht
  exact ⟨z, z1, z2, by rw [hf.heap _ k3 k4]; exact z3⟩

/-- one of those reckoned with comes up -/
theorem Pnd.up {hb : Nat} {listed listed' : Array Bool} {a a' : Act} {D D' : List Nat} (hon : ∀ k, k ∉ D' → On listed' k → On listed k ∧ k ∉ D) 
    (hg : ∀ k d, On listed' k → k ∉ D' → (op ops k).dst = some d → a'.tmps.toList.getD d undef = a.tmps.toList.getD d undef) (h : Pnd τ hb ops listed a w g D) : Pnd τ hb ops listed' a' w g D' := by
  obtain ⟨bl, h1, h2⟩ := h
  refine ⟨bl, fun j k hj hjD hk hkD => h1 j k (hon j hjD hj).1 (hon j hjD hj).2 (hon k hkD hk).1 (hon k hkD hk).2, fun k hk hD => ?_⟩
  obtain ⟨k0, k1, k2, k3, k4, k5, k6, k7⟩ := h2 k (hon k hD hk).1 (hon k hD hk).2
  exact ⟨k0, k1, k2, k3, k4, k5, k6, fun d hd => by rw [hg k d hk hD hd]; exact k7 d hd⟩

structure Mid (τ : Tab) (lt : Bool) (s0 : List AV) (hb : Nat) (ops : List Oper) (listed : Array Bool) (a : Act) (w : World) (g : Gh) (s : List AV) (O : List Obj) (D E r : List Nat) : Prop where
  sat : Sat w g O
  dfr : a.defers = []
  len : s.length = a.tmps.size
  dst : Dst ops s.length
  lsz : listed.size = ops.length
  val : ∀ t, (∀ i, i < ops.length → (op ops i).dst = some t → On listed i ∧ i ∈ D) → Val g (nth s t .junk) (a.tmps.toList.getD t undef)
  val0 : ∀ t, (∀ i, i < ops.length → (op ops i).dst = some t → ¬ On listed i) → Val g (nth s0 t .junk) (a.tmps.toList.getD t undef)
  don : ∀ k ∈ D, k < ops.length ∧ (On listed k ∨ Chk τ lt s0 ops s O k) ∧ ∀ x ∈ pr ops k, x ∈ D
  pnd : Pnd τ hb ops listed a w g D
  clo : ∀ k, On listed k → ∀ x ∈ pr ops k, On listed x
  ord : ordOk τ lt ops (preds ops []) D E r = true

theorem ord_cons {D E r : List Nat} {i : Nat} (h : ordOk τ lt ops (preds ops []) D E (i :: r) = true) : i < ops.length ∧ i ∉ D ∧ (isAl τ (op ops i) = true ∨ ∀ x ∈ E, x ∈ pr ops i) ∧ (∀ x ∈ pr ops i, x ∈ D) ∧
    ordOk τ lt ops (preds ops []) (i :: D) (match isEffD τ lt (op ops i).op with | true => i :: E | false => E) r = true := by
  unfold ordOk at h
  split at h
  · rename_i h1 h2
    split at h
    · rename_i h3 h4
      have h1 := Nat.le_of_ble_eq_true h1
      rw [ln_eq] at h1
      refine ⟨h1, fun h' => (by rw [(hasN_iff _ _).2 h'] at h2; cases h2), ?_, allIn_iff.1 h4, h⟩
      split at h3
      · rename_i hal; exact .inl hal
      · exact .inr (allIn_iff.1 h3)
    · cases h
  · cases h

theorem ord_all : ∀ {r D E : List Nat}, ordOk τ lt ops (preds ops []) D E r = true → ∀ i, i < ops.length → i ∈ D ∨ i ∈ r
  | [], D, E, h, i, hi => by
    unfold ordOk at h
    left
    exact allIn_iff.1 h i (mem_upto.2 ⟨by omega, by rw [ln_eq]; omega⟩)
  | j :: r, D, E, h, i, hi => by
    obtain ⟨_, _, _, _, h5⟩ := ord_cons h
    rcases ord_all h5 i hi with h' | h'
    · rcases List.mem_cons.1 h' with rfl | h'
      · right; simp
      · exact .inl h'
    · right; simp [h']

/-- what comes behind an effect in the order has it ahead of it -/
theorem ord_eff : ∀ {r D E : List Nat}, ordOk τ lt ops (preds ops []) D E r = true → ∀ x ∈ E, ∀ i ∈ r, isAl τ (op ops i) = false → x ∈ pr ops i
  | [], D, E, h, x, hx, i, hi, _ => by simp at hi
  | j :: r, D, E, h, x, hx, i, hi, hal => by
    obtain ⟨_, _, h3, _, h5⟩ := ord_cons h
    rcases List.mem_cons.1 hi with rfl | hi
    · rcases h3 with h3 | h3
      · rw [hal] at h3; cases h3
      · exact h3 x hx
    · refine ord_eff h5 x ?_ i hi hal
      split
      · exact List.mem_cons_of_mem _ hx
      · exact hx

section
variable {K : List AV → List Obj → Prop} {listed : Array Bool} {a : Act} {s : List AV} {D E r : List Nat} {hb : Nat}

theorem Mid.mono {w' : World} {g' : Gh} (h : Mid τ lt s0 hb ops listed a w g s O D E r) (hl : g.le g') (hf : Fr w w' g g') (hS : Sat w' g' O) : Mid τ lt s0 hb ops listed a w' g' s O D E r :=
  ⟨hS, h.dfr, h.len, h.dst, h.lsz, fun t ht => Val_mono hl _ _ (h.val t ht), fun t ht => Val_mono hl _ _ (h.val0 t ht), h.don, h.pnd.mono hf, h.clo, h.ord⟩

theorem Mid.eqv {s' : List AV} (he : Eqv s s') (h : Mid τ lt s0 hb ops listed a w g s O D E r) : Mid τ lt s0 hb ops listed a w g s' O D E r :=
  ⟨h.sat, h.dfr, by rw [← he.1]; exact h.len, by rw [← he.1]; exact h.dst, h.lsz, fun t ht => (he.2 t).1 _ _ (h.val t ht), h.val0,
    fun k hk => let ⟨k1, k2, k3⟩ := h.don k hk; ⟨k1, k2.imp id (Chk.eqv he), k3⟩, h.pnd, h.clo, h.ord⟩

/-- what has come up has been reckoned with, or is memory -/
theorem Mid.lst (h : Mid τ lt s0 hb ops listed a w g s O D E r) {k : Nat} (hk : On listed k) : k ∈ D ∨ isAl τ (op ops k) = true := by
  by_cases hD : k ∈ D
  · exact .inl hD
  · obtain ⟨bl, _, h2⟩ := h.pnd
    exact .inr (h2 k hk hD).2.1

/-- what is said of the next operation in the order -/
def Nxt (τ : Tab) (lt : Bool) (s0 : List AV) (Γ : Ctx) (ops : List Oper) (K : List AV → List Obj → Prop) (i : Nat) (r D : List Nat) (s : List AV) (O : List Obj) (w : Bool) : Prop := match w with
  | true => fS (sc ops i) fun N => fS (outs ops (pr ops i) 0) fun M => opKD τ lt Γ (op ops i).op (Ab.evm N M s0 s) O fun v O' => putK s (op ops i).dst v fun s' =>
      match isEffD τ lt (op ops i).op with
      | true => again τ lt s0 ops (preds ops []) i s' O' D (opsD τ lt s0 Γ ops (preds ops []) r (i :: D) s' O' K)
      | false => opsD τ lt s0 Γ ops (preds ops []) r (i :: D) s' O' K
  | false => putK s (op ops i).dst .und fun s' => opsD τ lt s0 Γ ops (preds ops []) r (i :: D) s' O K

theorem nxt_of {i : Nat} (h : opsD τ lt s0 Γ ops (preds ops []) (i :: r) D s O K) : ∃ b s', Wanted ops (pr ops i) s' (op ops i) b ∧ Eqv s s' ∧ Nxt τ lt s0 Γ ops K i r D s' O b := by
  rw [opsD_cons] at h
  exact gdD_wanted h

/-- The next operation in the order, one that only reads or is not wanted, is reckoned with. -/
theorem Mid.virt {i : Nat} {b : Bool} (h : Mid τ lt s0 hb ops listed a w g s O D E (i :: r)) (hw : Wanted ops (pr ops i) s (op ops i) b) (hx : Nxt τ lt s0 Γ ops K i r D s O b) (hv : b = true → isEffD τ lt (op ops i).op = false) :
    ∃ s' E', Mid τ lt s0 hb ops listed a w g s' O (i :: D) E' r ∧ opsD τ lt s0 Γ ops (preds ops []) r (i :: D) s' O K := by
  obtain ⟨h1, h2, h3, h4, h5⟩ := ord_cons h.ord
  have hii : i ∉ pr ops i := fun hm => h2 (h4 i hm)
  have hon : ¬ On listed i := fun ho => by
    rcases h.lst ho with h' | h'
    · exact h2 h'
    · unfold Wanted at hw
      rw [(isAl_spec h').1] at hw
      rw [isAl_eff (lt := lt) h'] at hv
      exact absurd (hv hw) (by simp)
  -- what is put
  have main : ∀ (v : AV) (s' : List AV), (∀ d, (op ops i).dst = some d → s' = s.set d v) → ((op ops i).dst = none → s' = s) → Chk τ lt s0 ops s' O i →
      ∃ E', Mid τ lt s0 hb ops listed a w g s' O (i :: D) E' r := by
    intro v s' hs1 hs2 hck
    have hlen : s'.length = s.length := by
      cases hd : (op ops i).dst with
      | none => rw [hs2 hd]
      | some d => rw [hs1 d hd]; simp
    refine ⟨_, h.sat, h.dfr, by rw [hlen]; exact h.len, by rw [hlen]; exact h.dst, h.lsz, fun t ht => ?_, h.val0, fun k hk => ?_, ?_, h.clo, h5⟩
    · have ht' := h.val t (fun k hk hkd => ⟨(ht k hk hkd).1, by
        rcases List.mem_cons.1 (ht k hk hkd).2 with rfl | h'
        · exact absurd (ht k hk hkd).1 hon
        · exact h'⟩)
      cases hd : (op ops i).dst with
      | none => rw [hs2 hd]; exact ht'
      | some d =>
        rw [hs1 d hd, nth_set_ne]
        · exact ht'
        · rintro rfl; exact hon (ht i h1 hd).1
    · rcases List.mem_cons.1 hk with rfl | hk
      · exact ⟨h1, .inr hck, fun x hx => List.mem_cons_of_mem _ (h4 x hx)⟩
      · obtain ⟨k1, k2, k3⟩ := h.don k hk
        refine ⟨k1, ?_, fun x hx => List.mem_cons_of_mem _ (k3 x hx)⟩
        rcases k2 with k2 | k2
        · exact .inl k2
        · right
          have hik : i ∉ pr ops k := fun hm => h2 (k3 i hm)
          have hne : i ≠ k := fun e => by subst e; exact h2 hk
          cases hd : (op ops i).dst with
          | none => rw [hs2 hd]; exact k2
          | some d => rw [hs1 d hd]; exact k2.set h.dst k1 h1 hne hd hik
    · exact h.pnd.up (fun k hk hk' => ⟨hk', fun hD => hk (List.mem_cons_of_mem _ hD)⟩) (fun _ _ _ _ _ => rfl)
  have agree : ∀ (v : AV) (d : Nat), (op ops i).dst = some d → ∀ t, t ∉ outs ops (pr ops i) 0 → Wk (nth (s.set d v) t .junk) (nth s t .junk) := by
    intro v d hd t ht
    have hm : d ∈ outs ops (pr ops i) 0 := mem_outs.2 ⟨i, _, op_get h1, hd, by simpa using hii⟩
    rw [nth_set_ne (by rintro rfl; exact ht hm)]; exact Wk.rfl
  unfold Nxt at hx
  cases b with
  | false =>
    dsimp only at hx
    cases hd : (op ops i).dst with
    | none =>
      rw [hd] at hx
      obtain ⟨E', hE⟩ := main .und s (fun d hd' => by rw [hd] at hd'; cases hd') (fun _ => rfl) ⟨s, fun _ _ => Wk.rfl, false, hw, fun d hd' => by rw [hd] at hd'; cases hd'⟩
      exact ⟨s, E', hE, hx⟩
    | some d =>
      rw [hd] at hx
      simp only [putK, stK_eq] at hx
      obtain ⟨E', hE⟩ := main .und (s.set d .und) (fun d' hd' => by rw [hd] at hd'; simp at hd'; rw [hd']) (fun hd' => by rw [hd] at hd'; cases hd') ⟨s, agree _ d hd, false, hw, fun d' hd' => by
        rw [hd] at hd'; simp at hd'; subst hd'
        rw [nth_set_self (h.dst.lt i d h1 hd)]; exact Wk.rfl⟩
      exact ⟨_, E', hE, hx⟩
  | true =>
    have hne := hv rfl
    dsimp only at hx
    rw [fS_eq, fS_eq] at hx
    unfold opKD at hx
    rw [hne] at hx
    dsimp only at hx
    obtain ⟨v, hK, hev⟩ := evKD_inv1 _ _ hx
    rw [fA_eq] at hK
    cases hd : (op ops i).dst with
    | none =>
      rw [hd] at hK
      obtain ⟨E', hE⟩ := main v s (fun d hd' => by rw [hd] at hd'; cases hd') (fun _ => rfl) ⟨s, fun _ _ => Wk.rfl, true, hw, hne, hev _ (fun d hd' => by rw [hd] at hd'; cases hd')⟩
      exact ⟨s, E', hE, hK⟩
    | some d =>
      rw [hd] at hK
      simp only [putK, stK_eq] at hK
      obtain ⟨E', hE⟩ := main v (s.set d v) (fun d' hd' => by rw [hd] at hd'; simp at hd'; rw [hd']) (fun hd' => by rw [hd] at hd'; cases hd') ⟨s, agree _ d hd, true, hw, hne, hev _ (fun d' hd' => by
        rw [hd] at hd'; simp at hd'; subst hd'
        rw [nth_set_self (h.dst.lt i d h1 hd)]; exact Wk.rfl)⟩
      exact ⟨_, E', hE, hK⟩

/-- What is wanted, in the machine. -/
theorem Mid.wanted (h : Mid τ lt s0 hb ops listed a w g s O D E r) {i : Nat} {b : Bool} {s1 : List AV} (hs1 : ∀ t, t ∉ outs ops (pr ops i) 0 → Wk (nth s t .junk) (nth s1 t .junk)) (hp : ∀ x ∈ pr ops i, On listed x ∧ x ∈ D)
    (hw : Wanted ops (pr ops i) s1 (op ops i) b) : Region.wanted (op ops i) (yielded ops.toArray a.tmps) = b := by
  unfold Wanted at hw
  unfold Region.wanted
  cases hg : (op ops i).guard with
  | none => rw [hg] at hw; exact hw.symm
  | some q =>
    obtain ⟨j, want⟩ := q
    rw [hg] at hw
    obtain ⟨hj, hjp, d, bo, h1, h2, h3⟩ := hw
    dsimp only
    have hv := h.val d (fun k hk hd => by
      have := h.dst.inj k j d hk hj hd h1
      subst this; exact hp k hjp)
    have hdo : d ∉ outs ops (pr ops i) 0 := fun hm => by
      obtain ⟨k, o, hk, hd, hn⟩ := mem_outs.1 hm
      have hkl := (List.getElem?_eq_some_iff.1 hk).1
      rw [op_get hkl] at hk
      simp at hk; subst hk
      have := h.dst.inj k j d hkl hj hd h1
      subst this
      exact hn (by simpa using hjp)
    have hb := blsh_val h2 (hs1 d hdo _ _ hv)
    have hy : yielded ops.toArray a.tmps j = bofV (a.tmps.toList.getD d undef) := by
      unfold yielded
      simp only [List.getElem?_toArray, op_get hj, Option.bind_some]
      rw [show (op ops j).dst = some d from h1]
      simp only [Option.bind_some]
      rw [List.getD_eq_getElem?_getD]
      cases hx : a.tmps.toList[d]? with
      | none =>
        have : a.tmps[d]? = none := by simpa using hx
        simp [this, undef, bofV]
      | some v =>
        have : a.tmps[d]? = some v := by simpa using hx
        simp [this]
        cases v <;> rfl
    rw [hy, hb, h3]

theorem Mid.evm (h : Mid τ lt s0 hb ops listed a w g s O D E r) {i : Nat} (hi : ¬ On listed i) {s1 : List AV} (hs1 : ∀ t, t ∉ outs ops (pr ops i) 0 → Wk (nth s t .junk) (nth s1 t .junk)) (hp : ∀ x ∈ pr ops i, On listed x ∧ x ∈ D) (x : Operand) :
    Val g (evm (sc ops i) (outs ops (pr ops i) 0) s0 s1 x) (a.eval x) := by
  cases x with
  | tmp t =>
    have he : a.eval (.tmp t) = a.tmps.toList.getD t undef := by simp [Act.eval, Array.getD_eq_getD_getElem?, List.getD_eq_getElem?_getD]
    rw [he]
    simp only [Ab.evm]
    split
    · rename_i hm
      obtain ⟨j, o, hj, hd, hij⟩ := mem_sucs ((hasN_iff _ _).1 hm)
      have hjl := (List.getElem?_eq_some_iff.1 hj).1
      rw [op_get hjl] at hj
      simp at hj; subst hj
      refine h.val0 t (fun k hk hkd hon => ?_)
      have := h.dst.inj k j t hk hjl hkd hd
      subst this
      exact hi (h.clo k hon i hij)
    · split
      · trivial
      · rename_i hm
        have ht : t ∉ outs ops (pr ops i) 0 := fun h' => by rw [(hasN_iff _ _).2 h'] at hm; cases hm
        have := h.val t (fun k hk hd => by
          apply Classical.byContradiction
          intro hon
          exact ht (mem_outs.2 ⟨k, _, op_get hk, hd, fun hkp => hon (hp k (by simpa using hkp))⟩))
        exact hs1 t ht _ _ this
  | const v => exact Val_cv g v
  | global b => exact ⟨rfl, rfl⟩
  | func f => exact ⟨[], rfl, trivial⟩

theorem On_set {listed : Array Bool} {i k : Nat} (hi : i < listed.size) : On (listed.setIfInBounds i true) k ↔ k = i ∨ On listed k := by
  unfold On
  by_cases hik : i = k
  · subst hik; simp [hi]
  · rw [getD_set_ne false hik]
    constructor
    · exact .inr
    · rintro (h | h)
      · exact absurd h.symm hik
      · exact h

theorem getD_put {a : Act} {d : Option Nat} {u : Value} {t : Nat} : ((a.put d u).tmps.toList.getD t undef) = if d = some t ∧ t < a.tmps.size then u else a.tmps.toList.getD t undef := by
  cases d with
  | none => simp [Act.put]
  | some d =>
    simp only [Act.put, Array.toList_setIfInBounds, List.getD_eq_getElem?_getD, List.getElem?_set, Option.some.injEq]
    by_cases h : d = t
    · subst h
      by_cases hlt : d < a.tmps.size
      · simp [hlt]
      · simp [hlt]
    · simp [h]

/-- One that was reckoned with has come up. -/
theorem Mid.came (h : Mid τ lt s0 hb ops listed a w g s O D E r) {i : Nat} (hi : i ∈ D) (hp : ∀ x ∈ pr ops i, On listed x) {u : Value} (hu : ∀ d, (op ops i).dst = some d → Val g (nth s d .junk) u) :
    Mid τ lt s0 hb ops (listed.setIfInBounds i true) (a.put (op ops i).dst u) w g s O D E r := by
  have hil := (h.don i hi).1
  have hls : i < listed.size := by rw [h.lsz]; exact hil
  have hon : ∀ k, On (listed.setIfInBounds i true) k ↔ k = i ∨ On listed k := fun k => On_set hls
  have hsz : (a.put (op ops i).dst u).tmps.size = a.tmps.size := by cases (op ops i).dst <;> simp [Act.put]
  refine ⟨h.sat, by have := h.dfr; cases (op ops i).dst <;> simpa [Act.put] using this, by rw [hsz]; exact h.len, h.dst, by simp [h.lsz], fun t ht => ?_, fun t ht => ?_, fun k hk => ?_, ?_, fun k hk x hx => ?_, h.ord⟩
  rotate_left
  · rw [getD_put, if_neg (fun hd => ht i hil hd.1 ((hon i).2 (.inl rfl)))]
    exact h.val0 t (fun k hk hkd hk' => ht k hk hkd ((hon k).2 (.inr hk')))
  rotate_right
  · rw [getD_put]
    split
    · rename_i hd
      exact hu t hd.1
    · rename_i hd
      refine h.val t (fun k hk hkd => ⟨?_, (ht k hk hkd).2⟩)
      rcases (hon k).1 (ht k hk hkd).1 with rfl | h'
      · exact absurd ⟨hkd, by rw [← h.len]; exact h.dst.lt k t hk hkd⟩ hd
      · exact h'
  · obtain ⟨k1, k2, k3⟩ := h.don k hk
    exact ⟨k1, k2.imp (fun h' => (hon k).2 (.inr h')) id, k3⟩
  · have hki : ∀ k, k ∉ D → On (listed.setIfInBounds i true) k → On listed k := fun k hk hk' => by
      rcases (hon k).1 hk' with rfl | h'
      · exact absurd hi hk
      · exact h'
    refine h.pnd.up (fun k hk hk' => ⟨hki k hk hk', hk⟩) (fun k d hk hkD hkd => ?_)
    rw [getD_put, if_neg]
    rintro ⟨hd, _⟩
    obtain ⟨bl, _, h2⟩ := h.pnd
    have := h.dst.inj i k d hil (h2 k (hki k hkD hk) hkD).1 hd hkd
    subst this; exact hkD hi
  · rcases (hon k).1 hk with rfl | h'
    · exact (hon x).2 (.inr (hp x hx))
    · exact (hon x).2 (.inr (h.clo k h' x hx))

theorem again_spec {i : Nat} {s' : List AV} {O' : List Obj} {N : Prop} : ∀ {D : List Nat}, again τ lt s0 ops (preds ops []) i s' O' D N → N ∧ ∀ k ∈ D, k ∉ pr ops i → isEffD τ lt (op ops k).op = false → isLoad (op ops k).op = true →
    ∃ d, (op ops k).dst = some d ∧ ∃ b s1, Wanted ops (pr ops k) s1 (op ops k) b ∧ Eqv s' s1 ∧ match b with
      | true => evKD τ lt (op ops k).op (Ab.evm (sc ops k) (outs ops (pr ops k) 0) s0 s1) O' (fun v => Wk v (nth s' d .junk))
      | false => nth s' d .junk = .und
  | [], h => ⟨h, fun k hk => by simp at hk⟩
  | j :: D, h => by
    rw [again_cons] at h
    split at h
    · rename_i h1 h2 h3
      split at h
      · exact h.elim
      · rename_i d hd
        obtain ⟨hc, h⟩ := h
        obtain ⟨hN, hr⟩ := again_spec h
        refine ⟨hN, fun k hk hki hke hkl => ?_⟩
        rcases List.mem_cons.1 hk with rfl | hk
        · obtain ⟨b, s1, hw, he, hb⟩ := gdD_wanted hc
          refine ⟨d, hd, b, s1, hw, he, ?_⟩
          cases b with
          | true =>
            simp only [fS_eq, fA_eq] at hb
            exact hb
          | false => exact hb
        · exact hr k hk hki hke hkl
    · rename_i hne
      obtain ⟨hN, hr⟩ := again_spec h
      refine ⟨hN, fun k hk hki hke hkl => ?_⟩
      rcases List.mem_cons.1 hk with rfl | hk
      · exfalso
        refine hne hkl hke ?_
        cases hh : hasN (nth (preds ops []) i []) k with
        | false => rfl
        | true => exact absurd ((hasN_iff _ _).1 hh) hki
      · exact hr k hk hki hke hkl

/-- what is left of a region -/
def Rst (τ : Tab) (lt : Bool) (s0 : List AV) (Γ : Ctx) (ops : List Oper) (K : List AV → List Obj → Prop) (r D : List Nat) (s : List AV) (O : List Obj) : Prop :=
  opsD τ lt s0 Γ ops (preds ops []) r D s O K ∨ ∃ i r', r = i :: r' ∧ isEffD τ lt (op ops i).op = true ∧ Wanted ops (pr ops i) s (op ops i) true ∧ Nxt τ lt s0 Γ ops K i r' D s O true

/-- An effect that is next in the order has come up. -/
theorem Mid.effd {i : Nat} (h : Mid τ lt s0 hb ops listed a w g s O D E (i :: r)) (heff : isEffD τ lt (op ops i).op = true) (hp : ∀ x ∈ pr ops i, On listed x)
    {listed' : Array Bool} {a' : Act} {w' : World} {g' : Gh} {O' : List Obj} {v : AV} {u : Value} (hsz : listed'.size = listed.size) (hon : ∀ k, On listed' k ↔ k = i ∨ On listed k)
    (hdf : a'.defers = []) (htm : a'.tmps.size = a.tmps.size) (hget : ∀ t, a'.tmps.toList.getD t undef = if (op ops i).dst = some t ∧ t < a.tmps.size then u else a.tmps.toList.getD t undef)
    (hS' : Sat w' g' O') (hl' : g.le g') (hv : Val g' v u) (hpn : Pnd τ hb ops listed' a' w' g' (i :: D))
    (hK : putK s (op ops i).dst v fun s' => again τ lt s0 ops (preds ops []) i s' O' D (opsD τ lt s0 Γ ops (preds ops []) r (i :: D) s' O' K)) :
    ∃ s' E', Mid τ lt s0 hb ops listed' a' w' g' s' O' (i :: D) E' r ∧ opsD τ lt s0 Γ ops (preds ops []) r (i :: D) s' O' K := by
  obtain ⟨hi, h2, h3, h4, h5⟩ := ord_cons h.ord
  have main : ∀ (s' : List AV), (∀ d, (op ops i).dst = some d → s' = s.set d v) → ((op ops i).dst = none → s' = s) → again τ lt s0 ops (preds ops []) i s' O' D (opsD τ lt s0 Γ ops (preds ops []) r (i :: D) s' O' K) →
      ∃ s' E', Mid τ lt s0 hb ops listed' a' w' g' s' O' (i :: D) E' r ∧ opsD τ lt s0 Γ ops (preds ops []) r (i :: D) s' O' K := by
    intro s' hs1 hs2 hag
    obtain ⟨hN, hre⟩ := again_spec hag
    have hlen : s'.length = s.length := by
      cases hd : (op ops i).dst with
      | none => rw [hs2 hd]
      | some d => rw [hs1 d hd]; simp
    refine ⟨s', (match isEffD τ lt (op ops i).op with | true => i :: E | false => E), ?_, hN⟩
    refine ⟨hS', hdf, by rw [htm, hlen]; exact h.len, by rw [hlen]; exact h.dst, by rw [hsz]; exact h.lsz, fun t ht => ?_, fun t ht => ?_, fun k hk => ?_, hpn, fun k hk x hx => ?_, h5⟩
    · rw [hget]
      split
      · rename_i hd
        rw [hs1 t hd.1, nth_set_self (h.dst.lt i t hi hd.1)]
        exact hv
      · rename_i hd
        have hne : ∀ d, (op ops i).dst = some d → d ≠ t := by
          rintro d hd' rfl
          exact hd ⟨hd', by rw [← h.len]; exact h.dst.lt i d hi hd'⟩
        have hold := h.val t (fun k hk hkd => by
          have hki : k ≠ i := by rintro rfl; exact hne t hkd rfl
          obtain ⟨t1, t2⟩ := ht k hk hkd
          exact ⟨((hon k).1 t1).resolve_left hki, (List.mem_cons.1 t2).resolve_left hki⟩)
        have hsame : nth s' t .junk = nth s t .junk := by
          cases hd' : (op ops i).dst with
          | none => rw [hs2 hd']
          | some d => rw [hs1 d hd', nth_set_ne (hne d hd')]
        rw [hsame]
        exact Val_mono hl' _ _ hold
    · rw [hget, if_neg (fun hd => ht i hi hd.1 ((hon i).2 (.inl rfl)))]
      exact Val_mono hl' _ _ (h.val0 t (fun k hk hkd hk' => ht k hk hkd ((hon k).2 (.inr hk'))))
    · rcases List.mem_cons.1 hk with rfl | hk
      · exact ⟨hi, .inl ((hon k).2 (.inl rfl)), fun x hx => List.mem_cons_of_mem _ (h4 x hx)⟩
      · obtain ⟨k1, k2, k3⟩ := h.don k hk
        refine ⟨k1, ?_, fun x hx => List.mem_cons_of_mem _ (k3 x hx)⟩
        by_cases hko : On listed k
        · exact .inl ((hon k).2 (.inr hko))
        · right
          have hck := k2.resolve_left hko
          have hki : k ∉ pr ops i := fun hm => hko (hp k hm)
          have hik : i ∉ pr ops k := fun hm => h2 (k3 i hm)
          have hne : i ≠ k := fun e => by subst e; exact h2 hk
          have hck' : Chk τ lt s0 ops s' O k := by
            cases hd : (op ops i).dst with
            | none => rw [hs2 hd]; exact hck
            | some d => rw [hs1 d hd]; exact hck.set h.dst k1 hi hne hd hik
          obtain ⟨s1, hs1', b, hwk, hbk⟩ := hck'
          cases b with
          | false => exact ⟨s1, hs1', false, hwk, hbk⟩
          | true =>
            cases hld : isLoad (op ops k).op with
            | false => exact ⟨s1, hs1', true, hwk, hbk.1, evKD_nl hld O' hbk.2⟩
            | true =>
              obtain ⟨d, hd, b', s2, hw2, he2, hb2⟩ := hre k hk hki hbk.1 hld
              refine ⟨s2, fun t _ => (he2.2 t).1, b', hw2, ?_⟩
              cases b' with
              | false => exact fun d' hd' => by rw [hd] at hd'; simp at hd'; subst hd'; rw [hb2]; exact Wk.rfl
              | true =>
                refine ⟨hbk.1, ?_⟩
                obtain ⟨v', hv', hk'⟩ := evKD_inv1 _ _ hb2
                exact hk' _ (fun d' hd' => by rw [hd] at hd'; simp at hd'; subst hd'; exact hv')
    · rcases (hon k).1 hk with rfl | h'
      · exact (hon x).2 (.inr (hp x hx))
      · exact (hon x).2 (.inr (h.clo k h' x hx))
  cases hd : (op ops i).dst with
  | none =>
    rw [hd] at hK
    exact main s (fun d hd' => by rw [hd] at hd'; cases hd') (fun _ => rfl) hK
  | some d =>
    rw [hd] at hK
    simp only [putK, stK_eq] at hK
    exact main _ (fun d' hd' => by rw [hd] at hd'; simp at hd'; rw [hd']) (fun hd' => by rw [hd] at hd'; cases hd') hK

/-- Memory that is there becomes an object. -/
theorem Sat.adopt (hS : Sat w g O) {b : Nat} {cs : List AV} {c : Array Value} {t : TypeId} (hc : w.heap[b]? = some (.cells c t (0, 0))) (hlt : b < w.heap.size) (ho : g.own b = none) (hi : g.imm b = none)
    (hv : ValL g cs c.toList) : Sat w (g.push b true (0, .nilFunc)) (O ++ [.cells cs]) := by
  refine ⟨by simp [Gh.push, hS.n], hS.imm, ?_, ?_⟩
  · intro k o' hk
    rcases Nat.lt_or_ge k O.length with hlt' | hge
    · rw [List.getElem?_append_left hlt'] at hk
      have hkn : k < g.n := by rw [← hS.n]; exact hlt'
      refine SatO.keep (Gh.le_push g b true _) hkn (by simp [Gh.push]; omega) (fun x hx => ?_) (hS.obj k o' hk)
      refine ⟨rfl, ?_, rfl⟩
      simp only [Gh.push]
      rw [if_neg]
      · exact hx
      · rintro ⟨_, rfl⟩
        rw [ho] at hx; cases hx
    · rw [List.getElem?_append_right hge] at hk
      have : k - O.length = 0 := by
        rcases Nat.eq_zero_or_pos (k - O.length) with h | h
        · exact h
        · rw [List.getElem?_eq_none (by simp; omega)] at hk; cases hk
      rw [this] at hk
      simp at hk; subst hk
      have hkn : k = g.n := by have := hS.n; omega
      subst hkn
      exact ⟨c, t, by simp [Gh.push]; exact hc, by simp [Gh.push], by simp [Gh.push]; exact hi, by simp [Gh.push], ValL_mono (Gh.le_push _ _ _ _) _ _ hv⟩
  · intro x k hx
    simp only [Gh.push] at hx
    split at hx
    · rename_i h
      simp at hx; subst hx
      exact ⟨by rw [h.2]; exact hlt, by simp [Gh.push]⟩
    · have := hS.own x k hx
      exact ⟨this.1, by simp [Gh.push]; omega⟩

theorem Sat.grow {w' : World} (hS : Sat w g O) (hsz : w.heap.size ≤ w'.heap.size) (hh : ∀ i, i < w.heap.size → w'.heap[i]? = w.heap[i]?) : Sat w' g O := by
  refine ⟨hS.n, fun x ys hx => ?_, fun k o hk => ?_, fun b k hb => ?_⟩
  · obtain ⟨c, t, f, h1, h2⟩ := hS.imm x ys hx
    exact ⟨c, t, f, by rw [hh x (hS.imm_lt hx)]; exact h1, h2⟩
  · have hkn : k < g.n := by rw [← hS.n]; exact (List.getElem?_eq_some_iff.1 hk).1
    exact SatO.keep (Gh.le_refl g) hkn rfl (fun b hb => ⟨hh b (hS.own b k hb).1, hb, rfl⟩) (hS.obj k o hk)
  · have := hS.own b k hb
    exact ⟨by omega, this.2⟩

/-- What was taken ahead of its turn is next in the order. -/
theorem Mid.adopt {i : Nat} (h : Mid τ lt s0 hb ops listed a w g s O D E (i :: r)) (hon : On listed i) (hx : Nxt τ lt s0 Γ ops K i r D s O true) :
    ∃ g' s' O' E', g.le g' ∧ (∀ b, b < hb → g'.own b = g.own b) ∧ g'.imm = g.imm ∧ Mid τ lt s0 hb ops listed a w g' s' O' (i :: D) E' r ∧ opsD τ lt s0 Γ ops (preds ops []) r (i :: D) s' O' K := by
  obtain ⟨h1, h2, h3, h4, h5⟩ := ord_cons h.ord
  obtain ⟨bl, b1, b2⟩ := h.pnd
  obtain ⟨k0, hal, k2, k3, k4, k5, k6, k7⟩ := b2 i hon h2
  obtain ⟨hg, t, hop, hk, hbl⟩ := isAl_spec hal
  obtain ⟨z, z1, z2, z3⟩ := k6 t hop
  have heff := isAl_eff (lt := lt) hal
  unfold Nxt at hx
  dsimp only at hx
  rw [fS_eq, fS_eq] at hx
  unfold opKD at hx
  rw [heff] at hx
  dsimp only at hx
  rw [hop] at hx
  simp only [effK] at hx
  split at hx
  case h_2 => exact hx.elim
  case h_1 =>
    · rw [hbl] at hx
      dsimp only at hx
      rw [fL_eq, apK_eq, ln_eq, fA_eq] at hx
      have hv := ValL_vD (g := g) z.cells.toList z2
      rw [z1, ← mp1_eq] at hv
      have hS' := h.sat.adopt z3 k3 k4 k5 hv
      obtain ⟨s', E', hm, ho⟩ := h.effd heff (fun x hx => h.clo i hon x hx) (listed' := listed) (a' := a) (w' := w) (g' := g.push (bl i) true (0, .nilFunc)) (u := .pointer (some ⟨bl i, 0, none⟩)) rfl
        (fun k => ⟨.inr, fun h => h.elim (fun e => e ▸ hon) id⟩) h.dfr rfl (fun t => by
          split
          · rename_i hd; exact k7 t hd.1
          · rfl) hS' (Gh.le_push _ _ _ _) (by
            have := h.sat.n
            refine ⟨by simp [Gh.push]; omega, ?_⟩
            rw [this]; simp [Gh.push])
        ⟨bl, fun j k hj hjD hk hkD => b1 j k hj (fun h => hjD (List.mem_cons_of_mem _ h)) hk (fun h => hkD (List.mem_cons_of_mem _ h)), fun k hk hkD => by
          have hkD' : k ∉ D := fun h => hkD (List.mem_cons_of_mem _ h)
          obtain ⟨q0, q1, q2, q3, q4, q5, q6, q7⟩ := b2 k hk hkD'
          refine ⟨q0, q1, q2, q3, ?_, q5, q6, q7⟩
          simp only [Gh.push]
          rw [if_neg]
          · exact q4
          · rintro ⟨_, he⟩
            exact hkD (by rw [b1 k i hk hkD' hon h2 he]; simp)⟩ hx
      refine ⟨_, s', _, E', Gh.le_push _ _ _ _, fun b hb' => ?_, rfl, hm, ho⟩
      simp only [Gh.push]
      rw [if_neg]
      rintro ⟨_, rfl⟩
      omega

/-- In the order, all is reckoned with up to an effect that is wanted, and has not come up. -/
theorem Mid.norm {g0 : Gh} {w0 : World} : ∀ {r : List Nat} {g : Gh} {s : List AV} {O : List Obj} {D E : List Nat}, Mid τ lt s0 w0.heap.size ops listed a w g s O D E r → opsD τ lt s0 Γ ops (preds ops []) r D s O K → g0.le g → Fr w0 w g0 g →
    ∃ g' s' O' D' E' r', g0.le g' ∧ Fr w0 w g0 g' ∧ Mid τ lt s0 w0.heap.size ops listed a w g' s' O' D' E' r' ∧
      ((r' = [] ∧ K s' O') ∨ ∃ i r'', r' = i :: r'' ∧ ¬ On listed i ∧ isEffD τ lt (op ops i).op = true ∧ Wanted ops (pr ops i) s' (op ops i) true ∧ Nxt τ lt s0 Γ ops K i r'' D' s' O' true)
  | [], g, s, O, D, E, h, hx, hl, hf => ⟨g, s, O, D, E, [], hl, hf, h, .inl ⟨rfl, hx⟩⟩
  | i :: r, g, s, O, D, E, h, hx, hl, hf => by
    obtain ⟨b, s2, hw, he, hn⟩ := nxt_of hx
    have h := h.eqv he
    by_cases hc : b = true ∧ isEffD τ lt (op ops i).op = true
    · obtain ⟨rfl, hc⟩ := hc
      by_cases hon : On listed i
      · obtain ⟨g', s', O', E', a1, a2, a3, a4, a5⟩ := h.adopt hon hn
        exact a4.norm a5 (Gh.le_trans hl a1) ⟨hf.size, hf.os, hf.tape, hf.out, hf.heap, fun b hb ho => by rw [a3]; exact hf.imm b hb ho, fun b hb ho => by rw [a2 b hb]; exact hf.own b hb ho⟩
      · exact ⟨g, s2, O, D, E, i :: r, hl, hf, h, .inr ⟨i, r, rfl, hon, hc, hw, hn⟩⟩
    · obtain ⟨s', E', h', hx'⟩ := h.virt hw hn (fun hb => by
        cases he : isEffD τ lt (op ops i).op with
        | false => rfl
        | true => exact absurd ⟨hb, he⟩ hc)
      exact h'.norm hx' hl hf

theorem Mid.norm2 {g0 : Gh} {w0 : World} (h : Mid τ lt s0 w0.heap.size ops listed a w g s O D E r) (hx : Rst τ lt s0 Γ ops K r D s O) (hl : g0.le g) (hf : Fr w0 w g0 g) :
    ∃ g' s' O' D' E' r', g0.le g' ∧ Fr w0 w g0 g' ∧ Mid τ lt s0 w0.heap.size ops listed a w g' s' O' D' E' r' ∧
      ((r' = [] ∧ K s' O') ∨ ∃ i r'', r' = i :: r'' ∧ ¬ On listed i ∧ isEffD τ lt (op ops i).op = true ∧ Wanted ops (pr ops i) s' (op ops i) true ∧ Nxt τ lt s0 Γ ops K i r'' D' s' O' true) := by
  rcases hx with hx | ⟨i, r', rfl, h1, h2, h3⟩
  · exact h.norm hx hl hf
  · by_cases hon : On listed i
    · obtain ⟨g', s', O', E', a1, a2, a3, a4, a5⟩ := h.adopt hon h3
      exact a4.norm a5 (Gh.le_trans hl a1) ⟨hf.size, hf.os, hf.tape, hf.out, hf.heap, fun b hb ho => by rw [a3]; exact hf.imm b hb ho, fun b hb ho => by rw [a2 b hb]; exact hf.own b hb ho⟩
    · exact ⟨g, s, O, D, E, _, hl, hf, h, .inr ⟨i, r', rfl, hon, h1, h2, h3⟩⟩

theorem alloc_run (hτ : Tok P τ) {o : Oper} {t : Nat} (ho : o.op = .alloc t) (hk : (tg τ t).kind ≠ .other) (ev : Operand → Value) (w : World) :
    ∃ z : Value, z.cells.toList.map vD = (tg τ t).zero ∧ z.cells.toList.all oneV = true ∧ (execOp ev o).run P w = .ok (.value (.pointer (some ⟨w.heap.size, 0, none⟩))) (w.alloc (.cells z.cells t)) := by
  obtain ⟨dst, op, ty, pos, aft, gd⟩ := o
  dsimp only at ho; subst ho
  obtain ⟨z, hz, hc, hs, _, hone⟩ := (hτ.of_kind (t := t) hk).zero w
  exact ⟨z, hc, hone, by simp [execOp, Instr.alloc, hz, newVar, newRow]⟩

/-- Memory is taken ahead of its turn. -/
theorem Mid.early {i : Nat} (h : Mid τ lt s0 hb ops listed a w g s O D E r) (hi : i < ops.length) (hD : i ∉ D) (hno : ¬ On listed i) (hal : isAl τ (op ops i) = true) (hp : ∀ x ∈ pr ops i, On listed x) (hbw : hb ≤ w.heap.size)
    {t : Nat} (ht : (op ops i).op = .alloc t) {z : Value} (z1 : z.cells.toList.map vD = (tg τ t).zero) (z2 : z.cells.toList.all oneV = true) :
    Fr w (w.alloc (.cells z.cells t)) g g ∧ Mid τ lt s0 hb ops (listed.setIfInBounds i true) (a.put (op ops i).dst (.pointer (some ⟨w.heap.size, 0, none⟩))) (w.alloc (.cells z.cells t)) g s O D E r := by
  have hh : ∀ i, i < w.heap.size → (w.alloc (.cells z.cells t)).heap[i]? = w.heap[i]? := by
    intro i hi
    show (w.heap.push _)[i]? = _
    rw [Array.getElem?_push, if_neg (by omega)]
  have hsz' : (w.alloc (.cells z.cells t)).heap.size = w.heap.size + 1 := by simp
  have hfr : Fr w (w.alloc (.cells z.cells t)) g g := ⟨by omega, rfl, rfl, rfl, fun b hb _ => hh b hb, fun _ _ _ => rfl, fun _ _ h => h⟩
  have hls : i < listed.size := by rw [h.lsz]; exact hi
  have hon : ∀ k, On (listed.setIfInBounds i true) k ↔ k = i ∨ On listed k := fun k => On_set hls
  have hsz : ∀ u, (a.put (op ops i).dst u).tmps.size = a.tmps.size := by intro u; cases (op ops i).dst <;> simp [Act.put]
  refine ⟨hfr, h.sat.grow (by omega) hh, by have := h.dfr; cases (op ops i).dst <;> simpa [Act.put] using this, by rw [hsz]; exact h.len, h.dst, by simp [h.lsz], fun t' ht' => ?_, fun t' ht' => ?_, fun k hk => ?_, ?_, fun k hk x hx => ?_, h.ord⟩
  · rw [getD_put, if_neg (fun hd => hD (ht' i hi hd.1).2)]
    refine h.val t' (fun k hk hkd => ⟨((hon k).1 (ht' k hk hkd).1).resolve_left ?_, (ht' k hk hkd).2⟩)
    rintro rfl; exact hD (ht' k hk hkd).2
  · rw [getD_put, if_neg (fun hd => ht' i hi hd.1 ((hon i).2 (.inl rfl)))]
    exact h.val0 t' (fun k hk hkd hk' => ht' k hk hkd ((hon k).2 (.inr hk')))
  · obtain ⟨k1, k2, k3⟩ := h.don k hk
    exact ⟨k1, k2.imp (fun h' => (hon k).2 (.inr h')) id, k3⟩
  · obtain ⟨bl, b1, b2⟩ := h.pnd
    refine ⟨fun k => if k = i then w.heap.size else bl k, fun j k hj hjD hk hkD he => ?_, fun k hk hkD => ?_⟩
    · dsimp only at he
      by_cases hji : j = i <;> by_cases hki : k = i
      · rw [hji, hki]
      · rw [if_pos hji, if_neg hki] at he
        have := (b2 k (((hon k).1 hk).resolve_left hki) hkD).2.2.2.1
        omega
      · rw [if_neg hji, if_pos hki] at he
        have := (b2 j (((hon j).1 hj).resolve_left hji) hjD).2.2.2.1
        omega
      · rw [if_neg hji, if_neg hki] at he
        exact b1 j k (((hon j).1 hj).resolve_left hji) hjD (((hon k).1 hk).resolve_left hki) hkD he
    · dsimp only
      by_cases hki : k = i
      · subst hki
        rw [if_pos rfl]
        obtain ⟨o1, o2⟩ := own_fresh h.sat (Nat.le_refl _)
        refine ⟨hi, hal, hbw, by omega, o1, o2, fun t' ht' => ?_, fun d hd => ?_⟩
        · rw [ht] at ht'
          have : t = t' := by simpa using ht'
          subst this
          refine ⟨z, z1, z2, ?_⟩
          show (w.heap.push _)[w.heap.size]? = _
          simp
        · rw [getD_put, if_pos ⟨hd, by rw [← h.len]; exact h.dst.lt k d hi hd⟩]
      · rw [if_neg hki]
        obtain ⟨q0, q1, q2, q3, q4, q5, q6, q7⟩ := b2 k (((hon k).1 hk).resolve_left hki) hkD
        refine ⟨q0, q1, q2, by omega, q4, q5, fun t' ht' => ?_, fun d hd => ?_⟩
        · obtain ⟨z', y1, y2, y3⟩ := q6 t' ht'
          exact ⟨z', y1, y2, by rw [hh _ q3]; exact y3⟩
        · rw [getD_put, if_neg]
          · exact q7 d hd
          · rintro ⟨hd', _⟩
            exact hki (h.dst.inj k i d q0 hi hd hd')
  · rcases (hon k).1 hk with rfl | h'
    · exact (hon x).2 (.inr (hp x hx))
    · exact (hon x).2 (.inr (h.clo k h' x hx))

/-- One operation of a region comes up, whichever. -/
theorem mid_step (hτ : Tok P τ) {B : World} (hΓ : AllValid P B Γ) {Q : Exit → Act → World → Prop} {i : Nat} (hr : i ∈ Region.ready .any ops.toArray listed) {g0 : Gh} {w0 : World} (hG : GI B w0 g0) (hl : g0.le g) (hf : Fr w0 w g0 g)
    (h : Mid τ lt s0 w0.heap.size ops listed a w g s O D E r) (hx : Rst τ lt s0 Γ ops K r D s O) {next : Act → World → Prop}
    (hn : ∀ a' w' g' s' O' D' E' r', g0.le g' → Fr w0 w' g0 g' → Mid τ lt s0 w0.heap.size ops (listed.setIfInBounds i true) a' w' g' s' O' D' E' r' → Rst τ lt s0 Γ ops K r' D' s' O' → next a' w') :
    wpOp P ops.toArray Q i next a w := by
  obtain ⟨hun, o, ho, hall⟩ := mem_ready.1 hr
  have hi : i < ops.length := by
    have := (Array.getElem?_eq_some_iff.1 ho).1
    simpa using this
  have hoi : o = op ops i := by
    have h1 : ops[i]? = some o := by simpa using ho
    rw [op_get hi] at h1; simpa using h1.symm
  subst hoi
  have hp : ∀ x ∈ pr ops i, On listed x := by
    intro x hx
    obtain ⟨j, hj, h1⟩ := (mem_preds (op_get hi)).1 hx
    obtain ⟨e, he, hb, hej⟩ := mem_after1.1 hj
    have hon : On listed j := by
      have := hall e (by simpa using he) hb
      rw [hej] at this; exact this
    rcases h1 with rfl | ⟨_, h1⟩
    · exact hon
    · exact h.clo j hon x h1
  have hnot : ¬ On listed i := by
    intro h'
    have : i < listed.size := by rw [h.lsz]; exact hi
    unfold On at h'
    simp [this] at h' hun
    rw [hun] at h'; cases h'
  obtain ⟨g, s, O, D, E, r, hl, hf, h, hend⟩ := h.norm2 hx hl hf
  have hrst : Rst τ lt s0 Γ ops K r D s O := by
    rcases hend with ⟨rfl, hK⟩ | ⟨e, r', rfl, _, h1, h2, h3⟩
    · exact .inl hK
    · exact .inr ⟨e, r', rfl, h1, h2, h3⟩
  unfold wpOp
  rw [ho]
  dsimp only
  by_cases hD : i ∈ D
  · -- it has been reckoned with
    have hp2 : ∀ x ∈ pr ops i, On listed x ∧ x ∈ D := fun x hx => ⟨hp x hx, (h.don i hD).2.2 x hx⟩
    rcases (h.don i hD).2.1 with h' | ⟨s1, hs1, b, hw, hb⟩
    · exact absurd h' hnot
    · rw [h.wanted hs1 hp2 hw]
      cases b with
      | false =>
        simp only [Bool.false_eq_true, if_false]
        exact hn _ _ g s O D E r hl hf (h.came hD hp (u := undef) (fun d hd => hb d hd _ _ rfl)) hrst
      | true =>
        simp only [if_true]
        obtain ⟨hne, hev⟩ := hb
        left
        refine op_sound hτ hΓ (hG.fr hf) h.sat (h.evm hnot hs1 hp2) (op ops i) (evKD_op hne hev) ?_
        rintro v u O' w' g' ⟨hK, rfl⟩ hv hS' hl' hf'
        exact hn _ _ g' s _ D E r (Gh.le_trans hl hl') (hf.trans hf') ((h.mono hl' hf' hS').came hD hp (u := u) (fun d hd => hK d hd _ _ hv)) hrst
  · have hr' := (ord_all h.ord i hi).resolve_left hD
    rcases hend with ⟨rfl, _⟩ | ⟨e, r', rfl, hno, heff, hw, hop⟩
    · simp at hr'
    · obtain ⟨h1, h2, h3, h4, h5⟩ := ord_cons h.ord
      by_cases hie : i = e
      · -- it is the effect that comes next
        subst hie
        have hp2 : ∀ x ∈ pr ops i, On listed x ∧ x ∈ D := fun x hx => ⟨hp x hx, h4 x hx⟩
        rw [h.wanted (fun _ _ => Wk.rfl) hp2 hw]
        simp only [if_true]
        left
        unfold Nxt at hop
        dsimp only at hop
        rw [fS_eq, fS_eq] at hop
        refine op_sound hτ hΓ (hG.fr hf) h.sat (h.evm hnot (fun _ _ => Wk.rfl) hp2) (op ops i) (opKD_op hop) ?_
        intro v u O' w' g' hK hv hS' hl' hf'
        rw [heff] at hK
        have hls : i < listed.size := by rw [h.lsz]; exact hi
        have hon : ∀ k, On (listed.setIfInBounds i true) k ↔ k = i ∨ On listed k := fun k => On_set hls
        have hon' : ∀ k, k ∉ i :: D → On (listed.setIfInBounds i true) k → On listed k := fun k hk hk' => ((hon k).1 hk').resolve_left (fun e => hk (by rw [e]; simp))
        obtain ⟨s', E', hm, ho'⟩ := h.effd heff hp (listed' := listed.setIfInBounds i true) (a' := a.put (op ops i).dst u) (by simp) hon (by have := h.dfr; cases (op ops i).dst <;> simpa [Act.put] using this)
          (by cases (op ops i).dst <;> simp [Act.put]) (fun t => getD_put) hS' hl' hv
          ((h.pnd.mono hf').up (fun k hk hk' => ⟨hon' k hk hk', fun hD => hk (List.mem_cons_of_mem _ hD)⟩) (fun k d hk hkD hkd => by
            rw [getD_put, if_neg]
            rintro ⟨hd, _⟩
            obtain ⟨bl, _, b2⟩ := h.pnd
            have := h.dst.inj i k d hi (b2 k (hon' k hkD hk) (fun hD => hkD (List.mem_cons_of_mem _ hD))).1 hd hkd
            subst this; exact hkD (by simp))) hK
        exact hn _ _ g' s' O' (i :: D) E' r' (Gh.le_trans hl hl') (hf.trans hf') hm (.inl ho')
      · -- it takes memory, ahead of its turn
        have hir : i ∈ r' := (List.mem_cons.1 hr').resolve_left hie
        have hal : isAl τ (op ops i) = true := by
          cases hal : isAl τ (op ops i) with
          | true => rfl
          | false =>
            exfalso
            rw [heff] at h5
            exact hno (hp e (ord_eff h5 e (by simp) i hir hal))
        obtain ⟨hg, t, hot, hk, _⟩ := isAl_spec hal
        have hwt : Region.wanted (op ops i) (yielded ops.toArray a.tmps) = true := by
          unfold Region.wanted; rw [hg]
        rw [hwt]
        simp only [if_true]
        left
        obtain ⟨z, z1, z2, z3⟩ := alloc_run hτ hot hk a.eval w
        unfold Oper.wp
        rw [z3]
        obtain ⟨hf', hm⟩ := h.early hi hD hnot hal hp hf.size hot z1 z2
        exact hn _ _ g s O D E _ hl (hf.trans hf') hm hrst

theorem ValL_of_get {g : Gh} : ∀ {cs : List AV} {us : List Value}, cs.length = us.length → (∀ t, Val g (nth cs t .junk) (us.getD t undef)) → ValL g cs us
  | [], [], _, _ => trivial
  | c :: cs, u :: us, hl, h => ⟨by simpa [nth] using h 0, ValL_of_get (by simpa using hl) (fun t => by simpa [nth] using h (t + 1))⟩
  | [], _ :: _, hl, _ => by simp at hl
  | _ :: _, [], hl, _ => by simp at hl

/-- All have come up. -/
theorem mid_end {g0 : Gh} {w0 : World} (hl : g0.le g) (hf : Fr w0 w g0 g) (h : Mid τ lt s0 w0.heap.size ops listed a w g s O D E r) (hx : Rst τ lt s0 Γ ops K r D s O) (hall : ∀ i, i < ops.length → On listed i) :
    ∃ s' O' g', K s' O' ∧ Fst a w g' s' O' ∧ g0.le g' ∧ Fr w0 w g0 g' := by
  obtain ⟨g, s, O, D, E, r, hl, hf, h, hend⟩ := h.norm2 hx hl hf
  rcases hend with ⟨rfl, hK⟩ | ⟨e, r', rfl, hno, _⟩
  · refine ⟨s, O, g, hK, ⟨h.sat, ?_, h.dfr⟩, hl, hf⟩
    exact ValL_of_get (by rw [h.len]; simp) (fun t => h.val t (fun i hi _ => ⟨hall i hi, (ord_all h.ord i hi).resolve_right (by simp)⟩))
  · obtain ⟨h1, h2, _⟩ := ord_cons h.ord
    exact absurd (hall e h1) hno

/-- While one has not come up, one may. -/
theorem ord_first {listed : Array Bool} : ∀ {r D E : List Nat}, ordOk τ lt ops (preds ops []) D E r = true → (∀ k ∈ D, On listed k) → (∃ i ∈ r, ¬ On listed i) → ∃ j, j < ops.length ∧ ¬ On listed j ∧ ∀ x ∈ pr ops j, On listed x
  | [], D, E, _, _, ⟨i, hi, _⟩ => by simp at hi
  | j :: r, D, E, h, hD, ⟨i, hi, hno⟩ => by
    obtain ⟨h1, h2, h3, h4, h5⟩ := ord_cons h
    by_cases hj : On listed j
    · refine ord_first h5 (fun k hk => ?_) ⟨i, ?_, hno⟩
      · rcases List.mem_cons.1 hk with rfl | hk
        · exact hj
        · exact hD k hk
      · rcases List.mem_cons.1 hi with rfl | hi
        · exact absurd hj hno
        · exact hi
    · exact ⟨j, h1, hj, fun x hx => hD x (h4 x hx)⟩

theorem mid_ready {listed : Array Bool} {r0 : List Nat} (hr0 : ordOk τ lt ops (preds ops []) [] [] r0 = true) (hsz : listed.size = ops.length) {i : Nat} (hi : i < ops.length) (hno : ¬ On listed i) :
    Region.ready .any ops.toArray listed ≠ [] := by
  obtain ⟨j, h1, h2, h3⟩ := ord_first (listed := listed) hr0 (fun k hk => by simp at hk) ⟨i, (ord_all hr0 i hi).resolve_left (by simp), hno⟩
  have hj : j ∈ Region.ready .any ops.toArray listed := by
    refine mem_ready.2 ⟨?_, op ops j, by simpa using op_get h1, fun e he hb => ?_⟩
    · have : j < listed.size := by rw [hsz]; exact h1
      unfold On at h2
      simp [this] at h2 ⊢; exact h2
    · exact h3 e.on ((mem_preds (op_get h1)).2 ⟨e.on, mem_after1.2 ⟨e, by simpa using he, hb, rfl⟩, .inl rfl⟩)
  intro h'
  rw [h'] at hj; cases hj

/-- Whatever order is picked. -/
theorem mid_any (hτ : Tok P τ) {B : World} (hΓ : AllValid P B Γ) {Q : Exit → Act → World → Prop} {r0 : List Nat} (hr0 : ordOk τ lt ops (preds ops []) [] [] r0 = true) {g0 : Gh} {w0 : World} (hG : GI B w0 g0)
    (hQ : ∀ a w g s O, K s O → Fst a w g s O → g0.le g → Fr w0 w g0 g → Q .normal a w) :
    ∀ (fuel : Nat) (listed : Array Bool) (U : List Nat) (a : Act) (w : World) (g : Gh) (s : List AV) (O : List Obj) (D E r : List Nat), U.length ≤ fuel → (∀ i, i < ops.length → ¬ On listed i → i ∈ U) →
      g0.le g → Fr w0 w g0 g → Mid τ lt s0 w0.heap.size ops listed a w g s O D E r → Rst τ lt s0 Γ ops K r D s O → wpAny P .any ops.toArray Q fuel listed a w := by
  intro fuel
  induction fuel with
  | zero =>
    intro listed U a w g s O D E r hU hUn hl hf h hx
    have hU0 : U = [] := List.eq_nil_of_length_eq_zero (by omega)
    have hall : ∀ i, i < ops.length → On listed i := fun i hi => by
      apply Classical.byContradiction
      intro hno
      have := hUn i hi hno
      rw [hU0] at this; simp at this
    refine ⟨?_, ?_⟩
    · cases hrd : Region.ready .any ops.toArray listed with
      | nil => rfl
      | cons j js =>
        exfalso
        have hj : j ∈ Region.ready .any ops.toArray listed := by rw [hrd]; simp
        obtain ⟨hun, o, ho, _⟩ := mem_ready.1 hj
        have hjl : j < ops.length := by
          have := (Array.getElem?_eq_some_iff.1 ho).1
          simpa using this
        have := hall j hjl
        have hjs : j < listed.size := by rw [h.lsz]; exact hjl
        unfold On at this
        simp [hjs] at this hun
        rw [hun] at this; cases this
    · obtain ⟨s', O', g', hK, hs, hl', hf'⟩ := mid_end hl hf h hx hall
      exact hQ _ _ _ _ _ hK hs hl' hf'
  | succ fuel ih =>
    intro listed U a w g s O D E r hU hUn hl hf h hx
    refine ⟨fun hrd => ?_, fun i hi => ?_⟩
    · have hall : ∀ i, i < ops.length → On listed i := fun i hi => by
        apply Classical.byContradiction
        intro hno
        exact mid_ready hr0 h.lsz hi hno hrd
      obtain ⟨s', O', g', hK, hs, hl', hf'⟩ := mid_end hl hf h hx hall
      exact hQ _ _ _ _ _ hK hs hl' hf'
    · have hil : i < ops.length := by
        obtain ⟨_, o, ho, _⟩ := mem_ready.1 hi
        have := (Array.getElem?_eq_some_iff.1 ho).1
        simpa using this
      have hno : ¬ On listed i := by
        obtain ⟨hun, _⟩ := mem_ready.1 hi
        intro h'
        have : i < listed.size := by rw [h.lsz]; exact hil
        unfold On at h'
        simp [this] at h' hun
        rw [hun] at h'; cases h'
      have hiU := hUn i hil hno
      refine mid_step hτ hΓ hi hG hl hf h hx (fun a' w' g' s' O' D' E' r' hl' hf' h' hx' => ?_)
      refine ih _ (U.erase i) a' w' g' s' O' D' E' r' ?_ (fun k hk hkn => ?_) hl' hf' h' hx'
      · rw [List.length_erase_of_mem hiU]; omega
      · have hki : k ≠ i := by
          rintro rfl
          exact hkn ((On_set (by rw [h.lsz]; exact hil)).2 (.inl rfl))
        exact (List.mem_erase_of_ne hki).2 (hUn k hk (fun ho => hkn ((On_set (by rw [h.lsz]; exact hil)).2 (.inr ho))))

theorem Sat.drew (h : Sat w g O) : Sat { w with drawn := w.drawn + 1 } g O := by
  refine ⟨h.n, h.imm, fun k o hk => ?_, h.own⟩
  have := h.obj k o hk
  cases o with
  | cells cs => exact this
  | row v s z xs =>
    obtain ⟨a, cap, h1, h2⟩ := this
    exact ⟨a, cap, h1, h2.len, h2.elen, h2.mem⟩
  | map => exact this
  | dead => exact this.elim

/-- A region that draws its order, in one of the two ways of reckoning. -/
theorem regD_sound1 (hm : P.follows .mixedOrders = true) (hτ : Tok P τ) {B : World} (hΓ : AllValid P B Γ) {id : Nat} {Q : Exit → Act → World → Prop} {w0 : World} {g0 : Gh} (hG : GI B w0 g0)
    (hQ : ∀ a w g s O, K s O → Fst a w g s O → g0.le g → Fr w0 w g0 g → Q .normal a w) (hs : Fst a w g s O) (hl : g0.le g) (hf : Fr w0 w g0 g) (hd : dstOk (ln s) ops [] = true)
    (ho : ordOk τ lt ops (preds ops []) [] [] (mkOrd τ lt ops (preds ops []) (ln ops) []) = true) (h : opsD τ lt s Γ ops (preds ops []) (mkOrd τ lt ops (preds ops []) (ln ops) []) [] s O K) :
    (Code.region id ops.toArray true).wp P Q a w := by
  obtain ⟨d1, d2⟩ := dstOk_spec hd
  refine wp_region_any hm (mid_any hτ hΓ ho hG hQ _ _ (List.range ops.length) a _ g s O [] [] (mkOrd τ lt ops (preds ops []) (ln ops) []) (by simp) (fun i hi _ => by simpa using hi) hl ?_ ?_ (.inl h))
  · exact ⟨hf.size, hf.os, hf.tape, hf.out, hf.heap, hf.imm, hf.own⟩
  · have hlen : s.length = a.tmps.size := by rw [ValL_length hs.val]; simp
    have hoff : ∀ k, ¬ On (Array.replicate ops.toArray.size false) k := fun k => by
      unfold On
      simp [Array.getElem?_replicate]
      split <;> simp
    refine ⟨hs.sat.drew, hs.dfr, hlen, ⟨fun i d hi hd => ?_, fun i j d hi hj hd hd' => d2 i j _ _ d (op_get hi) (op_get hj) hd hd'⟩, by simp, fun t _ => ?_, fun t _ => ?_, fun k hk => by simp at hk, ⟨fun k => k, fun j _ hj => absurd hj (hoff j), fun k hk => absurd hk (hoff k)⟩, fun k hk => absurd hk (hoff k), ho⟩
    · have := (d1 i _ d (op_get hi) hd).1
      rw [ln_eq] at this; exact this
    · have := ValL_get hs.val t
      rw [nth_eq]; exact this
    · have := ValL_get hs.val t
      rw [nth_eq]; exact this

end
end
end
end Ab

/- The frame 'Ab' is sound, sixteenth part: loops; code. -/
namespace Ab
open Go
set_option linter.unusedSimpArgs false
set_option linter.unusedVariables false

section
variable {P : Program} {τ : Tab} {w : World} {g : Gh} {O : List Obj}

theorem ValL_set_same {h : Gh} {cs : List AV} {us : List Value} (hv : ValL h cs us) {n : Nat} {v : AV} (hx : Val h v (us.getD n undef)) : ValL h (cs.set n v) us := by
  have := ValL_set hv n hx
  have he : us.set n (us.getD n undef) = us := by
    apply List.ext_getElem?
    intro i
    rw [List.getElem?_set]
    split
    · rename_i hdi; subst hdi
      split
      · rename_i hlt
        rw [List.getD_eq_getElem?_getD, List.getElem?_eq_getElem hlt]; rfl
      · rename_i hlt
        rw [List.getElem?_eq_none (by omega)]
    · rfl
  rwa [he] at this

theorem junkW_val {h : Gh} {W : List Nat} : ∀ {cs : List AV} {us : List Value} (n : Nat), ValL h cs us → ValL h (junkW W cs n) us
  | [], [], _, _ => trivial
  | c :: cs, u :: us, n, ⟨h1, h2⟩ => by
    unfold junkW
    refine ⟨?_, junkW_val (n + 1) h2⟩
    split
    · trivial
    · exact h1

theorem setKeys_val {h : Gh} {R : Ren} {s : List AV} {us : List Value} (hs : ∀ n, Val h (ren R (nth s n .junk)) (us.getD n undef)) : ∀ {vals : List (Nat × AV)} {base : List AV}, ValL h base us → keysOk R s vals →
    ValL h (setKeys base vals) us
  | [], _, hb, _ => hb
  | (n, v) :: vals, base, hb, ⟨hk, hr⟩ => by
    unfold setKeys
    rw [st_eq]
    exact setKeys_val hs (ValL_set_same hb (hk _ _ (hs n))) hr

theorem rlook_headR : ∀ {ts : List Obj} {k0 k : Nat} {r}, rlook (headR O ts k0) k = some r → ∃ j t, k = k0 + j ∧ ts[j]? = some t ∧ r = (k, ver O k, vO t)
  | [], _, _, _, h => by simp [headR, rlook] at h
  | t :: ts, k0, k, r, h => by
    unfold headR rlook at h
    split at h
    · rename_i hb
      have := Nat.eq_of_beq_eq_true hb; subst this
      simp at h; subst h
      exact ⟨0, t, by simp, by simp, rfl⟩
    · obtain ⟨j, t', h1, h2, h3⟩ := rlook_headR h
      exact ⟨j + 1, t', by omega, by simpa using h2, h3⟩

theorem rlook_baseR : ∀ {ts : List Obj} {k0 k : Nat} {r}, rlook (baseR O ts k0) k = some r → ∃ j t, k = k0 + j ∧ ts[j]? = some t ∧ r = (k, (match vO t with | 0 => ver O k | _ + 1 => ver O k + 1), 0)
  | [], _, _, _, h => by simp [baseR, rlook] at h
  | t :: ts, k0, k, r, h => by
    unfold baseR rlook at h
    split at h
    · rename_i hb
      have := Nat.eq_of_beq_eq_true hb; subst this
      simp at h; subst h
      exact ⟨0, t, by simp, by simp, rfl⟩
    · obtain ⟨j, t', h1, h2, h3⟩ := rlook_baseR h
      exact ⟨j + 1, t', by omega, by simpa using h2, h3⟩

theorem versOk_get : ∀ {O ts : List Obj}, versOk O ts = true → ∀ (k : Nat) (t : Obj), ts[k]? = some t → ∃ o : Obj, O[k]? = some o ∧
    ((∃ v s z xs v' s' z' xs', o = Obj.row v s z xs ∧ t = Obj.row v' s' z' xs' ∧ (v' = 0 → v = 0)) ∨ ((∀ v s z xs, o ≠ Obj.row v s z xs) ∧ (∀ v s z xs, t ≠ Obj.row v s z xs)))
  | _, [], _, k, t, h => by simp at h
  | [], _ :: _, h, _, _, _ => by simp [versOk] at h
  | o :: O, t :: ts, h, k, t', hk => by
    unfold versOk at h
    split at h
    · rename_i hc
      cases k with
      | succ k =>
        obtain ⟨o', h1, h2⟩ := versOk_get h k t' (by simpa using hk)
        exact ⟨o', by simpa using h1, h2⟩
      | zero =>
        simp at hk; subst hk
        refine ⟨o, by simp, ?_⟩
        cases o with
        | row v s z xs =>
          cases t with
          | row v' s' z' xs' =>
            left
            refine ⟨v, s, z, xs, v', s', z', xs', rfl, rfl, fun e => ?_⟩
            subst e
            exact Nat.eq_of_beq_eq_true hc
          | _ => cases hc
        | _ =>
          cases t with
          | row => cases hc
          | _ =>
            right
            exact ⟨fun _ _ _ _ e => (by cases e), fun _ _ _ _ e => (by cases e)⟩
    · cases h

theorem headO_get {R : Ren} : ∀ {O ts : List Obj} {k : Nat} {o t : Obj}, O[k]? = some o → ts[k]? = some t →
    (headO R O ts)[k]? = some (match o, t with | .row _ s z xs, .row v s' _ _ => .row v (match s' with | true => s | false => false) z xs | o, _ => renO R 0 o)
  | [], _, k, o, t, h, _ => by simp at h
  | _ :: _, [], k, o, t, _, h => by simp at h
  | o' :: O, t' :: ts, 0, o, t, h, h' => by
    simp at h h'; subst h; subst h'
    simp only [headO, List.getElem?_cons_zero]
    rfl
  | o' :: O, t' :: ts, k + 1, o, t, h, h' => by
    have := headO_get (R := R) (k := k) (o := o) (t := t) (by simpa using h) (by simpa using h')
    simpa only [headO, List.getElem?_cons_succ] using this

/-- the rows that a loop's head does not write -/
def stills : List Obj → Nat → List Nat
  | [], _ => []
  | .row _ false _ _ :: ts, k => k :: stills ts (k + 1)
  | _ :: ts, k => stills ts (k + 1)

theorem mem_stills : ∀ {ts : List Obj} {k0 k : Nat}, k ∈ stills ts k0 ↔ ∃ j v z xs, k = k0 + j ∧ ts[j]? = some (.row v false z xs)
  | [], k0, k => by simp [stills]
  | t :: ts, k0, k => by
    have key : (∃ j v z xs, k = k0 + j ∧ (t :: ts)[j]? = some (.row v false z xs)) ↔ ((∃ v z xs, t = .row v false z xs) ∧ k = k0) ∨ ∃ j v z xs, k = (k0 + 1) + j ∧ ts[j]? = some (.row v false z xs) := by
      constructor
      · rintro ⟨j, v, z, xs, h1, h2⟩
        cases j with
        | zero => simp at h2; exact .inl ⟨⟨v, z, xs, h2⟩, by simpa using h1⟩
        | succ j => exact .inr ⟨j, v, z, xs, by omega, by simpa using h2⟩
      · rintro (⟨⟨v, z, xs, h1⟩, h2⟩ | ⟨j, v, z, xs, h1, h2⟩)
        · exact ⟨0, v, z, xs, by simpa using h2, by simp [h1]⟩
        · exact ⟨j + 1, v, z, xs, by omega, by simpa using h2⟩
    rw [key]
    cases t with
    | row v s z xs =>
      cases s with
      | false => simp only [stills, List.mem_cons, mem_stills (ts := ts)]; simp
      | true => simp only [stills, mem_stills (ts := ts)]; simp
    | _ => simp only [stills, mem_stills (ts := ts)]; simp

/-- A state that meets a loop's head is one of its states. -/
theorem meet_sound {n : Nat} {W : List Nat} {base : List AV} {vals : List (Nat × AV)} {objs : List Obj} {s : List AV} {a : Act} {w0 : World} {g0 : Gh} (hm : Meet n W base vals objs s O)
    (hs : Fst a w g s O) (hl : g0.le g) (hf : Fr w0 w g0 g) (h0 : ∀ k, k < g0.n → (g0.row k).1 = 0) (hn : g0.n ≤ n) :
    ∃ h, Fst a w h (setKeys base vals) objs ∧ g0.le h ∧ Fr w0 w g0 h := by
  obtain ⟨ml, mv, mo, mk1, mb⟩ := hm
  rw [ln_eq] at ml
  obtain ⟨g1, a1, b1, c1, d1, e1, f1, o1⟩ := still_many hs.sat (stills objs 0)
  let h : Gh := { imm := g1.imm, own := fun b => (g1.own b).bind fun k => if k < objs.length then some k else none, n := objs.length, blk := g1.blk,
                  row := fun k => (vO ((objs[k]?).getD .dead), (g1.row k).2) }
  have hver : ∀ k o, O[k]? = some o → ver O k = (g1.row k).1 ∧ vO o = (g1.row k).1 := by
    intro k o hk
    have hlt := (List.getElem?_eq_some_iff.1 hk).1
    obtain ⟨o', k1, k2, k3, k4⟩ := hs.sat.at hlt
    rw [hk] at k1; simp at k1; subst k1
    rw [e1]
    exact ⟨by rw [k4, k3.ver.1], k3.ver.1⟩
  have hrow : ∀ k t, objs[k]? = some t → h.row k = (vO t, (g1.row k).2) := by
    intro k t hk
    show (vO ((objs[k]?).getD .dead), _) = _
    rw [hk]; rfl
  have hR : RenOk g1 h (headR O objs 0) := by
    refine ⟨Imm.le_refl _, fun k k' vc vn hlk hk => ?_⟩
    obtain ⟨j, t, hj, ht, hr⟩ := rlook_headR hlk
    simp only [Nat.zero_add] at hj; subst hj
    simp only [Prod.mk.injEq] at hr
    obtain ⟨rfl, rfl, rfl⟩ := hr
    obtain ⟨o, ho, _⟩ := versOk_get mv _ t ht
    have hv := (hver _ o ho).1
    refine ⟨(List.getElem?_eq_some_iff.1 ht).1, rfl, fun hlt => by omega, fun _ => .inr ?_⟩
    rw [hrow _ t ht]; exact ⟨rfl, rfl⟩
  have hB : RenOk g1 h (baseR O objs 0) := by
    refine ⟨Imm.le_refl _, fun k k' vc vn hlk hk => ?_⟩
    obtain ⟨j, t, hj, ht, hr⟩ := rlook_baseR hlk
    simp only [Nat.zero_add] at hj; subst hj
    simp only [Prod.mk.injEq] at hr
    obtain ⟨rfl, rfl, rfl⟩ := hr
    obtain ⟨o, ho, _⟩ := versOk_get mv _ t ht
    have hv := (hver _ o ho).1
    refine ⟨(List.getElem?_eq_some_iff.1 ht).1, rfl, fun hlt => ?_, fun he => ?_⟩
    · cases hvt : vO t with
      | zero =>
        rw [hvt] at hlt
        have hlt : ver O k' < (g1.row k').1 := hlt
        omega
      | succ m =>
        rw [hvt] at hlt
        have hlt : ver O k' + 1 < (g1.row k').1 := hlt
        omega
    · cases hvt : vO t with
      | zero => right; rw [hrow _ t ht, hvt]; exact ⟨rfl, rfl⟩
      | succ m =>
        rw [hvt] at he
        have he : ver O k' + 1 = (g1.row k').1 := he
        omega
  have hown : ∀ b k, k < objs.length → g1.own b = some k → h.own b = some k := by
    intro b k hk hb
    show (g1.own b).bind _ = _
    rw [hb]; simp [hk]
  have hSat : Sat w h objs := by
    refine Sat.wk mo ⟨by rw [mo.len], c1.imm, fun k t0 ht0 => ?_, fun b k hb => ?_⟩
    · have hkl0 : k < objs.length := by rw [← mo.len]; exact (List.getElem?_eq_some_iff.1 ht0).1
      obtain ⟨t, ht⟩ : ∃ t, objs[k]? = some t := ⟨_, List.getElem?_eq_getElem hkl0⟩
      have hkl := (List.getElem?_eq_some_iff.1 ht).1
      obtain ⟨o, ho, hcase⟩ := versOk_get mv k t ht
      have hhead := headO_get (R := headR O objs 0) ho ht
      rw [ht0] at hhead
      simp only [Option.some.injEq] at hhead
      obtain ⟨t1, ht1, hw1⟩ := mo.get k t ht
      rw [ht0] at ht1
      simp only [Option.some.injEq] at ht1
      subst ht1
      have hst : (still O (stills objs 0))[k]? = some (stillO (hasN (stills objs 0) k) o) := by rw [still_get, ho]; rfl
      have hso := c1.obj k _ hst
      rcases hcase with ⟨v, s1, z, xs, v', s', z', xs', rfl, rfl, _⟩ | ⟨hno, hnt⟩
      · dsimp only at hhead
        subst hhead
        have hst' : s' = false ∨ (s' = true ∧ s1 = true) := by
          cases s' with
          | false => exact .inl rfl
          | true =>
            right
            refine ⟨rfl, ?_⟩
            rcases hw1 with hw1 | hw1
            · simp only [Obj.row.injEq] at hw1; exact hw1.2.1
            · exact hw1.2.1
        suffices hg : SatO w h k (.row v' s' z xs) by
          rcases hst' with h' | ⟨h', h''⟩
          · subst h'; exact hg
          · subst h'; subst h''; exact hg
        have hstill : stillO (hasN (stills objs 0) k) (.row v s1 z xs) = .row v s' z xs := by
          cases s' with
          | false =>
            have : hasN (stills objs 0) k = true := (hasN_iff _ _).2 (mem_stills.2 ⟨k, v', z', xs', by simp, ht⟩)
            rw [this]; rfl
          | true =>
            have hst' : s1 = true := by rcases hst' with h' | h' <;> simp_all
            have : hasN (stills objs 0) k = false := by
              cases hh : hasN (stills objs 0) k with
              | false => rfl
              | true =>
                obtain ⟨j, v2, z2, xs2, hj, h2⟩ := mem_stills.1 ((hasN_iff _ _).1 hh)
                simp only [Nat.zero_add] at hj; subst hj
                rw [ht] at h2; simp at h2
            rw [this, hst']; rfl
        rw [hstill] at hso
        obtain ⟨a', cap, hr, hat⟩ := hso
        refine ⟨a', cap, by rw [hrow k _ ht, hr]; rfl, hat.len, hat.elen, ?_⟩
        rcases hat.mem with h1 | ⟨b, off, c, tt, us, h1, h2, h3, h4, h5, h6, h7⟩
        · exact .inl h1
        · exact .inr ⟨b, off, c, tt, us, h1, h2, h3, hown b k hkl h4, h5, h6, h7⟩
      · have hso' : SatO w g1 k o := by
          cases o with
          | row v s1 z xs => exact absurd rfl (hno v s1 z xs)
          | cells cs => exact hso
          | map => exact hso
          | dead => exact hso.elim
        have ht' : t0 = renO (headR O objs 0) 0 o := by
          rw [hhead]
          cases o with
          | row v s1 z xs => exact absurd rfl (hno v s1 z xs)
          | _ => rfl
        have hvt : vO t = 0 := by
          cases t with
          | row v s1 z xs => exact absurd rfl (hnt v s1 z xs)
          | _ => rfl
        rw [ht']
        refine SatO.ren hR rfl (fun b hb => ⟨hown b k hkl hb, rfl⟩) ?_ (fun _ => rfl) hso'
        rw [hrow k t ht, hvt]
    · have hb' : (g1.own b).bind (fun k => if k < objs.length then some k else none) = some k := hb
      simp only [Option.bind_eq_some_iff] at hb'
      obtain ⟨j, hj, hjk⟩ := hb'
      split at hjk
      · rename_i hlt
        simp at hjk; subst hjk
        exact ⟨(c1.own b j hj).1, hlt⟩
      · cases hjk
  refine ⟨h, ⟨hSat, ?_, hs.dfr⟩, ?_, ?_⟩
  · have hv1 := ValL_mono a1 _ _ hs.val
    have hbase : ValL h base a.tmps.toList := by
      rw [← mb]
      exact junkW_val 0 (ren_valL hB _ _ hv1)
    refine setKeys_val (R := headR O objs 0) (s := s) (fun k => ?_) hbase mk1
    refine ren_val hR _ _ ?_
    have := ValL_get hv1 k
    rw [nth_eq]; exact this
  · refine ⟨Imm.le_trans hl.imm a1.imm, by show g0.n ≤ objs.length; omega, fun k hk => ?_, fun k hk => ?_⟩
    · show g1.blk k = _
      rw [f1]; exact hl.blk k hk
    · have hko : k < objs.length := by omega
      have ht : objs[k]? = some objs[k] := List.getElem?_eq_getElem hko
      rw [hrow k _ ht, e1]
      obtain ⟨o, ho, hcase⟩ := versOk_get mv k _ ht
      have hvo := hver k o ho
      rw [e1] at hvo
      by_cases hz : vO objs[k] = 0
      · right
        have hg : (g.row k).1 = 0 := by
          rw [← hvo.2]
          rcases hcase with ⟨v, s1, z, xs, v', s', z', xs', h1, h2, h3⟩ | ⟨h1, _⟩
          · rw [h1]; rw [h2] at hz; exact h3 hz
          · cases o with
            | row v s1 z xs => exact absurd rfl (h1 v s1 z xs)
            | _ => rfl
        rcases hl.row k hk with h4 | h4
        · omega
        · rw [h4, hz]
          have := h0 k hk
          rw [← this]
      · left
        rw [h0 k hk]; show 0 < vO objs[k]; omega
  · have hf1 := hf.trans b1
    refine ⟨hf1.size, hf1.os, hf1.tape, hf1.out, hf1.heap, hf1.imm, fun b hb ho => ?_⟩
    show (g1.own b).bind _ = none
    rw [hf1.own b hb ho]; rfl

/-! ### An object that is written no more -/
mutual
theorem daS_val {g : Gh} {k : Nat} {ds : List DV} (hd : DCells g.imm (g.blk k) 0 ds) : ∀ (x : AV) (u : Value), Val g x u → Val g (daS k ds x) u
  | .ptr n off, u, hv => by
    unfold daS
    split
    · rename_i hb
      have := Nat.eq_of_beq_eq_true hb; subst this
      have h := DCells_drop off hd
      rw [Nat.zero_add] at h
      rw [dp_eq]
      exact ⟨g.blk n, off, hv.2, h⟩
    · exact hv
  | .agg cs, u, ⟨us, hu, hv⟩ => by unfold daS; exact ⟨us, hu, daL_val hd cs us hv⟩
  | .tup cs, u, ⟨us, hu, hv⟩ => by unfold daS; exact ⟨us, hu, daL_val hd cs us hv⟩
  | .fn f cs, u, ⟨us, hu, hv⟩ => by unfold daS; exact ⟨us, hu, daL_val hd cs us hv⟩
  | .ifc t x, u, ⟨y, hu, hv⟩ => by unfold daS; exact ⟨y, hu, daS_val hd x y hv⟩
  | .d _, _, hv => by unfold daS; exact hv
  | .tt, _, hv => by unfold daS; exact hv
  | .ff, _, hv => by unfold daS; exact hv
  | .row _ _, _, hv => by unfold daS; exact hv
  | .da _, _, hv => by unfold daS; exact hv
  | .ra _ _ _ _ _, _, hv => by unfold daS; exact hv
  | .mp _, _, hv => by unfold daS; exact hv
  | .und, _, hv => by unfold daS; exact hv
  | .junk, _, hv => by unfold daS; exact hv
theorem daL_val {g : Gh} {k : Nat} {ds : List DV} (hd : DCells g.imm (g.blk k) 0 ds) : ∀ (xs : List AV) (us : List Value), ValL g xs us → ValL g (daL k ds xs) us
  | [], [], _ => by unfold daL; trivial
  | x :: xs, u :: us, ⟨h1, h2⟩ => by unfold daL; exact ⟨daS_val hd x u h1, daL_val hd xs us h2⟩
  | [], _ :: _, h => h.elim
  | _ :: _, [], h => h.elim
end

theorem daO_get {k : Nat} {ds : List DV} : ∀ (O : List Obj) (i : Nat), (daO k ds O)[i]? = (O[i]?).map fun o => match o with | .cells cs => .cells (daL k ds cs) | o => o
  | [], i => by simp [daO]
  | o :: os, 0 => by cases o <;> simp only [daO, List.getElem?_cons_zero, Option.map_some]
  | o :: os, i + 1 => by simpa only [daO, List.getElem?_cons_succ] using daO_get os i
theorem daO_len {k : Nat} {ds : List DV} : ∀ (O : List Obj), (daO k ds O).length = O.length
  | [] => rfl
  | _ :: os => by simp [daO, daO_len os]

/-- An object becomes data. -/
theorem frz_sound {a : Act} {g : Gh} {s : List AV} {O : List Obj} {k : Nat} {cs : List AV} {ds : List DV} (hs : Fst a w g s O) (hk : nth O k .dead = .cells cs) (hd : dats O cs = some ds) :
    ∃ g', g.le g' ∧ Fr w w g g' ∧ Fst a w g' (daL k ds s) (daO k ds ((still O (rowsInL cs)).set k (.row 1 false 0 []))) := by
  obtain ⟨hk1, hkn⟩ := hs.sat.get hk (by simp)
  have hkO : k < O.length := (List.getElem?_eq_some_iff.1 hk1).1
  obtain ⟨g1, a1, b1, c1, d1, e1, f1, o1⟩ := still_many hs.sat (rowsInL cs)
  have hst : (still O (rowsInL cs))[k]? = some (.cells cs) := by
    rw [still_get, hk1]; rfl
  obtain ⟨c, t, q1, q2, q3, q4, q5⟩ := c1.obj k _ hst
  have hlen : (still O (rowsInL cs)).length = O.length := by rw [c1.n, d1, hs.sat.n]
  have hds : DList g1.imm ds c.toList := dats_val c1 (fun c h => h) q5 hd
  let g2 : Gh := { imm := fun b => if b = g1.blk k then some c.toList else g1.imm b, own := fun b => if b = g1.blk k then none else g1.own b, n := g1.n, blk := g1.blk, row := fun i => if i = k then (1, .slice none 0 0) else g1.row i }
  have himm : g1.imm.le g2.imm := fun b ys hb => by
    have hne : b ≠ g1.blk k := by rintro rfl; rw [q3] at hb; cases hb
    exact ⟨[], by show (if b = g1.blk k then some c.toList else g1.imm b) = _; rw [if_neg hne]; simpa using hb⟩
  have hle : g1.le g2 := ⟨himm, Nat.le_refl _, fun _ _ => rfl, fun i hi => by
    show (g1.row i).1 < (if i = k then ((1, .slice none 0 0) : Nat × Value) else g1.row i).1 ∨ (if i = k then ((1, .slice none 0 0) : Nat × Value) else g1.row i) = g1.row i
    by_cases h : i = k
    · subst h; rw [if_pos rfl, q4]; left; simp
    · rw [if_neg h]; exact .inr rfl⟩
  have hcells : DCells g2.imm (g2.blk k) 0 ds := by
    refine DCells_of_list (DList_mono himm _ _ hds) (fun j hj => ?_)
    have e : g2.imm (g2.blk k) = some c.toList := by show (if g1.blk k = g1.blk k then some c.toList else g1.imm (g1.blk k)) = _; rw [if_pos rfl]
    simp [rd, e]
  have hfr : Fr w w g1 g2 := ⟨Nat.le_refl _, rfl, rfl, rfl, fun _ _ _ => rfl, fun b hb ho => by
      have hne : b ≠ g1.blk k := by rintro rfl; rw [q2] at ho; cases ho
      show (if b = g1.blk k then some c.toList else g1.imm b) = _; rw [if_neg hne], fun b hb ho => by
      show (if b = g1.blk k then none else g1.own b) = none; split
      · rfl
      · exact ho⟩
  have hobj : ∀ (i : Nat) (o : Obj), i ≠ k → SatO w g1 i o → (∃ h : i < O.length, True) → SatO w g2 i (match o with | .cells cs => .cells (daL k ds cs) | o => o) := by
    intro i o hne hso ⟨hi, _⟩
    have hin : i < g1.n := by rw [← c1.n, hlen]; exact hi
    have hk' : SatO w g2 i o := SatO.keep hle hin (by show (if i = k then _ else g1.row i) = _; rw [if_neg hne]) (fun b hb => by
      have hb2 : b ≠ g1.blk k := by rintro rfl; rw [q2] at hb; simp at hb; exact hne hb.symm
      refine ⟨rfl, ?_, ?_⟩
      · show (if b = g1.blk k then none else g1.own b) = some i; rw [if_neg hb2]; exact hb
      · show (if b = g1.blk k then some c.toList else g1.imm b) = g1.imm b; rw [if_neg hb2]) hso
    cases o with
    | cells cs' =>
      obtain ⟨c', t', r1, r2, r3, r4, r5⟩ := hk'
      exact ⟨c', t', r1, r2, r3, r4, daL_val hcells cs' _ r5⟩
    | row => exact hk'
    | map => exact hk'
    | dead => exact hk'
  refine ⟨g2, Gh.le_trans a1 hle, b1.trans hfr, ⟨?_, fun b ys hb => ?_, fun i o hi => ?_, fun b i hb => ?_⟩, daL_val hcells s _ (ValL_mono (Gh.le_trans a1 hle) _ _ hs.val), hs.dfr⟩
  · rw [daO_len]; simp only [List.length_set]; rw [hlen, hs.sat.n]; exact d1.symm
  · have hb : (if b = g1.blk k then some c.toList else g1.imm b) = some ys := hb
    by_cases he : b = g1.blk k
    · rw [if_pos he] at hb
      have hb : c.toList = ys := by simpa using hb
      subst hb
      exact ⟨c, t, (0, 0), by rw [he]; exact q1, List.prefix_refl _⟩
    · rw [if_neg he] at hb
      exact c1.imm b ys hb
  · rw [daO_get] at hi
    by_cases hik : i = k
    · subst hik
      rw [List.getElem?_set_self (by rw [hlen]; exact hkO)] at hi
      cases hi
      refine ⟨none, 0, ?_, ⟨by simp, by simp, .inl rfl⟩⟩
      show (if i = i then ((1, .slice none 0 0) : Nat × Value) else g1.row i) = _
      rw [if_pos rfl]; rfl
    · rw [List.getElem?_set_ne (fun e => hik e.symm)] at hi
      simp only [Option.map_eq_some_iff] at hi
      obtain ⟨o', ho', rfl⟩ := hi
      exact hobj i o' hik (c1.obj i o' ho') ⟨by rw [← hlen]; exact (List.getElem?_eq_some_iff.1 ho').1, trivial⟩
  · have hb : (if b = g1.blk k then none else g1.own b) = some i := hb
    split at hb
    · cases hb
    · exact c1.own b i hb

/-! ### A row becomes another one -/
section
variable {g g' : Gh} {j vj i v : Nat}
structure MvOk (g g' : Gh) (j vj i v : Nat) : Prop where
  le : g.le g'
  vj : (g.row j).1 = vj
  lt : i < g.n
  row : g'.row i = (v, (g.row j).2)
mutual
theorem mvS_val (h : MvOk g g' j vj i v) : ∀ (x : AV) (u : Value), Val g x u → Val g' (mvS j vj i v x) u
  | .row c w, u, hv => by
    unfold mvS
    split
    · rename_i hb
      have := Nat.eq_of_beq_eq_true hb; subst this
      split
      · rename_i hw
        have := Nat.eq_of_beq_eq_true hw; subst this
        obtain ⟨_, h2, h3⟩ := hv
        have h3 : u = (g.row c).2 := by
          rcases h3 with h3 | h3
          · rw [h.vj] at h3; omega
          · exact h3.2
        exact ⟨Nat.lt_of_lt_of_le h.lt h.le.n, h2, .inr (by rw [h.row]; exact ⟨rfl, h3⟩)⟩
      · trivial
    · exact Val_mono h.le _ _ hv
  | .ra c w z n off, u, hv => by
    unfold mvS
    split
    · rename_i hb
      have := Nat.eq_of_beq_eq_true hb; subst this
      split
      · rename_i hw
        have := Nat.eq_of_beq_eq_true hw; subst this
        obtain ⟨_, h2, h3⟩ := hv
        refine ⟨Nat.lt_of_lt_of_le h.lt h.le.n, h2, .inr ?_⟩
        rw [h.row]
        rcases h3 with h3 | h3
        · rw [h.vj] at h3; omega
        · exact ⟨rfl, h3.2⟩
      · trivial
    · exact Val_mono h.le _ _ hv
  | .ptr n off, u, hv => by unfold mvS; exact Val_mono h.le _ _ hv
  | .agg cs, u, ⟨us, hu, hv⟩ => by unfold mvS; exact ⟨us, hu, mvL_val h cs us hv⟩
  | .tup cs, u, ⟨us, hu, hv⟩ => by unfold mvS; exact ⟨us, hu, mvL_val h cs us hv⟩
  | .fn f cs, u, ⟨us, hu, hv⟩ => by unfold mvS; exact ⟨us, hu, mvL_val h cs us hv⟩
  | .ifc t x, u, ⟨y, hu, hv⟩ => by unfold mvS; exact ⟨y, hu, mvS_val h x y hv⟩
  | .d x, u, hv => by unfold mvS; exact Val_mono h.le _ _ hv
  | .tt, u, hv => by unfold mvS; exact hv
  | .ff, u, hv => by unfold mvS; exact hv
  | .da cs, u, hv => by unfold mvS; exact Val_mono h.le _ _ hv
  | .mp n, u, hv => by unfold mvS; exact Val_mono h.le _ _ hv
  | .und, u, hv => by unfold mvS; exact hv
  | .junk, u, hv => by unfold mvS; exact hv
theorem mvL_val (h : MvOk g g' j vj i v) : ∀ (xs : List AV) (us : List Value), ValL g xs us → ValL g' (mvL j vj i v xs) us
  | [], [], _ => by unfold mvL; trivial
  | x :: xs, u :: us, ⟨h1, h2⟩ => by unfold mvL; exact ⟨mvS_val h x u h1, mvL_val h xs us h2⟩
  | [], _ :: _, h => h.elim
  | _ :: _, [], h => h.elim
end
end
theorem mvO_get {j vj i v : Nat} : ∀ (O : List Obj) (k : Nat), (mvO j vj i v O)[k]? = (O[k]?).map fun o => match o with | .cells cs => .cells (mvL j vj i v cs) | o => o
  | [], k => by simp [mvO]
  | o :: os, 0 => by cases o <;> simp only [mvO, List.getElem?_cons_zero, Option.map_some]
  | o :: os, k + 1 => by simpa only [mvO, List.getElem?_cons_succ] using mvO_get os k
theorem mvO_len {j vj i v : Nat} : ∀ (O : List Obj), (mvO j vj i v O).length = O.length
  | [] => rfl
  | _ :: os => by simp [mvO, mvO_len os]

theorem mv_sound {a : Act} {g : Gh} {s : List AV} {O : List Obj} {j i vj vi : Nat} {st st' : Bool} {z z' : Nat} {xs xs' : List (List DV)} (hs : Fst a w g s O) (hj : nth O j .dead = .row vj st z xs) (hi : nth O i .dead = .row vi st' z' xs') (hij : i ≠ j) :
    ∃ g', g.le g' ∧ Fr w w g g' ∧ Fst a w g' (mvL j vj i (vi + 1) s) (mvO j vj i (vi + 1) ((O.set i (.row (vi + 1) st z xs)).set j (.row (vj + 1) false 0 []))) := by
  obtain ⟨hj1, hjn⟩ := hs.sat.get hj (by simp)
  obtain ⟨hi1, hin⟩ := hs.sat.get hi (by simp)
  have hjO : j < O.length := (List.getElem?_eq_some_iff.1 hj1).1
  have hiO : i < O.length := (List.getElem?_eq_some_iff.1 hi1).1
  obtain ⟨aj, capj, rj, atj⟩ := hs.sat.obj j _ hj1
  obtain ⟨ai, capi, ri, ati⟩ := hs.sat.obj i _ hi1
  let g2 : Gh := { imm := g.imm, own := fun b => if g.own b = some j then some i else if g.own b = some i then none else g.own b, n := g.n, blk := g.blk, row := fun k => if k = j then (vj + 1, .slice none 0 0) else if k = i then (vi + 1, (g.row j).2) else g.row k }
  have rowj : g2.row j = (vj + 1, .slice none 0 0) := by show (if j = j then ((vj + 1, .slice none 0 0) : Nat × Value) else _) = _; rw [if_pos rfl]
  have rowi : g2.row i = (vi + 1, (g.row j).2) := by show (if i = j then ((vj + 1, .slice none 0 0) : Nat × Value) else if i = i then (vi + 1, (g.row j).2) else g.row i) = _; rw [if_neg hij, if_pos rfl]
  have rowk : ∀ k, k ≠ i → k ≠ j → g2.row k = g.row k := fun k h1 h2 => by show (if k = j then ((vj + 1, .slice none 0 0) : Nat × Value) else if k = i then (vi + 1, (g.row j).2) else g.row k) = _; rw [if_neg h2, if_neg h1]
  have ownk : ∀ b k, k ≠ i → k ≠ j → g.own b = some k → g2.own b = some k := fun b k h1 h2 h => by
    show (if g.own b = some j then some i else if g.own b = some i then none else g.own b) = some k
    rw [if_neg (by rw [h]; simpa using h2), if_neg (by rw [h]; simpa using h1)]; exact h
  have hle : g.le g2 := ⟨Imm.le_refl _, Nat.le_refl _, fun _ _ => rfl, fun k hk => by
    by_cases h1 : k = j
    · subst h1; left; rw [rowj, rj]; simp
    · by_cases h2 : k = i
      · subst h2; left; rw [rowi, ri]; simp
      · right; exact rowk k h2 h1⟩
  have hmv : MvOk g g2 j vj i (vi + 1) := ⟨hle, by rw [rj], hin, rowi⟩
  refine ⟨g2, hle, ⟨Nat.le_refl _, rfl, rfl, rfl, fun _ _ _ => rfl, fun _ _ _ => rfl, fun b _ ho => ?_⟩, ⟨?_, hs.sat.imm, fun k o hk => ?_, fun b k hb => ?_⟩, mvL_val hmv s _ hs.val, hs.dfr⟩
  · show (if g.own b = some j then some i else if g.own b = some i then none else g.own b) = none
    rw [ho]; simp
  · rw [mvO_len]; simpa using hs.sat.n
  · rw [mvO_get] at hk
    by_cases h1 : k = j
    · subst h1
      rw [List.getElem?_set_self (by simpa using hjO)] at hk
      cases hk
      exact ⟨none, 0, by rw [rowj]; rfl, ⟨by simp, by simp, .inl rfl⟩⟩
    · rw [List.getElem?_set_ne (fun e => h1 e.symm)] at hk
      by_cases h2 : k = i
      · subst h2
        rw [List.getElem?_set_self hiO] at hk
        cases hk
        refine ⟨aj, capj, by rw [rowi, rj], atj.len, atj.elen, ?_⟩
        rcases atj.mem with h | ⟨b, off, c, t, us, k1, k2, k3, k4, k5, k6, k7⟩
        · exact .inl h
        · refine .inr ⟨b, off, c, t, us, k1, k2, k3, ?_, k5, k6, k7⟩
          show (if g.own b = some j then some k else if g.own b = some k then none else g.own b) = some k
          rw [if_pos k4]
      · rw [List.getElem?_set_ne (fun e => h2 e.symm)] at hk
        simp only [Option.map_eq_some_iff] at hk
        obtain ⟨o', ho', rfl⟩ := hk
        have hso := hs.sat.obj k o' ho'
        have hkn : k < g.n := by rw [← hs.sat.n]; exact (List.getElem?_eq_some_iff.1 ho').1
        have hkeep : SatO w g2 k o' := SatO.keep hle hkn (rowk k h2 h1) (fun b hb => ⟨rfl, ownk b k h2 h1 hb, rfl⟩) hso
        cases o' with
        | cells cs' =>
          obtain ⟨c', t', r1, r2, r3, r4, r5⟩ := hkeep
          obtain ⟨c2, t2, q1, q2, q3, q4, q5⟩ := hso
          have e : c2 = c' := by
            have : w.heap[g.blk k]? = some (.cells c' t' (0, 0)) := r1
            rw [q1] at this; simp at this; exact this.1
          subst e
          exact ⟨c2, t', r1, r2, r3, r4, mvL_val hmv cs' _ q5⟩
        | row => exact hkeep
        | map => exact hkeep
        | dead => exact hkeep
  · have hb : (if g.own b = some j then some i else if g.own b = some i then none else g.own b) = some k := hb
    by_cases h1 : g.own b = some j
    · rw [if_pos h1] at hb
      have hb : i = k := by simpa using hb
      subst hb
      exact ⟨(hs.sat.own b j h1).1, hin⟩
    · rw [if_neg h1] at hb
      by_cases h2 : g.own b = some i
      · rw [if_pos h2] at hb; cases hb
      · rw [if_neg h2] at hb
        exact hs.sat.own b k hb

/-- A row's number may grow. -/
theorem bump_sound {a : Act} {g : Gh} {s : List AV} {O : List Obj} {i v : Nat} {st : Bool} {z : Nat} {xs : List (List DV)} (hs : Fst a w g s O) (hi : nth O i .dead = .row v st z xs) :
    ∃ g', g.le g' ∧ Fr w w g g' ∧ Fst a w g' (mvL i v i (v + 1) s) (mvO i v i (v + 1) (O.set i (.row (v + 1) st z xs))) := by
  obtain ⟨hi1, hin⟩ := hs.sat.get hi (by simp)
  have hiO : i < O.length := (List.getElem?_eq_some_iff.1 hi1).1
  obtain ⟨ai, capi, ri, ati⟩ := hs.sat.obj i _ hi1
  let g2 : Gh := { imm := g.imm, own := g.own, n := g.n, blk := g.blk, row := fun k => if k = i then (v + 1, (g.row i).2) else g.row k }
  have rowi : g2.row i = (v + 1, (g.row i).2) := by show (if i = i then (v + 1, (g.row i).2) else g.row i) = _; rw [if_pos rfl]
  have rowk : ∀ k, k ≠ i → g2.row k = g.row k := fun k h1 => by show (if k = i then (v + 1, (g.row i).2) else g.row k) = _; rw [if_neg h1]
  have hle : g.le g2 := ⟨Imm.le_refl _, Nat.le_refl _, fun _ _ => rfl, fun k hk => by
    by_cases h2 : k = i
    · subst h2; left; rw [rowi, ri]; simp
    · right; exact rowk k h2⟩
  have hmv : MvOk g g2 i v i (v + 1) := ⟨hle, by rw [ri], hin, rowi⟩
  refine ⟨g2, hle, ⟨Nat.le_refl _, rfl, rfl, rfl, fun _ _ _ => rfl, fun _ _ _ => rfl, fun b _ ho => ho⟩, ⟨?_, hs.sat.imm, fun k o hk => ?_, hs.sat.own⟩, mvL_val hmv s _ hs.val, hs.dfr⟩
  · rw [mvO_len]; simpa using hs.sat.n
  · rw [mvO_get] at hk
    by_cases h2 : k = i
    · subst h2
      rw [List.getElem?_set_self hiO] at hk
      cases hk
      exact ⟨ai, capi, by rw [rowi, ri], ati.len, ati.elen, ati.mem⟩
    · rw [List.getElem?_set_ne (fun e => h2 e.symm)] at hk
      simp only [Option.map_eq_some_iff] at hk
      obtain ⟨o', ho', rfl⟩ := hk
      have hso := hs.sat.obj k o' ho'
      have hkn : k < g.n := by rw [← hs.sat.n]; exact (List.getElem?_eq_some_iff.1 ho').1
      have hkeep : SatO w g2 k o' := SatO.keep hle hkn (rowk k h2) (fun b hb => ⟨rfl, hb, rfl⟩) hso
      cases o' with
      | cells cs' =>
        obtain ⟨c', t', r1, r2, r3, r4, r5⟩ := hkeep
        obtain ⟨c2, t2, q1, q2, q3, q4, q5⟩ := hso
        have e : c2 = c' := by
          have : w.heap[g.blk k]? = some (.cells c' t' (0, 0)) := r1
          rw [q1] at this; simp at this; exact this.1
        subst e
        exact ⟨c2, t', r1, r2, r3, r4, mvL_val hmv cs' _ q5⟩
      | row => exact hkeep
      | map => exact hkeep
      | dead => exact hkeep

theorem data_sound {a : Act} {g : Gh} {s : List AV} {O : List Obj} (c : Nat) (hs : Fst a w g s O) :
    ∃ g', g.le g' ∧ Fr w w g g' ∧ Fst a w g' (frzL O (notN c) s) (mp1 (frzO O (notN c)) (still O [c])) := by
  obtain ⟨g', h1, h2, h3, h4, h5, h6, h7⟩ := still_one hs.sat c
  have hk : ∀ k, notN c k = false → k ∈ [c] := fun k h => by
    unfold notN at h
    split at h
    · rename_i hb; simp [Nat.eq_of_beq_eq_true hb]
    · cases h
  rw [mp1_eq]
  refine ⟨g', h1, h2, ⟨by rw [List.length_map]; exact h3.n, h3.imm, fun k o ho => ?_, h3.own⟩, frz_valL h3 s _ (fun c' _ h => hk c' h) (ValL_mono h1 _ _ hs.val), hs.dfr⟩
  rw [List.getElem?_map] at ho
  simp only [Option.map_eq_some_iff] at ho
  obtain ⟨o', ho', rfl⟩ := ho
  have hso := h3.obj k o' ho'
  cases o' with
  | cells cs =>
    obtain ⟨c2, t2, q1, q2, q3, q4, q5⟩ := hso
    exact ⟨c2, t2, q1, q2, q3, q4, frz_valL h3 cs _ (fun c' _ h => hk c' h) q5⟩
  | row => exact hso
  | map => exact hso
  | dead => exact hso

/-- Rows that are made of nil slices. -/
theorem rwK_sound {w0 : World} {g0 : Gh} : ∀ (l : List Rw) {a : Act} {g : Gh} {s : List AV} {O : List Obj} {K : List AV → List Obj → Prop}, Fst a w g s O → g0.le g → Fr w0 w g0 g → rwK l s O K →
    ∃ g' s' O', K s' O' ∧ Fst a w g' s' O' ∧ g0.le g' ∧ Fr w0 w g0 g'
  | [], a, g, s, O, K, hs, hl, hf, h => ⟨g, s, O, h, hs, hl, hf⟩
  | .slot n z :: l, a, g, s, O, K, hs, hl, hf, h => by
    unfold rwK at h
    split at h
    · rename_i hn
      rw [stK_eq, apK_eq, ln_eq] at h
      obtain ⟨g', h1, h2, h3, h4, h5⟩ := new_nil hs.sat z none
      have hv := ValL_get hs.val n
      rw [← nth_eq] at hv
      have hnil : a.tmps.toList.getD n undef = .slice none 0 0 := by
        unfold nilA at hn
        split at hn
        · rename_i he; rw [he] at hv; exact hv.1
        · cases hn
      refine rwK_sound l ⟨h3, ValL_set_same (ValL_mono h1 _ _ hs.val) ?_, hs.dfr⟩ (Gh.le_trans hl h1) (hf.trans h2) h
      rw [hnil]
      exact ⟨by rw [hs.sat.n, h4]; omega, ⟨_, _, _, rfl⟩, .inr (by rw [hs.sat.n, h5]; exact ⟨rfl, rfl⟩)⟩
    · exact h.elim
  | .cell k off z :: l, a, g, s, O, K, hs, hl, hf, h => by
    unfold rwK at h
    split at h
    · rename_i cs hcs
      split at h
      · rename_i hn
        rw [stK_eq, stK_eq, apK_eq, ln_eq] at h
        obtain ⟨g', h1, h2, h3, h4, h5⟩ := new_nil hs.sat z none
        obtain ⟨hk, hkn⟩ := hs.sat.get hcs (by simp)
        have hkO : k < O.length := (List.getElem?_eq_some_iff.1 hk).1
        have hk' : (O ++ [Obj.row 0 true z []])[k]? = some (.cells cs) := by rw [List.getElem?_append_left hkO]; exact hk
        obtain ⟨c, t, q1, q2, q3, q4, q5⟩ := h3.obj k _ hk'
        have hv := ValL_get q5 off
        rw [← nth_eq] at hv
        have hnil : c.toList.getD off undef = .slice none 0 0 := by
          unfold nilA at hn
          split at hn
          · rename_i he; rw [he] at hv; exact hv.1
          · cases hn
        have hnew : SatO w g' k (.cells (cs.set off (.row O.length 0))) := by
          refine ⟨c, t, q1, q2, q3, q4, ValL_set_same q5 ?_⟩
          rw [hnil]
          exact ⟨by rw [hs.sat.n, h4]; omega, ⟨_, _, _, rfl⟩, .inr (by rw [hs.sat.n, h5]; exact ⟨rfl, rfl⟩)⟩
        have hS' : Sat w g' ((O.set k (.cells (cs.set off (.row O.length 0)))) ++ [Obj.row 0 true z []]) := by
          refine ⟨by simpa using h3.n, h3.imm, fun j o hj => ?_, h3.own⟩
          by_cases hjk : j = k
          · subst hjk
            rw [List.getElem?_append_left (by simpa using hkO), List.getElem?_set_self hkO] at hj
            simp at hj; subst hj; exact hnew
          · refine h3.obj j o ?_
            rcases Nat.lt_or_ge j O.length with hlt | hge
            · rw [List.getElem?_append_left (by simpa using hlt), List.getElem?_set_ne (fun e => hjk e.symm)] at hj
              rw [List.getElem?_append_left hlt]; exact hj
            · rw [List.getElem?_append_right (by simpa using hge)] at hj
              rw [List.getElem?_append_right hge]; simpa using hj
        exact rwK_sound l ⟨hS', ValL_mono h1 _ _ hs.val, hs.dfr⟩ (Gh.le_trans hl h1) (hf.trans h2) h
      · exact h.elim
    · exact h.elim
  | .frz k :: l, a, g, s, O, K, hs, hl, hf, h => by
    unfold rwK at h
    split at h
    · rename_i cs hcs
      split at h
      · rename_i ds hds
        simp only [fDs_eq, fOs_eq, fL_eq, stK_eq] at h
        obtain ⟨g', h1, h2, h3⟩ := frz_sound hs hcs hds
        exact rwK_sound l h3 (Gh.le_trans hl h1) (hf.trans h2) h
      · exact h.elim
    · exact h.elim
  | .mv j i :: l, a, g, s, O, K, hs, hl, hf, h => by
    unfold rwK at h
    split at h
    · rename_i vj st z xs vi st' z' xs' hj hi hb
      simp only [fOs_eq, fL_eq, stK_eq] at h
      have hij : i ≠ j := by rintro rfl; simp at hb
      obtain ⟨g', h1, h2, h3⟩ := mv_sound hs hj hi hij
      exact rwK_sound l h3 (Gh.le_trans hl h1) (hf.trans h2) h
    · exact h.elim
  | .bump i :: l, a, g, s, O, K, hs, hl, hf, h => by
    unfold rwK at h
    split at h
    · rename_i v st z xs hi
      simp only [fOs_eq, fL_eq, stK_eq] at h
      obtain ⟨g', h1, h2, h3⟩ := bump_sound hs hi
      exact rwK_sound l h3 (Gh.le_trans hl h1) (hf.trans h2) h
    · exact h.elim
  | .data c :: l, a, g, s, O, K, hs, hl, hf, h => by
    unfold rwK at h
    simp only [fOs_eq, fL_eq] at h
    obtain ⟨g', h1, h2, h3⟩ := data_sound c hs
    exact rwK_sound l h3 (Gh.le_trans hl h1) (hf.trans h2) h

/-! ### Code -/
def Ex.to : Ex → Exit
  | .normal => .normal
  | .exit n => .exit n
  | .ret => .ret

/-- A region that draws its order. -/
theorem regD_sound {P : Program} {τ : Tab} {a : Act} {w : World} {g : Gh} {s : List AV} {O : List Obj} {Γ : Ctx} {ops : List Oper} {K : List AV → List Obj → Prop} (hm : P.follows .mixedOrders = true) (hτ : Tok P τ) {B : World} (hΓ : AllValid P B Γ) {id : Nat} {Q : Exit → Act → World → Prop} {w0 : World} {g0 : Gh} (hG : GI B w0 g0)
    (hQ : ∀ a w g s O, K s O → Fst a w g s O → g0.le g → Fr w0 w g0 g → Q .normal a w) (hs : Fst a w g s O) (hl : g0.le g) (hf : Fr w0 w g0 g) (h : regD τ Γ ops s O K) :
    (Code.region id ops.toArray true).wp P Q a w := by
  unfold regD at h
  simp only [fNs_eq, fS_eq] at h
  split at h
  · rename_i hd
    split at h
    · rename_i ho
      exact regD_sound1 hm hτ hΓ hG hQ hs hl hf hd ho h
    · split at h
      · rename_i ho
        obtain ⟨G, h⟩ := h
        obtain ⟨g', s', O', h, hs', hl', hf'⟩ := rwK_sound G hs hl hf h
        have e : ln s' = ln s := by
          rw [ln_eq, ln_eq, ValL_length hs'.val, ValL_length hs.val]
        exact regD_sound1 hm hτ hΓ hG hQ hs' hl' hf' (by rw [e]; exact hd) ho h
      · exact h.elim
  · exact h.elim

theorem wpA_sound (hm : P.follows .mixedOrders = true) (hτ : Tok P τ) {B : World} {Γ : Ctx} (hΓ : AllValid P B Γ) {w0 : World} {g0 : Gh} (hG : GI B w0 g0) (h0 : ∀ k, k < g0.n → (g0.row k).1 = 0) :
    ∀ (c : Code) (Q : Ex → List AV → List Obj → Prop) (Qc : Exit → Act → World → Prop) (a : Act) (w : World) (g : Gh) (s : List AV) (O : List Obj),
      (∀ e a w g s O, Q e s O → Fst a w g s O → g0.le g → Fr w0 w g0 g → Qc e.to a w) → Fst a w g s O → g0.le g → Fr w0 w g0 g → wpA τ Γ c Q s O → c.wp P Qc a w := by
  intro c
  induction c with
  | skip => intro Q Qc a w g s O hQ hs hl hf h; exact wp_skip (hQ .normal _ _ _ _ _ h hs hl hf)
  | label l => intro Q Qc a w g s O hQ hs hl hf h; exact wp_label (hQ .normal _ _ _ _ _ h hs hl hf)
  | exit n => intro Q Qc a w g s O hQ hs hl hf h; exact wp_exit (hQ (.exit n) _ _ _ _ _ h hs hl hf)
  | ret => intro Q Qc a w g s O hQ hs hl hf h; exact wp_ret (hQ .ret _ _ _ _ _ h hs hl hf)
  | region id ops draw =>
    intro Q Qc a w g s O hQ hs hl hf h
    cases draw with
    | false =>
      refine wp_region_list ?_
      exact opsG_sound hτ hΓ hG (fun a w g s O h hs hl hf => hQ .normal a w g s O h hs hl hf) ops.toList a w g s O hs hl hf h
    | true =>
      have := regD_sound (ops := ops.toList) (id := id) (Q := Qc) hm hτ hΓ hG (fun a w g s O h hs hl hf => hQ .normal a w g s O h hs hl hf) hs hl hf h
      simpa using this
  | seq x y ihx ihy =>
    intro Q Qc a w g s O hQ hs hl hf h
    refine wp_seq (ihx (thenQ (fun s' O' => wpA τ Γ y Q s' O') Q) _ a w g s O ?_ hs hl hf h)
    intro e a w g s O hq hs hl hf
    cases e with
    | normal => exact ihy Q Qc a w g s O hQ hs hl hf hq
    | exit n => exact hQ (.exit n) _ _ _ _ _ hq hs hl hf
    | ret => exact hQ .ret _ _ _ _ _ hq hs hl hf
  | cond c x y ihx ihy =>
    intro Q Qc a w g s O hQ hs hl hf h
    replace h : condK c (wpA τ Γ x) (wpA τ Γ y) Q s O := h
    unfold condK at h
    split at h
    · rename_i t
      have hv := hs.eval (.tmp t)
      have hset : ∀ {x : Bool} {y : AV}, a.eval (.tmp t) = .bool x → Val g y (.bool x) → Fst a w g (s.set t y) O := by
        intro x y hx hy
        refine ⟨hs.sat, ValL_set_same hs.val ?_, hs.dfr⟩
        have : a.tmps.toList.getD t undef = .bool x := by
          rw [← hx]; simp [Act.eval, Array.getD_eq_getD_getElem?, List.getD_eq_getElem?_getD]
        rw [this]; exact hy
      simp only [evo] at hv
      split at h
      · rename_i he
        rw [he] at hv
        exact wp_cond_true hv (ihx Q Qc a w g s O hQ hs hl hf h)
      · rename_i he
        rw [he] at hv
        exact wp_cond_false hv (ihy Q Qc a w g s O hQ hs hl hf h)
      · rename_i b he
        rw [he] at hv
        have hv : a.eval (.tmp t) = .bool b := hv
        cases b with
        | true =>
          have h1 := h.t rfl
          rw [stK_eq] at h1
          exact wp_cond_true hv (ihx Q Qc a w g _ O hQ (hset (y := .tt) hv rfl) hl hf h1)
        | false =>
          have h1 := h.f rfl
          rw [stK_eq] at h1
          exact wp_cond_false hv (ihy Q Qc a w g _ O hQ (hset (y := .ff) hv rfl) hl hf h1)
      · exact h.elim
    · rename_i x
      split at h
      · exact wp_cond_true rfl (ihx Q Qc a w g s O hQ hs hl hf h)
      · exact wp_cond_false rfl (ihy Q Qc a w g s O hQ hs hl hf h)
    · exact h.elim
  | block id c ih =>
    intro Q Qc a w g s O hQ hs hl hf h
    refine wp_block (ih (blockQ id Q) _ a w g s O ?_ hs hl hf h)
    intro e a w g s O hq hs hl hf
    cases e with
    | normal => exact hQ .normal _ _ _ _ _ hq hs hl hf
    | ret => exact hQ .ret _ _ _ _ _ hq hs hl hf
    | exit n =>
      simp only [blockQ] at hq
      simp only [Ex.to, Exit.inBlock]
      split at hq
      · rename_i hb
        have := Nat.eq_of_beq_eq_true hb; subst this
        rw [if_pos rfl]
        exact hQ .normal _ _ _ _ _ hq hs hl hf
      · rename_i hb
        rw [if_neg (by rintro rfl; simp at hb)]
        exact hQ (.exit n) _ _ _ _ _ hq hs hl hf
  | loop c ih =>
    intro Q Qc a w g s O hQ hs hl hf h
    replace h : loopK (writes c) (wpA τ Γ c) Q s O := h
    unfold loopK at h
    obtain ⟨rws, X, I, μ, vals, objs, x0, hI, h⟩ := h
    obtain ⟨g1, s1, O1, h, hs1, hl1, hf1⟩ := rwK_sound rws hs hl hf h
    rw [fL_eq] at h
    obtain ⟨hmeet, hround⟩ := h
    have hn : g0.n ≤ ln O1 := by rw [ln_eq, hs1.sat.n]; exact hl1.n
    obtain ⟨h1, hs2, hl2, hf2⟩ := meet_sound hmeet hs1 hl1 hf1 h0 hn
    refine wp_loop_ghost (fun n a w => ∃ x h, I x ∧ μ x = n ∧ Fst a w h (setKeys (junkW (writes c) (renL (baseR O1 (objs x0) 0) s1) 0) (vals x)) (objs x) ∧ g0.le h ∧ Fr w0 w g0 h) (μ x0) ⟨x0, h1, hI, rfl, hs2, hl2, hf2⟩ ?_
    rintro n a w ⟨x, h2, hx, rfl, hs3, hl3, hf3⟩
    have hb := hround x hx
    rw [fL_eq] at hb
    refine ih _ _ a w h2 _ _ ?_ hs3 hl3 hf3 hb
    intro e a w g s O hq hs hl hf
    cases e with
    | normal =>
      obtain ⟨x', hx', hlt, rw2, hm'⟩ := hq
      obtain ⟨g2, s2, O2, hm', hs, hl, hf⟩ := rwK_sound rw2 hs hl hf hm'
      obtain ⟨h3, hs4, hl4, hf4⟩ := meet_sound hm' hs hl hf h0 hn
      exact ⟨μ x', hlt, x', h3, hx', rfl, hs4, hl4, hf4⟩
    | exit n => exact hQ (.exit n) _ _ _ _ _ hq hs hl hf
    | ret => exact hQ .ret _ _ _ _ _ hq hs hl hf
  | _ => intros; rename_i h; exact h.elim
end
end Ab

/- The frame 'Ab' is sound, seventeenth part: a function's results, its end, its contract. -/
namespace Ab
open Go
set_option linter.unusedSimpArgs false
set_option linter.unusedVariables false

section
variable {P : Program} {τ : Tab} {w : World} {g : Gh} {O : List Obj}

theorem run_mapM {α : Type} (f : α → Sem Value) : ∀ (as : List α) (us : List Value), us.length = as.length → (∀ (i : Nat) r, as[i]? = some r → (f r).run P w = .ok (us.getD i undef) w) →
    (as.mapM f).run P w = .ok us w
  | [], [], _, _ => by simp
  | a :: as, u :: us, hl, h => by
    have h0 := h 0 a (by simp)
    have ih := run_mapM f as us (by simpa using hl) (fun i r hi => by simpa using h (i + 1) r (by simpa using hi))
    simp only [List.getD_cons_zero] at h0
    simp [List.mapM_cons, h0, ih]
  | [], _ :: _, hl, _ => by simp at hl
  | _ :: _, [], hl, _ => by simp at hl

/-- the value of results -/
def resV : List Value → Value
  | [u] => u
  | us => .tuple us.toArray

/-- one result -/
def rv1 (a : Act) : ResultVar → Sem Value
  | .tmp t => pure (a.tmps.getD t undef)
  | .cell x t => do loadVar t (← asAddr (a.tmps.getD x undef))

theorem res1_sound (hτ : Tok P τ) {a : Act} {s : List AV} (hs : Fst a w g s O) (r : ResultVar) {k : AV → Prop} (h : res1 τ s O r k) : ∃ v u, k v ∧ Val g v u ∧ (rv1 a r).run P w = .ok u w := by
  cases r with
  | tmp t => exact ⟨_, _, h, hs.eval (.tmp t), by simp [rv1, Act.eval]⟩
  | cell x t =>
    simp only [res1] at h
    have hx := hs.eval (.tmp x)
    simp only [evo, Act.eval] at hx
    split at h
    · rename_i n off he
      rw [he] at hx
      obtain ⟨hn, hu⟩ := hx
      split at h
      · rename_i cs hcs
        obtain ⟨h1, h2⟩ := hs.sat.get hcs (by simp)
        obtain ⟨c, t', hh, hown, him, _, hv⟩ := hs.sat.obj n _ h1
        rw [dp_eq] at h
        obtain ⟨v, u, hK, hv', hr⟩ := loadK_sound (w := w) (b := g.blk n) (off := off) hτ (ValL_drop off hv) (fun j hj => by
          rw [List.getElem?_drop]; simp only [World.cell?, hh]; simp) h
        refine ⟨v, u, hK, hv', ?_⟩
        simp only [Instr.loadAt, Instr.sureAddr, Sem.run_bind, Sem.run_pure, Result.andThen_ok] at hr
        simp [rv1, hu, asAddr, hr]
      · exact h.elim
    · exact h.elim

theorem resL_sound (hτ : Tok P τ) {a : Act} {s : List AV} (hs : Fst a w g s O) : ∀ (rs : List ResultVar) {k : List AV → Prop}, resL τ s O rs k →
    ∃ vs us, k vs ∧ ValL g vs us ∧ us.length = rs.length ∧ ∀ i r, rs[i]? = some r → (rv1 a r).run P w = .ok (us.getD i undef) w
  | [], k, h => ⟨[], [], h, trivial, rfl, fun i r h => by simp at h⟩
  | r :: rs, k, h => by
    unfold resL at h
    obtain ⟨v, u, h, hv, hr⟩ := res1_sound hτ hs r h
    obtain ⟨vs, us, h1, h2, h3, h4⟩ := resL_sound hτ hs rs h
    refine ⟨_, u :: us, h1, ⟨hv, h2⟩, by simp [h3], fun i r' hi => ?_⟩
    cases i with
    | zero => simp at hi; subst hi; simpa using hr
    | succ i => simpa using h4 i r' (by simpa using hi)

theorem norB_val {x : AV} {u : Value} (h : Val g x u) : Val g (norB x) u := by
  cases x <;> exact h
theorem norL_val : ∀ {xs : List AV} {us : List Value}, ValL g xs us → ValL g (mp1 norB xs) us
  | [], [], _ => trivial
  | x :: xs, u :: us, ⟨h1, h2⟩ => ⟨norB_val h1, norL_val h2⟩

theorem results_run {a : Act} {fn : Func} {us : List Value} (hl : us.length = fn.results.size) (h : ∀ (i : Nat) r, fn.results.toList[i]? = some r → (rv1 a r).run P w = .ok (us.getD i undef) w) :
    (results fn a.tmps).run P w = .ok (resV us) w := by
  have hrun : (fn.results.mapM (rv1 a)).run P w = .ok us.toArray w := by
    rw [Array.mapM_eq_mapM_toList]
    have := run_mapM (P := P) (w := w) (rv1 a) fn.results.toList us (by simpa using hl) h
    simp [this]
  have hf : results fn a.tmps = (do let vs ← fn.results.mapM (rv1 a); pure (if h : vs.size = 1 then vs[0] else .tuple vs)) := by
    unfold results
    congr 1
  rw [hf, Sem.run_bind, hrun]
  simp only [Result.andThen_ok, Sem.run_pure]
  match us with
  | [] => simp [resV]
  | [u] => simp [resV]
  | _ :: _ :: _ => simp [resV]

theorem resK_sound (hτ : Tok P τ) {a : Act} {s : List AV} (hs : Fst a w g s O) {fn : Func} {k : AV → Prop} (h : resK τ s O fn.results.toList k) :
    ∃ v u, k v ∧ Val g v u ∧ (results fn a.tmps).run P w = .ok u w := by
  unfold resK at h
  split at h
  · rename_i r hr
    obtain ⟨v, u, h, hv, hrun⟩ := res1_sound hτ hs r h
    refine ⟨_, u, h, norB_val hv, ?_⟩
    have hsz : fn.results.size = 1 := by rw [← Array.length_toList, hr]; rfl
    exact results_run (us := [u]) (by simp [hsz]) (fun i r' hi => by
      rw [hr] at hi
      cases i with
      | zero => simp at hi; subst hi; simpa using hrun
      | succ i => simp at hi)
  · rename_i rs hne
    obtain ⟨vs, us, h, hv, hl, hrun⟩ := resL_sound hτ hs _ h
    refine ⟨_, _, h, ⟨us, rfl, norL_val hv⟩, ?_⟩
    rw [results_run (us := us) (fn := fn) (by rw [hl]; simp) hrun]
    match us, hl with
    | [], _ => rfl
    | [u], hl =>
      exfalso
      match hrs : fn.results.toList with
      | [] => rw [hrs] at hl; simp at hl
      | [r] => exact hne r hrs
      | _ :: _ :: _ => rw [hrs] at hl; simp at hl
    | _ :: _ :: _, _ => rfl

/-! ### A function's end -/
theorem nodupB_spec : ∀ {l : List Nat}, nodupB l = true → l.Nodup
  | [], _ => by simp
  | x :: xs, h => by
    unfold nodupB at h
    split at h
    · cases h
    · rename_i hx
      exact List.nodup_cons.2 ⟨fun hm => (by rw [(hasN_iff _ _).2 hm] at hx; cases hx), nodupB_spec h⟩

theorem inB_spec {n m : Nat} : ∀ {l : List Nat}, inB n m l = true → ∀ k ∈ l, n ≤ k ∧ k < m
  | [], _, k, hk => by simp at hk
  | x :: xs, h, k, hk => by
    unfold inB at h
    split at h
    · rename_i h1 h2
      rcases List.mem_cons.1 hk with rfl | hk
      · exact ⟨Nat.le_of_ble_eq_true h1, Nat.le_of_ble_eq_true h2⟩
      · exact inB_spec h k hk
    · cases h

theorem upto_get : ∀ {n i k : Nat}, k < n → (upto n i)[k]? = some (i + k)
  | n + 1, i, 0, _ => by simp [upto]
  | n + 1, i, k + 1, h => by
    simp only [upto, List.getElem?_cons_succ]
    rw [upto_get (by omega)]; congr 1; omega
theorem upto_len : ∀ (n i : Nat), (upto n i).length = n
  | 0, _ => rfl
  | n + 1, i => by simp [upto, upto_len n]
theorem upto_nodup : ∀ (n i : Nat), (upto n i).Nodup
  | 0, _ => by simp [upto]
  | n + 1, i => List.nodup_cons.2 ⟨fun h => by have := (mem_upto.1 h).1; omega, upto_nodup n (i + 1)⟩

/-- the version that an object has behind the end -/
def endV (O : List Obj) (n k i : Nat) : Nat := match Nat.blt i n with | true => (match ver O k with | 0 => 0 | _ + 1 => 1) | false => 0

theorem rlook_expR {n : Nat} : ∀ {p : List Nat} {i0 k : Nat} {r}, rlook (expR O n p i0) k = some r → ∃ j, p[j]? = some k ∧ r = (i0 + j, ver O k, endV O n k (i0 + j))
  | [], _, _, _, h => by simp [expR, rlook] at h
  | x :: p, i0, k, r, h => by
    unfold expR rlook at h
    split at h
    · rename_i hb
      have := Nat.eq_of_beq_eq_true hb; subst this
      simp at h; subst h
      exact ⟨0, by simp, rfl⟩
    · obtain ⟨j, h1, h2⟩ := rlook_expR h
      exact ⟨j + 1, by simpa using h1, by rw [h2]; simp only [show i0 + 1 + j = i0 + (j + 1) by omega]⟩

theorem expO_get {R : Ren} {n : Nat} {keep : Nat → Bool} : ∀ (p : List Nat) (i0 i : Nat), (expO R O n keep p i0)[i]? = (p[i]?).map (fun k => renO R (endV O n k (i0 + i)) (frzO O keep (nth O k .dead)))
  | [], i0, i => by simp [expO]
  | k :: p, i0, 0 => by simp only [expO, List.getElem?_cons_zero, Option.map_some, Nat.add_zero]; rfl
  | k :: p, i0, i + 1 => by
    have := expO_get (R := R) (n := n) (keep := keep) p (i0 + 1) i
    simp only [expO, List.getElem?_cons_succ, this]
    rw [show i0 + 1 + i = i0 + (i + 1) by omega]
theorem expO_len {R : Ren} {n : Nat} {keep : Nat → Bool} : ∀ (p : List Nat) (i0 : Nat), (expO R O n keep p i0).length = p.length
  | [], _ => rfl
  | k :: p, i0 => by simp [expO, expO_len p]

/-- the rows that cells hold -/
def cellRows (O : List Obj) : List Nat → List Nat
  | [] => []
  | k :: p => (match nth O k .dead with | .cells cs => rowsInL cs | _ => []) ++ cellRows O p

theorem mem_cellRows : ∀ {p : List Nat} {k c : Nat} {cs : List AV}, k ∈ p → nth O k .dead = .cells cs → c ∈ rowsInL cs → c ∈ cellRows O p
  | [], _, _, _, h, _, _ => by simp at h
  | x :: p, k, c, cs, h, h1, h2 => by
    unfold cellRows
    rcases List.mem_cons.1 h with rfl | h
    · rw [h1]; exact List.mem_append.2 (.inl h2)
    · exact List.mem_append.2 (.inr (mem_cellRows h h1 h2))

theorem expK0_sound {w0 : World} {g0 : Gh} (h0 : ∀ k, k < g0.n → (g0.row k).1 = 0) (hS : Sat w g O) (hl : g0.le g) (hf : Fr w0 w g0 g) {r : AV} {u : Value} (hv : Val g r u) {Q : AV → List Obj → Prop} (h : expK0 g0.n r O Q) :
    ∃ r' O' g', Q r' O' ∧ Val g' r' u ∧ Sat w g' O' ∧ g0.le g' ∧ Fr w0 w g0 g' := by
  unfold expK0 at h
  obtain ⟨q, ⟨hq1, hq2⟩, h⟩ := h
  simp only [fA_eq, fOs_eq, ap_eq] at h
  have hq1 := nodupB_spec hq1
  have hq2 := inB_spec hq2
  rw [ln_eq] at hq2
  have hgn : g0.n ≤ O.length := by rw [hS.n]; exact hl.n
  generalize hp : upto g0.n 0 ++ q = p at h
  have hpn : p.Nodup := by
    rw [← hp]
    refine List.nodup_append.2 ⟨upto_nodup _ _, hq1, ?_⟩
    intro a ha b hb hab
    subst hab
    have := mem_upto.1 ha
    have := hq2 a hb
    omega
  have hpl : ∀ k ∈ p, k < O.length := by
    intro k hk
    rw [← hp] at hk
    rcases List.mem_append.1 hk with hk | hk
    · have := mem_upto.1 hk; omega
    · exact (hq2 k hk).2
  have hp0 : ∀ k, k < g0.n → p[k]? = some k := by
    intro k hk
    rw [← hp, List.getElem?_append_left (by rw [upto_len]; exact hk), upto_get hk]; simp
  have hplen : g0.n ≤ p.length := by rw [← hp]; simp [upto_len]
  -- what is handed back no more is still
  let cs := (rowsIn r ++ cellRows O p).filter fun c => !(hasN p c)
  have hcs : ∀ c, c ∈ rowsIn r ++ cellRows O p → hasN p c = false → c ∈ cs := fun c hc hk => List.mem_filter.2 ⟨hc, by simp [hk]⟩
  obtain ⟨g1, a1, b1, c1, d1, e1, f1, o1⟩ := still_many hS cs
  let hh : Gh := { imm := g1.imm, own := fun b => (g1.own b).bind (idxN p), n := p.length, blk := fun i => g1.blk (p.getD i 0), row := fun i => (endV O g0.n (p.getD i 0) i, (g1.row (p.getD i 0)).2) }
  have hver : ∀ k, k < O.length → ver O k = (g1.row k).1 := by
    intro k hk
    obtain ⟨o, k1, k2, k3, k4⟩ := hS.at hk
    rw [e1, k4, k3.ver.1]
  have hR : RenOk g1 hh (expR O g0.n p 0) := by
    refine ⟨Imm.le_refl _, fun k k' vc vn hlk hk => ?_⟩
    obtain ⟨j, hj, hr⟩ := rlook_expR hlk
    simp only [Prod.mk.injEq, Nat.zero_add] at hr
    obtain ⟨rfl, rfl, rfl⟩ := hr
    have hv := hver k (hpl k (List.mem_of_getElem? hj))
    refine ⟨(List.getElem?_eq_some_iff.1 hj).1, ?_, fun hlt => by omega, fun _ => .inr ⟨?_, ?_⟩⟩
    · show g1.blk (p.getD k' 0) = _
      rw [getD_of hj]
    · show endV O g0.n k k' = endV O g0.n (p.getD k' 0) k'
      rw [getD_of hj]
    · show (g1.row (p.getD k' 0)).2 = _
      rw [getD_of hj]
  refine ⟨_, _, hh, h, ?_, ?_, ?_, ?_⟩
  · refine ren_val hR _ _ (frz_val c1 r u (fun c hc hk => hcs c (List.mem_append.2 (.inl hc)) hk) (Val_mono a1 _ _ hv))
  · refine ⟨expO_len _ _, c1.imm, fun i o hi => ?_, fun b i hb => ?_⟩
    · rw [expO_get] at hi
      simp only [Option.map_eq_some_iff, Nat.zero_add] at hi
      obtain ⟨k, hk, rfl⟩ := hi
      have hkl := hpl k (List.mem_of_getElem? hk)
      have hkp := List.mem_of_getElem? hk
      obtain ⟨o, k1, k2, k3, k4⟩ := hS.at hkl
      have hst : (still O cs)[k]? = some o := by
        rw [still_get, k1]
        have : hasN cs k = false := by
          cases hx : hasN cs k with
          | false => rfl
          | true =>
            have := (hasN_iff _ _).1 hx
            have := (List.mem_filter.1 this).2
            rw [(hasN_iff _ _).2 hkp] at this; cases this
        rw [this]
        cases o <;> rfl
      have hso := c1.obj k o hst
      have hso' : SatO w g1 k (frzO O (hasN p) o) := by
        cases o with
        | cells cs' =>
          obtain ⟨c, t, q1, q2, q3, q4, q5⟩ := hso
          exact ⟨c, t, q1, q2, q3, q4, frz_valL c1 cs' _ (fun c hc hkc => hcs c (List.mem_append.2 (.inr (mem_cellRows hkp k2 hc))) hkc) q5⟩
        | row => exact hso
        | map => exact hso
        | dead => exact hso.elim
      rw [k2]
      refine SatO.ren hR ?_ (fun b hb => ⟨?_, rfl⟩) ?_ ?_ hso'
      · show g1.blk (p.getD i 0) = _
        rw [getD_of hk]
      · show (g1.own b).bind (idxN p) = _
        rw [hb]; exact idxN_of hpn hk
      · show (endV O g0.n (p.getD i 0) i, (g1.row (p.getD i 0)).2) = _
        rw [getD_of hk]
      · intro hcs'
        have hv0 : ver O k = 0 := by
          rw [k4]
          cases o with
          | row => exact absurd rfl (hcs' _ _ _ _)
          | _ => rfl
        unfold endV
        rw [hv0]
        split <;> rfl
    · have hb' : (g1.own b).bind (idxN p) = some i := hb
      simp only [Option.bind_eq_some_iff] at hb'
      obtain ⟨k, hk, hi⟩ := hb'
      exact ⟨(c1.own b k hk).1, (List.getElem?_eq_some_iff.1 (idxN_some hi)).1⟩
  · refine ⟨Imm.le_trans hl.imm a1.imm, hplen, fun k hk => ?_, fun k hk => ?_⟩
    · show g1.blk (p.getD k 0) = _
      rw [getD_of (hp0 k hk), f1]; exact hl.blk k hk
    · show (g0.row k).1 < endV O g0.n (p.getD k 0) k ∨ (endV O g0.n (p.getD k 0) k, (g1.row (p.getD k 0)).2) = _
      rw [getD_of (hp0 k hk), e1, h0 k hk]
      have hblt : Nat.blt k g0.n = true := Nat.ble_eq_true_of_le hk
      have hvk := hver k (by omega)
      rw [e1] at hvk
      unfold endV
      rw [hblt]
      dsimp only
      cases hz : ver O k with
      | zero =>
        right
        rcases hl.row k hk with h4 | h4
        · omega
        · rw [h4]
          have := h0 k hk
          exact Prod.ext this.symm rfl
      | succ m => left; simp
  · have hf1 := hf.trans b1
    refine ⟨hf1.size, hf1.os, hf1.tape, hf1.out, hf1.heap, hf1.imm, fun b hb ho => ?_⟩
    show (g1.own b).bind _ = none
    rw [hf1.own b hb ho]; rfl

theorem expK_sound {w0 : World} {g0 : Gh} (h0 : ∀ k, k < g0.n → (g0.row k).1 = 0) (hS : Sat w g O) (hl : g0.le g) (hf : Fr w0 w g0 g) {r : AV} {u : Value} (hv : Val g r u) {Q : AV → List Obj → Prop} (h : expK g0.n r O Q) :
    ∃ r' O' g', Q r' O' ∧ Val g' r' u ∧ Sat w g' O' ∧ g0.le g' ∧ Fr w0 w g0 g' := by
  obtain ⟨G, h⟩ := h
  obtain ⟨g', s', O', h, hs, hl', hf'⟩ := rwK_sound (a := { tmps := #[u], defers := [] }) (s := [r]) G ⟨hS, ⟨hv, trivial⟩, rfl⟩ hl hf h
  have hv' := ValL_get hs.val 0
  rw [← nth_eq] at hv'
  exact expK0_sound h0 hs.sat hl' hf' hv' h

/-! ### A function's contract -/
theorem fnPost_sound (hτ : Tok P τ) {w0 : World} {g0 : Gh} (h0 : ∀ k, k < g0.n → (g0.row k).1 = 0) {fn : Func} {Q : AV → List Obj → Prop} {e : Ex} {a : Act} {s : List AV} (hs : Fst a w g s O) (hl : g0.le g) (hf : Fr w0 w g0 g)
    (h : fnPost τ fn.results.toList g0.n Q e s O) :
    bodyPost P fn (fun e w' => ∃ u, e = .returned u ∧ ∃ r O' g', Q r O' ∧ Val g' r u ∧ Sat w' g' O' ∧ g0.le g' ∧ Fr w0 w' g0 g') e.to a w := by
  have key : resK τ s O fn.results.toList (fun r => fA r fun r' => expK g0.n r' O Q) → a.defers = [] ∧ ∃ v, (results fn a.tmps).run P w = .ok v w ∧
      ∃ u, Ending.returned v = .returned u ∧ ∃ r O' g', Q r O' ∧ Val g' r u ∧ Sat w g' O' ∧ g0.le g' ∧ Fr w0 w g0 g' := by
    intro h
    obtain ⟨v, u, h, hv, hr⟩ := resK_sound hτ hs h
    rw [fA_eq] at h
    obtain ⟨r', O', g', k1, k2, k3, k4, k5⟩ := expK_sound h0 hs.sat hl hf hv h
    exact ⟨hs.dfr, u, hr, u, rfl, r', O', g', k1, k2, k3, k4, k5⟩
  cases e with
  | normal => exact key h
  | ret => exact key h
  | exit n => exact h.elim

theorem reps_val : ∀ (n : Nat), ValL g (reps n .und) (List.replicate n undef)
  | 0 => trivial
  | n + 1 => ⟨rfl, reps_val n⟩

/-- **A contract**, by reckoning. -/
theorem valid_of (hm : P.follows .mixedOrders = true) (hτ : Tok P τ) {B : World} {Γ : Ctx} (hΓ : AllValid P B Γ) {f : Nat} {fn : Func} {c : Code} (hfn : P.funcs[f]? = some fn) (hb : fn.body = some c) (hname : (fn.name == "runtime.NumGoroutine") = false)
    {S : Spec} (h : ∀ args O Q, S args O Q → runK τ Γ c fn.results.toList fn.ntmps args O (wkQ Q)) : Valid P B f S := by
  intro w g O args us Q hG hS h0 hv hs
  right
  have hrun := h args O Q hs
  unfold runK at hrun
  rw [fL_eq] at hrun
  refine ⟨?_, ?_⟩
  · have hne : fn.name ≠ "runtime.NumGoroutine" := fun e => by rw [e] at hname; simp at hname
    simp [callFunc, hfn, hne, hb]
  · refine calls_of_wp hfn hb ?_
    have hlen := ValL_length hv
    have hst : Fst { tmps := us.toArray ++ Array.replicate (fn.ntmps - us.toArray.size) undef, defers := [] } w g (pad args (fn.ntmps - ln args)) O := by
      refine ⟨hS, ?_, rfl⟩
      unfold pad
      rw [ap_eq, ln_eq, hlen]
      have : (us.toArray ++ Array.replicate (fn.ntmps - us.toArray.size) undef).toList = us ++ List.replicate (fn.ntmps - us.length) undef := by simp
      rw [this]
      exact ValL_append hv (reps_val _)
    have hOn : ln O = g.n := by rw [ln_eq, hS.n]
    rw [hOn] at hrun
    have hc := wpA_sound hm hτ hΓ hG h0 c _ _ _ w g _ O (fun e a w' g' s O' hq hs' hl' hf' => fnPost_sound hτ h0 hs' hl' hf' hq) hst (Gh.le_refl g) (Fr.refl w g) hrun
    have weak : ∀ (e : Ending) (w' : World), (∃ u, e = .returned u ∧ ∃ r O' g', wkQ Q r O' ∧ Val g' r u ∧ Sat w' g' O' ∧ g.le g' ∧ Fr w w' g g') → ∃ u, e = .returned u ∧ ∃ r O' g', Q r O' ∧ Val g' r u ∧ Sat w' g' O' ∧ g.le g' ∧ Fr w w' g g' := by
      rintro e w' ⟨u, he, r, O', g', ⟨r', O'', k1, k2, k3⟩, k4, k5, k6, k7⟩
      exact ⟨u, he, r', O'', g', k3, k1 _ _ k4, k5.wk k2, k6, k7⟩
    refine Code.wp_mono (fun e a w' hq => ?_) hc
    cases e with
    | normal =>
      obtain ⟨h1, v, h2, h3⟩ := hq
      exact ⟨h1, v, h2, weak _ _ h3⟩
    | ret =>
      obtain ⟨h1, v, h2, h3⟩ := hq
      exact ⟨h1, v, h2, weak _ _ h3⟩
    | panic ch =>
      obtain ⟨h1, h3⟩ := hq
      exact ⟨h1, weak _ _ h3⟩
    | outgrown => exact weak _ _ hq
    | exit n => exact hq.elim
    | goto l => exact hq.elim
end
end Ab

/- The frame 'Ab': facts on types in the form in which the kernel reckons them. -/
namespace Ab
open Go

theorem tok_of {P : Program} {t : Nat} {i : TI}
    (h1 : (P.info? t).map (fun ti => (ti.size, ti.bytes)) = some (i.size, i.bytes))
    (h2 : ((P.info? t).bind (·.zero)).map (fun z => z.cells.toList.map vD) = some i.zero)
    (h3 : ((P.info? t).bind (·.zero)).map (fun z => z.cells.size) = some i.size)
    (h4 : ((P.info? t).bind (·.zero)) = ((P.info? t).bind (·.zero)).map (fun z => match i.agg with | true => .agg z.cells | false => z.cells.getD 0 undef))
    (h5 : ((P.info? t).bind (·.zero)).map (fun z => z.cells.toList.all oneV) = some true)
    (h6 : (P.underlying t).map (fun d => match d with | .struct _ | .array _ _ => true | _ => false) = some i.agg)
    (h7 : kindOk P t i) (h8 : i.bytes ≤ 1024) : Tok1 P t i := by
  cases hi : P.info? t with
  | none => rw [hi] at h1; cases h1
  | some ti =>
    rw [hi] at h1 h2 h3 h4 h5
    simp only [Option.bind_some] at h2 h3 h4 h5
    cases hz : ti.zero with
    | none => rw [hz] at h2; cases h2
    | some z =>
      rw [hz] at h2 h3 h4 h5
      simp only [Option.map_some, Option.some.injEq] at h1 h2 h3 h4 h5
      simp only [Prod.mk.injEq] at h1
      refine ⟨⟨ti, z, hi, h1.1, h1.2, hz, h2, h3, h4, h5⟩, ?_, h7, h8⟩
      cases hu : P.underlying t with
      | none => rw [hu] at h6; cases h6
      | some d =>
        rw [hu] at h6
        simp only [Option.map_some, Option.some.injEq] at h6
        exact ⟨d, rfl, h6⟩

theorem kind_struct {P : Program} {t : Nat} {i : TI} (h : i.kind = .struct)
    (h2 : ((P.underlying t).bind fun d => match d with | .struct fs => some (fs.toList.map (fun f => (f.offset, f.type)), fs.toList.all fun f => (P.info? f.type).isSome) | _ => none) = some (i.fs, true)) : kindOk P t i := by
  unfold kindOk
  rw [h]
  cases hu : P.underlying t with
  | none => rw [hu] at h2; cases h2
  | some d =>
    rw [hu] at h2
    cases d <;> simp only [Option.bind_some, Option.some.injEq, Prod.mk.injEq, reduceCtorEq] at h2
    exact ⟨_, rfl, h2.1, h2.2⟩
theorem kind_iface {P : Program} {t : Nat} {i : TI} (h : i.kind = .iface)
    (h2 : ((P.underlying t).map fun d => match d with | .interface _ => true | _ => false) = some true) : kindOk P t i := by
  unfold kindOk
  rw [h]
  cases hu : P.underlying t with
  | none => rw [hu] at h2; cases h2
  | some d =>
    rw [hu] at h2
    cases d <;> simp at h2
    exact ⟨_, rfl⟩
theorem kind_func {P : Program} {t : Nat} {i : TI} (h : i.kind = .func)
    (h2 : ((P.underlying t).map fun d => match d with | .func _ _ _ => true | _ => false) = some true) : kindOk P t i := by
  unfold kindOk
  rw [h]
  cases hu : P.underlying t with
  | none => rw [hu] at h2; cases h2
  | some d =>
    rw [hu] at h2
    cases d <;> simp at h2
    exact ⟨_, _, _, rfl⟩
end Ab
