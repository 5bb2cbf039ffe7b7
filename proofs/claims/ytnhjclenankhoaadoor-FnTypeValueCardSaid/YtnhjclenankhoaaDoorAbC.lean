/- The frame 'Ab' is sound, eighth part: values as data; an object that is written; append. -/
import Derived.Test.YtnhjclenankhoaaDoorAbB
set_option linter.all false
namespace Ab
open Go
set_option linter.unusedSimpArgs false
set_option linter.unusedVariables false

section
variable {P : Program} {τ : Tab} {w : World} {g : Gh} {O : List Obj}

/-! ### Values as data -/
mutual
theorem frz_val {g' : Gh} {cs : List Nat} {keep : Nat → Bool} (hS : Sat w g' (still O cs)) : ∀ (x : AV) (u : Value), (∀ c ∈ rowsIn x, keep c = false → c ∈ cs) → Val g' x u → Val g' (frz O keep x) u
  | .d _, _, _, hv => hv
  | .tt, _, _, hv => hv
  | .ff, _, _, hv => hv
  | .ptr _ _, _, _, hv => hv
  | .da _, _, _, hv => hv
  | .ra _ _ _ _ _, _, _, hv => hv
  | .mp _, _, _, hv => hv
  | .und, _, _, hv => hv
  | .junk, _, _, hv => hv
  | .row c v, u, hc, hv => by
    unfold frz
    split
    · exact hv
    · rename_i hk
      split
      · rename_i s z xs hro
        have hmem := hc c (by simp [rowsIn]) hk
        have hn := rowOf_some hro
        rw [nth_eq] at hn
        have hlt : c < O.length := by
          rcases Nat.lt_or_ge c O.length with h | h
          · exact h
          · simp [List.getD, List.getElem?_eq_none h] at hn
        have ho : O[c]? = some (.row v s z xs) := by
          rw [List.getElem?_eq_getElem hlt]
          simp [List.getD, List.getElem?_eq_getElem hlt] at hn
          rw [hn]
        have hst : (still O cs)[c]? = some (.row v false z xs) := by
          rw [still_get, ho]
          simp [stillO, (hasN_iff _ _).2 hmem]
        obtain ⟨a, cap, hrow, hat⟩ := hS.obj c _ hst
        have hu := Val_row hv hrow
        rw [hu]
        exact hat.data
      · trivial
  | .agg cs', u, hc, hv => by
    obtain ⟨us, hu, hl⟩ := hv
    exact ⟨us, hu, frz_valL hS cs' us hc hl⟩
  | .tup cs', u, hc, hv => by
    obtain ⟨us, hu, hl⟩ := hv
    exact ⟨us, hu, frz_valL hS cs' us hc hl⟩
  | .fn f cs', u, hc, hv => by
    obtain ⟨us, hu, hl⟩ := hv
    exact ⟨us, hu, frz_valL hS cs' us hc hl⟩
  | .ifc t x, u, hc, hv => by
    obtain ⟨y, hu, hl⟩ := hv
    exact ⟨y, hu, frz_val hS x y hc hl⟩
theorem frz_valL {g' : Gh} {cs : List Nat} {keep : Nat → Bool} (hS : Sat w g' (still O cs)) : ∀ (xs : List AV) (us : List Value), (∀ c ∈ rowsInL xs, keep c = false → c ∈ cs) → ValL g' xs us → ValL g' (frzL O keep xs) us
  | [], [], _, _ => trivial
  | x :: xs, u :: us, hc, ⟨h1, h2⟩ => by
    have ha : ∀ c ∈ rowsIn x, keep c = false → c ∈ cs := fun c h => hc c (by simp only [rowsInL, ap_eq]; exact List.mem_append.2 (.inl h))
    have hb : ∀ c ∈ rowsInL xs, keep c = false → c ∈ cs := fun c h => hc c (by simp only [rowsInL, ap_eq]; exact List.mem_append.2 (.inr h))
    exact ⟨frz_val hS x u ha h1, frz_valL hS xs us hb h2⟩
  | [], _ :: _, _, h => h.elim
  | _ :: _, [], _, h => h.elim
end

mutual
theorem toD_val : ∀ (x : AV) (u : Value) (d : DV), toD x = some d → Val g x u → DVal g.imm d u
  | .d x, u, d, h, hv => by simp [toD] at h; subst h; exact hv
  | .tt, u, d, h, hv => by simp [toD] at h; subst h; exact hv
  | .ff, u, d, h, hv => by simp [toD] at h; subst h; exact hv
  | .ifc t x, u, d, h, hv => by
    obtain ⟨y, hu, hy⟩ := hv
    unfold toD at h
    split at h
    · rename_i cs
      split at h
      · rename_i ds hds
        simp at h; subst h
        obtain ⟨us, hus, hl⟩ := hy
        exact ⟨us, by rw [hu, hus], toDs_val cs us ds hds hl⟩
      · cases h
    · rename_i x' _
      split at h
      · rename_i d' hd'
        simp at h; subst h
        exact ⟨y, hu, toD_val _ y d' hd' hy⟩
      · cases h
  | .row _ _, _, _, h, _ => by simp [toD] at h
  | .ptr _ _, _, _, h, _ => by simp [toD] at h
  | .da _, _, _, h, _ => by simp [toD] at h
  | .ra _ _ _ _ _, _, _, h, _ => by simp [toD] at h
  | .agg _, _, _, h, _ => by simp [toD] at h
  | .tup _, _, _, h, _ => by simp [toD] at h
  | .fn _ _, _, _, h, _ => by simp [toD] at h
  | .mp _, _, _, h, _ => by simp [toD] at h
  | .und, _, _, h, _ => by simp [toD] at h
  | .junk, _, _, h, _ => by simp [toD] at h
theorem toDs_val : ∀ (xs : List AV) (us : List Value) (ds : List DV), toDs xs = some ds → ValL g xs us → DList g.imm ds us
  | [], [], ds, h, _ => by simp [toDs] at h; subst h; trivial
  | x :: xs, u :: us, ds, h, ⟨h1, h2⟩ => by
    unfold toDs at h
    split at h
    · rename_i d hd
      split at h
      · rename_i ds' hds
        simp at h; subst h
        exact ⟨toD_val x u d hd h1, toDs_val xs us ds' hds h2⟩
      · cases h
    · cases h
  | [], _ :: _, _, _, h => h.elim
  | _ :: _, [], _, _, h => h.elim
end

/-- Values that become data: the rows in them are still. -/
theorem dats_val {g' : Gh} {cs : List Nat} (hS : Sat w g' (still O cs)) {xs : List AV} {us : List Value} {ds : List DV} (hc : ∀ c ∈ rowsInL xs, c ∈ cs) (hv : ValL g' xs us)
    (h : dats O xs = some ds) : DList g'.imm ds us :=
  toDs_val _ _ _ h (frz_valL hS xs us (fun c h _ => hc c h) hv)

/-! ### An object that is written -/
theorem Sat.upd {w' : World} {g' : Gh} (hS : Sat w g O) {k : Nat} {o' : Obj} (hk : k < g.n) (hle : g.le g') (hn : g'.n = g.n) (hrow : ∀ j, j ≠ k → j < g.n → g'.row j = g.row j)
    (hsz : w.heap.size ≤ w'.heap.size)
    (hb : ∀ b, b < w.heap.size → g.own b ≠ some k → w'.heap[b]? = w.heap[b]? ∧ g'.own b = g.own b ∧ g'.imm b = g.imm b)
    (him : ∀ b ys, g'.imm b = some ys → ¬ (b < w.heap.size ∧ g.own b ≠ some k) → ∃ c t f, w'.heap[b]? = some (.cells c t f) ∧ ys <+: c.toList)
    (how : ∀ b j, g'.own b = some j → ¬ (b < w.heap.size ∧ g.own b ≠ some k) → b < w'.heap.size ∧ j < g.n)
    (ho : SatO w' g' k o') : Sat w' g' (O.set k o') := by
  refine ⟨by simp [hS.n, hn], ?_, ?_, ?_⟩
  · intro b ys hi
    by_cases hc : b < w.heap.size ∧ g.own b ≠ some k
    · obtain ⟨h1, h2, h3⟩ := hb b hc.1 hc.2
      rw [h3] at hi
      obtain ⟨c, t, f, hh, hp⟩ := hS.imm b ys hi
      exact ⟨c, t, f, by rw [h1]; exact hh, hp⟩
    · exact him b ys hi hc
  · intro j o hj
    by_cases hjk : j = k
    · subst hjk
      rw [List.getElem?_set_self (by rw [hS.n]; exact hk)] at hj
      simp at hj; subst hj; exact ho
    · rw [List.getElem?_set_ne (fun e => hjk e.symm)] at hj
      have hjn : j < g.n := by
        rw [← hS.n]
        rcases Nat.lt_or_ge j O.length with h | h
        · exact h
        · rw [List.getElem?_eq_none h] at hj; cases hj
      refine SatO.keep hle hjn (hrow j hjk hjn) (fun b hob => ?_) (hS.obj j o hj)
      obtain ⟨hlt, _⟩ := hS.own b j hob
      have hne : g.own b ≠ some k := by rw [hob]; intro e; simp at e; exact hjk e
      obtain ⟨h1, h2, h3⟩ := hb b hlt hne
      exact ⟨h1, by rw [h2]; exact hob, h3⟩
  · intro b j hj
    by_cases hc : b < w.heap.size ∧ g.own b ≠ some k
    · obtain ⟨h1, h2, h3⟩ := hb b hc.1 hc.2
      rw [h2] at hj
      have := hS.own b j hj
      exact ⟨by omega, by rw [hn]; exact this.2⟩
    · have := how b j hj hc
      exact ⟨this.1, by rw [hn]; exact this.2⟩

/-- Cells of an object, or of a row, written in their place. -/
theorem setRow_keeps (w : World) (b : Nat) (c : Array Value) : ∀ i, i ≠ b → (w.setRow b c).heap[i]? = w.heap[i]? := fun i hi => setRow_other w b i c hi

theorem storeAt_run (hτ : Tok P τ) {t b off : Nat} {c : Array Value} {e : TypeId} {u : Value} (hs : (tg τ t).size ≠ 0) (hh : w.heap[b]? = some (.cells c e (0, 0)))
    (hsz : u.cells.size = (tg τ t).size) (hfit : off + u.cells.size ≤ c.size) (h1 : ∀ v ∈ u.cells.toList, v.oneCell' = true) :
    (Instr.storeAt t (.pointer (some ⟨b, off, none⟩)) u).run P w = .ok () (w.setRow b (c.toList.take off ++ u.cells.toList ++ c.toList.drop (off + u.cells.size)).toArray) := by
  have hso := (hτ.of_size hs).sizeOf w
  have := run_storeCells_at P b off e u.cells.toList 0 c w hh (by simpa using hfit) h1
  simp only [Nat.add_zero, Array.length_toList] at this
  simp only [Instr.storeAt, Instr.sureAddr, Sem.run_bind, Sem.run_pure, Result.andThen_ok, storeVar, hso]
  rw [if_neg (by rw [hsz]; simp)]
  simpa using this

theorem store_cells (hτ : Tok P τ) (hS : Sat w g O) {t n off : Nat} {cs cs' ws : List AV} {u : Value} (hs : (tg τ t).size ≠ 0) (hcs : nth O n .dead = .cells cs)
    (hv : ValL g ws u.cells.toList) (h1 : ∀ v ∈ u.cells.toList, v.oneCell' = true) (hl : ws.length = (tg τ t).size) (hsp : splice cs off ws = some cs') :
    ∃ w' g', (Instr.storeAt t (.pointer (some ⟨g.blk n, off, none⟩)) u).run P w = .ok () w' ∧ g.le g' ∧ Fr w w' g g' ∧ Sat w' g' (O.set n (.cells cs')) := by
  obtain ⟨h2, hn⟩ := hS.get hcs (by simp)
  obtain ⟨c, e, hh, hown, him, hrw, hvc⟩ := hS.obj n _ h2
  obtain ⟨hle, hcs'⟩ := splice_eq _ _ _ _ hsp
  have hlen := ValL_length hv
  have hlen2 := ValL_length hvc
  have hus : u.cells.size = ws.length := by rw [hlen]; simp
  have hfit : off + u.cells.size ≤ c.size := by rw [hus]; simp at hlen2; omega
  have hr := storeAt_run (P := P) hτ hs hh (by rw [hus, hl]) hfit h1
  generalize hc' : (c.toList.take off ++ u.cells.toList ++ c.toList.drop (off + u.cells.size)).toArray = c' at hr
  refine ⟨_, g, hr, Gh.le_refl g, ⟨by simp, rfl, rfl, rfl, fun i hi ho => setRow_other _ _ _ _ ?_, fun _ _ _ => rfl, fun _ _ h => h⟩,
    hS.upd hn (Gh.le_refl g) rfl (fun _ _ _ => rfl) (by simp) (fun b hb hne => ⟨setRow_other _ _ _ _ ?_, rfl, rfl⟩) (fun b ys hi hc => ?_) (fun b j hj hc => ?_) ?_⟩
  · rintro rfl; rw [hown] at ho; cases ho
  · rintro rfl; exact hne hown
  · by_cases hbn : b = g.blk n
    · rw [hbn, him] at hi; cases hi
    · obtain ⟨c2, t2, f2, hh2, hp2⟩ := hS.imm b ys hi
      exact ⟨c2, t2, f2, by rw [setRow_other _ _ _ _ hbn]; exact hh2, hp2⟩
  · have := hS.own b j hj
    exact ⟨by simpa using this.1, this.2⟩
  · refine ⟨c', e, setRow_heap w _ c _ e _ hh, hown, him, hrw, ?_⟩
    rw [← hc']
    simp only [List.toList_toArray]
    rw [hcs', ← hus]
    exact ValL_append (ValL_append (ValL_take _ hvc) hv) (ValL_drop _ hvc)

/-! ### Append -/
theorem flat_len {α : Type} {z : Nat} : ∀ {ys : List (List α)}, (∀ r ∈ ys, r.length = z) → ys.flatten.length = ys.length * z
  | [], _ => by simp
  | y :: ys, h => by
    have ih := flat_len (ys := ys) (fun r hr => h r (List.mem_cons_of_mem _ hr))
    simp [h y (by simp), ih, Nat.add_mul]; omega

theorem DList_append {I : Imm} : ∀ {cs ds : List DV} {us vs : List Value}, DList I cs us → DList I ds vs → DList I (cs ++ ds) (us ++ vs)
  | [], _, [], _, _, k => k
  | c :: cs, _, u :: us, _, h, k => ⟨h.1, DList_append h.2 k⟩

/-- What is appended: its cells. -/
structure Src (w : World) (g : Gh) (z : Nat) (ys : List (List DV)) (u : Value) : Prop where
  elen : ∀ r ∈ ys, r.length = z
  mem : ∃ a cap, u = .slice a ys.length cap ∧ (ys = [] ∨ ∃ b off us, a = some ⟨b, off, none⟩ ∧ DList g.imm ys.flatten us ∧ us.length = ys.length * z ∧ ∀ j, j < us.length → w.cell? ⟨b, off + j, none⟩ = us[j]?)

theorem elems_src (hS : Sat w g O) {z : Nat} {x : AV} {ys : List (List DV)} {u : Value} (h : elemsOf O z x = some ys) (hv : Val g x u) : Src w g z ys u := by
  unfold elemsOf at h
  replace hv := low_val hv
  generalize low x = y at h hv
  split at h
  · rename_i z' xs
    split at h
    · rename_i hz
      have := Nat.eq_of_beq_eq_true hz; subst this
      simp at h; subst h
      obtain ⟨a, cap, hu, _, hr⟩ := hv
      have hel : ∀ r ∈ xs, r.length = z := by
        rcases hr with rfl | ⟨b, off, _, hr⟩
        · simp
        · intro r hr'
          obtain ⟨i, hi⟩ := List.getElem?_of_mem hr'
          exact (DRows_get hr hi).1
      refine ⟨hel, a, cap, hu, ?_⟩
      rcases hr with hr | ⟨b, off, ha, hr⟩
      · exact .inl hr
      · obtain ⟨us, h1, h2, h3⟩ := DRows_all hr
        refine .inr ⟨b, off, us, ha, h1, h2, fun j hj => ?_⟩
        have h4 := h3 j hj
        rw [List.getElem?_eq_getElem hj] at h4 ⊢
        exact hS.rd h4
    · cases h
  · simp at h; subst h
    exact ⟨by simp, none, 0, hv.1, .inl rfl⟩
  · rename_i c v
    split at h
    · rename_i st z' xs hro
      split at h
      · rename_i hz
        have := Nat.eq_of_beq_eq_true hz; subst this
        simp at h; subst h
        obtain ⟨hcn, a, cap, hrow, hat⟩ := hS.row hro
        have hu := Val_row hv hrow
        refine ⟨hat.elen, a, cap, hu, ?_⟩
        rcases hat.all with h1 | ⟨b, off, us, h1, h2, h3, h4⟩
        · exact .inl h1
        · exact .inr ⟨b, off, us, h1, h2, h3, h4⟩
      · cases h
    · cases h
  · cases h

theorem oneV_of_D : ∀ {c : DV} {u : Value} {I : Imm}, DVal I c u → u.oneCell' = true := by
  intro c u I h
  cases c <;> simp only [DVal] at h
  case i => subst h; rfl
  case b => subst h; rfl
  case s => subst h; rfl
  case sl => obtain ⟨a, cap, hu, _⟩ := h; subst hu; rfl
  case sf => obtain ⟨a, hu, _⟩ := h; subst hu; rfl
  case ifa => obtain ⟨us, hu, _⟩ := h; subst hu; rfl
  case if1 => obtain ⟨us, hu, _⟩ := h; subst hu; rfl
  case v y => obtain ⟨rfl, h1⟩ := h; cases u <;> simp_all [oneV, Value.oneCell']
end
end Ab
