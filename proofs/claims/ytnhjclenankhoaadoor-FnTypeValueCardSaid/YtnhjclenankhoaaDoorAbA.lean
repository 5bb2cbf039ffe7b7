/- The frame 'Ab' is sound, sixth part: 'evK' is true of what the model runs. -/
import Derived.Test.YtnhjclenankhoaaDoorAb9
import Derived.Laws.Build
set_option linter.all false
namespace Ab
open Go
set_option linter.unusedSimpArgs false
set_option linter.unusedVariables false

section
variable {P : Program} {τ : Tab} {w : World} {g : Gh} {O : List Obj}

/-- The slice of a row as it is: its elements' cells, one behind the other. -/
theorem RowAt.all {k : Nat} {st : Bool} {z : Nat} {xs : List (List DV)} {a : Option Addr} {cap : Nat} (h : RowAt w g k st z xs a cap) :
    xs = [] ∨ ∃ b off us, a = some ⟨b, off, none⟩ ∧ DList g.imm xs.flatten us ∧ us.length = xs.length * z ∧ ∀ j, j < us.length → w.cell? ⟨b, off + j, none⟩ = us[j]? := by
  rcases h.mem with h0 | ⟨b, off, c, t, us, ha, hh, hs, ho, hu, hd, _⟩
  · left
    have := h.len
    cases xs with
    | nil => rfl
    | cons x xs => simp at this; omega
  · right
    have hul : us.length = xs.length * z := by
      rw [← hu]; simp
      have : xs.length * z ≤ cap * z := Nat.mul_le_mul_right z h.len
      omega
    refine ⟨b, off, us, ha, hd, hul, fun j hj => ?_⟩
    rw [← hu, List.getElem?_take_of_lt (by omega), List.getElem?_drop]
    simp only [World.cell?, hh]
    simp

theorem DRows_all {I : Imm} {z b : Nat} : ∀ {xs : List (List DV)} {off : Nat}, DRows I z b off xs → ∃ us, DList I xs.flatten us ∧ us.length = xs.length * z ∧ ∀ j, j < us.length → rd I b (off + j) = us[j]?
  | [], off, _ => ⟨[], trivial, by simp, fun j h => by simp at h⟩
  | x :: xs, off, ⟨h1, h2, h3⟩ => by
    obtain ⟨us, ha, hb⟩ := DCells_list h2
    obtain ⟨vs, hc, hd, he⟩ := DRows_all h3
    have app : ∀ (cs ds : List DV) (us vs : List Value), DList I cs us → DList I ds vs → DList I (cs ++ ds) (us ++ vs) := by
      intro cs
      induction cs with
      | nil => intro ds us vs h k; cases us with
        | nil => exact k
        | cons u us => exact h.elim
      | cons c cs ih => intro ds us vs h k; cases us with
        | nil => exact h.elim
        | cons u us => exact ⟨h.1, ih ds us vs h.2 k⟩
    have hul : us.length = z := by rw [← DList_length ha, h1]
    refine ⟨us ++ vs, by rw [List.flatten_cons]; exact app _ _ _ _ ha hc, by simp [hul, hd, Nat.add_mul]; omega, fun j hj => ?_⟩
    rcases Nat.lt_or_ge j us.length with h | h
    · rw [List.getElem?_append_left h]; exact hb j h
    · rw [List.getElem?_append_right h]
      have := he (j - us.length) (by simp at hj; omega)
      rw [← this]; congr 1; omega

theorem rowOf_none_of_stale : True := trivial

theorem len_run {ev : Operand → Value} {o : Oper} {x : Operand} {t : TypeId} {n : Int} (ho : o.op = .call { callee := .builtin .len, args := #[x], argTypes := #[t] })
    (h : (Builtin.len_ #[t] o.type #[ev x]).run P w = .ok (.int .i64 n) w) : (execOp ev o).run P w = .ok (.value (.int .i64 n)) w := by
  simp [execOp, ho, resolve, invoke, Go.builtin, h]

theorem args_one {α : Type} {a : Array α} {x : α} (h : a.toList = [x]) : a = #[x] := by apply Array.ext'; simpa using h

theorem cv_val (v : Value) : Val g (cv v) v := by
  cases v <;> simp [cv, Val, DVal, oneV]
  case bool b => cases b <;> simp [Val]

theorem places_run (fs : Array Field) (h : fs.toList.all (fun f => (P.info? f.type).isSome) = true) :
    (fs.mapM fun f => do pure (f.offset, ← Go.sizeOf f.type) : Sem (Array (Nat × Nat))).run P w = .ok (fs.map fun f => (f.offset, P.cellsOf f.type)) w := by
  have key : ∀ l : List Field, l.all (fun f => (P.info? f.type).isSome) = true →
      (l.mapM fun f => do pure (f.offset, ← Go.sizeOf f.type) : Sem (List (Nat × Nat))).run P w = .ok (l.map fun f => (f.offset, P.cellsOf f.type)) w := by
    intro l
    induction l with
    | nil => intro _; simp
    | cons f l ih =>
      intro h
      simp only [List.all_cons, Bool.and_eq_true] at h
      obtain ⟨ti, hti⟩ := Option.isSome_iff_exists.1 h.1
      have hs : (Go.sizeOf f.type).run P w = .ok (P.cellsOf f.type) w := by simp [Go.sizeOf, typeInfo, hti, Program.cellsOf]
      simp only [List.mapM_cons, Sem.run_bind, hs, ih h.2, Result.andThen_ok, Sem.run_pure, List.map_cons]
  rw [Array.mapM_eq_mapM_toList]
  simp only [Sem.run_map, key fs.toList h, Result.andThen_ok]
  congr 1
  apply Array.ext'
  simp

/-- A part of a struct that is a value. -/
theorem part_sound (hτ : Tok P τ) {t off : Nat} {cs : List AV} {us : List Value} {K : AV → Prop} (hv : ValL g cs us)
    (h : loadK τ t (cs.drop off) K) : ∃ v u, K v ∧ Val g v u ∧ (Go.part t us.toArray off).run P w = .ok u w := by
  unfold loadK at h
  have hv' := ValL_drop off hv
  have hlen := ValL_length hv'
  generalize hi : tg τ t = i at h
  dsimp only at h
  split at h
  · rename_i n hs hle
    have tk1 : Tok1 P t i := hi ▸ hτ.of_size (by rw [hi, hs]; simp)
    have hle' : i.size ≤ us.length - off := by
      have := Nat.le_of_ble_eq_true hle
      rw [ln_eq, hlen, List.length_drop] at this; exact this
    have hsz := tk1.sizeOf w
    have hag := tk1.isAgg w
    split at h
    · rename_i ha
      rw [tk_eq] at h
      rw [ha] at hag
      refine ⟨_, .agg ((us.drop off).take i.size).toArray, h, ⟨_, rfl, ValL_take _ hv'⟩, ?_⟩
      simp only [Go.part, Sem.run_bind, hag, Result.andThen_ok, if_true, hsz, Sem.run_pure]
      congr 2
      apply Array.ext'
      simp [Array.toList_extract, List.extract_eq_take_drop]
    · rename_i ha
      rw [ha] at hag
      split at h
      · rename_i c hc
        rw [tk_eq] at hc
        have ht := ValL_take i.size hv'
        rw [hc] at ht
        have hl1 : ((us.drop off).take i.size).length = 1 := by have := ValL_length ht; simpa using this.symm
        obtain ⟨u, hu⟩ : ∃ u, (us.drop off).take i.size = [u] := by
          match (us.drop off).take i.size, hl1 with
          | [u], _ => exact ⟨u, rfl⟩
        rw [hu] at ht
        refine ⟨c, u, h, ht.1, ?_⟩
        have hu0 : us[off]? = some u := by
          have : ((us.drop off).take i.size)[0]? = some u := by rw [hu]; rfl
          rw [List.getElem?_take_of_lt (by omega), List.getElem?_drop] at this
          simpa using this
        simp [Go.part, hag, hu0]
      · exact h.elim
  · exact h.elim

/-- An operation that only reads comes to what the evaluator tells, and leaves the world as it is. -/
theorem evK_sound (hτ : Tok P τ) (hS : Sat w g O) {e : Operand → AV} {ev : Operand → Value} (he : ∀ x, Val g (e x) (ev x))
    (hcst : ∀ u, ev (.const u) = u) (hfn : ∀ f, ev (.func f) = .func (.func f) #[] #[])
    (o : Oper) {K : AV → Prop} (h : evK τ o.op e O K) : ∃ v u, K v ∧ Val g v u ∧ (execOp ev o).run P w = .ok (.value u) w := by
  obtain ⟨dst, op, ty, pos, aft, gd⟩ := o
  dsimp only at h
  cases op with
  | move x => exact ⟨_, _, h, he x, by simp [execOp]⟩
  | assign x => exact ⟨_, _, h, he x, by simp [execOp]⟩
  | pick c a b =>
    simp only [evK] at h
    have hc := he c
    split at h
    · rename_i hx; rw [hx] at hc; simp only [Val] at hc
      exact ⟨_, _, h, he a, by simp [execOp, hc, asBool]⟩
    · rename_i hx; rw [hx] at hc; simp only [Val] at hc
      exact ⟨_, _, h, he b, by simp [execOp, hc, asBool]⟩
    · rename_i cc hx; rw [hx] at hc; simp only [Val, DVal] at hc
      split at h
      · rename_i x y h1 h2
        have k1 := boolOf_val h1 (he a)
        have k2 := boolOf_val h2 (he b)
        refine ⟨_, _, h, rfl, ?_⟩
        cases cc <;> simp [execOp, hc, asBool, k1, k2]
      · exact h.elim
    · exact h.elim
  | build t parts =>
    simp only [evK] at h
    split at h
    · rename_i hk
      split at h
      · rename_i cs hf
        obtain ⟨fs, hu, hl, hall⟩ := fields_of hτ hk
        have tk1 := hτ.of_kind (t := t) (by rw [hk]; simp)
        obtain ⟨z, hz, hc, hs, _, hone⟩ := tk1.zero w
        have hzl := ValL_vD (g := g) z.cells.toList hone
        rw [hc, ← mp1_eq] at hzl
        rw [← hl] at hf
        have hpl := places_run (P := P) (w := w) fs hall
        obtain ⟨us, h1, h2⟩ := fillA_sound hτ he (fun i => (fs.map fun f => (f.offset, P.cellsOf f.type))[i]?) (fun i f hfi hsz => by
          simp only [Array.getElem?_map, hfi, Option.map_some]
          obtain ⟨ti, zz, hti, hts, _⟩ := (hτ.of_size hsz).info
          simp [Program.cellsOf, hti, hts]) parts.toList _ z.cells cs hzl hf
        refine ⟨_, .agg us, h, ⟨us.toList, by simp, h2⟩, ?_⟩
        have hparts : (parts.map fun x => (x.1, ev x.2)).toList = parts.toList.map fun x => (x.1, ev x.2) := by simp
        simp only [execOp, Instr.build, Sem.run_bind, hz, Result.andThen_ok, run_underlying hu, hpl, hparts, h1, Sem.run_pure]
      · exact h.elim
    · exact h.elim
  | load t a =>
    simp only [evK] at h
    have ha := he a
    split at h
    · rename_i n off hx
      rw [hx] at ha; obtain ⟨hn, hu⟩ := ha
      split at h
      · rename_i cs hcs
        obtain ⟨h1, h2⟩ := hS.get hcs (by simp)
        obtain ⟨c, t', hh, hown, him, _, hv⟩ := hS.obj n _ h1
        rw [dp_eq] at h
        obtain ⟨v, u, hK, hv', hr⟩ := loadK_sound (w := w) (b := g.blk n) (off := off) hτ (ValL_drop off hv) (fun j hj => by
          rw [List.getElem?_drop]; simp only [World.cell?, hh]; simp) h
        exact ⟨v, u, hK, hv', by simp [execOp, hu, hr]⟩
      · exact h.elim
    · rename_i cs hx
      rw [hx] at ha; obtain ⟨b, off, hu, hc⟩ := ha
      obtain ⟨us, h1, h2⟩ := hS.cells hc
      rw [mp1_eq] at h
      obtain ⟨v, u, hK, hv', hr⟩ := loadK_sound (w := w) (b := b) (off := off) hτ h1 h2 h
      exact ⟨v, u, hK, hv', by simp [execOp, hu, hr]⟩
    · rename_i c v z i off hx
      rw [hx] at ha
      split at h
      · rename_i st z' xs hro
        obtain ⟨hcn, a', cap, hrow, hat⟩ := hS.row hro
        split at h
        · rename_i hz
          have hz := Nat.eq_of_beq_eq_true hz; subst hz
          obtain ⟨r, hr, h⟩ := h
          obtain ⟨_, _, ha⟩ := ha
          rw [hrow] at ha
          rcases ha with ha | ⟨_, b, o2, len, cap', hs, hu⟩
          · simp at ha
          · obtain ⟨b', off', us, hab, hd, hcell⟩ := hat.elem hr
            simp only [Value.slice.injEq] at hs
            obtain ⟨hs1, _, _⟩ := hs
            rw [hab] at hs1
            simp only [Option.some.injEq, Addr.mk.injEq] at hs1
            obtain ⟨rfl, rfl, _⟩ := hs1
            rw [mp1_eq, dp_eq, List.map_drop] at h
            obtain ⟨v', u, hK, hv', hrr⟩ := loadK_sound (w := w) (b := b') (off := off' + i * z + off) hτ (ValL_drop off (ValL_of_DList hd)) (fun j hj => by
              rw [List.getElem?_drop, ← hcell (off + j) (by simp at hj; omega)]; congr 2; omega) h
            exact ⟨v', u, hK, hv', by simp [execOp, hu, hrr]⟩
        · exact h.elim
      · exact h.elim
    · exact h.elim
  | nilCheck x =>
    simp only [evK] at h
    have hx := he x
    split at h
    · rename_i n off hx'; rw [hx'] at hx
      refine ⟨_, _, h, hx, ?_⟩
      obtain ⟨_, hu⟩ := hx
      simp [execOp, hu]
    · rename_i cs hx'; rw [hx'] at hx
      refine ⟨_, _, h, hx, ?_⟩
      obtain ⟨_, _, hu, _⟩ := hx
      simp [execOp, hu]
    · rename_i c v z i off hx'; rw [hx'] at hx
      refine ⟨_, _, h, hx, ?_⟩
      obtain ⟨_, ⟨a, hu⟩, _⟩ := hx
      simp [execOp, hu]
    · rename_i f cs hx'; rw [hx'] at hx
      refine ⟨_, _, h, hx, ?_⟩
      obtain ⟨us, hu, _⟩ := hx
      simp [execOp, hu]
    · exact h.elim
  | binOp op t x y yt =>
    simp only [evK] at h
    split at h
    · rename_i hc
      obtain ⟨v, u, hK, hv, hr⟩ := nilK_sound (w := w) hτ he hc h
      exact ⟨v, u, hK, hv, by simp only [execOp, Sem.run_bind] at hr ⊢; simp [hr]⟩
    · obtain ⟨v, u, hK, hv, hr⟩ := binK_sound (w := w) (x := x) (y := y) hτ he h
      exact ⟨v, u, hK, hv, by simp only [execOp, Sem.run_bind] at hr ⊢; simp [hr]⟩
  | unOp op t x =>
    simp only [evK] at h
    have hx := he x
    split at h
    · split at h
      · rename_i hx'; rw [hx'] at hx; simp only [Val] at hx
        exact ⟨_, _, h, rfl, by simp [execOp, Op.unary, hx]⟩
      · rename_i hx'; rw [hx'] at hx; simp only [Val] at hx
        exact ⟨_, _, h, rfl, by simp [execOp, Op.unary, hx]⟩
      · rename_i c hx'; rw [hx'] at hx; simp only [Val, DVal] at hx
        exact ⟨_, _, h, rfl, by simp [execOp, Op.unary, hx]⟩
      · exact h.elim
    · split at h
      · rename_i k n hx'; rw [hx'] at hx; simp only [Val, DVal] at hx
        obtain ⟨h1, h2, h⟩ := h
        have hw := wrap_in h1 h2
        exact ⟨_, _, h, rfl, by simp only [Int.zero_sub] at hw ⊢; simp [execOp, Op.unary, Op.intArith, hx, hw]⟩
      · exact h.elim
    · exact h.elim
  | convert src dst' x =>
    simp only [evK] at h
    have hx := he x
    split at h
    · rename_i k hk
      have hd := (hτ.of_kind (t := dst') (by rw [hk]; simp)).kind
      rw [kindOk, hk] at hd
      dsimp only at hd
      split at h
      · exact h.elim
      · rename_i k' n hx' hne
        rw [hx'] at hx; simp only [Val, DVal] at hx
        obtain ⟨h1, h2, h⟩ := h
        obtain ⟨d, hs, _⟩ := (hτ.of_kind (t := src) (by intro e; exact hne e)).agg
        refine ⟨_, _, h, rfl, ?_⟩
        simp [execOp, convert, run_underlying hs, run_underlying hd, hx, Conv.intToInt, wrap_in h1 h2]
      · exact h.elim
    · rename_i hk
      have hd := (hτ.of_kind (t := dst') (by rw [hk]; simp)).kind
      rw [kindOk, hk] at hd
      dsimp only at hd
      split at h
      · rename_i hk2
        have hs := (hτ.of_kind (t := src) (by rw [hk2]; simp)).kind
        rw [kindOk, hk2] at hs
        dsimp only at hs
        split at h
        · rename_i l hx'
          rw [hx'] at hx; simp only [Val, DVal] at hx
          exact ⟨_, _, h, rfl, by simp [execOp, convert, run_underlying hs, run_underlying hd, hx]⟩
        · exact h.elim
      · rename_i hk2
        have hs := (hτ.of_kind (t := src) (by rw [hk2]; simp)).kind
        rw [kindOk, hk2] at hs
        dsimp only at hs
        split at h
        · rename_i hk3
          have hel := (hτ.of_kind (t := (tg τ src).elem) (by rw [hk3]; simp)).kind
          rw [kindOk, hk3] at hel
          dsimp only at hel
          have go : ∀ (a : Option Addr) (xs : List (List DV)) (cap : Nat) (l : List UInt8), bytesOf xs = some l →
              (xs = [] ∨ ∃ b off us, a = some ⟨b, off, none⟩ ∧ DList g.imm xs.flatten us ∧ ∀ j, j < us.length → w.cell? ⟨b, off + j, none⟩ = us[j]?) →
              ev x = .slice a xs.length cap → (convert src dst' (ev x)).run P w = .ok (.string ⟨l.toArray⟩) w := by
            intro a xs cap l hb hm hev
            rw [hev, run_convert_bytes_string w src dst' _ a _ _ hs hel hd]
            rcases hm with rfl | ⟨b, off, us, rfl, hdl, hcell⟩
            · simp [bytesOf] at hb; subst hb
              cases a with
              | none => simp [Conv.bytesToString]; rfl
              | some a =>
                rw [run_bytesToString w a _ cap [] (by simp [loadCells, loadCellsFrom])]
                simp
                rfl
            · obtain ⟨ns, h1, h2, h3⟩ := bytes_sound hb hdl
              subst h3
              rw [h2, h1, List.length_map]
              refine run_bytes (fun j hj => ?_)
              rw [hcell j (by rw [h1]; simpa using hj), h1]
              simp [hj, List.getD]
          replace hx := low_val hx
          split at h
          · rename_i xs hx'
            split at h
            · rename_i l hb
              rw [hx'] at hx
              obtain ⟨a, cap, hu, _, hr⟩ := hx
              refine ⟨_, _, h, rfl, ?_⟩
              have := go a xs cap l hb (by
                rcases hr with hr | ⟨b, off, ha, hr⟩
                · exact .inl hr
                · obtain ⟨us, h1, h2, h3⟩ := DRows_all hr
                  refine .inr ⟨b, off, us, ha, h1, fun j hj => ?_⟩
                  have h4 := h3 j hj
                  rw [List.getElem?_eq_getElem hj] at h4 ⊢
                  exact hS.rd h4) hu
              simp [execOp, this]
            · exact h.elim
          · rename_i c v hx'
            split at h
            · rename_i st xs hro
              split at h
              · rename_i l hb
                rw [hx'] at hx
                obtain ⟨hcn, a, cap, hrow, hat⟩ := hS.row hro
                have hu := Val_row hx hrow
                refine ⟨_, _, h, rfl, ?_⟩
                have := go a xs cap l hb (by
                  rcases hat.all with h1 | ⟨b, off, us, h1, h2, _, h3⟩
                  · exact .inl h1
                  · exact .inr ⟨b, off, us, h1, h2, h3⟩) hu
                simp [execOp, this]
              · exact h.elim
            · exact h.elim
          · exact h.elim
        · exact h.elim
      · exact h.elim
    · exact h.elim
  | fieldAddr s x f =>
    simp only [evK] at h
    split at h
    · rename_i hf hk
      obtain ⟨fs, hu, hl, hall⟩ := fields_of hτ hk
      obtain ⟨fd, hfd, hn⟩ := field_of hl hf
      rw [hn] at h
      dsimp only at h
      split at h
      · exact h.elim
      · rename_i m hsz
        have tk1 := hτ.of_size (t := fd.type) (by rw [hsz]; simp)
        have hso := tk1.sizeOf w
        have hne : ¬ (tg τ fd.type).size = 0 := by rw [hsz]; simp
        have run : ∀ b o, ev x = .pointer (some ⟨b, o, none⟩) → (Instr.fieldAt s (ev x) f).run P w = .ok (.pointer (some ⟨b, o + fd.offset, none⟩)) w := by
          intro b o hev
          simp [Instr.fieldAt, run_underlying hu, hfd, hev, Instr.sureAddr, fieldPlace, hso, hne, add_none]
        have hx := he x
        split at h
        · rename_i n off hx'
          rw [hx'] at hx
          obtain ⟨h1, h2⟩ := hx
          exact ⟨_, _, h, ⟨h1, rfl⟩, by simp [execOp, run _ _ h2]⟩
        · rename_i cs hx'
          rw [hx'] at hx
          obtain ⟨b, off, h1, h2⟩ := hx
          rw [dp_eq] at h
          exact ⟨_, _, h, ⟨b, off + fd.offset, rfl, DCells_drop _ h2⟩, by simp [execOp, run _ _ h1]⟩
        · rename_i c v z i off hx'
          rw [hx'] at hx
          obtain ⟨h1, ⟨a, h2⟩, h3⟩ := hx
          have hr : (Instr.fieldAt s (ev x) f).run P w = .ok (.pointer (some (a.add fd.offset))) w := by
            simp [Instr.fieldAt, run_underlying hu, hfd, h2, Instr.sureAddr, fieldPlace, hso, hne]
          refine ⟨_, .pointer (some (a.add fd.offset)), h, ⟨h1, ⟨_, rfl⟩, ?_⟩, by simp [execOp, hr]⟩
          rcases h3 with h3 | ⟨h3, b, o, len, cap, h4, h5⟩
          · exact .inl h3
          · refine .inr ⟨h3, b, o, len, cap, h4, ?_⟩
            rw [h2] at h5
            simp only [Value.pointer.injEq, Option.some.injEq] at h5
            rw [h5, add_none]
            simp [Nat.add_assoc]
        · exact h.elim
    · exact h.elim
  | field s x f =>
    simp only [evK] at h
    split at h
    · rename_i hf hk
      obtain ⟨fs, hu, hl, hall⟩ := fields_of hτ hk
      obtain ⟨fd, hfd, hn⟩ := field_of hl hf
      rw [hn] at h
      dsimp only at h
      split at h
      · rename_i cs hx'
        have hx := he x
        rw [hx'] at hx
        obtain ⟨us, hux, hv⟩ := hx
        rw [dp_eq] at h
        obtain ⟨v, u, hK, hv', hr⟩ := part_sound (w := w) hτ hv h
        exact ⟨v, u, hK, hv', by simp [execOp, Instr.field, run_underlying hu, hfd, hux, asAgg, hr]⟩
      · exact h.elim
    · exact h.elim
  | indexAddr t x ix =>
    simp only [evK] at h
    split at h
    · rename_i n hk hn
      obtain ⟨ki, hix⟩ := intOf_val hn (he ix)
      have hu := (hτ.of_kind (t := t) (by rw [hk]; simp)).kind
      rw [kindOk, hk] at hu
      dsimp only at hu
      have hx := low_val (he x)
      have ez : ∀ z, eqz τ t z = true → z = (tg τ (tg τ t).elem).size ∧ (tg τ (tg τ t).elem).size ≠ 0 := by
        intro z hz
        unfold eqz at hz
        split at hz
        · cases hz
        · rename_i m hm; exact ⟨by rw [hm]; exact Nat.eq_of_beq_eq_true hz, by rw [hm]; simp⟩
      have run : ∀ b o len cap, (tg τ (tg τ t).elem).size ≠ 0 → ev x = .slice (some ⟨b, o, none⟩) len cap → 0 ≤ n → n < (len : Int) →
          (Instr.indexAt t (ev x) (ev ix)).run P w = .ok (.pointer (some ⟨b, o + n.toNat * (tg τ (tg τ t).elem).size, none⟩)) w := by
        intro b o len cap hs hev h0 h1
        have hso := (hτ.of_size hs).sizeOf w
        simp [Instr.indexAt, hix, asIntOf, run_underlying hu, hev, h0, h1, hso, add_none]
      split at h
      · rename_i z xs hx'
        split at h
        · rename_i hz
          obtain ⟨rfl, hs⟩ := ez z hz
          obtain ⟨h0, r, hr, h⟩ := h
          rw [fDs_eq] at h
          rw [hx'] at hx
          obtain ⟨a, cap, hu', _, hrows⟩ := hx
          have hlt : n.toNat < xs.length := by
            rcases Nat.lt_or_ge n.toNat xs.length with h' | h'
            · exact h'
            · rw [List.getElem?_eq_none h'] at hr; cases hr
          rcases hrows with rfl | ⟨b, off, ha, hrows⟩
          · simp at hlt
          · subst ha
            obtain ⟨_, hc⟩ := DRows_get hrows hr
            exact ⟨_, _, h, ⟨b, _, rfl, hc⟩, by simp [execOp, run b off _ _ hs hu' h0 (by omega)]⟩
        · exact h.elim
      · rename_i c v hx'
        split at h
        · rename_i st z xs hro
          split at h
          · rename_i hz
            obtain ⟨rfl, hs⟩ := ez z hz
            obtain ⟨⟨h0, h1⟩, h⟩ := h
            obtain ⟨hcn, a, cap, hrow, hat⟩ := hS.row hro
            rw [hx'] at hx
            have hu' := Val_row hx hrow
            have hlt : n.toNat < xs.length := by omega
            obtain ⟨b, off, us, ha, _, _⟩ := hat.elem (i := n.toNat) (List.getElem?_eq_getElem hlt)
            subst ha
            refine ⟨_, _, h, ⟨hcn, ⟨_, rfl⟩, .inr ⟨by rw [hrow], b, off, _, _, by rw [hrow], rfl⟩⟩, ?_⟩
            simp [execOp, run b off _ _ hs hu' h0 (by omega)]
          · exact h.elim
        · exact h.elim
      · exact h.elim
    · exact h.elim
  | index t x ix =>
    simp only [evK] at h
    split at h
    · rename_i n hk hn
      obtain ⟨ki, hix⟩ := intOf_val hn (he ix)
      have hu := (hτ.of_kind (t := t) (by rw [hk]; simp)).kind
      rw [kindOk, hk] at hu
      dsimp only at hu
      have hx := he x
      split at h
      · rename_i l hx'
        rw [hx'] at hx; simp only [Val, DVal] at hx
        obtain ⟨h0, c, hc, h⟩ := h
        refine ⟨_, _, h, rfl, ?_⟩
        have hget : (⟨l.toArray⟩ : ByteArray)[n.toNat]? = some c := by
          have hlt : n.toNat < l.length := by
            rcases Nat.lt_or_ge n.toNat l.length with h' | h'
            · exact h'
            · rw [List.getElem?_eq_none h'] at hc; cases hc
          have hlt' : n.toNat < (⟨l.toArray⟩ : ByteArray).size := by rw [size_mk]; exact hlt
          rw [List.getElem?_eq_getElem hlt] at hc
          simp only [Option.some.injEq] at hc
          rw [← hc]
          exact getElem?_pos (⟨l.toArray⟩ : ByteArray) n.toNat hlt'
        simp [execOp, Instr.index, hix, asIntOf, run_underlying hu, hx, h0, hget]
      · exact h.elim
    · exact h.elim
  | slice t x lo hi mx =>
    simp only [evK] at h
    split at h
    · exact h.elim
    · split at h
      · rename_i hk
        have hu := (hτ.of_kind (t := t) (by rw [hk]; simp)).kind
        rw [kindOk, hk] at hu
        dsimp only at hu
        have hx := he x
        split at h
        · rename_i l hx'
          rw [hx'] at hx; simp only [Val, DVal] at hx
          obtain ⟨a, b, hK, hab, hbl, hr⟩ := bndK_sound (P := P) (w := w) he false l.length (Nat.le_refl _) h
          refine ⟨_, _, hK, rfl, ?_⟩
          have hs := size_mk l
          simp only [execOp, Instr.sliceAt, Sem.run_bind, run_underlying hu, Result.andThen_ok, Instr.slice, hx, Option.map_none, Option.isSome_none, Bool.false_eq_true, if_false, hs, hr, Sem.run_pure]
          rw [Lib.extract_eq]
          simp [List.drop_take]
        · exact h.elim
      · exact h.elim
  | extract x n =>
    simp only [evK] at h
    have hx := he x
    split at h
    · rename_i vs hx'
      split at h
      · rename_i hn
        rw [hx'] at hx
        obtain ⟨us, hu, hv⟩ := hx
        have hlt : n < us.length := by
          have := Nat.le_of_ble_eq_true hn
          rw [ln_eq, ValL_length hv] at this; omega
        have hg := ValL_get hv n
        rw [nth_eq] at h
        refine ⟨_, _, h, hg, ?_⟩
        simp [execOp, Instr.extract, hu, hlt, List.getD]
      · exact h.elim
    · exact h.elim
  | call c =>
    simp only [evK] at h
    obtain ⟨callee, args, ats⟩ := c
    dsimp only at h
    split at h
    · rename_i x t hargs hats
      have ha := args_one hargs
      have hb := args_one hats
      subst ha; subst hb
      have hx := low_val (he x)
      have run : ∀ n : Int, (Builtin.len_ #[t] ty #[ev x]).run P w = .ok (.int .i64 n) w →
          (execOp ev { dst := dst, op := .call { callee := .builtin .len, args := #[x], argTypes := #[t] }, type := ty, pos := pos, after := aft, guard := gd }).run P w = .ok (.value (.int .i64 n)) w :=
        fun n hn => len_run (o := { dst := dst, op := .call { callee := .builtin .len, args := #[x], argTypes := #[t] }, type := ty, pos := pos, after := aft, guard := gd }) rfl hn
      have hsl : (tg τ t).kind = .slice → ∀ a l c, ev x = .slice a l c → (Builtin.len_ #[t] ty #[ev x]).run P w = .ok (.int .i64 l) w := by
        intro hk a l c hev
        have hu := (hτ.of_kind (t := t) (by rw [hk]; simp)).kind
        rw [kindOk, hk] at hu
        dsimp only at hu
        simp [Builtin.len_, run_underlying hu, hev, goInt]
      split at h
      · rename_i z xs hk hx'
        rw [hx'] at hx
        obtain ⟨a, cap, hu, _⟩ := hx
        exact ⟨_, _, h, rfl, run _ (hsl hk _ _ _ hu)⟩
      · rename_i c v hk hx'
        split at h
        · rename_i st z xs hro
          rw [hx'] at hx
          obtain ⟨hcn, a, cap, hrow, hat⟩ := hS.row hro
          exact ⟨_, _, h, rfl, run _ (hsl hk _ _ _ (Val_row hx hrow))⟩
        · exact h.elim
      · rename_i hk hx'
        rw [hx'] at hx
        exact ⟨_, _, h, rfl, run _ (hsl hk _ _ _ hx.1)⟩
      · rename_i l hk hx'
        rw [hx'] at hx; simp only [Val, DVal] at hx
        have hu := (hτ.of_kind (t := t) (by rw [hk]; simp)).kind
        rw [kindOk, hk] at hu
        dsimp only at hu
        exact ⟨_, _, h, rfl, run _ (by simp [Builtin.len_, run_underlying hu, hx, goInt, size_mk])⟩
      · exact h.elim
    · exact h.elim
  | makeInterface t x =>
    simp only [evK] at h
    have go : (tg τ t).kind ≠ .iface → (tg τ t).kind ≠ .other → (Instr.makeInterface t (ev x)).run P w = .ok (.iface t (ev x)) w := by
      intro h1 h2
      refine run_makeInterface w t (ev x) ?_
      have hk := (hτ.of_kind h2).kind
      unfold kindOk at hk
      split at hk <;> first
        | (obtain ⟨_, hk, _⟩ := hk; simp [Program.concrete, hk]; done)
        | (obtain ⟨_, _, _, hk⟩ := hk; simp [Program.concrete, hk]; done)
        | (simp [Program.concrete, hk]; done)
        | (rename_i he; exact absurd he h1)
        | (rename_i he; exact absurd he h2)
    split at h
    · exact h.elim
    · exact h.elim
    · rename_i h1 h2
      exact ⟨_, _, h, ⟨_, rfl, he x⟩, by simp [execOp, go h1 h2]⟩
  | makeFunc f first caps =>
    simp only [evK] at h
    split at h
    · rename_i fn hf
      have hfirst : first = #[] := by apply Array.ext'; simpa using hf
      subst hfirst
      rw [mp1_eq] at h
      refine ⟨_, .func (.func fn) #[] (caps.map ev), h, ⟨caps.toList.map ev, ?_, ?_⟩, by simp [execOp, Instr.makeFunc]⟩
      · rw [show caps.map ev = (caps.toList.map ev).toArray from by apply Array.ext'; simp]
      · have : ∀ l : List Operand, ValL g (l.map e) (l.map ev) := by
          intro l; induction l with
          | nil => trivial
          | cons x l ih => exact ⟨he x, ih⟩
        exact this _
    · exact h.elim
  | typeAssert x xt t ok =>
    simp only [evK] at h
    have hx := he x
    have und : (tg τ t).kind ≠ .iface → (tg τ t).kind ≠ .other → ∃ d, (underlying t).run P w = .ok d w ∧ (∀ ms, d ≠ .interface ms) := by
      intro h1 h2
      have hk := (hτ.of_kind h2).kind
      unfold kindOk at hk
      split at hk <;> first
        | (obtain ⟨_, hk, _⟩ := hk; exact ⟨_, run_underlying hk w, by simp⟩)
        | (obtain ⟨_, _, _, hk⟩ := hk; exact ⟨_, run_underlying hk w, by simp⟩)
        | (exact ⟨_, run_underlying hk w, by simp⟩)
        | (rename_i he; exact absurd he h1)
        | (rename_i he; exact absurd he h2)
    have hit : ∀ y, (tg τ t).kind ≠ .iface → (tg τ t).kind ≠ .other → ev x = .iface t y → (Instr.typeAssert (ev x) xt t ok).run P w = .ok (if ok then .tuple #[y, .bool true] else y) w := by
      intro y h1 h2 hev
      obtain ⟨d, hd, hn⟩ := und h1 h2
      rw [hev, Instr.typeAssert, Sem.run_bind, hd]
      simp only [Result.andThen_ok]
      cases d <;> first | (exact absurd rfl (hn _)) | simp
    have miss : (tg τ t).kind ≠ .iface → (tg τ t).kind ≠ .other → (ev x = .nilIface ∨ ∃ u y, u ≠ t ∧ ev x = .iface u y) →
        ∃ z, (Instr.typeAssert (ev x) xt t true).run P w = .ok (.tuple #[z, .bool false]) w ∧ Val g (mkZero (tg τ t)) z := by
      intro h1 h2 hev
      obtain ⟨d, hd, hn⟩ := und h1 h2
      obtain ⟨z, hz, hzv⟩ := mkZero_sound (w := w) (g := g) hτ h2
      refine ⟨z, ?_, hzv⟩
      rcases hev with hev | ⟨u, y, hne, hev⟩ <;> rw [hev, Instr.typeAssert, Sem.run_bind, hd] <;> simp only [Result.andThen_ok]
      · cases d <;> first | (exact absurd rfl (hn _)) | simp [hz]
      · cases d <;> first | (exact absurd rfl (hn _)) | simp [hz, hne]
    have two : ∀ (a b : AV) (u v : Value), Val g a u → Val g b v → Val g (.tup [a, b]) (.tuple #[u, v]) := fun a b u v h1 h2 => ⟨[u, v], rfl, h1, h2, trivial⟩
    split at h
    · exact h.elim
    · exact h.elim
    · rename_i h1 h2
      have n1 : (tg τ t).kind ≠ .iface := fun e => h1 e
      have n2 : (tg τ t).kind ≠ .other := fun e => h2 e
      split at h
      · rename_i u y hx'
        rw [hx'] at hx
        obtain ⟨y', hu, hy⟩ := hx
        split at h
        · rename_i hb
          have := Nat.eq_of_beq_eq_true hb; subst this
          have hr := hit y' n1 n2 hu
          exact ⟨_, _, h, two _ _ _ _ hy rfl, by simp [execOp, hr]⟩
        · rename_i hb
          obtain ⟨z, hr, hz⟩ := miss n1 n2 (.inr ⟨u, y', by intro e; subst e; simp at hb, hu⟩)
          exact ⟨_, _, h, two _ _ _ _ hz rfl, by simp [execOp, hr]⟩
      · rename_i u cs hx'
        rw [hx'] at hx
        obtain ⟨us, hu, hy⟩ := hx
        rw [mp1_eq] at h
        split at h
        · rename_i hb
          have := Nat.eq_of_beq_eq_true hb; subst this
          have hr := hit _ n1 n2 hu
          exact ⟨_, _, h, two _ _ _ _ ⟨us, rfl, ValL_of_DList hy⟩ rfl, by simp [execOp, hr]⟩
        · rename_i hb
          obtain ⟨z, hr, hz⟩ := miss n1 n2 (.inr ⟨u, _, by intro e; subst e; simp at hb, hu⟩)
          exact ⟨_, _, h, two _ _ _ _ hz rfl, by simp [execOp, hr]⟩
      · rename_i hx'
        rw [hx'] at hx
        obtain ⟨z, hr, hz⟩ := miss n1 n2 (.inl hx.1)
        exact ⟨_, _, h, two _ _ _ _ hz rfl, by simp [execOp, hr]⟩
      · exact h.elim
    · rename_i h1 h2
      have n1 : (tg τ t).kind ≠ .iface := fun e => h1 e
      have n2 : (tg τ t).kind ≠ .other := fun e => h2 e
      split at h
      · rename_i u y hx'
        rw [hx'] at hx
        obtain ⟨y', hu, hy⟩ := hx
        split at h
        · rename_i hb
          have := Nat.eq_of_beq_eq_true hb; subst this
          have hr := hit y' n1 n2 hu
          exact ⟨_, _, h, hy, by simp [execOp, hr]⟩
        · exact h.elim
      · rename_i u cs hx'
        rw [hx'] at hx
        obtain ⟨us, hu, hy⟩ := hx
        rw [mp1_eq] at h
        split at h
        · rename_i hb
          have := Nat.eq_of_beq_eq_true hb; subst this
          have hr := hit _ n1 n2 hu
          exact ⟨_, _, h, ⟨us, rfl, ValL_of_DList hy⟩, by simp [execOp, hr]⟩
        · exact h.elim
      · exact h.elim
  | _ => exact h.elim
end
end Ab
