/- The frame 'Ab' is sound, tenth part: slices, stores into rows, slice literals. -/
import Derived.Test.YtnhjclenankhoaaDoorAbD
set_option linter.all false
namespace Ab
open Go
set_option linter.unusedSimpArgs false
set_option linter.unusedVariables false

section
variable {P : Program} {τ : Tab} {w : World} {g : Gh} {O : List Obj}

theorem DRows_drop {I : Imm} {z b : Nat} : ∀ {xs : List (List DV)} {off : Nat} (n : Nat), DRows I z b off xs → DRows I z b (off + n * z) (xs.drop n)
  | [], off, n, _ => by simp [DRows]
  | x :: xs, off, 0, h => by simpa using h
  | x :: xs, off, n + 1, ⟨_, _, h⟩ => by
    have := DRows_drop n h
    rw [show off + z + n * z = off + (n + 1) * z by rw [Nat.add_mul]; omega] at this
    simpa using this
theorem DRows_take {I : Imm} {z b : Nat} : ∀ {xs : List (List DV)} {off : Nat} (n : Nat), DRows I z b off xs → DRows I z b off (xs.take n)
  | [], off, n, _ => by simp [DRows]
  | x :: xs, off, 0, h => by simp [DRows]
  | x :: xs, off, n + 1, ⟨h1, h2, h3⟩ => ⟨h1, h2, DRows_take n h3⟩

/-- A piece of a slice of data. -/
theorem slice_data {I : Imm} {z : Nat} {xs : List (List DV)} {a : Option Addr} {cap lo hi : Nat} (hlo : lo ≤ hi) (hhi : hi ≤ xs.length) (hcap : xs.length ≤ cap)
    (h : xs = [] ∨ ∃ b off, a = some ⟨b, off, none⟩ ∧ DRows I z b off xs) :
    DVal I (.sl z ((xs.take hi).drop lo)) (.slice (if cap = lo then a else a.map (·.add (lo * z))) (hi - lo) (cap - lo)) := by
  have hl : ((xs.take hi).drop lo).length = hi - lo := by simp; omega
  refine ⟨_, _, by rw [hl], by omega, ?_⟩
  by_cases he : lo = hi
  · left; apply List.eq_nil_of_length_eq_zero; omega
  · right
    rcases h with rfl | ⟨b, off, ha, h⟩
    · simp at hhi; omega
    · refine ⟨b, off + lo * z, ?_, DRows_drop lo (DRows_take hi h)⟩
      rw [if_neg (by omega), ha]
      simp [add_none]

theorem slice_run (hτ : Tok P τ) {t : Nat} (hk : (tg τ t).kind = .slice) (hs : (tg τ (tg τ t).elem).size ≠ 0) {a : Option Addr} {len cap lo hi : Nat} {l h : Option Value}
    (hb : (Instr.sliceBounds true len cap l h none).run P w = .ok (lo, hi, cap) w) :
    (Instr.sliceAt t (.slice a len cap) l h none).run P w = .ok (.slice (if cap = lo then a else a.map (·.add (lo * (tg τ (tg τ t).elem).size))) (hi - lo) (cap - lo)) w := by
  have ht := (hτ.of_kind (t := t) (by rw [hk]; simp)).kind
  rw [kindOk, hk] at ht
  dsimp only at ht
  have hso := (hτ.of_size hs).sizeOf w
  simp [Instr.sliceAt, Instr.slice, run_underlying ht, hb, hso]

/-! ### A row whose cells are written -/
theorem flatten_set {α : Type} {z : Nat} : ∀ {xs : List (List α)} (_ : ∀ r ∈ xs, r.length = z) (i : Nat) (ds : List α), i < xs.length → ds.length = z →
    (xs.set i ds).flatten = xs.flatten.take (i * z) ++ ds ++ xs.flatten.drop ((i + 1) * z)
  | [], _, i, ds, h, _ => by simp at h
  | x :: xs, hl, 0, ds, _, hd => by
    have hx := hl x (by simp)
    simp [← hx]
  | x :: xs, hl, i + 1, ds, h, hd => by
    have hx := hl x (by simp)
    have ih := flatten_set (xs := xs) (fun r hr => hl r (List.mem_cons_of_mem _ hr)) i ds (by simpa using h) hd
    simp only [List.set_cons_succ, List.flatten_cons, ih]
    have e1 : (i + 1) * z = x.length + i * z := by rw [Nat.add_mul, hx]; omega
    have e2 : (i + 1 + 1) * z = x.length + (i + 1) * z := by rw [hx, Nat.add_mul (i + 1)]; omega
    rw [e2, List.drop_length_add_append, e1, List.take_length_add_append]
    simp

theorem DList_take {I : Imm} : ∀ {cs : List DV} {us : List Value} (n : Nat), DList I cs us → DList I (cs.take n) (us.take n)
  | [], [], n, _ => by simp [DList]
  | c :: cs, u :: us, 0, _ => by simp [DList]
  | c :: cs, u :: us, n + 1, h => ⟨h.1, DList_take n h.2⟩
theorem DList_drop {I : Imm} : ∀ {cs : List DV} {us : List Value} (n : Nat), DList I cs us → DList I (cs.drop n) (us.drop n)
  | [], [], n, _ => by simp [DList]
  | c :: cs, u :: us, 0, h => h
  | c :: cs, u :: us, n + 1, h => DList_drop n h.2

/-- Cells of an element of a row are written. -/
theorem store_elem (hτ : Tok P τ) (hS : Sat w g O) {t c v z i off : Nat} {xs : List (List DV)} {r r2 : List DV} {ds : List DV} {u p : Value} (hs : (tg τ t).size ≠ 0)
    (hro : rowOf O c v = some (true, z, xs)) (hi : xs[i]? = some r) (hsp : splice r off ds = some r2) (hd : DList g.imm ds u.cells.toList) (hl : ds.length = (tg τ t).size)
    (hp : Val g (.ra c v z i off) p) :
    ∃ w' g', (Instr.storeAt t p u).run P w = .ok () w' ∧ g.le g' ∧ Fr w w' g g' ∧ Sat w' g' (O.set c (.row v true z (xs.set i r2))) := by
  obtain ⟨hcn, a, cap, hrow, hat⟩ := hS.row hro
  obtain ⟨_, _, hp⟩ := hp
  rw [hrow] at hp
  rcases hp with hp | ⟨_, b, o2, len, cap', hsl, hpv⟩
  · simp at hp
  simp only [Value.slice.injEq] at hsl
  obtain ⟨ha, rfl, rfl⟩ := hsl
  have hlt : i < xs.length := by
    rcases Nat.lt_or_ge i xs.length with h | h
    · exact h
    · rw [List.getElem?_eq_none h] at hi; cases hi
  obtain ⟨b', o', cc, tt, us, ha', hh, hsz, ho, hus, hdl, him⟩ := hat.mem.resolve_left (by have := hat.len; omega)
  rw [ha] at ha'
  simp only [Option.some.injEq, Addr.mk.injEq] at ha'
  obtain ⟨rfl, rfl, _⟩ := ha'
  obtain ⟨hle, hr2⟩ := splice_eq _ _ _ _ hsp
  have hrz : r.length = z := hat.elen r (List.mem_of_getElem? hi)
  have hr2z : r2.length = z := by rw [hr2]; simp; omega
  have hul : us.length = xs.length * z := by rw [← DList_length hdl, flat_len hat.elen]
  have hucs : u.cells.size = ds.length := by rw [DList_length hd]; simp
  have hiz : (i + 1) * z ≤ xs.length * z := Nat.mul_le_mul_right z hlt
  have hcz : xs.length * z ≤ cap * z := Nat.mul_le_mul_right z hat.len
  rw [Nat.add_mul] at hiz
  have hfit : o2 + i * z + off + u.cells.size ≤ cc.size := by omega
  have hone : ∀ q ∈ u.cells.toList, q.oneCell' = true := DList_one hd
  have hr := storeAt_run (P := P) (u := u) hτ hs hh (by rw [hucs, hl]) hfit hone
  generalize hcc' : (cc.toList.take (o2 + i * z + off) ++ u.cells.toList ++ cc.toList.drop (o2 + i * z + off + u.cells.size)).toArray = cc' at hr
  have hcl : cc'.toList = cc.toList.take (o2 + i * z + off) ++ u.cells.toList ++ cc.toList.drop (o2 + i * z + off + u.cells.size) := by rw [← hcc']
  have hcsz : cc'.size = cc.size := by
    rw [← Array.length_toList, hcl]; simp; omega
  simp only [if_true] at him
  rw [hpv]
  refine ⟨_, g, hr, Gh.le_refl g, ⟨by simp, rfl, rfl, rfl, fun i hi' hown => setRow_other _ _ _ _ ?_, fun _ _ _ => rfl, fun _ _ h => h⟩,
    hS.upd hcn (Gh.le_refl g) rfl (fun _ _ _ => rfl) (by simp) (fun b2 hb hne => ⟨setRow_other _ _ _ _ ?_, rfl, rfl⟩) (fun b2 ys hi' hc => ?_) (fun b2 j hj hc => ?_) ?_⟩
  · rintro rfl; rw [ho] at hown; cases hown
  · rintro rfl; exact hne ho
  · by_cases hbn : b2 = b
    · rw [hbn, him] at hi'; cases hi'
    · obtain ⟨c2, t2, f2, hh2, hp2⟩ := hS.imm b2 ys hi'
      exact ⟨c2, t2, f2, by rw [setRow_other _ _ _ _ hbn]; exact hh2, hp2⟩
  · have := hS.own b2 j hj
    exact ⟨by simpa using this.1, this.2⟩
  · refine ⟨some ⟨b, o2, none⟩, cap, by rw [hrow]; simp [ha], by simpa using hat.len, ?_, .inr ⟨b, o2, cc', tt, us.take (i * z + off) ++ u.cells.toList ++ us.drop (i * z + off + ds.length), rfl, setRow_heap w b cc _ tt _ hh, by rw [hcsz]; exact hsz, ho, ?_, ?_, by simpa using him⟩⟩
    · intro q hq
      rcases List.mem_or_eq_of_mem_set hq with h | h
      · exact hat.elen q h
      · rw [h]; exact hr2z
    · rw [hcl, List.length_set]
      rw [List.append_assoc, List.drop_append_of_le_length (by simp; omega), ← List.append_assoc]
      have e2 : (cc.toList.take (o2 + i * z + off)).drop o2 = us.take (i * z + off) := by
        rw [← hus, List.drop_take, List.take_take]
        congr 1
        omega
      rw [e2, hucs]
      rw [List.take_append, List.take_of_length_le (by simp; omega)]
      congr 1
      have hl1 : (us.take (i * z + off) ++ u.cells.toList).length = i * z + off + ds.length := by simp [hucs]; omega
      rw [hl1, ← hus, List.drop_take, List.drop_drop]
      congr 2
      omega
    · rw [flatten_set hat.elen i r2 hlt hr2z, hr2]
      have hxr : (xs.flatten.drop (i * z)).take z = r := flatten_get hat.elen hi
      have e1 : xs.flatten.take (i * z) ++ (r.take off ++ ds ++ r.drop (off + ds.length)) ++ xs.flatten.drop ((i + 1) * z) =
          xs.flatten.take (i * z + off) ++ ds ++ xs.flatten.drop (i * z + off + ds.length) := by
        have t1 : xs.flatten.take (i * z) ++ r.take off = xs.flatten.take (i * z + off) := by
          rw [← hxr, List.take_take, Nat.min_eq_left (by omega), List.take_add]
        have t2 : r.drop (off + ds.length) ++ xs.flatten.drop ((i + 1) * z) = xs.flatten.drop (i * z + off + ds.length) := by
          have d1 : r.drop (off + ds.length) = (xs.flatten.drop (i * z + off + ds.length)).take (z - (off + ds.length)) := by
            rw [← hxr, List.drop_take, List.drop_drop]; congr 2; omega
          have d2 : xs.flatten.drop ((i + 1) * z) = (xs.flatten.drop (i * z + off + ds.length)).drop (z - (off + ds.length)) := by
            rw [List.drop_drop]; congr 1; rw [Nat.add_mul]; omega
          rw [d1, d2, List.take_append_drop]
        simp only [List.append_assoc] at t1 t2 ⊢
        rw [t2, ← List.append_assoc, t1]
      rw [e1]
      exact DList_append (DList_append (DList_take _ hdl) hd) (DList_drop _ hdl)
end
end Ab
