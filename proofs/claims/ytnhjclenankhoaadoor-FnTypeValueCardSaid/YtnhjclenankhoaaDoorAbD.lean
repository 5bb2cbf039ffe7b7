/- The frame 'Ab' is sound, ninth part: append. -/
import Derived.Test.YtnhjclenankhoaaDoorAbC
import Derived.Laws.AppendOwn
set_option linter.all false
namespace Ab
open Go
set_option linter.unusedSimpArgs false
set_option linter.unusedVariables false

section
variable {P : Program} {τ : Tab} {w : World} {g : Gh} {O : List Obj}

theorem eqz_ne {t z : Nat} (h : eqz τ t z = true) : z = (tg τ (tg τ t).elem).size ∧ (tg τ (tg τ t).elem).size ≠ 0 := by
  unfold eqz at h
  split at h
  · cases h
  · rename_i m hm; exact ⟨by rw [hm]; exact Nat.eq_of_beq_eq_true h, by rw [hm]; simp⟩

theorem DList_one : ∀ {cs : List DV} {us : List Value} {I : Imm}, DList I cs us → ∀ u ∈ us, u.oneCell' = true
  | [], [], _, _, u, hu => by simp at hu
  | c :: cs, v :: us, I, h, u, hu => by
    rcases List.mem_cons.1 hu with rfl | hu
    · exact oneV_of_D h.1
    · exact DList_one h.2 u hu

/-- nothing appended -/
theorem run_append_none {t ty e : TypeId} {sz : Nat} (ht : P.underlying t = some (.slice e)) (hs : (Go.sizeOf e).run P w = .ok sz w)
    (b : Option Addr) (sLen sCap : Nat) (a : Option Addr) (c : Nat) (h : sLen ≤ sCap) :
    (Builtin.append_ #[t, t] ty #[.slice b sLen sCap, .slice a 0 c]).run P w = .ok (.slice b sLen sCap) w := by
  have hf : (Builtin.firstCells sz 0 (.slice a 0 c)).run P w = .ok #[] w := by
    cases a <;> simp [Builtin.firstCells, loadCells, loadCellsFrom]
  cases b <;> simp [Builtin.append_, run_underlying ht, hs, Builtin.lenOf, h, hf, storeCells]

/-- room: in place -/
theorem run_append_fit {t ty e : TypeId} {sz : Nat} (ht : P.underlying t = some (.slice e)) (hs : (Go.sizeOf e).run P w = .ok sz w)
    (g off sLen sCap : Nat) (cur : Array Value) (te : TypeId) (hg : w.heap[g]? = some (.cells cur te (0, 0)))
    (a : Addr) (m c : Nat) (news : List Value) (hl : news.length = m * sz) (hnews : ∀ j u, news[j]? = some u → w.cell? (a.add j) = some u) (h1 : ∀ u ∈ news, u.oneCell' = true)
    (hroom : sLen + m ≤ sCap) (hfit : off + sLen * sz + news.length ≤ cur.size) :
    (Builtin.append_ #[t, t] ty #[.slice (some ⟨g, off, none⟩) sLen sCap, .slice (some a) m c]).run P w =
      .ok (.slice (some ⟨g, off, none⟩) (sLen + m) sCap) (w.setRow g (cur.toList.take (off + sLen * sz) ++ news ++ cur.toList.drop (off + sLen * sz + news.length)).toArray) := by
  have hf := run_firstCells_some (P := P) w sz m a m c news hl hnews
  have hst := run_storeCells_at P g (off + sLen * sz) te news 0 cur w hg (by simpa using hfit) h1
  simp only [Nat.add_zero] at hst
  simp [Builtin.append_, run_underlying ht, hs, Builtin.lenOf, hroom, hf, add_none, hst]

/-- A row that is appended to. -/
theorem append_row (hτ : Tok P τ) (hS : Sat w g O) {t ty c v : Nat} {s : Bool} {z : Nat} {xs ys : List (List DV)} {u x : Value} (hk : (tg τ t).kind = .slice)
    (hro : rowOf O c v = some (s, z, xs)) (hz : eqz τ t z = true) (hu : Val g (.row c v) u) (hx : Src w g z ys x) (hmax : xs.length + ys.length ≤ maxRow) :
    ∃ u' w' g', (Builtin.append_ #[t, t] ty #[u, x]).run P w = .ok u' w' ∧ g.le g' ∧ Fr w w' g g' ∧ Sat w' g' (O.set c (.row (v + 1) s z (xs ++ ys))) ∧ Val g' (.row c (v + 1)) u' := by
  obtain ⟨rfl, hsz⟩ := eqz_ne hz
  have ht := (hτ.of_kind (t := t) (by rw [hk]; simp)).kind
  rw [kindOk, hk] at ht
  dsimp only at ht
  have tke := hτ.of_size hsz
  have hso := tke.sizeOf w
  obtain ⟨hcn, a, cap, hrow, hat⟩ := hS.row hro
  have huv := Val_row hu hrow
  have hO : O[c]? = some (.row v s (tg τ (tg τ t).elem).size xs) := (hS.get (rowOf_some hro) (by simp)).1
  obtain ⟨hel, ax, capx, hxv, hxm⟩ := hx
  subst huv; subst hxv
  have hall : ∀ r ∈ xs ++ ys, r.length = (tg τ (tg τ t).elem).size := by
    intro r hr
    rcases List.mem_append.1 hr with hr | hr
    · exact hat.elen r hr
    · exact hel r hr
  -- the new number of the row
  let gv (u : Value) (im : Imm) (ow : Nat → Option Nat) : Gh := { g with imm := im, own := ow, row := fun k => if k = c then (v + 1, u) else g.row k }
  have hle : ∀ u im ow, g.imm.le im → g.le (gv u im ow) := by
    intro u im ow him
    refine ⟨him, Nat.le_refl _, fun _ _ => rfl, fun k _ => ?_⟩
    show (g.row k).1 < (if k = c then (v + 1, u) else g.row k).1 ∨ (if k = c then (v + 1, u) else g.row k) = g.row k
    by_cases hkc : k = c
    · left; subst hkc; rw [if_pos rfl, hrow]; simp
    · right; rw [if_neg hkc]
  have hval : ∀ a' l cp im ow, Val (gv (.slice a' l cp) im ow) (.row c (v + 1)) (.slice a' l cp) := by
    intro a' l cp im ow
    exact ⟨hcn, ⟨_, _, _, rfl⟩, .inr ⟨by simp [gv], by simp [gv]⟩⟩
  by_cases hy : ys = []
  · subst hy
    refine ⟨_, _, gv (.slice a xs.length cap) g.imm g.own, run_append_none ht hso a _ cap ax capx hat.len, hle _ _ _ (Imm.le_refl _), ⟨Nat.le_refl _, rfl, rfl, rfl, fun _ _ _ => rfl, fun _ _ _ => rfl, fun _ _ h => h⟩, ?_, hval _ _ _ _ _⟩
    refine hS.upd hcn (hle _ _ _ (Imm.le_refl _)) rfl (fun j hj _ => if_neg hj) (Nat.le_refl _) (fun b hb hne => ⟨rfl, rfl, rfl⟩) (fun b ys hi _ => hS.imm b ys hi) (fun b j hj _ => hS.own b j hj) ?_
    refine ⟨a, cap, by simp [gv], by simpa using hat.len, by simpa using hat.elen, ?_⟩
    rcases hat.mem with h0 | ⟨b, off, cc, tt, us, ha, hh, hs, ho, hus, hd, hi⟩
    · exact .inl h0
    · exact .inr ⟨b, off, cc, tt, us, ha, hh, hs, ho, by simpa using hus, by simpa using hd, by simpa using hi⟩
  · obtain ⟨bx, ox, vs, hax, hdx, hvl, hcx⟩ := hxm.resolve_left hy
    subst hax
    have hnews : ∀ j q, vs[j]? = some q → w.cell? ((⟨bx, ox, none⟩ : Addr).add j) = some q := by
      intro j q hj
      have hlt : j < vs.length := by
        rcases Nat.lt_or_ge j vs.length with h | h
        · exact h
        · rw [List.getElem?_eq_none h] at hj; cases hj
      rw [add_none, hcx j hlt, hj]
    have hypos : 0 < ys.length := by
      rcases Nat.eq_zero_or_pos ys.length with h | h
      · exact absurd (List.eq_nil_of_length_eq_zero h) hy
      · exact h
    have hflat : (xs ++ ys).flatten = xs.flatten ++ ys.flatten := by simp
    by_cases hroom : xs.length + ys.length ≤ cap
    · -- in place
      obtain ⟨b, off, cc, tt, us, ha, hh, hs, ho, hus, hd, hi⟩ := hat.mem.resolve_left (by omega)
      subst ha
      have hul : us.length = xs.length * (tg τ (tg τ t).elem).size := by rw [← DList_length hd, flat_len hat.elen]
      have hcz : (xs.length + ys.length) * (tg τ (tg τ t).elem).size ≤ cap * (tg τ (tg τ t).elem).size := Nat.mul_le_mul_right _ hroom
      rw [Nat.add_mul] at hcz
      have hr := run_append_fit (P := P) (ty := ty) ht hso b off xs.length cap cc tt hh ⟨bx, ox, none⟩ ys.length capx vs hvl hnews (DList_one hdx) hroom (by rw [hvl]; omega)
      generalize hsz' : (tg τ (tg τ t).elem).size = sz at *
      generalize hcc' : (cc.toList.take (off + xs.length * sz) ++ vs ++ cc.toList.drop (off + xs.length * sz + vs.length)).toArray = cc' at hr
      have hcl : cc'.toList = cc.toList.take (off + xs.length * sz) ++ vs ++ cc.toList.drop (off + xs.length * sz + vs.length) := by rw [← hcc']
      have hcsz : cc'.size = cc.size := by
        rw [← Array.length_toList, hcl]; simp; omega
      have htake : cc'.toList.take (off + (xs.length + ys.length) * sz) = cc.toList.take (off + xs.length * sz) ++ vs := by
        rw [hcl, List.take_left' (by simp; rw [hvl, Nat.add_mul]; omega)]
      let im : Imm := fun x => if x = b then (if s then none else some (cc'.toList.take (off + (xs.length + ys.length) * sz))) else g.imm x
      have him : g.imm.le im := by
        intro x zs hx
        by_cases hxb : x = b
        · subst hxb
          cases s with
          | true => simp at hi; rw [hi] at hx; cases hx
          | false =>
            simp at hi
            rw [hi] at hx
            simp at hx
            refine ⟨vs, ?_⟩
            show (if x = x then _ else _) = _
            rw [if_pos rfl, htake, ← hx]
            rfl
        · exact ⟨[], by show (if x = b then _ else _) = _; rw [if_neg hxb]; simpa using hx⟩
      refine ⟨_, _, gv (.slice (some ⟨b, off, none⟩) (xs.length + ys.length) cap) im g.own, hr, hle _ _ _ him, ?_, ?_, hval _ _ _ _ _⟩
      · refine ⟨by simp, rfl, rfl, rfl, fun i hi' hown => setRow_other _ _ _ _ ?_, fun i hi' hown => ?_, fun _ _ h => h⟩
        · rintro rfl; rw [ho] at hown; cases hown
        · show (if i = b then _ else _) = _
          rw [if_neg]; rintro rfl; rw [ho] at hown; cases hown
      · refine hS.upd hcn (hle _ _ _ him) rfl (fun j hj _ => if_neg hj) (by simp) (fun i hi' hne => ⟨setRow_other _ _ _ _ ?_, rfl, ?_⟩) (fun i zs hiz hc => ?_) (fun i j hj hc => ?_) ?_
        · rintro rfl; exact hne ho
        · show (if i = b then _ else _) = _
          rw [if_neg]; rintro rfl; exact hne ho
        · by_cases hib : i = b
          · subst hib
            have : (if s then none else some (cc'.toList.take (off + (xs.length + ys.length) * sz))) = some zs := by
              have : (if i = i then (if s then none else some (cc'.toList.take (off + (xs.length + ys.length) * sz))) else g.imm i) = some zs := hiz
              rwa [if_pos rfl] at this
            cases s with
            | true => simp at this
            | false =>
              simp at this
              exact ⟨cc', tt, _, setRow_heap w i cc _ tt _ hh, by rw [← this]; exact List.take_prefix _ _⟩
          · have : g.imm i = some zs := by
              have : (if i = b then _ else g.imm i) = some zs := hiz
              rwa [if_neg hib] at this
            obtain ⟨c2, t2, f2, hh2, hp2⟩ := hS.imm i zs this
            exact ⟨c2, t2, f2, by rw [setRow_other _ _ _ _ hib]; exact hh2, hp2⟩
        · have := hS.own i j hj
          exact ⟨by simpa using this.1, this.2⟩
        · refine ⟨some ⟨b, off, none⟩, cap, by simp [gv], by simpa using hroom, hall, .inr ⟨b, off, cc', tt, us ++ vs, rfl, setRow_heap w b cc _ tt _ hh, by rw [hcsz]; exact hs, ho, ?_, ?_, ?_⟩⟩
          · rw [hcl]
            simp only [List.length_append]
            have e1 : (cc.toList.take (off + xs.length * sz)).length = off + xs.length * sz := by simp; omega
            rw [List.append_assoc, List.drop_append_of_le_length (by omega)]
            have e2 : (cc.toList.take (off + xs.length * sz)).drop off = us := by
              rw [← hus, List.drop_take]; congr 1; omega
            rw [e2, ← List.append_assoc, List.take_left' (by simp [hul, hvl, Nat.add_mul])]
          · rw [hflat]; exact DList_append (DList_mono him _ _ hd) (DList_mono him _ _ hdx)
          · show (if b = b then _ else _) = _
            rw [if_pos rfl]
            simp
    · -- a new block
      have hge := grownCap_ge w (xs.length + ys.length) cap (tg τ t).elem
      obtain ⟨ti, zz, hti, hts, htb, htz, hzc, hzs, _⟩ := tke.info
      have hbytes : (xs.length + ys.length) * ti.bytes ≤ 140737488355328 := by
        rw [htb]
        have := tke.small
        calc (xs.length + ys.length) * (tg τ (tg τ t).elem).bytes ≤ maxRow * 1024 := Nat.mul_le_mul hmax this
          _ ≤ _ := by simp [maxRow]
      have hmx : xs.length + ys.length ≤ 68719476736 := hmax
      -- the old cells
      have hold : ∃ olds : List Value, olds.length = xs.length * ti.size ∧ (∀ ab, a = some ab → ∀ j q, olds[j]? = some q → w.cell? (ab.add j) = some q) ∧ DList g.imm xs.flatten olds := by
        rcases hat.all with h1 | ⟨b, off, us, h1, h2, h3, h4⟩
        · subst h1; exact ⟨[], by simp, by simp, trivial⟩
        · refine ⟨us, by rw [hts]; exact h3, fun ab hab j q hj => ?_, h2⟩
          rw [h1] at hab; simp at hab; subst hab
          have hlt : j < us.length := by
            rcases Nat.lt_or_ge j us.length with h | h
            · exact h
            · rw [List.getElem?_eq_none h] at hj; cases hj
          rw [add_none, h4 j hlt, hj]
      obtain ⟨olds, hol, hoc, hod⟩ := hold
      have hrun : ∃ rest : List Value, (olds ++ vs).length + rest.length = grownCap w (xs.length + ys.length) cap (tg τ t).elem * (tg τ (tg τ t).elem).size ∧
          (Builtin.append_ #[t, t] ty #[.slice a xs.length cap, .slice (some ⟨bx, ox, none⟩) ys.length capx]).run P w =
            .ok (.slice (some ⟨w.heap.size, 0, none⟩) (xs.length + ys.length) (grownCap w (xs.length + ys.length) cap (tg τ t).elem))
              (w.drew.alloc (.cells ((olds ++ vs) ++ rest).toArray (tg τ t).elem)) := by
        refine ⟨(Builtin.zeroCells zz.cells (grownCap w (xs.length + ys.length) cap (tg τ t).elem - (xs.length + ys.length))).toList, ?_, ?_⟩
        · simp only [Array.length_toList, size_zeroCells, hzs, List.length_append, hol, hvl, hts, ← Nat.add_mul]
          congr 1; omega
        · cases a with
          | some ab =>
            have := run_append_grow (P := P) w t ty (tg τ t).elem ti zz ht hti htz ab xs.length cap olds hol (hoc ab rfl) ⟨bx, ox, none⟩ ys.length capx vs (by rw [hts]; exact hvl) hnews (by omega) (by omega) (growslice_fits (by omega) hbytes)
            rw [this]
            congr 2
            simp
          | none =>
            have hcap0 : cap = 0 := by
              rcases hat.mem with h | ⟨_, _, _, _, _, h, _⟩
              · exact h
              · cases h
            subst hcap0
            have hx0 : xs = [] := by
              have := hat.len
              cases xs with
              | nil => rfl
              | cons x xs => simp at this
            subst hx0
            have hol0 : olds = [] := List.eq_nil_of_length_eq_zero (by simpa using hol)
            subst hol0
            have := run_append_nil (P := P) w t ty (tg τ t).elem ti zz ht hti htz ⟨bx, ox, none⟩ ys.length capx vs (by rw [hts]; exact hvl) hnews hypos (by simp at hmx; omega) (by simp at hbytes; omega)
            simp only [List.length_nil, Nat.zero_add, List.nil_append]
            rw [this]
            congr 2
            simp
      obtain ⟨rest, hrl, hr⟩ := hrun
      generalize hsz' : (tg τ (tg τ t).elem).size = sz at *
      generalize hgc : grownCap w (xs.length + ys.length) cap (tg τ t).elem = gc at *
      let im : Imm := fun x => if x = w.heap.size then (if s then none else some (((olds ++ vs) ++ rest).take ((xs.length + ys.length) * sz))) else g.imm x
      let ow : Nat → Option Nat := fun x => if x = w.heap.size then some c else if g.own x = some c then none else g.own x
      have hfresh := own_fresh hS (Nat.le_refl w.heap.size)
      have him : g.imm.le im := by
        intro x zs hx
        have hne : x ≠ w.heap.size := by rintro rfl; rw [hfresh.2] at hx; cases hx
        exact ⟨[], by show (if x = _ then _ else _) = _; rw [if_neg hne]; simpa using hx⟩
      have hheap : ∀ i, i < w.heap.size → (w.drew.alloc (.cells ((olds ++ vs) ++ rest).toArray (tg τ t).elem)).heap[i]? = w.heap[i]? := by
        intro i hi
        show (w.heap.push _)[i]? = _
        rw [Array.getElem?_push, if_neg (by omega)]
      refine ⟨_, _, gv (.slice (some ⟨w.heap.size, 0, none⟩) (xs.length + ys.length) gc) im ow, hr, hle _ _ _ him, ?_, ?_, hval _ _ _ _ _⟩
      · refine ⟨by simp, rfl, rfl, rfl, fun i hi' _ => hheap i hi', fun i hi' _ => ?_, fun i hi' hown => ?_⟩
        · show (if i = _ then _ else _) = _
          rw [if_neg (by omega)]
        · show (if i = _ then _ else _) = _
          rw [if_neg (by omega), hown]; simp
      · refine hS.upd hcn (hle _ _ _ him) rfl (fun j hj _ => if_neg hj) (by simp) (fun i hi' hne => ⟨hheap i hi', ?_, ?_⟩) (fun i zs hiz hc => ?_) (fun i j hj hc => ?_) ?_
        · show (if i = _ then _ else _) = _
          rw [if_neg (by omega), if_neg hne]
        · show (if i = _ then _ else _) = _
          rw [if_neg (by omega)]
        · by_cases hib : i = w.heap.size
          · subst hib
            have : (if s then none else some (((olds ++ vs) ++ rest).take ((xs.length + ys.length) * sz))) = some zs := by
              have : (if w.heap.size = w.heap.size then (if s then none else some (((olds ++ vs) ++ rest).take ((xs.length + ys.length) * sz))) else g.imm w.heap.size) = some zs := hiz
              rwa [if_pos rfl] at this
            cases s with
            | true => simp at this
            | false =>
              simp at this
              refine ⟨((olds ++ vs) ++ rest).toArray, (tg τ t).elem, (0, 0), ?_, by rw [← this]; simpa using List.take_prefix _ _⟩
              show (w.heap.push _)[w.heap.size]? = _
              simp
          · have : g.imm i = some zs := by
              have : (if i = _ then _ else g.imm i) = some zs := hiz
              rwa [if_neg hib] at this
            obtain ⟨c2, t2, f2, hh2, hp2⟩ := hS.imm i zs this
            exact ⟨c2, t2, f2, by rw [hheap i (hS.imm_lt this)]; exact hh2, hp2⟩
        · have hj' : (if i = w.heap.size then some c else if g.own i = some c then none else g.own i) = some j := hj
          split at hj'
          · rename_i hi
            simp at hj'; subst hj'
            exact ⟨by rw [hi]; simp, hcn⟩
          · split at hj'
            · cases hj'
            · have := hS.own i j hj'
              exact ⟨by simp; omega, this.2⟩
        · refine ⟨some ⟨w.heap.size, 0, none⟩, gc, by simp [gv], by simpa using hge, hall, .inr ⟨w.heap.size, 0, ((olds ++ vs) ++ rest).toArray, (tg τ t).elem, olds ++ vs, rfl, ?_, ?_, ?_, ?_, ?_, ?_⟩⟩
          · show (w.heap.push _)[w.heap.size]? = _
            simp
          · simp at hrl ⊢; omega
          · show (if w.heap.size = w.heap.size then _ else _) = _
            rw [if_pos rfl]
          · have hlen : (olds ++ vs).length = (xs ++ ys).length * sz := by simp [hol, hvl, hts, Nat.add_mul]
            rw [List.drop_zero, ← hlen]
            exact List.take_left
          · rw [hflat]; exact DList_append (DList_mono him _ _ hod) (DList_mono him _ _ hdx)
          · show (if w.heap.size = w.heap.size then _ else _) = _
            rw [if_pos rfl]
            simp
end
end Ab
