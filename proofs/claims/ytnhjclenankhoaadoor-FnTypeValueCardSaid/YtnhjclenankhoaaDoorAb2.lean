/- Laws of what the frame 'Ab' says of memory: what was data stays data; parts of data are data. -/
import Derived.Test.YtnhjclenankhoaaDoorAb1
set_option linter.all false
namespace Ab
open Go

theorem rd_mono {I J : Imm} (h : I.le J) {b o : Nat} {u : Value} (hr : rd I b o = some u) : rd J b o = some u := by
  unfold rd at hr ⊢
  cases hI : I b with
  | none => simp [hI] at hr
  | some ys =>
    obtain ⟨zs, hz⟩ := h b ys hI
    simp [hI] at hr
    simp [hz]
    have hlt : o < ys.length := by
      rcases Nat.lt_or_ge o ys.length with h' | h'
      · exact h'
      · simp [List.getElem?_eq_none h'] at hr
    rw [List.getElem?_append_left hlt]; exact hr

mutual
theorem DVal_mono {I J : Imm} (h : I.le J) : ∀ (x : DV) (u : Value), DVal I x u → DVal J x u
  | .i _ _, _, hx => hx
  | .b _, _, hx => hx
  | .s _, _, hx => hx
  | .v _, _, hx => hx
  | .sl z xs, u, hx => by
    obtain ⟨a, cap, hu, hc, hr⟩ := hx
    refine ⟨a, cap, hu, hc, hr.imp id ?_⟩
    rintro ⟨b, off, ha, hr⟩
    exact ⟨b, off, ha, DRows_mono h z b off xs hr⟩
  | .sf z xs, u, hx => by
    obtain ⟨a, hu, hr⟩ := hx
    refine ⟨a, hu, hr.imp id ?_⟩
    rintro ⟨b, off, ha, hr⟩
    exact ⟨b, off, ha, DRows_mono h z b off xs hr⟩
  | .ifa t cs, u, hx => by
    obtain ⟨us, hu, hl⟩ := hx
    exact ⟨us, hu, DList_mono h cs us hl⟩
  | .if1 t x, u, hx => by
    obtain ⟨y, hu, hl⟩ := hx
    exact ⟨y, hu, DVal_mono h x y hl⟩
theorem DRows_mono {I J : Imm} (h : I.le J) (z b : Nat) : ∀ (off : Nat) (xs : List (List DV)), DRows I z b off xs → DRows J z b off xs
  | _, [], _ => trivial
  | off, r :: rs, ⟨h1, h2, h3⟩ => ⟨h1, DCells_mono h b off r h2, DRows_mono h z b (off + z) rs h3⟩
theorem DCells_mono {I J : Imm} (h : I.le J) (b : Nat) : ∀ (off : Nat) (cs : List DV), DCells I b off cs → DCells J b off cs
  | _, [], _ => trivial
  | off, c :: cs, ⟨⟨u, hu, hv⟩, h2⟩ => ⟨⟨u, rd_mono h hu, DVal_mono h c u hv⟩, DCells_mono h b (off + 1) cs h2⟩
theorem DList_mono {I J : Imm} (h : I.le J) : ∀ (cs : List DV) (us : List Value), DList I cs us → DList J cs us
  | [], [], _ => trivial
  | c :: cs, u :: us, ⟨h1, h2⟩ => ⟨DVal_mono h c u h1, DList_mono h cs us h2⟩
  | [], _ :: _, hx => hx
  | _ :: _, [], hx => hx
end

theorem Imm.le_refl (I : Imm) : I.le I := fun _ ys h => ⟨[], by simpa using h⟩
theorem Imm.le_trans {I J K : Imm} (h : I.le J) (k : J.le K) : I.le K := fun b ys hb => by
  obtain ⟨zs, hz⟩ := h b ys hb
  obtain ⟨ws, hw⟩ := k b _ hz
  exact ⟨zs ++ ws, by rw [hw, List.append_assoc]⟩

structure Gh.le (g h : Gh) : Prop where
  imm : g.imm.le h.imm
  n : g.n ≤ h.n
  blk : ∀ k, k < g.n → h.blk k = g.blk k
  row : ∀ k, k < g.n → (g.row k).1 < (h.row k).1 ∨ h.row k = g.row k

theorem Gh.le_refl (g : Gh) : g.le g := ⟨Imm.le_refl _, Nat.le_refl _, fun _ _ => rfl, fun _ _ => .inr rfl⟩
theorem Gh.le_trans {g h k : Gh} (a : g.le h) (b : h.le k) : g.le k := by
  refine ⟨Imm.le_trans a.imm b.imm, Nat.le_trans a.n b.n, fun i hi => (b.blk i (Nat.lt_of_lt_of_le hi a.n)).trans (a.blk i hi), fun i hi => ?_⟩
  rcases a.row i hi with h1 | h1 <;> rcases b.row i (Nat.lt_of_lt_of_le hi a.n) with h2 | h2
  · left; omega
  · left; rw [h2]; exact h1
  · left; rw [← h1]; exact h2
  · right; rw [h2, h1]

mutual
theorem Val_mono {g h : Gh} (hl : g.le h) : ∀ (x : AV) (u : Value), Val g x u → Val h x u
  | .d x, u, hx => DVal_mono hl.imm x u hx
  | .tt, _, hx => hx
  | .ff, _, hx => hx
  | .row c v, u, ⟨hc, hq, hx⟩ => by
    refine ⟨Nat.lt_of_lt_of_le hc hl.n, hq, ?_⟩
    rcases hl.row c hc with h1 | h1
    · left; rcases hx with hx | hx <;> omega
    · rw [h1]; exact hx
  | .ptr k off, u, ⟨hc, hx⟩ => ⟨Nat.lt_of_lt_of_le hc hl.n, by rw [hl.blk k hc]; exact hx⟩
  | .da cs, u, ⟨b, off, hu, hc⟩ => ⟨b, off, hu, DCells_mono hl.imm b off cs hc⟩
  | .ra c v z i off, u, ⟨hc, hq, hx⟩ => by
    refine ⟨Nat.lt_of_lt_of_le hc hl.n, hq, ?_⟩
    rcases hl.row c hc with h1 | h1
    · left; rcases hx with hx | hx <;> omega
    · rw [h1]; exact hx
  | .agg cs, u, ⟨us, hu, hx⟩ => ⟨us, hu, ValL_mono hl cs us hx⟩
  | .tup cs, u, ⟨us, hu, hx⟩ => ⟨us, hu, ValL_mono hl cs us hx⟩
  | .fn f cs, u, ⟨us, hu, hx⟩ => ⟨us, hu, ValL_mono hl cs us hx⟩
  | .ifc t x, u, ⟨y, hu, hx⟩ => ⟨y, hu, Val_mono hl x y hx⟩
  | .mp k, u, ⟨hc, hx⟩ => ⟨Nat.lt_of_lt_of_le hc hl.n, by rw [hl.blk k hc]; exact hx⟩
  | .und, _, hx => hx
  | .junk, _, _ => trivial
theorem ValL_mono {g h : Gh} (hl : g.le h) : ∀ (cs : List AV) (us : List Value), ValL g cs us → ValL h cs us
  | [], [], _ => trivial
  | c :: cs, u :: us, ⟨h1, h2⟩ => ⟨Val_mono hl c u h1, ValL_mono hl cs us h2⟩
  | [], _ :: _, hx => hx
  | _ :: _, [], hx => hx
end

/-! ### Lists -/
theorem ValL_length {g : Gh} : ∀ {cs : List AV} {us : List Value}, ValL g cs us → cs.length = us.length
  | [], [], _ => rfl
  | _ :: cs, _ :: us, ⟨_, h⟩ => by simp [ValL_length h]

theorem ValL_get {g : Gh} : ∀ {cs : List AV} {us : List Value}, ValL g cs us → ∀ (i : Nat), Val g (cs.getD i .junk) (us.getD i undef)
  | [], [], _, i => by simp [Val]
  | c :: cs, u :: us, ⟨h, h'⟩, i => by
    cases i with
    | zero => simpa using h
    | succ i => simpa using ValL_get h' i

theorem ValL_set {g : Gh} : ∀ {cs : List AV} {us : List Value}, ValL g cs us → ∀ (i : Nat) {x : AV} {u : Value}, Val g x u → ValL g (cs.set i x) (us.set i u)
  | [], [], _, i, _, _, _ => by simp [ValL]
  | c :: cs, u :: us, ⟨h, h'⟩, i, x, y, hx => by
    cases i with
    | zero => exact ⟨hx, h'⟩
    | succ i => exact ⟨h, ValL_set h' i hx⟩

theorem ValL_append {g : Gh} : ∀ {cs : List AV} {us : List Value} {ds : List AV} {vs : List Value}, ValL g cs us → ValL g ds vs → ValL g (cs ++ ds) (us ++ vs)
  | [], [], _, _, _, h => h
  | _ :: _, _ :: _, _, _, ⟨h, h'⟩, k => ⟨h, ValL_append h' k⟩

theorem ValL_take {g : Gh} : ∀ {cs : List AV} {us : List Value} (n : Nat), ValL g cs us → ValL g (cs.take n) (us.take n)
  | [], [], n, _ => by cases n <;> simp [ValL]
  | _ :: _, _ :: _, n, ⟨h, h'⟩ => by
    cases n with
    | zero => simp [ValL]
    | succ n => exact ⟨h, ValL_take n h'⟩

theorem ValL_drop {g : Gh} : ∀ {cs : List AV} {us : List Value} (n : Nat), ValL g cs us → ValL g (cs.drop n) (us.drop n)
  | [], [], n, _ => by cases n <;> simp [ValL]
  | _ :: _, _ :: _, n, ⟨h, h'⟩ => by
    cases n with
    | zero => exact ⟨h, h'⟩
    | succ n => exact ValL_drop n h'

theorem ValL_junk {g : Gh} : ∀ (n : Nat) (us : List Value), us.length = n → ValL g (List.replicate n .junk) us
  | 0, [], _ => trivial
  | n + 1, _ :: us, h => ⟨trivial, ValL_junk n us (by simpa using h)⟩

/-- data cells as cells -/
theorem ValL_of_DList {g : Gh} : ∀ {cs : List DV} {us : List Value}, DList g.imm cs us → ValL g (cs.map .d) us
  | [], [], _ => trivial
  | _ :: _, _ :: _, ⟨h, h'⟩ => ⟨h, ValL_of_DList h'⟩

theorem DList_length {I : Imm} : ∀ {cs : List DV} {us : List Value}, DList I cs us → cs.length = us.length
  | [], [], _ => rfl
  | _ :: cs, _ :: us, ⟨_, h⟩ => by simp [DList_length h]

/-- The cells of a piece of immutable memory, as they stand in the prefix. -/
theorem DCells_list {I : Imm} {b : Nat} : ∀ {cs : List DV} {off : Nat}, DCells I b off cs →
    ∃ us, DList I cs us ∧ ∀ j, j < us.length → rd I b (off + j) = us[j]?
  | [], off, _ => ⟨[], trivial, fun j h => by simp at h⟩
  | c :: cs, off, ⟨⟨u, hu, hv⟩, h⟩ => by
    obtain ⟨us, h1, h2⟩ := DCells_list h
    refine ⟨u :: us, ⟨hv, h1⟩, fun j hj => ?_⟩
    cases j with
    | zero => simpa using hu
    | succ j =>
      have := h2 j (by simpa using hj)
      simpa [Nat.add_assoc, Nat.add_comm 1 j] using this

theorem DCells_drop {I : Imm} {b : Nat} : ∀ {cs : List DV} {off : Nat} (n : Nat), DCells I b off cs → DCells I b (off + n) (cs.drop n)
  | [], _, n, _ => by cases n <;> simp [DCells]
  | c :: cs, off, 0, h => h
  | c :: cs, off, n + 1, ⟨_, h⟩ => by
    have := DCells_drop n h
    simpa [Nat.add_assoc, Nat.add_comm 1 n] using this

theorem DCells_take {I : Imm} {b : Nat} : ∀ {cs : List DV} {off : Nat} (n : Nat), DCells I b off cs → DCells I b off (cs.take n)
  | [], _, n, _ => by cases n <;> simp [DCells]
  | c :: cs, off, 0, h => by simp [DCells]
  | c :: cs, off, n + 1, ⟨h0, h⟩ => ⟨h0, DCells_take n h⟩

theorem DRows_get {I : Imm} {z b : Nat} : ∀ {xs : List (List DV)} {off : Nat}, DRows I z b off xs → ∀ {i : Nat} {r : List DV}, xs[i]? = some r →
    r.length = z ∧ DCells I b (off + i * z) r
  | [], _, _, i, r, h => by simp at h
  | x :: xs, off, ⟨h1, h2, h3⟩, i, r, h => by
    cases i with
    | zero => simp at h; subst h; exact ⟨h1, by simpa using h2⟩
    | succ i =>
      have := DRows_get h3 (i := i) (r := r) (by simpa using h)
      refine ⟨this.1, ?_⟩
      have e : off + (i + 1) * z = off + z + i * z := by rw [Nat.add_mul]; omega
      rw [e]; exact this.2

/-! ### What says less -/
def DW (x y : DV) : Prop := ∀ I u, DVal I x u → DVal I y u
def DWL (xs ys : List DV) : Prop := ∀ I us, DList I xs us → DList I ys us
def Wk (x y : AV) : Prop := ∀ g u, Val g x u → Val g y u
def WkL (xs ys : List AV) : Prop := ∀ g us, ValL g xs us → ValL g ys us

def DWRows : List (List DV) → List (List DV) → Prop
  | [], [] => True
  | r :: rs, q :: qs => r.length = q.length ∧ DWL r q ∧ DWRows rs qs
  | _, _ => False

def WkO (o o' : Obj) : Prop := o = o' ∨ match o, o' with
  | .cells cs, .cells ds => WkL cs ds
  | .row v s z xs, .row v' s' z' ys => v = v' ∧ s = s' ∧ z = z' ∧ DWRows xs ys
  | _, _ => False

def WkOs : List Obj → List Obj → Prop
  | [], [] => True
  | o :: os, q :: qs => WkO o q ∧ WkOs os qs
  | _, _ => False

theorem DW.rfl {x : DV} : DW x x := fun _ _ h => h
theorem DWL.rfl {x : List DV} : DWL x x := fun _ _ h => h
theorem Wk.rfl {x : AV} : Wk x x := fun _ _ h => h
theorem WkL.rfl {x : List AV} : WkL x x := fun _ _ h => h
theorem WkO.rfl {x : Obj} : WkO x x := .inl (Eq.refl _)
theorem WkOs.rfl : ∀ {x : List Obj}, WkOs x x
  | [] => trivial
  | _ :: _ => ⟨WkO.rfl, WkOs.rfl⟩
theorem WkOs.of_eq {x y : List Obj} (h : x = y) : WkOs x y := by subst h; exact WkOs.rfl
theorem Wk.of_eq {x y : AV} (h : x = y) : Wk x y := by subst h; exact Wk.rfl
theorem WkL.of_eq {x y : List AV} (h : x = y) : WkL x y := by subst h; exact WkL.rfl
theorem Wk.trans {x y z : AV} (h : Wk x y) (k : Wk y z) : Wk x z := fun g u hv => k g u (h g u hv)
theorem DW.trans {x y z : DV} (h : DW x y) (k : DW y z) : DW x z := fun g u hv => k g u (h g u hv)
theorem WkL.nil : WkL [] [] := WkL.rfl
theorem WkL.cons {x y : AV} {xs ys : List AV} (h : Wk x y) (k : WkL xs ys) : WkL (x :: xs) (y :: ys) := fun g us hv => by
  cases us with
  | nil => exact hv.elim
  | cons u us => exact ⟨h g u hv.1, k g us hv.2⟩
theorem DWL.nil : DWL [] [] := DWL.rfl
theorem DWL.cons {x y : DV} {xs ys : List DV} (h : DW x y) (k : DWL xs ys) : DWL (x :: xs) (y :: ys) := fun g us hv => by
  cases us with
  | nil => exact hv.elim
  | cons u us => exact ⟨h g u hv.1, k g us hv.2⟩
theorem Wk.agg {xs ys : List AV} (h : WkL xs ys) : Wk (.agg xs) (.agg ys) := fun g u ⟨us, hu, hv⟩ => ⟨us, hu, h g us hv⟩
theorem Wk.tup {xs ys : List AV} (h : WkL xs ys) : Wk (.tup xs) (.tup ys) := fun g u ⟨us, hu, hv⟩ => ⟨us, hu, h g us hv⟩
theorem Wk.fn {f : Nat} {xs ys : List AV} (h : WkL xs ys) : Wk (.fn f xs) (.fn f ys) := fun g u ⟨us, hu, hv⟩ => ⟨us, hu, h g us hv⟩
theorem Wk.ifc {t : TypeId} {x y : AV} (h : Wk x y) : Wk (.ifc t x) (.ifc t y) := fun g u ⟨us, hu, hv⟩ => ⟨us, hu, h g us hv⟩
theorem Wk.d {x y : DV} (h : DW x y) : Wk (.d x) (.d y) := fun g u hv => h g.imm u hv
theorem Wk.tt : Wk .tt (.d (.b true)) := fun _ _ h => h
theorem Wk.ff : Wk .ff (.d (.b false)) := fun _ _ h => h
theorem Wk.junk {x : AV} : Wk x .junk := fun _ _ _ => trivial
theorem DW.nil (z : Nat) : DW (.v (.slice none 0 0)) (.sl z []) := fun I u ⟨hu, _⟩ => ⟨none, 0, hu, Nat.le_refl _, .inl (Eq.refl _)⟩
theorem Wk.nil (z : Nat) : Wk (.d (.v (.slice none 0 0))) (.d (.sl z [])) := Wk.d (DW.nil z)
theorem DWL.len {xs ys : List DV} (h : DWL xs ys) {I : Imm} {us : List Value} (hv : DList I xs us) : xs.length = ys.length := by
  rw [DList_length hv, DList_length (h I us hv)]

theorem DCells_of_list {I : Imm} {b : Nat} : ∀ {cs : List DV} {us : List Value} {off : Nat}, DList I cs us → (∀ j, j < us.length → rd I b (off + j) = us[j]?) → DCells I b off cs
  | [], [], _, _, _ => trivial
  | c :: cs, u :: us, off, ⟨h1, h2⟩, hm => by
    refine ⟨⟨u, by simpa using hm 0 (by simp), h1⟩, DCells_of_list h2 (fun j hj => ?_)⟩
    have := hm (j + 1) (by simpa using hj)
    simpa [Nat.add_assoc, Nat.add_comm 1 j] using this

theorem DRows_wk {I : Imm} {z b : Nat} : ∀ {xs ys : List (List DV)} {off : Nat}, DWRows xs ys → DRows I z b off xs → DRows I z b off ys
  | [], [], _, _, _ => trivial
  | r :: rs, q :: qs, off, ⟨h1, h2, h3⟩, ⟨k1, k2, k3⟩ => by
    obtain ⟨us, hl, hm⟩ := DCells_list k2
    exact ⟨by rw [← h1]; exact k1, DCells_of_list (h2 I us hl) hm, DRows_wk h3 k3⟩
  | [], _ :: _, _, h, _ => h.elim
  | _ :: _, [], _, h, _ => h.elim

theorem DWRows.len : ∀ {xs ys : List (List DV)}, DWRows xs ys → xs.length = ys.length
  | [], [], _ => rfl
  | _ :: _, _ :: _, ⟨_, _, h⟩ => by simp [DWRows.len h]
  | [], _ :: _, h => h.elim
  | _ :: _, [], h => h.elim
theorem DWRows.rfl : ∀ {xs : List (List DV)}, DWRows xs xs
  | [] => trivial
  | _ :: _ => ⟨Eq.refl _, DWL.rfl, DWRows.rfl⟩
theorem DWRows.elen {z : Nat} : ∀ {xs ys : List (List DV)}, DWRows xs ys → (∀ r ∈ xs, r.length = z) → ∀ r ∈ ys, r.length = z
  | [], [], _, _, r, hr => by simp at hr
  | x :: xs, y :: ys, ⟨h1, _, h3⟩, h, r, hr => by
    rcases List.mem_cons.1 hr with rfl | hr
    · rw [← h1]; exact h x (by simp)
    · exact DWRows.elen h3 (fun r hr => h r (List.mem_cons_of_mem _ hr)) r hr
  | [], _ :: _, h, _, _, _ => h.elim
  | _ :: _, [], h, _, _, _ => h.elim
theorem DList_split {I : Imm} : ∀ {cs ds : List DV} {us : List Value}, DList I (cs ++ ds) us → ∃ vs ws, us = vs ++ ws ∧ DList I cs vs ∧ DList I ds ws
  | [], ds, us, h => ⟨[], us, rfl, trivial, h⟩
  | c :: cs, ds, u :: us, ⟨h1, h2⟩ => by
    obtain ⟨vs, ws, h3, h4, h5⟩ := DList_split h2
    exact ⟨u :: vs, ws, by rw [h3]; rfl, ⟨h1, h4⟩, h5⟩
theorem DList_join {I : Imm} : ∀ {cs ds : List DV} {us vs : List Value}, DList I cs us → DList I ds vs → DList I (cs ++ ds) (us ++ vs)
  | [], _, [], _, _, k => k
  | c :: cs, _, u :: us, _, h, k => ⟨h.1, DList_join h.2 k⟩
theorem DWRows.flat : ∀ {xs ys : List (List DV)}, DWRows xs ys → DWL xs.flatten ys.flatten
  | [], [], _ => DWL.rfl
  | x :: xs, y :: ys, ⟨_, h2, h3⟩ => fun I us h => by
    obtain ⟨vs, ws, rfl, h4, h5⟩ := DList_split h
    exact DList_join (h2 I vs h4) (DWRows.flat h3 I ws h5)
  | [], _ :: _, h => h.elim
  | _ :: _, [], h => h.elim
theorem DW.sl {z : Nat} {xs ys : List (List DV)} (h : DWRows xs ys) : DW (.sl z xs) (.sl z ys) := fun I u ⟨a, cap, hu, hc, hr⟩ => by
  refine ⟨a, cap, by rw [← h.len]; exact hu, by rw [← h.len]; exact hc, ?_⟩
  rcases hr with rfl | ⟨b, off, ha, hr⟩
  · left
    have := h.len
    exact List.eq_nil_of_length_eq_zero (by rw [← this]; rfl)
  · exact .inr ⟨b, off, ha, DRows_wk h hr⟩
theorem DW.sf {z : Nat} {xs : List (List DV)} : DW (.sf z xs) (.sl z xs) := fun I u ⟨a, hu, hr⟩ => ⟨a, _, hu, Nat.le_refl _, hr⟩
theorem DW.nilf (z : Nat) : DW (.v (.slice none 0 0)) (.sf z []) := fun I u ⟨hu, _⟩ => ⟨none, hu, .inl (Eq.refl _)⟩
theorem DW.sff {z : Nat} {xs ys : List (List DV)} (h : DWRows xs ys) : DW (.sf z xs) (.sf z ys) := fun I u ⟨a, hu, hr⟩ => by
  refine ⟨a, by rw [← h.len]; exact hu, ?_⟩
  rcases hr with rfl | ⟨b, off, ha, hr⟩
  · left
    have := h.len
    exact List.eq_nil_of_length_eq_zero (by rw [← this]; rfl)
  · exact .inr ⟨b, off, ha, DRows_wk h hr⟩

/-- a full slice, read as any slice is -/
def low : AV → AV
  | .d x => match x with
    | .sf z xs => .d (.sl z xs)
    | x => .d x
  | x => x
theorem low_val {g : Gh} {x : AV} {u : Value} (h : Val g x u) : Val g (low x) u := by
  cases x with
  | d x =>
    cases x with
    | sf z xs => exact DW.sf _ _ h
    | _ => exact h
  | _ => exact h
end Ab
