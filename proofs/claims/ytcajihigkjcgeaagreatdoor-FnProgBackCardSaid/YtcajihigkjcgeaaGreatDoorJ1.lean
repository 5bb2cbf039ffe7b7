/- strings.Join, by its contract. -/
import Derived.Test.YtcajihigkjcgeaaGreatDoorFrL
import Derived.Below
import Derived.Lib.FrozenHead2
import Derived.Shelf.Strings.BuilderX
import Derived.Shelf.Strings.Builder1
import Derived.Shelf.Strings.BuilderF
set_option linter.all false
namespace Ab
open Go Go.Proofs
set_option maxRecDepth 10000
set_option maxHeartbeats 4000000
set_option linter.all false
open Go Go.Proofs Go.RowKit Go.Shelf

/-- A library function, by its contract; with what stands in memory at hand. -/
theorem valid_libS {P : Program} {B : World} {f : Nat} {S : Spec} (hent : ∀ args w, (callFunc f args).run P w = .ok (.enter f args) w)
    (h : ∀ (w : World) (g : Gh) (args : List AV) (us : List Value) (O : List Obj) (Q : AV → List Obj → Prop), GI B w g → Sat w g O → ValL g args us → S args O Q →
      Calls P f us.toArray w (fun e w' => ∃ u r, e = .returned u ∧ (∀ g', Val g' r u) ∧ Q r O ∧ Below w.heap.size w w')) : Valid P B f S := by
  intro w g O args us Q hG hS h0 hv hs
  right
  refine ⟨hent _ _, (h w g args us O Q hG hS hv hs).mono ?_⟩
  rintro e w' ⟨u, r, rfl, h1, h2, h3⟩
  exact ⟨u, rfl, r, O, g, h2, h1 g, hS.below h3, Gh.le_refl g, Fr.below h3⟩

theorem rows_S (l : List (List UInt8)) : (l.map fun s => [DV.s s]).flatten = l.map DV.s := by
  induction l with
  | nil => rfl
  | cons a l ih => simp [ih]
theorem DList_S {I : Imm} : ∀ {l : List (List UInt8)} {us : List Value}, DList I (l.map DV.s) us → us = l.map fun s => Value.string ⟨s.toArray⟩
  | [], [], _ => rfl
  | a :: l, u :: us, h => by
    have h1 : u = .string ⟨a.toArray⟩ := h.1
    rw [h1, DList_S h.2]; rfl
/-- strings.Join -/
def S_x_strings_Join : Spec := fun args O Q => ∃ (l : List (List UInt8)) (p : List UInt8), args = [.d (.sl 1 (l.map fun s => [DV.s s])), .d (.s p)] ∧ l.length ≤ 100000 ∧ (Lib.join l p).length ≤ 100000000 ∧ Q (.d (.s (Lib.join l p))) O
theorem v_x_strings_Join {B : World} : Valid PG B x_strings_Join S_x_strings_Join := by
  refine valid_libS (fun args w => enters_of g_x_strings_Join (by kernel_rfl) rfl args w) ?_
  rintro w g _ us O Q hG hS hv ⟨l, p, rfl, hl, hj, hQ⟩
  match us, hv with
  | [u1, u2], ⟨h1, h2, _⟩ =>
    have h2 : u2 = .string ⟨p.toArray⟩ := h2
    subst h2
    have hsrc : Src w g 1 (l.map fun s => [DV.s s]) u1 := elems_src hS (O := O) (x := .d (.sl 1 (l.map fun s => [DV.s s]))) rfl h1
    obtain ⟨a1, c1, hu1, hle, _⟩ := h1
    obtain ⟨_, a, cap, hu2, hm⟩ := hsrc
    rw [hu1] at hu2
    injection hu2 with e1 _ e3
    subst e1; subst e3; subst hu1
    by_cases hl0 : l = []
    · subst hl0
      refine (Tryz.strings_Join_none a1 c1 ⟨p.toArray⟩ w).mono ?_
      rintro e w' ⟨rfl, rfl⟩
      exact ⟨_, .d (.s (Lib.join [] p)), rfl, fun _ => rfl, hQ, below_same _⟩
    · obtain ⟨b, off, vs, rfl, hd, hvl, hc⟩ := hm.resolve_left (by simpa using hl0)
      rw [rows_S] at hd
      have hvs := DList_S hd
      subst hvs
      have e1 : (l.map fun s => (⟨s.toArray⟩ : ByteArray)).map (·.data.toList) = l := by simp [Function.comp_def]
      have hlp : 0 < l.length := List.length_pos_iff.2 hl0
      have hcells : ∀ (j : Nat) x, (l.map fun s => (⟨s.toArray⟩ : ByteArray))[j]? = some x → w.cell? ⟨b, off + j, none⟩ = some (.string x) := by
        intro j x hj
        have hjl : j < l.length := by
          rcases Nat.lt_or_ge j l.length with h | h
          · exact h
          · rw [List.getElem?_eq_none (by simpa using h)] at hj; cases hj
        rw [hc j (by simpa using hjl)]
        simp only [List.getElem?_map, List.getElem?_eq_getElem hjl, Option.map_some, Option.some.injEq] at hj ⊢
        rw [hj]
      have hb : b < w.heap.size := by
        have h0 := hcells 0 ⟨l[0].toArray⟩ (by simp)
        rcases Nat.lt_or_ge b w.heap.size with h | h
        · exact h
        · simp [World.cell?, Array.getElem?_eq_none h] at h0
      have key := Tryz.strings_Join b off c1 (l.map fun s => (⟨s.toArray⟩ : ByteArray)) ⟨p.toArray⟩ w hcells hb (by simp; omega) (by simpa using hle) (by rw [e1]; show (Lib.join l p).length ≤ _; omega)
      rw [e1] at key
      simp only [List.length_map] at key ⊢
      refine key.mono ?_
      rintro e w' ⟨rfl, hbel⟩
      exact ⟨_, .d (.s (Lib.join l p)), rfl, fun _ => rfl, hQ, hbel⟩
end Ab

/- strings.Builder: what its methods leave of a builder and of all other memory. -/
namespace Ab
open Go Go.Proofs
set_option maxRecDepth 10000
set_option maxHeartbeats 4000000
set_option linter.all false
open Go Go.Proofs Go.RowKit Go.Shelf Go.Lib

/-! ### Append, and whose the new row is -/
section
variable {P : Program} (w : World)
theorem append_str_own (t u ty e : TypeId) (i : TypeInfo) (ht : P.underlying t = some (.slice e)) (hu : P.underlying u = some .string) (hi : P.info? e = some i) (hz : i.zero = some (.int .u8 0))
    (hsize : i.size = 1) (hby : i.bytes = 1) (v : Value) (n : Nat) (xs : List Value) (hown : w.ownsRowF 0 e 1 v n xs) (s : ByteArray) (hlen : n + s.size ≤ 1000000000) :
    ∃ v' w', (Builtin.append_ #[t, u] ty #[v, .string s]).run P w = .ok v' w' ∧ w'.ownsRowF 0 e 1 v' (n + s.size) (xs ++ strCells s) ∧ w.grownBy w' v.ownBlock ∧ (v'.ownBlock = v.ownBlock ∨ ∀ g, v'.ownBlock = some g → w.heap.size ≤ g) := by
  have h63 : n + s.size ≤ maxLen := by unfold maxLen; omega
  obtain ⟨v', w', r, o, gr, _⟩ := run_append_own_stringF (P := P) w 0 t u ty e i ht hu hi hz hsize hby v n xs hown s h63 (by omega) (by omega)
  refine ⟨v', w', r, o, gr, ?_⟩
  rcases hown.2 with ⟨rfl, rfl⟩ | ⟨g, cap, cur, fz, rfl, hbg, hg, hfz, hnc, hcm, hcs, htake⟩
  · right
    obtain ⟨v2, w2, r2, o2, _⟩ := run_append_own_stringF (P := P) w w.heap.size t u ty e i ht hu hi hz hsize hby (.slice none 0 0) 0 xs ⟨hown.1, .inl ⟨rfl, rfl⟩⟩ s h63 (by omega) (Nat.le_refl _)
    rw [r] at r2
    injection r2 with e1 e2
    subst e1; subst e2
    exact fun g hg => (o2.lt g hg).1
  · by_cases hroom : n + s.size ≤ cap
    · left
      have hr := run_append_room_stringF (P := P) w t u ty e i ht hu hi hsize g n cap cur fz hg (by simpa using hfz) s hroom (by simp at hcs; omega)
      rw [r] at hr
      injection hr with e1 _
      subst e1; rfl
    · right
      have hxl : xs.length = n := by simpa using hown.1
      have holds : ∀ j u, xs[j]? = some u → w.cell? ((⟨g, 0, none⟩ : Addr).add j) = some u := hown.cells (g := g) rfl
      have hr := run_append_grow_string (P := P) w t u ty e i (.int .u8 0) ht hu hi hz ⟨g, 0, none⟩ n cap xs (by rw [hsize]; simpa using hxl) holds s (by omega) (by unfold maxLen at h63; omega) (by rw [hby]; exact growslice_fits (by omega) (by omega))
      rw [r] at hr
      injection hr with e1 _
      subst e1
      intro g' hg'
      simp [Value.ownBlock] at hg'
      omega
theorem append_byte_own (t ty e : TypeId) (i : TypeInfo) (ht : P.underlying t = some (.slice e)) (hi : P.info? e = some i) (hz : i.zero = some (.int .u8 0))
    (hsize : i.size = 1) (hby : i.bytes = 1) (v : Value) (n : Nat) (xs : List Value) (hown : w.ownsRowF 0 e 1 v n xs) (a : Addr) (c : Value) (hc : w.cell? (a.add 0) = some c) (h1 : c.oneCell' = true) (hlen : n + 1 ≤ 1000000000) :
    ∃ v' w', (Builtin.append_ #[t, t] ty #[v, .slice (some a) 1 1]).run P w = .ok v' w' ∧ w'.ownsRowF 0 e 1 v' (n + 1) (xs ++ [c]) ∧ w.grownBy w' v.ownBlock ∧ (v'.ownBlock = v.ownBlock ∨ ∀ g, v'.ownBlock = some g → w.heap.size ≤ g) := by
  have h63 : n + 1 ≤ maxLen := by unfold maxLen; omega
  have hnews : ∀ (j : Nat) u, [c][j]? = some u → w.cell? (a.add j) = some u := by
    intro j u hj
    match j, hj with
    | 0, hj => simp at hj; subst hj; exact hc
  have h1' : ∀ u ∈ [c], u.oneCell' = true := by intro u hu; simp at hu; subst hu; exact h1
  have key := fun base (hown : w.ownsRowF base e 1 v n xs) hb => run_append_ownF (P := P) w base t ty e i (.int .u8 0) 1 1 ht hi hz hsize hby rfl (by decide) v n xs hown a 1 1 [c] rfl hnews h1' h63 (by omega) hb
  obtain ⟨v', w', r, o, gr, _⟩ := key 0 hown (by omega)
  refine ⟨v', w', r, o, gr, ?_⟩
  rcases hown.2 with ⟨rfl, rfl⟩ | ⟨g, cap, cur, fz, rfl, hbg, hg, hfz, hnc, hcm, hcs, htake⟩
  · right
    obtain ⟨v2, w2, r2, o2, _⟩ := key w.heap.size ⟨hown.1, .inl ⟨rfl, rfl⟩⟩ (Nat.le_refl _)
    rw [r] at r2
    injection r2 with e1 e2
    subst e1; subst e2
    exact fun g hg => (o2.lt g hg).1
  · by_cases hroom : n + 1 ≤ cap
    · left
      have hr := run_append_roomF (P := P) w t ty e i ht hi g n cap cur fz hg (by rw [hsize]; exact hfz) a 1 1 [c] (by simp [hsize]) hnews h1' hroom (by simp [hsize] at hcs ⊢; omega)
      rw [r] at hr
      injection hr with e1 _
      subst e1; rfl
    · right
      have holds : ∀ j u, xs[j]? = some u → w.cell? ((⟨g, 0, none⟩ : Addr).add j) = some u := hown.cells (g := g) rfl
      have hr := run_append_grow (P := P) w t ty e i (.int .u8 0) ht hi hz ⟨g, 0, none⟩ n cap xs (by rw [hsize]; simpa using hown.1) holds a 1 1 [c] (by simp [hsize]) hnews (by omega) (by unfold maxLen at h63; omega) (by rw [hby]; exact growslice_fits (by omega) (by omega))
      rw [r] at hr
      injection hr with e1 _
      subst e1
      intro g' hg'
      simp [Value.ownBlock] at hg'
      omega
end

/-! ### What is as it was -/
structure Kp (S : Nat → Prop) (w w' : World) : Prop where
  os : w'.os = w.os
  tape : w'.tape = w.tape
  output : w'.output = w.output
  size : w.heap.size ≤ w'.heap.size
  block : ∀ k, k < w.heap.size → ¬ S k → w'.heap[k]? = w.heap[k]?
theorem Kp.refl (S : Nat → Prop) (w : World) : Kp S w w := ⟨rfl, rfl, rfl, Nat.le_refl _, fun _ _ _ => rfl⟩
theorem Kp.trans {S : Nat → Prop} {a b c : World} (h : Kp S a b) (k : Kp S b c) : Kp S a c :=
  ⟨k.os.trans h.os, k.tape.trans h.tape, k.output.trans h.output, Nat.le_trans h.size k.size, fun i hi hn => (k.block i (Nat.lt_of_lt_of_le hi h.size) hn).trans (h.block i hi hn)⟩
theorem Kp.setCell {S : Nat → Prop} (w : World) (a : Addr) (u : Value) (h : S a.block) : Kp S w (w.setCell a u) := by
  refine ⟨rfl, rfl, rfl, by simp [World.setCell], fun k hk hn => ?_⟩
  have : a.block ≠ k := fun e => hn (e ▸ h)
  simp [World.setCell, Array.getElem?_modify, this]
theorem Kp.freeze {S : Nat → Prop} (w : World) (a : Addr) (n : Nat) (h : S a.block) : Kp S w (w.freeze a n) := by
  unfold World.freeze
  split
  · exact Kp.refl _ _
  refine ⟨rfl, rfl, rfl, by simp, fun k hk hn => ?_⟩
  have : a.block ≠ k := fun e => hn (e ▸ h)
  simp [Array.getElem?_modify, this]
theorem Kp.grown {S : Nat → Prop} {w w' : World} {r : Option Nat} (h : w.grownBy w' r) (hr : ∀ k, r = some k → S k) : Kp S w w' :=
  ⟨h.os, h.tape, h.output, h.size, fun k hk hn => h.block k hk (fun e => hn (hr k e.symm))⟩
theorem Kp.alloc (S : Nat → Prop) (w : World) (o : Go.Obj) : Kp S w (w.alloc o) := by
  refine ⟨rfl, rfl, rfl, by simp, fun k hk _ => ?_⟩
  show (w.heap.push o)[k]? = _
  rw [Array.getElem?_push, if_neg (by omega)]
theorem Kp.drew (S : Nat → Prop) (w : World) : Kp S w w.drew := ⟨rfl, rfl, rfl, Nat.le_refl _, fun _ _ _ => rfl⟩

/-! ### Builders in the frame -/
abbrev bT : TypeId := Tryz.lays156_ren.t 72
abbrev bE : TypeId := Tryz.lays156_ren.t 5
/-- a builder that has been written -/
abbrev bld (l : List UInt8) : Obj := .map bT [(.i .i64 (bE : Nat), []), (.s l, [])]
/-- the block b of w is a builder that holds l, its row v -/
structure IsB (T E : TypeId) (w : World) (b : Nat) (p v : Value) (l : List UInt8) : Prop where
  blk : w.heap[b]? = some (.cells #[p, v] T (0, 0))
  self : p = .pointer none ∨ p = .pointer (some ⟨b, 0, none⟩)
  ne : v.ownBlock ≠ some b
  row : w.ownsRowF 0 E 1 v l.length (byteCells l)
theorem bld_open {w : World} {g : Gh} {o : Obj} {l : List UInt8} (h : SatO w g 0 o) (ho : o = bld l ∨ o = .map bT [] ∧ l = []) :
    ∃ p v, IsB bT bE w (g.blk 0) p v l ∧ (∀ j, j = g.blk 0 ∨ v.ownBlock = some j → g.own j = some 0 ∧ g.imm j = none) ∧ g.row 0 = (0, .nilFunc) := by
  rcases ho with rfl | ⟨rfl, rfl⟩
  · obtain ⟨⟨p, v, h1, h2, h3, h4, h5⟩, ho, hi, hr⟩ := h
    refine ⟨p, v, ⟨h1, h2, h3, by simpa using h5⟩, ?_, hr⟩
    rintro j (rfl | hj)
    · exact ⟨ho, hi⟩
    · exact h4 j hj
  · obtain ⟨⟨p, v, h1, h2, h3, h4, rfl, rfl⟩, ho, hi, hr⟩ := h
    refine ⟨_, _, ⟨h1, h2, h3, World.ownsRowF_nil _ _ _ _⟩, ?_, hr⟩
    rintro j (rfl | hj)
    · exact ⟨ho, hi⟩
    · exact h4 j hj
theorem bld_close {w w' : World} {g : Gh} {o : Obj} {p v p' v' : Value} {l' : List UInt8} (hS : Sat w g [o]) (hr : g.row 0 = (0, .nilFunc)) (hB : IsB bT bE w' (g.blk 0) p' v' l')
    (hown : ∀ j, j = g.blk 0 ∨ v.ownBlock = some j → g.own j = some 0 ∧ g.imm j = none) (hK : Kp (fun k => k = g.blk 0 ∨ v.ownBlock = some k) w w')
    (hv : v'.ownBlock = v.ownBlock ∨ ∀ j, v'.ownBlock = some j → w.heap.size ≤ j) : ∃ g', Sat w' g' [bld l'] ∧ g.le g' ∧ Fr w w' g g' := by
  have hn : g.n = 1 := hS.n.symm
  have h0 : ∀ j k, g.own j = some k → k = 0 := fun j k hj => by have := (hS.own j k hj).2; omega
  have hnew : ∀ j, v'.ownBlock = some j → v.ownBlock = some j ∨ w.heap.size ≤ j := fun j hj => hv.elim (fun e => .inl (e ▸ hj)) (fun e => .inr (e j hj))
  have hsame : ∀ j, j < w.heap.size → g.own j = none → w'.heap[j]? = w.heap[j]? := fun j hj ho => hK.block j hj (fun hc => by have := (hown j hc).1; rw [ho] at this; cases this)
  have himm : ∀ j ys, g.imm j = some ys → w'.heap[j]? = w.heap[j]? := fun j ys hj => hK.block j (hS.imm_lt hj) (fun hc => by have := (hown j hc).2; rw [hj] at this; cases this)
  let g' : Gh := { g with own := fun j => if v'.ownBlock = some j then some 0 else g.own j }
  have ho' : ∀ j, j = g.blk 0 ∨ v'.ownBlock = some j → g'.own j = some 0 ∧ g'.imm j = none := by
    intro j hj
    by_cases hc : v'.ownBlock = some j
    · refine ⟨if_pos hc, ?_⟩
      rcases hnew j hc with h | h
      · exact (hown j (.inr h)).2
      · show g.imm j = none
        cases hi : g.imm j with
        | none => rfl
        | some ys => have := hS.imm_lt hi; omega
    · have hj := hj.resolve_right hc
      exact ⟨(if_neg hc).trans (hown j (.inl hj)).1, (hown j (.inl hj)).2⟩
  refine ⟨g', ⟨by rw [show g'.n = g.n from rfl, hn]; rfl, fun b ys hb => ?_, fun k o' hk => ?_, fun b k hb => ?_⟩, ⟨Imm.le_refl _, Nat.le_refl _, fun _ _ => rfl, fun _ _ => .inr rfl⟩, ?_⟩
  · obtain ⟨c, t, f, h1, h2⟩ := hS.imm b ys hb
    exact ⟨c, t, f, by rw [himm b ys hb]; exact h1, h2⟩
  · match k, hk with
    | 0, hk =>
      simp at hk; subst hk
      exact ⟨⟨p', v', hB.blk, hB.self, hB.ne, fun j hj => ho' j (.inr hj), by simpa using hB.row⟩, (ho' _ (.inl rfl)).1, (ho' _ (.inl rfl)).2, hr⟩
  · have hb : (if v'.ownBlock = some b then some 0 else g.own b) = some k := hb
    split at hb
    · rename_i hc
      simp at hb; subst hb
      exact ⟨(hB.row.lt b hc).2, by show 0 < g.n; omega⟩
    · have := hS.own b k hb
      exact ⟨Nat.lt_of_lt_of_le this.1 hK.size, this.2⟩
  · refine ⟨hK.size, hK.os, hK.tape, hK.output, hsame, fun _ _ _ => rfl, fun b hb ho => ?_⟩
    show (if v'.ownBlock = some b then some 0 else g.own b) = none
    split
    · rename_i hc
      rcases hnew b hc with h | h
      · rw [(hown b (.inr h)).1] at ho; cases ho
      · omega
    · exact ho

/-- A method of a builder, by what it does to memory. -/
theorem valid_bld {B : World} {f : Nat} {S : Spec} (hent : ∀ args w, (callFunc f args).run PG w = .ok (.enter f args) w)
    (h : ∀ (w : World) (g : Gh) (args : List AV) (us : List Value) (O : List Obj) (Q : AV → List Obj → Prop), GI B w g → ValL g args us → S args O Q →
      ∃ o l, O = [o] ∧ (o = bld l ∨ o = .map bT [] ∧ l = []) ∧ ∀ p v, IsB bT bE w (g.blk 0) p v l → Calls PG f us.toArray w fun e w' =>
        ∃ u r p' v' l', e = .returned u ∧ (∀ g', Val g' r u) ∧ Q r [bld l'] ∧ IsB bT bE w' (g.blk 0) p' v' l' ∧ Kp (fun k => k = g.blk 0 ∨ v.ownBlock = some k) w w' ∧ (v'.ownBlock = v.ownBlock ∨ ∀ j, v'.ownBlock = some j → w.heap.size ≤ j)) : Valid PG B f S := by
  intro w g O args us Q hG hS h0 hv hs
  right
  obtain ⟨o, l, rfl, ho, key⟩ := h w g args us O Q hG hv hs
  obtain ⟨p, v, hB, hown, hr⟩ := bld_open (hS.obj 0 o rfl) ho
  refine ⟨hent _ _, (key p v hB).mono ?_⟩
  rintro e w' ⟨u, r, p', v', l', rfl, h1, h2, h3, h4, h5⟩
  obtain ⟨g', k1, k2, k3⟩ := bld_close (p := p) hS hr h3 hown h4 h5
  exact ⟨u, rfl, r, _, g', h2, h1 g', k1, k2, k3⟩
end Ab

/- strings.Builder: its methods, by what they do to memory. -/
namespace Ab
open Go Go.Proofs
set_option maxRecDepth 10000
set_option maxHeartbeats 4000000
set_option linter.all false
open Go Go.Proofs Go.RowKit Go.Shelf Go.Lib

section
variable {P : Program} {ρ : Go.Shelf.Ren}
theorem wpList_append_str {ops : Array Oper} {rest : List Oper} {o : Oper} {a : Act} {w : World} {Q : Exit → Act → World → Prop} (hgd : o.guard = none) (sl x : Operand) (t u : TypeId)
    (ho : o.op = .call { callee := .builtin .append, args := #[sl, x], argTypes := #[t, u] })
    (e : TypeId) (i : TypeInfo) (ht : P.underlying t = some (.slice e)) (hu : P.underlying u = some .string) (hi : P.info? e = some i) (hz : i.zero = some (.int .u8 0)) (hsize : i.size = 1) (hby : i.bytes = 1)
    (v : Value) (n : Nat) (xs : List Value) (hs : a.eval sl = v) (hown : w.ownsRowF 0 e 1 v n xs) (s : ByteArray) (hx : a.eval x = .string s) (hlen : n + s.size ≤ 1000000000)
    (h : ∀ v' w', w'.ownsRowF 0 e 1 v' (n + s.size) (xs ++ strCells s) → w.grownBy w' v.ownBlock → (v'.ownBlock = v.ownBlock ∨ ∀ g, v'.ownBlock = some g → w.heap.size ≤ g) → wpList P ops Q rest (a.put o.dst v') w') : wpList P ops Q (o :: rest) a w := by
  refine wpList_plain hgd fun K hK => ?_
  obtain ⟨v', w', hr, h2, h3, h4⟩ := append_str_own (P := P) w t u o.type e i ht hu hi hz hsize hby v n xs hown s hlen
  unfold Oper.wp execOp
  simp only [ho, resolve, invoke, builtin, Sem.run_bind, Sem.run_pure, Result.andThen_ok, List.map_toArray, List.map_cons, List.map_nil, hs, hx, hr]
  exact hK _ _ (h v' w' h2 h3 h4)
theorem wpList_append_byte {ops : Array Oper} {rest : List Oper} {o : Oper} {a : Act} {w : World} {Q : Exit → Act → World → Prop} (hgd : o.guard = none) (sl x : Operand) (t : TypeId)
    (ho : o.op = .call { callee := .builtin .append, args := #[sl, x], argTypes := #[t, t] })
    (e : TypeId) (i : TypeInfo) (ht : P.underlying t = some (.slice e)) (hi : P.info? e = some i) (hz : i.zero = some (.int .u8 0)) (hsize : i.size = 1) (hby : i.bytes = 1)
    (v : Value) (n : Nat) (xs : List Value) (hs : a.eval sl = v) (hown : w.ownsRowF 0 e 1 v n xs) (ad : Addr) (c : Value) (hx : a.eval x = .slice (some ad) 1 1) (hc : w.cell? (ad.add 0) = some c) (h1 : c.oneCell' = true) (hlen : n + 1 ≤ 1000000000)
    (h : ∀ v' w', w'.ownsRowF 0 e 1 v' (n + 1) (xs ++ [c]) → w.grownBy w' v.ownBlock → (v'.ownBlock = v.ownBlock ∨ ∀ g, v'.ownBlock = some g → w.heap.size ≤ g) → wpList P ops Q rest (a.put o.dst v') w') : wpList P ops Q (o :: rest) a w := by
  refine wpList_plain hgd fun K hK => ?_
  obtain ⟨v', w', hr, h2, h3, h4⟩ := append_byte_own (P := P) w t o.type e i ht hi hz hsize hby v n xs hown ad c hc h1 hlen
  unfold Oper.wp execOp
  simp only [ho, resolve, invoke, builtin, Sem.run_bind, Sem.run_pure, Result.andThen_ok, List.map_toArray, List.map_cons, List.map_nil, hs, hx, hr]
  exact hK _ _ (h v' w' h2 h3 h4)

theorem IsB.set {T E : TypeId} {w : World} {b : Nat} {p v q : Value} {l : List UInt8} (h : IsB T E w b p v l) (hq : q = .pointer none ∨ q = .pointer (some ⟨b, 0, none⟩)) : IsB T E (w.setCell ⟨b, 0, none⟩ q) b q v l :=
  ⟨by simp [World.setCell, Array.getElem?_modify, h.blk], hq, h.ne, h.row.kept (row := some b) ⟨rfl, rfl, rfl, by simp [World.setCell], fun k _ hk => Below.heap_setCell _ _ _ _ (fun e => hk (by simp [e]))⟩ (Or.inr h.ne)⟩
theorem cc_key (L : Lays.n240 P ρ) (X : Builder.X72 P ρ) (b : Nat) (p v : Value) (l : List UInt8) (w : World) (h : IsB (ρ.t 72) (ρ.t 5) w b p v l) :
    Calls P (ρ.f 240) #[.pointer (some ⟨b, 0, none⟩)] w fun e w' => e = .returned (.tuple #[]) ∧ IsB (ρ.t 72) (ρ.t 5) w' b (.pointer (some ⟨b, 0, none⟩)) v l ∧ Kp (fun k => k = b) w w' := by
  have hb := h.blk
  have hs := h.self
  rcases hs with hp | hp
  · subst hp
    refine (Any.Builder_copyCheck_fresh L X b w (by rw [Lib.cell_of_heap hb]; rfl) (by simp [World.shape?, hb]) (by simp [World.frozen?, hb])).mono ?_
    rintro e w' ⟨rfl, rfl⟩
    exact ⟨rfl, h.set (.inr rfl), Kp.setCell w ⟨b, 0, none⟩ _ rfl⟩
  · subst hp
    refine (Any.Builder_copyCheck_used L X b w (by rw [Lib.cell_of_heap hb]; rfl)).mono ?_
    rintro e w' ⟨rfl, rfl⟩
    exact ⟨rfl, h, Kp.refl _ _⟩
theorem Kp.mono {S S' : Nat → Prop} {w w' : World} (h : Kp S w w') (hs : ∀ k, S k → S' k) : Kp S' w w' := ⟨h.os, h.tape, h.output, h.size, fun k hk hn => h.block k hk (fun hc => hn (hs k hc))⟩
/-- the row is new, and laid down in the builder -/
theorem put_key {T E : TypeId} (hTe : T ≠ E) {w0 w1 w2 : World} {b n : Nat} {v v' : Value} {l l' : List UInt8} (h : IsB T E w1 b (.pointer (some ⟨b, 0, none⟩)) v l) (hk : Kp (fun k => k = b) w0 w1) (hown' : w2.ownsRowF 0 E 1 v' n (byteCells l')) (hn : n = l'.length)
    (hgrow : w1.grownBy w2 v.ownBlock) (hq : v'.ownBlock = v.ownBlock ∨ ∀ g, v'.ownBlock = some g → w1.heap.size ≤ g) :
    IsB T E (w2.setCell ⟨b, 1, none⟩ v') b (.pointer (some ⟨b, 0, none⟩)) v' l' ∧ Kp (fun k => k = b ∨ v.ownBlock = some k) w0 (w2.setCell ⟨b, 1, none⟩ v') ∧ (v'.ownBlock = v.ownBlock ∨ ∀ j, v'.ownBlock = some j → w0.heap.size ≤ j) := by
  subst hn
  have hb := h.blk
  have hlt : b < w1.heap.size := by
    rcases Nat.lt_or_ge b w1.heap.size with h' | h'
    · exact h'
    · simp [Array.getElem?_eq_none h'] at hb
  have hb2 : w2.heap[b]? = some (.cells #[.pointer (some ⟨b, 0, none⟩), v] T (0, 0)) := by
    rw [hgrow.block b hlt (fun e => h.ne e.symm)]; exact hb
  have hne := ownBlock_neF hown' hb2 hTe
  refine ⟨⟨by simp [World.setCell, Array.getElem?_modify, hb2], .inr rfl, hne, hown'.kept (row := some b) ⟨rfl, rfl, rfl, by simp [World.setCell], fun k _ hk => Below.heap_setCell _ _ _ _ (fun e => hk (by simp [e]))⟩ (Or.inr hne)⟩, ?_, ?_⟩
  · exact ((hk.mono fun k hk => .inl hk).trans (Kp.grown hgrow (fun k hk => .inr hk))).trans (Kp.setCell w2 ⟨b, 1, none⟩ _ (.inl rfl))
  · exact hq.imp id fun q j hj => Nat.le_trans hk.size (q j hj)

set_option maxHeartbeats 2000000 in
set_option maxRecDepth 100000 in
theorem ws_key (L : Lays.n166 P ρ) (X : Builder.Extra P ρ) (b : Nat) (p v : Value) (l : List UInt8) (s : ByteArray) (w : World) (h : IsB (ρ.t 72) (ρ.t 5) w b p v l) (hlen : l.length + s.size ≤ 1000000000) :
    Calls P (ρ.f 166) #[.pointer (some ⟨b, 0, none⟩), .string s] w fun e w' => e = .returned (.tuple #[.int .i64 s.size, .nilIface]) ∧ ∃ v', IsB (ρ.t 72) (ρ.t 5) w' b (.pointer (some ⟨b, 0, none⟩)) v' (l ++ s.data.toList) ∧
      Kp (fun k => k = b ∨ v.ownBlock = some k) w w' ∧ (v'.ownBlock = v.ownBlock ∨ ∀ j, v'.ownBlock = some j → w.heap.size ≤ j) := by
  obtain ⟨i0, hi, hz0, hz1, hz2⟩ := info_parts X.infoByte
  have mixed := L.mixed
  have t72 := L.t72; have a72 := L.a72; have z72 := L.z72; have v72 := L.v72; have u72 := run_underlying L.t72
  have t70 := L.t70; have a70 := L.a70; have z70 := L.z70; have v70 := L.v70; have u70 := run_underlying L.t70
  have t37 := L.t37; have a37 := L.a37; have z37 := L.z37; have v37 := L.v37; have u37 := run_underlying L.t37
  have t3 := L.t3; have a3 := L.a3; have z3 := L.z3; have v3 := L.v3; have u3 := run_underlying L.t3
  have t9 := L.t9; have a9 := L.a9; have z9 := L.z9; have v9 := L.v9; have u9 := run_underlying L.t9
  have t4 := L.t4; have a4 := L.a4; have z4 := L.z4; have v4 := L.v4; have u4 := run_underlying L.t4
  have t164 := L.t164; have a164 := L.a164; have z164 := L.z164; have v164 := L.v164; have u164 := run_underlying L.t164
  have t5 := X.t5; have a5 := X.a5; have z5 := X.z5; have v5 := X.v5; have u5 := run_underlying X.t5
  have e240 : ∀ args w, (callFunc (ρ.f 240) args).run P w = .ok (.enter (ρ.f 240) args) w := enters_of L.f240 (by kernel_rfl) rfl
  go_enter L.f166, Body.n166_ntmps ρ
  go_wp2_with (go_at_fn (ρ.f 240); refine (cc_key { L with } X.toX72 b p v l _ h).mono ?_)
  rintro e w1 ⟨rfl, h1, hk1⟩
  have hbk := h1.blk
  have c0 : w1.cell? ⟨b, 0, none⟩ = some (.pointer (some ⟨b, 0, none⟩)) := by rw [Lib.cell_of_heap hbk]; rfl
  have c1 : w1.cell? ⟨b, 1, none⟩ = some v := by rw [Lib.cell_of_heap hbk]; rfl
  go_wp2_with (at_builtin; refine wpList_append_str rfl _ _ (ρ.t 37) (ρ.t 9) rfl (ρ.t 5) i0 L.t37 L.t9 hi hz0 hz1 hz2 _ _ _ rfl h1.row s rfl hlen ?_)
  intro v' w2 hown' hgrow hq
  have hlt : b < w1.heap.size := by
    rcases Nat.lt_or_ge b w1.heap.size with h' | h'
    · exact h'
    · simp [Array.getElem?_eq_none h'] at hbk
  have hb2 : w2.heap[b]? = some (.cells #[.pointer (some ⟨b, 0, none⟩), v] (ρ.t 72) (0, 0)) := by
    rw [hgrow.block b hlt (fun e => h1.ne e.symm)]; exact hbk
  have d0 : w2.cell? ⟨b, 0, none⟩ = some (.pointer (some ⟨b, 0, none⟩)) := by rw [Lib.cell_of_heap hb2]; rfl
  have d1 : w2.cell? ⟨b, 1, none⟩ = some v := by rw [Lib.cell_of_heap hb2]; rfl
  have f1 : w2.frozen? ⟨b, 1, none⟩ = false := Lib.frozen_of_heap hb2 1
  have hsz : s.data.toList.length = s.size := Lib.size_eq s |>.symm
  have e1 : byteCells (l ++ s.data.toList) = byteCells l ++ strCells s := by simp [byteCells, strCells]
  obtain ⟨k1, k2, k3⟩ := put_key X.neB5 h1 hk1 (l' := l ++ s.data.toList) (by rw [e1]; exact hown') (by simp [hsz]) hgrow hq
  obtain ⟨ao, n', cap, rfl⟩ : ∃ ao n' cap, v' = .slice ao n' cap := by
    rcases hown'.2 with ⟨hv, _⟩ | ⟨g, cap, cur, fz, hv, _⟩
    · exact ⟨_, _, _, hv⟩
    · exact ⟨_, _, _, hv⟩
  go_wp2
  go_ret2
  exact ⟨rfl, _, k1, k2, k3⟩

set_option maxHeartbeats 2000000 in
set_option maxRecDepth 100000 in
theorem wb_key (L : Lays.n167 P ρ) (X : Builder.Extra P ρ) (b : Nat) (p v : Value) (l : List UInt8) (c : UInt8) (w : World) (h : IsB (ρ.t 72) (ρ.t 5) w b p v l) (hlen : l.length + 1 ≤ 1000000000) :
    Calls P (ρ.f 167) #[.pointer (some ⟨b, 0, none⟩), .int .u8 c.toNat] w fun e w' => e = .returned .nilIface ∧ ∃ v', IsB (ρ.t 72) (ρ.t 5) w' b (.pointer (some ⟨b, 0, none⟩)) v' (l ++ [c]) ∧
      Kp (fun k => k = b ∨ v.ownBlock = some k) w w' ∧ (v'.ownBlock = v.ownBlock ∨ ∀ j, v'.ownBlock = some j → w.heap.size ≤ j) := by
  obtain ⟨i0, hi, hz0, hz1, hz2⟩ := info_parts X.infoByte
  have mixed := L.mixed
  have t72 := L.t72; have a72 := L.a72; have z72 := L.z72; have v72 := L.v72; have u72 := run_underlying L.t72
  have t70 := L.t70; have a70 := L.a70; have z70 := L.z70; have v70 := L.v70; have u70 := run_underlying L.t70
  have t5 := L.t5; have a5 := L.a5; have z5 := L.z5; have v5 := L.v5; have u5 := run_underlying L.t5
  have t37 := L.t37; have a37 := L.a37; have z37 := L.z37; have v37 := L.v37; have u37 := run_underlying L.t37
  have t9 := L.t9; have a9 := L.a9; have z9 := L.z9; have v9 := L.v9; have u9 := run_underlying L.t9
  have t4 := L.t4; have a4 := L.a4; have z4 := L.z4; have v4 := L.v4; have u4 := run_underlying L.t4
  have t164 := L.t164; have a164 := L.a164; have z164 := L.z164; have v164 := L.v164; have u164 := run_underlying L.t164
  have e240 : ∀ args w, (callFunc (ρ.f 240) args).run P w = .ok (.enter (ρ.f 240) args) w := enters_of L.f240 (by kernel_rfl) rfl
  go_enter L.f167, Body.n167_ntmps ρ
  go_wp2_with (go_at_fn (ρ.f 240); refine (cc_key { L with } X.toX72 b p v l _ h).mono ?_)
  rintro e w1 ⟨rfl, h1, hk1⟩
  have hbk := h1.blk
  have c0 : w1.cell? ⟨b, 0, none⟩ = some (.pointer (some ⟨b, 0, none⟩)) := by rw [Lib.cell_of_heap hbk]; rfl
  have c1 : w1.cell? ⟨b, 1, none⟩ = some v := by rw [Lib.cell_of_heap hbk]; rfl
  have hlt : b < w1.heap.size := by
    rcases Nat.lt_or_ge b w1.heap.size with h' | h'
    · exact h'
    · simp [Array.getElem?_eq_none h'] at hbk
  have h1a : ∀ o, IsB (ρ.t 72) (ρ.t 5) (w1.alloc o) b (.pointer (some ⟨b, 0, none⟩)) v l := fun o => ⟨(Lib.alloc_old w1 _ b hlt).trans hbk, h1.self, h1.ne, h1.row.alloc o⟩
  go_wp2_with (at_builtin; refine wpList_append_byte rfl _ _ (ρ.t 37) rfl (ρ.t 5) i0 L.t37 hi hz0 hz1 hz2 _ _ _ rfl (h1a _).row ⟨w1.heap.size, 0, none⟩ (.int .u8 c.toNat) rfl ?c1 rfl hlen ?_)
  case c1 => simp [Addr.add]
  intro v' w2 hown' hgrow hq
  have hb2 : w2.heap[b]? = some (.cells #[.pointer (some ⟨b, 0, none⟩), v] (ρ.t 72) (0, 0)) := by
    rw [hgrow.block b (by simp; omega) (fun e => h1.ne e.symm), Lib.alloc_old w1 _ b hlt]; exact hbk
  have d0 : w2.cell? ⟨b, 0, none⟩ = some (.pointer (some ⟨b, 0, none⟩)) := by rw [Lib.cell_of_heap hb2]; rfl
  have d1 : w2.cell? ⟨b, 1, none⟩ = some v := by rw [Lib.cell_of_heap hb2]; rfl
  have f1 : w2.frozen? ⟨b, 1, none⟩ = false := Lib.frozen_of_heap hb2 1
  have e1 : byteCells (l ++ [c]) = byteCells l ++ [.int .u8 c.toNat] := by simp [byteCells]
  obtain ⟨k1, k2, k3⟩ := put_key X.neB5 (h1a _) (hk1.trans (Kp.alloc _ _ _)) (l' := l ++ [c]) (by rw [e1]; exact hown') (by simp) hgrow (hq.imp id fun q j hj => by have := q j hj; simp; omega)
  obtain ⟨g, cap, rfl⟩ : ∃ g cap, v' = .slice (some ⟨g, 0, none⟩) (l.length + 1) cap := by
    rcases hown'.2 with ⟨_, h0⟩ | ⟨g, cap, cur, fz, hv, _⟩
    · omega
    · exact ⟨g, cap, hv⟩
  go_wp2
  go_ret
  exact ⟨rfl, _, k1, k2, k3⟩

set_option maxHeartbeats 1000000 in
set_option maxRecDepth 100000 in
theorem str_key (L : Lays.n169 P ρ) (X : Builder.Extra P ρ) (b : Nat) (p v : Value) (l : List UInt8) (w : World) (h : IsB (ρ.t 72) (ρ.t 5) w b p v l) (h0 : l ≠ []) :
    Calls P (ρ.f 169) #[.pointer (some ⟨b, 0, none⟩)] w fun e w' => e = .returned (.string ⟨l.toArray⟩) ∧ IsB (ρ.t 72) (ρ.t 5) w' b p v l ∧ Kp (fun k => k = b ∨ v.ownBlock = some k) w w' := by
  obtain ⟨hbk, hself, hne, hown⟩ := h
  have hl0 : l.length ≠ 0 := by simpa using h0
  obtain ⟨g, cap, cur, fz, rfl, hbg, hg, hfz, hnc, hcm, hcs, htake⟩ := hown.2.resolve_left (fun q => hl0 q.2)
  have c1 : w.drew.cell? ⟨b, 1, none⟩ = some (.slice (some ⟨g, 0, none⟩) l.length cap) := by
    have : w.drew.heap[b]? = some (.cells #[p, .slice (some ⟨g, 0, none⟩) l.length cap] (ρ.t 72) (0, 0)) := hbk
    rw [Lib.cell_of_heap this]; rfl
  have hSD : (Builtin.unsafeSliceData_ #[(ρ.t 37)] (ρ.t 127) #[.slice (some ⟨g, 0, none⟩) l.length cap]).run P w.drew = .ok (.pointer (some ⟨g, 0, none⟩)) w.drew :=
    Lib.run_unsafeSliceData_row _ _ _ _ _ _ (by omega)
  have hUS : (Builtin.unsafeString_ #[(ρ.t 127), (ρ.t 3)] (ρ.t 9) #[.pointer (some ⟨g, 0, none⟩), .int .i64 l.length]).run P w.drew = .ok (.string ⟨l.toArray⟩) (w.drew.freeze ⟨g, 0, none⟩ l.length) := by
    refine Lib.run_unsafeString_row w.drew (ρ.t 127) (ρ.t 3) (ρ.t 9) (ρ.t 5) L.t127 X.cellsByte g cur.size (by have hg' : w.drew.heap[g]? = some (.cells cur (ρ.t 5) fz) := hg; simp [World.shape?, hg']) l h0 (by omega) (by unfold maxLen at hcm; omega) ?_
    intro j x hx
    exact hown.cells (g := g) rfl j (.int .u8 x.toNat) (by simp [Lib.byteCells, hx])
  have hA : Lib.BuilderAtF (ρ.t 72) (ρ.t 5) 0 b p (Lib.byteCells l) w.drew := ⟨Nat.zero_le _, _, hbk, by rw [Lib.byteCells_length]; exact hown, hne⟩
  have hF := hA.froze (g := g) (cap := cap) (by rw [Lib.byteCells_length]; exact c1)
  rw [Lib.byteCells_length] at hF
  have hkeep : IsB (ρ.t 72) (ρ.t 5) (w.drew.freeze ⟨g, 0, none⟩ l.length) b p (.slice (some ⟨g, 0, none⟩) l.length cap) l := by
    obtain ⟨_, v', q1, q2, q3⟩ := hF
    have hgb : g ≠ b := fun e => hne (by simp [Value.ownBlock, e])
    have q0 : (w.drew.freeze ⟨g, 0, none⟩ l.length).heap[b]? = some (.cells #[p, .slice (some ⟨g, 0, none⟩) l.length cap] (ρ.t 72) (0, 0)) := by
      have := (Kp.freeze (S := fun k => k = g) w.drew ⟨g, 0, none⟩ l.length rfl).block b (Array.getElem?_eq_some_iff.1 hbk).1 (fun e => hgb e.symm)
      rw [this]; exact hbk
    rw [q0] at q1
    simp at q1
    subst q1
    exact ⟨q0, hself, hne, by rw [Lib.byteCells_length] at q2; exact q2⟩
  have mixed := L.mixed
  have t72 := L.t72; have a72 := L.a72; have z72 := L.z72; have v72 := L.v72; have u72 := run_underlying L.t72
  have t70 := L.t70; have a70 := L.a70; have z70 := L.z70; have v70 := L.v70; have u70 := run_underlying L.t70
  have t37 := L.t37; have a37 := L.a37; have z37 := L.z37; have v37 := L.v37; have u37 := run_underlying L.t37
  have t127 := L.t127; have a127 := L.a127; have z127 := L.z127; have v127 := L.v127; have u127 := run_underlying L.t127
  have t3 := L.t3; have a3 := L.a3; have z3 := L.z3; have v3 := L.v3; have u3 := run_underlying L.t3
  have t9 := L.t9; have a9 := L.a9; have z9 := L.z9; have v9 := L.v9; have u9 := run_underlying L.t9
  have t5 := X.t5; have a5 := X.a5; have z5 := X.z5; have v5 := X.v5; have u5 := run_underlying X.t5
  go_enter L.f169, Body.n169_ntmps ρ
  go_wp2
  go_region_o
  all_goals (go_wp2; go_ret; exact ⟨rfl, hkeep, (Kp.drew _ w).trans (Kp.freeze w.drew ⟨g, 0, none⟩ _ (.inr rfl))⟩)
end
end Ab

/- strings.Builder: its methods' contracts. -/
namespace Ab
open Go Go.Proofs
set_option maxRecDepth 10000
set_option maxHeartbeats 4000000
set_option linter.all false
open Go Go.Proofs Go.RowKit Go.Shelf Go.Lib

theorem layW : Lays.n166 PG Tryz.lays156_ren := { Tryz.lays156 with }
def rb : Go.Shelf.Ren := ⟨fun n => if n = 167 then x_strings_Builder_WriteByte else Tryz.lays156_ren.f n, Tryz.lays156_ren.t, Tryz.lays156_ren.g⟩
theorem layX : Builder.Extra PG rb := { Tryz.Builder_Extra_156 with }
theorem layB : Lays.n167 PG rb := { Tryz.lays156, layX with f167 := by kernel_rfl }
/-- WriteString -/
def S_x_WriteString : Spec := fun args O Q => ∃ (s : List UInt8) (o : Obj) (l : List UInt8), args = [.ptr 0 0, .d (.s s)] ∧ O = [o] ∧ (o = bld l ∨ o = .map bT [] ∧ l = []) ∧ l.length + s.length ≤ 1000000000 ∧
  Q (.tup [.d (.i .i64 s.length), .d (.v .nilIface)]) [bld (l ++ s)]
theorem v_x_WriteString {B : World} : Valid PG B x_strings_Builder_WriteString S_x_WriteString := by
  refine valid_bld (fun args w => enters_of g_x_strings_Builder_WriteString (by kernel_rfl) rfl args w) ?_
  rintro w g _ us _ Q hG hv ⟨s, o, l, rfl, rfl, ho, hl, hQ⟩
  refine ⟨o, l, rfl, ho, fun p v hB => ?_⟩
  match us, hv with
  | [u1, u2], ⟨⟨_, h1⟩, h2, _⟩ =>
    have h2 : u2 = .string ⟨s.toArray⟩ := h2
    subst h1; subst h2
    refine (ws_key layW Tryz.Builder_Extra_156 (g.blk 0) p v l ⟨s.toArray⟩ w hB (by rw [Lib.size_eq]; simpa using hl)).mono ?_
    rintro e w' ⟨rfl, v', k1, k2, k3⟩
    refine ⟨_, .tup [.d (.i .i64 s.length), .d (.v .nilIface)], _, v', _, rfl, fun _ => ⟨[_, _], rfl, ?_, ⟨rfl, rfl⟩, trivial⟩, hQ, by simpa using k1, k2, k3⟩
    show _ = _
    rw [Lib.size_eq]
/-- WriteByte -/
def S_x_WriteByte : Spec := fun args O Q => ∃ (c : UInt8) (o : Obj) (l : List UInt8), args = [.ptr 0 0, .d (.i .u8 c.toNat)] ∧ O = [o] ∧ (o = bld l ∨ o = .map bT [] ∧ l = []) ∧ l.length + 1 ≤ 1000000000 ∧
  Q (.d (.v .nilIface)) [bld (l ++ [c])]
theorem v_x_WriteByte {B : World} : Valid PG B x_strings_Builder_WriteByte S_x_WriteByte := by
  refine valid_bld (fun args w => enters_of g_x_strings_Builder_WriteByte (by kernel_rfl) rfl args w) ?_
  rintro w g _ us _ Q hG hv ⟨c, o, l, rfl, rfl, ho, hl, hQ⟩
  refine ⟨o, l, rfl, ho, fun p v hB => ?_⟩
  match us, hv with
  | [u1, u2], ⟨⟨_, h1⟩, h2, _⟩ =>
    have h2 : u2 = .int .u8 c.toNat := h2
    subst h1; subst h2
    refine (wb_key layB layX (g.blk 0) p v l c w hB hl).mono ?_
    rintro e w' ⟨rfl, v', k1, k2, k3⟩
    exact ⟨_, .d (.v .nilIface), _, v', _, rfl, fun _ => ⟨rfl, rfl⟩, hQ, k1, k2, k3⟩
/-- Len -/
def S_x_Len : Spec := fun args O Q => ∃ (o : Obj) (l : List UInt8), args = [.ptr 0 0] ∧ O = [o] ∧ (o = bld l ∨ o = .map bT [] ∧ l = []) ∧ Q (.d (.i .i64 l.length)) [bld l]
theorem v_x_Len {B : World} : Valid PG B x_strings_Builder_Len S_x_Len := by
  refine valid_bld (fun args w => enters_of g_x_strings_Builder_Len (by kernel_rfl) rfl args w) ?_
  rintro w g _ us _ Q hG hv ⟨o, l, rfl, rfl, ho, hQ⟩
  refine ⟨o, l, rfl, ho, fun p v hB => ?_⟩
  match us, hv with
  | [u1], ⟨⟨_, h1⟩, _⟩ =>
    subst h1
    have hA : Lib.BuilderAtF bT bE 0 (g.blk 0) p (byteCells l) w := ⟨Nat.zero_le _, v, hB.blk, by rw [byteCells_length]; exact hB.row, hB.ne⟩
    have hF : Lib.IsBuilderF bT bE 0 (g.blk 0) (byteCells l) w := by
      have hs := hB.self
      rcases hs with rfl | rfl
      · exact .inl hA
      · exact .inr hA
    refine (Any.Builder_Len_f Tryz.lays170 0 (g.blk 0) (byteCells l) w hF).mono ?_
    rintro e w' ⟨rfl, rfl⟩
    exact ⟨_, .d (.i .i64 l.length), p, v, l, rfl, fun _ => by show _ = _; rw [byteCells_length], hQ, hB, Kp.refl _ _, .inl rfl⟩
/-- String -/
def S_x_String : Spec := fun args O Q => ∃ (l : List UInt8), args = [.ptr 0 0] ∧ O = [bld l] ∧ l ≠ [] ∧ Q (.d (.s l)) [bld l]
theorem v_x_String {B : World} : Valid PG B x_strings_Builder_String S_x_String := by
  refine valid_bld (fun args w => enters_of g_x_strings_Builder_String (by kernel_rfl) rfl args w) ?_
  rintro w g _ us _ Q hG hv ⟨l, rfl, rfl, h0, hQ⟩
  refine ⟨_, l, rfl, .inl rfl, fun p v hB => ?_⟩
  match us, hv with
  | [u1], ⟨⟨_, h1⟩, _⟩ =>
    subst h1
    refine (str_key Tryz.lays169 Tryz.Builder_Extra_169 (g.blk 0) p v l w hB h0).mono ?_
    rintro e w' ⟨rfl, k1, k2⟩
    exact ⟨_, .d (.s l), p, v, l, rfl, fun _ => rfl, hQ, k1, k2, .inl rfl⟩
end Ab
