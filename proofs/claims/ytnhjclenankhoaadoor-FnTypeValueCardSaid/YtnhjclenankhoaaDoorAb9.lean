/- The frame 'Ab' is sound, fifth part: every operation that only reads. -/
import Derived.Test.YtnhjclenankhoaaDoorAb8
set_option linter.all false
namespace Ab
open Go
set_option linter.unusedSimpArgs false
set_option linter.unusedVariables false

section
variable {P : Program} {τ : Tab} {w : World} {g : Gh} {O : List Obj}

theorem asB_run {b : Bool} : (asBool (.bool b)).run P w = .ok b w := rfl

theorem intOf_val {x : AV} {n : Int} {u : Value} (h : intOf? x = some n) (hv : Val g x u) : ∃ k, u = .int k n := by
  unfold intOf? at h
  split at h
  · rename_i k m
    simp at h; subst h; exact ⟨k, hv⟩
  · cases h

theorem bytes_sound : ∀ {xs : List (List DV)} {l : List UInt8} {us : List Value}, bytesOf xs = some l → DList g.imm xs.flatten us →
    ∃ ns : List Int, us = ns.map (Value.int .u8) ∧ xs.length = us.length ∧ l = ns.map (fun n => UInt8.ofNat n.toNat)
  | [], l, us, h, hd => by
    simp [bytesOf] at h; subst h
    cases us with
    | nil => exact ⟨[], rfl, rfl, rfl⟩
    | cons u us => exact hd.elim
  | x :: xs, l, us, h, hd => by
    unfold bytesOf at h
    split at h
    · rename_i heq; cases heq
    · rename_i n r heq
      simp only [List.cons.injEq] at heq
      obtain ⟨rfl, rfl⟩ := heq
      split at h
      · rename_i l' hl'
        simp at h; subst h
        cases us with
        | nil => exact hd.elim
        | cons u us =>
          have hd' : DVal g.imm (.i .u8 n) u ∧ DList g.imm xs.flatten us := by simpa [DList] using hd
          obtain ⟨hu, hd2⟩ := hd'
          simp only [DVal] at hu
          subst hu
          obtain ⟨ns, h1, h2, h3⟩ := bytes_sound hl' hd2
          exact ⟨n :: ns, by simp [h1], by simp [h2], by simp [h3]⟩
      · cases h
    · cases h

theorem push_fold : ∀ (ns : List Int) (s : ByteArray), ns.foldl (fun r n => r.push (UInt8.ofNat n.toNat)) s = ⟨(s.data.toList ++ ns.map (fun n => UInt8.ofNat n.toNat)).toArray⟩
  | [], s => by simp
  | n :: ns, s => by
    simp only [List.foldl_cons]
    rw [push_fold ns]
    simp [ByteArray.push]

theorem run_bytes {b off cap : Nat} {ns : List Int} (hm : ∀ j, j < ns.length → w.cell? ⟨b, off + j, none⟩ = some (.int .u8 (ns.getD j 0))) :
    (Conv.bytesToString (.slice (some ⟨b, off, none⟩) ns.length cap)).run P w = .ok (.string ⟨(ns.map (fun n => UInt8.ofNat n.toNat)).toArray⟩) w := by
  have hl := run_loadCells_list (P := P) w ⟨b, off, none⟩ (ns.map (Value.int .u8)) (fun j v hj => by
    rw [add_none]
    simp only [List.getElem?_map, Option.map_eq_some_iff] at hj
    obtain ⟨n, hn, rfl⟩ := hj
    have hj' : j < ns.length := by
      rcases Nat.lt_or_ge j ns.length with h' | h'
      · exact h'
      · rw [List.getElem?_eq_none h'] at hn; cases hn
    rw [hm j hj', List.getD_eq_getElem?_getD, hn]; rfl)
  rw [List.length_map] at hl
  rw [run_bytesToString w _ _ cap ns hl, push_fold]
  simp

theorem bndK_sound0 {len : Nat} {lo hi : Option Operand} {e : Operand → AV} {ev : Operand → Value} (he : ∀ x, Val g (e x) (ev x)) {k : Nat → Nat → Prop} (sl : Bool) (cap : Nat) (hcap : len ≤ cap)
    (h : bndK len (omap e lo) (omap e hi) k) : ∃ a b, k a b ∧ a ≤ b ∧ b ≤ len ∧ (Instr.sliceBounds sl len cap (lo.map ev) (hi.map ev) none).run P w = .ok (a, b, cap) w ∧ (lo = none → a = 0) := by
  have bnd : ∀ (x : Operand) (n : Int) (y : Nat) (code : BoundsCode), intOf? (e x) = some n → 0 ≤ n → n ≤ (y : Int) → (Instr.sliceBound (ev x) y code).run P w = .ok n.toNat w := by
    intro x n y code hx h0 h1
    obtain ⟨kk, hk⟩ := intOf_val hx (he x)
    simp [Instr.sliceBound, hk, asIntOf, h0, h1]
  cases lo with
  | none =>
    cases hi with
    | none =>
      simp only [omap, bndK] at h
      exact ⟨_, _, h, by omega, by omega, by simp [Instr.sliceBounds], fun _ => rfl⟩
    | some hi =>
      simp only [omap, bndK] at h
      split at h
      · rename_i n hn
        obtain ⟨⟨h0, h1⟩, h⟩ := h
        exact ⟨_, _, h, by omega, by omega, by simp [Instr.sliceBounds, bnd hi n cap _ hn h0 (by omega)], fun _ => rfl⟩
      · exact h.elim
  | some lo =>
    cases hi with
    | none =>
      simp only [omap, bndK] at h
      split at h
      · rename_i n hn
        obtain ⟨⟨h0, h1⟩, h⟩ := h
        exact ⟨_, _, h, by omega, by omega, by simp [Instr.sliceBounds, bnd lo n len _ hn h0 h1], fun e => by cases e⟩
      · exact h.elim
    | some hi =>
      simp only [omap, bndK] at h
      split at h
      · rename_i m n hm hn
        obtain ⟨⟨h0, h1, h2⟩, h⟩ := h
        refine ⟨_, _, h, by omega, by omega, ?_, fun e => by cases e⟩
        have hb := bnd hi n cap (if sl then .sliceAcap else .sliceAlen) hn (by omega) (by omega)
        have hc := bnd lo m n.toNat .sliceB hm h0 (by omega)
        simp [Instr.sliceBounds, hb, hc]
      · exact h.elim

theorem bndK_sound {len : Nat} {lo hi : Option Operand} {e : Operand → AV} {ev : Operand → Value} (he : ∀ x, Val g (e x) (ev x)) {k : Nat → Nat → Prop} (sl : Bool) (cap : Nat) (hcap : len ≤ cap)
    (h : bndK len (omap e lo) (omap e hi) k) : ∃ a b, k a b ∧ a ≤ b ∧ b ≤ len ∧ (Instr.sliceBounds sl len cap (lo.map ev) (hi.map ev) none).run P w = .ok (a, b, cap) w := by
  obtain ⟨a, b, h1, h2, h3, h4, _⟩ := bndK_sound0 (P := P) (w := w) he sl cap hcap h
  exact ⟨a, b, h1, h2, h3, h4⟩

theorem fields_of (hτ : Tok P τ) {s : Nat} (hk : (tg τ s).kind = .struct) : ∃ fs : Array Field, P.underlying s = some (.struct fs) ∧ fs.toList.map (fun f => (f.offset, f.type)) = (tg τ s).fs ∧ fs.toList.all (fun f => (P.info? f.type).isSome) = true := by
  have tk1 := hτ.of_kind (t := s) (by rw [hk]; simp)
  have hkd := tk1.kind
  rw [kindOk, hk] at hkd
  exact hkd

theorem field_of {fs : Array Field} {l : List (Nat × Nat)} (hl : fs.toList.map (fun f => (f.offset, f.type)) = l) {f : Nat} (hf : Nat.blt f (ln l) = true) :
    ∃ fd, fs[f]? = some fd ∧ nth l f (0, 0) = (fd.offset, fd.type) := by
  have hlt : f < fs.size := by
    have h := Nat.le_of_ble_eq_true hf
    rw [ln_eq, ← hl] at h; simp at h; omega
  refine ⟨fs[f], by simp [hlt], ?_⟩
  rw [nth_eq, ← hl]
  simp [List.getD, hlt]

theorem ValL_vD : ∀ (vs : List Value), vs.all oneV = true → ValL g ((vs.map vD).map .d) vs
  | [], _ => trivial
  | v :: vs, h => by
    simp only [List.all_cons, Bool.and_eq_true] at h
    exact ⟨DVal_vD _ v h.1, ValL_vD vs h.2⟩

theorem mkZero_sound (hτ : Tok P τ) {t : Nat} (hk : (tg τ t).kind ≠ .other) : ∃ u, (zeroValue t).run P w = .ok u w ∧ Val g (mkZero (tg τ t)) u := by
  have tk1 := hτ.of_kind hk
  obtain ⟨z, hz, hc, hs, hsh, hone⟩ := tk1.zero w
  refine ⟨z, hz, ?_⟩
  have hl := ValL_vD (g := g) z.cells.toList hone
  rw [hc] at hl
  unfold mkZero
  cases ha : (tg τ t).agg with
  | true =>
    rw [ha] at hsh
    dsimp only at hsh ⊢
    rw [mp1_eq]
    exact ⟨z.cells.toList, by rw [hsh]; simp [Value.cells], hl⟩
  | false =>
    rw [ha] at hsh
    dsimp only at hsh ⊢
    split
    · rename_i c hz1
      rw [hz1] at hl
      have h1 : z.cells.toList.length = 1 := by have := ValL_length hl; simpa using this.symm
      obtain ⟨u, hu⟩ : ∃ u, z.cells.toList = [u] := by
        match z.cells.toList, h1 with
        | [u], _ => exact ⟨u, rfl⟩
      rw [hu] at hl
      have : z = u := by
        rw [hsh]
        have : z.cells = #[u] := by apply Array.ext'; simpa using hu
        rw [this]; rfl
      rw [this]; exact hl.1
    · trivial

theorem rows_imm {I : Imm} {z b off : Nat} {c : List Value} : ∀ {xs : List (List DV)} {us : List Value} (k : Nat), (∀ r ∈ xs, r.length = z) → DList I xs.flatten us →
    (∀ j, j < us.length → rd I b (off + k + j) = us[j]?) → DRows I z b (off + k) xs := by
  intro xs
  induction xs with
  | nil => intro us k _ _ _; trivial
  | cons x xs ih =>
    intro us k hl hd hr
    have hx := hl x (by simp)
    have key : ∀ (cs : List DV) (vs : List Value) (o : Nat), DList I cs vs → (∀ j, j < vs.length → rd I b (o + j) = vs[j]?) → DCells I b o cs := by
      intro cs
      induction cs with
      | nil => intro vs o _ _; trivial
      | cons c cs ih2 =>
        intro vs o hd hr
        cases vs with
        | nil => exact hd.elim
        | cons v vs =>
          refine ⟨⟨v, by simpa using hr 0 (by simp), hd.1⟩, ih2 vs (o + 1) hd.2 fun j hj => ?_⟩
          have := hr (j + 1) (by simpa using hj)
          rw [show o + 1 + j = o + (j + 1) by omega, this]; simp
    have split_ : ∀ (cs ds : List DV) (vs : List Value), DList I (cs ++ ds) vs → DList I cs (vs.take cs.length) ∧ DList I ds (vs.drop cs.length) := by
      intro cs
      induction cs with
      | nil => intro ds vs h; exact ⟨by simp [DList], by simpa using h⟩
      | cons c cs ih3 =>
        intro ds vs h
        cases vs with
        | nil => exact h.elim
        | cons v vs =>
          obtain ⟨h1, h2⟩ := h
          obtain ⟨h3, h4⟩ := ih3 ds vs h2
          exact ⟨⟨h1, h3⟩, h4⟩
    rw [List.flatten_cons] at hd
    obtain ⟨h1, h2⟩ := split_ _ _ _ hd
    refine ⟨hx, key _ _ _ h1 (fun j hj => ?_), ?_⟩
    · simp only [List.length_take] at hj
      rw [List.getElem?_take_of_lt (by omega)]
      exact hr j (by omega)
    · have := ih (us := us.drop x.length) (k + z) (fun r hr => hl r (List.mem_cons_of_mem _ hr)) h2 (fun j hj => by
        simp only [List.length_drop] at hj
        rw [List.getElem?_drop, hx, show off + (k + z) + j = off + k + (z + j) by omega]
        exact hr (z + j) (by rw [hx] at hj; omega))
      rw [show off + k + z = off + (k + z) by omega]; exact this
end
end Ab
