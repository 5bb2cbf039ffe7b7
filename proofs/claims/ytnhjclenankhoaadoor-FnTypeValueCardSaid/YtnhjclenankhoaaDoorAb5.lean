/- The frame 'Ab' is sound, first part: what holds of memory; the words of the evaluator as Lean's own; operations that only read. -/
import Derived.Test.YtnhjclenankhoaaDoorAb4
set_option linter.all false
namespace Ab
open Go
set_option linter.unusedSimpArgs false
set_option linter.unusedVariables false

/-! ### The evaluator's words -/
theorem nth_eq {α : Type} (d : α) : ∀ (l : List α) (n : Nat), nth l n d = l.getD n d
  | [], n => by simp [nth]
  | x :: xs, 0 => by simp [nth]
  | x :: xs, n + 1 => by simp [nth, nth_eq d xs n]
theorem tk_eq {α : Type} : ∀ (n : Nat) (l : List α), tk n l = l.take n
  | 0, _ => by simp [tk]
  | n + 1, [] => by simp [tk]
  | n + 1, x :: xs => by simp [tk, tk_eq n xs]
theorem dp_eq {α : Type} : ∀ (n : Nat) (l : List α), dp n l = l.drop n
  | 0, _ => by simp [dp]
  | n + 1, [] => by simp [dp]
  | n + 1, x :: xs => by simp [dp, dp_eq n xs]
theorem ln_eq {α : Type} : ∀ (l : List α), ln l = l.length
  | [] => rfl
  | _ :: xs => by simp [ln, ln_eq xs]
theorem ap_eq {α : Type} : ∀ (l m : List α), ap l m = l ++ m
  | [], _ => rfl
  | _ :: xs, m => by simp [ap, ap_eq xs m]
theorem mp1_eq {α β : Type} (f : α → β) : ∀ (l : List α), mp1 f l = l.map f
  | [] => rfl
  | _ :: xs => by simp [mp1, mp1_eq f xs]
theorem st_eq {α : Type} : ∀ (l : List α) (n : Nat) (v : α), st l n v = l.set n v
  | [], _, _ => by simp [st]
  | _ :: xs, 0, _ => by simp [st]
  | _ :: xs, n + 1, v => by simp [st, st_eq xs n v]
theorem stK_eq {α : Type} : ∀ (l : List α) (n : Nat) (v : α) (k : List α → Prop), stK l n v k = k (l.set n v)
  | [], _, _, k => by simp [stK]
  | _ :: xs, 0, _, k => by simp [stK]
  | x :: xs, n + 1, v, k => by simp [stK, stK_eq xs n v]
theorem apK_eq {α : Type} : ∀ (l m : List α) (k : List α → Prop), apK l m k = k (l ++ m)
  | [], _, k => rfl
  | x :: xs, m, k => by simp [apK, apK_eq xs m]
theorem fS_eq {α : Type} : ∀ (l : List α) (k : List α → Prop), fS l k = k l
  | [], k => rfl
  | x :: xs, k => by simp [fS, fS_eq xs]
theorem fNs_eq : ∀ (l : List (List Nat)) (k : List (List Nat) → Prop), fNs l k = k l
  | [], k => rfl
  | x :: xs, k => by simp [fNs, fS_eq, fNs_eq xs]
theorem fD_eq (x : DV) (k : DV → Prop) : fD x k = k x := by cases x <;> rfl
theorem fDs_eq : ∀ (l : List DV) (k : List DV → Prop), fDs l k = k l
  | [], k => rfl
  | x :: xs, k => by simp [fDs, fD_eq, fDs_eq xs]
theorem fRows_eq : ∀ (l : List (List DV)) (k : List (List DV) → Prop), fRows l k = k l
  | [], k => rfl
  | x :: xs, k => by simp [fRows, fDs_eq, fRows_eq xs]
mutual
theorem fA_eq : ∀ (x : AV) (k : AV → Prop), fA x k = k x
  | .d x, k => by simp [fA, fD_eq]
  | .tt, k => rfl
  | .ff, k => rfl
  | .row _ _, k => rfl
  | .ptr _ _, k => rfl
  | .da cs, k => by simp [fA, fDs_eq]
  | .ra _ _ _ _ _, k => rfl
  | .agg cs, k => by simp [fA, fL_eq cs]
  | .tup cs, k => by simp [fA, fL_eq cs]
  | .fn f cs, k => by simp [fA, fL_eq cs]
  | .ifc t x, k => by simp [fA, fA_eq x]
  | .mp _, k => rfl
  | .und, k => rfl
  | .junk, k => rfl
theorem fL_eq : ∀ (l : List AV) (k : List AV → Prop), fL l k = k l
  | [], k => rfl
  | x :: xs, k => by simp [fL, fA_eq x, fL_eq xs]
end
theorem fO_eq (o : Obj) (k : Obj → Prop) : fO o k = k o := by cases o <;> simp [fO, fL_eq]
theorem fOs_eq : ∀ (l : List Obj) (k : List Obj → Prop), fOs l k = k l
  | [], k => rfl
  | x :: xs, k => by simp [fOs, fO_eq, fOs_eq xs]
theorem hasN_iff : ∀ (l : List Nat) (n : Nat), hasN l n = true ↔ n ∈ l
  | [], n => by simp [hasN]
  | x :: xs, n => by
    unfold hasN
    cases h : Nat.beq x n with
    | true => simp [Nat.eq_of_beq_eq_true h]
    | false =>
      have hne : n ≠ x := fun e => by subst e; simp at h
      simp [hasN_iff xs n, hne]
theorem beq_nat {a b : Nat} : Nat.beq a b = true ↔ a = b := ⟨Nat.eq_of_beq_eq_true, fun h => by subst h; simp⟩
theorem kq_eq {a b : IntKind} (h : kq a b = true) : a = b := by cases a <;> cases b <;> simp_all [kq]
theorem splice_eq {α : Type} : ∀ (cs : List α) (n : Nat) (ws r : List α), splice cs n ws = some r → n + ws.length ≤ cs.length ∧ r = cs.take n ++ ws ++ cs.drop (n + ws.length)
  | cs, 0, [], r, h => by simp [splice] at h; simp [h]
  | [], n + 1, ws, r, h => by simp [splice] at h
  | [], 0, _ :: _, r, h => by simp [splice] at h
  | c :: cs, n + 1, ws, r, h => by
    unfold splice at h
    split at h
    · rename_i r' hr
      have := splice_eq cs n ws r' hr
      simp at h; subst h
      refine ⟨by simp; omega, ?_⟩
      rw [this.2]; simp [show n + 1 + ws.length = n + ws.length + 1 by omega]
    · simp at h
  | c :: cs, 0, w :: ws, r, h => by
    unfold splice at h
    split at h
    · rename_i r' hr
      have := splice_eq cs 0 ws r' hr
      simp at h; subst h
      refine ⟨by simp; omega, ?_⟩
      rw [this.2]; simp
    · simp at h

/-! ### Types -/
def kindOk (P : Program) (t : Nat) (i : TI) : Prop :=
  match i.kind with
  | .struct => ∃ fs, P.underlying t = some (.struct fs) ∧ fs.toList.map (fun f => (f.offset, f.type)) = i.fs ∧ fs.toList.all (fun f => (P.info? f.type).isSome) = true
  | .slice => P.underlying t = some (.slice i.elem)
  | .string => P.underlying t = some .string
  | .bool => P.underlying t = some .bool
  | .int k => P.underlying t = some (.int k)
  | .iface => ∃ ms, P.underlying t = some (.interface ms)
  | .ptr => P.underlying t = some (.pointer i.elem)
  | .func => ∃ a b c, P.underlying t = some (.func a b c)
  | .map => P.underlying t = some (.map i.key i.elem)
  | .other => True

def vD : Value → DV
  | .int k n => .i k n
  | .bool b => .b b
  | .string s => .s s.data.toList
  | v => .v v

structure Tok1 (P : Program) (t : Nat) (i : TI) : Prop where
  info : ∃ ti z, P.info? t = some ti ∧ ti.size = i.size ∧ ti.bytes = i.bytes ∧ ti.zero = some z ∧ z.cells.toList.map vD = i.zero ∧ z.cells.size = i.size ∧ z = (match i.agg with | true => .agg z.cells | false => z.cells.getD 0 undef) ∧ z.cells.toList.all oneV = true
  agg : ∃ d, P.underlying t = some d ∧ (match d with | .struct _ | .array _ _ => true | _ => false) = i.agg
  kind : kindOk P t i
  small : i.bytes ≤ 1024

def Tok (P : Program) : Tab → Prop
  | [] => True
  | (t, i) :: r => Tok1 P t i ∧ Tok P r

theorem Tok.get {P : Program} : ∀ {τ : Tab} (h : Tok P τ) (t : Nat), (tg τ t).size = 0 ∧ (tg τ t).kind = .other ∨ Tok1 P t (tg τ t)
  | [], _, t => .inl ⟨rfl, rfl⟩
  | (a, i) :: r, h, t => by
    unfold tg
    cases hb : Nat.beq a t with
    | true => right; rw [← Nat.eq_of_beq_eq_true hb]; exact h.1
    | false => exact Tok.get h.2 t

theorem Tok.of_size {P : Program} {τ : Tab} (h : Tok P τ) {t : Nat} (hs : (tg τ t).size ≠ 0) : Tok1 P t (tg τ t) := by
  rcases h.get t with h | h
  · exact absurd h.1 hs
  · exact h
theorem Tok.of_kind {P : Program} {τ : Tab} (h : Tok P τ) {t : Nat} (hs : (tg τ t).kind ≠ .other) : Tok1 P t (tg τ t) := by
  rcases h.get t with h | h
  · exact absurd h.2 hs
  · exact h

section
variable {P : Program} {t : Nat} {i : TI}
theorem Tok1.sizeOf (h : Tok1 P t i) (w : World) : (Go.sizeOf t).run P w = .ok i.size w := by
  obtain ⟨ti, z, hi, hs, _⟩ := h.info
  simp [Go.sizeOf, typeInfo, hi, hs]
theorem Tok1.typeInfo (h : Tok1 P t i) (w : World) : ∃ ti, (Go.typeInfo t).run P w = .ok ti w ∧ ti.bytes = i.bytes := by
  obtain ⟨ti, z, hi, hs, hb, _⟩ := h.info
  exact ⟨ti, by simp [Go.typeInfo, hi], hb⟩
theorem Tok1.isAgg (h : Tok1 P t i) (w : World) : (Go.isAgg t).run P w = .ok i.agg w := by
  obtain ⟨d, hd, he⟩ := h.agg
  unfold Go.isAgg
  rw [Sem.run_bind, run_underlying hd w]
  cases d <;> simp_all
theorem Tok1.zero (h : Tok1 P t i) (w : World) : ∃ z, (Go.zeroValue t).run P w = .ok z w ∧ z.cells.toList.map vD = i.zero ∧ z.cells.size = i.size ∧ z = (match i.agg with | true => .agg z.cells | false => z.cells.getD 0 undef) ∧ z.cells.toList.all oneV = true := by
  obtain ⟨ti, z, hi, hs, hb, hz, hc, hd⟩ := h.info
  exact ⟨z, by simp [zeroValue, Go.typeInfo, hi, hz], hc, hd⟩
end

theorem DVal_vD (I : Imm) (v : Value) (h : oneV v = true) : DVal I (vD v) v := by
  cases v <;> simp_all [vD, DVal, oneV]
theorem DList_vD (I : Imm) : ∀ (vs : List Value), vs.all oneV = true → DList I (vs.map vD) vs
  | [], _ => trivial
  | v :: vs, h => by
    simp only [List.all_cons, Bool.and_eq_true] at h
    exact ⟨DVal_vD I v h.1, DList_vD I vs h.2⟩

/-! ### What holds of memory -/
structure RowAt (w : World) (g : Gh) (k : Nat) (st : Bool) (z : Nat) (xs : List (List DV)) (a : Option Addr) (cap : Nat) : Prop where
  len : xs.length ≤ cap
  elen : ∀ r ∈ xs, r.length = z
  mem : cap = 0 ∨ ∃ b off c t us, a = some ⟨b, off, none⟩ ∧ w.heap[b]? = some (.cells c t (0, 0)) ∧ off + cap * z ≤ c.size ∧ g.own b = some k ∧
    (c.toList.drop off).take (xs.length * z) = us ∧ DList g.imm xs.flatten us ∧
    g.imm b = if st then none else some (c.toList.take (off + xs.length * z))

def SatO (w : World) (g : Gh) (k : Nat) : Obj → Prop
  | .cells cs => ∃ c t, w.heap[g.blk k]? = some (.cells c t (0, 0)) ∧ g.own (g.blk k) = some k ∧ g.imm (g.blk k) = none ∧ g.row k = (0, .nilFunc) ∧ ValL g cs c.toList
  | .row v st z xs => ∃ a cap, g.row k = (v, .slice a xs.length cap) ∧ RowAt w g k st z xs a cap
  | .map _ _ => False
  | .dead => False

structure Sat (w : World) (g : Gh) (O : List Obj) : Prop where
  n : O.length = g.n
  imm : ∀ b ys, g.imm b = some ys → ∃ c t f, w.heap[b]? = some (.cells c t f) ∧ ys <+: c.toList
  obj : ∀ k o, O[k]? = some o → SatO w g k o
  own : ∀ b k, g.own b = some k → b < w.heap.size ∧ k < g.n

structure Fr (w w' : World) (g g' : Gh) : Prop where
  size : w.heap.size ≤ w'.heap.size
  os : w'.os = w.os
  tape : w'.tape = w.tape
  out : w'.output = w.output
  heap : ∀ b, b < w.heap.size → g.own b = none → w'.heap[b]? = w.heap[b]?
  imm : ∀ b, b < w.heap.size → g.own b = none → g'.imm b = g.imm b
  own : ∀ b, b < w.heap.size → g.own b = none → g'.own b = none

theorem Fr.refl (w : World) (g : Gh) : Fr w w g g := ⟨Nat.le_refl _, rfl, rfl, rfl, fun _ _ _ => rfl, fun _ _ _ => rfl, fun _ _ h => h⟩
theorem Fr.trans {w1 w2 w3 : World} {g1 g2 g3 : Gh} (a : Fr w1 w2 g1 g2) (b : Fr w2 w3 g2 g3) : Fr w1 w3 g1 g3 :=
  ⟨Nat.le_trans a.size b.size, b.os.trans a.os, b.tape.trans a.tape, b.out.trans a.out,
   fun i hi ho => (b.heap i (Nat.lt_of_lt_of_le hi a.size) (a.own i hi ho)).trans (a.heap i hi ho),
   fun i hi ho => (b.imm i (Nat.lt_of_lt_of_le hi a.size) (a.own i hi ho)).trans (a.imm i hi ho),
   fun i hi ho => b.own i (Nat.lt_of_lt_of_le hi a.size) (a.own i hi ho)⟩

theorem Sat.imm_lt {w : World} {g : Gh} {O : List Obj} (h : Sat w g O) {b : Nat} {ys : List Value} (hb : g.imm b = some ys) : b < w.heap.size := by
  obtain ⟨c, t, f, hh, _⟩ := h.imm b ys hb
  exact (Array.getElem?_eq_some_iff.1 hh).1

/-- An object is as it was, if its memory is. -/
theorem SatO.keep {w w' : World} {g g' : Gh} {k : Nat} (hl : g.le g') (hk : k < g.n) (hrow : g'.row k = g.row k)
    (hb : ∀ b, g.own b = some k → w'.heap[b]? = w.heap[b]? ∧ g'.own b = some k ∧ g'.imm b = g.imm b) : ∀ {o : Obj}, SatO w g k o → SatO w' g' k o
  | .cells cs, ⟨c, t, hh, ho, hi, hrw, hv⟩ => by
    obtain ⟨h1, h2, h3⟩ := hb _ ho
    exact ⟨c, t, by rw [hl.blk k hk, h1]; exact hh, by rw [hl.blk k hk]; exact h2, by rw [hl.blk k hk, h3]; exact hi, by rw [hrow, hrw], ValL_mono hl _ _ hv⟩
  | .row v st z xs, ⟨a, cap, hr, hm⟩ => by
    refine ⟨a, cap, by rw [hrow]; exact hr, hm.len, hm.elen, ?_⟩
    rcases hm.mem with h | ⟨b, off, c, t, us, ha, hh, hs, ho, hu, hd, hi⟩
    · exact .inl h
    · obtain ⟨h1, h2, h3⟩ := hb _ ho
      exact .inr ⟨b, off, c, t, us, ha, by rw [h1]; exact hh, hs, h2, hu, DList_mono hl.imm _ _ hd, by rw [h3]; exact hi⟩
  | .map _ _, h => h.elim
  | .dead, h => h.elim

theorem SatO.wk {w : World} {g : Gh} {k : Nat} {o o' : Obj} (h : WkO o o') (hs : SatO w g k o) : SatO w g k o' := by
  rcases h with rfl | h
  · exact hs
  · cases o with
    | cells cs =>
      cases o' with
      | cells ds =>
        obtain ⟨c, t, h1, h2, h3, h4, h5⟩ := hs
        exact ⟨c, t, h1, h2, h3, h4, h _ _ h5⟩
      | _ => exact h.elim
    | row v s z xs =>
      cases o' with
      | row v' s' z' ys =>
        obtain ⟨rfl, rfl, rfl, hr⟩ := h
        obtain ⟨a, cap, h1, h2⟩ := hs
        refine ⟨a, cap, by rw [← hr.len]; exact h1, by rw [← hr.len]; exact h2.len, hr.elen h2.elen, ?_⟩
        rcases h2.mem with h3 | ⟨b, off, c, t, us, k1, k2, k3, k4, k5, k6, k7⟩
        · exact .inl h3
        · exact .inr ⟨b, off, c, t, us, k1, k2, k3, k4, by rw [← hr.len]; exact k5, hr.flat _ _ k6, by rw [← hr.len]; exact k7⟩
      | _ => exact h.elim
    | map => exact hs.elim
    | dead => exact hs.elim

theorem WkOs.get : ∀ {l m : List Obj}, WkOs l m → ∀ (k : Nat) (o : Obj), m[k]? = some o → ∃ o', l[k]? = some o' ∧ WkO o' o
  | [], [], _, k, o, h => by simp at h
  | x :: xs, y :: ys, ⟨h1, h2⟩, 0, o, h => by simp at h; subst h; exact ⟨x, by simp, h1⟩
  | x :: xs, y :: ys, ⟨h1, h2⟩, k + 1, o, h => by
    obtain ⟨o', h3, h4⟩ := WkOs.get h2 k o (by simpa using h)
    exact ⟨o', by simpa using h3, h4⟩
  | [], _ :: _, h, _, _, _ => h.elim
  | _ :: _, [], h, _, _, _ => h.elim
theorem WkOs.len : ∀ {l m : List Obj}, WkOs l m → l.length = m.length
  | [], [], _ => Eq.refl _
  | _ :: _, _ :: _, ⟨_, h⟩ => by simp [WkOs.len h]
  | [], _ :: _, h => h.elim
  | _ :: _, [], h => h.elim
theorem Sat.wk {w : World} {g : Gh} {l m : List Obj} (h : WkOs l m) (hs : Sat w g l) : Sat w g m :=
  ⟨by rw [← h.len]; exact hs.n, hs.imm, fun k o hk => let ⟨o', h1, h2⟩ := h.get k o hk; SatO.wk h2 (hs.obj k o' h1), hs.own⟩
theorem WkO.vO {o o' : Obj} (h : WkO o o') : vO o = vO o' := by
  rcases h with rfl | h
  · exact Eq.refl _
  · cases o <;> cases o' <;> first | exact Eq.refl _ | exact h.1 | exact h.elim
end Ab
