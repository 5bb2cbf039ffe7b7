/- impl.ValRead: a tree in memory of its own. -/
import Derived.Test.YtnhjclenankhoaaDoorT4
import Derived.Test.YtnhjclenankhoaaDoorU2
set_option linter.all false
namespace Ab
open Go Go.Proofs
set_option maxRecDepth 10000
set_option maxHeartbeats 4000000
set_option linter.all false
open Go Go.Proofs Go.RowKit Go.Shelf

theorem vl_in {w : World} {lo hi : Nat} {v : Vl} {s : Value} (h : KAt w lo hi v.kids s) : Val (startG w) (aVl v) (.agg #[.int .i64 v.num, s]) :=
  ⟨[.int .i64 v.num, s], rfl, rfl, h.data, trivial⟩
theorem text_key {B : World} (hB : Tabs B) {v : Vl} {lo hi : Nat} {s : Value} (w : World) (hI : Below B.heap.size B w) (h : KAt w lo hi v.kids s) : Calls PG i_ValText #[.agg #[.int .i64 v.num, s]] w fun e w' => e = .returned (.string ⟨(valText v).toArray⟩) ∧ Below w.heap.size w w' := by
  refine (calls_at (Q := fun r O => r = .d (.s (valText v))) hI (v_i_ValText hB) (fun args w => enters_of g_i_ValText (by kernel_rfl) rfl args w) (args := [aVl v]) (us := [_]) ⟨vl_in h, trivial⟩ ⟨v, rfl, rfl, rfl⟩).mono ?_
  rintro e w' ⟨u, rfl, r, O', g', rfl, hv, _, hb⟩
  exact ⟨by rw [show u = _ from hv], hb⟩
/-- what comes of impl.ValRead -/
def Red2 (w w' : World) (e : Ending) : Option Vl → Prop
  | some v => ∃ s, e = .returned (.tuple #[.agg #[.int .i64 v.num, s], .bool true]) ∧ KAt w' w.heap.size w'.heap.size v.kids s
  | none => e = .returned (.tuple #[.agg #[.int .i64 0, .slice none 0 0], .bool false])
theorem bb {W w1 : World} (hb : Below W.heap.size W w1) (j : Nat) (h : j < W.heap.size) : w1.heap[j]? = W.heap[j]? := hb.block j h
theorem read2_key {B : World} (hB : Tabs B) (l : List UInt8) (w : World) (hl : l.length ≤ 2000000) (hI : Below B.heap.size B w) :
    Calls PG i_ValRead #[.string ⟨l.toArray⟩] w fun e w' => Red2 w w' e (valRead l) ∧ Below w.heap.size w w' := by
  obtain ⟨R, hR0⟩ : ∃ R, valRead l = R := ⟨_, rfl⟩
  rw [hR0]; unfold valRead at hR0
  have hR := Lib.hid hR0; clear hR0
  have ba : Below w.heap.size w (w.alloc (.cells #[.int .i64 0, .slice none 0 0] 30 (0, 0))) := (Below.refl _ w).alloc (Nat.le_refl _) _
  go_enter g_i_ValRead, Go.Proofs.Tryd.ntmps11
  go_wp2_with fail
  refine (read_key hB 3 l _ hl (by omega) (hI.trans (ba.mono hI.size))).mono ?_
  rintro e w2 ⟨he, b2⟩
  have b02 := ba.trans (b2.mono ba.size)
  have hsz := b2.size
  rw [show (w.alloc (.cells #[.int .i64 0, .slice none 0 0] 30 (0, 0))).heap.size = w.heap.size + 1 from by simp] at hsz
  obtain ⟨c0, c1, f0, f1⟩ := own_two (w2 := w2) b2
  have hlt : w.heap.size < w2.heap.size := by omega
  have hne : w.heap.size ≠ w2.heap.size := by omega
  have hne' : w2.heap.size ≠ w.heap.size := by omega
  cases hr : rdv 4 l with
  | none =>
    rw [hr] at he
    obtain ⟨n, r, rfl⟩ := he
    obtain rfl : none = R := by have h := hR.out; rw [hr] at h; exact h
    dsimp only
    clear hr hR
    go_wp2_with fail
    obtain ⟨k1, k2⟩ := set_al (.int .i64 0) (.slice none 0 0) (.cells #[.int .i64 n, .slice none 0 0] 30 (0, 0)) c0 c1 hlt
    refine bodyPost_ret (v := .tuple #[.agg #[.int .i64 0, .slice none 0 0], .bool false]) (by simp [results, Go.Proofs.Tryd.results11, go_sem, k1, k2]) rfl ?_
    exact ⟨rfl, ((b02.setCell (Nat.le_refl _) _).setCell (Nat.le_refl _) _).alloc (by simp [World.setCell]; omega) _⟩
  | some p =>
    obtain ⟨⟨na, ka⟩, r⟩ := p
    rw [hr] at he
    obtain ⟨s, rfl, hka⟩ := he
    obtain ⟨sa, sn, sc, rfl⟩ := hka.shape
    dsimp only [Vl.num, Vl.kids] at hka ⊢
    rcases r with _ | ⟨c, r⟩
    · go_wp2_with fail
      have b03 : Below w.heap.size w (w2.alloc (.cells #[.int .i64 na, .slice sa sn sc] 30 (0, 0))) := b02.alloc b02.size _
      have hka3 : KAt (w2.alloc (.cells #[.int .i64 na, .slice sa sn sc] 30 (0, 0))) (w.heap.size + 1) w2.heap.size (Vl.mk na ka).kids (.slice sa sn sc) :=
        (hka.keep (fun j _ a2 => Below.heap_alloc _ _ _ a2)).wide (by simp) (Nat.le_refl _)
      refine (text_key hB (v := .mk na ka) _ (hI.trans (b03.mono hI.size)) hka3).mono ?_
      rintro e w4 ⟨rfl, b4⟩
      obtain ⟨d0, d1, g0, g1⟩ := own_two (w2 := w4) b4
      have b34 : Below w2.heap.size w2 w4 := ((Below.refl _ w2).alloc (Nat.le_refl _) _).trans (b4.mono (by simp))
      have b04 := b02.trans (b34.mono b02.size)
      have c0 := ((bcell b34).1 w.heap.size 0 hlt).trans c0
      have c1 := ((bcell b34).1 w.heap.size 1 hlt).trans c1
      have f0 := ((bcell b34).2 w.heap.size 0 hlt).trans f0
      have f1 := ((bcell b34).2 w.heap.size 1 hlt).trans f1
      have hsz4 : w2.heap.size + 1 ≤ w4.heap.size := by have h := b4.size; simp at h; omega
      have hlt4 : w.heap.size < w4.heap.size := by omega
      have hka4 := hka3.keep (w' := w4) (fun j a1 a2 => (bb b4 j (by simp; omega)))
      by_cases ht : valText (.mk na ka) = l
      · obtain rfl : some (.mk na ka) = R := by have h := hR.out; rw [hr] at h; simpa [ht] using h
        rw [ht]
        clear hr hR ht
        go_wp2_with fail
        obtain ⟨k0, k1, k2⟩ := set_two (.int .i64 na) (.slice sa sn sc) c0 c1
        refine bodyPost_ret (v := .tuple #[.agg #[.int .i64 na, .slice sa sn sc], .bool true]) (by simp [results, Go.Proofs.Tryd.results11, go_sem, k0, k1, k2]) rfl ?_
        refine ⟨⟨_, rfl, (hka4.keep (fun j a1 a2 => ?_)).wide (by omega) (by simp [World.setCell]; omega)⟩, (b04.setCell (Nat.le_refl _) _).setCell (Nat.le_refl _) _⟩
        rw [Below.heap_setCell _ _ _ _ (by dsimp only; omega), Below.heap_setCell _ _ _ _ (by dsimp only; omega)]
      · obtain rfl : none = R := by have h := hR.out; rw [hr] at h; simpa [ht] using h
        have hx : (!valText (.mk na ka) == l) = true := by simpa using ht
        clear hr hR ht
        generalize valText (.mk na ka) = t at *
        go_wp2_with fail
        obtain ⟨k0, k1, k2⟩ := set_two (.int .i64 0) (.slice none 0 0) c0 c1
        refine bodyPost_ret (v := .tuple #[.agg #[.int .i64 0, .slice none 0 0], .bool false]) (by simp [results, Go.Proofs.Tryd.results11, go_sem, k0, k1, k2]) rfl ?_
        exact ⟨rfl, (b04.setCell (Nat.le_refl _) _).setCell (Nat.le_refl _) _⟩
    · obtain rfl : none = R := by have h := hR.out; rw [hr] at h; simpa using h
      clear hr hR
      go_wp2_with fail
      obtain ⟨k1, k2⟩ := set_al (.int .i64 0) (.slice none 0 0) (.cells #[.int .i64 na, .slice sa sn sc] 30 (0, 0)) c0 c1 hlt
      refine bodyPost_ret (v := .tuple #[.agg #[.int .i64 0, .slice none 0 0], .bool false]) (by simp [results, Go.Proofs.Tryd.results11, go_sem, k1, k2]) rfl ?_
      exact ⟨rfl, ((b02.setCell (Nat.le_refl _) _).setCell (Nat.le_refl _) _).alloc (by simp [World.setCell]; omega) _⟩
end Ab

/- The words of law 3, each at world level. -/
namespace Ab
open Go Go.Proofs
set_option maxRecDepth 10000
set_option maxHeartbeats 4000000
set_option linter.all false
open Go Go.Proofs Go.RowKit Go.Shelf

theorem rdv_sz : ∀ (d : Nat) (s : List UInt8) (v : Vl) (r : List UInt8), rdv d s = some (v, r) → szT v.kids + 2 ≤ 2 ^ d
  | 0, _, _, _, h => by simp [rdv] at h
  | d + 1, s, v, r, h => by
    have hp : 2 ≤ 2 ^ (d + 1) := by have := Nat.one_le_two_pow (n := d); omega
    cases hh : Lib.hasPrefix s [40] with
    | false =>
      unfold rdv at h
      rw [hh, cond_false] at h
      split at h
      · simp at h; obtain ⟨rfl, _⟩ := h; simpa [Vl.kids, szT_nil] using hp
      · cases h
    | true =>
      obtain ⟨m, rfl⟩ := hasPrefix_cons hh
      match d, hp, h with
      | 0, _, h => simp [rdv, Lib.hasPrefix, List.isPrefixOf] at h
      | d + 1, _, h =>
        rw [rdv_pair] at h
        cases ha : rdv (d + 1) m with
        | none => rw [ha] at h; cases h
        | some p =>
          obtain ⟨a, r1⟩ := p
          rw [ha] at h; dsimp only at h
          cases h1 : Lib.hasPrefix r1 [44] with
          | false => rw [h1] at h; cases h
          | true =>
            rw [h1, cond_true] at h
            cases hb : rdv (d + 1) (r1.drop 1) with
            | none => rw [hb] at h; cases h
            | some p =>
              obtain ⟨b, r2⟩ := p
              rw [hb] at h; dsimp only at h
              cases h2 : Lib.hasPrefix r2 [41] with
              | false => rw [h2] at h; cases h
              | true =>
                rw [h2, cond_true] at h
                simp only [Option.some.injEq, Prod.mk.injEq] at h
                obtain ⟨rfl, _⟩ := h
                have la := rdv_sz _ _ _ _ ha
                have lb := rdv_sz _ _ _ _ hb
                obtain ⟨na, ka⟩ := a
                obtain ⟨nb, kb⟩ := b
                simp only [Vl.kids, szT_cons, szT_nil] at la lb ⊢
                have e : 2 ^ (d + 1 + 1) = 2 ^ (d + 1) + 2 ^ (d + 1) := by rw [Nat.pow_succ]; omega
                omega
/-- what a text says, if it says a value; else naught -/
def rdV (l : List UInt8) : Vl := (valRead l).getD (.mk 0 [])
def rdO (l : List UInt8) : Bool := (valRead l).isSome
theorem rdV_sz (l : List UInt8) : szT (rdV l).kids ≤ 14 := by
  unfold rdV valRead
  cases h : rdv 4 l with
  | none => simp [Vl.kids, szT_nil]
  | some p =>
    obtain ⟨v, r⟩ := p
    have := rdv_sz _ _ _ _ h
    dsimp only
    split
    · simp; omega
    · simp [Vl.kids, szT_nil]
theorem impl_key {B : World} (hB : Tabs B) (l : List UInt8) (w : World) (hl : l.length ≤ 2000000) (hI : Below B.heap.size B w) :
    Calls PG i_ValRead #[.string ⟨l.toArray⟩] w fun e w' => ∃ s, e = .returned (.tuple #[.agg #[.int .i64 (rdV l).num, s], .bool (rdO l)]) ∧ KAt w' w.heap.size w'.heap.size (rdV l).kids s ∧ Below w.heap.size w w' := by
  refine (read2_key hB l w hl hI).mono ?_
  rintro e w' ⟨h, hb⟩
  unfold rdV rdO
  cases hv : valRead l with
  | none => rw [hv] at h; exact ⟨_, h, .nil, hb⟩
  | some v => rw [hv] at h; obtain ⟨s, h1, h2⟩ := h; exact ⟨s, h1, h2, hb⟩
theorem spec_key {B : World} (l : List UInt8) (w : World) (hl : l.length ≤ 2000000) (hI : Below B.heap.size B w) :
    Calls PG s_ValRead #[.string ⟨l.toArray⟩] w fun e w' => ∃ s, e = .returned (.tuple #[.agg #[.int .i64 (rdV l).num, s], .bool (rdO l)]) ∧ DVal (startG w').imm (.sl 2 ((rdV l).kids.map dVl)) s ∧ (∃ a n c, s = .slice a n c) ∧ Below w.heap.size w w' := by
  refine (calls_at (Q := fun r O => r = .tup [aVl (rdV l), bv (rdO l)]) hI v_s_ValRead (fun args w => enters_of g_s_ValRead (by kernel_rfl) rfl args w) (args := [.d (.s l)]) (us := [_]) ⟨rfl, trivial⟩
    ⟨l, by omega, rfl, rfl, fun v hv => by simp [rdV, rdO, hv], fun hv => by simp [rdV, rdO, hv]⟩).mono ?_
  rintro e w' ⟨u, rfl, r, O', g', rfl, hv, hg, hb⟩
  obtain ⟨us, rfl, hv⟩ := hv
  match us, hv with
  | [u1, u2], ⟨⟨vs, h1, h2⟩, h3, _⟩ =>
    match vs, h2 with
    | [x1, x2], ⟨h4, h5, _⟩ =>
      subst h1
      refine ⟨x2, by rw [show u2 = .bool (rdO l) from h3, show x1 = .int .i64 (rdV l).num from h4], DVal_mono hg _ _ h5, ?_, hb⟩
      obtain ⟨a, c, h6, _⟩ := h5
      exact ⟨_, _, _, h6⟩
theorem eq_key {B : World} {v : Vl} {s s0 : Value} (w : World) (hI : Below B.heap.size B w) (hs : szT v.kids ≤ 14) (h : DVal (startG w).imm (.sl 2 (v.kids.map dVl)) s) (h0 : DVal (startG w).imm (.sl 2 (v.kids.map dVl)) s0) :
    Calls PG l_eqVal #[.agg #[.int .i64 v.num, s], .agg #[.int .i64 v.num, s0]] w fun e w' => e = .returned (.bool true) ∧ Below w.heap.size w w' := by
  refine (calls_at (Q := fun r O => r = bv true) hI (eq_pair 15).1 (fun args w => enters_of g_l_eqVal (by kernel_rfl) rfl args w) (args := [aVl v, aVl v]) (us := [_, _])
    ⟨⟨[.int .i64 v.num, s], rfl, rfl, h, trivial⟩, ⟨[.int .i64 v.num, s0], rfl, rfl, h0, trivial⟩, trivial⟩ ⟨v, by omega, by omega, rfl, rfl, rfl⟩).mono ?_
  rintro e w' ⟨u, rfl, r, O', g', rfl, hv, _, hb⟩
  exact ⟨by rw [show u = .bool true from hv], hb⟩
theorem held_key {B : World} {n : Int} {kids : List Vl} {s : Value} {lo hi : Nat} (w : World) (hI : Below B.heap.size B w) (hs : szT kids ≤ 14) (h : KAt w lo hi kids s) (hM : MkT kids 1) :
    Calls PG l_heldVal #[.agg #[.int .i64 n, s], .int .i64 1] w fun e w' => e = .returned (.int .i64 (1 + szT kids)) ∧ Below w.heap.size w w' := by
  refine (calls_at (Q := fun r O => r = iv (1 + szT kids)) hI v_l_heldVal (fun args w => enters_of g_l_heldVal (by kernel_rfl) rfl args w) (args := [aVl (.mk n kids), iv 1]) (us := [_, _])
    ⟨vl_in (v := .mk n kids) h, rfl, trivial⟩ ⟨.mk n kids, 1, by simp only [Vl.kids]; omega, by omega, by omega, hM, rfl, rfl, rfl⟩).mono ?_
  rintro e w' ⟨u, rfl, r, O', g', rfl, hv, _, hb⟩
  exact ⟨by rw [show u = .int .i64 (1 + szT kids) from hv], hb⟩
theorem mark2_key {n : Int} {kids : List Vl} {s : Value} {lo hi : Nat} (w : World) (hs : szT kids ≤ 14) (h : KAt w lo hi kids s) (hhi : hi ≤ w.heap.size) :
    Calls PG l_markVal #[.agg #[.int .i64 n, s], .int .i64 1] w fun e w' => e = .returned (.int .i64 (1 + szT kids)) ∧ KAt w' lo hi (markT kids 1).1 s ∧ Kp (fun j => lo ≤ j ∧ j < hi) w w' := by
  obtain ⟨sa, sn, sc, rfl⟩ := h.shape
  have hk := len_szT kids
  have hn := markT_num kids 1
  have h1 := h.keep (w' := w.alloc (.cells #[.int .i64 n, .slice sa sn sc] 30 (0, 0))) (fun j _ a2 => Below.heap_alloc _ _ _ (by omega))
  have hk1 := Kp.alloc (fun j => lo ≤ j ∧ j < hi) w (.cells #[.int .i64 n, .slice sa sn sc] 30 (0, 0))
  have hN := Lib.hid hn; clear hn
  go_enter g_l_markVal, Go.Proofs.Tryd.ntmps19
  go_wp2_with (go_at_call 37; refine (mark_key 14 kids lo hi _ 1 _ hs h1 (by omega) (by omega) (by omega)).mono ?_)
  rintro e w2 ⟨rfl, q1, q2⟩
  rw [hN.out]
  go_wp2_with fail
  go_ret
  exact ⟨rfl, q1, hk1.trans q2⟩
end Ab

/- Law 3: ValRead, exactly. -/
namespace Ab
open Go Go.Proofs
set_option maxRecDepth 10000
set_option maxHeartbeats 4000000
set_option linter.all false
open Go Go.Proofs Go.RowKit Go.Shelf

theorem clB {n : Nat} {w w' : World} (hb : Below n w w') {b o : Nat} {v : Value} (h : b < n) (c : w.cell? ⟨b, o, none⟩ = some v) : w'.cell? ⟨b, o, none⟩ = some v := (hb.cell (p := ⟨b, o, none⟩) h).trans c
theorem clK {S : Nat → Prop} {w w' : World} (hb : Kp S w w') {b o : Nat} {v : Value} (h : b < w.heap.size) (hn : ¬ S b) (c : w.cell? ⟨b, o, none⟩ = some v) : w'.cell? ⟨b, o, none⟩ = some v :=
  (World.cell?_of_block (w := w) (hb.block b h hn)).trans c
theorem bel {w w' : World} {o : Go.Obj} (h : Below (w.alloc o).heap.size (w.alloc o) w') : Below w.heap.size w w' := ((Below.refl _ w).alloc (Nat.le_refl _) _).trans (h.mono (by simp))
theorem exact_long (l : List UInt8) (w : World) (hl : 1048576 < l.length) :
    Calls PG l_FnExactValRead #[.string ⟨l.toArray⟩] w fun e w' => e = .returned (.bool true) ∧ Below w.heap.size w w' := by
  go_enter g_l_FnExactValRead, Go.Proofs.Tryd.ntmps5
  go_wp2_with fail
  go_ret
  exact ⟨rfl, Below.refl _ _⟩
theorem exact_key {B : World} (hB : Tabs B) (l : List UInt8) (w : World) (hl : l.length ≤ 1048576) (hI : Below B.heap.size B w) :
    Calls PG l_FnExactValRead #[.string ⟨l.toArray⟩] w fun e w' => e = .returned (.bool true) ∧ Below w.heap.size w w' := by
  have hsz := rdV_sz l
  go_enter g_l_FnExactValRead, Go.Proofs.Tryd.ntmps5
  go_wp2_with fail
  refine (spec_key l _ (by omega) hI).mono ?_
  generalize hv : rdV l = v at *
  have hv' := Lib.hid hv; clear hv
  generalize ho : rdO l = o at *
  have ho' := Lib.hid ho; clear ho
  obtain ⟨n, kids⟩ := v
  dsimp only [Vl.num, Vl.kids] at hsz ⊢
  rintro e w1 ⟨s0, rfl, hd0, ⟨a0, n0, k0, rfl⟩, b1⟩
  have hI1 : Below B.heap.size B w1 := hI.trans (b1.mono hI.size)
  go_wp2_with fail
  have hi1 := impl_key hB l (w1.alloc (.cells #[.int .i64 n, .slice a0 n0 k0] 30 (0, 0))) (by omega) (hI1.alloc hI1.size _)
  rw [hv'.out, ho'.out] at hi1
  dsimp only [Vl.num, Vl.kids] at hi1
  refine hi1.mono ?_
  clear hi1
  rintro e w2 ⟨s, rfl, hk, b2⟩
  obtain ⟨a1, n1, k1, rfl⟩ := hk.shape
  have hk : KAt w2 (w1.heap.size + 1) w2.heap.size kids (.slice a1 n1 k1) := hk.wide (by simp) (Nat.le_refl _)
  obtain ⟨c0, c1, -, -⟩ := own_two (w2 := w2) b2
  have s12 : w1.heap.size + 1 ≤ w2.heap.size := by have h := b2.size; simp at h; omega
  have b12 : Below w1.heap.size w1 w2 := bel b2
  have hI2 : Below B.heap.size B w2 := hI1.trans (b12.mono hI1.size)
  have hlt : w1.heap.size < w2.heap.size := by omega
  have hne : w1.heap.size ≠ w2.heap.size := by omega
  have hne' : w2.heap.size ≠ w1.heap.size := by omega
  go_wp2_with fail
  have bx : Below w1.heap.size w1 (w2.alloc (.cells #[.int .i64 n, .slice a1 n1 k1] 30 (0, 0))) := b12.alloc b12.size _
  refine (eq_key (v := .mk n kids) _ (hI2.alloc hI2.size _) hsz (hk.keep (fun j _ a2 => Below.heap_alloc _ _ _ a2)).data (DVal_mono (start_below bx) _ _ hd0)).mono ?_
  rintro e w3 ⟨rfl, b3⟩
  obtain ⟨d0, d1, -, -⟩ := own_two (w2 := w3) b3
  have b23 : Below w2.heap.size w2 w3 := bel b3
  have c0 := clB b23 hlt c0
  have c1 := clB b23 hlt c1
  have hk := hk.keep (w' := w3) (fun j _ a2 => b23.block j a2)
  have s23 : w2.heap.size + 1 ≤ w3.heap.size := by have h := b3.size; simp at h; omega
  have b13 := b12.trans (b23.mono b12.size)
  have hI3 : Below B.heap.size B w3 := hI2.trans (b23.mono hI2.size)
  go_wp2_with fail
  -- its numbers are others
  refine (mark2_key w3 hsz hk (by omega)).mono ?_
  rintro e w4 ⟨rfl, hk4, q4⟩
  have b34 : Below (w1.heap.size + 1) w3 w4 := q4.below (fun j hj => hj.1) (by omega)
  have c0 := clB b34 (Nat.lt_succ_self _) c0
  have c1 := clB b34 (Nat.lt_succ_self _) c1
  have d0 := clK q4 (by omega) (by omega) d0
  have d1 := clK q4 (by omega) (by omega) d1
  have s34 := b34.size
  have b14 := b13.trans (b34.mono (Nat.le_succ _))
  have hI4 : Below B.heap.size B w4 := hI3.trans (b34.mono (by have := hI1.size; omega))
  have hM := markT_mk kids 1
  have hZ := markT_sz kids 1
  generalize (markT kids 1).1 = ks at hk4 hM hZ
  have hZ' := Lib.hid hZ; clear hZ
  have hz : szT ks ≤ 14 := by rw [hZ'.out]; exact hsz
  have m0 : (0 : Int) ≤ 1 + szT kids := by omega
  generalize hm : (1 : Int) + szT kids = m at *
  have hm' := Lib.hid hm; clear hm
  clear hk q4
  go_wp2_with fail
  refine (held_key w4 hI4 hz hk4 hM).mono ?_
  rintro e w5 ⟨rfl, b5⟩
  rw [hZ'.out, hm'.out]
  have c0 := clB b5 (by omega) c0
  have c1 := clB b5 (by omega) c1
  have d0 := clB b5 (by omega) d0
  have d1 := clB b5 (by omega) d1
  have s45 := b5.size
  have b15 := b14.trans (b5.mono b14.size)
  have hI5 : Below B.heap.size B w5 := hI4.trans (b5.mono hI4.size)
  go_wp2_with fail
  -- what is read again stands apart
  have hi2 := impl_key hB l w5 (by omega) hI5
  rw [hv'.out, ho'.out] at hi2
  dsimp only [Vl.num, Vl.kids] at hi2
  refine hi2.mono ?_
  clear hi2
  rintro e w6 ⟨s, rfl, hk6, b6⟩
  obtain ⟨a2, n2, k2, rfl⟩ := hk6.shape
  have c0 := clB b6 (by omega) c0
  have c1 := clB b6 (by omega) c1
  have d0 := clB b6 (by omega) d0
  have d1 := clB b6 (by omega) d1
  have s56 := b6.size
  have b16 := b15.trans (b6.mono b15.size)
  have hI6 : Below B.heap.size B w6 := hI5.trans (b6.mono hI5.size)
  have l1 : w1.heap.size < w6.heap.size := by omega
  have l2 : w2.heap.size < w6.heap.size := by omega
  have e1 : w1.heap.size ≠ w6.heap.size := by omega
  have e2 : w2.heap.size ≠ w6.heap.size := by omega
  have e1' : w6.heap.size ≠ w1.heap.size := by omega
  have e2' : w6.heap.size ≠ w2.heap.size := by omega
  go_wp2_with fail
  have by6 : Below w1.heap.size w1 (w6.alloc (.cells #[.int .i64 n, .slice a2 n2 k2] 30 (0, 0))) := b16.alloc b16.size _
  refine (eq_key (v := .mk n kids) _ (hI6.alloc hI6.size _) hsz (hk6.keep (fun j _ a2 => Below.heap_alloc _ _ _ a2)).data (DVal_mono (start_below by6) _ _ hd0)).mono ?_
  rintro e w7 ⟨rfl, b7⟩
  have b67 : Below w6.heap.size w6 w7 := bel b7
  have d0 := clB b67 (by omega) d0
  have d1 := clB b67 (by omega) d1
  have s67 := b67.size
  have b17 := b16.trans (b67.mono b16.size)
  have hI7 : Below B.heap.size B w7 := hI6.trans (b67.mono hI6.size)
  have hk7 := hk4.keep (w' := w7) (fun j _ a2 => (b67.block j (by omega)).trans ((b6.block j (by omega)).trans (b5.block j (by omega))))
  go_wp2_with fail
  refine (held_key w7 hI7 hz hk7 hM).mono ?_
  rintro e w8 ⟨rfl, b8⟩
  rw [hZ'.out, hm'.out]
  have b18 := b17.trans (b8.mono b17.size)
  go_wp2_with fail
  go_ret
  exact ⟨rfl, b1.trans (b18.mono b1.size)⟩
/-- LAW 3 -/
theorem law3 {B : World} (hB : Tabs B) (s : ByteArray) : Calls PG l_FnExactValRead #[.string s] B fun e w' => e = .returned (.bool true) ∧ Below B.heap.size B w' := by
  have e : s = ⟨s.data.toList.toArray⟩ := by simp
  rw [e]
  by_cases h : s.data.toList.length ≤ 1048576
  · exact exact_key hB _ _ h (Below.refl _ _)
  · exact exact_long _ _ (by omega)
end Ab
