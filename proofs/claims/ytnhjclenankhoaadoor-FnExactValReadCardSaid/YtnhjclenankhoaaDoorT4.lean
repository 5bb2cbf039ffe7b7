/- Reading a value: the tree that is read stands in memory of its own. -/
import Derived.Test.YtnhjclenankhoaaDoorT3
import Derived.Test.YtnhjclenankhoaaDoorFrS
import Derived.WalkKit
set_option linter.all false
namespace Ab
open Go Go.Proofs
set_option maxRecDepth 10000
set_option maxHeartbeats 4000000
set_option linter.all false
open Go Go.Proofs Go.RowKit Go.Shelf

/-- what comes of reading -/
def Red (w w' : World) (e : Ending) : Option (Vl × List UInt8) → Prop
  | some (v, r) => ∃ s, e = .returned (.tuple #[.agg #[.int .i64 v.num, s], .string ⟨r.toArray⟩, .bool true]) ∧ KAt w' w.heap.size w'.heap.size v.kids s
  | none => ∃ (n : Int) (r : ByteArray), e = .returned (.tuple #[.agg #[.int .i64 n, .slice none 0 0], .string r, .bool false])
theorem cut_key (l : List UInt8) (w : World) : Calls PG x_strings_CutPrefix #[.string ⟨l.toArray⟩, .string ⟨#[40]⟩] w fun e w' => e = .returned (.tuple #[.string ⟨(Lib.trimPrefix l [40]).toArray⟩, .bool (Lib.hasPrefix l [40])]) ∧ w' = w :=
  Tryd.strings_CutPrefix ⟨l.toArray⟩ ⟨#[40]⟩ w
theorem has_key (l : List UInt8) (c : UInt8) (w : World) : Calls PG x_strings_HasPrefix #[.string ⟨l.toArray⟩, .string ⟨#[c]⟩] w fun e w' => e = .returned (.bool (Lib.hasPrefix l [c])) ∧ w' = w :=
  Tryd.strings_HasPrefix ⟨l.toArray⟩ ⟨#[c]⟩ w
theorem trim_key {B : World} (l : List UInt8) (w : World) (hI : Below B.heap.size B w) : Calls PG x_strings_TrimLeft #[.string ⟨l.toArray⟩, .string ⟨#[48, 49, 50, 51, 52, 53, 54, 55, 56, 57]⟩] w fun e w' => e = .returned (.string ⟨(Lib.trimLeftS l digits).toArray⟩) ∧ Below w.heap.size w w' := by
  refine (calls_at (Q := fun r O => r = .d (.s (Lib.trimLeftS l digits))) hI v_x_strings_TrimLeft (fun args w => enters_of g_x_strings_TrimLeft (by kernel_rfl) rfl args w) (args := [.d (.s l), .d (.s digits)]) (us := [_, _]) ⟨rfl, rfl, trivial⟩ ⟨l, digits, by decide, by decide, rfl, rfl⟩).mono ?_
  rintro e w' ⟨u, rfl, r, O', g', rfl, hv, _, hb⟩
  exact ⟨by rw [show u = _ from hv], hb⟩
theorem atoi_key {B : World} (hB : Tabs B) (l : List UInt8) (hl : l.length ≤ 100000000) (w : World) (hI : Below B.heap.size B w) : Calls PG x_strconv_Atoi #[.string ⟨l.toArray⟩] w fun e w' =>
    ((∃ v, Lib.atoiAll l = .ok v ∧ e = .returned (.tuple #[.int .i64 v, .nilIface])) ∨ ((∀ v, Lib.atoiAll l ≠ .ok v) ∧ ∃ n t x, e = .returned (.tuple #[.int .i64 n, .iface t x]))) ∧ Below w.heap.size w w' := by
  refine (calls_at (Q := fun r O => (∃ v, Lib.atoiAll l = .ok v ∧ r = .tup [iv v, .d (.v .nilIface)]) ∨ ((∀ v, Lib.atoiAll l ≠ .ok v) ∧ ∃ n t x, r = .tup [iv n, .d (.v (.iface t x))])) hI (v_x_strconv_Atoi hB) (fun args w => enters_of g_x_strconv_Atoi (by kernel_rfl) rfl args w)
    (args := [.d (.s l)]) (us := [_]) ⟨rfl, trivial⟩ ⟨l, by omega, rfl, fun v hv => .inl ⟨v, hv, rfl⟩, fun hv n t x => .inr ⟨hv, n, t, x, rfl⟩⟩).mono ?_
  rintro e w' ⟨u, rfl, r, O', g', hq, hv, _, hb⟩
  refine ⟨?_, hb⟩
  rcases hq with ⟨v, h1, rfl⟩ | ⟨h1, n, t, x, rfl⟩
  · obtain ⟨us, rfl, hv⟩ := hv
    match us, hv with
    | [u1, u2], ⟨h2, h3, _⟩ => exact .inl ⟨v, h1, by rw [show u1 = .int .i64 v from h2, show u2 = .nilIface from h3.1]⟩
  · obtain ⟨us, rfl, hv⟩ := hv
    match us, hv with
    | [u1, u2], ⟨h2, h3, _⟩ => exact .inr ⟨h1, n, t, x, by rw [show u1 = .int .i64 n from h2, show u2 = .iface t x from h3.1]⟩
theorem bcell {W w1 : World} (hb : Below W.heap.size W w1) : (∀ b o, b < W.heap.size → w1.cell? ⟨b, o, none⟩ = W.cell? ⟨b, o, none⟩) ∧ (∀ b o, b < W.heap.size → w1.frozen? ⟨b, o, none⟩ = W.frozen? ⟨b, o, none⟩) :=
  ⟨fun b o h => hb.cell (p := ⟨b, o, none⟩) h, fun b o h => hb.frozen (p := ⟨b, o, none⟩) h⟩
theorem trim_le (l s : List UInt8) : (Lib.trimLeftS l s).length ≤ l.length := by
  unfold Lib.trimLeftS; exact (List.dropWhile_sublist _).length_le
theorem ex_take (l : List UInt8) (n : Nat) : (⟨l.toArray⟩ : ByteArray).extract 0 n = ⟨(l.take n).toArray⟩ := by
  apply ByteArray.ext
  rw [ByteArray.data_extract]
  simp [List.extract_eq_take_drop]
theorem ex_drop (l : List UInt8) (n : Nat) (h : n = l.length) : (⟨l.toArray⟩ : ByteArray).extract 1 n = ⟨(l.drop 1).toArray⟩ := by
  subst h
  apply ByteArray.ext
  rw [ByteArray.data_extract]
  simp [List.extract_eq_take_drop]
  rw [List.take_of_length_le (by simp)]
theorem al_cell (w : World) (cs : Array Value) (t : TypeId) (j : Nat) : (w.alloc (.cells cs t (0, 0))).cell? ⟨w.heap.size, j, none⟩ = cs[j]? := by
  have h : (w.alloc (.cells cs t (0, 0))).heap[w.heap.size]? = some (.cells cs t (0, 0)) := by show (w.heap.push _)[_]? = _; simp
  simp only [World.cell?, h]; rfl
theorem al_froz (w : World) (cs : Array Value) (t : TypeId) (j : Nat) : (w.alloc (.cells cs t (0, 0))).frozen? ⟨w.heap.size, j, none⟩ = false := by
  have h : (w.alloc (.cells cs t (0, 0))).heap[w.heap.size]? = some (.cells cs t (0, 0)) := by show (w.heap.push _)[_]? = _; simp
  simp only [World.frozen?, h]; simp
/-- a struct that the call made -/
theorem own_two {w w1 w2 : World} {a b : Value} {t : TypeId} (h : Below (w.alloc (.cells #[a, b] t (0, 0))).heap.size (w.alloc (.cells #[a, b] t (0, 0))) w1) :
    w1.cell? ⟨w.heap.size, 0, none⟩ = some a ∧ w1.cell? ⟨w.heap.size, 1, none⟩ = some b ∧ w1.frozen? ⟨w.heap.size, 0, none⟩ = false ∧ w1.frozen? ⟨w.heap.size, 1, none⟩ = false := by
  have hs : w.heap.size < (w.alloc (.cells #[a, b] t (0, 0))).heap.size := by simp
  refine ⟨?_, ?_, ?_, ?_⟩
  · rw [(bcell h).1 _ _ hs, al_cell]; rfl
  · rw [(bcell h).1 _ _ hs, al_cell]; rfl
  · rw [(bcell h).2 _ _ hs, al_froz]
  · rw [(bcell h).2 _ _ hs, al_froz]
theorem set_two {w : World} {b : Nat} {p q : Value} (x y : Value) (c0 : w.cell? ⟨b, 0, none⟩ = some p) (c1 : w.cell? ⟨b, 1, none⟩ = some q) :
    (w.setCell ⟨b, 0, none⟩ x).cell? ⟨b, 0, none⟩ = some x ∧ ((w.setCell ⟨b, 0, none⟩ x).setCell ⟨b, 1, none⟩ y).cell? ⟨b, 0, none⟩ = some x ∧ ((w.setCell ⟨b, 0, none⟩ x).setCell ⟨b, 1, none⟩ y).cell? ⟨b, 1, none⟩ = some y := by
  have h0 := World.cell?_setCell_same' w ⟨b, 0, none⟩ x (by rw [c0]; rfl)
  have hne : (⟨b, 0, none⟩ : Addr) ≠ ⟨b, 1, none⟩ := by simp
  refine ⟨h0, ?_, World.cell?_setCell_same' _ _ _ ?_⟩
  · rw [World.cell?_setCell_other _ _ _ _ hne.symm]; exact h0
  · rw [World.cell?_setCell_other _ _ _ _ hne, c1]; rfl
theorem set_al {w : World} {b : Nat} {p q : Value} (x y : Value) (o : Go.Obj) (c0 : w.cell? ⟨b, 0, none⟩ = some p) (c1 : w.cell? ⟨b, 1, none⟩ = some q) (hb : b < w.heap.size) :
    (((w.setCell ⟨b, 0, none⟩ x).setCell ⟨b, 1, none⟩ y).alloc o).cell? ⟨b, 0, none⟩ = some x ∧ (((w.setCell ⟨b, 0, none⟩ x).setCell ⟨b, 1, none⟩ y).alloc o).cell? ⟨b, 1, none⟩ = some y := by
  obtain ⟨_, k1, k2⟩ := set_two x y c0 c1
  have h : b < ((w.setCell ⟨b, 0, none⟩ x).setCell ⟨b, 1, none⟩ y).heap.size := by simpa [World.setCell] using hb
  exact ⟨by rw [World.cell?_alloc_lt _ _ _ h]; exact k1, by rw [World.cell?_alloc_lt _ _ _ h]; exact k2⟩
theorem set_al2 {w : World} {b : Nat} {p q : Value} (x y : Value) (o o' : Go.Obj) (c0 : w.cell? ⟨b, 0, none⟩ = some p) (c1 : w.cell? ⟨b, 1, none⟩ = some q) (hb : b < w.heap.size) :
    ((((w.setCell ⟨b, 0, none⟩ x).setCell ⟨b, 1, none⟩ y).alloc o).alloc o').cell? ⟨b, 0, none⟩ = some x ∧ ((((w.setCell ⟨b, 0, none⟩ x).setCell ⟨b, 1, none⟩ y).alloc o).alloc o').cell? ⟨b, 1, none⟩ = some y := by
  obtain ⟨k1, k2⟩ := set_al x y o c0 c1 hb
  have h : b < (((w.setCell ⟨b, 0, none⟩ x).setCell ⟨b, 1, none⟩ y).alloc o).heap.size := by simp [World.setCell]; omega
  exact ⟨by rw [World.cell?_alloc_lt _ _ _ h]; exact k1, by rw [World.cell?_alloc_lt _ _ _ h]; exact k2⟩
theorem two_al (w : World) (o o' : Go.Obj) : ((w.alloc o).alloc o').heap[w.heap.size + 1]? = some o' := by
  show ((w.heap.push o).push o')[w.heap.size + 1]? = some o'
  have e : w.heap.size + 1 = (w.heap.push o).size := by simp
  rw [e, Array.getElem?_push_size]
theorem read_num {B : World} (hB : Tabs B) (d : Nat) (l : List UInt8) (w : World) (hl : l.length ≤ 2000000) (hd : d ≤ 9) (hI : Below B.heap.size B w) (hp : Lib.hasPrefix l [40] = false) :
    Calls PG i_valRead #[.string ⟨l.toArray⟩, .int .i64 (d + 1 : Nat)] w fun e w' => Red w w' e (rdv (d + 1) l) ∧ Below w.heap.size w w' := by
  have ht := trim_le l digits
  go_enter g_i_valRead, Go.Proofs.Tryd.ntmps26
  go_wp2_with (go_at_call 41; refine (cut_key l _).mono ?_; rintro e w' ⟨rfl, rfl⟩)
  refine (trim_key l _ (hI.trans ((Below.refl _ w).alloc hI.size _))).mono ?_
  rintro e w1 ⟨rfl, b1⟩
  go_wp2_with fail
  rw [ex_take]
  have b0 : Below w.heap.size w w1 := ((Below.refl _ w).alloc (Nat.le_refl _) _).trans (b1.mono (by simp))
  refine (atoi_key hB (l.take (l.length - (Lib.trimLeftS l digits).length)) (by rw [List.length_take]; omega) _ (hI.trans (b0.mono hI.size))).mono ?_
  rintro e w2 ⟨he, b2⟩
  obtain ⟨c0, c1, f0, f1⟩ := own_two (w2 := w2) (b1.trans (b2.mono b1.size))
  rcases he with ⟨v, h1, rfl⟩ | ⟨h1, n, t, x, rfl⟩
  · go_wp2_with fail
    go_region
    go_wp2_with fail
    obtain ⟨k0, k1, k2⟩ := set_two (.int .i64 v) (.slice none 0 0) c0 c1
    refine bodyPost_ret (v := .tuple #[.agg #[.int .i64 v, .slice none 0 0], .string ⟨(Lib.trimLeftS l digits).toArray⟩, .bool true]) (by simp [results, Go.Proofs.Tryd.results26, go_sem, k0, k1, k2]) rfl ?_
    refine ⟨?_, ((((b0.trans (b2.mono b0.size)).setCell (Nat.le_refl _) _).setCell (Nat.le_refl _) _).drew)⟩
    have hr : rdv (d + 1) l = some (.mk v [], Lib.trimLeftS l digits) := by simp [rdv, hp, h1]
    rw [hr]
    exact ⟨_, rfl, .nil⟩
  · go_wp2_with fail
    go_region
    go_wp2_with fail
    obtain ⟨k0, k1, k2⟩ := set_two (.int .i64 n) (.slice none 0 0) c0 c1
    refine bodyPost_ret (v := .tuple #[.agg #[.int .i64 n, .slice none 0 0], .string ⟨(Lib.trimLeftS l digits).toArray⟩, .bool false]) (by simp [results, Go.Proofs.Tryd.results26, go_sem, k0, k1, k2]) rfl ?_
    refine ⟨?_, ((((b0.trans (b2.mono b0.size)).setCell (Nat.le_refl _) _).setCell (Nat.le_refl _) _).drew)⟩
    have hr : rdv (d + 1) l = none := by
      unfold rdv
      rw [hp, cond_false]
      split
      · rename_i v hv; exact absurd hv (h1 v)
      · rfl
    rw [hr]
    exact ⟨_, _, rfl⟩
theorem cut_yes (m : List UInt8) (w : World) : Calls PG x_strings_CutPrefix #[.string ⟨(40 :: m).toArray⟩, .string ⟨#[40]⟩] w fun e w' => e = .returned (.tuple #[.string ⟨m.toArray⟩, .bool true]) ∧ w = w' :=
  (cut_key (40 :: m) w).mono fun e w' ⟨h1, h2⟩ => ⟨by rw [h1]; simp [Lib.trimPrefix, Lib.hasPrefix, List.isPrefixOf], h2.symm⟩
theorem has_is {l : List UInt8} {c : UInt8} {b : Bool} (h : Lib.hasPrefix l [c] = b) (w : World) : Calls PG x_strings_HasPrefix #[.string ⟨l.toArray⟩, .string ⟨#[c]⟩] w fun e w' => e = .returned (.bool b) ∧ w = w' :=
  (has_key l c w).mono fun e w' ⟨h1, h2⟩ => ⟨by rw [h1, h], h2.symm⟩
theorem rdv_pair (d : Nat) (m : List UInt8) : rdv (d + 2) (40 :: m) = (match rdv (d + 1) m with
        | some (a, r) => bif Lib.hasPrefix r [44] then (match rdv (d + 1) (r.drop 1) with
            | some (b, r2) => bif Lib.hasPrefix r2 [41] then some (.mk 0 [a, b], r2.drop 1) else none
            | none => none) else none
        | none => none) := by
  have hp : Lib.hasPrefix (40 :: m) [40] = true := by simp [Lib.hasPrefix, List.isPrefixOf]
  conv => lhs; unfold rdv
  rw [hp, cond_true, if_neg (by omega)]
  rfl
theorem read_base (m : List UInt8) (w : World) (hl : m.length ≤ 2000000) :
    Calls PG i_valRead #[.string ⟨(40 :: m).toArray⟩, .int .i64 1] w fun e w' => Red w w' e (rdv 1 (40 :: m)) ∧ Below w.heap.size w w' := by
  have hr : rdv 1 (40 :: m) = none := by simp [rdv, Lib.hasPrefix, List.isPrefixOf]
  rw [hr]; clear hr
  go_enter g_i_valRead, Go.Proofs.Tryd.ntmps26
  go_wp2_with (go_at_call 41; refine (cut_yes m _).mono ?_; rintro e w' ⟨rfl, rfl⟩)
  refine bodyPost_ret (v := .tuple #[.agg #[.int .i64 0, .slice none 0 0], .string ⟨#[]⟩, .bool false]) (by simp [results, Go.Proofs.Tryd.results26, go_sem, al_cell]) rfl ?_
  exact ⟨⟨_, _, rfl⟩, (Below.refl _ w).alloc (Nat.le_refl _) _⟩
theorem KAt.shape {w : World} {lo hi : Nat} {ks : List Vl} {s : Value} (h : KAt w lo hi ks s) : ∃ a n c, s = .slice a n c := by
  cases h with
  | nil => exact ⟨_, _, _, rfl⟩
  | row => exact ⟨_, _, _, rfl⟩
theorem read_pair {B : World} {d : Nat} (ih : ∀ (l : List UInt8) (w : World), l.length ≤ 2000000 → Below B.heap.size B w →
      Calls PG i_valRead #[.string ⟨l.toArray⟩, .int .i64 (d + 1 : Nat)] w fun e w' => Red w w' e (rdv (d + 1) l) ∧ Below w.heap.size w w')
    (m : List UInt8) (w : World) (hl : m.length ≤ 1999999) (hd : d ≤ 8) (hI : Below B.heap.size B w) :
    Calls PG i_valRead #[.string ⟨(40 :: m).toArray⟩, .int .i64 (d + 2 : Nat)] w fun e w' => Red w w' e (rdv (d + 2) (40 :: m)) ∧ Below w.heap.size w w' := by
  obtain ⟨R, hR0⟩ : ∃ R, rdv (d + 2) (40 :: m) = R := ⟨_, rfl⟩
  rw [hR0]; rw [rdv_pair] at hR0
  have hR := Lib.hid hR0; clear hR0
  go_enter g_i_valRead, Go.Proofs.Tryd.ntmps26
  go_wp2_with (go_at_call 41; refine (cut_yes m _).mono ?_; rintro e w' ⟨rfl, rfl⟩)
  have e1 : (d : Int) + 2 - 1 = (d + 1 : Nat) := by omega
  rw [e1]
  have ba : Below w.heap.size w (w.alloc (.cells #[.int .i64 0, .slice none 0 0] 30 (0, 0))) := (Below.refl _ w).alloc (Nat.le_refl _) _
  refine (ih m _ (by omega) (hI.trans (ba.mono hI.size))).mono ?_
  clear e1
  rintro e w2 ⟨he, b2⟩
  have b02 := ba.trans (b2.mono ba.size)
  have hsz := b2.size
  rw [show (w.alloc (.cells #[.int .i64 0, .slice none 0 0] 30 (0, 0))).heap.size = w.heap.size + 1 from by simp] at hsz
  obtain ⟨c0, c1, f0, f1⟩ := own_two (w2 := w2) b2
  cases hr : rdv (d + 1) m with
  | none =>
    rw [hr] at he
    obtain ⟨n, r, rfl⟩ := he
    obtain rfl : none = R := by have h := hR.out; rw [hr] at h; exact h
    dsimp only
    clear hr ih hR
    have hlt : w.heap.size < w2.heap.size := by omega
    have hne : w.heap.size ≠ w2.heap.size := by omega
    have hne' : w2.heap.size ≠ w.heap.size := by omega
    go_wp2_with fail
    obtain ⟨k1, k2⟩ := set_al (.int .i64 0) (.slice none 0 0) (.cells #[.int .i64 n, .slice none 0 0] 30 (0, 0)) c0 c1 hlt
    refine bodyPost_ret (v := .tuple #[.agg #[.int .i64 0, .slice none 0 0], .string ⟨#[]⟩, .bool false]) (by simp [results, Go.Proofs.Tryd.results26, go_sem, k1, k2]) rfl ?_
    exact ⟨⟨_, _, rfl⟩, ((b02.setCell (Nat.le_refl _) _).setCell (Nat.le_refl _) _).alloc (by simp [World.setCell]; omega) _⟩
  | some p =>
    obtain ⟨⟨na, ka⟩, r⟩ := p
    rw [hr] at he
    obtain ⟨s, rfl, hka⟩ := he
    obtain ⟨sa, sn, sc, rfl⟩ := hka.shape
    dsimp only [Vl.num, Vl.kids] at hka ⊢
    have hrl := rdv_len _ _ _ _ hr
    have hlt : w.heap.size < w2.heap.size := by omega
    have hne : w.heap.size ≠ w2.heap.size := by omega
    have hne' : w2.heap.size ≠ w.heap.size := by omega
    cases hp : Lib.hasPrefix r [44] with
    | false =>
      obtain rfl : none = R := by have h := hR.out; rw [hr] at h; simpa [hp] using h
      clear hr ih hR
      have hp' := Lib.hid hp; clear hp
      go_wp2_with (go_at_call 44; refine (has_is hp'.out _).mono ?_; rintro e w' ⟨rfl, rfl⟩)
      obtain ⟨k1, k2⟩ := set_al (.int .i64 0) (.slice none 0 0) (.cells #[.int .i64 na, .slice sa sn sc] 30 (0, 0)) c0 c1 hlt
      refine bodyPost_ret (v := .tuple #[.agg #[.int .i64 0, .slice none 0 0], .string ⟨#[]⟩, .bool false]) (by simp [results, Go.Proofs.Tryd.results26, go_sem, k1, k2]) rfl ?_
      exact ⟨⟨_, _, rfl⟩, ((b02.setCell (Nat.le_refl _) _).setCell (Nat.le_refl _) _).alloc (by simp [World.setCell]; omega) _⟩
    | true =>
      obtain ⟨r', rfl⟩ := hasPrefix_cons hp
      have hR := Lib.hid (show (match rdv (d + 1) r' with
            | some (b, r2) => bif Lib.hasPrefix r2 [41] then some (.mk 0 [.mk na ka, b], r2.drop 1) else none
            | none => none) = R from by have h := hR.out; rw [hr] at h; simpa [hp] using h)
      clear hr
      have hp' := Lib.hid hp; clear hp
      go_wp2_with (go_at_call 44; refine (has_is hp'.out _).mono ?_; rintro e w' ⟨rfl, rfl⟩)
      have e1 : (d : Int) + 2 - 1 = (d + 1 : Nat) := by omega
      rw [e1, ex_drop _ _ (by simp)]
      clear e1
      have b03 : Below w.heap.size w (w2.alloc (.cells #[.int .i64 na, .slice sa sn sc] 30 (0, 0))) := b02.alloc b02.size _
      simp only [List.length_cons] at hrl
      refine (ih ((44 :: r').drop 1) _ (by simp; omega) (hI.trans (b03.mono hI.size))).mono ?_
      rintro e w4 ⟨he, b4⟩
      rw [show (44 :: r').drop 1 = r' from rfl] at he
      obtain ⟨d0, d1, g0, g1⟩ := own_two (w2 := w4) b4
      have b34 : Below w2.heap.size w2 w4 := ((Below.refl _ w2).alloc (Nat.le_refl _) _).trans (b4.mono (by simp))
      have b04 := b02.trans (b34.mono b02.size)
      have c0 := ((bcell b34).1 w.heap.size 0 hlt).trans c0
      have c1 := ((bcell b34).1 w.heap.size 1 hlt).trans c1
      have f0 := ((bcell b34).2 w.heap.size 0 hlt).trans f0
      have f1 := ((bcell b34).2 w.heap.size 1 hlt).trans f1
      have hsz4 : w2.heap.size + 1 ≤ w4.heap.size := by have h := b4.size; simp at h; omega
      have hlt4 : w.heap.size < w4.heap.size := by omega
      have hne4 : w.heap.size ≠ w4.heap.size := by omega
      have hne4' : w4.heap.size ≠ w.heap.size := by omega
      have hlu4 : w2.heap.size < w4.heap.size := by omega
      have hnu4 : w2.heap.size ≠ w4.heap.size := by omega
      have hnu4' : w4.heap.size ≠ w2.heap.size := by omega
      cases hr : rdv (d + 1) r' with
      | none =>
        rw [hr] at he
        obtain ⟨n, r, rfl⟩ := he
        obtain rfl : none = R := by have h := hR.out; rw [hr] at h; exact h
        dsimp only
        clear hr ih hR
        go_wp2_with fail
        obtain ⟨k1, k2⟩ := set_al (.int .i64 0) (.slice none 0 0) (.cells #[.int .i64 n, .slice none 0 0] 30 (0, 0)) c0 c1 hlt4
        refine bodyPost_ret (v := .tuple #[.agg #[.int .i64 0, .slice none 0 0], .string ⟨#[]⟩, .bool false]) (by simp [results, Go.Proofs.Tryd.results26, go_sem, k1, k2]) rfl ?_
        exact ⟨⟨_, _, rfl⟩, ((b04.setCell (Nat.le_refl _) _).setCell (Nat.le_refl _) _).alloc (by simp [World.setCell]; omega) _⟩
      | some p =>
        obtain ⟨⟨nb, kb⟩, r⟩ := p
        rw [hr] at he
        obtain ⟨s, rfl, hkb⟩ := he
        obtain ⟨ta, tn, tc, rfl⟩ := hkb.shape
        dsimp only [Vl.num, Vl.kids] at hkb ⊢
        have hrl := rdv_len _ _ _ _ hr
        cases hp : Lib.hasPrefix r [41] with
        | false =>
          obtain rfl : none = R := by have h := hR.out; rw [hr] at h; simpa [hp] using h
          clear hr ih hR
          have hp' := Lib.hid hp; clear hp
          go_wp2_with (go_at_call 44; refine (has_is hp'.out _).mono ?_; rintro e w' ⟨rfl, rfl⟩)
          obtain ⟨k1, k2⟩ := set_al (.int .i64 0) (.slice none 0 0) (.cells #[.int .i64 nb, .slice ta tn tc] 30 (0, 0)) c0 c1 hlt4
          refine bodyPost_ret (v := .tuple #[.agg #[.int .i64 0, .slice none 0 0], .string ⟨#[]⟩, .bool false]) (by simp [results, Go.Proofs.Tryd.results26, go_sem, k1, k2]) rfl ?_
          exact ⟨⟨_, _, rfl⟩, ((b04.setCell (Nat.le_refl _) _).setCell (Nat.le_refl _) _).alloc (by simp [World.setCell]; omega) _⟩
        | true =>
          obtain ⟨r2, rfl⟩ := hasPrefix_cons hp
          obtain rfl : some (.mk 0 [.mk na ka, .mk nb kb], r2) = R := by have h := hR.out; rw [hr] at h; simpa [hp] using h
          clear hr ih hR
          have hp' := Lib.hid hp; clear hp
          go_wp2_with (go_at_call 44; refine (has_is hp'.out _).mono ?_; rintro e w' ⟨rfl, rfl⟩)
          go_region
          go_wp2_with fail
          rw [ex_drop _ _ (by simp)]
          obtain ⟨k1, k2⟩ := set_al2 (.int .i64 0) (.slice (some ⟨w4.heap.size + 1, 0, none⟩) 2 2) (.cells #[.int .i64 nb, .slice ta tn tc] 30 (0, 0)) (.cells #[.int .i64 na, .slice sa sn sc, .int .i64 nb, .slice ta tn tc] 30 (0, 0)) c0 c1 hlt4
          refine bodyPost_ret (v := .tuple #[.agg #[.int .i64 0, .slice (some ⟨w4.heap.size + 1, 0, none⟩) 2 2], .string ⟨r2.toArray⟩, .bool true]) (by simp [results, Go.Proofs.Tryd.results26, go_sem, k1, k2]) rfl ?_
          refine ⟨⟨_, rfl, ?_⟩, ((((b04.setCell (Nat.le_refl _) _).setCell (Nat.le_refl _) _).alloc (by simp [World.setCell]; omega) _).alloc (by simp [World.setCell]; omega) _).drew⟩
          have hs4 : ((w4.setCell ⟨w.heap.size, 0, none⟩ (.int .i64 0)).setCell ⟨w.heap.size, 1, none⟩ (.slice (some ⟨w4.heap.size + 1, 0, none⟩) 2 2)).heap.size = w4.heap.size := by simp [World.setCell]
          have hblk : ∀ j, j < w4.heap.size → j ≠ w.heap.size → ((((w4.setCell ⟨w.heap.size, 0, none⟩ (.int .i64 0)).setCell ⟨w.heap.size, 1, none⟩ (.slice (some ⟨w4.heap.size + 1, 0, none⟩) 2 2)).alloc (.cells #[.int .i64 nb, .slice ta tn tc] 30 (0, 0))).alloc (.cells #[.int .i64 na, .slice sa sn sc, .int .i64 nb, .slice ta tn tc] 30 (0, 0))).heap[j]? = w4.heap[j]? := by
            intro j hj hjn
            rw [Below.heap_alloc _ _ _ (by simp [World.setCell]; omega), Below.heap_alloc _ _ _ (by omega), Below.heap_setCell _ _ _ _ hjn, Below.heap_setCell _ _ _ _ hjn]
          have hka' := hka.keep (w' := ((((w4.setCell ⟨w.heap.size, 0, none⟩ (.int .i64 0)).setCell ⟨w.heap.size, 1, none⟩ (.slice (some ⟨w4.heap.size + 1, 0, none⟩) 2 2)).alloc (.cells #[.int .i64 nb, .slice ta tn tc] 30 (0, 0))).alloc (.cells #[.int .i64 na, .slice sa sn sc, .int .i64 nb, .slice ta tn tc] 30 (0, 0))).drew)
            (fun j a1 a2 => (hblk j (by omega) (by have := ba.size; simp at a1; omega)).trans (b34.block j a2))
          have hkb' := hkb.keep (w' := ((((w4.setCell ⟨w.heap.size, 0, none⟩ (.int .i64 0)).setCell ⟨w.heap.size, 1, none⟩ (.slice (some ⟨w4.heap.size + 1, 0, none⟩) 2 2)).alloc (.cells #[.int .i64 nb, .slice ta tn tc] 30 (0, 0))).alloc (.cells #[.int .i64 na, .slice sa sn sc, .int .i64 nb, .slice ta tn tc] 30 (0, 0))).drew)
            (fun j a1 a2 => hblk j (by omega) (by simp at a1; omega))
          refine .row (b := w4.heap.size + 1) (t := 30) (cs := #[.int .i64 na, .slice sa sn sc, .int .i64 nb, .slice ta tn tc]) (by simp [Vl.kids]) rfl (by omega) (by simp [World.setCell]) (by simp) ?_ ?_
          · have h := two_al ((w4.setCell ⟨w.heap.size, 0, none⟩ (.int .i64 0)).setCell ⟨w.heap.size, 1, none⟩ (.slice (some ⟨w4.heap.size + 1, 0, none⟩) 2 2)) (.cells #[.int .i64 nb, .slice ta tn tc] 30 (0, 0)) (.cells #[.int .i64 na, .slice sa sn sc, .int .i64 nb, .slice ta tn tc] 30 (0, 0))
            rw [hs4] at h
            exact h
          · exact .cons (m := w2.heap.size) rfl rfl (by omega) (hka'.wide (by simp) (Nat.le_refl _)) (.cons (m := w4.heap.size) rfl rfl (by omega) (hkb'.wide (by simp) (Nat.le_refl _)) (.nil (by omega)))
/-- impl.valRead: what it is, in memory of its own -/
theorem read_key {B : World} (hB : Tabs B) : ∀ (d : Nat) (l : List UInt8) (w : World), l.length ≤ 2000000 → d ≤ 9 → Below B.heap.size B w →
    Calls PG i_valRead #[.string ⟨l.toArray⟩, .int .i64 (d + 1 : Nat)] w fun e w' => Red w w' e (rdv (d + 1) l) ∧ Below w.heap.size w w'
  | d, l, w, hl, hd, hI => by
    cases hp : Lib.hasPrefix l [40] with
    | false => exact read_num hB d l w hl hd hI hp
    | true =>
      obtain ⟨m, rfl⟩ := hasPrefix_cons hp
      simp only [List.length_cons] at hl
      match d, hd with
      | 0, _ => exact read_base m w (by omega)
      | d + 1, hd => exact read_pair (fun l w h1 h2 => read_key hB d l w h1 (by omega) h2) m w (by omega) (by omega) hI
end Ab
