/- Contracts of functions of the program, by the frame 'Ab'. -/
import Derived.Test.YtnhjclenankhoaaDoorBase
import Derived.Test.YtnhjclenankhoaaDoorShelf
import Derived.Shelf.Strings.SlTrimAscii
import Derived.Ground.NamesProg
import Derived.Below
import Derived.ChangeSame
import Derived.RowKit3
set_option linter.all false
namespace Ab
open Go Go.Proofs Go.RowKit Go.Shelf
set_option maxRecDepth 10000
set_option maxHeartbeats 4000000
set_option linter.unusedSimpArgs false
set_option linter.unusedVariables false

theorem Sat.below {w w' : World} {g : Gh} {O : List Obj} (hS : Sat w g O) (h : Below w.heap.size w w') : Sat w' g O := by
  refine ⟨hS.n, fun b ys hb => ?_, fun k o hk => ?_, fun b k hb => ?_⟩
  · obtain ⟨c, t, f, h1, h2⟩ := hS.imm b ys hb
    exact ⟨c, t, f, by rw [h.block b (hS.imm_lt hb)]; exact h1, h2⟩
  · have hkn : k < g.n := by rw [← hS.n]; exact (List.getElem?_eq_some_iff.1 hk).1
    exact SatO.keep (Gh.le_refl g) hkn rfl (fun b hb => ⟨h.block b (hS.own b k hb).1, hb, rfl⟩) (hS.obj k o hk)
  · have := hS.own b k hb
    exact ⟨Nat.lt_of_lt_of_le this.1 h.size, this.2⟩
theorem Fr.below {w w' : World} {g : Gh} (h : Below w.heap.size w w') : Fr w w' g g :=
  ⟨h.size, h.os, h.tape, h.output, fun b hb _ => h.block b hb, fun _ _ _ => rfl, fun _ _ ho => ho⟩

/-- A library function, by its contract: what it returns is plain, and new memory is all that it makes. -/
theorem valid_lib {P : Program} {B : World} {f : Nat} {S : Spec} (hent : ∀ args w, (callFunc f args).run P w = .ok (.enter f args) w)
    (h : ∀ (w : World) (g : Gh) (args : List AV) (us : List Value) (O : List Obj) (Q : AV → List Obj → Prop), GI B w g → ValL g args us → S args O Q →
      Calls P f us.toArray w (fun e w' => ∃ u r, e = .returned u ∧ (∀ g', Val g' r u) ∧ Q r O ∧ Below w.heap.size w w')) : Valid P B f S := by
  intro w g O args us Q hG hS h0 hv hs
  right
  refine ⟨hent _ _, (h w g args us O Q hG hv hs).mono ?_⟩
  rintro e w' ⟨u, r, rfl, h1, h2, h3⟩
  exact ⟨u, rfl, r, O, g, h2, h1 g, hS.below h3, Gh.le_refl g, Fr.below h3⟩

theorem below_same (w : World) : Below w.heap.size w w := Below.refl _ _

/-- strings.HasPrefix -/
def S_x_strings_HasPrefix : Spec := fun args O Q => ∃ (s p : List UInt8), args = [.d (.s s), .d (.s p)] ∧ Q (bv (Lib.hasPrefix s p)) O
theorem v_x_strings_HasPrefix {B : World} : Valid PG B x_strings_HasPrefix S_x_strings_HasPrefix := by
  refine valid_lib (fun args w => enters_of g_x_strings_HasPrefix (by kernel_rfl) rfl args w) ?_
  rintro w g _ us O Q hG hv ⟨s, p, rfl, hQ⟩
  match us, hv with
  | [u1, u2], ⟨h1, h2, _⟩ =>
    have h1 : u1 = .string ⟨s.toArray⟩ := h1
    have h2 : u2 = .string ⟨p.toArray⟩ := h2
    subst h1; subst h2
    refine (Tryd.strings_HasPrefix ⟨s.toArray⟩ ⟨p.toArray⟩ w).mono ?_
    rintro e w' ⟨rfl, rfl⟩
    exact ⟨_, bv (Lib.hasPrefix s p), rfl, fun _ => rfl, hQ, below_same _⟩

/-- strings.CutPrefix -/
def S_x_strings_CutPrefix : Spec := fun args O Q => ∃ (s p : List UInt8), args = [.d (.s s), .d (.s p)] ∧ Q (.tup [.d (.s (Lib.trimPrefix s p)), bv (Lib.hasPrefix s p)]) O
theorem v_x_strings_CutPrefix {B : World} : Valid PG B x_strings_CutPrefix S_x_strings_CutPrefix := by
  refine valid_lib (fun args w => enters_of g_x_strings_CutPrefix (by kernel_rfl) rfl args w) ?_
  rintro w g _ us O Q hG hv ⟨s, p, rfl, hQ⟩
  match us, hv with
  | [u1, u2], ⟨h1, h2, _⟩ =>
    have h1 : u1 = .string ⟨s.toArray⟩ := h1
    have h2 : u2 = .string ⟨p.toArray⟩ := h2
    subst h1; subst h2
    refine (Tryd.strings_CutPrefix ⟨s.toArray⟩ ⟨p.toArray⟩ w).mono ?_
    rintro e w' ⟨rfl, rfl⟩
    exact ⟨_, .tup [.d (.s (Lib.trimPrefix s p)), bv (Lib.hasPrefix s p)], rfl, fun _ => ⟨[_, _], rfl, rfl, rfl, trivial⟩, hQ, below_same _⟩

/-- strings.TrimLeft at an ASCII cutset -/
def S_x_strings_TrimLeft : Spec := fun args O Q => ∃ (s p : List UInt8), p.length < 1000 ∧ (∀ b ∈ p, b.toNat < 128) ∧ args = [.d (.s s), .d (.s p)] ∧ Q (.d (.s (Lib.trimLeftS s p))) O
theorem v_x_strings_TrimLeft {B : World} : Valid PG B x_strings_TrimLeft S_x_strings_TrimLeft := by
  refine valid_lib (fun args w => enters_of g_x_strings_TrimLeft (by kernel_rfl) rfl args w) ?_
  rintro w g _ us O Q hG hv ⟨s, p, hl, ha, rfl, hQ⟩
  match us, hv with
  | [u1, u2], ⟨h1, h2, _⟩ =>
    have h1 : u1 = .string ⟨s.toArray⟩ := h1
    have h2 : u2 = .string ⟨p.toArray⟩ := h2
    subst h1; subst h2
    have hc := Any.strings_TrimLeft_laid Tryd.lays161 (by kernel_rfl) ⟨s.toArray⟩ ⟨p.toArray⟩ w (by rw [Lib.size_eq]; simp; omega) (fun j b hb => ha b (List.mem_of_getElem? hb))
    refine Calls.mono (f := x_strings_TrimLeft) hc ?_
    rintro e w' ⟨rfl, hB⟩
    exact ⟨_, .d (.s (Lib.trimLeftS s p)), rfl, fun _ => rfl, hQ, hB⟩

/-- strconv.Itoa -/
def Tabs (B : World) : Prop := Lib.TabIs PG B "internal/strconv.uint64pow10" .u64 Lib.pow10Tab ∧ (∃ tp p, B.var? PG "strconv.ErrSyntax" = some #[.iface tp p]) ∧ (∃ tp p, B.var? PG "strconv.ErrRange" = some #[.iface tp p])

theorem var_keep {P : Program} {B w : World} {g : Gh} (h : GI B w g) {name : String} {x : Array Value} (hv : B.var? P name = some x) : w.var? P name = some x := by
  unfold World.var? at hv ⊢
  simp only [Option.bind_eq_some_iff] at hv ⊢
  obtain ⟨k, hk, hv⟩ := hv
  refine ⟨k, hk, ?_⟩
  have hlt : k < B.heap.size := by
    rcases Nat.lt_or_ge k B.heap.size with h' | h'
    · exact h'
    · rw [Array.getElem?_eq_none h'] at hv; cases hv
  rw [h.heap k hlt]; exact hv

def S_x_strconv_Itoa : Spec := fun args O Q => ∃ (n : Int), -9223372036854775808 ≤ n ∧ n ≤ 9223372036854775807 ∧ args = [iv n] ∧ Q (.d (.s (Lib.itoa n))) O
theorem v_x_strconv_Itoa {B : World} (hB : Tabs B) : Valid PG B x_strconv_Itoa S_x_strconv_Itoa := by
  refine valid_lib (fun args w => enters_of g_x_strconv_Itoa (by kernel_rfl) rfl args w) ?_
  rintro w g _ us O Q hG hv ⟨n, h0, h1, rfl, hQ⟩
  match us, hv with
  | [u1], ⟨h2, _⟩ =>
    have h2 : u1 = .int .i64 n := h2
    subst h2
    refine (Tryd.strconv_Itoa n h0 h1 w (var_keep hG hB.1)).mono ?_
    rintro e w' ⟨rfl, k, os, rfl⟩
    refine ⟨_, .d (.s (Lib.itoa n)), rfl, fun _ => rfl, hQ, ⟨rfl, rfl, rfl, by show w.heap.size ≤ (w.heap ++ os).size; simp, fun i hi => ?_⟩⟩
    show (w.heap ++ os)[i]? = _
    rw [Array.getElem?_append_left hi]

/-- strconv.Atoi -/
def S_x_strconv_Atoi : Spec := fun args O Q => ∃ (s : List UInt8), s.length ≤ 100000000000 ∧ args = [.d (.s s)] ∧ (∀ v, Lib.atoiAll s = .ok v → Q (.tup [iv v, .d (.v .nilIface)]) O) ∧
  ((∀ v, Lib.atoiAll s ≠ .ok v) → ∀ (n : Int) (t : TypeId) (x : Value), Q (.tup [iv n, .d (.v (.iface t x))]) O)
theorem v_x_strconv_Atoi {B : World} (hB : Tabs B) : Valid PG B x_strconv_Atoi S_x_strconv_Atoi := by
  refine valid_lib (fun args w => enters_of g_x_strconv_Atoi (by kernel_rfl) rfl args w) ?_
  rintro w g _ us O Q hG hv ⟨s, hl, rfl, hQ, hE⟩
  match us, hv with
  | [u1], ⟨h2, _⟩ =>
    have h2 : u1 = .string ⟨s.toArray⟩ := h2
    subst h2
    have hsz : (⟨s.toArray⟩ : ByteArray).size = s.length := by rw [Lib.size_eq]
    obtain ⟨_, ⟨tp, p, hs⟩, ⟨tp2, p2, hr⟩⟩ := hB
    cases ha : Lib.atoiAll s with
    | ok v =>
      refine (Tryd.strconv_Atoi_ok ⟨s.toArray⟩ (by rw [hsz]; omega) v ha w).mono ?_
      rintro e w' ⟨rfl, hw⟩
      refine ⟨_, .tup [iv v, .d (.v .nilIface)], rfl, fun _ => ⟨[_, _], rfl, rfl, ⟨rfl, rfl⟩, trivial⟩, hQ v ha, ?_⟩
      rcases hw with rfl | ⟨t, rfl⟩
      · exact below_same _
      · exact ⟨rfl, rfl, rfl, by rw [Lib.bytesWorld_size]; omega, fun i hi => Lib.bytesWorld_at_old w 5 t i (by omega)⟩
    | range =>
      refine (Tryd.strconv_Atoi_range_var ⟨s.toArray⟩ (by rw [hsz]; omega) ha tp2 p2 w (var_keep hG hr)).mono ?_
      rintro e w' ⟨N, rfl, _, _, hw⟩
      exact ⟨_, .tup [iv (Lib.atoiSat s), .d (.v (.iface _ (.pointer (some ⟨N, 0, none⟩))))], rfl, fun _ => ⟨[_, _], rfl, rfl, ⟨rfl, rfl⟩, trivial⟩, hE (by rw [ha]; intro v e; cases e) _ _ _, hw⟩
    | _ =>
      refine (Tryd.strconv_Atoi_syntax_var ⟨s.toArray⟩ (by rw [hsz]; omega) (by rw [ha]; exact ⟨fun v e => (by cases e), fun e => (by cases e)⟩) tp p w (var_keep hG hs)).mono ?_
      rintro e w' ⟨N, rfl, _, _, hw⟩
      exact ⟨_, .tup [iv 0, .d (.v (.iface _ (.pointer (some ⟨N, 0, none⟩))))], rfl, fun _ => ⟨[_, _], rfl, rfl, ⟨rfl, rfl⟩, trivial⟩, hE (by rw [ha]; intro v e; cases e) _ _ _, hw⟩
end Ab

namespace Ab
open Go Go.Proofs
set_option maxRecDepth 10000
set_option maxHeartbeats 4000000
set_option linter.unusedSimpArgs false
set_option linter.unusedVariables false

/-- the text of a value -/
def vw : Nat → Vl → List UInt8
  | 0, _ => []
  | d + 1, .mk n [] => Lib.itoa n
  | d + 1, .mk _ [a, b] => (([40] ++ vw d a) ++ [44]) ++ vw d b ++ [41]
  | d + 1, .mk _ _ => []

theorem dec_len : ∀ (k u : Nat), u < 10 ^ (k + 1) → (Lib.decDigits u).length ≤ k + 1
  | 0, u, h => by rw [Lib.decDigits, dif_pos (by simpa using h)]; simp
  | k + 1, u, h => by
    rw [Lib.decDigits]
    split
    · simp
    · have := dec_len k (u / 10) (by rw [Nat.pow_succ] at h; omega)
      simp; omega
theorem itoa_len {n : Int} (h0 : 0 ≤ n) (h1 : n ≤ 9999) : (Lib.itoa n).length ≤ 4 := by
  unfold Lib.itoa
  rw [if_neg (by omega)]
  exact dec_len 3 _ (by omega)

def Lw : Nat → Nat
  | 0 => 4
  | d + 1 => 2 * Lw d + 3
theorem Lw_pos : ∀ d, 4 ≤ Lw d
  | 0 => by simp [Lw]
  | d + 1 => by have := Lw_pos d; simp [Lw]; omega

theorem vt_kids {d : Nat} {n : Int} {ks : List Vl} (h : (vt d (.mk n ks)).2 = true) : ∃ j, d = j + 1 ∧ ((ks = [] ∧ 0 ≤ n ∧ n ≤ 9999) ∨ ∃ a b, ks = [a, b] ∧ n = 0 ∧ (vt j a).2 = true ∧ (vt j b).2 = true) := by
  match d, ks with
  | 0, _ => simp [vt] at h
  | j + 1, [] => simp [vt] at h; exact ⟨j, rfl, .inl ⟨rfl, h⟩⟩
  | j + 1, [a, b] =>
    refine ⟨j, rfl, .inr ⟨a, b, rfl, ?_⟩⟩
    by_cases hn : n = 0
    · simp only [vt, hn, if_true] at h
      split at h
      · rename_i hc
        simp only [Bool.and_eq_true] at hc
        exact ⟨hn, hc.1, hc.2⟩
      · cases h
    · simp [vt, hn] at h
  | j + 1, [_] => simp [vt] at h
  | j + 1, _ :: _ :: _ :: _ => simp [vt] at h

theorem vw_len : ∀ (d : Nat) (v : Vl), (vt d v).2 = true → (vw d v).length ≤ Lw d
  | d, .mk n ks, h => by
    obtain ⟨j, rfl, ⟨rfl, h0, h1⟩ | ⟨a, b, rfl, _, h1, h2⟩⟩ := vt_kids h
    · have := itoa_len h0 h1
      have := Lw_pos (j + 1)
      simp only [vw]; omega
    · have := vw_len j a h1
      have := vw_len j b h2
      simp [vw, Lw]; omega

/-- impl.valWords -/
def S_i_valWords (n : Nat) : Spec := fun args O Q => ∃ (m : Nat) (v : Vl), m < n ∧ n ≤ 10 ∧ (vt m v).2 = true ∧ args = [aVl v] ∧ O = [] ∧ Q (.d (.s (vw m v))) []
theorem Lw_le {m : Nat} (h : m < 10) : Lw m ≤ 10000 := by
  have : ∀ m, m < 10 → Lw m ≤ 10000 := by decide
  exact this m h
theorem v_i_valWords {B : World} (hB : Tabs B) : ∀ n, Valid PG B i_valWords (S_i_valWords n) := by
  refine valid_lt (fun args O Q ⟨m, t, h1, _⟩ => by omega) fun n ih => ?_
  refine valid_of (Γ := [(i_valWords, ⟨[], S_i_valWords n⟩), (x_strconv_Itoa, ⟨[], S_x_strconv_Itoa⟩)]) wide tok ((AllValid.nil.cons (v_x_strconv_Itoa hB)).cons ih) g_i_valWords rfl rfl ?_
  rintro _ _ Q ⟨m, ⟨k, ks⟩, hm, hn, hok, rfl, rfl, hQ⟩
  obtain ⟨j, rfl, ⟨rfl, h0, h1⟩ | ⟨a, b, rfl, _, h1, h2⟩⟩ := vt_kids hok
  · conv => whnf
    refine ⟨fun h => ?_, fun h => by simp [Vl.kids] at h⟩
    conv => whnf
    refine ⟨_, _, WkL.rfl, WkOs.rfl, k, by omega, by omega, rfl, ?_⟩
    conv => whnf
    refine ⟨Nat.le_of_ble_eq_true rfl, ?_⟩
    conv => whnf
    refine ⟨[], ⟨rfl, rfl⟩, ?_⟩
    exact ⟨_, _, Wk.rfl, WkOs.rfl, hQ⟩
  · have l1 := vw_len j a h1
    have l2 := vw_len j b h2
    have l3 := Lw_le (m := j) (by omega)
    conv => whnf
    refine ⟨fun h => by simp [Vl.kids] at h, fun h => ?_⟩
    conv => whnf
    refine ⟨by omega, dVl a, rfl, ?_⟩
    rw [dVl_eq]
    conv => whnf
    refine ⟨by omega, dVl b, rfl, ?_⟩
    rw [dVl_eq]
    conv => whnf
    refine ⟨_, _, WkL.rfl, WkOs.rfl, j, a, by omega, by omega, h1, rfl, rfl, ?_⟩
    conv => whnf
    refine ⟨Nat.le_of_ble_eq_true rfl, ?_⟩
    conv => whnf
    refine ⟨by conv => whnf
               exact Wk.rfl, ?_⟩
    conv => whnf
    refine ⟨by conv => whnf
               refine ⟨by omega, dVl b, rfl, ?_⟩
               rw [dVl_eq]
               conv => whnf
               exact Wk.rfl, ?_⟩
    conv => whnf
    refine ⟨by conv => whnf
               exact Wk.rfl, ?_⟩
    conv => whnf
    refine ⟨by simp; omega, ?_⟩
    conv => whnf
    refine ⟨by simp; omega, ?_⟩
    conv => whnf
    refine ⟨_, _, WkL.rfl, WkOs.rfl, j, b, by omega, by omega, h2, rfl, rfl, ?_⟩
    conv => whnf
    refine ⟨Nat.le_of_ble_eq_true rfl, ?_⟩
    conv => whnf
    refine ⟨by simp; omega, ?_⟩
    conv => whnf
    refine ⟨by simp; omega, ?_⟩
    conv => whnf
    refine ⟨[], ⟨rfl, rfl⟩, ?_⟩
    exact ⟨_, _, Wk.rfl, WkOs.rfl, hQ⟩

/-- impl.ValText -/
def valText (v : Vl) : List UInt8 := bif (vt 4 v).2 then vw 4 v else []
def S_i_ValText : Spec := fun args O Q => ∃ (v : Vl), args = [aVl v] ∧ O = [] ∧ Q (.d (.s (valText v))) []
theorem v_i_ValText {B : World} (hB : Tabs B) : Valid PG B i_ValText S_i_ValText := by
  refine valid_of (Γ := [(i_valTyped, ⟨[], S_i_valTyped⟩), (i_valWords, ⟨[], S_i_valWords 10⟩)]) wide tok ((AllValid.nil.cons (v_i_valWords hB 10)).cons v_i_valTyped) g_i_ValText rfl rfl ?_
  rintro _ _ Q ⟨v, rfl, rfl, hQ⟩
  conv => whnf
  refine ⟨_, _, WkL.rfl, WkOs.rfl, v, rfl, rfl, ?_⟩
  conv => whnf
  refine ⟨Nat.le_of_ble_eq_true rfl, ?_⟩
  conv => whnf
  refine ⟨fun h => ?_, fun h => ?_⟩
  · conv => whnf
    refine ⟨[], ⟨rfl, rfl⟩, ?_⟩
    refine ⟨_, _, Wk.of_eq ?_, WkOs.rfl, hQ⟩
    simp at h; simp [valText, h]
  · conv => whnf
    have h' : (vt 4 v).2 = true := by simpa using h
    refine ⟨_, _, WkL.rfl, WkOs.rfl, 4, v, by omega, by omega, h', rfl, rfl, ?_⟩
    conv => whnf
    refine ⟨Nat.le_of_ble_eq_true rfl, ?_⟩
    conv => whnf
    refine ⟨[], ⟨rfl, rfl⟩, ?_⟩
    refine ⟨_, _, Wk.of_eq ?_, WkOs.rfl, hQ⟩
    simp [valText, h']
end Ab

namespace Ab
open Go Go.Proofs
set_option maxRecDepth 10000
set_option maxHeartbeats 4000000
set_option linter.unusedSimpArgs false
set_option linter.unusedVariables false

abbrev digits : List UInt8 := [48, 49, 50, 51, 52, 53, 54, 55, 56, 57]

/-- a value read, and what is left -/
def rdv : Nat → List UInt8 → Option (Vl × List UInt8)
  | 0, _ => none
  | d + 1, s => bif Lib.hasPrefix s [40] then
      (if d = 0 then none else match rdv d (s.drop 1) with
        | some (a, r) => bif Lib.hasPrefix r [44] then (match rdv d (r.drop 1) with
            | some (b, r2) => bif Lib.hasPrefix r2 [41] then some (.mk 0 [a, b], r2.drop 1) else none
            | none => none) else none
        | none => none)
    else match Lib.atoiAll (s.take (s.length - (Lib.trimLeftS s digits).length)) with
      | .ok v => some (.mk v [], Lib.trimLeftS s digits)
      | _ => none

theorem trim_len (s cs : List UInt8) : (Lib.trimLeftS s cs).length ≤ s.length := by
  unfold Lib.trimLeftS
  exact (List.dropWhile_sublist _).length_le

theorem hasPrefix_cons {s : List UInt8} {c : UInt8} (h : Lib.hasPrefix s [c] = true) : ∃ r, s = c :: r := by
  cases s with
  | nil => simp [Lib.hasPrefix, List.isPrefixOf] at h
  | cons a r => simp [Lib.hasPrefix, List.isPrefixOf] at h; exact ⟨r, by rw [h]⟩

theorem rdv_len : ∀ (d : Nat) (s : List UInt8) (v : Vl) (r : List UInt8), rdv d s = some (v, r) → r.length ≤ s.length
  | 0, _, _, _, h => by simp [rdv] at h
  | d + 1, s, v, r, h => by
    unfold rdv at h
    cases hp : Lib.hasPrefix s [40] with
    | false =>
      rw [hp] at h
      simp only [cond_false] at h
      split at h
      · simp at h; rw [← h.2]; exact trim_len _ _
      · cases h
    | true =>
      rw [hp] at h
      simp only [cond_true] at h
      split at h
      · cases h
      · split at h
        · rename_i a r1 h1
          have l1 := rdv_len d _ _ _ h1
          cases hp2 : Lib.hasPrefix r1 [44] with
          | false => rw [hp2] at h; cases h
          | true =>
            rw [hp2] at h
            simp only [cond_true] at h
            split at h
            · rename_i b r2 h2
              have l2 := rdv_len d _ _ _ h2
              cases hp3 : Lib.hasPrefix r2 [41] with
              | false => rw [hp3] at h; cases h
              | true =>
                rw [hp3] at h
                simp at h
                rw [← h.2]
                simp at l1 l2 ⊢
                omega
            · cases h
        · cases h

/-- impl.valRead -/
def S_i_valRead (n : Nat) : Spec := fun args O Q => ∃ (s : List UInt8) (d : Int), 1 ≤ d ∧ d ≤ n ∧ n ≤ 10 ∧ s.length ≤ 1000000000 ∧ args = [.d (.s s), iv d] ∧ O = [] ∧
  (∀ v r, rdv d.toNat s = some (v, r) → Q (.tup [aVl v, .d (.s r), bv true]) []) ∧ (rdv d.toNat s = none → ∀ (v : Vl) (r : List UInt8), r.length ≤ s.length → Q (.tup [aVl v, .d (.s r), bv false]) [])

theorem wk_v0 (n : Int) : Wk (.agg [.d (.i .i64 n), .d (.v (.slice none 0 0))]) (aVl (.mk n [])) := Wk.agg (WkL.cons Wk.rfl (WkL.cons (Wk.nil 2) WkL.nil))

theorem v_i_valRead {B : World} (hB : Tabs B) : ∀ n, Valid PG B i_valRead (S_i_valRead n) := by
  refine valid_lt (fun args O Q ⟨s, d, h1, h2, _⟩ => by omega) fun n ih => ?_
  refine valid_of (Γ := [(i_valRead, ⟨[], S_i_valRead n⟩), (x_strings_CutPrefix, ⟨[], S_x_strings_CutPrefix⟩), (x_strings_TrimLeft, ⟨[], S_x_strings_TrimLeft⟩), (x_strconv_Atoi, ⟨[], S_x_strconv_Atoi⟩), (x_strings_HasPrefix, ⟨[], S_x_strings_HasPrefix⟩)]) wide tok (((((AllValid.nil.cons v_x_strings_HasPrefix).cons (v_x_strconv_Atoi hB)).cons v_x_strings_TrimLeft).cons v_x_strings_CutPrefix).cons ih) g_i_valRead rfl rfl ?_
  rintro _ _ Q ⟨s, d, hd, hd', hn, hs, rfl, rfl, hQ, hE⟩
  obtain ⟨m, hm⟩ : ∃ m, d.toNat = m + 1 := ⟨d.toNat - 1, by omega⟩
  have hm1 : (d - 1).toNat = m := by omega
  rw [hm] at hQ hE
  conv => whnf
  refine ⟨_, _, WkL.rfl, WkOs.rfl, s, [40], rfl, ?_⟩
  conv => whnf
  refine ⟨Nat.le_of_ble_eq_true rfl, ?_⟩
  conv => whnf
  refine ⟨fun h => ?_, fun h => ?_⟩
  · have hp : Lib.hasPrefix s [40] = false := by simpa using h
    conv => whnf
    refine ⟨_, _, WkL.rfl, WkOs.rfl, s, digits, by decide, by decide, rfl, ?_⟩
    conv => whnf
    refine ⟨Nat.le_of_ble_eq_true rfl, ?_⟩
    have ht := trim_len s digits
    conv => whnf
    refine ⟨lo64 (by omega), hi64 (by omega), ?_⟩
    conv => whnf
    refine ⟨by omega, ?_⟩
    conv => whnf
    refine ⟨_, _, WkL.rfl, WkOs.rfl, s.take (s.length - (Lib.trimLeftS s digits).length), by simp; omega, ?_, ?_, ?_⟩
    · have e : ((s.length : Int) - (Lib.trimLeftS s digits).length).toNat = s.length - (Lib.trimLeftS s digits).length := by omega
      rw [e]; rfl
    · intro v hv
      conv => whnf
      refine ⟨Nat.le_of_ble_eq_true rfl, ?_⟩
      conv => whnf
      refine ⟨[], ⟨rfl, rfl⟩, ?_⟩
      refine ⟨_, _, Wk.tup (WkL.cons (wk_v0 v) (WkL.cons Wk.rfl (WkL.cons Wk.rfl WkL.nil))), WkOs.rfl, hQ _ _ ?_⟩
      simp [rdv, hp, hv]
    · intro hv n _ x
      conv => whnf
      refine ⟨Nat.le_of_ble_eq_true rfl, ?_⟩
      conv => whnf
      refine ⟨[], ⟨rfl, rfl⟩, ?_⟩
      refine ⟨_, _, Wk.tup (WkL.cons (wk_v0 n) (WkL.cons Wk.rfl (WkL.cons Wk.rfl WkL.nil))), WkOs.rfl, hE ?_ _ _ ht⟩
      simp only [rdv, hp, cond_false]
      all_goals split
      all_goals first
        | rfl
        | (rename_i v h'; exact absurd h' (hv v))
  · have hp : Lib.hasPrefix s [40] = true := by simpa using h
    obtain ⟨s', rfl⟩ := hasPrefix_cons hp
    have e1 : Lib.trimPrefix (40 :: s') [40] = s' := by simp [Lib.trimPrefix, Lib.hasPrefix, List.isPrefixOf]
    have hl : s'.length ≤ 1000000000 := by simp at hs; omega
    have fin0 : rdv (m + 1) (40 :: s') = none → ∀ k : AV, Wk k (bv false) → wkQ Q (.tup [.agg [.d (.i .i64 0), .d (.v (.slice none 0 0))], .d (.s []), k]) [] := fun h k hk =>
      ⟨_, _, Wk.tup (WkL.cons (wk_v0 0) (WkL.cons Wk.rfl (WkL.cons hk WkL.nil))), WkOs.rfl, hE h _ _ (by simp)⟩
    conv => whnf
    refine ⟨fun h2 => ?_, fun h2 => ?_⟩
    · have hm0 : m = 0 := by simp at h2; omega
      conv => whnf
      refine ⟨[], ⟨rfl, rfl⟩, ?_⟩
      refine fin0 ?_ _ Wk.rfl
      simp [rdv, hp, hm0]
    · have hm0 : m ≠ 0 := by simp at h2; omega
      conv => whnf
      refine ⟨lo64 (by omega), hi64 (by omega), ?_⟩
      conv => whnf
      rw [e1]
      refine ⟨_, _, WkL.rfl, WkOs.rfl, s', d - 1, by simp at h2; omega, by omega, by omega, hl, rfl, rfl, ?_⟩
      rw [hm1]
      have hstep : rdv (m + 1) (40 :: s') = (match rdv m s' with
        | some (a, r) => bif Lib.hasPrefix r [44] then (match rdv m (r.drop 1) with
            | some (b, r2) => bif Lib.hasPrefix r2 [41] then some (.mk 0 [a, b], r2.drop 1) else none
            | none => none) else none
        | none => none) := by
        simp only [rdv, hp, cond_true, if_neg hm0]; rfl
      rw [hstep] at fin0 hQ
      clear hstep hE e1
      refine ⟨fun a r ha => ?_, fun hnone v r hr => ?_⟩
      · have hlr := rdv_len _ _ _ _ ha
        rw [ha] at fin0 hQ
        dsimp only at fin0 hQ
        conv => whnf
        refine ⟨Nat.le_of_ble_eq_true rfl, ?_⟩
        conv => whnf
        refine Br.no rfl ?_
        conv => whnf
        refine ⟨_, _, WkL.rfl, WkOs.rfl, r, [44], rfl, ?_⟩
        conv => whnf
        refine ⟨Nat.le_of_ble_eq_true rfl, ?_⟩
        conv => whnf
        refine ⟨fun h3 => ?_, fun h3 => ?_⟩
        · have hp3 : Lib.hasPrefix r [44] = false := by simpa using h3
          rw [hp3] at fin0
          conv => whnf
          refine ⟨[], ⟨rfl, rfl⟩, ?_⟩
          exact fin0 rfl _ Wk.rfl
        · have hp3 : Lib.hasPrefix r [44] = true := by simpa using h3
          rw [hp3] at fin0 hQ
          obtain ⟨r', rfl⟩ := hasPrefix_cons hp3
          have e3 : (44 :: r').drop 1 = r' := rfl
          rw [e3] at fin0 hQ
          dsimp only [cond_true] at fin0 hQ
          conv => whnf
          refine ⟨by simp; omega, ?_⟩
          conv => whnf
          refine ⟨lo64 (by omega), hi64 (by omega), ?_⟩
          conv => whnf
          have e2 : ((44 :: r').take (44 :: r').length).drop (Int.toNat 1) = r' := by rw [List.take_length]; rfl
          rw [e2]
          refine ⟨_, _, WkL.rfl, WkOs.rfl, r', d - 1, by simp at h2; omega, by omega, by omega, by simp at hlr; omega, rfl, rfl, ?_⟩
          rw [hm1]
          refine ⟨fun b r2 hb => ?_, fun hnone v r hr => ?_⟩
          · have hlr2 := rdv_len _ _ _ _ hb
            rw [hb] at fin0 hQ
            dsimp only at fin0 hQ
            conv => whnf
            refine ⟨Nat.le_of_ble_eq_true rfl, ?_⟩
            conv => whnf
            refine Br.no rfl ?_
            conv => whnf
            refine ⟨_, _, WkL.rfl, WkOs.rfl, r2, [41], rfl, ?_⟩
            conv => whnf
            refine ⟨Nat.le_of_ble_eq_true rfl, ?_⟩
            conv => whnf
            refine ⟨fun h4 => ?_, fun h4 => ?_⟩
            · have hp4 : Lib.hasPrefix r2 [41] = false := by simpa using h4
              rw [hp4] at fin0
              conv => whnf
              refine ⟨[], ⟨rfl, rfl⟩, ?_⟩
              exact fin0 rfl _ Wk.rfl
            · have hp4 : Lib.hasPrefix r2 [41] = true := by simpa using h4
              rw [hp4] at hQ
              obtain ⟨r3, rfl⟩ := hasPrefix_cons hp4
              have e4 : (41 :: r3).drop 1 = r3 := rfl
              rw [e4] at hQ
              dsimp only [cond_true] at hQ
              conv => whnf
              refine ⟨by simp; omega, ?_⟩
              conv => whnf
              left
              conv => whnf
              refine ⟨[], ⟨rfl, rfl⟩, ?_⟩
              refine ⟨_, _, Wk.tup (WkL.cons (Wk.agg (WkL.cons Wk.rfl (WkL.cons (Wk.d (DW.sf.trans (DW.sl ?_))) WkL.nil))) (WkL.cons (Wk.of_eq ?_) (WkL.cons Wk.rfl WkL.nil))), WkOs.rfl, hQ _ _ rfl⟩
              · exact ⟨by rw [dVl_eq], by rw [dVl_eq]; exact DWL.rfl, by rw [dVl_eq], by rw [dVl_eq]; exact DWL.rfl, trivial⟩
              · rw [List.take_length]; rfl
          · rw [hnone] at fin0
            conv => whnf
            refine ⟨Nat.le_of_ble_eq_true rfl, ?_⟩
            conv => whnf
            refine Br.yes rfl ?_
            conv => whnf
            refine ⟨[], ⟨rfl, rfl⟩, ?_⟩
            exact fin0 rfl _ Wk.rfl
      · rw [hnone] at fin0
        conv => whnf
        refine ⟨Nat.le_of_ble_eq_true rfl, ?_⟩
        conv => whnf
        refine Br.yes rfl ?_
        conv => whnf
        refine ⟨[], ⟨rfl, rfl⟩, ?_⟩
        exact fin0 rfl _ Wk.rfl
end Ab

namespace Ab
open Go Go.Proofs
set_option maxRecDepth 10000
set_option maxHeartbeats 4000000
set_option linter.unusedSimpArgs false
set_option linter.unusedVariables false

def valRead (s : List UInt8) : Option Vl := match rdv 4 s with
  | some (v, r) => if r = [] ∧ valText v = s then some v else none
  | none => none

/-- impl.ValRead -/
def S_i_ValRead : Spec := fun args O Q => ∃ (s : List UInt8), s.length ≤ 1000000000 ∧ args = [.d (.s s)] ∧ O = [] ∧
  (∀ v, valRead s = some v → Q (.tup [aVl v, bv true]) []) ∧ (valRead s = none → Q (.tup [aVl (.mk 0 []), bv false]) [])

theorem v_i_ValRead {B : World} (hB : Tabs B) : Valid PG B i_ValRead S_i_ValRead := by
  refine valid_of (Γ := [(i_ValText, ⟨[], S_i_ValText⟩), (i_valRead, ⟨[], S_i_valRead 10⟩)]) wide tok ((AllValid.nil.cons (v_i_valRead hB 10)).cons (v_i_ValText hB)) g_i_ValRead rfl rfl ?_
  rintro _ _ Q ⟨s, hs, rfl, rfl, hQ, hE⟩
  have fin0 : valRead s = none → wkQ Q (.tup [.agg [.d (.i .i64 0), .d (.v (.slice none 0 0))], bv false]) [] := fun h =>
      ⟨_, _, Wk.tup (WkL.cons (wk_v0 0) (WkL.cons Wk.rfl WkL.nil)), WkOs.rfl, hE h⟩
  conv => whnf
  refine ⟨_, _, WkL.rfl, WkOs.rfl, s, 4, by omega, by omega, by omega, hs, rfl, rfl, ?_⟩
  refine ⟨fun v r hr => ?_, fun hnone v r _ => ?_⟩
  · have hr : rdv 4 s = some (v, r) := hr
    conv => whnf
    refine ⟨Nat.le_of_ble_eq_true rfl, ?_⟩
    conv => whnf
    refine Br.no rfl ?_
    conv => whnf
    refine ⟨fun h => ?_, fun h => ?_⟩
    · conv => whnf
      refine ⟨[], ⟨rfl, rfl⟩, ?_⟩
      refine fin0 ?_
      have : r ≠ [] := by rintro rfl; cases h
      simp [valRead, hr, this]
    · have hr0 : r = [] := by
        cases r with
        | nil => rfl
        | cons c r => cases h
      subst hr0
      conv => whnf
      refine ⟨_, _, WkL.rfl, WkOs.rfl, v, rfl, rfl, ?_⟩
      conv => whnf
      refine ⟨Nat.le_of_ble_eq_true rfl, ?_⟩
      conv => whnf
      refine ⟨fun h2 => ?_, fun h2 => ?_⟩
      · conv => whnf
        refine ⟨[], ⟨rfl, rfl⟩, ?_⟩
        refine fin0 ?_
        have : valText v ≠ s := by intro e; rw [e] at h2; simp at h2
        simp [valRead, hr, this]
      · conv => whnf
        refine ⟨[], ⟨rfl, rfl⟩, ?_⟩
        have : valText v = s := by simpa using h2
        exact ⟨_, _, Wk.rfl, WkOs.rfl, hQ v (by simp [valRead, hr, this])⟩
  · have hnone : rdv 4 s = none := hnone
    conv => whnf
    refine ⟨Nat.le_of_ble_eq_true rfl, ?_⟩
    conv => whnf
    refine Br.yes rfl ?_
    conv => whnf
    refine ⟨[], ⟨rfl, rfl⟩, ?_⟩
    exact fin0 (by simp [valRead, hnone])
end Ab

namespace Ab
open Go Go.Proofs
set_option maxRecDepth 10000
set_option maxHeartbeats 4000000
set_option linter.unusedSimpArgs false
set_option linter.unusedVariables false

/-- The law, with no program in sight. -/
structure LawTV (t : Ty) : Prop where
  ok : valOk t (nought t) = true
  read : valRead (valText (nought t)) = some (nought t)
  len : (valText (nought t)).length ≤ 1000000000
  b : ∃ m, m < 10 ∧ vlB m (nought t)
  same : sameVl (nought t) (nought t) = true
  neg : valOk t (.mk (-1) []) = false

/-- laws.FnTypeValue -/
def S_l_FnTypeValue : Spec := fun args O Q => ∃ (l : List UInt8), args = [.d (.sl 1 (byteRows l))] ∧ O = [] ∧ Q (bv true) []
theorem v_l_FnTypeValue {B : World} (hB : Tabs B) (law : ∀ t, tyOk 4 t = true → LawTV t) : Valid PG B l_FnTypeValue S_l_FnTypeValue := by
  refine valid_of (Γ := [(s_DrawTypeOk, ⟨[], S_s_DrawTypeOk⟩), (i_TypeOk, ⟨[], STypeOk⟩), (s_TypeOk, ⟨[], STypeOk⟩), (l_lhNought, ⟨[], S_l_lhNought 10⟩), (i_ValRead, ⟨[], S_i_ValRead⟩), (i_ValText, ⟨[], S_i_ValText⟩), (i_ValOk, ⟨[], S_i_ValOk⟩), (l_lhVal, ⟨[], S_l_lhVal 10⟩)]) wide tok
    ((((((((AllValid.nil.cons (v_l_lhVal 10)).cons v_i_ValOk).cons (v_i_ValText hB)).cons (v_i_ValRead hB)).cons (v_l_lhNought 10)).cons v_s_TypeOk).cons v_i_TypeOk).cons v_s_DrawTypeOk) g_l_FnTypeValue rfl rfl ?_
  rintro _ _ Q ⟨l, rfl, rfl, hQ⟩
  have fin : ∀ b : Bool, b = true → wkQ Q (bv b) [] := fun b h => ⟨_, _, Wk.rfl, WkOs.rfl, by subst h; exact hQ⟩
  conv => whnf
  refine ⟨fun h => ?_, fun h => ?_⟩
  · conv => whnf
    refine ⟨[], ⟨rfl, rfl⟩, ?_⟩
    exact fin _ rfl
  · conv => whnf
    refine ⟨_, _, WkL.rfl, WkOs.rfl, l, rfl, rfl, ?_⟩
    intro t _
    conv => whnf
    refine ⟨Nat.le_of_ble_eq_true rfl, ?_⟩
    conv => whnf
    refine ⟨_, _, WkL.rfl, WkOs.rfl, t, rfl, rfl, ?_⟩
    conv => whnf
    refine ⟨Nat.le_of_ble_eq_true rfl, ?_⟩
    conv => whnf
    refine ⟨_, _, WkL.rfl, WkOs.rfl, t, rfl, rfl, ?_⟩
    conv => whnf
    refine ⟨Nat.le_of_ble_eq_true rfl, ?_⟩
    conv => whnf
    refine Br.no (by simp) ?_
    conv => whnf
    refine ⟨fun h2 => ?_, fun h2 => ?_⟩
    · conv => whnf
      refine ⟨_, _, WkL.rfl, WkOs.rfl, t, rfl, rfl, ?_⟩
      conv => whnf
      refine ⟨Nat.le_of_ble_eq_true rfl, ?_⟩
      conv => whnf
      refine ⟨[], ⟨rfl, rfl⟩, ?_⟩
      exact fin _ (by simp)
    · have hok : tyOk 4 t = true := by simpa using h2
      obtain ⟨l1, l2, l3, ⟨mb, l4, l5⟩, l6, l7⟩ := law t hok
      conv => whnf
      refine ⟨_, _, WkL.rfl, WkOs.rfl, 4, t, by omega, hok, rfl, rfl, ?_⟩
      generalize hv : nought t = v at *
      conv => whnf
      refine ⟨Nat.le_of_ble_eq_true rfl, ?_⟩
      conv => whnf
      refine ⟨_, _, WkL.rfl, WkOs.rfl, v, rfl, rfl, ?_⟩
      conv => whnf
      refine ⟨Nat.le_of_ble_eq_true rfl, ?_⟩
      conv => whnf
      refine ⟨_, _, WkL.rfl, WkOs.rfl, valText v, l3, rfl, rfl, fun v' hv' => ?_, fun hn => by rw [l2] at hn; cases hn⟩
      have : v = v' := by rw [l2] at hv'; simpa using hv'
      subst this
      conv => whnf
      refine ⟨Nat.le_of_ble_eq_true rfl, ?_⟩
      conv => whnf
      refine ⟨_, _, WkL.rfl, WkOs.rfl, t, v, rfl, rfl, ?_⟩
      conv => whnf
      refine ⟨Nat.le_of_ble_eq_true rfl, ?_⟩
      conv => whnf
      refine Br.yes l1 ?_
      conv => whnf
      refine Br.yes rfl ?_
      conv => whnf
      refine ⟨_, _, WkL.rfl, WkOs.rfl, mb, v, v, l4, l5, rfl, rfl, ?_⟩
      conv => whnf
      refine ⟨Nat.le_of_ble_eq_true rfl, ?_⟩
      conv => whnf
      refine Br.yes l6 ?_
      conv => whnf
      refine ⟨_, _, WkL.cons Wk.rfl (WkL.cons (wk_v0 (-1)) WkL.nil), WkOs.rfl, t, .mk (-1) [], rfl, rfl, ?_⟩
      conv => whnf
      refine ⟨Nat.le_of_ble_eq_true rfl, ?_⟩
      conv => whnf
      refine ⟨[], ⟨rfl, rfl⟩, ?_⟩
      exact fin _ (by rw [l7]; rfl)
end Ab

namespace Ab
open Go Go.Proofs
set_option maxRecDepth 10000
set_option linter.unusedSimpArgs false
set_option linter.unusedVariables false

theorem digit_val (k : Nat) (h : k < 10) : (UInt8.ofNat (48 + k)).toNat = 48 + k := by
  have : ∀ k, k < 10 → (UInt8.ofNat (48 + k)).toNat = 48 + k := by decide
  exact this k h
theorem digit_mem (k : Nat) (h : k < 10) : digits.contains (UInt8.ofNat (48 + k)) = true := by
  have : ∀ k, k < 10 → digits.contains (UInt8.ofNat (48 + k)) = true := by decide
  exact this k h

theorem dec_digits : ∀ (n u : Nat), u < n → ∀ b ∈ Lib.decDigits u, digits.contains b = true
  | 0, u, h, _, _ => by omega
  | n + 1, u, h, b, hb => by
    rw [Lib.decDigits] at hb
    split at hb
    · rename_i hu
      simp only [List.mem_singleton] at hb
      rw [hb]; exact digit_mem u hu
    · rename_i hu
      rcases List.mem_append.1 hb with hb | hb
      · exact dec_digits n (u / 10) (by omega) b hb
      · simp only [List.mem_singleton] at hb
        rw [hb]; exact digit_mem _ (Nat.mod_lt _ (by omega))

theorem parse_app : ∀ (l : List UInt8) (acc v k : Nat), k < 10 → v < 1844674407370955161 → Lib.parseUint10 acc l = .ok v → Lib.parseUint10 acc (l ++ [UInt8.ofNat (48 + k)]) = .ok (v * 10 + k)
  | [], acc, v, k, hk, hv, h => by
    simp only [Lib.parseUint10] at h
    injection h with h
    subst h
    have hd := digit_val k hk
    simp only [List.nil_append, Lib.parseUint10, hd]
    rw [if_pos (by omega), if_neg (by omega), if_neg (by omega)]
    congr 1; omega
  | c :: r, acc, v, k, hk, hv, h => by
    simp only [List.cons_append, Lib.parseUint10] at h ⊢
    split at h
    · rename_i hc
      rw [if_pos hc]
      split at h
      · cases h
      · rename_i h2
        rw [if_neg h2]
        split at h
        · cases h
        · rename_i h3
          rw [if_neg h3]
          exact parse_app r _ v k hk hv h
    · cases h

theorem parse_dec : ∀ (n u : Nat), u < n → u < 1000000 → Lib.parseUint10 0 (Lib.decDigits u) = .ok u
  | 0, u, h, _ => by omega
  | n + 1, u, h, h' => by
    rw [Lib.decDigits]
    split
    · rename_i hu
      have := parse_app [] 0 0 u hu (by omega) rfl
      simpa using this
    · rename_i hu
      have ih := parse_dec n (u / 10) (by omega) (by omega)
      have := parse_app _ 0 _ (u % 10) (Nat.mod_lt _ (by omega)) (by omega) ih
      rw [this]
      congr 1; omega

theorem dec_ne (u : Nat) : Lib.decDigits u ≠ [] := by
  rw [Lib.decDigits]; split <;> simp

theorem atoi_dec (u : Nat) (h : u < 1000000) : Lib.atoiAll (Lib.decDigits u) = .ok (u : Int) := by
  have hp := parse_dec (u + 1) u (by omega) h
  have hd := dec_digits (u + 1) u (by omega)
  cases hl : Lib.decDigits u with
  | nil => exact absurd hl (dec_ne u)
  | cons c r =>
    rw [hl] at hp hd
    have hc := hd c (by simp)
    have hdig : ∀ b : UInt8, digits.contains b = true → b.toNat ≠ 43 ∧ b.toNat ≠ 45 := by
      intro b hb
      simp [digits] at hb
      rcases hb with rfl | rfl | rfl | rfl | rfl | rfl | rfl | rfl | rfl | rfl <;> decide
    obtain ⟨h1, h2⟩ := hdig c hc
    unfold Lib.atoiAll
    simp only [h1, h2, or_self, if_false, not_false_eq_true, true_and, false_and]
    have : Lib.parseMag (c :: r) = .ok u := by
      unfold Lib.parseMag
      rw [if_neg (by simp)]; exact hp
    rw [this]
    dsimp only
    rw [if_neg (by omega)]

theorem itoa_nat {n : Int} (h0 : 0 ≤ n) : Lib.itoa n = Lib.decDigits n.toNat := by
  unfold Lib.itoa
  rw [if_neg (by omega)]

/-- what follows begins with no digit -/
def stop (rest : List UInt8) : Prop := ∀ b, rest.head? = some b → digits.contains b = false

theorem trim_app (ds rest : List UInt8) (hd : ∀ b ∈ ds, digits.contains b = true) (hr : stop rest) : Lib.trimLeftS (ds ++ rest) digits = rest := by
  unfold Lib.trimLeftS
  induction ds with
  | nil =>
    cases rest with
    | nil => rfl
    | cons b r =>
      have := hr b rfl
      simp only [List.nil_append, List.dropWhile]
      rw [this]
  | cons c ds ih =>
    have := hd c (by simp)
    simp only [List.cons_append, List.dropWhile]
    rw [this]
    exact ih (fun b hb => hd b (by simp [hb]))

theorem pre_cons (c d : UInt8) (r : List UInt8) : Lib.hasPrefix (c :: r) [d] = (d == c) := by
  simp [Lib.hasPrefix, List.isPrefixOf]

/-- A value is read back from its text. -/
theorem rdv_vw : ∀ (d : Nat) (v : Vl), (vt d v).2 = true → ∀ rest, stop rest → rdv d (vw d v ++ rest) = some (v, rest)
  | d, .mk n ks, h, rest, hr => by
    obtain ⟨j, rfl, ⟨rfl, h0, h1⟩ | ⟨a, b, rfl, rfl, h1, h2⟩⟩ := vt_kids h
    · have hdig := dec_digits (n.toNat + 1) n.toNat (by omega)
      have htr := trim_app (Lib.decDigits n.toNat) rest hdig hr
      have hat := atoi_dec n.toNat (by omega)
      simp only [vw, itoa_nat h0, rdv]
      have hpre : Lib.hasPrefix (Lib.decDigits n.toNat ++ rest) [40] = false := by
        cases hl : Lib.decDigits n.toNat with
        | nil => exact absurd hl (dec_ne _)
        | cons c r =>
          rw [hl] at hdig
          have hc := hdig c (by simp)
          have hd2 : ∀ b : UInt8, digits.contains b = true → ((40 : UInt8) == b) = false := by
            intro b hb
            simp [digits] at hb
            rcases hb with rfl | rfl | rfl | rfl | rfl | rfl | rfl | rfl | rfl | rfl <;> decide
          rw [List.cons_append, pre_cons]
          exact hd2 c hc
      rw [hpre, htr]
      simp only [cond_false]
      have e : (Lib.decDigits n.toNat ++ rest).take ((Lib.decDigits n.toNat ++ rest).length - rest.length) = Lib.decDigits n.toNat := by
        simp
      rw [e, hat]
      have : (n.toNat : Int) = n := by omega
      simp [this]
    · have ha := rdv_vw j a h1
      have hb := rdv_vw j b h2
      have hj : j ≠ 0 := by rintro rfl; simp [vt] at h1
      have s1 : ∀ r, stop (44 :: r) := fun r b hb => by simp at hb; subst hb; decide
      have s2 : ∀ r, stop (41 :: r) := fun r b hb => by simp at hb; subst hb; decide
      have e : vw (j + 1) (.mk 0 [a, b]) ++ rest = 40 :: (vw j a ++ (44 :: (vw j b ++ (41 :: rest)))) := by simp [vw]
      rw [e]
      simp only [rdv, pre_cons, beq_self_eq_true, cond_true, if_neg hj, List.drop_succ_cons, List.drop_zero]
      rw [ha _ (s1 _)]
      simp only [pre_cons, beq_self_eq_true, cond_true, List.drop_succ_cons, List.drop_zero]
      rw [hb _ (s2 _)]
      simp only [pre_cons, beq_self_eq_true, cond_true, List.drop_succ_cons, List.drop_zero]

theorem valRead_text {v : Vl} (h : (vt 4 v).2 = true) : valRead (valText v) = some v := by
  have e : valText v = vw 4 v := by simp [valText, h]
  have := rdv_vw 4 v h [] (fun b hb => by simp at hb)
  rw [List.append_nil] at this
  simp [valRead, e, this]

theorem vt_nought : ∀ (d : Nat) (t : Ty), tyOk d t = true → (vt d (nought t)).2 = true ∧ sameTy (vt d (nought t)).1 t = true
  | d, .mk ks, h => by
    obtain ⟨j, rfl, hl, hk⟩ := tyOk_kids h
    match ks, hl, hk with
    | [], _, _ => simp [nought, vt, sameTy, sameTys]
    | [a], _, _ => simp [tyOk] at h
    | [a, b], _, hk =>
      obtain ⟨h1, h2⟩ := vt_nought j a (hk a (by simp))
      obtain ⟨h3, h4⟩ := vt_nought j b (hk b (by simp))
      simp [nought, vt, h1, h3, sameTy, sameTys, h2, h4]
    | _ :: _ :: _ :: _, hl, _ => simp at hl

theorem vlB_nought : ∀ (d : Nat) (t : Ty), tyOk d t = true → vlB d (nought t)
  | d, .mk ks, h => by
    obtain ⟨j, rfl, hl, hk⟩ := tyOk_kids h
    rw [nought_mk]
    refine ⟨by simp; omega, fun k hk' => ?_⟩
    simp only [List.mem_map] at hk'
    obtain ⟨t, ht, rfl⟩ := hk'
    exact vlB_nought j t (hk t ht)

theorem sameVl_rfl : ∀ (d : Nat) (v : Vl), vlB d v → sameVl v v = true
  | 0, _, h => h.elim
  | d + 1, .mk n ks, h => by
    obtain ⟨_, hk⟩ := h
    rw [sameVl_mk]
    have : ∀ l : List Vl, (∀ k ∈ l, vlB d k) → sameVls l l = true := by
      intro l
      induction l with
      | nil => intro _; simp [sameVls]
      | cons x xs ih =>
        intro hx
        simp [sameVls, sameVl_rfl d x (hx x (by simp)), ih (fun k hk => hx k (by simp [hk]))]
    simp [this ks hk]

theorem lawTV (t : Ty) (h : tyOk 4 t = true) : LawTV t := by
  obtain ⟨h1, h2⟩ := vt_nought 4 t h
  have hb := vlB_nought 4 t h
  refine ⟨by simp [valOk, h, h1, h2], valRead_text h1, ?_, ⟨4, by omega, hb⟩, sameVl_rfl 4 _ hb, by simp [valOk, vt]⟩
  have := vw_len 4 _ h1
  have h3 : Lw 4 ≤ 10000 := by decide
  simp only [valText, h1, cond_true]
  omega

/-- laws.FnTypeValue: true, whatever the input. -/
theorem v_l_FnTypeValue' {B : World} (hB : Tabs B) : Valid PG B l_FnTypeValue S_l_FnTypeValue := v_l_FnTypeValue hB lawTV
end Ab

namespace Ab
open Go Go.Proofs Go.ChangeShapes Go.WideShapes Go.RowKit Go.Shelf
set_option maxRecDepth 10000
set_option linter.unusedSimpArgs false
set_option linter.unusedVariables false

/-- What is there at the start, as data. -/
def startG (W : World) : Gh :=
  { imm := fun b => match W.heap[b]? with | some (.cells c _ _) => some c.toList | _ => none, own := fun _ => none, n := 0, blk := fun _ => 0, row := fun _ => (0, .nilFunc) }

theorem start_sat (W : World) : Sat W (startG W) [] := by
  refine ⟨rfl, fun b ys hb => ?_, fun k o hk => by simp at hk, fun b k hb => by cases hb⟩
  simp only [startG] at hb
  split at hb
  · rename_i c t f h
    simp at hb; subst hb
    exact ⟨c, t, f, h, List.prefix_refl _⟩
  · cases hb

theorem start_gi (W : World) : GI W W (startG W) := ⟨Nat.le_refl _, rfl, rfl, fun _ _ => rfl, fun _ _ => rfl⟩

/-- A function's contract, from the start. -/
theorem calls_start {P : Program} {W : World} {f : Nat} {S : Spec} (h : Valid P W f S) (hent : ∀ args w, (callFunc f args).run P w = .ok (.enter f args) w) {args : List AV} {us : List Value} {Q : AV → List Obj → Prop}
    (hv : ValL (startG W) args us) (hs : S args [] Q) :
    Calls P f us.toArray W (fun e w' => ∃ u, e = .returned u ∧ ∃ r O' g', Q r O' ∧ Val g' r u ∧ Below W.heap.size W w') := by
  rcases h W (startG W) [] args us Q (start_gi W) (start_sat W) (fun k hk => absurd hk (Nat.not_lt_zero k)) hv hs with ⟨u, w', h1, _⟩ | ⟨_, h2⟩
  · rw [hent] at h1; cases h1
  · refine h2.mono ?_
    rintro e w' ⟨u, rfl, r, O', g', h1, h2, h3, h4, h5⟩
    exact ⟨u, rfl, r, O', g', h1, h2, h5.os, h5.tape, h5.out, h5.size, fun k hk => h5.heap k hk rfl⟩

theorem byteRows_map (l : List UInt8) : byteRows l = l.map fun c => [DV.i .u8 c.toNat] := by
  induction l with
  | nil => rfl
  | cons c l ih => simp [byteRows, ih]

/-- bytes that came in, as data -/
theorem bytes_in {W : World} {a : Addr} {cap : Nat} {l : List UInt8} (hc : l.length ≤ cap) (h : ∀ i (hi : i < l.length), W.cell? (a.add i) = some (.int .u8 (l[i]).toNat)) :
    Val (startG W) (.d (.sl 1 (byteRows l))) (.slice (some a) l.length cap) := by
  refine ⟨some a, cap, by rw [byteRows_len], by rw [byteRows_len]; exact hc, ?_⟩
  by_cases hl : l = []
  · left; subst hl; rfl
  · right
    have hpos : 0 < l.length := List.length_pos_iff.2 hl
    obtain ⟨b, o, spot⟩ := a
    have hspot : spot = none := by
      have := World.cell?_spot (h 0 hpos)
      simpa [Addr.add] using this
    subst hspot
    refine ⟨b, o, rfl, ?_⟩
    have key : ∀ (l' : List UInt8) (k : Nat), (∀ i (hi : i < l'.length), rd (startG W).imm b (o + k + i) = some (.int .u8 (l'[i]).toNat)) → DRows (startG W).imm 1 b (o + k) (byteRows l') := by
      intro l'
      induction l' with
      | nil => intro k _; trivial
      | cons c l' ih =>
        intro k hk
        have h0 : rd (startG W).imm b (o + k) = some (.int .u8 c.toNat) := by
          have := hk 0 (by simp)
          rw [Nat.add_zero] at this
          exact this
        refine ⟨rfl, ⟨⟨_, h0, rfl⟩, trivial⟩, ?_⟩
        have := ih (k + 1) (fun i hi => by
          have := hk (i + 1) (by simpa using hi)
          simpa [Nat.add_assoc, Nat.add_comm 1 i] using this)
        simpa [Nat.add_assoc] using this
    have := key l 0 (fun i hi => by
      have hi' := h i hi
      simp only [add_none] at hi'
      simp only [Ab.rd, startG, Nat.add_zero]
      simp only [World.cell?] at hi'
      cases hh : W.heap[b]? with
      | none => rw [hh] at hi'; simp at hi'
      | some ob =>
        rw [hh] at hi'
        cases ob with
        | cells c t f => simpa using hi'
        | _ => simp at hi')
    simpa using this

/-- a law of bytes, at a start -/
theorem law_start {W : World} {f : Nat} {fn : Func} (hfn : PG.funcs[f]? = some fn) (hname : (fn.name == "runtime.NumGoroutine") = false) {c : Code} (hb : fn.body = some c) (hv : Valid PG W f S_l_FnTypeValue) {a : Option Addr} {cap : Nat} {l : List UInt8}
    (h : Val (startG W) (.d (.sl 1 (byteRows l))) (.slice a l.length cap)) :
    Calls PG f #[.slice a l.length cap] W (fun e w' => e = .returned (.bool true) ∧ Below W.heap.size W w') := by
  refine (calls_start (Q := fun r O => r = bv true) hv (fun args w => enters_of hfn hname hb args w) (args := [.d (.sl 1 (byteRows l))]) (us := [.slice a l.length cap]) ⟨h, trivial⟩ ⟨l, rfl, rfl, rfl⟩).mono ?_
  rintro e w' ⟨u, rfl, r, O', g', rfl, hv, hb⟩
  have : u = .bool true := hv
  subst this
  exact ⟨rfl, hb⟩
end Ab
