/- The reference's own reading of values: contracts. -/
import Derived.Test.YtnhjclenankhoaaDoorFrP
set_option linter.all false
namespace Ab
open Go Go.Proofs
set_option maxRecDepth 10000
set_option maxHeartbeats 4000000
set_option linter.all false

def isDig (c : UInt8) : Bool := decide (48 ≤ c.toNat) && decide (c.toNat ≤ 57)
def decVal (s : List UInt8) : Nat := s.foldl (fun n c => n * 10 + (c.toNat - 48)) 0
def l2dec (s : List UInt8) : Int := if 1 ≤ s.length ∧ s.length ≤ 4 ∧ s.all isDig = true ∧ Lib.decDigits (decVal s) = s then decVal s else -1

theorem decVal_snoc (s : List UInt8) (c : UInt8) : decVal (s ++ [c]) = decVal s * 10 + (c.toNat - 48) := by simp [decVal]
theorem decVal_lt : ∀ (n : Nat) (s : List UInt8), s.length = n → s.all isDig = true → decVal s < 10 ^ n
  | 0, s, h, _ => by
    have : s = [] := List.eq_nil_of_length_eq_zero h
    subst this; simp [decVal]
  | n + 1, s, h, hd => by
    have hne : s ≠ [] := by rintro rfl; simp at h
    have e := List.dropLast_concat_getLast hne
    rw [← e] at hd ⊢
    rw [decVal_snoc]
    simp only [List.all_append, Bool.and_eq_true, List.all_cons, List.all_nil, Bool.and_true, isDig, decide_eq_true_eq] at hd
    have := decVal_lt n s.dropLast (by simp [h]) hd.1
    rw [Nat.pow_succ]; omega

/-- spec.l2Dec -/
def S_s_l2Dec : Spec := fun args O Q => ∃ (s : List UInt8), args = [.d (.s s)] ∧ O = [] ∧ Q (iv (l2dec s)) []
theorem v_s_l2Dec {B : World} : Valid PG B s_l2Dec S_s_l2Dec := by
  refine valid_of (Γ := [(s_l6Dec, ⟨[], S_s_l6Dec 100000⟩)]) wide tok (AllValid.nil.cons (v_s_l6Dec 100000)) g_s_l2Dec rfl rfl ?_
  rintro _ _ Q ⟨s, rfl, rfl, hQ⟩
  have fin : ∀ n : Int, l2dec s = n → wkQ Q (iv n) [] := fun n h => ⟨_, _, Wk.rfl, WkOs.rfl, by subst h; exact hQ⟩
  conv => whnf
  first
    | refine br_dec (fun h => ?_) (fun h => ?_)
    | refine br_eq (fun h => ?_) (fun h => ?_)
    | refine br_ne (fun h => ?_) (fun h => ?_)
    | refine br_neq (fun h => ?_) (fun h => ?_)
    | refine br_not (fun h => ?_) (fun h => ?_)
    | refine Br.mk (fun h => ?_) (fun h => ?_)
  all_goals (try simp only [List.length_append, List.length_cons, List.length_nil, List.length_map, List.length_take, List.length_drop, maxRow, byteRows_len, Ty.kids, Vl.kids, Vl.num] at h)
  all_goals conv => whnf
  · refine ⟨[], ⟨rfl, rfl⟩, ?_⟩
    conv => whnf
    refine fin _ ?_
    rw [l2dec, if_neg (by omega)]
  first
    | refine br_dec (fun h2 => ?_) (fun h2 => ?_)
    | refine br_eq (fun h2 => ?_) (fun h2 => ?_)
    | refine br_ne (fun h2 => ?_) (fun h2 => ?_)
    | refine br_neq (fun h2 => ?_) (fun h2 => ?_)
    | refine br_not (fun h2 => ?_) (fun h2 => ?_)
    | refine Br.mk (fun h2 => ?_) (fun h2 => ?_)
  all_goals (try simp only [List.length_append, List.length_cons, List.length_nil, List.length_map, List.length_take, List.length_drop, maxRow, byteRows_len, Ty.kids, Vl.kids, Vl.num] at h2)
  all_goals conv => whnf
  · refine ⟨[], ⟨rfl, rfl⟩, ?_⟩
    conv => whnf
    refine fin _ ?_
    rw [l2dec, if_neg (by omega)]
  refine ⟨[], Int, fun i => 0 ≤ i ∧ i ≤ s.length ∧ (s.take i.toNat).all isDig = true, fun i => (s.length - i).toNat, fun i => [(3, iv (decVal (s.take i.toNat))), (4, iv i)],
      fun i => [], 0, ⟨by omega, by omega, by simp⟩, ?_⟩
  conv => whnf
  refine ⟨⟨rfl, rfl, WkOs.rfl, ⟨Wk.rfl, Wk.rfl, trivial⟩, rfl⟩, ?_⟩
  intro i ⟨hi0, hi1, hi2⟩
  conv => whnf
  first
    | refine br_dec (fun h3 => ?_) (fun h3 => ?_)
    | refine br_eq (fun h3 => ?_) (fun h3 => ?_)
    | refine br_ne (fun h3 => ?_) (fun h3 => ?_)
    | refine br_neq (fun h3 => ?_) (fun h3 => ?_)
    | refine br_not (fun h3 => ?_) (fun h3 => ?_)
    | refine Br.mk (fun h3 => ?_) (fun h3 => ?_)
  all_goals (try simp only [List.length_append, List.length_cons, List.length_nil, List.length_map, List.length_take, List.length_drop, maxRow, byteRows_len, Ty.kids, Vl.kids, Vl.num] at h3)
  all_goals conv => whnf
  · have hlt : i.toNat < s.length := by omega
    have bad : isDig s[i.toNat] = false → l2dec s = -1 := fun hb => by
      have : s.all isDig = false := List.all_eq_false.2 ⟨_, List.getElem_mem hlt, by simp [hb]⟩
      rw [l2dec, if_neg (by simp [this])]
    have hc := (s[i.toNat]).toNat_lt
    first | refine str_at (by omega) (by (try simp only [List.length_append, List.length_cons, List.length_nil, List.length_map, List.length_take, List.length_drop, maxRow, byteRows_len, Ty.kids, Vl.kids, Vl.num]); omega) ?_ | refine str_at' (by (try simp only [List.length_append, List.length_cons, List.length_nil, List.length_map, List.length_take, List.length_drop, maxRow, byteRows_len, Ty.kids, Vl.kids, Vl.num]); omega) ?_
    conv => whnf
    first
      | refine br_dec (fun h4 => ?_) (fun h4 => ?_)
      | refine br_eq (fun h4 => ?_) (fun h4 => ?_)
      | refine br_ne (fun h4 => ?_) (fun h4 => ?_)
      | refine br_neq (fun h4 => ?_) (fun h4 => ?_)
      | refine br_not (fun h4 => ?_) (fun h4 => ?_)
      | refine Br.mk (fun h4 => ?_) (fun h4 => ?_)
    all_goals (try simp only [List.length_append, List.length_cons, List.length_nil, List.length_map, List.length_take, List.length_drop, maxRow, byteRows_len, Ty.kids, Vl.kids, Vl.num] at h4)
    all_goals conv => whnf
    · refine ⟨[], ⟨rfl, rfl⟩, ?_⟩
      conv => whnf
      refine fin _ (bad (by simp [isDig]; omega))
    first | refine str_at (by omega) (by (try simp only [List.length_append, List.length_cons, List.length_nil, List.length_map, List.length_take, List.length_drop, maxRow, byteRows_len, Ty.kids, Vl.kids, Vl.num]); omega) ?_ | refine str_at' (by (try simp only [List.length_append, List.length_cons, List.length_nil, List.length_map, List.length_take, List.length_drop, maxRow, byteRows_len, Ty.kids, Vl.kids, Vl.num]); omega) ?_
    conv => whnf
    first
      | refine br_dec (fun h5 => ?_) (fun h5 => ?_)
      | refine br_eq (fun h5 => ?_) (fun h5 => ?_)
      | refine br_ne (fun h5 => ?_) (fun h5 => ?_)
      | refine br_neq (fun h5 => ?_) (fun h5 => ?_)
      | refine br_not (fun h5 => ?_) (fun h5 => ?_)
      | refine Br.mk (fun h5 => ?_) (fun h5 => ?_)
    all_goals (try simp only [List.length_append, List.length_cons, List.length_nil, List.length_map, List.length_take, List.length_drop, maxRow, byteRows_len, Ty.kids, Vl.kids, Vl.num] at h5)
    all_goals conv => whnf
    · refine ⟨[], ⟨rfl, rfl⟩, ?_⟩
      conv => whnf
      refine fin _ (bad (by simp [isDig]; omega))
    have hb := decVal_lt _ (s.take i.toNat) rfl hi2
    have hb2 : 10 ^ (s.take i.toNat).length ≤ 10 ^ 4 := Nat.pow_le_pow_right (by omega) (by simp; omega)
    repeat (first
      | (refine rng_i64 (by omega) (by omega) ?_; conv => whnf)
      | (refine Req.mk (Nat.le_of_ble_eq_true rfl) ?_; conv => whnf)
      | (refine Req.mk (by omega) ?_; conv => whnf)
      | (refine Req.mk (by (try simp only [List.length_append, List.length_cons, List.length_nil, List.length_map, List.length_take, List.length_drop, maxRow, byteRows_len, Ty.kids, Vl.kids, Vl.num]); omega) ?_; conv => whnf)
      | (refine rng_u8 (by omega) (by omega) ?_; conv => whnf)
      | (refine Req.mk (by (conv => whnf); (repeat (first | (refine rng_i64 (by omega) (by omega) ?_; conv => whnf) | (refine Req.mk (Nat.le_of_ble_eq_true rfl) ?_; conv => whnf) | (refine Req.mk (by omega) ?_; conv => whnf) | (refine Req.mk (by (try simp only [List.length_append, List.length_cons, List.length_nil, List.length_map, List.length_take, List.length_drop, maxRow, byteRows_len, Ty.kids, Vl.kids, Vl.num]); omega) ?_; conv => whnf) | (refine rng_u8 (by omega) (by omega) ?_; conv => whnf))); exact Wk.rfl) ?_; conv => whnf)
      )
    first | refine str_at (by omega) (by (try simp only [List.length_append, List.length_cons, List.length_nil, List.length_map, List.length_take, List.length_drop, maxRow, byteRows_len, Ty.kids, Vl.kids, Vl.num]); omega) ?_ | refine str_at' (by (try simp only [List.length_append, List.length_cons, List.length_nil, List.length_map, List.length_take, List.length_drop, maxRow, byteRows_len, Ty.kids, Vl.kids, Vl.num]); omega) ?_
    conv => whnf
    repeat (first
      | (refine rng_i64 (by omega) (by omega) ?_; conv => whnf)
      | (refine Req.mk (Nat.le_of_ble_eq_true rfl) ?_; conv => whnf)
      | (refine Req.mk (by omega) ?_; conv => whnf)
      | (refine Req.mk (by (try simp only [List.length_append, List.length_cons, List.length_nil, List.length_map, List.length_take, List.length_drop, maxRow, byteRows_len, Ty.kids, Vl.kids, Vl.num]); omega) ?_; conv => whnf)
      | (refine rng_u8 (by omega) (by omega) ?_; conv => whnf)
      | (refine Req.mk (by (conv => whnf); (repeat (first | (refine rng_i64 (by omega) (by omega) ?_; conv => whnf) | (refine Req.mk (Nat.le_of_ble_eq_true rfl) ?_; conv => whnf) | (refine Req.mk (by omega) ?_; conv => whnf) | (refine Req.mk (by (try simp only [List.length_append, List.length_cons, List.length_nil, List.length_map, List.length_take, List.length_drop, maxRow, byteRows_len, Ty.kids, Vl.kids, Vl.num]); omega) ?_; conv => whnf) | (refine rng_u8 (by omega) (by omega) ?_; conv => whnf))); exact Wk.rfl) ?_; conv => whnf)
      )
    have e : (i + 1).toNat = i.toNat + 1 := by omega
    have e2 : s.take (i.toNat + 1) = s.take i.toNat ++ [s[i.toNat]] := by rw [List.take_add_one]; simp [hlt]
    have e3 : ((decVal (s.take (i.toNat + 1)) : Nat) : Int) = (decVal (s.take i.toNat)) * 10 + ((s[i.toNat]).toNat - 48) := by
      rw [e2, decVal_snoc]; omega
    refine ⟨i + 1, ⟨by omega, by omega, e ▸ take_all hlt hi2 (by simp [isDig]; omega)⟩, by dsimp only; omega, rfl, rfl, WkOs.rfl, ⟨Wk.of_eq ?_, Wk.rfl, trivial⟩, rfl⟩
    rw [e, e3]; rfl
  · have hi : i.toNat = s.length := by omega
    rw [hi, List.take_length] at hi2 ⊢
    have hb := decVal_lt _ s rfl hi2
    have hb2 : 10 ^ s.length ≤ 10 ^ 4 := Nat.pow_le_pow_right (by omega) (by omega)
    refine ⟨_, _, WkL.rfl, WkOs.rfl, decVal s, rfl, rfl, by omega, by omega, by omega, ?_⟩
    repeat (first
      | (refine rng_i64 (by omega) (by omega) ?_; conv => whnf)
      | (refine Req.mk (Nat.le_of_ble_eq_true rfl) ?_; conv => whnf)
      | (refine Req.mk (by omega) ?_; conv => whnf)
      | (refine Req.mk (by (try simp only [List.length_append, List.length_cons, List.length_nil, List.length_map, List.length_take, List.length_drop, maxRow, byteRows_len, Ty.kids, Vl.kids, Vl.num]); omega) ?_; conv => whnf)
      | (refine rng_u8 (by omega) (by omega) ?_; conv => whnf)
      | (refine Req.mk (by (conv => whnf); (repeat (first | (refine rng_i64 (by omega) (by omega) ?_; conv => whnf) | (refine Req.mk (Nat.le_of_ble_eq_true rfl) ?_; conv => whnf) | (refine Req.mk (by omega) ?_; conv => whnf) | (refine Req.mk (by (try simp only [List.length_append, List.length_cons, List.length_nil, List.length_map, List.length_take, List.length_drop, maxRow, byteRows_len, Ty.kids, Vl.kids, Vl.num]); omega) ?_; conv => whnf) | (refine rng_u8 (by omega) (by omega) ?_; conv => whnf))); exact Wk.rfl) ?_; conv => whnf)
      )
    have e : ((decVal s : Nat) : Int).toNat = decVal s := by omega
    rw [e]
    refine ⟨fun h4 => ?_, fun h4 => ?_⟩
    · conv => whnf
      refine ⟨[], ⟨rfl, rfl⟩, ?_⟩
      conv => whnf
      refine fin _ ?_
      simp at h4
      rw [l2dec, if_neg (by simp [h4])]
    · conv => whnf
      refine ⟨[], ⟨rfl, rfl⟩, ?_⟩
      conv => whnf
      refine fin _ ?_
      simp at h4
      rw [l2dec, if_pos ⟨by omega, by omega, hi2, h4⟩]

/-- where a run of digits ends -/
def runD (s : List UInt8) (at_ : Nat) : Nat := at_ + ((s.drop at_).takeWhile isDig).length
theorem runD_le {s : List UInt8} {a : Nat} : runD s a ≤ max a s.length := by
  have := (List.takeWhile_sublist isDig (l := s.drop a)).length_le
  simp only [List.length_drop] at this
  unfold runD; omega

def l31 (s : List UInt8) : Nat → Nat → Vl × Nat
  | 0, a => (if s.length < a then .mk (-1) [] else .mk (l2dec ((s.take (runD s a)).drop a)) [], runD s a)
  | d + 1, a => if s[a]? = some 40 then (.mk 0 [(l31 s d (a + 1)).1, (l31 s d ((l31 s d (a + 1)).2 + 1)).1], (l31 s d ((l31 s d (a + 1)).2 + 1)).2 + 1)
    else (if s.length < a then .mk (-1) [] else .mk (l2dec ((s.take (runD s a)).drop a)) [], runD s a)
theorem l31_le (s : List UInt8) : ∀ (d a : Nat), (l31 s d a).2 + 3 ≤ max a s.length + 6 * 2 ^ d
  | 0, a => by have := runD_le (s := s) (a := a); simp only [l31]; omega
  | d + 1, a => by
    unfold l31
    split
    · have h1 := l31_le s d (a + 1)
      have h2 := l31_le s d ((l31 s d (a + 1)).2 + 1)
      rw [Nat.pow_succ]
      have : 1 ≤ 2 ^ d := Nat.one_le_two_pow
      dsimp only
      omega
    · have := runD_le (s := s) (a := a)
      have : 1 ≤ 2 ^ d := Nat.one_le_two_pow
      rw [Nat.pow_succ]; dsimp only; omega

theorem takeWhile_len {α : Type} {p : α → Bool} : ∀ {l : List α} {j : Nat}, j ≤ l.length → (l.take j).all p = true → (∀ h : j < l.length, p l[j] = false) → (l.takeWhile p).length = j
  | [], j, h, _, _ => by simp at h; simp [h]
  | x :: l, 0, _, _, h => by
    have := h (by simp)
    simp only [List.getElem_cons_zero] at this
    simp [List.takeWhile, this]
  | x :: l, j + 1, h, h1, h2 => by
    simp only [List.take_succ_cons, List.all_cons, Bool.and_eq_true] at h1
    have := takeWhile_len (p := p) (l := l) (j := j) (by simpa using h) h1.2 (fun hj => by have := h2 (Nat.succ_lt_succ hj); rwa [List.getElem_cons_succ] at this)
    simp [List.takeWhile, h1.1, this]

/-- spec.l31Val -/
def S_s_l31Val (n : Nat) : Spec := fun args O Q => ∃ (s : List UInt8) (a d : Nat), args = [.d (.s s), iv a, iv d] ∧ O = [] ∧ d < n ∧ n ≤ 20 ∧ s.length ≤ 1000000000 ∧ a ≤ 10000000000 - 10 * 2 ^ d ∧
  Q (.tup [aVl (l31 s d a).1, iv (l31 s d a).2]) []
theorem v_s_l31Val {B : World} : ∀ n, Valid PG B s_l31Val (S_s_l31Val n) := by
  refine valid_lt (fun args O Q ⟨s, a, d, _, _, h1, _⟩ => by omega) fun n ih => ?_
  refine valid_of (Γ := [(s_l31Val, ⟨[], S_s_l31Val n⟩), (s_l2Dec, ⟨[], S_s_l2Dec⟩)]) wide tok ((AllValid.nil.cons v_s_l2Dec).cons ih) g_s_l31Val rfl rfl ?_
  rintro _ _ Q ⟨s, a, d, rfl, rfl, hd, hn, hs, ha, hQ⟩
  have hp : 2 ^ d ≤ 2 ^ 20 := Nat.pow_le_pow_right (by omega) (by omega)
  have fin : ∀ (x : AV) (r : Vl × Nat), l31 s d a = r → Wk x (.tup [aVl r.1, iv r.2]) → wkQ Q x [] := fun x r h hx => ⟨_, _, hx, WkOs.rfl, by subst h; exact hQ⟩
  have ea : (a : Int).toNat = a := by omega
  conv => whnf
  first
    | refine br_dec (fun h1 => ?_) (fun h1 => ?_)
    | refine br_eq (fun h1 => ?_) (fun h1 => ?_)
    | refine br_ne (fun h1 => ?_) (fun h1 => ?_)
    | refine br_neq (fun h1 => ?_) (fun h1 => ?_)
    | refine br_not (fun h1 => ?_) (fun h1 => ?_)
    | refine Br.mk (fun h1 => ?_) (fun h1 => ?_)
  all_goals (try simp only [List.length_append, List.length_cons, List.length_nil, List.length_map, List.length_take, List.length_drop, maxRow, byteRows_len, Ty.kids, Vl.kids, Vl.num] at h1)
  all_goals conv => whnf
  first
    | refine br_dec (fun h2 => ?_) (fun h2 => ?_)
    | refine br_eq (fun h2 => ?_) (fun h2 => ?_)
    | refine br_ne (fun h2 => ?_) (fun h2 => ?_)
    | refine br_neq (fun h2 => ?_) (fun h2 => ?_)
    | refine br_not (fun h2 => ?_) (fun h2 => ?_)
    | refine Br.mk (fun h2 => ?_) (fun h2 => ?_)
  all_goals (try simp only [List.length_append, List.length_cons, List.length_nil, List.length_map, List.length_take, List.length_drop, maxRow, byteRows_len, Ty.kids, Vl.kids, Vl.num] at h2)
  all_goals conv => whnf
  first | refine str_at (by omega) (by (try simp only [List.length_append, List.length_cons, List.length_nil, List.length_map, List.length_take, List.length_drop, maxRow, byteRows_len, Ty.kids, Vl.kids, Vl.num]); omega) ?_ | refine str_at' (by (try simp only [List.length_append, List.length_cons, List.length_nil, List.length_map, List.length_take, List.length_drop, maxRow, byteRows_len, Ty.kids, Vl.kids, Vl.num]); omega) ?_
  conv => whnf
  first
    | refine br_dec (fun h3 => ?_) (fun h3 => ?_)
    | refine br_eq (fun h3 => ?_) (fun h3 => ?_)
    | refine br_ne (fun h3 => ?_) (fun h3 => ?_)
    | refine br_neq (fun h3 => ?_) (fun h3 => ?_)
    | refine br_not (fun h3 => ?_) (fun h3 => ?_)
    | refine Br.mk (fun h3 => ?_) (fun h3 => ?_)
  all_goals (try simp only [List.length_append, List.length_cons, List.length_nil, List.length_map, List.length_take, List.length_drop, maxRow, byteRows_len, Ty.kids, Vl.kids, Vl.num] at h3)
  all_goals conv => whnf
  · obtain ⟨e, rfl⟩ : ∃ e, d = e + 1 := ⟨d - 1, by omega⟩
    have hc : s[a]? = some 40 := by
      have hlt : a < s.length := by omega
      rw [List.getElem?_eq_getElem hlt]
      have h3 : (s[a]).toNat = 40 := by
        have h4 := h3
        simp only [ea] at h4
        omega
      congr 1
      exact UInt8.toNat_inj.1 h3
    have hpe : 2 ^ (e + 1) = 2 * 2 ^ e := by rw [Nat.pow_succ]; omega
    have hpp : 1 ≤ 2 ^ e := Nat.one_le_two_pow
    have k1 := l31_le s e (a + 1)
    have k2 := l31_le s e ((l31 s e (a + 1)).2 + 1)
    have hl : l31 s (e + 1) a = (.mk 0 [(l31 s e (a + 1)).1, (l31 s e ((l31 s e (a + 1)).2 + 1)).1], (l31 s e ((l31 s e (a + 1)).2 + 1)).2 + 1) := by
      rw [l31, if_pos hc]
    repeat (first
      | (refine rng_i64 (by omega) (by omega) ?_; conv => whnf)
      | (refine Req.mk (Nat.le_of_ble_eq_true rfl) ?_; conv => whnf)
      | (refine Req.mk (by omega) ?_; conv => whnf)
      | (refine Req.mk (by (try simp only [List.length_append, List.length_cons, List.length_nil, List.length_map, List.length_take, List.length_drop, maxRow, byteRows_len, Ty.kids, Vl.kids, Vl.num]); omega) ?_; conv => whnf)
      | (refine rng_u8 (by omega) (by omega) ?_; conv => whnf)
      | (refine Req.mk (by (conv => whnf); (repeat (first | (refine rng_i64 (by omega) (by omega) ?_; conv => whnf) | (refine Req.mk (Nat.le_of_ble_eq_true rfl) ?_; conv => whnf) | (refine Req.mk (by omega) ?_; conv => whnf) | (refine Req.mk (by (try simp only [List.length_append, List.length_cons, List.length_nil, List.length_map, List.length_take, List.length_drop, maxRow, byteRows_len, Ty.kids, Vl.kids, Vl.num]); omega) ?_; conv => whnf) | (refine rng_u8 (by omega) (by omega) ?_; conv => whnf))); exact Wk.rfl) ?_; conv => whnf)
      )
    have i1 : (a : Int) + 1 = ((a + 1 : Nat) : Int) := by omega
    have i2 : ((e + 1 : Nat) : Int) - 1 = (e : Int) := by omega
    rw [i1, i2]
    refine ⟨_, _, WkL.rfl, WkOs.rfl, s, a + 1, e, rfl, rfl, by omega, by omega, hs, by omega, ?_⟩
    generalize l31 s e (a + 1) = r1 at *
    repeat (first
      | (refine rng_i64 (by omega) (by omega) ?_; conv => whnf)
      | (refine Req.mk (Nat.le_of_ble_eq_true rfl) ?_; conv => whnf)
      | (refine Req.mk (by omega) ?_; conv => whnf)
      | (refine Req.mk (by (try simp only [List.length_append, List.length_cons, List.length_nil, List.length_map, List.length_take, List.length_drop, maxRow, byteRows_len, Ty.kids, Vl.kids, Vl.num]); omega) ?_; conv => whnf)
      | (refine rng_u8 (by omega) (by omega) ?_; conv => whnf)
      | (refine Req.mk (by (conv => whnf); (repeat (first | (refine rng_i64 (by omega) (by omega) ?_; conv => whnf) | (refine Req.mk (Nat.le_of_ble_eq_true rfl) ?_; conv => whnf) | (refine Req.mk (by omega) ?_; conv => whnf) | (refine Req.mk (by (try simp only [List.length_append, List.length_cons, List.length_nil, List.length_map, List.length_take, List.length_drop, maxRow, byteRows_len, Ty.kids, Vl.kids, Vl.num]); omega) ?_; conv => whnf) | (refine rng_u8 (by omega) (by omega) ?_; conv => whnf))); exact Wk.rfl) ?_; conv => whnf)
      )
    have i3 : (r1.2 : Int) + 1 = ((r1.2 + 1 : Nat) : Int) := by omega
    rw [i3, i2]
    refine ⟨_, _, WkL.rfl, WkOs.rfl, s, r1.2 + 1, e, rfl, rfl, by omega, by omega, hs, by omega, ?_⟩
    generalize l31 s e (r1.2 + 1) = r2 at *
    repeat (first
      | (refine rng_i64 (by omega) (by omega) ?_; conv => whnf)
      | (refine Req.mk (Nat.le_of_ble_eq_true rfl) ?_; conv => whnf)
      | (refine Req.mk (by omega) ?_; conv => whnf)
      | (refine Req.mk (by (try simp only [List.length_append, List.length_cons, List.length_nil, List.length_map, List.length_take, List.length_drop, maxRow, byteRows_len, Ty.kids, Vl.kids, Vl.num]); omega) ?_; conv => whnf)
      | (refine rng_u8 (by omega) (by omega) ?_; conv => whnf)
      | (refine Req.mk (by (conv => whnf); (repeat (first | (refine rng_i64 (by omega) (by omega) ?_; conv => whnf) | (refine Req.mk (Nat.le_of_ble_eq_true rfl) ?_; conv => whnf) | (refine Req.mk (by omega) ?_; conv => whnf) | (refine Req.mk (by (try simp only [List.length_append, List.length_cons, List.length_nil, List.length_map, List.length_take, List.length_drop, maxRow, byteRows_len, Ty.kids, Vl.kids, Vl.num]); omega) ?_; conv => whnf) | (refine rng_u8 (by omega) (by omega) ?_; conv => whnf))); exact Wk.rfl) ?_; conv => whnf)
      )
    left
    conv => whnf
    repeat (first
      | (refine rng_i64 (by omega) (by omega) ?_; conv => whnf)
      | (refine Req.mk (Nat.le_of_ble_eq_true rfl) ?_; conv => whnf)
      | (refine Req.mk (by omega) ?_; conv => whnf)
      | (refine Req.mk (by (try simp only [List.length_append, List.length_cons, List.length_nil, List.length_map, List.length_take, List.length_drop, maxRow, byteRows_len, Ty.kids, Vl.kids, Vl.num]); omega) ?_; conv => whnf)
      | (refine rng_u8 (by omega) (by omega) ?_; conv => whnf)
      | (refine Req.mk (by (conv => whnf); (repeat (first | (refine rng_i64 (by omega) (by omega) ?_; conv => whnf) | (refine Req.mk (Nat.le_of_ble_eq_true rfl) ?_; conv => whnf) | (refine Req.mk (by omega) ?_; conv => whnf) | (refine Req.mk (by (try simp only [List.length_append, List.length_cons, List.length_nil, List.length_map, List.length_take, List.length_drop, maxRow, byteRows_len, Ty.kids, Vl.kids, Vl.num]); omega) ?_; conv => whnf) | (refine rng_u8 (by omega) (by omega) ?_; conv => whnf))); exact Wk.rfl) ?_; conv => whnf)
      )
    refine ⟨[], ⟨rfl, rfl⟩, ?_⟩
    conv => whnf
    refine fin _ _ hl ?_
    refine Wk.tup (WkL.cons (Wk.agg (WkL.cons Wk.rfl (WkL.cons (Wk.d (DW.sf.trans (DW.sl ?_))) WkL.nil))) (WkL.cons (Wk.of_eq ?_) WkL.nil))
    · exact ⟨by rw [dVl_eq], by rw [dVl_eq]; exact DWL.rfl, by rw [dVl_eq], by rw [dVl_eq]; exact DWL.rfl, trivial⟩
    · dsimp only
      rw [Int.natCast_add]; rfl
  focus
    have hl : l31 s d a = (if s.length < a then .mk (-1) [] else .mk (l2dec ((s.take (runD s a)).drop a)) [], runD s a) := by
      have hc : s[a]? ≠ some 40 := by
        have hlt : a < s.length := by omega
        rw [List.getElem?_eq_getElem hlt]
        intro e
        simp only [Option.some.injEq] at e
        simp only [ea] at h3
        rw [e] at h3
        exact h3 rfl
      cases d with
      | zero => rfl
      | succ e => rw [l31, if_neg hc]
  rotate_left
  focus
    have hl : l31 s d a = (if s.length < a then .mk (-1) [] else .mk (l2dec ((s.take (runD s a)).drop a)) [], runD s a) := by
      obtain rfl : d = 0 := by omega
      rfl
  rotate_left
  focus
    have hl : l31 s d a = (if s.length < a then .mk (-1) [] else .mk (l2dec ((s.take (runD s a)).drop a)) [], runD s a) := by
      have hc : s[a]? ≠ some 40 := by rw [List.getElem?_eq_none (by omega)]; simp
      cases d with
      | zero => rfl
      | succ e => rw [l31, if_neg hc]
  all_goals
    refine ⟨[], Int, fun i => a ≤ i ∧ i ≤ max (a : Int) s.length ∧ ((s.drop a).take (i.toNat - a)).all isDig = true, fun i => (s.length - i).toNat, fun i => [(12, iv i)],
      fun i => [.cells [iv 0, .d (.v (.slice none 0 0))]], a, ⟨by omega, by omega, by simp⟩, ?_⟩
    conv => whnf
    refine ⟨⟨rfl, rfl, WkOs.rfl, ⟨Wk.rfl, trivial⟩, rfl⟩, ?_⟩
    intro i ⟨hi0, hi1, hi2⟩
    conv => whnf
    have next : ∀ (hlt : i.toNat < s.length), isDig s[i.toNat] = true → ((s.drop a).take ((i + 1).toNat - a)).all isDig = true := fun hlt hd => by
      have e : (i + 1).toNat - a = (i.toNat - a) + 1 := by omega
      rw [e]
      refine take_all (by simp; omega) hi2 ?_
      simp only [List.getElem_drop]
      have e2 : a + (i.toNat - a) = i.toNat := by omega
      simp only [e2]; exact hd
    have stop : (∀ hlt : i.toNat < s.length, isDig s[i.toNat] = false) → runD s a = i.toNat := fun hs => by
      have := takeWhile_len (p := isDig) (l := s.drop a) (j := i.toNat - a) (by simp; omega) hi2 (fun h => by
        simp only [List.getElem_drop]
        have e2 : a + (i.toNat - a) = i.toNat := by omega
        simp only [e2]; exact hs (by simp at h; omega))
      rw [runD, this]; omega
    first
      | refine br_dec (fun h5 => ?_) (fun h5 => ?_)
      | refine br_eq (fun h5 => ?_) (fun h5 => ?_)
      | refine br_ne (fun h5 => ?_) (fun h5 => ?_)
      | refine br_neq (fun h5 => ?_) (fun h5 => ?_)
      | refine br_not (fun h5 => ?_) (fun h5 => ?_)
      | refine Br.mk (fun h5 => ?_) (fun h5 => ?_)
    all_goals (try simp only [List.length_append, List.length_cons, List.length_nil, List.length_map, List.length_take, List.length_drop, maxRow, byteRows_len, Ty.kids, Vl.kids, Vl.num] at h5)
    all_goals conv => whnf
    rotate_left
    focus have st : runD s a = i.toNat := stop (fun h => by omega)
    rotate_right
    have hlt : i.toNat < s.length := by omega
    first | refine str_at (by omega) (by (try simp only [List.length_append, List.length_cons, List.length_nil, List.length_map, List.length_take, List.length_drop, maxRow, byteRows_len, Ty.kids, Vl.kids, Vl.num]); omega) ?_ | refine str_at' (by (try simp only [List.length_append, List.length_cons, List.length_nil, List.length_map, List.length_take, List.length_drop, maxRow, byteRows_len, Ty.kids, Vl.kids, Vl.num]); omega) ?_
    conv => whnf
    first
      | refine br_dec (fun h6 => ?_) (fun h6 => ?_)
      | refine br_eq (fun h6 => ?_) (fun h6 => ?_)
      | refine br_ne (fun h6 => ?_) (fun h6 => ?_)
      | refine br_neq (fun h6 => ?_) (fun h6 => ?_)
      | refine br_not (fun h6 => ?_) (fun h6 => ?_)
      | refine Br.mk (fun h6 => ?_) (fun h6 => ?_)
    all_goals (try simp only [List.length_append, List.length_cons, List.length_nil, List.length_map, List.length_take, List.length_drop, maxRow, byteRows_len, Ty.kids, Vl.kids, Vl.num] at h6)
    all_goals conv => whnf
    rotate_left
    focus
      have hd : isDig s[i.toNat] = false := by simp only [isDig, Bool.and_eq_false_iff, decide_eq_false_iff_not]; omega
      have st : runD s a = i.toNat := stop (fun _ => hd)
    rotate_right
    first | refine str_at (by omega) (by (try simp only [List.length_append, List.length_cons, List.length_nil, List.length_map, List.length_take, List.length_drop, maxRow, byteRows_len, Ty.kids, Vl.kids, Vl.num]); omega) ?_ | refine str_at' (by (try simp only [List.length_append, List.length_cons, List.length_nil, List.length_map, List.length_take, List.length_drop, maxRow, byteRows_len, Ty.kids, Vl.kids, Vl.num]); omega) ?_
    conv => whnf
    first
      | refine br_dec (fun h7 => ?_) (fun h7 => ?_)
      | refine br_eq (fun h7 => ?_) (fun h7 => ?_)
      | refine br_ne (fun h7 => ?_) (fun h7 => ?_)
      | refine br_neq (fun h7 => ?_) (fun h7 => ?_)
      | refine br_not (fun h7 => ?_) (fun h7 => ?_)
      | refine Br.mk (fun h7 => ?_) (fun h7 => ?_)
    all_goals (try simp only [List.length_append, List.length_cons, List.length_nil, List.length_map, List.length_take, List.length_drop, maxRow, byteRows_len, Ty.kids, Vl.kids, Vl.num] at h7)
    all_goals conv => whnf
    rotate_left
    focus
      have hd : isDig s[i.toNat] = false := by simp only [isDig, Bool.and_eq_false_iff, decide_eq_false_iff_not]; omega
      have st : runD s a = i.toNat := stop (fun _ => hd)
    rotate_right
    · repeat (first
        | (refine rng_i64 (by omega) (by omega) ?_; conv => whnf)
        | (refine Req.mk (Nat.le_of_ble_eq_true rfl) ?_; conv => whnf)
        | (refine Req.mk (by omega) ?_; conv => whnf)
        | (refine Req.mk (by (try simp only [List.length_append, List.length_cons, List.length_nil, List.length_map, List.length_take, List.length_drop, maxRow, byteRows_len, Ty.kids, Vl.kids, Vl.num]); omega) ?_; conv => whnf)
        | (refine rng_u8 (by omega) (by omega) ?_; conv => whnf)
        | (refine Req.mk (by (conv => whnf); (repeat (first | (refine rng_i64 (by omega) (by omega) ?_; conv => whnf) | (refine Req.mk (Nat.le_of_ble_eq_true rfl) ?_; conv => whnf) | (refine Req.mk (by omega) ?_; conv => whnf) | (refine Req.mk (by (try simp only [List.length_append, List.length_cons, List.length_nil, List.length_map, List.length_take, List.length_drop, maxRow, byteRows_len, Ty.kids, Vl.kids, Vl.num]); omega) ?_; conv => whnf) | (refine rng_u8 (by omega) (by omega) ?_; conv => whnf))); exact Wk.rfl) ?_; conv => whnf)
        )
      refine ⟨i + 1, ⟨by omega, by omega, next hlt (by simp [isDig]; omega)⟩, by dsimp only; omega, rfl, rfl, WkOs.rfl, ⟨Wk.rfl, trivial⟩, rfl⟩
    all_goals
      rw [st] at hl
      clear stop next
      have ei : ((i.toNat : Nat) : Int) = i := by omega
      first
        | refine br_dec (fun h8 => ?_) (fun h8 => ?_)
        | refine br_eq (fun h8 => ?_) (fun h8 => ?_)
        | refine br_ne (fun h8 => ?_) (fun h8 => ?_)
        | refine br_neq (fun h8 => ?_) (fun h8 => ?_)
        | refine br_not (fun h8 => ?_) (fun h8 => ?_)
        | refine Br.mk (fun h8 => ?_) (fun h8 => ?_)
      all_goals (try simp only [List.length_append, List.length_cons, List.length_nil, List.length_map, List.length_take, List.length_drop, maxRow, byteRows_len, Ty.kids, Vl.kids, Vl.num] at h8)
      all_goals conv => whnf
      · refine ⟨[], ⟨rfl, rfl⟩, ?_⟩
        conv => whnf
        rw [if_pos (by omega)] at hl
        refine fin _ _ hl ?_
        rw [ei]
        exact Wk.tup (WkL.cons (wk_v0 _) (WkL.cons Wk.rfl WkL.nil))
      · rw [if_neg (by omega)] at hl
        refine Req.mk (by omega) ?_
        refine ⟨_, _, WkL.rfl, WkOs.rfl, _, rfl, rfl, ?_⟩
        repeat (first
          | (refine rng_i64 (by omega) (by omega) ?_; conv => whnf)
          | (refine Req.mk (Nat.le_of_ble_eq_true rfl) ?_; conv => whnf)
          | (refine Req.mk (by omega) ?_; conv => whnf)
          | (refine Req.mk (by (try simp only [List.length_append, List.length_cons, List.length_nil, List.length_map, List.length_take, List.length_drop, maxRow, byteRows_len, Ty.kids, Vl.kids, Vl.num]); omega) ?_; conv => whnf)
          | (refine rng_u8 (by omega) (by omega) ?_; conv => whnf)
          | (refine Req.mk (by (conv => whnf); (repeat (first | (refine rng_i64 (by omega) (by omega) ?_; conv => whnf) | (refine Req.mk (Nat.le_of_ble_eq_true rfl) ?_; conv => whnf) | (refine Req.mk (by omega) ?_; conv => whnf) | (refine Req.mk (by (try simp only [List.length_append, List.length_cons, List.length_nil, List.length_map, List.length_take, List.length_drop, maxRow, byteRows_len, Ty.kids, Vl.kids, Vl.num]); omega) ?_; conv => whnf) | (refine rng_u8 (by omega) (by omega) ?_; conv => whnf))); exact Wk.rfl) ?_; conv => whnf)
          )
        refine ⟨[], ⟨rfl, rfl⟩, ?_⟩
        conv => whnf
        refine fin _ _ hl ?_
        rw [ei]
        exact Wk.tup (WkL.cons (wk_v0 _) (WkL.cons Wk.rfl WkL.nil))

/-! ### What is read -/
theorem decVal_dec : ∀ (n u : Nat), u < n → decVal (Lib.decDigits u) = u
  | 0, u, h => by omega
  | n + 1, u, h => by
    rw [Lib.decDigits]
    split
    · rename_i hu
      simp only [decVal, List.foldl_cons, List.foldl_nil, digit_val u hu]; omega
    · rename_i hu
      rw [decVal_snoc, decVal_dec n (u / 10) (by omega), digit_val _ (Nat.mod_lt _ (by omega))]; omega
theorem isDig_digit (k : Nat) (h : k < 10) : isDig (UInt8.ofNat (48 + k)) = true := by
  simp only [isDig, digit_val k h]; simp; omega
theorem dec_isDig : ∀ (n u : Nat), u < n → (Lib.decDigits u).all isDig = true
  | 0, u, h => by omega
  | n + 1, u, h => by
    rw [Lib.decDigits]
    split
    · rename_i hu
      rw [List.all_cons, isDig_digit u hu]; rfl
    · rename_i hu
      rw [List.all_append, dec_isDig n (u / 10) (by omega), List.all_cons, isDig_digit _ (Nat.mod_lt u (show 0 < 10 by omega))]; rfl
theorem l2dec_dec (u : Nat) (h : u ≤ 9999) : l2dec (Lib.decDigits u) = u := by
  have h1 := dec_len 3 u (by omega)
  have h2 := dec_ne u
  have h3 : 1 ≤ (Lib.decDigits u).length := by
    cases hl : Lib.decDigits u with
    | nil => exact absurd hl h2
    | cons => simp
  have h4 := decVal_dec (u + 1) u (by omega)
  rw [l2dec, if_pos ⟨h3, by omega, dec_isDig (u + 1) u (by omega), by rw [h4]⟩, h4]

/-- no digit follows -/
def noD (rest : List UInt8) : Prop := ∀ b, rest.head? = some b → isDig b = false
theorem runD_app (pre ds rest : List UInt8) (hd : ds.all isDig = true) (hr : noD rest) : runD (pre ++ ds ++ rest) pre.length = pre.length + ds.length := by
  have e : (pre ++ ds ++ rest).drop pre.length = ds ++ rest := by simp
  have h : ((ds ++ rest).takeWhile isDig) = ds := by
    have h1 : ∀ x ∈ ds, isDig x = true := List.all_eq_true.1 hd
    rw [List.takeWhile_append_of_pos h1]
    cases rest with
    | nil => simp
    | cons b r =>
      have := hr b rfl
      simp [List.takeWhile, this]
  rw [runD, e, h]

theorem l31_vw : ∀ (d : Nat) (v : Vl), (vt d v).2 = true → ∀ pre rest, noD rest → l31 (pre ++ vw d v ++ rest) d pre.length = (v, pre.length + (vw d v).length)
  | d, .mk n ks, h, pre, rest, hr => by
    obtain ⟨j, rfl, ⟨rfl, h0, h1⟩ | ⟨a, b, rfl, rfl, h1, h2⟩⟩ := vt_kids h
    · have hdig := dec_isDig (n.toNat + 1) n.toNat (by omega)
      have hne := dec_ne n.toNat
      simp only [vw, itoa_nat h0]
      have hrun := runD_app pre _ rest hdig hr
      have hc : (pre ++ Lib.decDigits n.toNat ++ rest)[pre.length]? ≠ some 40 := by
        cases hl : Lib.decDigits n.toNat with
        | nil => exact absurd hl hne
        | cons c r =>
          rw [hl] at hdig
          simp only [List.all_cons, Bool.and_eq_true] at hdig
          rw [List.append_assoc, List.getElem?_append_right (Nat.le_refl _)]
          simp only [Nat.sub_self, List.cons_append, List.getElem?_cons_zero, ne_eq, Option.some.injEq]
          rintro rfl
          exact absurd hdig.1 (by decide)
      rw [l31, if_neg hc, hrun, if_neg (by simp only [List.length_append]; omega)]
      have e : ((pre ++ Lib.decDigits n.toNat ++ rest).take (pre.length + (Lib.decDigits n.toNat).length)).drop pre.length = Lib.decDigits n.toNat := by
        have e0 : (pre ++ Lib.decDigits n.toNat ++ rest).take (pre.length + (Lib.decDigits n.toNat).length) = pre ++ Lib.decDigits n.toNat := List.take_left' (by simp)
        rw [e0]; exact List.drop_left
      rw [e, l2dec_dec _ (by omega)]
      congr 2; omega
    · have s1 : ∀ r, noD (44 :: r) := fun r b hb => by simp at hb; subst hb; decide
      have s2 : ∀ r, noD (41 :: r) := fun r b hb => by simp at hb; subst hb; decide
      have ha := l31_vw j a h1 (pre ++ [40]) (44 :: (vw j b ++ (41 :: rest))) (s1 _)
      have hb := l31_vw j b h2 (pre ++ [40] ++ vw j a ++ [44]) (41 :: rest) (s2 _)
      have e1 : pre ++ vw (j + 1) (.mk 0 [a, b]) ++ rest = pre ++ [40] ++ vw j a ++ 44 :: (vw j b ++ (41 :: rest)) := by simp [vw]
      have e2 : pre ++ [40] ++ vw j a ++ 44 :: (vw j b ++ (41 :: rest)) = pre ++ [40] ++ vw j a ++ [44] ++ vw j b ++ 41 :: rest := by simp
      have hc : (pre ++ [40] ++ vw j a ++ 44 :: (vw j b ++ (41 :: rest)))[pre.length]? = some 40 := by simp
      have l1 : (pre ++ [40]).length = pre.length + 1 := by simp
      have l2 : (pre ++ [40] ++ vw j a ++ [44]).length = pre.length + 1 + (vw j a).length + 1 := by simp; omega
      rw [l1] at ha
      rw [l2, ← e2] at hb
      rw [e1, l31, if_pos hc, ha]
      dsimp only
      rw [hb]
      simp [vw]; omega

def specRead (s : List UInt8) : Option Vl := if s ≠ [] ∧ valText (l31 s 4 0).1 = s then some (l31 s 4 0).1 else none
theorem specRead_eq (s : List UInt8) : specRead s = valRead s := by
  unfold specRead
  split
  · rename_i h
    obtain ⟨h1, h2⟩ := h
    generalize (l31 s 4 0).1 = v at h2
    have hv : (vt 4 v).2 = true := by
      cases hv : (vt 4 v).2 with
      | true => rfl
      | false => simp [valText, hv] at h2; exact absurd h2.symm (by simpa using h1)
    rw [← h2]; exact (valRead_text hv).symm
  · rename_i h
    cases hr : valRead s with
    | none => rfl
    | some v =>
      exfalso
      refine h ?_
      have h2 : valText v = s := by
        unfold valRead at hr
        split at hr
        · split at hr
          · rename_i h3; simp at hr; subst hr; exact h3.2
          · cases hr
        · cases hr
      have h1 : s ≠ [] := by
        rintro rfl
        have : valRead [] = none := by decide +kernel
        rw [this] at hr; cases hr
      refine ⟨h1, ?_⟩
      have hv : (vt 4 v).2 = true := by
        cases hv : (vt 4 v).2 with
        | true => rfl
        | false => simp [valText, hv] at h2; exact absurd h2.symm (by simpa using h1)
      have := l31_vw 4 v hv [] [] (fun b hb => by simp at hb)
      simp only [valText, hv, cond_true] at h2
      simp only [List.nil_append, List.append_nil, h2, List.length_nil] at this
      rw [this]
      simp only [valText, hv, cond_true, h2]

/-- spec.ValRead -/
theorem v_s_ValRead {B : World} : Valid PG B s_ValRead S_i_ValRead := by
  refine valid_of (Γ := [(s_l31Val, ⟨[], S_s_l31Val 10⟩), (s_ValText, ⟨[], S_i_ValText⟩)]) wide tok ((AllValid.nil.cons v_s_ValText).cons (v_s_l31Val 10)) g_s_ValRead rfl rfl ?_
  rintro _ _ Q ⟨s, hs, rfl, rfl, hQ, hE⟩
  rw [← specRead_eq] at hQ hE
  conv => whnf
  refine ⟨_, _, WkL.rfl, WkOs.rfl, s, 0, 4, rfl, rfl, by omega, by omega, hs, by omega, ?_⟩
  generalize he : (l31 s 4 0).1 = v
  repeat (first
    | (refine rng_i64 (by omega) (by omega) ?_; conv => whnf)
    | (refine Req.mk (Nat.le_of_ble_eq_true rfl) ?_; conv => whnf)
    | (refine Req.mk (by omega) ?_; conv => whnf)
    | (refine Req.mk (by (try simp only [List.length_append, List.length_cons, List.length_nil, List.length_map, List.length_take, List.length_drop, maxRow, byteRows_len, Ty.kids, Vl.kids, Vl.num]); omega) ?_; conv => whnf)
    | (refine rng_u8 (by omega) (by omega) ?_; conv => whnf)
    | (refine Req.mk (by (conv => whnf); (repeat (first | (refine rng_i64 (by omega) (by omega) ?_; conv => whnf) | (refine Req.mk (Nat.le_of_ble_eq_true rfl) ?_; conv => whnf) | (refine Req.mk (by omega) ?_; conv => whnf) | (refine Req.mk (by (try simp only [List.length_append, List.length_cons, List.length_nil, List.length_map, List.length_take, List.length_drop, maxRow, byteRows_len, Ty.kids, Vl.kids, Vl.num]); omega) ?_; conv => whnf) | (refine rng_u8 (by omega) (by omega) ?_; conv => whnf))); exact Wk.rfl) ?_; conv => whnf)
    )
  first
    | refine br_dec (fun h => ?_) (fun h => ?_)
    | refine br_eq (fun h => ?_) (fun h => ?_)
    | refine br_ne (fun h => ?_) (fun h => ?_)
    | refine br_neq (fun h => ?_) (fun h => ?_)
    | refine br_not (fun h => ?_) (fun h => ?_)
    | refine Br.mk (fun h => ?_) (fun h => ?_)
  all_goals (try simp only [List.length_append, List.length_cons, List.length_nil, List.length_map, List.length_take, List.length_drop, maxRow, byteRows_len, Ty.kids, Vl.kids, Vl.num] at h)
  all_goals conv => whnf
  · refine ⟨[], ⟨rfl, rfl⟩, ?_⟩
    conv => whnf
    refine ⟨_, _, ?_, WkOs.rfl, hE ?_⟩
    · exact Wk.tup (WkL.cons (wk_v0 0) (WkL.cons Wk.rfl WkL.nil))
    · simp at h; simp [specRead, h]
  · refine ⟨_, _, WkL.rfl, WkOs.rfl, v, rfl, rfl, ?_⟩
    repeat (first
      | (refine rng_i64 (by omega) (by omega) ?_; conv => whnf)
      | (refine Req.mk (Nat.le_of_ble_eq_true rfl) ?_; conv => whnf)
      | (refine Req.mk (by omega) ?_; conv => whnf)
      | (refine Req.mk (by (try simp only [List.length_append, List.length_cons, List.length_nil, List.length_map, List.length_take, List.length_drop, maxRow, byteRows_len, Ty.kids, Vl.kids, Vl.num]); omega) ?_; conv => whnf)
      | (refine rng_u8 (by omega) (by omega) ?_; conv => whnf)
      | (refine Req.mk (by (conv => whnf); (repeat (first | (refine rng_i64 (by omega) (by omega) ?_; conv => whnf) | (refine Req.mk (Nat.le_of_ble_eq_true rfl) ?_; conv => whnf) | (refine Req.mk (by omega) ?_; conv => whnf) | (refine Req.mk (by (try simp only [List.length_append, List.length_cons, List.length_nil, List.length_map, List.length_take, List.length_drop, maxRow, byteRows_len, Ty.kids, Vl.kids, Vl.num]); omega) ?_; conv => whnf) | (refine rng_u8 (by omega) (by omega) ?_; conv => whnf))); exact Wk.rfl) ?_; conv => whnf)
      )
    first
      | refine br_dec (fun h2 => ?_) (fun h2 => ?_)
      | refine br_eq (fun h2 => ?_) (fun h2 => ?_)
      | refine br_ne (fun h2 => ?_) (fun h2 => ?_)
      | refine br_neq (fun h2 => ?_) (fun h2 => ?_)
      | refine br_not (fun h2 => ?_) (fun h2 => ?_)
      | refine Br.mk (fun h2 => ?_) (fun h2 => ?_)
    all_goals (try simp only [List.length_append, List.length_cons, List.length_nil, List.length_map, List.length_take, List.length_drop, maxRow, byteRows_len, Ty.kids, Vl.kids, Vl.num] at h2)
    all_goals conv => whnf
    · refine ⟨[], ⟨rfl, rfl⟩, ?_⟩
      conv => whnf
      refine ⟨_, _, ?_, WkOs.rfl, hE ?_⟩
      · exact Wk.tup (WkL.cons (wk_v0 0) (WkL.cons Wk.rfl WkL.nil))
      · simp at h2; simp [specRead, he, h2]
    · refine ⟨[], ⟨rfl, rfl⟩, ?_⟩
      conv => whnf
      refine ⟨_, _, Wk.rfl, WkOs.rfl, hQ v ?_⟩
      simp at h h2; simp [specRead, he, h, h2]
end Ab

/- laws.FnValStrict: its contract. -/
namespace Ab
open Go Go.Proofs
set_option maxRecDepth 10000
set_option maxHeartbeats 4000000
set_option linter.all false

theorem vw_ne : ∀ (d : Nat) (v : Vl), (vt d v).2 = true → vw d v ≠ []
  | d, .mk n ks, h => by
    obtain ⟨j, rfl, ⟨rfl, h0, h1⟩ | ⟨a, b, rfl, _, h1, h2⟩⟩ := vt_kids h
    · simp only [vw, itoa_nat h0]; exact dec_ne _
    · simp [vw]
theorem idx_str {xs : List (List UInt8)} {n : Int} {K : List DV → Prop} (h : n.toNat < xs.length) (hk : K [.s xs[n.toNat]]) : ∃ r, (xs.map fun s => [DV.s s])[n.toNat]? = some r ∧ K r := ⟨_, by simp [h], hk⟩
/-- (*l6Rd).of -/
def S_s_l6Rd_of : Spec := fun args O Q => ∃ (l : List UInt8) (p : Int) (xs : List (List UInt8)), args = [.ptr 0 0, .d (.sl 1 (xs.map fun s => [DV.s s]))] ∧ O = [oRd l p] ∧ xs ≠ [] ∧ xs.length ≤ 1000 ∧ l.length ≤ 2000 ∧ 0 ≤ p ∧ p ≤ 1000000000 ∧
  ∀ s ∈ xs, Q (.d (.s s)) [oRd l (p + 1)]
theorem v_s_l6Rd_of {B : World} : Valid PG B s_l6Rd_of S_s_l6Rd_of := by
  refine valid_of (Γ := [(s_l6Rd_pick, ⟨[], S_s_l6Rd_pick⟩)]) wide tok (AllValid.nil.cons v_s_l6Rd_pick) g_s_l6Rd_of rfl rfl ?_
  rintro _ _ Q ⟨l, p, xs, rfl, rfl, hne, hxs, hl, hp, hp1, hQ⟩
  have hpos : 0 < xs.length := List.length_pos_iff.2 hne
  conv => whnf
  refine ⟨_, _, WkL.rfl, WkOs.rfl, l, p, xs.length, hl, hp, hp1, by omega, by simp, rfl, ?_⟩
  intro k _ hk
  obtain ⟨hk0, hk1⟩ := hk (by omega)
  repeat (first
    | (refine rng_i64 (by omega) (by omega) ?_; conv => whnf)
    | (refine Req.mk (Nat.le_of_ble_eq_true rfl) ?_; conv => whnf)
    | (refine Req.mk (by omega) ?_; conv => whnf)
    | (refine Req.mk (by (try simp only [List.length_append, List.length_cons, List.length_nil, List.length_map, List.length_take, List.length_drop, maxRow, byteRows_len, Ty.kids, Vl.kids, Vl.num]); omega) ?_; conv => whnf)
    | (refine rng_u8 (by omega) (by omega) ?_; conv => whnf)
    | (refine Req.mk (by (conv => whnf); (repeat (first | (refine rng_i64 (by omega) (by omega) ?_; conv => whnf) | (refine Req.mk (Nat.le_of_ble_eq_true rfl) ?_; conv => whnf) | (refine Req.mk (by omega) ?_; conv => whnf) | (refine Req.mk (by (try simp only [List.length_append, List.length_cons, List.length_nil, List.length_map, List.length_take, List.length_drop, maxRow, byteRows_len, Ty.kids, Vl.kids, Vl.num]); omega) ?_; conv => whnf) | (refine rng_u8 (by omega) (by omega) ?_; conv => whnf))); exact Wk.rfl) ?_; conv => whnf)
    )
  have hlt : k.toNat < xs.length := by omega
  refine idx_str hlt ?_
  conv => whnf
  refine ⟨[], ⟨rfl, rfl⟩, ?_⟩
  conv => whnf
  exact ⟨_, _, Wk.rfl, WkOs.rfl, hQ _ (List.getElem_mem hlt)⟩

/-- spec.DrawValRead -/
def S_s_DrawValRead : Spec := fun args O Q => ∃ (l : List UInt8), args = [.d (.sl 1 (byteRows l))] ∧ O = [] ∧ ∀ (s : List UInt8), s.length ≤ 100000 → Q (.d (.s s)) []
theorem v_s_DrawValRead {B : World} : Valid PG B s_DrawValRead S_s_DrawValRead := by
  refine valid_of (Γ := [(s_l71Type, ⟨[], S_s_l71Type 10⟩), (s_l6Rd_pick, ⟨[], S_s_l6Rd_pick⟩), (s_l71Val, ⟨[], S_s_l71Val 10⟩), (s_l6Open, ⟨[], SOpen⟩), (s_ValText, ⟨[], S_i_ValText⟩), (s_l6Rd_of, ⟨[], S_s_l6Rd_of⟩)]) wide tok
    ((((((AllValid.nil.cons v_s_l6Rd_of).cons v_s_ValText).cons v_s_l6Open).cons (v_s_l71Val 10)).cons v_s_l6Rd_pick).cons (v_s_l71Type 10)) g_s_DrawValRead rfl rfl ?_
  rintro _ _ Q ⟨l, rfl, rfl, hQ⟩
  have fin : ∀ (s : List UInt8), s.length ≤ 100000 → wkQ Q (.d (.s s)) [] := fun s h => ⟨_, _, Wk.rfl, WkOs.rfl, hQ s h⟩
  have hb : Bd 10 = 2047 := by decide
  have hl : (l.take 2000).length ≤ 2000 := by simp; omega
  conv => whnf
  refine ⟨_, _, WkL.rfl, WkOs.rfl, l, rfl, rfl, ?_⟩
  generalize l.take 2000 = l at hl
  repeat (first
    | (refine rng_i64 (by omega) (by omega) ?_; conv => whnf)
    | (refine Req.mk (Nat.le_of_ble_eq_true rfl) ?_; conv => whnf)
    | (refine Req.mk (by omega) ?_; conv => whnf)
    | (refine Req.mk (by (try simp only [List.length_append, List.length_cons, List.length_nil, List.length_map, List.length_take, List.length_drop, maxRow, byteRows_len, Ty.kids, Vl.kids, Vl.num]); omega) ?_; conv => whnf)
    | (refine rng_u8 (by omega) (by omega) ?_; conv => whnf)
    | (refine Req.mk (by (conv => whnf); (repeat (first | (refine rng_i64 (by omega) (by omega) ?_; conv => whnf) | (refine Req.mk (Nat.le_of_ble_eq_true rfl) ?_; conv => whnf) | (refine Req.mk (by omega) ?_; conv => whnf) | (refine Req.mk (by (try simp only [List.length_append, List.length_cons, List.length_nil, List.length_map, List.length_take, List.length_drop, maxRow, byteRows_len, Ty.kids, Vl.kids, Vl.num]); omega) ?_; conv => whnf) | (refine rng_u8 (by omega) (by omega) ?_; conv => whnf))); exact Wk.rfl) ?_; conv => whnf)
    )
  refine ⟨_, _, WkL.rfl, WkOs.rfl, l, 0, 4, hl, by omega, by omega, by omega, rfl, rfl, ?_⟩
  intro k _ hk
  obtain ⟨hk0, hk1⟩ := hk (by omega)
  repeat (first
    | (refine rng_i64 (by omega) (by omega) ?_; conv => whnf)
    | (refine Req.mk (Nat.le_of_ble_eq_true rfl) ?_; conv => whnf)
    | (refine Req.mk (by omega) ?_; conv => whnf)
    | (refine Req.mk (by (try simp only [List.length_append, List.length_cons, List.length_nil, List.length_map, List.length_take, List.length_drop, maxRow, byteRows_len, Ty.kids, Vl.kids, Vl.num]); omega) ?_; conv => whnf)
    | (refine rng_u8 (by omega) (by omega) ?_; conv => whnf)
    | (refine Req.mk (by (conv => whnf); (repeat (first | (refine rng_i64 (by omega) (by omega) ?_; conv => whnf) | (refine Req.mk (Nat.le_of_ble_eq_true rfl) ?_; conv => whnf) | (refine Req.mk (by omega) ?_; conv => whnf) | (refine Req.mk (by (try simp only [List.length_append, List.length_cons, List.length_nil, List.length_map, List.length_take, List.length_drop, maxRow, byteRows_len, Ty.kids, Vl.kids, Vl.num]); omega) ?_; conv => whnf) | (refine rng_u8 (by omega) (by omega) ?_; conv => whnf))); exact Wk.rfl) ?_; conv => whnf)
    )
  refine ⟨_, _, WkL.rfl, WkOs.rfl, l, 0 + 1, 1 + k, hl, by omega, by omega, by omega, by omega, by omega, rfl, rfl, ?_⟩
  intro t p1 ht e1 e2
  repeat (first
    | (refine rng_i64 (by omega) (by omega) ?_; conv => whnf)
    | (refine Req.mk (Nat.le_of_ble_eq_true rfl) ?_; conv => whnf)
    | (refine Req.mk (by omega) ?_; conv => whnf)
    | (refine Req.mk (by (try simp only [List.length_append, List.length_cons, List.length_nil, List.length_map, List.length_take, List.length_drop, maxRow, byteRows_len, Ty.kids, Vl.kids, Vl.num]); omega) ?_; conv => whnf)
    | (refine rng_u8 (by omega) (by omega) ?_; conv => whnf)
    | (refine Req.mk (by (conv => whnf); (repeat (first | (refine rng_i64 (by omega) (by omega) ?_; conv => whnf) | (refine Req.mk (Nat.le_of_ble_eq_true rfl) ?_; conv => whnf) | (refine Req.mk (by omega) ?_; conv => whnf) | (refine Req.mk (by (try simp only [List.length_append, List.length_cons, List.length_nil, List.length_map, List.length_take, List.length_drop, maxRow, byteRows_len, Ty.kids, Vl.kids, Vl.num]); omega) ?_; conv => whnf) | (refine rng_u8 (by omega) (by omega) ?_; conv => whnf))); exact Wk.rfl) ?_; conv => whnf)
    )
  refine ⟨_, _, WkL.cons Wk.rfl (WkL.cons (Wk.agg (WkL.cons (Wk.d DW.sf) WkL.nil)) WkL.nil), WkOs.rfl, l, p1, t, 4, rfl, rfl, by omega, tyOk_mono (by omega) ht, hl, by omega, by omega, ?_⟩
  intro v p2 hv e3 e4
  have hv := isOf_vt hv
  repeat (first
    | (refine rng_i64 (by omega) (by omega) ?_; conv => whnf)
    | (refine Req.mk (Nat.le_of_ble_eq_true rfl) ?_; conv => whnf)
    | (refine Req.mk (by omega) ?_; conv => whnf)
    | (refine Req.mk (by (try simp only [List.length_append, List.length_cons, List.length_nil, List.length_map, List.length_take, List.length_drop, maxRow, byteRows_len, Ty.kids, Vl.kids, Vl.num]); omega) ?_; conv => whnf)
    | (refine rng_u8 (by omega) (by omega) ?_; conv => whnf)
    | (refine Req.mk (by (conv => whnf); (repeat (first | (refine rng_i64 (by omega) (by omega) ?_; conv => whnf) | (refine Req.mk (Nat.le_of_ble_eq_true rfl) ?_; conv => whnf) | (refine Req.mk (by omega) ?_; conv => whnf) | (refine Req.mk (by (try simp only [List.length_append, List.length_cons, List.length_nil, List.length_map, List.length_take, List.length_drop, maxRow, byteRows_len, Ty.kids, Vl.kids, Vl.num]); omega) ?_; conv => whnf) | (refine rng_u8 (by omega) (by omega) ?_; conv => whnf))); exact Wk.rfl) ?_; conv => whnf)
    )
  refine ⟨_, _, WkL.cons (Wk.agg (WkL.cons Wk.rfl (WkL.cons (Wk.d DW.sf) WkL.nil))) WkL.nil, WkOs.rfl, v, rfl, rfl, ?_⟩
  have hlen : (valText v).length ≤ 10000 ∧ 0 < (valText v).length := by
    have h : (vt 4 v).2 = true := by rw [hv]
    have h1 := vw_len 4 v h
    have h3 : Lw 4 ≤ 10000 := by decide
    have h4 := vw_ne 4 v h
    have h5 : 0 < (vw 4 v).length := List.length_pos_iff.2 h4
    simp only [valText, h, cond_true]; omega
  generalize valText v = s at hlen
  obtain ⟨hlen, hpos⟩ := hlen
  repeat (first
    | (refine rng_i64 (by omega) (by omega) ?_; conv => whnf)
    | (refine Req.mk (Nat.le_of_ble_eq_true rfl) ?_; conv => whnf)
    | (refine Req.mk (by omega) ?_; conv => whnf)
    | (refine Req.mk (by (try simp only [List.length_append, List.length_cons, List.length_nil, List.length_map, List.length_take, List.length_drop, maxRow, byteRows_len, Ty.kids, Vl.kids, Vl.num]); omega) ?_; conv => whnf)
    | (refine rng_u8 (by omega) (by omega) ?_; conv => whnf)
    | (refine Req.mk (by (conv => whnf); (repeat (first | (refine rng_i64 (by omega) (by omega) ?_; conv => whnf) | (refine Req.mk (Nat.le_of_ble_eq_true rfl) ?_; conv => whnf) | (refine Req.mk (by omega) ?_; conv => whnf) | (refine Req.mk (by (try simp only [List.length_append, List.length_cons, List.length_nil, List.length_map, List.length_take, List.length_drop, maxRow, byteRows_len, Ty.kids, Vl.kids, Vl.num]); omega) ?_; conv => whnf) | (refine rng_u8 (by omega) (by omega) ?_; conv => whnf))); exact Wk.rfl) ?_; conv => whnf)
    )
  refine ⟨_, _, WkL.rfl, WkOs.rfl, l, p2, 2, hl, by omega, by omega, by omega, rfl, rfl, ?_⟩
  intro k2 _ _
  repeat (first
    | (refine rng_i64 (by omega) (by omega) ?_; conv => whnf)
    | (refine Req.mk (Nat.le_of_ble_eq_true rfl) ?_; conv => whnf)
    | (refine Req.mk (by omega) ?_; conv => whnf)
    | (refine Req.mk (by (try simp only [List.length_append, List.length_cons, List.length_nil, List.length_map, List.length_take, List.length_drop, maxRow, byteRows_len, Ty.kids, Vl.kids, Vl.num]); omega) ?_; conv => whnf)
    | (refine rng_u8 (by omega) (by omega) ?_; conv => whnf)
    | (refine Req.mk (by (conv => whnf); (repeat (first | (refine rng_i64 (by omega) (by omega) ?_; conv => whnf) | (refine Req.mk (Nat.le_of_ble_eq_true rfl) ?_; conv => whnf) | (refine Req.mk (by omega) ?_; conv => whnf) | (refine Req.mk (by (try simp only [List.length_append, List.length_cons, List.length_nil, List.length_map, List.length_take, List.length_drop, maxRow, byteRows_len, Ty.kids, Vl.kids, Vl.num]); omega) ?_; conv => whnf) | (refine rng_u8 (by omega) (by omega) ?_; conv => whnf))); exact Wk.rfl) ?_; conv => whnf)
    )
  first
    | refine br_dec (fun h => ?_) (fun h => ?_)
    | refine br_eq (fun h => ?_) (fun h => ?_)
    | refine br_ne (fun h => ?_) (fun h => ?_)
    | refine br_neq (fun h => ?_) (fun h => ?_)
    | refine br_not (fun h => ?_) (fun h => ?_)
    | refine Br.mk (fun h => ?_) (fun h => ?_)
  all_goals (try simp only [List.length_append, List.length_cons, List.length_nil, List.length_map, List.length_take, List.length_drop, maxRow, byteRows_len, Ty.kids, Vl.kids, Vl.num] at h)
  all_goals conv => whnf
  · refine ⟨[], ⟨rfl, rfl⟩, ?_⟩
    conv => whnf
    exact fin s (by omega)
  refine ⟨_, _, WkL.rfl, WkOs.rfl, l, p2 + 1, s.length, hl, by omega, by omega, by omega, rfl, rfl, ?_⟩
  intro k3 _ h3
  obtain ⟨h30, h31⟩ := h3 (by omega)
  repeat (first
    | (refine rng_i64 (by omega) (by omega) ?_; conv => whnf)
    | (refine Req.mk (Nat.le_of_ble_eq_true rfl) ?_; conv => whnf)
    | (refine Req.mk (by omega) ?_; conv => whnf)
    | (refine Req.mk (by (try simp only [List.length_append, List.length_cons, List.length_nil, List.length_map, List.length_take, List.length_drop, maxRow, byteRows_len, Ty.kids, Vl.kids, Vl.num]); omega) ?_; conv => whnf)
    | (refine rng_u8 (by omega) (by omega) ?_; conv => whnf)
    | (refine Req.mk (by (conv => whnf); (repeat (first | (refine rng_i64 (by omega) (by omega) ?_; conv => whnf) | (refine Req.mk (Nat.le_of_ble_eq_true rfl) ?_; conv => whnf) | (refine Req.mk (by omega) ?_; conv => whnf) | (refine Req.mk (by (try simp only [List.length_append, List.length_cons, List.length_nil, List.length_map, List.length_take, List.length_drop, maxRow, byteRows_len, Ty.kids, Vl.kids, Vl.num]); omega) ?_; conv => whnf) | (refine rng_u8 (by omega) (by omega) ?_; conv => whnf))); exact Wk.rfl) ?_; conv => whnf)
    )
  refine ⟨_, _, WkL.rfl, WkOs.rfl, l, p2 + 1 + 1, 4, hl, by omega, by omega, by omega, rfl, rfl, ?_⟩
  intro k4 _ _
  repeat (first
    | (refine rng_i64 (by omega) (by omega) ?_; conv => whnf)
    | (refine Req.mk (Nat.le_of_ble_eq_true rfl) ?_; conv => whnf)
    | (refine Req.mk (by omega) ?_; conv => whnf)
    | (refine Req.mk (by (try simp only [List.length_append, List.length_cons, List.length_nil, List.length_map, List.length_take, List.length_drop, maxRow, byteRows_len, Ty.kids, Vl.kids, Vl.num]); omega) ?_; conv => whnf)
    | (refine rng_u8 (by omega) (by omega) ?_; conv => whnf)
    | (refine Req.mk (by (conv => whnf); (repeat (first | (refine rng_i64 (by omega) (by omega) ?_; conv => whnf) | (refine Req.mk (Nat.le_of_ble_eq_true rfl) ?_; conv => whnf) | (refine Req.mk (by omega) ?_; conv => whnf) | (refine Req.mk (by (try simp only [List.length_append, List.length_cons, List.length_nil, List.length_map, List.length_take, List.length_drop, maxRow, byteRows_len, Ty.kids, Vl.kids, Vl.num]); omega) ?_; conv => whnf) | (refine rng_u8 (by omega) (by omega) ?_; conv => whnf))); exact Wk.rfl) ?_; conv => whnf)
    )
  first
    | refine br_dec (fun h5 => ?_) (fun h5 => ?_)
    | refine br_eq (fun h5 => ?_) (fun h5 => ?_)
    | refine br_ne (fun h5 => ?_) (fun h5 => ?_)
    | refine br_neq (fun h5 => ?_) (fun h5 => ?_)
    | refine br_not (fun h5 => ?_) (fun h5 => ?_)
    | refine Br.mk (fun h5 => ?_) (fun h5 => ?_)
  all_goals (try simp only [List.length_append, List.length_cons, List.length_nil, List.length_map, List.length_take, List.length_drop, maxRow, byteRows_len, Ty.kids, Vl.kids, Vl.num] at h5)
  all_goals conv => whnf
  · repeat (first
      | (refine rng_i64 (by omega) (by omega) ?_; conv => whnf)
      | (refine Req.mk (Nat.le_of_ble_eq_true rfl) ?_; conv => whnf)
      | (refine Req.mk (by omega) ?_; conv => whnf)
      | (refine Req.mk (by (try simp only [List.length_append, List.length_cons, List.length_nil, List.length_map, List.length_take, List.length_drop, maxRow, byteRows_len, Ty.kids, Vl.kids, Vl.num]); omega) ?_; conv => whnf)
      | (refine rng_u8 (by omega) (by omega) ?_; conv => whnf)
      | (refine Req.mk (by (conv => whnf); (repeat (first | (refine rng_i64 (by omega) (by omega) ?_; conv => whnf) | (refine Req.mk (Nat.le_of_ble_eq_true rfl) ?_; conv => whnf) | (refine Req.mk (by omega) ?_; conv => whnf) | (refine Req.mk (by (try simp only [List.length_append, List.length_cons, List.length_nil, List.length_map, List.length_take, List.length_drop, maxRow, byteRows_len, Ty.kids, Vl.kids, Vl.num]); omega) ?_; conv => whnf) | (refine rng_u8 (by omega) (by omega) ?_; conv => whnf))); exact Wk.rfl) ?_; conv => whnf)
      )
    refine ⟨[], ⟨rfl, rfl⟩, ?_⟩
    conv => whnf
    refine fin _ ?_
    simp; omega
  first
    | refine br_dec (fun h6 => ?_) (fun h6 => ?_)
    | refine br_eq (fun h6 => ?_) (fun h6 => ?_)
    | refine br_ne (fun h6 => ?_) (fun h6 => ?_)
    | refine br_neq (fun h6 => ?_) (fun h6 => ?_)
    | refine br_not (fun h6 => ?_) (fun h6 => ?_)
    | refine Br.mk (fun h6 => ?_) (fun h6 => ?_)
  all_goals (try simp only [List.length_append, List.length_cons, List.length_nil, List.length_map, List.length_take, List.length_drop, maxRow, byteRows_len, Ty.kids, Vl.kids, Vl.num] at h6)
  all_goals conv => whnf
  · repeat (first
      | (refine rng_i64 (by omega) (by omega) ?_; conv => whnf)
      | (refine Req.mk (Nat.le_of_ble_eq_true rfl) ?_; conv => whnf)
      | (refine Req.mk (by omega) ?_; conv => whnf)
      | (refine Req.mk (by (try simp only [List.length_append, List.length_cons, List.length_nil, List.length_map, List.length_take, List.length_drop, maxRow, byteRows_len, Ty.kids, Vl.kids, Vl.num]); omega) ?_; conv => whnf)
      | (refine rng_u8 (by omega) (by omega) ?_; conv => whnf)
      | (refine Req.mk (by (conv => whnf); (repeat (first | (refine rng_i64 (by omega) (by omega) ?_; conv => whnf) | (refine Req.mk (Nat.le_of_ble_eq_true rfl) ?_; conv => whnf) | (refine Req.mk (by omega) ?_; conv => whnf) | (refine Req.mk (by (try simp only [List.length_append, List.length_cons, List.length_nil, List.length_map, List.length_take, List.length_drop, maxRow, byteRows_len, Ty.kids, Vl.kids, Vl.num]); omega) ?_; conv => whnf) | (refine rng_u8 (by omega) (by omega) ?_; conv => whnf))); exact Wk.rfl) ?_; conv => whnf)
      )
    left
    conv => whnf
    repeat (first
      | (refine rng_i64 (by omega) (by omega) ?_; conv => whnf)
      | (refine Req.mk (Nat.le_of_ble_eq_true rfl) ?_; conv => whnf)
      | (refine Req.mk (by omega) ?_; conv => whnf)
      | (refine Req.mk (by (try simp only [List.length_append, List.length_cons, List.length_nil, List.length_map, List.length_take, List.length_drop, maxRow, byteRows_len, Ty.kids, Vl.kids, Vl.num]); omega) ?_; conv => whnf)
      | (refine rng_u8 (by omega) (by omega) ?_; conv => whnf)
      | (refine Req.mk (by (conv => whnf); (repeat (first | (refine rng_i64 (by omega) (by omega) ?_; conv => whnf) | (refine Req.mk (Nat.le_of_ble_eq_true rfl) ?_; conv => whnf) | (refine Req.mk (by omega) ?_; conv => whnf) | (refine Req.mk (by (try simp only [List.length_append, List.length_cons, List.length_nil, List.length_map, List.length_take, List.length_drop, maxRow, byteRows_len, Ty.kids, Vl.kids, Vl.num]); omega) ?_; conv => whnf) | (refine rng_u8 (by omega) (by omega) ?_; conv => whnf))); exact Wk.rfl) ?_; conv => whnf)
      )
    refine ⟨_, _, WkL.cons Wk.rfl (WkL.cons (Wk.d DW.sf) WkL.nil), WkOs.rfl, l, p2 + 1 + 1 + 1, [[40], [41], [44], [48], [32], [49]], rfl, rfl, by simp, by simp, hl, by omega, by omega, ?_⟩
    intro x hx
    have hx : x.length = 1 := by
      have : ∀ x ∈ ([[40], [41], [44], [48], [32], [49]] : List (List UInt8)), x.length = 1 := by decide
      exact this x hx
    repeat (first
      | (refine rng_i64 (by omega) (by omega) ?_; conv => whnf)
      | (refine Req.mk (Nat.le_of_ble_eq_true rfl) ?_; conv => whnf)
      | (refine Req.mk (by omega) ?_; conv => whnf)
      | (refine Req.mk (by (try simp only [List.length_append, List.length_cons, List.length_nil, List.length_map, List.length_take, List.length_drop, maxRow, byteRows_len, Ty.kids, Vl.kids, Vl.num]); omega) ?_; conv => whnf)
      | (refine rng_u8 (by omega) (by omega) ?_; conv => whnf)
      | (refine Req.mk (by (conv => whnf); (repeat (first | (refine rng_i64 (by omega) (by omega) ?_; conv => whnf) | (refine Req.mk (Nat.le_of_ble_eq_true rfl) ?_; conv => whnf) | (refine Req.mk (by omega) ?_; conv => whnf) | (refine Req.mk (by (try simp only [List.length_append, List.length_cons, List.length_nil, List.length_map, List.length_take, List.length_drop, maxRow, byteRows_len, Ty.kids, Vl.kids, Vl.num]); omega) ?_; conv => whnf) | (refine rng_u8 (by omega) (by omega) ?_; conv => whnf))); exact Wk.rfl) ?_; conv => whnf)
      )
    refine ⟨[], ⟨rfl, rfl⟩, ?_⟩
    conv => whnf
    refine fin _ ?_
    simp; omega
  first
    | refine br_dec (fun h7 => ?_) (fun h7 => ?_)
    | refine br_eq (fun h7 => ?_) (fun h7 => ?_)
    | refine br_ne (fun h7 => ?_) (fun h7 => ?_)
    | refine br_neq (fun h7 => ?_) (fun h7 => ?_)
    | refine br_not (fun h7 => ?_) (fun h7 => ?_)
    | refine Br.mk (fun h7 => ?_) (fun h7 => ?_)
  all_goals (try simp only [List.length_append, List.length_cons, List.length_nil, List.length_map, List.length_take, List.length_drop, maxRow, byteRows_len, Ty.kids, Vl.kids, Vl.num] at h7)
  all_goals conv => whnf
  · repeat (first
      | (refine rng_i64 (by omega) (by omega) ?_; conv => whnf)
      | (refine Req.mk (Nat.le_of_ble_eq_true rfl) ?_; conv => whnf)
      | (refine Req.mk (by omega) ?_; conv => whnf)
      | (refine Req.mk (by (try simp only [List.length_append, List.length_cons, List.length_nil, List.length_map, List.length_take, List.length_drop, maxRow, byteRows_len, Ty.kids, Vl.kids, Vl.num]); omega) ?_; conv => whnf)
      | (refine rng_u8 (by omega) (by omega) ?_; conv => whnf)
      | (refine Req.mk (by (conv => whnf); (repeat (first | (refine rng_i64 (by omega) (by omega) ?_; conv => whnf) | (refine Req.mk (Nat.le_of_ble_eq_true rfl) ?_; conv => whnf) | (refine Req.mk (by omega) ?_; conv => whnf) | (refine Req.mk (by (try simp only [List.length_append, List.length_cons, List.length_nil, List.length_map, List.length_take, List.length_drop, maxRow, byteRows_len, Ty.kids, Vl.kids, Vl.num]); omega) ?_; conv => whnf) | (refine rng_u8 (by omega) (by omega) ?_; conv => whnf))); exact Wk.rfl) ?_; conv => whnf)
      )
    refine ⟨[], ⟨rfl, rfl⟩, ?_⟩
    conv => whnf
    refine fin _ ?_
    simp; omega
  · repeat (first
      | (refine rng_i64 (by omega) (by omega) ?_; conv => whnf)
      | (refine Req.mk (Nat.le_of_ble_eq_true rfl) ?_; conv => whnf)
      | (refine Req.mk (by omega) ?_; conv => whnf)
      | (refine Req.mk (by (try simp only [List.length_append, List.length_cons, List.length_nil, List.length_map, List.length_take, List.length_drop, maxRow, byteRows_len, Ty.kids, Vl.kids, Vl.num]); omega) ?_; conv => whnf)
      | (refine rng_u8 (by omega) (by omega) ?_; conv => whnf)
      | (refine Req.mk (by (conv => whnf); (repeat (first | (refine rng_i64 (by omega) (by omega) ?_; conv => whnf) | (refine Req.mk (Nat.le_of_ble_eq_true rfl) ?_; conv => whnf) | (refine Req.mk (by omega) ?_; conv => whnf) | (refine Req.mk (by (try simp only [List.length_append, List.length_cons, List.length_nil, List.length_map, List.length_take, List.length_drop, maxRow, byteRows_len, Ty.kids, Vl.kids, Vl.num]); omega) ?_; conv => whnf) | (refine rng_u8 (by omega) (by omega) ?_; conv => whnf))); exact Wk.rfl) ?_; conv => whnf)
      )
    refine ⟨[], ⟨rfl, rfl⟩, ?_⟩
    conv => whnf
    refine fin _ ?_
    simp; omega

theorem valRead_some {s : List UInt8} {v : Vl} (h : valRead s = some v) : valText v = s ∧ vlB 4 v := by
  unfold valRead at h
  split at h
  · split at h
    · rename_i h3
      simp at h; subst h
      refine ⟨h3.2, sameVl_ok 4 _ ?_⟩
      rename_i w r hr
      cases hv : (vt 4 w).2 with
      | true => rfl
      | false =>
        exfalso
        have : valText w = [] := by simp [valText, hv]
        have hs : s = [] := by rw [← h3.2, this]
        subst hs
        have : rdv 4 [] = none := by decide +kernel
        rw [this] at hr; cases hr
    · cases h
  · cases h

/-- laws.FnValStrict -/
theorem v_l_FnValStrict {B : World} (hB : Tabs B) : Valid PG B l_FnValStrict S_l_FnTypeValue := by
  refine valid_of (Γ := [(s_DrawValRead, ⟨[], S_s_DrawValRead⟩), (i_ValText, ⟨[], S_i_ValText⟩), (s_ValRead, ⟨[], S_i_ValRead⟩), (i_ValRead, ⟨[], S_i_ValRead⟩), (l_lhVal, ⟨[], S_l_lhVal 10⟩)]) wide tok
    (((((AllValid.nil.cons (v_l_lhVal 10)).cons (v_i_ValRead hB)).cons v_s_ValRead).cons (v_i_ValText hB)).cons v_s_DrawValRead) g_l_FnValStrict rfl rfl ?_
  rintro _ _ Q ⟨l, rfl, rfl, hQ⟩
  have fin : ∀ b : Bool, b = true → wkQ Q (bv b) [] := fun b h => ⟨_, _, Wk.rfl, WkOs.rfl, by subst h; exact hQ⟩
  have h0 : sameVl (.mk 0 []) (.mk 0 []) = true := by decide +kernel
  have b0 : vlB 4 (.mk 0 []) := ⟨by simp, fun k hk => by simp at hk⟩
  conv => whnf
  first
    | refine br_dec (fun h => ?_) (fun h => ?_)
    | refine br_eq (fun h => ?_) (fun h => ?_)
    | refine br_ne (fun h => ?_) (fun h => ?_)
    | refine br_neq (fun h => ?_) (fun h => ?_)
    | refine br_not (fun h => ?_) (fun h => ?_)
    | refine Br.mk (fun h => ?_) (fun h => ?_)
  all_goals (try simp only [List.length_append, List.length_cons, List.length_nil, List.length_map, List.length_take, List.length_drop, maxRow, byteRows_len, Ty.kids, Vl.kids, Vl.num] at h)
  all_goals conv => whnf
  · refine ⟨[], ⟨rfl, rfl⟩, ?_⟩
    conv => whnf
    exact fin _ rfl
  refine ⟨_, _, WkL.rfl, WkOs.rfl, l, rfl, rfl, ?_⟩
  intro s hs
  repeat (first
    | (refine rng_i64 (by omega) (by omega) ?_; conv => whnf)
    | (refine Req.mk (Nat.le_of_ble_eq_true rfl) ?_; conv => whnf)
    | (refine Req.mk (by omega) ?_; conv => whnf)
    | (refine Req.mk (by (try simp only [List.length_append, List.length_cons, List.length_nil, List.length_map, List.length_take, List.length_drop, maxRow, byteRows_len, Ty.kids, Vl.kids, Vl.num]); omega) ?_; conv => whnf)
    | (refine rng_u8 (by omega) (by omega) ?_; conv => whnf)
    | (refine Req.mk (by (conv => whnf); (repeat (first | (refine rng_i64 (by omega) (by omega) ?_; conv => whnf) | (refine Req.mk (Nat.le_of_ble_eq_true rfl) ?_; conv => whnf) | (refine Req.mk (by omega) ?_; conv => whnf) | (refine Req.mk (by (try simp only [List.length_append, List.length_cons, List.length_nil, List.length_map, List.length_take, List.length_drop, maxRow, byteRows_len, Ty.kids, Vl.kids, Vl.num]); omega) ?_; conv => whnf) | (refine rng_u8 (by omega) (by omega) ?_; conv => whnf))); exact Wk.rfl) ?_; conv => whnf)
    )
  cases hr : valRead s with
  | some v =>
    obtain ⟨hv, hb⟩ := valRead_some hr
    refine ⟨_, _, WkL.rfl, WkOs.rfl, s, by omega, rfl, rfl, ?_, fun hn => by rw [hr] at hn; cases hn⟩
    intro v' hv'
    rw [hr] at hv'
    obtain rfl : v = v' := by simpa using hv'
    repeat (first
      | (refine rng_i64 (by omega) (by omega) ?_; conv => whnf)
      | (refine Req.mk (Nat.le_of_ble_eq_true rfl) ?_; conv => whnf)
      | (refine Req.mk (by omega) ?_; conv => whnf)
      | (refine Req.mk (by (try simp only [List.length_append, List.length_cons, List.length_nil, List.length_map, List.length_take, List.length_drop, maxRow, byteRows_len, Ty.kids, Vl.kids, Vl.num]); omega) ?_; conv => whnf)
      | (refine rng_u8 (by omega) (by omega) ?_; conv => whnf)
      | (refine Req.mk (by (conv => whnf); (repeat (first | (refine rng_i64 (by omega) (by omega) ?_; conv => whnf) | (refine Req.mk (Nat.le_of_ble_eq_true rfl) ?_; conv => whnf) | (refine Req.mk (by omega) ?_; conv => whnf) | (refine Req.mk (by (try simp only [List.length_append, List.length_cons, List.length_nil, List.length_map, List.length_take, List.length_drop, maxRow, byteRows_len, Ty.kids, Vl.kids, Vl.num]); omega) ?_; conv => whnf) | (refine rng_u8 (by omega) (by omega) ?_; conv => whnf))); exact Wk.rfl) ?_; conv => whnf)
      )
    refine ⟨_, _, WkL.rfl, WkOs.rfl, s, by omega, rfl, rfl, ?_, fun hn => by rw [hr] at hn; cases hn⟩
    intro v' hv'
    rw [hr] at hv'
    obtain rfl : v = v' := by simpa using hv'
    repeat (first
      | (refine rng_i64 (by omega) (by omega) ?_; conv => whnf)
      | (refine Req.mk (Nat.le_of_ble_eq_true rfl) ?_; conv => whnf)
      | (refine Req.mk (by omega) ?_; conv => whnf)
      | (refine Req.mk (by (try simp only [List.length_append, List.length_cons, List.length_nil, List.length_map, List.length_take, List.length_drop, maxRow, byteRows_len, Ty.kids, Vl.kids, Vl.num]); omega) ?_; conv => whnf)
      | (refine rng_u8 (by omega) (by omega) ?_; conv => whnf)
      | (refine Req.mk (by (conv => whnf); (repeat (first | (refine rng_i64 (by omega) (by omega) ?_; conv => whnf) | (refine Req.mk (Nat.le_of_ble_eq_true rfl) ?_; conv => whnf) | (refine Req.mk (by omega) ?_; conv => whnf) | (refine Req.mk (by (try simp only [List.length_append, List.length_cons, List.length_nil, List.length_map, List.length_take, List.length_drop, maxRow, byteRows_len, Ty.kids, Vl.kids, Vl.num]); omega) ?_; conv => whnf) | (refine rng_u8 (by omega) (by omega) ?_; conv => whnf))); exact Wk.rfl) ?_; conv => whnf)
      )
    refine Br.no (by rfl) ?_
    conv => whnf
    refine ⟨_, _, WkL.rfl, WkOs.rfl, 4, v, v, by omega, hb, rfl, rfl, ?_⟩
    repeat (first
      | (refine rng_i64 (by omega) (by omega) ?_; conv => whnf)
      | (refine Req.mk (Nat.le_of_ble_eq_true rfl) ?_; conv => whnf)
      | (refine Req.mk (by omega) ?_; conv => whnf)
      | (refine Req.mk (by (try simp only [List.length_append, List.length_cons, List.length_nil, List.length_map, List.length_take, List.length_drop, maxRow, byteRows_len, Ty.kids, Vl.kids, Vl.num]); omega) ?_; conv => whnf)
      | (refine rng_u8 (by omega) (by omega) ?_; conv => whnf)
      | (refine Req.mk (by (conv => whnf); (repeat (first | (refine rng_i64 (by omega) (by omega) ?_; conv => whnf) | (refine Req.mk (Nat.le_of_ble_eq_true rfl) ?_; conv => whnf) | (refine Req.mk (by omega) ?_; conv => whnf) | (refine Req.mk (by (try simp only [List.length_append, List.length_cons, List.length_nil, List.length_map, List.length_take, List.length_drop, maxRow, byteRows_len, Ty.kids, Vl.kids, Vl.num]); omega) ?_; conv => whnf) | (refine rng_u8 (by omega) (by omega) ?_; conv => whnf))); exact Wk.rfl) ?_; conv => whnf)
      )
    refine Br.no (by rw [sameVl_rfl 4 v hb]; rfl) ?_
    conv => whnf
    refine Br.no (by rfl) ?_
    conv => whnf
    refine Br.yes (by rfl) ?_
    conv => whnf
    refine ⟨_, _, WkL.rfl, WkOs.rfl, v, rfl, rfl, ?_⟩
    repeat (first
      | (refine rng_i64 (by omega) (by omega) ?_; conv => whnf)
      | (refine Req.mk (Nat.le_of_ble_eq_true rfl) ?_; conv => whnf)
      | (refine Req.mk (by omega) ?_; conv => whnf)
      | (refine Req.mk (by (try simp only [List.length_append, List.length_cons, List.length_nil, List.length_map, List.length_take, List.length_drop, maxRow, byteRows_len, Ty.kids, Vl.kids, Vl.num]); omega) ?_; conv => whnf)
      | (refine rng_u8 (by omega) (by omega) ?_; conv => whnf)
      | (refine Req.mk (by (conv => whnf); (repeat (first | (refine rng_i64 (by omega) (by omega) ?_; conv => whnf) | (refine Req.mk (Nat.le_of_ble_eq_true rfl) ?_; conv => whnf) | (refine Req.mk (by omega) ?_; conv => whnf) | (refine Req.mk (by (try simp only [List.length_append, List.length_cons, List.length_nil, List.length_map, List.length_take, List.length_drop, maxRow, byteRows_len, Ty.kids, Vl.kids, Vl.num]); omega) ?_; conv => whnf) | (refine rng_u8 (by omega) (by omega) ?_; conv => whnf))); exact Wk.rfl) ?_; conv => whnf)
      )
    refine ⟨[], ⟨rfl, rfl⟩, ?_⟩
    conv => whnf
    exact fin _ (by rw [hv]; simp)
  | none =>
    refine ⟨_, _, WkL.rfl, WkOs.rfl, s, by omega, rfl, rfl, fun v hv => (by rw [hr] at hv; cases hv), fun _ => ?_⟩
    repeat (first
      | (refine rng_i64 (by omega) (by omega) ?_; conv => whnf)
      | (refine Req.mk (Nat.le_of_ble_eq_true rfl) ?_; conv => whnf)
      | (refine Req.mk (by omega) ?_; conv => whnf)
      | (refine Req.mk (by (try simp only [List.length_append, List.length_cons, List.length_nil, List.length_map, List.length_take, List.length_drop, maxRow, byteRows_len, Ty.kids, Vl.kids, Vl.num]); omega) ?_; conv => whnf)
      | (refine rng_u8 (by omega) (by omega) ?_; conv => whnf)
      | (refine Req.mk (by (conv => whnf); (repeat (first | (refine rng_i64 (by omega) (by omega) ?_; conv => whnf) | (refine Req.mk (Nat.le_of_ble_eq_true rfl) ?_; conv => whnf) | (refine Req.mk (by omega) ?_; conv => whnf) | (refine Req.mk (by (try simp only [List.length_append, List.length_cons, List.length_nil, List.length_map, List.length_take, List.length_drop, maxRow, byteRows_len, Ty.kids, Vl.kids, Vl.num]); omega) ?_; conv => whnf) | (refine rng_u8 (by omega) (by omega) ?_; conv => whnf))); exact Wk.rfl) ?_; conv => whnf)
      )
    refine ⟨_, _, WkL.rfl, WkOs.rfl, s, by omega, rfl, rfl, fun v hv => (by rw [hr] at hv; cases hv), fun _ => ?_⟩
    repeat (first
      | (refine rng_i64 (by omega) (by omega) ?_; conv => whnf)
      | (refine Req.mk (Nat.le_of_ble_eq_true rfl) ?_; conv => whnf)
      | (refine Req.mk (by omega) ?_; conv => whnf)
      | (refine Req.mk (by (try simp only [List.length_append, List.length_cons, List.length_nil, List.length_map, List.length_take, List.length_drop, maxRow, byteRows_len, Ty.kids, Vl.kids, Vl.num]); omega) ?_; conv => whnf)
      | (refine rng_u8 (by omega) (by omega) ?_; conv => whnf)
      | (refine Req.mk (by (conv => whnf); (repeat (first | (refine rng_i64 (by omega) (by omega) ?_; conv => whnf) | (refine Req.mk (Nat.le_of_ble_eq_true rfl) ?_; conv => whnf) | (refine Req.mk (by omega) ?_; conv => whnf) | (refine Req.mk (by (try simp only [List.length_append, List.length_cons, List.length_nil, List.length_map, List.length_take, List.length_drop, maxRow, byteRows_len, Ty.kids, Vl.kids, Vl.num]); omega) ?_; conv => whnf) | (refine rng_u8 (by omega) (by omega) ?_; conv => whnf))); exact Wk.rfl) ?_; conv => whnf)
      )
    refine Br.no (by rfl) ?_
    conv => whnf
    refine ⟨_, _, WkL.rfl, WkOs.rfl, 4, .mk 0 [], .mk 0 [], by omega, b0, rfl, rfl, ?_⟩
    repeat (first
      | (refine rng_i64 (by omega) (by omega) ?_; conv => whnf)
      | (refine Req.mk (Nat.le_of_ble_eq_true rfl) ?_; conv => whnf)
      | (refine Req.mk (by omega) ?_; conv => whnf)
      | (refine Req.mk (by (try simp only [List.length_append, List.length_cons, List.length_nil, List.length_map, List.length_take, List.length_drop, maxRow, byteRows_len, Ty.kids, Vl.kids, Vl.num]); omega) ?_; conv => whnf)
      | (refine rng_u8 (by omega) (by omega) ?_; conv => whnf)
      | (refine Req.mk (by (conv => whnf); (repeat (first | (refine rng_i64 (by omega) (by omega) ?_; conv => whnf) | (refine Req.mk (Nat.le_of_ble_eq_true rfl) ?_; conv => whnf) | (refine Req.mk (by omega) ?_; conv => whnf) | (refine Req.mk (by (try simp only [List.length_append, List.length_cons, List.length_nil, List.length_map, List.length_take, List.length_drop, maxRow, byteRows_len, Ty.kids, Vl.kids, Vl.num]); omega) ?_; conv => whnf) | (refine rng_u8 (by omega) (by omega) ?_; conv => whnf))); exact Wk.rfl) ?_; conv => whnf)
      )
    refine Br.no (by rw [h0]; rfl) ?_
    conv => whnf
    refine Br.yes (by rfl) ?_
    conv => whnf
    refine ⟨_, _, WkL.cons Wk.rfl (WkL.cons (wk_v0 0) WkL.nil), WkOs.rfl, 4, .mk 0 [], .mk 0 [], by omega, b0, rfl, rfl, ?_⟩
    repeat (first
      | (refine rng_i64 (by omega) (by omega) ?_; conv => whnf)
      | (refine Req.mk (Nat.le_of_ble_eq_true rfl) ?_; conv => whnf)
      | (refine Req.mk (by omega) ?_; conv => whnf)
      | (refine Req.mk (by (try simp only [List.length_append, List.length_cons, List.length_nil, List.length_map, List.length_take, List.length_drop, maxRow, byteRows_len, Ty.kids, Vl.kids, Vl.num]); omega) ?_; conv => whnf)
      | (refine rng_u8 (by omega) (by omega) ?_; conv => whnf)
      | (refine Req.mk (by (conv => whnf); (repeat (first | (refine rng_i64 (by omega) (by omega) ?_; conv => whnf) | (refine Req.mk (Nat.le_of_ble_eq_true rfl) ?_; conv => whnf) | (refine Req.mk (by omega) ?_; conv => whnf) | (refine Req.mk (by (try simp only [List.length_append, List.length_cons, List.length_nil, List.length_map, List.length_take, List.length_drop, maxRow, byteRows_len, Ty.kids, Vl.kids, Vl.num]); omega) ?_; conv => whnf) | (refine rng_u8 (by omega) (by omega) ?_; conv => whnf))); exact Wk.rfl) ?_; conv => whnf)
      )
    refine Br.yes (by exact h0) ?_
    conv => whnf
    refine ⟨[], ⟨rfl, rfl⟩, ?_⟩
    conv => whnf
    exact fin _ rfl
end Ab
