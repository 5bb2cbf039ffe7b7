/- The reference's own reading of values: contracts. -/
import Derived.Test.YtnhjclenankhoaaDoorFrR
set_option linter.all false
namespace Ab
open Go Go.Proofs
set_option maxRecDepth 10000
set_option maxHeartbeats 4000000
set_option linter.all false

/-- where a run of digits ends -/
def runD (s : List UInt8) (at_ : Nat) : Nat := at_ + ((s.drop at_).takeWhile isDig).length
theorem runD_le {s : List UInt8} {a : Nat} : runD s a ≤ max a s.length := by
  have := (List.takeWhile_sublist isDig (l := s.drop a)).length_le
  simp only [List.length_drop] at this
  unfold runD; omega

def l31 (s : List UInt8) : Nat → Nat → Vl × Nat
  | 0, a => (if s.length < a then .mk (-1) [] else .mk (l2dec ((s.take (runD s a)).drop a)) [], runD s a)
  | d + 1, a => if s[a]? = some 40 then (.mk 0 [(l31 s d (a + 1)).1, (l31 s d ((l31 s d (a + 1)).2 + 1)).1], (l31 s d ((l31 s d (a + 1)).2 + 1)).2 + 1)
    else (if s.length < a then .mk (-1) [] else .mk (l2dec ((s.take (runD s a)).drop a)) [], runD s a)
theorem l31_le (s : List UInt8) : ∀ (d a : Nat), (l31 s d a).2 + 3 ≤ max a s.length + 6 * 2 ^ d
  | 0, a => by have := runD_le (s := s) (a := a); simp only [l31]; omega
  | d + 1, a => by
    unfold l31
    split
    · have h1 := l31_le s d (a + 1)
      have h2 := l31_le s d ((l31 s d (a + 1)).2 + 1)
      rw [Nat.pow_succ]
      have : 1 ≤ 2 ^ d := Nat.one_le_two_pow
      dsimp only
      omega
    · have := runD_le (s := s) (a := a)
      have : 1 ≤ 2 ^ d := Nat.one_le_two_pow
      rw [Nat.pow_succ]; dsimp only; omega

theorem takeWhile_len {α : Type} {p : α → Bool} : ∀ {l : List α} {j : Nat}, j ≤ l.length → (l.take j).all p = true → (∀ h : j < l.length, p l[j] = false) → (l.takeWhile p).length = j
  | [], j, h, _, _ => by simp at h; simp [h]
  | x :: l, 0, _, _, h => by
    have := h (by simp)
    simp only [List.getElem_cons_zero] at this
    simp [List.takeWhile, this]
  | x :: l, j + 1, h, h1, h2 => by
    simp only [List.take_succ_cons, List.all_cons, Bool.and_eq_true] at h1
    have := takeWhile_len (p := p) (l := l) (j := j) (by simpa using h) h1.2 (fun hj => by have := h2 (Nat.succ_lt_succ hj); rwa [List.getElem_cons_succ] at this)
    simp [List.takeWhile, h1.1, this]

/-- spec.l31Val -/
def S_s_l31Val (n : Nat) : Spec := fun args O Q => ∃ (s : List UInt8) (a d : Nat), args = [.d (.s s), iv a, iv d] ∧ O = [] ∧ d < n ∧ n ≤ 20 ∧ s.length ≤ 1000000000 ∧ a ≤ 10000000000 - 10 * 2 ^ d ∧
  Q (.tup [aVl (l31 s d a).1, iv (l31 s d a).2]) []
theorem v_s_l31Val {B : World} : ∀ n, Valid PG B s_l31Val (S_s_l31Val n) := by
  refine valid_lt (fun args O Q ⟨s, a, d, _, _, h1, _⟩ => by omega) fun n ih => ?_
  refine valid_of (Γ := [(s_l31Val, ⟨[], S_s_l31Val n⟩), (s_l2Dec, ⟨[], S_s_l2Dec⟩)]) wide tok ((AllValid.nil.cons v_s_l2Dec).cons ih) g_s_l31Val rfl rfl ?_
  rintro _ _ Q ⟨s, a, d, rfl, rfl, hd, hn, hs, ha, hQ⟩
  have hp : 2 ^ d ≤ 2 ^ 20 := Nat.pow_le_pow_right (by omega) (by omega)
  have fin : ∀ (x : AV) (r : Vl × Nat), l31 s d a = r → Wk x (.tup [aVl r.1, iv r.2]) → wkQ Q x [] := fun x r h hx => ⟨_, _, hx, WkOs.rfl, by subst h; exact hQ⟩
  have ea : (a : Int).toNat = a := by omega
  ((conv => (whnf)); (try (refine AnyG.skip ?_; (conv => (whnf)))))
  first
    | refine br_dec (fun h1 => ?_) (fun h1 => ?_)
    | refine br_eq (fun h1 => ?_) (fun h1 => ?_)
    | refine br_ne (fun h1 => ?_) (fun h1 => ?_)
    | refine br_neq (fun h1 => ?_) (fun h1 => ?_)
    | refine br_not (fun h1 => ?_) (fun h1 => ?_)
    | refine Br.mk (fun h1 => ?_) (fun h1 => ?_)
  all_goals (try simp only [List.length_append, List.length_cons, List.length_nil, List.length_map, List.length_take, List.length_drop, maxRow, byteRows_len, Ty.kids, Vl.kids, Vl.num] at h1)
  all_goals ((conv => (whnf)); (try (refine AnyG.skip ?_; (conv => (whnf)))))
  first
    | refine br_dec (fun h2 => ?_) (fun h2 => ?_)
    | refine br_eq (fun h2 => ?_) (fun h2 => ?_)
    | refine br_ne (fun h2 => ?_) (fun h2 => ?_)
    | refine br_neq (fun h2 => ?_) (fun h2 => ?_)
    | refine br_not (fun h2 => ?_) (fun h2 => ?_)
    | refine Br.mk (fun h2 => ?_) (fun h2 => ?_)
  all_goals (try simp only [List.length_append, List.length_cons, List.length_nil, List.length_map, List.length_take, List.length_drop, maxRow, byteRows_len, Ty.kids, Vl.kids, Vl.num] at h2)
  all_goals ((conv => (whnf)); (try (refine AnyG.skip ?_; (conv => (whnf)))))
  first | refine str_at (by omega) (by (try simp only [List.length_append, List.length_cons, List.length_nil, List.length_map, List.length_take, List.length_drop, maxRow, byteRows_len, Ty.kids, Vl.kids, Vl.num]); omega) ?_ | refine str_at' (by (try simp only [List.length_append, List.length_cons, List.length_nil, List.length_map, List.length_take, List.length_drop, maxRow, byteRows_len, Ty.kids, Vl.kids, Vl.num]); omega) ?_
  ((conv => (whnf)); (try (refine AnyG.skip ?_; (conv => (whnf)))))
  first
    | refine br_dec (fun h3 => ?_) (fun h3 => ?_)
    | refine br_eq (fun h3 => ?_) (fun h3 => ?_)
    | refine br_ne (fun h3 => ?_) (fun h3 => ?_)
    | refine br_neq (fun h3 => ?_) (fun h3 => ?_)
    | refine br_not (fun h3 => ?_) (fun h3 => ?_)
    | refine Br.mk (fun h3 => ?_) (fun h3 => ?_)
  all_goals (try simp only [List.length_append, List.length_cons, List.length_nil, List.length_map, List.length_take, List.length_drop, maxRow, byteRows_len, Ty.kids, Vl.kids, Vl.num] at h3)
  all_goals ((conv => (whnf)); (try (refine AnyG.skip ?_; (conv => (whnf)))))
  · obtain ⟨e, rfl⟩ : ∃ e, d = e + 1 := ⟨d - 1, by omega⟩
    have hc : s[a]? = some 40 := by
      have hlt : a < s.length := by omega
      rw [List.getElem?_eq_getElem hlt]
      have h3 : (s[a]).toNat = 40 := by
        have h4 := h3
        simp only [ea] at h4
        omega
      congr 1
      exact UInt8.toNat_inj.1 h3
    have hpe : 2 ^ (e + 1) = 2 * 2 ^ e := by rw [Nat.pow_succ]; omega
    have hpp : 1 ≤ 2 ^ e := Nat.one_le_two_pow
    have k1 := l31_le s e (a + 1)
    have k2 := l31_le s e ((l31 s e (a + 1)).2 + 1)
    have hl : l31 s (e + 1) a = (.mk 0 [(l31 s e (a + 1)).1, (l31 s e ((l31 s e (a + 1)).2 + 1)).1], (l31 s e ((l31 s e (a + 1)).2 + 1)).2 + 1) := by
      rw [l31, if_pos hc]
    repeat (first
      | (refine rng_i64 (by omega) (by omega) ?_; ((conv => (whnf)); (try (refine AnyG.skip ?_; (conv => (whnf))))))
      | (refine rng_i64 (by dsimp only; omega) (by dsimp only; omega) ?_; ((conv => (whnf)); (try (refine AnyG.skip ?_; (conv => (whnf))))))
      | (refine rng_i64 (by (try simp only [List.length_append, List.length_cons, List.length_nil, List.length_map, List.length_take, List.length_drop, maxRow, byteRows_len, Ty.kids, Vl.kids, Vl.num]); omega) (by (try simp only [List.length_append, List.length_cons, List.length_nil, List.length_map, List.length_take, List.length_drop, maxRow, byteRows_len, Ty.kids, Vl.kids, Vl.num]); omega) ?_; ((conv => (whnf)); (try (refine AnyG.skip ?_; (conv => (whnf))))))
      | (refine Req.mk (Nat.le_of_ble_eq_true rfl) ?_; ((conv => (whnf)); (try (refine AnyG.skip ?_; (conv => (whnf))))))
      | (refine Req.mk (by omega) ?_; ((conv => (whnf)); (try (refine AnyG.skip ?_; (conv => (whnf))))))
      | (refine Req.mk (by (try simp only [List.length_append, List.length_cons, List.length_nil, List.length_map, List.length_take, List.length_drop, maxRow, byteRows_len, Ty.kids, Vl.kids, Vl.num]); omega) ?_; ((conv => (whnf)); (try (refine AnyG.skip ?_; (conv => (whnf))))))
      | (refine rng_u8 (by omega) (by omega) ?_; ((conv => (whnf)); (try (refine AnyG.skip ?_; (conv => (whnf))))))
      | (refine Req.mk (by (((conv => (whnf)); (try (refine AnyG.skip ?_; (conv => (whnf)))))); (repeat (first | (refine rng_i64 (by omega) (by omega) ?_; ((conv => (whnf)); (try (refine AnyG.skip ?_; (conv => (whnf)))))) | (refine rng_i64 (by dsimp only; omega) (by dsimp only; omega) ?_; ((conv => (whnf)); (try (refine AnyG.skip ?_; (conv => (whnf)))))) | (refine rng_i64 (by (try simp only [List.length_append, List.length_cons, List.length_nil, List.length_map, List.length_take, List.length_drop, maxRow, byteRows_len, Ty.kids, Vl.kids, Vl.num]); omega) (by (try simp only [List.length_append, List.length_cons, List.length_nil, List.length_map, List.length_take, List.length_drop, maxRow, byteRows_len, Ty.kids, Vl.kids, Vl.num]); omega) ?_; ((conv => (whnf)); (try (refine AnyG.skip ?_; (conv => (whnf)))))) | (refine Req.mk (Nat.le_of_ble_eq_true rfl) ?_; ((conv => (whnf)); (try (refine AnyG.skip ?_; (conv => (whnf)))))) | (refine Req.mk (by omega) ?_; ((conv => (whnf)); (try (refine AnyG.skip ?_; (conv => (whnf)))))) | (refine Req.mk (by (try simp only [List.length_append, List.length_cons, List.length_nil, List.length_map, List.length_take, List.length_drop, maxRow, byteRows_len, Ty.kids, Vl.kids, Vl.num]); omega) ?_; ((conv => (whnf)); (try (refine AnyG.skip ?_; (conv => (whnf)))))) | (refine rng_u8 (by omega) (by omega) ?_; ((conv => (whnf)); (try (refine AnyG.skip ?_; (conv => (whnf)))))))); exact Wk.rfl) ?_; ((conv => (whnf)); (try (refine AnyG.skip ?_; (conv => (whnf))))))
      )
    have i1 : (a : Int) + 1 = ((a + 1 : Nat) : Int) := by omega
    have i2 : ((e + 1 : Nat) : Int) - 1 = (e : Int) := by omega
    rw [i1, i2]
    refine ⟨_, _, WkL.rfl, WkOs.rfl, s, a + 1, e, rfl, rfl, by omega, by omega, hs, by omega, ?_⟩
    generalize l31 s e (a + 1) = r1 at *
    repeat (first
      | (refine rng_i64 (by omega) (by omega) ?_; ((conv => (whnf)); (try (refine AnyG.skip ?_; (conv => (whnf))))))
      | (refine rng_i64 (by dsimp only; omega) (by dsimp only; omega) ?_; ((conv => (whnf)); (try (refine AnyG.skip ?_; (conv => (whnf))))))
      | (refine rng_i64 (by (try simp only [List.length_append, List.length_cons, List.length_nil, List.length_map, List.length_take, List.length_drop, maxRow, byteRows_len, Ty.kids, Vl.kids, Vl.num]); omega) (by (try simp only [List.length_append, List.length_cons, List.length_nil, List.length_map, List.length_take, List.length_drop, maxRow, byteRows_len, Ty.kids, Vl.kids, Vl.num]); omega) ?_; ((conv => (whnf)); (try (refine AnyG.skip ?_; (conv => (whnf))))))
      | (refine Req.mk (Nat.le_of_ble_eq_true rfl) ?_; ((conv => (whnf)); (try (refine AnyG.skip ?_; (conv => (whnf))))))
      | (refine Req.mk (by omega) ?_; ((conv => (whnf)); (try (refine AnyG.skip ?_; (conv => (whnf))))))
      | (refine Req.mk (by (try simp only [List.length_append, List.length_cons, List.length_nil, List.length_map, List.length_take, List.length_drop, maxRow, byteRows_len, Ty.kids, Vl.kids, Vl.num]); omega) ?_; ((conv => (whnf)); (try (refine AnyG.skip ?_; (conv => (whnf))))))
      | (refine rng_u8 (by omega) (by omega) ?_; ((conv => (whnf)); (try (refine AnyG.skip ?_; (conv => (whnf))))))
      | (refine Req.mk (by (((conv => (whnf)); (try (refine AnyG.skip ?_; (conv => (whnf)))))); (repeat (first | (refine rng_i64 (by omega) (by omega) ?_; ((conv => (whnf)); (try (refine AnyG.skip ?_; (conv => (whnf)))))) | (refine rng_i64 (by dsimp only; omega) (by dsimp only; omega) ?_; ((conv => (whnf)); (try (refine AnyG.skip ?_; (conv => (whnf)))))) | (refine rng_i64 (by (try simp only [List.length_append, List.length_cons, List.length_nil, List.length_map, List.length_take, List.length_drop, maxRow, byteRows_len, Ty.kids, Vl.kids, Vl.num]); omega) (by (try simp only [List.length_append, List.length_cons, List.length_nil, List.length_map, List.length_take, List.length_drop, maxRow, byteRows_len, Ty.kids, Vl.kids, Vl.num]); omega) ?_; ((conv => (whnf)); (try (refine AnyG.skip ?_; (conv => (whnf)))))) | (refine Req.mk (Nat.le_of_ble_eq_true rfl) ?_; ((conv => (whnf)); (try (refine AnyG.skip ?_; (conv => (whnf)))))) | (refine Req.mk (by omega) ?_; ((conv => (whnf)); (try (refine AnyG.skip ?_; (conv => (whnf)))))) | (refine Req.mk (by (try simp only [List.length_append, List.length_cons, List.length_nil, List.length_map, List.length_take, List.length_drop, maxRow, byteRows_len, Ty.kids, Vl.kids, Vl.num]); omega) ?_; ((conv => (whnf)); (try (refine AnyG.skip ?_; (conv => (whnf)))))) | (refine rng_u8 (by omega) (by omega) ?_; ((conv => (whnf)); (try (refine AnyG.skip ?_; (conv => (whnf)))))))); exact Wk.rfl) ?_; ((conv => (whnf)); (try (refine AnyG.skip ?_; (conv => (whnf))))))
      )
    have i3 : (r1.2 : Int) + 1 = ((r1.2 + 1 : Nat) : Int) := by omega
    rw [i3, i2]
    refine ⟨_, _, WkL.rfl, WkOs.rfl, s, r1.2 + 1, e, rfl, rfl, by omega, by omega, hs, by omega, ?_⟩
    generalize l31 s e (r1.2 + 1) = r2 at *
    repeat (first
      | (refine rng_i64 (by omega) (by omega) ?_; ((conv => (whnf)); (try (refine AnyG.skip ?_; (conv => (whnf))))))
      | (refine rng_i64 (by dsimp only; omega) (by dsimp only; omega) ?_; ((conv => (whnf)); (try (refine AnyG.skip ?_; (conv => (whnf))))))
      | (refine rng_i64 (by (try simp only [List.length_append, List.length_cons, List.length_nil, List.length_map, List.length_take, List.length_drop, maxRow, byteRows_len, Ty.kids, Vl.kids, Vl.num]); omega) (by (try simp only [List.length_append, List.length_cons, List.length_nil, List.length_map, List.length_take, List.length_drop, maxRow, byteRows_len, Ty.kids, Vl.kids, Vl.num]); omega) ?_; ((conv => (whnf)); (try (refine AnyG.skip ?_; (conv => (whnf))))))
      | (refine Req.mk (Nat.le_of_ble_eq_true rfl) ?_; ((conv => (whnf)); (try (refine AnyG.skip ?_; (conv => (whnf))))))
      | (refine Req.mk (by omega) ?_; ((conv => (whnf)); (try (refine AnyG.skip ?_; (conv => (whnf))))))
      | (refine Req.mk (by (try simp only [List.length_append, List.length_cons, List.length_nil, List.length_map, List.length_take, List.length_drop, maxRow, byteRows_len, Ty.kids, Vl.kids, Vl.num]); omega) ?_; ((conv => (whnf)); (try (refine AnyG.skip ?_; (conv => (whnf))))))
      | (refine rng_u8 (by omega) (by omega) ?_; ((conv => (whnf)); (try (refine AnyG.skip ?_; (conv => (whnf))))))
      | (refine Req.mk (by (((conv => (whnf)); (try (refine AnyG.skip ?_; (conv => (whnf)))))); (repeat (first | (refine rng_i64 (by omega) (by omega) ?_; ((conv => (whnf)); (try (refine AnyG.skip ?_; (conv => (whnf)))))) | (refine rng_i64 (by dsimp only; omega) (by dsimp only; omega) ?_; ((conv => (whnf)); (try (refine AnyG.skip ?_; (conv => (whnf)))))) | (refine rng_i64 (by (try simp only [List.length_append, List.length_cons, List.length_nil, List.length_map, List.length_take, List.length_drop, maxRow, byteRows_len, Ty.kids, Vl.kids, Vl.num]); omega) (by (try simp only [List.length_append, List.length_cons, List.length_nil, List.length_map, List.length_take, List.length_drop, maxRow, byteRows_len, Ty.kids, Vl.kids, Vl.num]); omega) ?_; ((conv => (whnf)); (try (refine AnyG.skip ?_; (conv => (whnf)))))) | (refine Req.mk (Nat.le_of_ble_eq_true rfl) ?_; ((conv => (whnf)); (try (refine AnyG.skip ?_; (conv => (whnf)))))) | (refine Req.mk (by omega) ?_; ((conv => (whnf)); (try (refine AnyG.skip ?_; (conv => (whnf)))))) | (refine Req.mk (by (try simp only [List.length_append, List.length_cons, List.length_nil, List.length_map, List.length_take, List.length_drop, maxRow, byteRows_len, Ty.kids, Vl.kids, Vl.num]); omega) ?_; ((conv => (whnf)); (try (refine AnyG.skip ?_; (conv => (whnf)))))) | (refine rng_u8 (by omega) (by omega) ?_; ((conv => (whnf)); (try (refine AnyG.skip ?_; (conv => (whnf)))))))); exact Wk.rfl) ?_; ((conv => (whnf)); (try (refine AnyG.skip ?_; (conv => (whnf))))))
      )
    left
    ((conv => (whnf)); (try (refine AnyG.skip ?_; (conv => (whnf)))))
    repeat (first
      | (refine rng_i64 (by omega) (by omega) ?_; ((conv => (whnf)); (try (refine AnyG.skip ?_; (conv => (whnf))))))
      | (refine rng_i64 (by dsimp only; omega) (by dsimp only; omega) ?_; ((conv => (whnf)); (try (refine AnyG.skip ?_; (conv => (whnf))))))
      | (refine rng_i64 (by (try simp only [List.length_append, List.length_cons, List.length_nil, List.length_map, List.length_take, List.length_drop, maxRow, byteRows_len, Ty.kids, Vl.kids, Vl.num]); omega) (by (try simp only [List.length_append, List.length_cons, List.length_nil, List.length_map, List.length_take, List.length_drop, maxRow, byteRows_len, Ty.kids, Vl.kids, Vl.num]); omega) ?_; ((conv => (whnf)); (try (refine AnyG.skip ?_; (conv => (whnf))))))
      | (refine Req.mk (Nat.le_of_ble_eq_true rfl) ?_; ((conv => (whnf)); (try (refine AnyG.skip ?_; (conv => (whnf))))))
      | (refine Req.mk (by omega) ?_; ((conv => (whnf)); (try (refine AnyG.skip ?_; (conv => (whnf))))))
      | (refine Req.mk (by (try simp only [List.length_append, List.length_cons, List.length_nil, List.length_map, List.length_take, List.length_drop, maxRow, byteRows_len, Ty.kids, Vl.kids, Vl.num]); omega) ?_; ((conv => (whnf)); (try (refine AnyG.skip ?_; (conv => (whnf))))))
      | (refine rng_u8 (by omega) (by omega) ?_; ((conv => (whnf)); (try (refine AnyG.skip ?_; (conv => (whnf))))))
      | (refine Req.mk (by (((conv => (whnf)); (try (refine AnyG.skip ?_; (conv => (whnf)))))); (repeat (first | (refine rng_i64 (by omega) (by omega) ?_; ((conv => (whnf)); (try (refine AnyG.skip ?_; (conv => (whnf)))))) | (refine rng_i64 (by dsimp only; omega) (by dsimp only; omega) ?_; ((conv => (whnf)); (try (refine AnyG.skip ?_; (conv => (whnf)))))) | (refine rng_i64 (by (try simp only [List.length_append, List.length_cons, List.length_nil, List.length_map, List.length_take, List.length_drop, maxRow, byteRows_len, Ty.kids, Vl.kids, Vl.num]); omega) (by (try simp only [List.length_append, List.length_cons, List.length_nil, List.length_map, List.length_take, List.length_drop, maxRow, byteRows_len, Ty.kids, Vl.kids, Vl.num]); omega) ?_; ((conv => (whnf)); (try (refine AnyG.skip ?_; (conv => (whnf)))))) | (refine Req.mk (Nat.le_of_ble_eq_true rfl) ?_; ((conv => (whnf)); (try (refine AnyG.skip ?_; (conv => (whnf)))))) | (refine Req.mk (by omega) ?_; ((conv => (whnf)); (try (refine AnyG.skip ?_; (conv => (whnf)))))) | (refine Req.mk (by (try simp only [List.length_append, List.length_cons, List.length_nil, List.length_map, List.length_take, List.length_drop, maxRow, byteRows_len, Ty.kids, Vl.kids, Vl.num]); omega) ?_; ((conv => (whnf)); (try (refine AnyG.skip ?_; (conv => (whnf)))))) | (refine rng_u8 (by omega) (by omega) ?_; ((conv => (whnf)); (try (refine AnyG.skip ?_; (conv => (whnf)))))))); exact Wk.rfl) ?_; ((conv => (whnf)); (try (refine AnyG.skip ?_; (conv => (whnf))))))
      )
    refine endK ⟨[], ⟨rfl, rfl⟩, ?_⟩
    ((conv => (whnf)); (try (refine AnyG.skip ?_; (conv => (whnf)))))
    refine fin _ _ hl ?_
    refine Wk.tup (WkL.cons (Wk.agg (WkL.cons Wk.rfl (WkL.cons (Wk.d (DW.sf.trans (DW.sl ?_))) WkL.nil))) (WkL.cons (Wk.of_eq ?_) WkL.nil))
    · exact ⟨by rw [dVl_eq], by rw [dVl_eq]; exact DWL.rfl, by rw [dVl_eq], by rw [dVl_eq]; exact DWL.rfl, trivial⟩
    · dsimp only
      rw [Int.natCast_add]; rfl
  focus
    have hl : l31 s d a = (if s.length < a then .mk (-1) [] else .mk (l2dec ((s.take (runD s a)).drop a)) [], runD s a) := by
      have hc : s[a]? ≠ some 40 := by
        have hlt : a < s.length := by omega
        rw [List.getElem?_eq_getElem hlt]
        intro e
        simp only [Option.some.injEq] at e
        simp only [ea] at h3
        rw [e] at h3
        exact h3 rfl
      cases d with
      | zero => rfl
      | succ e => rw [l31, if_neg hc]
  rotate_left
  focus
    have hl : l31 s d a = (if s.length < a then .mk (-1) [] else .mk (l2dec ((s.take (runD s a)).drop a)) [], runD s a) := by
      obtain rfl : d = 0 := by omega
      rfl
  rotate_left
  focus
    have hl : l31 s d a = (if s.length < a then .mk (-1) [] else .mk (l2dec ((s.take (runD s a)).drop a)) [], runD s a) := by
      have hc : s[a]? ≠ some 40 := by rw [List.getElem?_eq_none (by omega)]; simp
      cases d with
      | zero => rfl
      | succ e => rw [l31, if_neg hc]
  all_goals
    refine ⟨[], Int, fun i => a ≤ i ∧ i ≤ max (a : Int) s.length ∧ ((s.drop a).take (i.toNat - a)).all isDig = true, fun i => (s.length - i).toNat, fun i => [(12, iv i)],
      fun i => [.cells [iv 0, .d (.v (.slice none 0 0))]], a, ⟨by omega, by omega, by simp⟩, ?_⟩
    ((conv => (whnf)); (try (refine AnyG.skip ?_; (conv => (whnf)))))
    refine ⟨⟨rfl, rfl, WkOs.rfl, ⟨Wk.rfl, trivial⟩, rfl⟩, ?_⟩
    intro i ⟨hi0, hi1, hi2⟩
    ((conv => (whnf)); (try (refine AnyG.skip ?_; (conv => (whnf)))))
    have next : ∀ (hlt : i.toNat < s.length), isDig s[i.toNat] = true → ((s.drop a).take ((i + 1).toNat - a)).all isDig = true := fun hlt hd => by
      have e : (i + 1).toNat - a = (i.toNat - a) + 1 := by omega
      rw [e]
      refine take_all (by simp; omega) hi2 ?_
      simp only [List.getElem_drop]
      have e2 : a + (i.toNat - a) = i.toNat := by omega
      simp only [e2]; exact hd
    have stop : (∀ hlt : i.toNat < s.length, isDig s[i.toNat] = false) → runD s a = i.toNat := fun hs => by
      have := takeWhile_len (p := isDig) (l := s.drop a) (j := i.toNat - a) (by simp; omega) hi2 (fun h => by
        simp only [List.getElem_drop]
        have e2 : a + (i.toNat - a) = i.toNat := by omega
        simp only [e2]; exact hs (by simp at h; omega))
      rw [runD, this]; omega
    first
      | refine br_dec (fun h5 => ?_) (fun h5 => ?_)
      | refine br_eq (fun h5 => ?_) (fun h5 => ?_)
      | refine br_ne (fun h5 => ?_) (fun h5 => ?_)
      | refine br_neq (fun h5 => ?_) (fun h5 => ?_)
      | refine br_not (fun h5 => ?_) (fun h5 => ?_)
      | refine Br.mk (fun h5 => ?_) (fun h5 => ?_)
    all_goals (try simp only [List.length_append, List.length_cons, List.length_nil, List.length_map, List.length_take, List.length_drop, maxRow, byteRows_len, Ty.kids, Vl.kids, Vl.num] at h5)
    all_goals ((conv => (whnf)); (try (refine AnyG.skip ?_; (conv => (whnf)))))
    rotate_left
    focus have st : runD s a = i.toNat := stop (fun h => by omega)
    rotate_right
    have hlt : i.toNat < s.length := by omega
    first | refine str_at (by omega) (by (try simp only [List.length_append, List.length_cons, List.length_nil, List.length_map, List.length_take, List.length_drop, maxRow, byteRows_len, Ty.kids, Vl.kids, Vl.num]); omega) ?_ | refine str_at' (by (try simp only [List.length_append, List.length_cons, List.length_nil, List.length_map, List.length_take, List.length_drop, maxRow, byteRows_len, Ty.kids, Vl.kids, Vl.num]); omega) ?_
    ((conv => (whnf)); (try (refine AnyG.skip ?_; (conv => (whnf)))))
    first
      | refine br_dec (fun h6 => ?_) (fun h6 => ?_)
      | refine br_eq (fun h6 => ?_) (fun h6 => ?_)
      | refine br_ne (fun h6 => ?_) (fun h6 => ?_)
      | refine br_neq (fun h6 => ?_) (fun h6 => ?_)
      | refine br_not (fun h6 => ?_) (fun h6 => ?_)
      | refine Br.mk (fun h6 => ?_) (fun h6 => ?_)
    all_goals (try simp only [List.length_append, List.length_cons, List.length_nil, List.length_map, List.length_take, List.length_drop, maxRow, byteRows_len, Ty.kids, Vl.kids, Vl.num] at h6)
    all_goals ((conv => (whnf)); (try (refine AnyG.skip ?_; (conv => (whnf)))))
    rotate_left
    focus
      have hd : isDig s[i.toNat] = false := by simp only [isDig, Bool.and_eq_false_iff, decide_eq_false_iff_not]; omega
      have st : runD s a = i.toNat := stop (fun _ => hd)
    rotate_right
    first | refine str_at (by omega) (by (try simp only [List.length_append, List.length_cons, List.length_nil, List.length_map, List.length_take, List.length_drop, maxRow, byteRows_len, Ty.kids, Vl.kids, Vl.num]); omega) ?_ | refine str_at' (by (try simp only [List.length_append, List.length_cons, List.length_nil, List.length_map, List.length_take, List.length_drop, maxRow, byteRows_len, Ty.kids, Vl.kids, Vl.num]); omega) ?_
    ((conv => (whnf)); (try (refine AnyG.skip ?_; (conv => (whnf)))))
    first
      | refine br_dec (fun h7 => ?_) (fun h7 => ?_)
      | refine br_eq (fun h7 => ?_) (fun h7 => ?_)
      | refine br_ne (fun h7 => ?_) (fun h7 => ?_)
      | refine br_neq (fun h7 => ?_) (fun h7 => ?_)
      | refine br_not (fun h7 => ?_) (fun h7 => ?_)
      | refine Br.mk (fun h7 => ?_) (fun h7 => ?_)
    all_goals (try simp only [List.length_append, List.length_cons, List.length_nil, List.length_map, List.length_take, List.length_drop, maxRow, byteRows_len, Ty.kids, Vl.kids, Vl.num] at h7)
    all_goals ((conv => (whnf)); (try (refine AnyG.skip ?_; (conv => (whnf)))))
    rotate_left
    focus
      have hd : isDig s[i.toNat] = false := by simp only [isDig, Bool.and_eq_false_iff, decide_eq_false_iff_not]; omega
      have st : runD s a = i.toNat := stop (fun _ => hd)
    rotate_right
    · repeat (first
        | (refine rng_i64 (by omega) (by omega) ?_; ((conv => (whnf)); (try (refine AnyG.skip ?_; (conv => (whnf))))))
        | (refine rng_i64 (by dsimp only; omega) (by dsimp only; omega) ?_; ((conv => (whnf)); (try (refine AnyG.skip ?_; (conv => (whnf))))))
        | (refine rng_i64 (by (try simp only [List.length_append, List.length_cons, List.length_nil, List.length_map, List.length_take, List.length_drop, maxRow, byteRows_len, Ty.kids, Vl.kids, Vl.num]); omega) (by (try simp only [List.length_append, List.length_cons, List.length_nil, List.length_map, List.length_take, List.length_drop, maxRow, byteRows_len, Ty.kids, Vl.kids, Vl.num]); omega) ?_; ((conv => (whnf)); (try (refine AnyG.skip ?_; (conv => (whnf))))))
        | (refine Req.mk (Nat.le_of_ble_eq_true rfl) ?_; ((conv => (whnf)); (try (refine AnyG.skip ?_; (conv => (whnf))))))
        | (refine Req.mk (by omega) ?_; ((conv => (whnf)); (try (refine AnyG.skip ?_; (conv => (whnf))))))
        | (refine Req.mk (by (try simp only [List.length_append, List.length_cons, List.length_nil, List.length_map, List.length_take, List.length_drop, maxRow, byteRows_len, Ty.kids, Vl.kids, Vl.num]); omega) ?_; ((conv => (whnf)); (try (refine AnyG.skip ?_; (conv => (whnf))))))
        | (refine rng_u8 (by omega) (by omega) ?_; ((conv => (whnf)); (try (refine AnyG.skip ?_; (conv => (whnf))))))
        | (refine Req.mk (by (((conv => (whnf)); (try (refine AnyG.skip ?_; (conv => (whnf)))))); (repeat (first | (refine rng_i64 (by omega) (by omega) ?_; ((conv => (whnf)); (try (refine AnyG.skip ?_; (conv => (whnf)))))) | (refine rng_i64 (by dsimp only; omega) (by dsimp only; omega) ?_; ((conv => (whnf)); (try (refine AnyG.skip ?_; (conv => (whnf)))))) | (refine rng_i64 (by (try simp only [List.length_append, List.length_cons, List.length_nil, List.length_map, List.length_take, List.length_drop, maxRow, byteRows_len, Ty.kids, Vl.kids, Vl.num]); omega) (by (try simp only [List.length_append, List.length_cons, List.length_nil, List.length_map, List.length_take, List.length_drop, maxRow, byteRows_len, Ty.kids, Vl.kids, Vl.num]); omega) ?_; ((conv => (whnf)); (try (refine AnyG.skip ?_; (conv => (whnf)))))) | (refine Req.mk (Nat.le_of_ble_eq_true rfl) ?_; ((conv => (whnf)); (try (refine AnyG.skip ?_; (conv => (whnf)))))) | (refine Req.mk (by omega) ?_; ((conv => (whnf)); (try (refine AnyG.skip ?_; (conv => (whnf)))))) | (refine Req.mk (by (try simp only [List.length_append, List.length_cons, List.length_nil, List.length_map, List.length_take, List.length_drop, maxRow, byteRows_len, Ty.kids, Vl.kids, Vl.num]); omega) ?_; ((conv => (whnf)); (try (refine AnyG.skip ?_; (conv => (whnf)))))) | (refine rng_u8 (by omega) (by omega) ?_; ((conv => (whnf)); (try (refine AnyG.skip ?_; (conv => (whnf)))))))); exact Wk.rfl) ?_; ((conv => (whnf)); (try (refine AnyG.skip ?_; (conv => (whnf))))))
        )
      refine ⟨i + 1, ⟨by omega, by omega, next hlt (by simp [isDig]; omega)⟩, by dsimp only; omega, [], Meet.mk rfl rfl WkOs.rfl ⟨Wk.rfl, trivial⟩ rfl⟩
    all_goals
      rw [st] at hl
      clear stop next
      have ei : ((i.toNat : Nat) : Int) = i := by omega
      first
        | refine br_dec (fun h8 => ?_) (fun h8 => ?_)
        | refine br_eq (fun h8 => ?_) (fun h8 => ?_)
        | refine br_ne (fun h8 => ?_) (fun h8 => ?_)
        | refine br_neq (fun h8 => ?_) (fun h8 => ?_)
        | refine br_not (fun h8 => ?_) (fun h8 => ?_)
        | refine Br.mk (fun h8 => ?_) (fun h8 => ?_)
      all_goals (try simp only [List.length_append, List.length_cons, List.length_nil, List.length_map, List.length_take, List.length_drop, maxRow, byteRows_len, Ty.kids, Vl.kids, Vl.num] at h8)
      all_goals ((conv => (whnf)); (try (refine AnyG.skip ?_; (conv => (whnf)))))
      · refine endK ⟨[], ⟨rfl, rfl⟩, ?_⟩
        ((conv => (whnf)); (try (refine AnyG.skip ?_; (conv => (whnf)))))
        rw [if_pos (by omega)] at hl
        refine fin _ _ hl ?_
        rw [ei]
        exact Wk.tup (WkL.cons (wk_v0 _) (WkL.cons Wk.rfl WkL.nil))
      · rw [if_neg (by omega)] at hl
        refine Req.mk (by omega) ?_
        refine ⟨_, _, WkL.rfl, WkOs.rfl, _, rfl, rfl, ?_⟩
        repeat (first
          | (refine rng_i64 (by omega) (by omega) ?_; ((conv => (whnf)); (try (refine AnyG.skip ?_; (conv => (whnf))))))
          | (refine rng_i64 (by dsimp only; omega) (by dsimp only; omega) ?_; ((conv => (whnf)); (try (refine AnyG.skip ?_; (conv => (whnf))))))
          | (refine rng_i64 (by (try simp only [List.length_append, List.length_cons, List.length_nil, List.length_map, List.length_take, List.length_drop, maxRow, byteRows_len, Ty.kids, Vl.kids, Vl.num]); omega) (by (try simp only [List.length_append, List.length_cons, List.length_nil, List.length_map, List.length_take, List.length_drop, maxRow, byteRows_len, Ty.kids, Vl.kids, Vl.num]); omega) ?_; ((conv => (whnf)); (try (refine AnyG.skip ?_; (conv => (whnf))))))
          | (refine Req.mk (Nat.le_of_ble_eq_true rfl) ?_; ((conv => (whnf)); (try (refine AnyG.skip ?_; (conv => (whnf))))))
          | (refine Req.mk (by omega) ?_; ((conv => (whnf)); (try (refine AnyG.skip ?_; (conv => (whnf))))))
          | (refine Req.mk (by (try simp only [List.length_append, List.length_cons, List.length_nil, List.length_map, List.length_take, List.length_drop, maxRow, byteRows_len, Ty.kids, Vl.kids, Vl.num]); omega) ?_; ((conv => (whnf)); (try (refine AnyG.skip ?_; (conv => (whnf))))))
          | (refine rng_u8 (by omega) (by omega) ?_; ((conv => (whnf)); (try (refine AnyG.skip ?_; (conv => (whnf))))))
          | (refine Req.mk (by (((conv => (whnf)); (try (refine AnyG.skip ?_; (conv => (whnf)))))); (repeat (first | (refine rng_i64 (by omega) (by omega) ?_; ((conv => (whnf)); (try (refine AnyG.skip ?_; (conv => (whnf)))))) | (refine rng_i64 (by dsimp only; omega) (by dsimp only; omega) ?_; ((conv => (whnf)); (try (refine AnyG.skip ?_; (conv => (whnf)))))) | (refine rng_i64 (by (try simp only [List.length_append, List.length_cons, List.length_nil, List.length_map, List.length_take, List.length_drop, maxRow, byteRows_len, Ty.kids, Vl.kids, Vl.num]); omega) (by (try simp only [List.length_append, List.length_cons, List.length_nil, List.length_map, List.length_take, List.length_drop, maxRow, byteRows_len, Ty.kids, Vl.kids, Vl.num]); omega) ?_; ((conv => (whnf)); (try (refine AnyG.skip ?_; (conv => (whnf)))))) | (refine Req.mk (Nat.le_of_ble_eq_true rfl) ?_; ((conv => (whnf)); (try (refine AnyG.skip ?_; (conv => (whnf)))))) | (refine Req.mk (by omega) ?_; ((conv => (whnf)); (try (refine AnyG.skip ?_; (conv => (whnf)))))) | (refine Req.mk (by (try simp only [List.length_append, List.length_cons, List.length_nil, List.length_map, List.length_take, List.length_drop, maxRow, byteRows_len, Ty.kids, Vl.kids, Vl.num]); omega) ?_; ((conv => (whnf)); (try (refine AnyG.skip ?_; (conv => (whnf)))))) | (refine rng_u8 (by omega) (by omega) ?_; ((conv => (whnf)); (try (refine AnyG.skip ?_; (conv => (whnf)))))))); exact Wk.rfl) ?_; ((conv => (whnf)); (try (refine AnyG.skip ?_; (conv => (whnf))))))
          )
        refine endK ⟨[], ⟨rfl, rfl⟩, ?_⟩
        ((conv => (whnf)); (try (refine AnyG.skip ?_; (conv => (whnf)))))
        refine fin _ _ hl ?_
        rw [ei]
        exact Wk.tup (WkL.cons (wk_v0 _) (WkL.cons Wk.rfl WkL.nil))

/-! ### What is read -/
/-- no digit follows -/
def noD (rest : List UInt8) : Prop := ∀ b, rest.head? = some b → isDig b = false
theorem runD_app (pre ds rest : List UInt8) (hd : ds.all isDig = true) (hr : noD rest) : runD (pre ++ ds ++ rest) pre.length = pre.length + ds.length := by
  have e : (pre ++ ds ++ rest).drop pre.length = ds ++ rest := by simp
  have h : ((ds ++ rest).takeWhile isDig) = ds := by
    have h1 : ∀ x ∈ ds, isDig x = true := List.all_eq_true.1 hd
    rw [List.takeWhile_append_of_pos h1]
    cases rest with
    | nil => simp
    | cons b r =>
      have := hr b rfl
      simp [List.takeWhile, this]
  rw [runD, e, h]

theorem l31_vw : ∀ (d : Nat) (v : Vl), (vt d v).2 = true → ∀ pre rest, noD rest → l31 (pre ++ vw d v ++ rest) d pre.length = (v, pre.length + (vw d v).length)
  | d, .mk n ks, h, pre, rest, hr => by
    obtain ⟨j, rfl, ⟨rfl, h0, h1⟩ | ⟨a, b, rfl, rfl, h1, h2⟩⟩ := vt_kids h
    · have hdig := dec_isDig (n.toNat + 1) n.toNat (by omega)
      have hne := dec_ne n.toNat
      simp only [vw, itoa_nat h0]
      have hrun := runD_app pre _ rest hdig hr
      have hc : (pre ++ Lib.decDigits n.toNat ++ rest)[pre.length]? ≠ some 40 := by
        cases hl : Lib.decDigits n.toNat with
        | nil => exact absurd hl hne
        | cons c r =>
          rw [hl] at hdig
          simp only [List.all_cons, Bool.and_eq_true] at hdig
          rw [List.append_assoc, List.getElem?_append_right (Nat.le_refl _)]
          simp only [Nat.sub_self, List.cons_append, List.getElem?_cons_zero, ne_eq, Option.some.injEq]
          rintro rfl
          exact absurd hdig.1 (by decide)
      rw [l31, if_neg hc, hrun, if_neg (by simp only [List.length_append]; omega)]
      have e : ((pre ++ Lib.decDigits n.toNat ++ rest).take (pre.length + (Lib.decDigits n.toNat).length)).drop pre.length = Lib.decDigits n.toNat := by
        have e0 : (pre ++ Lib.decDigits n.toNat ++ rest).take (pre.length + (Lib.decDigits n.toNat).length) = pre ++ Lib.decDigits n.toNat := List.take_left' (by simp)
        rw [e0]; exact List.drop_left
      rw [e, l2dec_dec _ (by omega)]
      congr 2; omega
    · have s1 : ∀ r, noD (44 :: r) := fun r b hb => by simp at hb; subst hb; decide
      have s2 : ∀ r, noD (41 :: r) := fun r b hb => by simp at hb; subst hb; decide
      have ha := l31_vw j a h1 (pre ++ [40]) (44 :: (vw j b ++ (41 :: rest))) (s1 _)
      have hb := l31_vw j b h2 (pre ++ [40] ++ vw j a ++ [44]) (41 :: rest) (s2 _)
      have e1 : pre ++ vw (j + 1) (.mk 0 [a, b]) ++ rest = pre ++ [40] ++ vw j a ++ 44 :: (vw j b ++ (41 :: rest)) := by simp [vw]
      have e2 : pre ++ [40] ++ vw j a ++ 44 :: (vw j b ++ (41 :: rest)) = pre ++ [40] ++ vw j a ++ [44] ++ vw j b ++ 41 :: rest := by simp
      have hc : (pre ++ [40] ++ vw j a ++ 44 :: (vw j b ++ (41 :: rest)))[pre.length]? = some 40 := by simp
      have l1 : (pre ++ [40]).length = pre.length + 1 := by simp
      have l2 : (pre ++ [40] ++ vw j a ++ [44]).length = pre.length + 1 + (vw j a).length + 1 := by simp; omega
      rw [l1] at ha
      rw [l2, ← e2] at hb
      rw [e1, l31, if_pos hc, ha]
      dsimp only
      rw [hb]
      simp [vw]; omega

def specRead (s : List UInt8) : Option Vl := if s ≠ [] ∧ valText (l31 s 4 0).1 = s then some (l31 s 4 0).1 else none
theorem specRead_eq (s : List UInt8) : specRead s = valRead s := by
  unfold specRead
  split
  · rename_i h
    obtain ⟨h1, h2⟩ := h
    generalize (l31 s 4 0).1 = v at h2
    have hv : (vt 4 v).2 = true := by
      cases hv : (vt 4 v).2 with
      | true => rfl
      | false => simp [valText, hv] at h2; exact absurd h2.symm (by simpa using h1)
    rw [← h2]; exact (valRead_text hv).symm
  · rename_i h
    cases hr : valRead s with
    | none => rfl
    | some v =>
      exfalso
      refine h ?_
      have h2 : valText v = s := by
        unfold valRead at hr
        split at hr
        · split at hr
          · rename_i h3; simp at hr; subst hr; exact h3.2
          · cases hr
        · cases hr
      have h1 : s ≠ [] := by
        rintro rfl
        have : valRead [] = none := by decide +kernel
        rw [this] at hr; cases hr
      refine ⟨h1, ?_⟩
      have hv : (vt 4 v).2 = true := by
        cases hv : (vt 4 v).2 with
        | true => rfl
        | false => simp [valText, hv] at h2; exact absurd h2.symm (by simpa using h1)
      have := l31_vw 4 v hv [] [] (fun b hb => by simp at hb)
      simp only [valText, hv, cond_true] at h2
      simp only [List.nil_append, List.append_nil, h2, List.length_nil] at this
      rw [this]
      simp only [valText, hv, cond_true, h2]

/-- spec.ValRead -/
theorem v_s_ValRead {B : World} : Valid PG B s_ValRead S_i_ValRead := by
  refine valid_of (Γ := [(s_l31Val, ⟨[], S_s_l31Val 10⟩), (s_ValText, ⟨[], S_i_ValText⟩)]) wide tok ((AllValid.nil.cons v_s_ValText).cons (v_s_l31Val 10)) g_s_ValRead rfl rfl ?_
  rintro _ _ Q ⟨s, hs, rfl, rfl, hQ, hE⟩
  rw [← specRead_eq] at hQ hE
  ((conv => (whnf)); (try (refine AnyG.skip ?_; (conv => (whnf)))))
  refine ⟨_, _, WkL.rfl, WkOs.rfl, s, 0, 4, rfl, rfl, by omega, by omega, hs, by omega, ?_⟩
  generalize he : (l31 s 4 0).1 = v
  repeat (first
    | (refine rng_i64 (by omega) (by omega) ?_; ((conv => (whnf)); (try (refine AnyG.skip ?_; (conv => (whnf))))))
    | (refine rng_i64 (by dsimp only; omega) (by dsimp only; omega) ?_; ((conv => (whnf)); (try (refine AnyG.skip ?_; (conv => (whnf))))))
    | (refine rng_i64 (by (try simp only [List.length_append, List.length_cons, List.length_nil, List.length_map, List.length_take, List.length_drop, maxRow, byteRows_len, Ty.kids, Vl.kids, Vl.num]); omega) (by (try simp only [List.length_append, List.length_cons, List.length_nil, List.length_map, List.length_take, List.length_drop, maxRow, byteRows_len, Ty.kids, Vl.kids, Vl.num]); omega) ?_; ((conv => (whnf)); (try (refine AnyG.skip ?_; (conv => (whnf))))))
    | (refine Req.mk (Nat.le_of_ble_eq_true rfl) ?_; ((conv => (whnf)); (try (refine AnyG.skip ?_; (conv => (whnf))))))
    | (refine Req.mk (by omega) ?_; ((conv => (whnf)); (try (refine AnyG.skip ?_; (conv => (whnf))))))
    | (refine Req.mk (by (try simp only [List.length_append, List.length_cons, List.length_nil, List.length_map, List.length_take, List.length_drop, maxRow, byteRows_len, Ty.kids, Vl.kids, Vl.num]); omega) ?_; ((conv => (whnf)); (try (refine AnyG.skip ?_; (conv => (whnf))))))
    | (refine rng_u8 (by omega) (by omega) ?_; ((conv => (whnf)); (try (refine AnyG.skip ?_; (conv => (whnf))))))
    | (refine Req.mk (by (((conv => (whnf)); (try (refine AnyG.skip ?_; (conv => (whnf)))))); (repeat (first | (refine rng_i64 (by omega) (by omega) ?_; ((conv => (whnf)); (try (refine AnyG.skip ?_; (conv => (whnf)))))) | (refine rng_i64 (by dsimp only; omega) (by dsimp only; omega) ?_; ((conv => (whnf)); (try (refine AnyG.skip ?_; (conv => (whnf)))))) | (refine rng_i64 (by (try simp only [List.length_append, List.length_cons, List.length_nil, List.length_map, List.length_take, List.length_drop, maxRow, byteRows_len, Ty.kids, Vl.kids, Vl.num]); omega) (by (try simp only [List.length_append, List.length_cons, List.length_nil, List.length_map, List.length_take, List.length_drop, maxRow, byteRows_len, Ty.kids, Vl.kids, Vl.num]); omega) ?_; ((conv => (whnf)); (try (refine AnyG.skip ?_; (conv => (whnf)))))) | (refine Req.mk (Nat.le_of_ble_eq_true rfl) ?_; ((conv => (whnf)); (try (refine AnyG.skip ?_; (conv => (whnf)))))) | (refine Req.mk (by omega) ?_; ((conv => (whnf)); (try (refine AnyG.skip ?_; (conv => (whnf)))))) | (refine Req.mk (by (try simp only [List.length_append, List.length_cons, List.length_nil, List.length_map, List.length_take, List.length_drop, maxRow, byteRows_len, Ty.kids, Vl.kids, Vl.num]); omega) ?_; ((conv => (whnf)); (try (refine AnyG.skip ?_; (conv => (whnf)))))) | (refine rng_u8 (by omega) (by omega) ?_; ((conv => (whnf)); (try (refine AnyG.skip ?_; (conv => (whnf)))))))); exact Wk.rfl) ?_; ((conv => (whnf)); (try (refine AnyG.skip ?_; (conv => (whnf))))))
    )
  first
    | refine br_dec (fun h => ?_) (fun h => ?_)
    | refine br_eq (fun h => ?_) (fun h => ?_)
    | refine br_ne (fun h => ?_) (fun h => ?_)
    | refine br_neq (fun h => ?_) (fun h => ?_)
    | refine br_not (fun h => ?_) (fun h => ?_)
    | refine Br.mk (fun h => ?_) (fun h => ?_)
  all_goals (try simp only [List.length_append, List.length_cons, List.length_nil, List.length_map, List.length_take, List.length_drop, maxRow, byteRows_len, Ty.kids, Vl.kids, Vl.num] at h)
  all_goals ((conv => (whnf)); (try (refine AnyG.skip ?_; (conv => (whnf)))))
  · refine endK ⟨[], ⟨rfl, rfl⟩, ?_⟩
    ((conv => (whnf)); (try (refine AnyG.skip ?_; (conv => (whnf)))))
    refine ⟨_, _, ?_, WkOs.rfl, hE ?_⟩
    · exact Wk.tup (WkL.cons (wk_v0 0) (WkL.cons Wk.rfl WkL.nil))
    · simp at h; simp [specRead, h]
  · refine ⟨_, _, WkL.rfl, WkOs.rfl, v, rfl, rfl, ?_⟩
    repeat (first
      | (refine rng_i64 (by omega) (by omega) ?_; ((conv => (whnf)); (try (refine AnyG.skip ?_; (conv => (whnf))))))
      | (refine rng_i64 (by dsimp only; omega) (by dsimp only; omega) ?_; ((conv => (whnf)); (try (refine AnyG.skip ?_; (conv => (whnf))))))
      | (refine rng_i64 (by (try simp only [List.length_append, List.length_cons, List.length_nil, List.length_map, List.length_take, List.length_drop, maxRow, byteRows_len, Ty.kids, Vl.kids, Vl.num]); omega) (by (try simp only [List.length_append, List.length_cons, List.length_nil, List.length_map, List.length_take, List.length_drop, maxRow, byteRows_len, Ty.kids, Vl.kids, Vl.num]); omega) ?_; ((conv => (whnf)); (try (refine AnyG.skip ?_; (conv => (whnf))))))
      | (refine Req.mk (Nat.le_of_ble_eq_true rfl) ?_; ((conv => (whnf)); (try (refine AnyG.skip ?_; (conv => (whnf))))))
      | (refine Req.mk (by omega) ?_; ((conv => (whnf)); (try (refine AnyG.skip ?_; (conv => (whnf))))))
      | (refine Req.mk (by (try simp only [List.length_append, List.length_cons, List.length_nil, List.length_map, List.length_take, List.length_drop, maxRow, byteRows_len, Ty.kids, Vl.kids, Vl.num]); omega) ?_; ((conv => (whnf)); (try (refine AnyG.skip ?_; (conv => (whnf))))))
      | (refine rng_u8 (by omega) (by omega) ?_; ((conv => (whnf)); (try (refine AnyG.skip ?_; (conv => (whnf))))))
      | (refine Req.mk (by (((conv => (whnf)); (try (refine AnyG.skip ?_; (conv => (whnf)))))); (repeat (first | (refine rng_i64 (by omega) (by omega) ?_; ((conv => (whnf)); (try (refine AnyG.skip ?_; (conv => (whnf)))))) | (refine rng_i64 (by dsimp only; omega) (by dsimp only; omega) ?_; ((conv => (whnf)); (try (refine AnyG.skip ?_; (conv => (whnf)))))) | (refine rng_i64 (by (try simp only [List.length_append, List.length_cons, List.length_nil, List.length_map, List.length_take, List.length_drop, maxRow, byteRows_len, Ty.kids, Vl.kids, Vl.num]); omega) (by (try simp only [List.length_append, List.length_cons, List.length_nil, List.length_map, List.length_take, List.length_drop, maxRow, byteRows_len, Ty.kids, Vl.kids, Vl.num]); omega) ?_; ((conv => (whnf)); (try (refine AnyG.skip ?_; (conv => (whnf)))))) | (refine Req.mk (Nat.le_of_ble_eq_true rfl) ?_; ((conv => (whnf)); (try (refine AnyG.skip ?_; (conv => (whnf)))))) | (refine Req.mk (by omega) ?_; ((conv => (whnf)); (try (refine AnyG.skip ?_; (conv => (whnf)))))) | (refine Req.mk (by (try simp only [List.length_append, List.length_cons, List.length_nil, List.length_map, List.length_take, List.length_drop, maxRow, byteRows_len, Ty.kids, Vl.kids, Vl.num]); omega) ?_; ((conv => (whnf)); (try (refine AnyG.skip ?_; (conv => (whnf)))))) | (refine rng_u8 (by omega) (by omega) ?_; ((conv => (whnf)); (try (refine AnyG.skip ?_; (conv => (whnf)))))))); exact Wk.rfl) ?_; ((conv => (whnf)); (try (refine AnyG.skip ?_; (conv => (whnf))))))
      )
    first
      | refine br_dec (fun h2 => ?_) (fun h2 => ?_)
      | refine br_eq (fun h2 => ?_) (fun h2 => ?_)
      | refine br_ne (fun h2 => ?_) (fun h2 => ?_)
      | refine br_neq (fun h2 => ?_) (fun h2 => ?_)
      | refine br_not (fun h2 => ?_) (fun h2 => ?_)
      | refine Br.mk (fun h2 => ?_) (fun h2 => ?_)
    all_goals (try simp only [List.length_append, List.length_cons, List.length_nil, List.length_map, List.length_take, List.length_drop, maxRow, byteRows_len, Ty.kids, Vl.kids, Vl.num] at h2)
    all_goals ((conv => (whnf)); (try (refine AnyG.skip ?_; (conv => (whnf)))))
    · refine endK ⟨[], ⟨rfl, rfl⟩, ?_⟩
      ((conv => (whnf)); (try (refine AnyG.skip ?_; (conv => (whnf)))))
      refine ⟨_, _, ?_, WkOs.rfl, hE ?_⟩
      · exact Wk.tup (WkL.cons (wk_v0 0) (WkL.cons Wk.rfl WkL.nil))
      · simp at h2; simp [specRead, he, h2]
    · refine endK ⟨[], ⟨rfl, rfl⟩, ?_⟩
      ((conv => (whnf)); (try (refine AnyG.skip ?_; (conv => (whnf)))))
      refine ⟨_, _, Wk.rfl, WkOs.rfl, hQ v ?_⟩
      simp at h h2; simp [specRead, he, h, h2]
end Ab
