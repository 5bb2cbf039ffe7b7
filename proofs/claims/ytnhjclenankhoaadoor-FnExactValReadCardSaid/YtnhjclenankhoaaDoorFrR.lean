/- The drawing of values: contracts. -/
import Derived.Test.YtnhjclenankhoaaDoorFrP
set_option linter.all false
namespace Ab
open Go Go.Proofs
set_option maxRecDepth 10000
set_option maxHeartbeats 4000000
set_option linter.all false

/-- a value that is in form, of a type -/
def isOf : Nat → Ty → Vl → Prop
  | 0, _, _ => False
  | d + 1, .mk ts, .mk n vs => (ts = [] ∧ vs = [] ∧ 0 ≤ n ∧ n ≤ 9999) ∨ ∃ t1 t2 v1 v2, ts = [t1, t2] ∧ vs = [v1, v2] ∧ n = 0 ∧ isOf d t1 v1 ∧ isOf d t2 v2
theorem isOf_vt : ∀ {d : Nat} {t : Ty} {v : Vl}, isOf d t v → vt d v = (t, true)
  | d + 1, .mk ts, .mk n vs, .inl ⟨h1, h2, h3, h4⟩ => by subst h1; subst h2; simp [vt, h3, h4]
  | d + 1, .mk ts, .mk n vs, .inr ⟨t1, t2, v1, v2, h1, h2, h3, h4, h5⟩ => by
    subst h1; subst h2; subst h3
    simp [vt, isOf_vt h4, isOf_vt h5]

theorem wk_fVl (v : Vl) : DWL [.i .i64 v.num, .sf 2 (v.kids.map dVl)] (dVl v) := by
  rw [dVl_eq]; exact DWL.cons DW.rfl (DWL.cons DW.sf DWL.nil)
theorem wk_nVl (n : Int) : DWL [.i .i64 n, .v (.slice none 0 0)] (dVl (.mk n [])) := by
  rw [dVl_eq]; exact DWL.cons DW.rfl (DWL.cons (DW.nil 2) DWL.nil)

/-- spec.l71Val -/
def S_s_l71Val (n : Nat) : Spec := fun args O Q => ∃ (l : List UInt8) (p : Int) (t : Ty) (m : Nat), args = [.ptr 0 0, aTy t] ∧ O = [oRd l p] ∧ m < n ∧ tyOk m t = true ∧ l.length ≤ 2000 ∧ 0 ≤ p ∧ p + Bd n ≤ 1000000000 ∧
  ∀ (v : Vl) (p' : Int), isOf m t v → p ≤ p' → p' ≤ p + Bd n → Q (fVl v) [oRd l p']
theorem v_s_l71Val {B : World} : ∀ n, Valid PG B s_l71Val (S_s_l71Val n) := by
  refine valid_lt (fun args O Q ⟨l, p, t, m, _, _, h1, _⟩ => by omega) fun n ih => ?_
  refine valid_of (Γ := [(s_l71Val, ⟨[], S_s_l71Val n⟩), (s_l6Rd_pick, ⟨[], S_s_l6Rd_pick⟩)]) wide tok ((AllValid.nil.cons v_s_l6Rd_pick).cons ih) g_s_l71Val rfl rfl ?_
  rintro _ _ Q ⟨l, p, ⟨ts⟩, m, rfl, rfl, hm, hok, hl, hp, hB, hQ⟩
  have hb := Bd_pos n
  have hb1 : Bd (n + 1) = 2 * Bd n + 1 := rfl
  obtain ⟨j, rfl, hlen, hks⟩ := tyOk_kids hok
  ((conv => (whnf)); (try (refine AnyG.skip ?_; (conv => (whnf)))))
  first
    | refine br_dec (fun h => ?_) (fun h => ?_)
    | refine br_eq (fun h => ?_) (fun h => ?_)
    | refine br_ne (fun h => ?_) (fun h => ?_)
    | refine br_neq (fun h => ?_) (fun h => ?_)
    | refine br_not (fun h => ?_) (fun h => ?_)
    | refine Br.mk (fun h => ?_) (fun h => ?_)
  all_goals (try simp only [List.length_append, List.length_cons, List.length_nil, List.length_map, List.length_take, List.length_drop, maxRow, byteRows_len, Ty.kids, Vl.kids, Vl.num] at h)
  all_goals ((conv => (whnf)); (try (refine AnyG.skip ?_; (conv => (whnf)))))
  · have e : ts = [] := List.eq_nil_of_length_eq_zero (by omega)
    subst e
    left
    ((conv => (whnf)); (try (refine AnyG.skip ?_; (conv => (whnf)))))
    refine ⟨_, _, WkL.rfl, WkOs.rfl, l, p, 7, hl, hp, by omega, by omega, rfl, rfl, ?_⟩
    intro k _ hk
    obtain ⟨hk0, hk1⟩ := hk (by omega)
    repeat (first
      | (refine rng_i64 (by omega) (by omega) ?_; ((conv => (whnf)); (try (refine AnyG.skip ?_; (conv => (whnf))))))
      | (refine rng_i64 (by dsimp only; omega) (by dsimp only; omega) ?_; ((conv => (whnf)); (try (refine AnyG.skip ?_; (conv => (whnf))))))
      | (refine rng_i64 (by (try simp only [List.length_append, List.length_cons, List.length_nil, List.length_map, List.length_take, List.length_drop, maxRow, byteRows_len, Ty.kids, Vl.kids, Vl.num]); omega) (by (try simp only [List.length_append, List.length_cons, List.length_nil, List.length_map, List.length_take, List.length_drop, maxRow, byteRows_len, Ty.kids, Vl.kids, Vl.num]); omega) ?_; ((conv => (whnf)); (try (refine AnyG.skip ?_; (conv => (whnf))))))
      | (refine Req.mk (Nat.le_of_ble_eq_true rfl) ?_; ((conv => (whnf)); (try (refine AnyG.skip ?_; (conv => (whnf))))))
      | (refine Req.mk (by omega) ?_; ((conv => (whnf)); (try (refine AnyG.skip ?_; (conv => (whnf))))))
      | (refine Req.mk (by (try simp only [List.length_append, List.length_cons, List.length_nil, List.length_map, List.length_take, List.length_drop, maxRow, byteRows_len, Ty.kids, Vl.kids, Vl.num]); omega) ?_; ((conv => (whnf)); (try (refine AnyG.skip ?_; (conv => (whnf))))))
      | (refine rng_u8 (by omega) (by omega) ?_; ((conv => (whnf)); (try (refine AnyG.skip ?_; (conv => (whnf))))))
      | (refine Req.mk (by (((conv => (whnf)); (try (refine AnyG.skip ?_; (conv => (whnf)))))); (repeat (first | (refine rng_i64 (by omega) (by omega) ?_; ((conv => (whnf)); (try (refine AnyG.skip ?_; (conv => (whnf)))))) | (refine rng_i64 (by dsimp only; omega) (by dsimp only; omega) ?_; ((conv => (whnf)); (try (refine AnyG.skip ?_; (conv => (whnf)))))) | (refine rng_i64 (by (try simp only [List.length_append, List.length_cons, List.length_nil, List.length_map, List.length_take, List.length_drop, maxRow, byteRows_len, Ty.kids, Vl.kids, Vl.num]); omega) (by (try simp only [List.length_append, List.length_cons, List.length_nil, List.length_map, List.length_take, List.length_drop, maxRow, byteRows_len, Ty.kids, Vl.kids, Vl.num]); omega) ?_; ((conv => (whnf)); (try (refine AnyG.skip ?_; (conv => (whnf)))))) | (refine Req.mk (Nat.le_of_ble_eq_true rfl) ?_; ((conv => (whnf)); (try (refine AnyG.skip ?_; (conv => (whnf)))))) | (refine Req.mk (by omega) ?_; ((conv => (whnf)); (try (refine AnyG.skip ?_; (conv => (whnf)))))) | (refine Req.mk (by (try simp only [List.length_append, List.length_cons, List.length_nil, List.length_map, List.length_take, List.length_drop, maxRow, byteRows_len, Ty.kids, Vl.kids, Vl.num]); omega) ?_; ((conv => (whnf)); (try (refine AnyG.skip ?_; (conv => (whnf)))))) | (refine rng_u8 (by omega) (by omega) ?_; ((conv => (whnf)); (try (refine AnyG.skip ?_; (conv => (whnf)))))))); exact Wk.rfl) ?_; ((conv => (whnf)); (try (refine AnyG.skip ?_; (conv => (whnf))))))
      )
    obtain ⟨c, hc, he⟩ := pick_lit [0, 1, 2, 3, 7, 50, 9999] hk0 hk1
    refine ⟨_, he, ?_⟩
    have hc : 0 ≤ c ∧ c ≤ 9999 := by
      have : ∀ c ∈ ([0, 1, 2, 3, 7, 50, 9999] : List Int), 0 ≤ c ∧ c ≤ 9999 := by decide
      exact this c hc
    ((conv => (whnf)); (try (refine AnyG.skip ?_; (conv => (whnf)))))
    refine endK ⟨[], ⟨rfl, rfl⟩, ?_⟩
    ((conv => (whnf)); (try (refine AnyG.skip ?_; (conv => (whnf)))))
    refine ⟨_, _, ?_, WkOs.rfl, hQ (.mk c []) (p + 1) (.inl ⟨rfl, rfl, hc.1, hc.2⟩) (by omega) (by omega)⟩
    repeat' (first
      | exact Wk.rfl
      | exact WkL.rfl
      | exact WkOs.rfl
      | exact DWRows.rfl
      | exact Wk.nil _
      | exact DWL.rfl
      | exact DW.rfl
      | exact DW.nil _
      | exact DW.nilf _
      | exact DW.sf
      | refine Wk.agg ?_
      | refine Wk.tup ?_
      | refine WkL.cons ?_ ?_
      | refine Wk.d ?_
      | refine DWL.cons ?_ ?_
      | refine DW.sf.trans (DW.sl ?_)
      | refine DW.sl ?_
      | refine DW.sff ?_
      | exact WkL.nil
      | exact trivial
      | exact DWRows.rfl_of (by simp [Function.comp_def, Ty.kids, Vl.kids, Vl.num])
      )
  · obtain ⟨a, b, rfl⟩ : ∃ a b, ts = [a, b] := by
      match ts, hok, h with
      | [], _, h => exact absurd rfl h
      | [a], hok, _ => simp [tyOk] at hok
      | [a, b], _, _ => exact ⟨a, b, rfl⟩
      | _ :: _ :: _ :: _, hok, _ => simp at hlen
    try refine Req.mk (by omega) ?_
    refine ⟨dTy a, rfl, ?_⟩
    rw [dTy_eq]
    ((conv => (whnf)); (try (refine AnyG.skip ?_; (conv => (whnf)))))
    try refine Req.mk (by omega) ?_
    refine ⟨dTy b, rfl, ?_⟩
    rw [dTy_eq]
    ((conv => (whnf)); (try (refine AnyG.skip ?_; (conv => (whnf)))))
    refine ⟨_, _, WkL.rfl, WkOs.rfl, l, p, a, j, rfl, rfl, by omega, hks a (by simp), hl, hp, by omega, ?_⟩
    intro v1 p1 hv1 e1 e2
    repeat (first
      | (refine rng_i64 (by omega) (by omega) ?_; ((conv => (whnf)); (try (refine AnyG.skip ?_; (conv => (whnf))))))
      | (refine rng_i64 (by dsimp only; omega) (by dsimp only; omega) ?_; ((conv => (whnf)); (try (refine AnyG.skip ?_; (conv => (whnf))))))
      | (refine rng_i64 (by (try simp only [List.length_append, List.length_cons, List.length_nil, List.length_map, List.length_take, List.length_drop, maxRow, byteRows_len, Ty.kids, Vl.kids, Vl.num]); omega) (by (try simp only [List.length_append, List.length_cons, List.length_nil, List.length_map, List.length_take, List.length_drop, maxRow, byteRows_len, Ty.kids, Vl.kids, Vl.num]); omega) ?_; ((conv => (whnf)); (try (refine AnyG.skip ?_; (conv => (whnf))))))
      | (refine Req.mk (Nat.le_of_ble_eq_true rfl) ?_; ((conv => (whnf)); (try (refine AnyG.skip ?_; (conv => (whnf))))))
      | (refine Req.mk (by omega) ?_; ((conv => (whnf)); (try (refine AnyG.skip ?_; (conv => (whnf))))))
      | (refine Req.mk (by (try simp only [List.length_append, List.length_cons, List.length_nil, List.length_map, List.length_take, List.length_drop, maxRow, byteRows_len, Ty.kids, Vl.kids, Vl.num]); omega) ?_; ((conv => (whnf)); (try (refine AnyG.skip ?_; (conv => (whnf))))))
      | (refine rng_u8 (by omega) (by omega) ?_; ((conv => (whnf)); (try (refine AnyG.skip ?_; (conv => (whnf))))))
      | (refine Req.mk (by (((conv => (whnf)); (try (refine AnyG.skip ?_; (conv => (whnf)))))); (repeat (first | (refine rng_i64 (by omega) (by omega) ?_; ((conv => (whnf)); (try (refine AnyG.skip ?_; (conv => (whnf)))))) | (refine rng_i64 (by dsimp only; omega) (by dsimp only; omega) ?_; ((conv => (whnf)); (try (refine AnyG.skip ?_; (conv => (whnf)))))) | (refine rng_i64 (by (try simp only [List.length_append, List.length_cons, List.length_nil, List.length_map, List.length_take, List.length_drop, maxRow, byteRows_len, Ty.kids, Vl.kids, Vl.num]); omega) (by (try simp only [List.length_append, List.length_cons, List.length_nil, List.length_map, List.length_take, List.length_drop, maxRow, byteRows_len, Ty.kids, Vl.kids, Vl.num]); omega) ?_; ((conv => (whnf)); (try (refine AnyG.skip ?_; (conv => (whnf)))))) | (refine Req.mk (Nat.le_of_ble_eq_true rfl) ?_; ((conv => (whnf)); (try (refine AnyG.skip ?_; (conv => (whnf)))))) | (refine Req.mk (by omega) ?_; ((conv => (whnf)); (try (refine AnyG.skip ?_; (conv => (whnf)))))) | (refine Req.mk (by (try simp only [List.length_append, List.length_cons, List.length_nil, List.length_map, List.length_take, List.length_drop, maxRow, byteRows_len, Ty.kids, Vl.kids, Vl.num]); omega) ?_; ((conv => (whnf)); (try (refine AnyG.skip ?_; (conv => (whnf)))))) | (refine rng_u8 (by omega) (by omega) ?_; ((conv => (whnf)); (try (refine AnyG.skip ?_; (conv => (whnf)))))))); exact Wk.rfl) ?_; ((conv => (whnf)); (try (refine AnyG.skip ?_; (conv => (whnf))))))
      )
    refine Req.mk (by (((conv => (whnf)); (try (refine AnyG.skip ?_; (conv => (whnf)))))); refine Req.mk (by omega) ?_; refine ⟨dTy b, rfl, ?_⟩; rw [dTy_eq]; (((conv => (whnf)); (try (refine AnyG.skip ?_; (conv => (whnf)))))); exact Wk.rfl) ?_
    ((conv => (whnf)); (try (refine AnyG.skip ?_; (conv => (whnf)))))
    repeat (first
      | (refine rng_i64 (by omega) (by omega) ?_; ((conv => (whnf)); (try (refine AnyG.skip ?_; (conv => (whnf))))))
      | (refine rng_i64 (by dsimp only; omega) (by dsimp only; omega) ?_; ((conv => (whnf)); (try (refine AnyG.skip ?_; (conv => (whnf))))))
      | (refine rng_i64 (by (try simp only [List.length_append, List.length_cons, List.length_nil, List.length_map, List.length_take, List.length_drop, maxRow, byteRows_len, Ty.kids, Vl.kids, Vl.num]); omega) (by (try simp only [List.length_append, List.length_cons, List.length_nil, List.length_map, List.length_take, List.length_drop, maxRow, byteRows_len, Ty.kids, Vl.kids, Vl.num]); omega) ?_; ((conv => (whnf)); (try (refine AnyG.skip ?_; (conv => (whnf))))))
      | (refine Req.mk (Nat.le_of_ble_eq_true rfl) ?_; ((conv => (whnf)); (try (refine AnyG.skip ?_; (conv => (whnf))))))
      | (refine Req.mk (by omega) ?_; ((conv => (whnf)); (try (refine AnyG.skip ?_; (conv => (whnf))))))
      | (refine Req.mk (by (try simp only [List.length_append, List.length_cons, List.length_nil, List.length_map, List.length_take, List.length_drop, maxRow, byteRows_len, Ty.kids, Vl.kids, Vl.num]); omega) ?_; ((conv => (whnf)); (try (refine AnyG.skip ?_; (conv => (whnf))))))
      | (refine rng_u8 (by omega) (by omega) ?_; ((conv => (whnf)); (try (refine AnyG.skip ?_; (conv => (whnf))))))
      | (refine Req.mk (by (((conv => (whnf)); (try (refine AnyG.skip ?_; (conv => (whnf)))))); (repeat (first | (refine rng_i64 (by omega) (by omega) ?_; ((conv => (whnf)); (try (refine AnyG.skip ?_; (conv => (whnf)))))) | (refine rng_i64 (by dsimp only; omega) (by dsimp only; omega) ?_; ((conv => (whnf)); (try (refine AnyG.skip ?_; (conv => (whnf)))))) | (refine rng_i64 (by (try simp only [List.length_append, List.length_cons, List.length_nil, List.length_map, List.length_take, List.length_drop, maxRow, byteRows_len, Ty.kids, Vl.kids, Vl.num]); omega) (by (try simp only [List.length_append, List.length_cons, List.length_nil, List.length_map, List.length_take, List.length_drop, maxRow, byteRows_len, Ty.kids, Vl.kids, Vl.num]); omega) ?_; ((conv => (whnf)); (try (refine AnyG.skip ?_; (conv => (whnf)))))) | (refine Req.mk (Nat.le_of_ble_eq_true rfl) ?_; ((conv => (whnf)); (try (refine AnyG.skip ?_; (conv => (whnf)))))) | (refine Req.mk (by omega) ?_; ((conv => (whnf)); (try (refine AnyG.skip ?_; (conv => (whnf)))))) | (refine Req.mk (by (try simp only [List.length_append, List.length_cons, List.length_nil, List.length_map, List.length_take, List.length_drop, maxRow, byteRows_len, Ty.kids, Vl.kids, Vl.num]); omega) ?_; ((conv => (whnf)); (try (refine AnyG.skip ?_; (conv => (whnf)))))) | (refine rng_u8 (by omega) (by omega) ?_; ((conv => (whnf)); (try (refine AnyG.skip ?_; (conv => (whnf)))))))); exact Wk.rfl) ?_; ((conv => (whnf)); (try (refine AnyG.skip ?_; (conv => (whnf))))))
      )
    refine ⟨_, _, WkL.rfl, WkOs.rfl, l, p1, b, j, rfl, rfl, by omega, hks b (by simp), hl, by omega, by omega, ?_⟩
    intro v2 p2 hv2 e3 e4
    repeat (first
      | (refine rng_i64 (by omega) (by omega) ?_; ((conv => (whnf)); (try (refine AnyG.skip ?_; (conv => (whnf))))))
      | (refine rng_i64 (by dsimp only; omega) (by dsimp only; omega) ?_; ((conv => (whnf)); (try (refine AnyG.skip ?_; (conv => (whnf))))))
      | (refine rng_i64 (by (try simp only [List.length_append, List.length_cons, List.length_nil, List.length_map, List.length_take, List.length_drop, maxRow, byteRows_len, Ty.kids, Vl.kids, Vl.num]); omega) (by (try simp only [List.length_append, List.length_cons, List.length_nil, List.length_map, List.length_take, List.length_drop, maxRow, byteRows_len, Ty.kids, Vl.kids, Vl.num]); omega) ?_; ((conv => (whnf)); (try (refine AnyG.skip ?_; (conv => (whnf))))))
      | (refine Req.mk (Nat.le_of_ble_eq_true rfl) ?_; ((conv => (whnf)); (try (refine AnyG.skip ?_; (conv => (whnf))))))
      | (refine Req.mk (by omega) ?_; ((conv => (whnf)); (try (refine AnyG.skip ?_; (conv => (whnf))))))
      | (refine Req.mk (by (try simp only [List.length_append, List.length_cons, List.length_nil, List.length_map, List.length_take, List.length_drop, maxRow, byteRows_len, Ty.kids, Vl.kids, Vl.num]); omega) ?_; ((conv => (whnf)); (try (refine AnyG.skip ?_; (conv => (whnf))))))
      | (refine rng_u8 (by omega) (by omega) ?_; ((conv => (whnf)); (try (refine AnyG.skip ?_; (conv => (whnf))))))
      | (refine Req.mk (by (((conv => (whnf)); (try (refine AnyG.skip ?_; (conv => (whnf)))))); (repeat (first | (refine rng_i64 (by omega) (by omega) ?_; ((conv => (whnf)); (try (refine AnyG.skip ?_; (conv => (whnf)))))) | (refine rng_i64 (by dsimp only; omega) (by dsimp only; omega) ?_; ((conv => (whnf)); (try (refine AnyG.skip ?_; (conv => (whnf)))))) | (refine rng_i64 (by (try simp only [List.length_append, List.length_cons, List.length_nil, List.length_map, List.length_take, List.length_drop, maxRow, byteRows_len, Ty.kids, Vl.kids, Vl.num]); omega) (by (try simp only [List.length_append, List.length_cons, List.length_nil, List.length_map, List.length_take, List.length_drop, maxRow, byteRows_len, Ty.kids, Vl.kids, Vl.num]); omega) ?_; ((conv => (whnf)); (try (refine AnyG.skip ?_; (conv => (whnf)))))) | (refine Req.mk (Nat.le_of_ble_eq_true rfl) ?_; ((conv => (whnf)); (try (refine AnyG.skip ?_; (conv => (whnf)))))) | (refine Req.mk (by omega) ?_; ((conv => (whnf)); (try (refine AnyG.skip ?_; (conv => (whnf)))))) | (refine Req.mk (by (try simp only [List.length_append, List.length_cons, List.length_nil, List.length_map, List.length_take, List.length_drop, maxRow, byteRows_len, Ty.kids, Vl.kids, Vl.num]); omega) ?_; ((conv => (whnf)); (try (refine AnyG.skip ?_; (conv => (whnf)))))) | (refine rng_u8 (by omega) (by omega) ?_; ((conv => (whnf)); (try (refine AnyG.skip ?_; (conv => (whnf)))))))); exact Wk.rfl) ?_; ((conv => (whnf)); (try (refine AnyG.skip ?_; (conv => (whnf))))))
      )
    left
    ((conv => (whnf)); (try (refine AnyG.skip ?_; (conv => (whnf)))))
    refine endK ⟨[], ⟨rfl, rfl⟩, ?_⟩
    ((conv => (whnf)); (try (refine AnyG.skip ?_; (conv => (whnf)))))
    refine ⟨_, _, ?_, WkOs.rfl, hQ (.mk 0 [v1, v2]) p2 (.inr ⟨a, b, v1, v2, rfl, rfl, rfl, hv1, hv2⟩) (by omega) (by omega)⟩
    refine Wk.agg (WkL.cons Wk.rfl (WkL.cons (Wk.d (DW.sff ?_)) WkL.nil))
    exact ⟨by rw [dVl_eq]; rfl, wk_fVl v1, by rw [dVl_eq]; rfl, wk_fVl v2, trivial⟩

theorem isOf_len {d : Nat} {t : Ty} {v : Vl} (h : isOf d t v) : v.kids.length ≤ 2 := by
  cases d with
  | zero => exact h.elim
  | succ d =>
    obtain ⟨ts⟩ := t
    obtain ⟨n, vs⟩ := v
    rcases h with ⟨_, rfl, _⟩ | ⟨_, _, _, _, _, rfl, _⟩ <;> simp [Vl.kids]

/-- spec.l71Bad -/
def S_s_l71Bad : Spec := fun args O Q => ∃ (l : List UInt8) (p : Int) (t : Ty), args = [.ptr 0 0, aTy t] ∧ O = [oRd l p] ∧ tyOk 9 t = true ∧ l.length ≤ 2000 ∧ 0 ≤ p ∧ p + 3000 ≤ 1000000000 ∧
  ∀ (v : Vl) (p' : Int), p ≤ p' → p' ≤ p + 3000 → Q (aVl v) [oRd l p']
theorem v_s_l71Bad {B : World} : Valid PG B s_l71Bad S_s_l71Bad := by
  refine valid_of (Γ := [(s_l71Val, ⟨[], S_s_l71Val 10⟩), (s_l6Rd_pick, ⟨[], S_s_l6Rd_pick⟩)]) wide tok ((AllValid.nil.cons v_s_l6Rd_pick).cons (v_s_l71Val 10)) g_s_l71Bad rfl rfl ?_
  rintro _ _ Q ⟨l, p, t, rfl, rfl, hok, hl, hp, hB, hQ⟩
  have hb : Bd 10 = 2047 := by decide
  ((conv => (whnf)); (try (refine AnyG.skip ?_; (conv => (whnf)))))
  refine ⟨_, _, WkL.rfl, WkOs.rfl, l, p, t, 9, rfl, rfl, by omega, hok, hl, hp, by omega, ?_⟩
  intro v p1 hv e1 e2
  repeat (first
    | (refine rng_i64 (by omega) (by omega) ?_; ((conv => (whnf)); (try (refine AnyG.skip ?_; (conv => (whnf))))))
    | (refine rng_i64 (by dsimp only; omega) (by dsimp only; omega) ?_; ((conv => (whnf)); (try (refine AnyG.skip ?_; (conv => (whnf))))))
    | (refine rng_i64 (by (try simp only [List.length_append, List.length_cons, List.length_nil, List.length_map, List.length_take, List.length_drop, maxRow, byteRows_len, Ty.kids, Vl.kids, Vl.num]); omega) (by (try simp only [List.length_append, List.length_cons, List.length_nil, List.length_map, List.length_take, List.length_drop, maxRow, byteRows_len, Ty.kids, Vl.kids, Vl.num]); omega) ?_; ((conv => (whnf)); (try (refine AnyG.skip ?_; (conv => (whnf))))))
    | (refine Req.mk (Nat.le_of_ble_eq_true rfl) ?_; ((conv => (whnf)); (try (refine AnyG.skip ?_; (conv => (whnf))))))
    | (refine Req.mk (by omega) ?_; ((conv => (whnf)); (try (refine AnyG.skip ?_; (conv => (whnf))))))
    | (refine Req.mk (by (try simp only [List.length_append, List.length_cons, List.length_nil, List.length_map, List.length_take, List.length_drop, maxRow, byteRows_len, Ty.kids, Vl.kids, Vl.num]); omega) ?_; ((conv => (whnf)); (try (refine AnyG.skip ?_; (conv => (whnf))))))
    | (refine rng_u8 (by omega) (by omega) ?_; ((conv => (whnf)); (try (refine AnyG.skip ?_; (conv => (whnf))))))
    | (refine Req.mk (by (((conv => (whnf)); (try (refine AnyG.skip ?_; (conv => (whnf)))))); (repeat (first | (refine rng_i64 (by omega) (by omega) ?_; ((conv => (whnf)); (try (refine AnyG.skip ?_; (conv => (whnf)))))) | (refine rng_i64 (by dsimp only; omega) (by dsimp only; omega) ?_; ((conv => (whnf)); (try (refine AnyG.skip ?_; (conv => (whnf)))))) | (refine rng_i64 (by (try simp only [List.length_append, List.length_cons, List.length_nil, List.length_map, List.length_take, List.length_drop, maxRow, byteRows_len, Ty.kids, Vl.kids, Vl.num]); omega) (by (try simp only [List.length_append, List.length_cons, List.length_nil, List.length_map, List.length_take, List.length_drop, maxRow, byteRows_len, Ty.kids, Vl.kids, Vl.num]); omega) ?_; ((conv => (whnf)); (try (refine AnyG.skip ?_; (conv => (whnf)))))) | (refine Req.mk (Nat.le_of_ble_eq_true rfl) ?_; ((conv => (whnf)); (try (refine AnyG.skip ?_; (conv => (whnf)))))) | (refine Req.mk (by omega) ?_; ((conv => (whnf)); (try (refine AnyG.skip ?_; (conv => (whnf)))))) | (refine Req.mk (by (try simp only [List.length_append, List.length_cons, List.length_nil, List.length_map, List.length_take, List.length_drop, maxRow, byteRows_len, Ty.kids, Vl.kids, Vl.num]); omega) ?_; ((conv => (whnf)); (try (refine AnyG.skip ?_; (conv => (whnf)))))) | (refine rng_u8 (by omega) (by omega) ?_; ((conv => (whnf)); (try (refine AnyG.skip ?_; (conv => (whnf)))))))); exact Wk.rfl) ?_; ((conv => (whnf)); (try (refine AnyG.skip ?_; (conv => (whnf))))))
    )
  refine ⟨_, _, WkL.rfl, WkOs.rfl, l, p1, 12, hl, by omega, by omega, by omega, rfl, rfl, ?_⟩
  intro k _ _
  repeat (first
    | (refine rng_i64 (by omega) (by omega) ?_; ((conv => (whnf)); (try (refine AnyG.skip ?_; (conv => (whnf))))))
    | (refine rng_i64 (by dsimp only; omega) (by dsimp only; omega) ?_; ((conv => (whnf)); (try (refine AnyG.skip ?_; (conv => (whnf))))))
    | (refine rng_i64 (by (try simp only [List.length_append, List.length_cons, List.length_nil, List.length_map, List.length_take, List.length_drop, maxRow, byteRows_len, Ty.kids, Vl.kids, Vl.num]); omega) (by (try simp only [List.length_append, List.length_cons, List.length_nil, List.length_map, List.length_take, List.length_drop, maxRow, byteRows_len, Ty.kids, Vl.kids, Vl.num]); omega) ?_; ((conv => (whnf)); (try (refine AnyG.skip ?_; (conv => (whnf))))))
    | (refine Req.mk (Nat.le_of_ble_eq_true rfl) ?_; ((conv => (whnf)); (try (refine AnyG.skip ?_; (conv => (whnf))))))
    | (refine Req.mk (by omega) ?_; ((conv => (whnf)); (try (refine AnyG.skip ?_; (conv => (whnf))))))
    | (refine Req.mk (by (try simp only [List.length_append, List.length_cons, List.length_nil, List.length_map, List.length_take, List.length_drop, maxRow, byteRows_len, Ty.kids, Vl.kids, Vl.num]); omega) ?_; ((conv => (whnf)); (try (refine AnyG.skip ?_; (conv => (whnf))))))
    | (refine rng_u8 (by omega) (by omega) ?_; ((conv => (whnf)); (try (refine AnyG.skip ?_; (conv => (whnf))))))
    | (refine Req.mk (by (((conv => (whnf)); (try (refine AnyG.skip ?_; (conv => (whnf)))))); (repeat (first | (refine rng_i64 (by omega) (by omega) ?_; ((conv => (whnf)); (try (refine AnyG.skip ?_; (conv => (whnf)))))) | (refine rng_i64 (by dsimp only; omega) (by dsimp only; omega) ?_; ((conv => (whnf)); (try (refine AnyG.skip ?_; (conv => (whnf)))))) | (refine rng_i64 (by (try simp only [List.length_append, List.length_cons, List.length_nil, List.length_map, List.length_take, List.length_drop, maxRow, byteRows_len, Ty.kids, Vl.kids, Vl.num]); omega) (by (try simp only [List.length_append, List.length_cons, List.length_nil, List.length_map, List.length_take, List.length_drop, maxRow, byteRows_len, Ty.kids, Vl.kids, Vl.num]); omega) ?_; ((conv => (whnf)); (try (refine AnyG.skip ?_; (conv => (whnf)))))) | (refine Req.mk (Nat.le_of_ble_eq_true rfl) ?_; ((conv => (whnf)); (try (refine AnyG.skip ?_; (conv => (whnf)))))) | (refine Req.mk (by omega) ?_; ((conv => (whnf)); (try (refine AnyG.skip ?_; (conv => (whnf)))))) | (refine Req.mk (by (try simp only [List.length_append, List.length_cons, List.length_nil, List.length_map, List.length_take, List.length_drop, maxRow, byteRows_len, Ty.kids, Vl.kids, Vl.num]); omega) ?_; ((conv => (whnf)); (try (refine AnyG.skip ?_; (conv => (whnf)))))) | (refine rng_u8 (by omega) (by omega) ?_; ((conv => (whnf)); (try (refine AnyG.skip ?_; (conv => (whnf)))))))); exact Wk.rfl) ?_; ((conv => (whnf)); (try (refine AnyG.skip ?_; (conv => (whnf))))))
    )
  first
    | refine br_dec (fun h => ?_) (fun h => ?_)
    | refine br_eq (fun h => ?_) (fun h => ?_)
    | refine br_ne (fun h => ?_) (fun h => ?_)
    | refine br_neq (fun h => ?_) (fun h => ?_)
    | refine br_not (fun h => ?_) (fun h => ?_)
    | refine Br.mk (fun h => ?_) (fun h => ?_)
  all_goals (try simp only [List.length_append, List.length_cons, List.length_nil, List.length_map, List.length_take, List.length_drop, maxRow, byteRows_len, Ty.kids, Vl.kids, Vl.num] at h)
  all_goals ((conv => (whnf)); (try (refine AnyG.skip ?_; (conv => (whnf)))))
  · left
    ((conv => (whnf)); (try (refine AnyG.skip ?_; (conv => (whnf)))))
    refine ⟨_, _, WkL.rfl, WkOs.rfl, l, p1 + 1, 4, hl, by omega, by omega, by omega, rfl, rfl, ?_⟩
    intro k2 _ hk
    obtain ⟨hk0, hk1⟩ := hk (by omega)
    repeat (first
      | (refine rng_i64 (by omega) (by omega) ?_; ((conv => (whnf)); (try (refine AnyG.skip ?_; (conv => (whnf))))))
      | (refine rng_i64 (by dsimp only; omega) (by dsimp only; omega) ?_; ((conv => (whnf)); (try (refine AnyG.skip ?_; (conv => (whnf))))))
      | (refine rng_i64 (by (try simp only [List.length_append, List.length_cons, List.length_nil, List.length_map, List.length_take, List.length_drop, maxRow, byteRows_len, Ty.kids, Vl.kids, Vl.num]); omega) (by (try simp only [List.length_append, List.length_cons, List.length_nil, List.length_map, List.length_take, List.length_drop, maxRow, byteRows_len, Ty.kids, Vl.kids, Vl.num]); omega) ?_; ((conv => (whnf)); (try (refine AnyG.skip ?_; (conv => (whnf))))))
      | (refine Req.mk (Nat.le_of_ble_eq_true rfl) ?_; ((conv => (whnf)); (try (refine AnyG.skip ?_; (conv => (whnf))))))
      | (refine Req.mk (by omega) ?_; ((conv => (whnf)); (try (refine AnyG.skip ?_; (conv => (whnf))))))
      | (refine Req.mk (by (try simp only [List.length_append, List.length_cons, List.length_nil, List.length_map, List.length_take, List.length_drop, maxRow, byteRows_len, Ty.kids, Vl.kids, Vl.num]); omega) ?_; ((conv => (whnf)); (try (refine AnyG.skip ?_; (conv => (whnf))))))
      | (refine rng_u8 (by omega) (by omega) ?_; ((conv => (whnf)); (try (refine AnyG.skip ?_; (conv => (whnf))))))
      | (refine Req.mk (by (((conv => (whnf)); (try (refine AnyG.skip ?_; (conv => (whnf)))))); (repeat (first | (refine rng_i64 (by omega) (by omega) ?_; ((conv => (whnf)); (try (refine AnyG.skip ?_; (conv => (whnf)))))) | (refine rng_i64 (by dsimp only; omega) (by dsimp only; omega) ?_; ((conv => (whnf)); (try (refine AnyG.skip ?_; (conv => (whnf)))))) | (refine rng_i64 (by (try simp only [List.length_append, List.length_cons, List.length_nil, List.length_map, List.length_take, List.length_drop, maxRow, byteRows_len, Ty.kids, Vl.kids, Vl.num]); omega) (by (try simp only [List.length_append, List.length_cons, List.length_nil, List.length_map, List.length_take, List.length_drop, maxRow, byteRows_len, Ty.kids, Vl.kids, Vl.num]); omega) ?_; ((conv => (whnf)); (try (refine AnyG.skip ?_; (conv => (whnf)))))) | (refine Req.mk (Nat.le_of_ble_eq_true rfl) ?_; ((conv => (whnf)); (try (refine AnyG.skip ?_; (conv => (whnf)))))) | (refine Req.mk (by omega) ?_; ((conv => (whnf)); (try (refine AnyG.skip ?_; (conv => (whnf)))))) | (refine Req.mk (by (try simp only [List.length_append, List.length_cons, List.length_nil, List.length_map, List.length_take, List.length_drop, maxRow, byteRows_len, Ty.kids, Vl.kids, Vl.num]); omega) ?_; ((conv => (whnf)); (try (refine AnyG.skip ?_; (conv => (whnf)))))) | (refine rng_u8 (by omega) (by omega) ?_; ((conv => (whnf)); (try (refine AnyG.skip ?_; (conv => (whnf)))))))); exact Wk.rfl) ?_; ((conv => (whnf)); (try (refine AnyG.skip ?_; (conv => (whnf))))))
      )
    obtain ⟨c, _, he⟩ := pick_lit [-1, 1, 9999, 10000] hk0 hk1
    refine ⟨_, he, ?_⟩
    ((conv => (whnf)); (try (refine AnyG.skip ?_; (conv => (whnf)))))
    refine endK ⟨[], ⟨rfl, rfl⟩, ?_⟩
    ((conv => (whnf)); (try (refine AnyG.skip ?_; (conv => (whnf)))))
    refine ⟨_, _, ?_, WkOs.rfl, hQ (.mk c v.kids) (p1 + 1 + 1) (by omega) (by omega)⟩
    repeat' (first
      | exact Wk.rfl
      | exact WkL.rfl
      | exact WkOs.rfl
      | exact DWRows.rfl
      | exact Wk.nil _
      | exact DWL.rfl
      | exact DW.rfl
      | exact DW.nil _
      | exact DW.nilf _
      | exact DW.sf
      | refine Wk.agg ?_
      | refine Wk.tup ?_
      | refine WkL.cons ?_ ?_
      | refine Wk.d ?_
      | refine DWL.cons ?_ ?_
      | refine DW.sf.trans (DW.sl ?_)
      | refine DW.sl ?_
      | refine DW.sff ?_
      | exact WkL.nil
      | exact trivial
      | exact DWRows.rfl_of (by simp [Function.comp_def, Ty.kids, Vl.kids, Vl.num])
      )
  first
    | refine br_dec (fun h2 => ?_) (fun h2 => ?_)
    | refine br_eq (fun h2 => ?_) (fun h2 => ?_)
    | refine br_ne (fun h2 => ?_) (fun h2 => ?_)
    | refine br_neq (fun h2 => ?_) (fun h2 => ?_)
    | refine br_not (fun h2 => ?_) (fun h2 => ?_)
    | refine Br.mk (fun h2 => ?_) (fun h2 => ?_)
  all_goals (try simp only [List.length_append, List.length_cons, List.length_nil, List.length_map, List.length_take, List.length_drop, maxRow, byteRows_len, Ty.kids, Vl.kids, Vl.num] at h2)
  all_goals ((conv => (whnf)); (try (refine AnyG.skip ?_; (conv => (whnf)))))
  · left
    ((conv => (whnf)); (try (refine AnyG.skip ?_; (conv => (whnf)))))
    have := isOf_len hv
    refine Req.mk ⟨by simp, by simp [maxRow]; omega⟩ ?_
    ((conv => (whnf)); (try (refine AnyG.skip ?_; (conv => (whnf)))))
    refine endK ⟨[], ⟨rfl, rfl⟩, ?_⟩
    ((conv => (whnf)); (try (refine AnyG.skip ?_; (conv => (whnf)))))
    refine ⟨_, _, ?_, WkOs.rfl, hQ (.mk v.num (v.kids ++ [.mk 0 []])) (p1 + 1) (by omega) (by omega)⟩
    refine Wk.agg (WkL.cons Wk.rfl (WkL.cons (Wk.d (DW.sl ?_)) WkL.nil))
    simp only [Vl.kids, List.map_append]
    exact DWRows.app DWRows.rfl ⟨by rw [dVl_eq]; rfl, wk_nVl 0, trivial⟩
  first
    | refine br_dec (fun h3 => ?_) (fun h3 => ?_)
    | refine br_eq (fun h3 => ?_) (fun h3 => ?_)
    | refine br_ne (fun h3 => ?_) (fun h3 => ?_)
    | refine br_neq (fun h3 => ?_) (fun h3 => ?_)
    | refine br_not (fun h3 => ?_) (fun h3 => ?_)
    | refine Br.mk (fun h3 => ?_) (fun h3 => ?_)
  all_goals (try simp only [List.length_append, List.length_cons, List.length_nil, List.length_map, List.length_take, List.length_drop, maxRow, byteRows_len, Ty.kids, Vl.kids, Vl.num] at h3)
  all_goals ((conv => (whnf)); (try (refine AnyG.skip ?_; (conv => (whnf)))))
  · refine ⟨[], Vl × Int, fun x => 0 ≤ x.2 ∧ x.2 ≤ 5, fun x => (5 - x.2).toNat, fun x => [(6, iv x.2)],
      fun x => [oRd l (p1 + 1), .cells [.d (.sl 1 (t.kids.map dTy))], .cells [iv 0, .d (.v (.slice none 0 0))], .cells [iv x.1.num, .d (.sf 2 (x.1.kids.map dVl))]], (v, 0), ⟨by dsimp only; omega, by dsimp only; omega⟩, ?_⟩
    ((conv => (whnf)); (try (refine AnyG.skip ?_; (conv => (whnf)))))
    refine ⟨⟨rfl, rfl, WkOs.rfl, ⟨Wk.rfl, trivial⟩, rfl⟩, ?_⟩
    rintro ⟨v, i⟩ ⟨hi0, hi1⟩
    dsimp only at hi0 hi1
    ((conv => (whnf)); (try (refine AnyG.skip ?_; (conv => (whnf)))))
    first
      | refine br_dec (fun h4 => ?_) (fun h4 => ?_)
      | refine br_eq (fun h4 => ?_) (fun h4 => ?_)
      | refine br_ne (fun h4 => ?_) (fun h4 => ?_)
      | refine br_neq (fun h4 => ?_) (fun h4 => ?_)
      | refine br_not (fun h4 => ?_) (fun h4 => ?_)
      | refine Br.mk (fun h4 => ?_) (fun h4 => ?_)
    all_goals (try simp only [List.length_append, List.length_cons, List.length_nil, List.length_map, List.length_take, List.length_drop, maxRow, byteRows_len, Ty.kids, Vl.kids, Vl.num] at h4)
    all_goals ((conv => (whnf)); (try (refine AnyG.skip ?_; (conv => (whnf)))))
    · left
      ((conv => (whnf)); (try (refine AnyG.skip ?_; (conv => (whnf)))))
      repeat (first
        | (refine rng_i64 (by omega) (by omega) ?_; ((conv => (whnf)); (try (refine AnyG.skip ?_; (conv => (whnf))))))
        | (refine rng_i64 (by dsimp only; omega) (by dsimp only; omega) ?_; ((conv => (whnf)); (try (refine AnyG.skip ?_; (conv => (whnf))))))
        | (refine rng_i64 (by (try simp only [List.length_append, List.length_cons, List.length_nil, List.length_map, List.length_take, List.length_drop, maxRow, byteRows_len, Ty.kids, Vl.kids, Vl.num]); omega) (by (try simp only [List.length_append, List.length_cons, List.length_nil, List.length_map, List.length_take, List.length_drop, maxRow, byteRows_len, Ty.kids, Vl.kids, Vl.num]); omega) ?_; ((conv => (whnf)); (try (refine AnyG.skip ?_; (conv => (whnf))))))
        | (refine Req.mk (Nat.le_of_ble_eq_true rfl) ?_; ((conv => (whnf)); (try (refine AnyG.skip ?_; (conv => (whnf))))))
        | (refine Req.mk (by omega) ?_; ((conv => (whnf)); (try (refine AnyG.skip ?_; (conv => (whnf))))))
        | (refine Req.mk (by (try simp only [List.length_append, List.length_cons, List.length_nil, List.length_map, List.length_take, List.length_drop, maxRow, byteRows_len, Ty.kids, Vl.kids, Vl.num]); omega) ?_; ((conv => (whnf)); (try (refine AnyG.skip ?_; (conv => (whnf))))))
        | (refine rng_u8 (by omega) (by omega) ?_; ((conv => (whnf)); (try (refine AnyG.skip ?_; (conv => (whnf))))))
        | (refine Req.mk (by (((conv => (whnf)); (try (refine AnyG.skip ?_; (conv => (whnf)))))); (repeat (first | (refine rng_i64 (by omega) (by omega) ?_; ((conv => (whnf)); (try (refine AnyG.skip ?_; (conv => (whnf)))))) | (refine rng_i64 (by dsimp only; omega) (by dsimp only; omega) ?_; ((conv => (whnf)); (try (refine AnyG.skip ?_; (conv => (whnf)))))) | (refine rng_i64 (by (try simp only [List.length_append, List.length_cons, List.length_nil, List.length_map, List.length_take, List.length_drop, maxRow, byteRows_len, Ty.kids, Vl.kids, Vl.num]); omega) (by (try simp only [List.length_append, List.length_cons, List.length_nil, List.length_map, List.length_take, List.length_drop, maxRow, byteRows_len, Ty.kids, Vl.kids, Vl.num]); omega) ?_; ((conv => (whnf)); (try (refine AnyG.skip ?_; (conv => (whnf)))))) | (refine Req.mk (Nat.le_of_ble_eq_true rfl) ?_; ((conv => (whnf)); (try (refine AnyG.skip ?_; (conv => (whnf)))))) | (refine Req.mk (by omega) ?_; ((conv => (whnf)); (try (refine AnyG.skip ?_; (conv => (whnf)))))) | (refine Req.mk (by (try simp only [List.length_append, List.length_cons, List.length_nil, List.length_map, List.length_take, List.length_drop, maxRow, byteRows_len, Ty.kids, Vl.kids, Vl.num]); omega) ?_; ((conv => (whnf)); (try (refine AnyG.skip ?_; (conv => (whnf)))))) | (refine rng_u8 (by omega) (by omega) ?_; ((conv => (whnf)); (try (refine AnyG.skip ?_; (conv => (whnf)))))))); exact Wk.rfl) ?_; ((conv => (whnf)); (try (refine AnyG.skip ?_; (conv => (whnf))))))
        )
      refine ⟨(.mk 0 [v, .mk 0 []], i + 1), ⟨?_, ?_⟩, ?_, [], Meet.mk rfl rfl ?_ ⟨Wk.rfl, trivial⟩ rfl⟩
      · dsimp only at h4 ⊢; omega
      · dsimp only at h4 ⊢; omega
      · dsimp only at h4 ⊢; omega
      · refine ⟨WkO.rfl, WkO.rfl, WkO.rfl, .inr (WkL.cons Wk.rfl (WkL.cons (Wk.d (DW.sff ?_)) WkL.nil)), trivial⟩
        exact ⟨by rw [dVl_eq]; rfl, wk_fVl v, by rw [dVl_eq]; rfl, wk_nVl 0, trivial⟩
    · refine endK ⟨[], ⟨rfl, rfl⟩, ?_⟩
      ((conv => (whnf)); (try (refine AnyG.skip ?_; (conv => (whnf)))))
      refine ⟨_, _, ?_, WkOs.rfl, hQ v (p1 + 1) (by omega) (by omega)⟩
      repeat' (first
        | exact Wk.rfl
        | exact WkL.rfl
        | exact WkOs.rfl
        | exact DWRows.rfl
        | exact Wk.nil _
        | exact DWL.rfl
        | exact DW.rfl
        | exact DW.nil _
        | exact DW.nilf _
        | exact DW.sf
        | refine Wk.agg ?_
        | refine Wk.tup ?_
        | refine WkL.cons ?_ ?_
        | refine Wk.d ?_
        | refine DWL.cons ?_ ?_
        | refine DW.sf.trans (DW.sl ?_)
        | refine DW.sl ?_
        | refine DW.sff ?_
        | exact WkL.nil
        | exact trivial
        | exact DWRows.rfl_of (by simp [Function.comp_def, Ty.kids, Vl.kids, Vl.num])
        )
  · refine endK ⟨[], ⟨rfl, rfl⟩, ?_⟩
    ((conv => (whnf)); (try (refine AnyG.skip ?_; (conv => (whnf)))))
    refine ⟨_, _, ?_, WkOs.rfl, hQ v (p1 + 1) (by omega) (by omega)⟩
    repeat' (first
      | exact Wk.rfl
      | exact WkL.rfl
      | exact WkOs.rfl
      | exact DWRows.rfl
      | exact Wk.nil _
      | exact DWL.rfl
      | exact DW.rfl
      | exact DW.nil _
      | exact DW.nilf _
      | exact DW.sf
      | refine Wk.agg ?_
      | refine Wk.tup ?_
      | refine WkL.cons ?_ ?_
      | refine Wk.d ?_
      | refine DWL.cons ?_ ?_
      | refine DW.sf.trans (DW.sl ?_)
      | refine DW.sl ?_
      | refine DW.sff ?_
      | exact WkL.nil
      | exact trivial
      | exact DWRows.rfl_of (by simp [Function.comp_def, Ty.kids, Vl.kids, Vl.num])
      )

/-- spec.DrawValText -/
def S_s_DrawValText : Spec := fun args O Q => ∃ (l : List UInt8), args = [.d (.sl 1 (byteRows l))] ∧ O = [] ∧ ∀ (v : Vl), Q (aVl v) []
theorem v_s_DrawValText {B : World} : Valid PG B s_DrawValText S_s_DrawValText := by
  refine valid_of (Γ := [(s_l71Type, ⟨[], S_s_l71Type 10⟩), (s_l6Rd_pick, ⟨[], S_s_l6Rd_pick⟩), (s_l71Bad, ⟨[], S_s_l71Bad⟩), (s_l6Open, ⟨[], SOpen⟩)]) wide tok
    ((((AllValid.nil.cons v_s_l6Open).cons v_s_l71Bad).cons v_s_l6Rd_pick).cons (v_s_l71Type 10)) g_s_DrawValText rfl rfl ?_
  rintro _ _ Q ⟨l, rfl, rfl, hQ⟩
  have hb : Bd 10 = 2047 := by decide
  have hl : (l.take 2000).length ≤ 2000 := by simp; omega
  ((conv => (whnf)); (try (refine AnyG.skip ?_; (conv => (whnf)))))
  refine ⟨_, _, WkL.rfl, WkOs.rfl, l, rfl, rfl, ?_⟩
  repeat (first
    | (refine rng_i64 (by omega) (by omega) ?_; ((conv => (whnf)); (try (refine AnyG.skip ?_; (conv => (whnf))))))
    | (refine rng_i64 (by dsimp only; omega) (by dsimp only; omega) ?_; ((conv => (whnf)); (try (refine AnyG.skip ?_; (conv => (whnf))))))
    | (refine rng_i64 (by (try simp only [List.length_append, List.length_cons, List.length_nil, List.length_map, List.length_take, List.length_drop, maxRow, byteRows_len, Ty.kids, Vl.kids, Vl.num]); omega) (by (try simp only [List.length_append, List.length_cons, List.length_nil, List.length_map, List.length_take, List.length_drop, maxRow, byteRows_len, Ty.kids, Vl.kids, Vl.num]); omega) ?_; ((conv => (whnf)); (try (refine AnyG.skip ?_; (conv => (whnf))))))
    | (refine Req.mk (Nat.le_of_ble_eq_true rfl) ?_; ((conv => (whnf)); (try (refine AnyG.skip ?_; (conv => (whnf))))))
    | (refine Req.mk (by omega) ?_; ((conv => (whnf)); (try (refine AnyG.skip ?_; (conv => (whnf))))))
    | (refine Req.mk (by (try simp only [List.length_append, List.length_cons, List.length_nil, List.length_map, List.length_take, List.length_drop, maxRow, byteRows_len, Ty.kids, Vl.kids, Vl.num]); omega) ?_; ((conv => (whnf)); (try (refine AnyG.skip ?_; (conv => (whnf))))))
    | (refine rng_u8 (by omega) (by omega) ?_; ((conv => (whnf)); (try (refine AnyG.skip ?_; (conv => (whnf))))))
    | (refine Req.mk (by (((conv => (whnf)); (try (refine AnyG.skip ?_; (conv => (whnf)))))); (repeat (first | (refine rng_i64 (by omega) (by omega) ?_; ((conv => (whnf)); (try (refine AnyG.skip ?_; (conv => (whnf)))))) | (refine rng_i64 (by dsimp only; omega) (by dsimp only; omega) ?_; ((conv => (whnf)); (try (refine AnyG.skip ?_; (conv => (whnf)))))) | (refine rng_i64 (by (try simp only [List.length_append, List.length_cons, List.length_nil, List.length_map, List.length_take, List.length_drop, maxRow, byteRows_len, Ty.kids, Vl.kids, Vl.num]); omega) (by (try simp only [List.length_append, List.length_cons, List.length_nil, List.length_map, List.length_take, List.length_drop, maxRow, byteRows_len, Ty.kids, Vl.kids, Vl.num]); omega) ?_; ((conv => (whnf)); (try (refine AnyG.skip ?_; (conv => (whnf)))))) | (refine Req.mk (Nat.le_of_ble_eq_true rfl) ?_; ((conv => (whnf)); (try (refine AnyG.skip ?_; (conv => (whnf)))))) | (refine Req.mk (by omega) ?_; ((conv => (whnf)); (try (refine AnyG.skip ?_; (conv => (whnf)))))) | (refine Req.mk (by (try simp only [List.length_append, List.length_cons, List.length_nil, List.length_map, List.length_take, List.length_drop, maxRow, byteRows_len, Ty.kids, Vl.kids, Vl.num]); omega) ?_; ((conv => (whnf)); (try (refine AnyG.skip ?_; (conv => (whnf)))))) | (refine rng_u8 (by omega) (by omega) ?_; ((conv => (whnf)); (try (refine AnyG.skip ?_; (conv => (whnf)))))))); exact Wk.rfl) ?_; ((conv => (whnf)); (try (refine AnyG.skip ?_; (conv => (whnf))))))
    )
  refine ⟨_, _, WkL.rfl, WkOs.rfl, l.take 2000, 0, 4, hl, by omega, by omega, by omega, rfl, rfl, ?_⟩
  intro k _ hk
  obtain ⟨hk0, hk1⟩ := hk (by omega)
  repeat (first
    | (refine rng_i64 (by omega) (by omega) ?_; ((conv => (whnf)); (try (refine AnyG.skip ?_; (conv => (whnf))))))
    | (refine rng_i64 (by dsimp only; omega) (by dsimp only; omega) ?_; ((conv => (whnf)); (try (refine AnyG.skip ?_; (conv => (whnf))))))
    | (refine rng_i64 (by (try simp only [List.length_append, List.length_cons, List.length_nil, List.length_map, List.length_take, List.length_drop, maxRow, byteRows_len, Ty.kids, Vl.kids, Vl.num]); omega) (by (try simp only [List.length_append, List.length_cons, List.length_nil, List.length_map, List.length_take, List.length_drop, maxRow, byteRows_len, Ty.kids, Vl.kids, Vl.num]); omega) ?_; ((conv => (whnf)); (try (refine AnyG.skip ?_; (conv => (whnf))))))
    | (refine Req.mk (Nat.le_of_ble_eq_true rfl) ?_; ((conv => (whnf)); (try (refine AnyG.skip ?_; (conv => (whnf))))))
    | (refine Req.mk (by omega) ?_; ((conv => (whnf)); (try (refine AnyG.skip ?_; (conv => (whnf))))))
    | (refine Req.mk (by (try simp only [List.length_append, List.length_cons, List.length_nil, List.length_map, List.length_take, List.length_drop, maxRow, byteRows_len, Ty.kids, Vl.kids, Vl.num]); omega) ?_; ((conv => (whnf)); (try (refine AnyG.skip ?_; (conv => (whnf))))))
    | (refine rng_u8 (by omega) (by omega) ?_; ((conv => (whnf)); (try (refine AnyG.skip ?_; (conv => (whnf))))))
    | (refine Req.mk (by (((conv => (whnf)); (try (refine AnyG.skip ?_; (conv => (whnf)))))); (repeat (first | (refine rng_i64 (by omega) (by omega) ?_; ((conv => (whnf)); (try (refine AnyG.skip ?_; (conv => (whnf)))))) | (refine rng_i64 (by dsimp only; omega) (by dsimp only; omega) ?_; ((conv => (whnf)); (try (refine AnyG.skip ?_; (conv => (whnf)))))) | (refine rng_i64 (by (try simp only [List.length_append, List.length_cons, List.length_nil, List.length_map, List.length_take, List.length_drop, maxRow, byteRows_len, Ty.kids, Vl.kids, Vl.num]); omega) (by (try simp only [List.length_append, List.length_cons, List.length_nil, List.length_map, List.length_take, List.length_drop, maxRow, byteRows_len, Ty.kids, Vl.kids, Vl.num]); omega) ?_; ((conv => (whnf)); (try (refine AnyG.skip ?_; (conv => (whnf)))))) | (refine Req.mk (Nat.le_of_ble_eq_true rfl) ?_; ((conv => (whnf)); (try (refine AnyG.skip ?_; (conv => (whnf)))))) | (refine Req.mk (by omega) ?_; ((conv => (whnf)); (try (refine AnyG.skip ?_; (conv => (whnf)))))) | (refine Req.mk (by (try simp only [List.length_append, List.length_cons, List.length_nil, List.length_map, List.length_take, List.length_drop, maxRow, byteRows_len, Ty.kids, Vl.kids, Vl.num]); omega) ?_; ((conv => (whnf)); (try (refine AnyG.skip ?_; (conv => (whnf)))))) | (refine rng_u8 (by omega) (by omega) ?_; ((conv => (whnf)); (try (refine AnyG.skip ?_; (conv => (whnf)))))))); exact Wk.rfl) ?_; ((conv => (whnf)); (try (refine AnyG.skip ?_; (conv => (whnf))))))
    )
  refine ⟨_, _, WkL.rfl, WkOs.rfl, l.take 2000, 0 + 1, 1 + k, hl, by omega, by omega, by omega, by omega, by omega, rfl, rfl, ?_⟩
  intro t p1 ht e1 e2
  repeat (first
    | (refine rng_i64 (by omega) (by omega) ?_; ((conv => (whnf)); (try (refine AnyG.skip ?_; (conv => (whnf))))))
    | (refine rng_i64 (by dsimp only; omega) (by dsimp only; omega) ?_; ((conv => (whnf)); (try (refine AnyG.skip ?_; (conv => (whnf))))))
    | (refine rng_i64 (by (try simp only [List.length_append, List.length_cons, List.length_nil, List.length_map, List.length_take, List.length_drop, maxRow, byteRows_len, Ty.kids, Vl.kids, Vl.num]); omega) (by (try simp only [List.length_append, List.length_cons, List.length_nil, List.length_map, List.length_take, List.length_drop, maxRow, byteRows_len, Ty.kids, Vl.kids, Vl.num]); omega) ?_; ((conv => (whnf)); (try (refine AnyG.skip ?_; (conv => (whnf))))))
    | (refine Req.mk (Nat.le_of_ble_eq_true rfl) ?_; ((conv => (whnf)); (try (refine AnyG.skip ?_; (conv => (whnf))))))
    | (refine Req.mk (by omega) ?_; ((conv => (whnf)); (try (refine AnyG.skip ?_; (conv => (whnf))))))
    | (refine Req.mk (by (try simp only [List.length_append, List.length_cons, List.length_nil, List.length_map, List.length_take, List.length_drop, maxRow, byteRows_len, Ty.kids, Vl.kids, Vl.num]); omega) ?_; ((conv => (whnf)); (try (refine AnyG.skip ?_; (conv => (whnf))))))
    | (refine rng_u8 (by omega) (by omega) ?_; ((conv => (whnf)); (try (refine AnyG.skip ?_; (conv => (whnf))))))
    | (refine Req.mk (by (((conv => (whnf)); (try (refine AnyG.skip ?_; (conv => (whnf)))))); (repeat (first | (refine rng_i64 (by omega) (by omega) ?_; ((conv => (whnf)); (try (refine AnyG.skip ?_; (conv => (whnf)))))) | (refine rng_i64 (by dsimp only; omega) (by dsimp only; omega) ?_; ((conv => (whnf)); (try (refine AnyG.skip ?_; (conv => (whnf)))))) | (refine rng_i64 (by (try simp only [List.length_append, List.length_cons, List.length_nil, List.length_map, List.length_take, List.length_drop, maxRow, byteRows_len, Ty.kids, Vl.kids, Vl.num]); omega) (by (try simp only [List.length_append, List.length_cons, List.length_nil, List.length_map, List.length_take, List.length_drop, maxRow, byteRows_len, Ty.kids, Vl.kids, Vl.num]); omega) ?_; ((conv => (whnf)); (try (refine AnyG.skip ?_; (conv => (whnf)))))) | (refine Req.mk (Nat.le_of_ble_eq_true rfl) ?_; ((conv => (whnf)); (try (refine AnyG.skip ?_; (conv => (whnf)))))) | (refine Req.mk (by omega) ?_; ((conv => (whnf)); (try (refine AnyG.skip ?_; (conv => (whnf)))))) | (refine Req.mk (by (try simp only [List.length_append, List.length_cons, List.length_nil, List.length_map, List.length_take, List.length_drop, maxRow, byteRows_len, Ty.kids, Vl.kids, Vl.num]); omega) ?_; ((conv => (whnf)); (try (refine AnyG.skip ?_; (conv => (whnf)))))) | (refine rng_u8 (by omega) (by omega) ?_; ((conv => (whnf)); (try (refine AnyG.skip ?_; (conv => (whnf)))))))); exact Wk.rfl) ?_; ((conv => (whnf)); (try (refine AnyG.skip ?_; (conv => (whnf))))))
    )
  refine ⟨_, _, WkL.cons Wk.rfl (WkL.cons (Wk.agg (WkL.cons (Wk.d DW.sf) WkL.nil)) WkL.nil), WkOs.rfl, l.take 2000, p1, t, rfl, rfl, tyOk_mono (by omega) ht, hl, by omega, by omega, ?_⟩
  intro v p2 e3 e4
  repeat (first
    | (refine rng_i64 (by omega) (by omega) ?_; ((conv => (whnf)); (try (refine AnyG.skip ?_; (conv => (whnf))))))
    | (refine rng_i64 (by dsimp only; omega) (by dsimp only; omega) ?_; ((conv => (whnf)); (try (refine AnyG.skip ?_; (conv => (whnf))))))
    | (refine rng_i64 (by (try simp only [List.length_append, List.length_cons, List.length_nil, List.length_map, List.length_take, List.length_drop, maxRow, byteRows_len, Ty.kids, Vl.kids, Vl.num]); omega) (by (try simp only [List.length_append, List.length_cons, List.length_nil, List.length_map, List.length_take, List.length_drop, maxRow, byteRows_len, Ty.kids, Vl.kids, Vl.num]); omega) ?_; ((conv => (whnf)); (try (refine AnyG.skip ?_; (conv => (whnf))))))
    | (refine Req.mk (Nat.le_of_ble_eq_true rfl) ?_; ((conv => (whnf)); (try (refine AnyG.skip ?_; (conv => (whnf))))))
    | (refine Req.mk (by omega) ?_; ((conv => (whnf)); (try (refine AnyG.skip ?_; (conv => (whnf))))))
    | (refine Req.mk (by (try simp only [List.length_append, List.length_cons, List.length_nil, List.length_map, List.length_take, List.length_drop, maxRow, byteRows_len, Ty.kids, Vl.kids, Vl.num]); omega) ?_; ((conv => (whnf)); (try (refine AnyG.skip ?_; (conv => (whnf))))))
    | (refine rng_u8 (by omega) (by omega) ?_; ((conv => (whnf)); (try (refine AnyG.skip ?_; (conv => (whnf))))))
    | (refine Req.mk (by (((conv => (whnf)); (try (refine AnyG.skip ?_; (conv => (whnf)))))); (repeat (first | (refine rng_i64 (by omega) (by omega) ?_; ((conv => (whnf)); (try (refine AnyG.skip ?_; (conv => (whnf)))))) | (refine rng_i64 (by dsimp only; omega) (by dsimp only; omega) ?_; ((conv => (whnf)); (try (refine AnyG.skip ?_; (conv => (whnf)))))) | (refine rng_i64 (by (try simp only [List.length_append, List.length_cons, List.length_nil, List.length_map, List.length_take, List.length_drop, maxRow, byteRows_len, Ty.kids, Vl.kids, Vl.num]); omega) (by (try simp only [List.length_append, List.length_cons, List.length_nil, List.length_map, List.length_take, List.length_drop, maxRow, byteRows_len, Ty.kids, Vl.kids, Vl.num]); omega) ?_; ((conv => (whnf)); (try (refine AnyG.skip ?_; (conv => (whnf)))))) | (refine Req.mk (Nat.le_of_ble_eq_true rfl) ?_; ((conv => (whnf)); (try (refine AnyG.skip ?_; (conv => (whnf)))))) | (refine Req.mk (by omega) ?_; ((conv => (whnf)); (try (refine AnyG.skip ?_; (conv => (whnf)))))) | (refine Req.mk (by (try simp only [List.length_append, List.length_cons, List.length_nil, List.length_map, List.length_take, List.length_drop, maxRow, byteRows_len, Ty.kids, Vl.kids, Vl.num]); omega) ?_; ((conv => (whnf)); (try (refine AnyG.skip ?_; (conv => (whnf)))))) | (refine rng_u8 (by omega) (by omega) ?_; ((conv => (whnf)); (try (refine AnyG.skip ?_; (conv => (whnf)))))))); exact Wk.rfl) ?_; ((conv => (whnf)); (try (refine AnyG.skip ?_; (conv => (whnf))))))
    )
  refine endK ⟨[], ⟨rfl, rfl⟩, ?_⟩
  ((conv => (whnf)); (try (refine AnyG.skip ?_; (conv => (whnf)))))
  exact ⟨_, _, Wk.rfl, WkOs.rfl, hQ v⟩

theorem sameVl_ok : ∀ (d : Nat) (v : Vl), (vt d v).2 = true → vlB d v
  | d, .mk n ks, h => by
    obtain ⟨j, rfl, ⟨rfl, _⟩ | ⟨a, b, rfl, _, h1, h2⟩⟩ := vt_kids h
    · exact ⟨by simp, fun k hk => by simp at hk⟩
    · refine ⟨by simp, fun k hk => ?_⟩
      simp only [List.mem_cons, List.not_mem_nil, or_false] at hk
      rcases hk with rfl | rfl
      · exact sameVl_ok j _ h1
      · exact sameVl_ok j _ h2

/-- laws.FnValBack -/
theorem v_l_FnValBack {B : World} (hB : Tabs B) : Valid PG B l_FnValBack S_l_FnTypeValue := by
  refine valid_of (Γ := [(s_DrawValText, ⟨[], S_s_DrawValText⟩), (i_ValText, ⟨[], S_i_ValText⟩), (s_ValText, ⟨[], S_i_ValText⟩), (i_ValRead, ⟨[], S_i_ValRead⟩), (l_lhVal, ⟨[], S_l_lhVal 10⟩)]) wide tok
    (((((AllValid.nil.cons (v_l_lhVal 10)).cons (v_i_ValRead hB)).cons v_s_ValText).cons (v_i_ValText hB)).cons v_s_DrawValText) g_l_FnValBack rfl rfl ?_
  rintro _ _ Q ⟨l, rfl, rfl, hQ⟩
  have fin : ∀ b : Bool, b = true → wkQ Q (bv b) [] := fun b h => ⟨_, _, Wk.rfl, WkOs.rfl, by subst h; exact hQ⟩
  ((conv => (whnf)); (try (refine AnyG.skip ?_; (conv => (whnf)))))
  first
    | refine br_dec (fun h => ?_) (fun h => ?_)
    | refine br_eq (fun h => ?_) (fun h => ?_)
    | refine br_ne (fun h => ?_) (fun h => ?_)
    | refine br_neq (fun h => ?_) (fun h => ?_)
    | refine br_not (fun h => ?_) (fun h => ?_)
    | refine Br.mk (fun h => ?_) (fun h => ?_)
  all_goals (try simp only [List.length_append, List.length_cons, List.length_nil, List.length_map, List.length_take, List.length_drop, maxRow, byteRows_len, Ty.kids, Vl.kids, Vl.num] at h)
  all_goals ((conv => (whnf)); (try (refine AnyG.skip ?_; (conv => (whnf)))))
  · refine endK ⟨[], ⟨rfl, rfl⟩, ?_⟩
    ((conv => (whnf)); (try (refine AnyG.skip ?_; (conv => (whnf)))))
    exact fin _ rfl
  refine ⟨_, _, WkL.rfl, WkOs.rfl, l, rfl, rfl, ?_⟩
  intro v
  repeat (first
    | (refine rng_i64 (by omega) (by omega) ?_; ((conv => (whnf)); (try (refine AnyG.skip ?_; (conv => (whnf))))))
    | (refine rng_i64 (by dsimp only; omega) (by dsimp only; omega) ?_; ((conv => (whnf)); (try (refine AnyG.skip ?_; (conv => (whnf))))))
    | (refine rng_i64 (by (try simp only [List.length_append, List.length_cons, List.length_nil, List.length_map, List.length_take, List.length_drop, maxRow, byteRows_len, Ty.kids, Vl.kids, Vl.num]); omega) (by (try simp only [List.length_append, List.length_cons, List.length_nil, List.length_map, List.length_take, List.length_drop, maxRow, byteRows_len, Ty.kids, Vl.kids, Vl.num]); omega) ?_; ((conv => (whnf)); (try (refine AnyG.skip ?_; (conv => (whnf))))))
    | (refine Req.mk (Nat.le_of_ble_eq_true rfl) ?_; ((conv => (whnf)); (try (refine AnyG.skip ?_; (conv => (whnf))))))
    | (refine Req.mk (by omega) ?_; ((conv => (whnf)); (try (refine AnyG.skip ?_; (conv => (whnf))))))
    | (refine Req.mk (by (try simp only [List.length_append, List.length_cons, List.length_nil, List.length_map, List.length_take, List.length_drop, maxRow, byteRows_len, Ty.kids, Vl.kids, Vl.num]); omega) ?_; ((conv => (whnf)); (try (refine AnyG.skip ?_; (conv => (whnf))))))
    | (refine rng_u8 (by omega) (by omega) ?_; ((conv => (whnf)); (try (refine AnyG.skip ?_; (conv => (whnf))))))
    | (refine Req.mk (by (((conv => (whnf)); (try (refine AnyG.skip ?_; (conv => (whnf)))))); (repeat (first | (refine rng_i64 (by omega) (by omega) ?_; ((conv => (whnf)); (try (refine AnyG.skip ?_; (conv => (whnf)))))) | (refine rng_i64 (by dsimp only; omega) (by dsimp only; omega) ?_; ((conv => (whnf)); (try (refine AnyG.skip ?_; (conv => (whnf)))))) | (refine rng_i64 (by (try simp only [List.length_append, List.length_cons, List.length_nil, List.length_map, List.length_take, List.length_drop, maxRow, byteRows_len, Ty.kids, Vl.kids, Vl.num]); omega) (by (try simp only [List.length_append, List.length_cons, List.length_nil, List.length_map, List.length_take, List.length_drop, maxRow, byteRows_len, Ty.kids, Vl.kids, Vl.num]); omega) ?_; ((conv => (whnf)); (try (refine AnyG.skip ?_; (conv => (whnf)))))) | (refine Req.mk (Nat.le_of_ble_eq_true rfl) ?_; ((conv => (whnf)); (try (refine AnyG.skip ?_; (conv => (whnf)))))) | (refine Req.mk (by omega) ?_; ((conv => (whnf)); (try (refine AnyG.skip ?_; (conv => (whnf)))))) | (refine Req.mk (by (try simp only [List.length_append, List.length_cons, List.length_nil, List.length_map, List.length_take, List.length_drop, maxRow, byteRows_len, Ty.kids, Vl.kids, Vl.num]); omega) ?_; ((conv => (whnf)); (try (refine AnyG.skip ?_; (conv => (whnf)))))) | (refine rng_u8 (by omega) (by omega) ?_; ((conv => (whnf)); (try (refine AnyG.skip ?_; (conv => (whnf)))))))); exact Wk.rfl) ?_; ((conv => (whnf)); (try (refine AnyG.skip ?_; (conv => (whnf))))))
    )
  refine ⟨_, _, WkL.rfl, WkOs.rfl, v, rfl, rfl, ?_⟩
  repeat (first
    | (refine rng_i64 (by omega) (by omega) ?_; ((conv => (whnf)); (try (refine AnyG.skip ?_; (conv => (whnf))))))
    | (refine rng_i64 (by dsimp only; omega) (by dsimp only; omega) ?_; ((conv => (whnf)); (try (refine AnyG.skip ?_; (conv => (whnf))))))
    | (refine rng_i64 (by (try simp only [List.length_append, List.length_cons, List.length_nil, List.length_map, List.length_take, List.length_drop, maxRow, byteRows_len, Ty.kids, Vl.kids, Vl.num]); omega) (by (try simp only [List.length_append, List.length_cons, List.length_nil, List.length_map, List.length_take, List.length_drop, maxRow, byteRows_len, Ty.kids, Vl.kids, Vl.num]); omega) ?_; ((conv => (whnf)); (try (refine AnyG.skip ?_; (conv => (whnf))))))
    | (refine Req.mk (Nat.le_of_ble_eq_true rfl) ?_; ((conv => (whnf)); (try (refine AnyG.skip ?_; (conv => (whnf))))))
    | (refine Req.mk (by omega) ?_; ((conv => (whnf)); (try (refine AnyG.skip ?_; (conv => (whnf))))))
    | (refine Req.mk (by (try simp only [List.length_append, List.length_cons, List.length_nil, List.length_map, List.length_take, List.length_drop, maxRow, byteRows_len, Ty.kids, Vl.kids, Vl.num]); omega) ?_; ((conv => (whnf)); (try (refine AnyG.skip ?_; (conv => (whnf))))))
    | (refine rng_u8 (by omega) (by omega) ?_; ((conv => (whnf)); (try (refine AnyG.skip ?_; (conv => (whnf))))))
    | (refine Req.mk (by (((conv => (whnf)); (try (refine AnyG.skip ?_; (conv => (whnf)))))); (repeat (first | (refine rng_i64 (by omega) (by omega) ?_; ((conv => (whnf)); (try (refine AnyG.skip ?_; (conv => (whnf)))))) | (refine rng_i64 (by dsimp only; omega) (by dsimp only; omega) ?_; ((conv => (whnf)); (try (refine AnyG.skip ?_; (conv => (whnf)))))) | (refine rng_i64 (by (try simp only [List.length_append, List.length_cons, List.length_nil, List.length_map, List.length_take, List.length_drop, maxRow, byteRows_len, Ty.kids, Vl.kids, Vl.num]); omega) (by (try simp only [List.length_append, List.length_cons, List.length_nil, List.length_map, List.length_take, List.length_drop, maxRow, byteRows_len, Ty.kids, Vl.kids, Vl.num]); omega) ?_; ((conv => (whnf)); (try (refine AnyG.skip ?_; (conv => (whnf)))))) | (refine Req.mk (Nat.le_of_ble_eq_true rfl) ?_; ((conv => (whnf)); (try (refine AnyG.skip ?_; (conv => (whnf)))))) | (refine Req.mk (by omega) ?_; ((conv => (whnf)); (try (refine AnyG.skip ?_; (conv => (whnf)))))) | (refine Req.mk (by (try simp only [List.length_append, List.length_cons, List.length_nil, List.length_map, List.length_take, List.length_drop, maxRow, byteRows_len, Ty.kids, Vl.kids, Vl.num]); omega) ?_; ((conv => (whnf)); (try (refine AnyG.skip ?_; (conv => (whnf)))))) | (refine rng_u8 (by omega) (by omega) ?_; ((conv => (whnf)); (try (refine AnyG.skip ?_; (conv => (whnf)))))))); exact Wk.rfl) ?_; ((conv => (whnf)); (try (refine AnyG.skip ?_; (conv => (whnf))))))
    )
  refine ⟨_, _, WkL.rfl, WkOs.rfl, v, rfl, rfl, ?_⟩
  repeat (first
    | (refine rng_i64 (by omega) (by omega) ?_; ((conv => (whnf)); (try (refine AnyG.skip ?_; (conv => (whnf))))))
    | (refine rng_i64 (by dsimp only; omega) (by dsimp only; omega) ?_; ((conv => (whnf)); (try (refine AnyG.skip ?_; (conv => (whnf))))))
    | (refine rng_i64 (by (try simp only [List.length_append, List.length_cons, List.length_nil, List.length_map, List.length_take, List.length_drop, maxRow, byteRows_len, Ty.kids, Vl.kids, Vl.num]); omega) (by (try simp only [List.length_append, List.length_cons, List.length_nil, List.length_map, List.length_take, List.length_drop, maxRow, byteRows_len, Ty.kids, Vl.kids, Vl.num]); omega) ?_; ((conv => (whnf)); (try (refine AnyG.skip ?_; (conv => (whnf))))))
    | (refine Req.mk (Nat.le_of_ble_eq_true rfl) ?_; ((conv => (whnf)); (try (refine AnyG.skip ?_; (conv => (whnf))))))
    | (refine Req.mk (by omega) ?_; ((conv => (whnf)); (try (refine AnyG.skip ?_; (conv => (whnf))))))
    | (refine Req.mk (by (try simp only [List.length_append, List.length_cons, List.length_nil, List.length_map, List.length_take, List.length_drop, maxRow, byteRows_len, Ty.kids, Vl.kids, Vl.num]); omega) ?_; ((conv => (whnf)); (try (refine AnyG.skip ?_; (conv => (whnf))))))
    | (refine rng_u8 (by omega) (by omega) ?_; ((conv => (whnf)); (try (refine AnyG.skip ?_; (conv => (whnf))))))
    | (refine Req.mk (by (((conv => (whnf)); (try (refine AnyG.skip ?_; (conv => (whnf)))))); (repeat (first | (refine rng_i64 (by omega) (by omega) ?_; ((conv => (whnf)); (try (refine AnyG.skip ?_; (conv => (whnf)))))) | (refine rng_i64 (by dsimp only; omega) (by dsimp only; omega) ?_; ((conv => (whnf)); (try (refine AnyG.skip ?_; (conv => (whnf)))))) | (refine rng_i64 (by (try simp only [List.length_append, List.length_cons, List.length_nil, List.length_map, List.length_take, List.length_drop, maxRow, byteRows_len, Ty.kids, Vl.kids, Vl.num]); omega) (by (try simp only [List.length_append, List.length_cons, List.length_nil, List.length_map, List.length_take, List.length_drop, maxRow, byteRows_len, Ty.kids, Vl.kids, Vl.num]); omega) ?_; ((conv => (whnf)); (try (refine AnyG.skip ?_; (conv => (whnf)))))) | (refine Req.mk (Nat.le_of_ble_eq_true rfl) ?_; ((conv => (whnf)); (try (refine AnyG.skip ?_; (conv => (whnf)))))) | (refine Req.mk (by omega) ?_; ((conv => (whnf)); (try (refine AnyG.skip ?_; (conv => (whnf)))))) | (refine Req.mk (by (try simp only [List.length_append, List.length_cons, List.length_nil, List.length_map, List.length_take, List.length_drop, maxRow, byteRows_len, Ty.kids, Vl.kids, Vl.num]); omega) ?_; ((conv => (whnf)); (try (refine AnyG.skip ?_; (conv => (whnf)))))) | (refine rng_u8 (by omega) (by omega) ?_; ((conv => (whnf)); (try (refine AnyG.skip ?_; (conv => (whnf)))))))); exact Wk.rfl) ?_; ((conv => (whnf)); (try (refine AnyG.skip ?_; (conv => (whnf))))))
    )
  refine Br.no (by simp) ?_
  ((conv => (whnf)); (try (refine AnyG.skip ?_; (conv => (whnf)))))
  first
    | refine br_dec (fun h2 => ?_) (fun h2 => ?_)
    | refine br_eq (fun h2 => ?_) (fun h2 => ?_)
    | refine br_ne (fun h2 => ?_) (fun h2 => ?_)
    | refine br_neq (fun h2 => ?_) (fun h2 => ?_)
    | refine br_not (fun h2 => ?_) (fun h2 => ?_)
    | refine Br.mk (fun h2 => ?_) (fun h2 => ?_)
  all_goals (try simp only [List.length_append, List.length_cons, List.length_nil, List.length_map, List.length_take, List.length_drop, maxRow, byteRows_len, Ty.kids, Vl.kids, Vl.num] at h2)
  all_goals ((conv => (whnf)); (try (refine AnyG.skip ?_; (conv => (whnf)))))
  · refine ⟨_, _, WkL.rfl, WkOs.rfl, v, rfl, rfl, ?_⟩
    repeat (first
      | (refine rng_i64 (by omega) (by omega) ?_; ((conv => (whnf)); (try (refine AnyG.skip ?_; (conv => (whnf))))))
      | (refine rng_i64 (by dsimp only; omega) (by dsimp only; omega) ?_; ((conv => (whnf)); (try (refine AnyG.skip ?_; (conv => (whnf))))))
      | (refine rng_i64 (by (try simp only [List.length_append, List.length_cons, List.length_nil, List.length_map, List.length_take, List.length_drop, maxRow, byteRows_len, Ty.kids, Vl.kids, Vl.num]); omega) (by (try simp only [List.length_append, List.length_cons, List.length_nil, List.length_map, List.length_take, List.length_drop, maxRow, byteRows_len, Ty.kids, Vl.kids, Vl.num]); omega) ?_; ((conv => (whnf)); (try (refine AnyG.skip ?_; (conv => (whnf))))))
      | (refine Req.mk (Nat.le_of_ble_eq_true rfl) ?_; ((conv => (whnf)); (try (refine AnyG.skip ?_; (conv => (whnf))))))
      | (refine Req.mk (by omega) ?_; ((conv => (whnf)); (try (refine AnyG.skip ?_; (conv => (whnf))))))
      | (refine Req.mk (by (try simp only [List.length_append, List.length_cons, List.length_nil, List.length_map, List.length_take, List.length_drop, maxRow, byteRows_len, Ty.kids, Vl.kids, Vl.num]); omega) ?_; ((conv => (whnf)); (try (refine AnyG.skip ?_; (conv => (whnf))))))
      | (refine rng_u8 (by omega) (by omega) ?_; ((conv => (whnf)); (try (refine AnyG.skip ?_; (conv => (whnf))))))
      | (refine Req.mk (by (((conv => (whnf)); (try (refine AnyG.skip ?_; (conv => (whnf)))))); (repeat (first | (refine rng_i64 (by omega) (by omega) ?_; ((conv => (whnf)); (try (refine AnyG.skip ?_; (conv => (whnf)))))) | (refine rng_i64 (by dsimp only; omega) (by dsimp only; omega) ?_; ((conv => (whnf)); (try (refine AnyG.skip ?_; (conv => (whnf)))))) | (refine rng_i64 (by (try simp only [List.length_append, List.length_cons, List.length_nil, List.length_map, List.length_take, List.length_drop, maxRow, byteRows_len, Ty.kids, Vl.kids, Vl.num]); omega) (by (try simp only [List.length_append, List.length_cons, List.length_nil, List.length_map, List.length_take, List.length_drop, maxRow, byteRows_len, Ty.kids, Vl.kids, Vl.num]); omega) ?_; ((conv => (whnf)); (try (refine AnyG.skip ?_; (conv => (whnf)))))) | (refine Req.mk (Nat.le_of_ble_eq_true rfl) ?_; ((conv => (whnf)); (try (refine AnyG.skip ?_; (conv => (whnf)))))) | (refine Req.mk (by omega) ?_; ((conv => (whnf)); (try (refine AnyG.skip ?_; (conv => (whnf)))))) | (refine Req.mk (by (try simp only [List.length_append, List.length_cons, List.length_nil, List.length_map, List.length_take, List.length_drop, maxRow, byteRows_len, Ty.kids, Vl.kids, Vl.num]); omega) ?_; ((conv => (whnf)); (try (refine AnyG.skip ?_; (conv => (whnf)))))) | (refine rng_u8 (by omega) (by omega) ?_; ((conv => (whnf)); (try (refine AnyG.skip ?_; (conv => (whnf)))))))); exact Wk.rfl) ?_; ((conv => (whnf)); (try (refine AnyG.skip ?_; (conv => (whnf))))))
      )
    refine endK ⟨[], ⟨rfl, rfl⟩, ?_⟩
    ((conv => (whnf)); (try (refine AnyG.skip ?_; (conv => (whnf)))))
    exact fin _ (by simp)
  have hv : (vt 4 v).2 = true := by
    cases hv : (vt 4 v).2 with
    | true => rfl
    | false => simp [valText, hv] at h2
  have hlen : (valText v).length ≤ 1000000000 := by
    have := vw_len 4 _ hv
    have h3 : Lw 4 ≤ 10000 := by decide
    simp only [valText, hv, cond_true]
    omega
  have hr := valRead_text hv
  refine ⟨_, _, WkL.rfl, WkOs.rfl, valText v, hlen, rfl, rfl, ?_, fun hn => by rw [hr] at hn; cases hn⟩
  intro v' hv'
  rw [hr] at hv'
  obtain rfl : v = v' := by simpa using hv'
  repeat (first
    | (refine rng_i64 (by omega) (by omega) ?_; ((conv => (whnf)); (try (refine AnyG.skip ?_; (conv => (whnf))))))
    | (refine rng_i64 (by dsimp only; omega) (by dsimp only; omega) ?_; ((conv => (whnf)); (try (refine AnyG.skip ?_; (conv => (whnf))))))
    | (refine rng_i64 (by (try simp only [List.length_append, List.length_cons, List.length_nil, List.length_map, List.length_take, List.length_drop, maxRow, byteRows_len, Ty.kids, Vl.kids, Vl.num]); omega) (by (try simp only [List.length_append, List.length_cons, List.length_nil, List.length_map, List.length_take, List.length_drop, maxRow, byteRows_len, Ty.kids, Vl.kids, Vl.num]); omega) ?_; ((conv => (whnf)); (try (refine AnyG.skip ?_; (conv => (whnf))))))
    | (refine Req.mk (Nat.le_of_ble_eq_true rfl) ?_; ((conv => (whnf)); (try (refine AnyG.skip ?_; (conv => (whnf))))))
    | (refine Req.mk (by omega) ?_; ((conv => (whnf)); (try (refine AnyG.skip ?_; (conv => (whnf))))))
    | (refine Req.mk (by (try simp only [List.length_append, List.length_cons, List.length_nil, List.length_map, List.length_take, List.length_drop, maxRow, byteRows_len, Ty.kids, Vl.kids, Vl.num]); omega) ?_; ((conv => (whnf)); (try (refine AnyG.skip ?_; (conv => (whnf))))))
    | (refine rng_u8 (by omega) (by omega) ?_; ((conv => (whnf)); (try (refine AnyG.skip ?_; (conv => (whnf))))))
    | (refine Req.mk (by (((conv => (whnf)); (try (refine AnyG.skip ?_; (conv => (whnf)))))); (repeat (first | (refine rng_i64 (by omega) (by omega) ?_; ((conv => (whnf)); (try (refine AnyG.skip ?_; (conv => (whnf)))))) | (refine rng_i64 (by dsimp only; omega) (by dsimp only; omega) ?_; ((conv => (whnf)); (try (refine AnyG.skip ?_; (conv => (whnf)))))) | (refine rng_i64 (by (try simp only [List.length_append, List.length_cons, List.length_nil, List.length_map, List.length_take, List.length_drop, maxRow, byteRows_len, Ty.kids, Vl.kids, Vl.num]); omega) (by (try simp only [List.length_append, List.length_cons, List.length_nil, List.length_map, List.length_take, List.length_drop, maxRow, byteRows_len, Ty.kids, Vl.kids, Vl.num]); omega) ?_; ((conv => (whnf)); (try (refine AnyG.skip ?_; (conv => (whnf)))))) | (refine Req.mk (Nat.le_of_ble_eq_true rfl) ?_; ((conv => (whnf)); (try (refine AnyG.skip ?_; (conv => (whnf)))))) | (refine Req.mk (by omega) ?_; ((conv => (whnf)); (try (refine AnyG.skip ?_; (conv => (whnf)))))) | (refine Req.mk (by (try simp only [List.length_append, List.length_cons, List.length_nil, List.length_map, List.length_take, List.length_drop, maxRow, byteRows_len, Ty.kids, Vl.kids, Vl.num]); omega) ?_; ((conv => (whnf)); (try (refine AnyG.skip ?_; (conv => (whnf)))))) | (refine rng_u8 (by omega) (by omega) ?_; ((conv => (whnf)); (try (refine AnyG.skip ?_; (conv => (whnf)))))))); exact Wk.rfl) ?_; ((conv => (whnf)); (try (refine AnyG.skip ?_; (conv => (whnf))))))
    )
  refine Br.yes (by rfl) ?_
  ((conv => (whnf)); (try (refine AnyG.skip ?_; (conv => (whnf)))))
  refine ⟨_, _, WkL.rfl, WkOs.rfl, 4, v, v, by omega, sameVl_ok 4 v hv, rfl, rfl, ?_⟩
  repeat (first
    | (refine rng_i64 (by omega) (by omega) ?_; ((conv => (whnf)); (try (refine AnyG.skip ?_; (conv => (whnf))))))
    | (refine rng_i64 (by dsimp only; omega) (by dsimp only; omega) ?_; ((conv => (whnf)); (try (refine AnyG.skip ?_; (conv => (whnf))))))
    | (refine rng_i64 (by (try simp only [List.length_append, List.length_cons, List.length_nil, List.length_map, List.length_take, List.length_drop, maxRow, byteRows_len, Ty.kids, Vl.kids, Vl.num]); omega) (by (try simp only [List.length_append, List.length_cons, List.length_nil, List.length_map, List.length_take, List.length_drop, maxRow, byteRows_len, Ty.kids, Vl.kids, Vl.num]); omega) ?_; ((conv => (whnf)); (try (refine AnyG.skip ?_; (conv => (whnf))))))
    | (refine Req.mk (Nat.le_of_ble_eq_true rfl) ?_; ((conv => (whnf)); (try (refine AnyG.skip ?_; (conv => (whnf))))))
    | (refine Req.mk (by omega) ?_; ((conv => (whnf)); (try (refine AnyG.skip ?_; (conv => (whnf))))))
    | (refine Req.mk (by (try simp only [List.length_append, List.length_cons, List.length_nil, List.length_map, List.length_take, List.length_drop, maxRow, byteRows_len, Ty.kids, Vl.kids, Vl.num]); omega) ?_; ((conv => (whnf)); (try (refine AnyG.skip ?_; (conv => (whnf))))))
    | (refine rng_u8 (by omega) (by omega) ?_; ((conv => (whnf)); (try (refine AnyG.skip ?_; (conv => (whnf))))))
    | (refine Req.mk (by (((conv => (whnf)); (try (refine AnyG.skip ?_; (conv => (whnf)))))); (repeat (first | (refine rng_i64 (by omega) (by omega) ?_; ((conv => (whnf)); (try (refine AnyG.skip ?_; (conv => (whnf)))))) | (refine rng_i64 (by dsimp only; omega) (by dsimp only; omega) ?_; ((conv => (whnf)); (try (refine AnyG.skip ?_; (conv => (whnf)))))) | (refine rng_i64 (by (try simp only [List.length_append, List.length_cons, List.length_nil, List.length_map, List.length_take, List.length_drop, maxRow, byteRows_len, Ty.kids, Vl.kids, Vl.num]); omega) (by (try simp only [List.length_append, List.length_cons, List.length_nil, List.length_map, List.length_take, List.length_drop, maxRow, byteRows_len, Ty.kids, Vl.kids, Vl.num]); omega) ?_; ((conv => (whnf)); (try (refine AnyG.skip ?_; (conv => (whnf)))))) | (refine Req.mk (Nat.le_of_ble_eq_true rfl) ?_; ((conv => (whnf)); (try (refine AnyG.skip ?_; (conv => (whnf)))))) | (refine Req.mk (by omega) ?_; ((conv => (whnf)); (try (refine AnyG.skip ?_; (conv => (whnf)))))) | (refine Req.mk (by (try simp only [List.length_append, List.length_cons, List.length_nil, List.length_map, List.length_take, List.length_drop, maxRow, byteRows_len, Ty.kids, Vl.kids, Vl.num]); omega) ?_; ((conv => (whnf)); (try (refine AnyG.skip ?_; (conv => (whnf)))))) | (refine rng_u8 (by omega) (by omega) ?_; ((conv => (whnf)); (try (refine AnyG.skip ?_; (conv => (whnf)))))))); exact Wk.rfl) ?_; ((conv => (whnf)); (try (refine AnyG.skip ?_; (conv => (whnf))))))
    )
  refine endK ⟨[], ⟨rfl, rfl⟩, ?_⟩
  ((conv => (whnf)); (try (refine AnyG.skip ?_; (conv => (whnf)))))
  exact fin _ (sameVl_rfl 4 v (sameVl_ok 4 v hv))
end Ab
