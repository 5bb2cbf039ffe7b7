/- The reference's own words on values: contracts. -/
import Derived.Test.YtnhjclenankhoaaDoorFrJ
set_option linter.all false
namespace Ab
open Go Go.Proofs
set_option maxRecDepth 10000
set_option maxHeartbeats 4000000
set_option linter.all false

/-- the shape of a value, as the reference's l1Of reads it -/
def shp : Nat → Vl → Bool
  | 0, _ => false
  | d + 1, .mk _ ks => (ks.length == 0 || ks.length == 2) && ks.all (shp d)
def vty : Vl → Ty
  | .mk _ ks => .mk (ks.map vty)
theorem vty_mk (n : Int) (ks : List Vl) : vty (.mk n ks) = .mk (ks.map vty) := by simp [vty]

/-- spec.l1Of -/
def S_s_l1Of (n : Nat) : Spec := fun args O Q => ∃ (v : Vl) (d : Int), args = [aVl v, iv d] ∧ O = [] ∧ 0 ≤ d ∧ d < n ∧ n ≤ 100 ∧
  ∀ t : Ty, (shp d.toNat v = true → t = vty v) → Q (.tup [aTy t, bv (shp d.toNat v)]) []
theorem v_s_l1Of {B : World} : ∀ n, Valid PG B s_l1Of (S_s_l1Of n) := by
  refine valid_lt (fun args O Q ⟨t, d, _, _, h1, h2, _⟩ => by omega) fun n ih => ?_
  refine valid_of (Γ := [(s_l1Of, ⟨[], S_s_l1Of n⟩)]) wide tok (AllValid.nil.cons ih) g_s_l1Of rfl rfl ?_
  rintro _ _ Q ⟨⟨k, ks⟩, d, rfl, rfl, hd, hd', hn, hQ⟩
  have fin : ∀ (x : AV) (t : Ty) (b : Bool), shp d.toNat (.mk k ks) = b → (b = true → t = vty (.mk k ks)) → Wk x (.tup [aTy t, bv b]) → wkQ Q x [] := fun x t b hb ht hx => ⟨_, _, hx, WkOs.rfl, by subst hb; exact hQ t ht⟩
  ((conv => (whnf)); (try (refine AnyG.skip ?_; (conv => (whnf)))))
  first
    | refine br_dec (fun h => ?_) (fun h => ?_)
    | refine br_eq (fun h => ?_) (fun h => ?_)
    | refine br_ne (fun h => ?_) (fun h => ?_)
    | refine br_neq (fun h => ?_) (fun h => ?_)
    | refine br_not (fun h => ?_) (fun h => ?_)
    | refine Br.mk (fun h => ?_) (fun h => ?_)
  all_goals (try simp only [List.length_append, List.length_cons, List.length_nil, List.length_map, List.length_take, List.length_drop, maxRow, byteRows_len, Ty.kids, Vl.kids, Vl.num] at h)
  all_goals ((conv => (whnf)); (try (refine AnyG.skip ?_; (conv => (whnf)))))
  · refine endK ⟨[], ⟨rfl, rfl⟩, ?_⟩
    ((conv => (whnf)); (try (refine AnyG.skip ?_; (conv => (whnf)))))
    refine fin _ (.mk []) false ?_ (fun h => by cases h) (by repeat' (first | exact Wk.rfl | exact WkL.rfl | exact WkOs.rfl | exact DWRows.rfl | exact Wk.nil _ | exact DWL.rfl | exact DW.rfl | exact DW.nil _ | exact DW.nilf _ | exact DW.sf | refine Wk.agg ?_ | refine Wk.tup ?_ | refine WkL.cons ?_ ?_ | refine Wk.d ?_ | refine DWL.cons ?_ ?_ | refine DW.sf.trans (DW.sl ?_) | refine DW.sl ?_ | refine DW.sff ?_ | exact WkL.nil | exact trivial | exact DWRows.rfl_of (by simp [Function.comp_def, Ty.kids, Vl.kids, Vl.num])))
    have : d.toNat = 0 := by omega
    rw [this]; rfl
  obtain ⟨m, hm⟩ : ∃ m, d.toNat = m + 1 := ⟨d.toNat - 1, by omega⟩
  have hm1 : (d - 1).toNat = m := by omega
  rw [hm] at fin
  first
    | refine br_dec (fun h2 => ?_) (fun h2 => ?_)
    | refine br_eq (fun h2 => ?_) (fun h2 => ?_)
    | refine br_ne (fun h2 => ?_) (fun h2 => ?_)
    | refine br_neq (fun h2 => ?_) (fun h2 => ?_)
    | refine br_not (fun h2 => ?_) (fun h2 => ?_)
    | refine Br.mk (fun h2 => ?_) (fun h2 => ?_)
  all_goals (try simp only [List.length_append, List.length_cons, List.length_nil, List.length_map, List.length_take, List.length_drop, maxRow, byteRows_len, Ty.kids, Vl.kids, Vl.num] at h2)
  all_goals ((conv => (whnf)); (try (refine AnyG.skip ?_; (conv => (whnf)))))
  first
    | refine br_dec (fun h3 => ?_) (fun h3 => ?_)
    | refine br_eq (fun h3 => ?_) (fun h3 => ?_)
    | refine br_ne (fun h3 => ?_) (fun h3 => ?_)
    | refine br_neq (fun h3 => ?_) (fun h3 => ?_)
    | refine br_not (fun h3 => ?_) (fun h3 => ?_)
    | refine Br.mk (fun h3 => ?_) (fun h3 => ?_)
  all_goals (try simp only [List.length_append, List.length_cons, List.length_nil, List.length_map, List.length_take, List.length_drop, maxRow, byteRows_len, Ty.kids, Vl.kids, Vl.num] at h3)
  all_goals ((conv => (whnf)); (try (refine AnyG.skip ?_; (conv => (whnf)))))
  · refine endK ⟨[], ⟨rfl, rfl⟩, ?_⟩
    ((conv => (whnf)); (try (refine AnyG.skip ?_; (conv => (whnf)))))
    refine fin _ (.mk []) false ?_ (fun h => by cases h) (by repeat' (first | exact Wk.rfl | exact WkL.rfl | exact WkOs.rfl | exact DWRows.rfl | exact Wk.nil _ | exact DWL.rfl | exact DW.rfl | exact DW.nil _ | exact DW.nilf _ | exact DW.sf | refine Wk.agg ?_ | refine Wk.tup ?_ | refine WkL.cons ?_ ?_ | refine Wk.d ?_ | refine DWL.cons ?_ ?_ | refine DW.sf.trans (DW.sl ?_) | refine DW.sl ?_ | refine DW.sff ?_ | exact WkL.nil | exact trivial | exact DWRows.rfl_of (by simp [Function.comp_def, Ty.kids, Vl.kids, Vl.num])))
    have e : (ks.length == 0 || ks.length == 2) = false := by simp; exact ⟨by rintro rfl; simp at h2, by omega⟩
    simp [shp, e]
  rotate_left
  all_goals
    refine ⟨[.cell 2 0 1], Int, fun i => 0 ≤ i ∧ i ≤ ks.length ∧ (ks.take i.toNat).all (shp m) = true, fun i => (ks.length - i).toNat, fun i => [(7, iv i)],
      fun i => [.cells [iv k, .d (.sl 2 (ks.map dVl))], .cells [.d (.v (.slice none 0 0))], .cells [.row 3 1], .row 1 true 1 ((ks.take i.toNat).map fun k => dTy (vty k))], 0, ⟨by omega, by omega, by simp⟩, ?_⟩
    ((conv => (whnf)); (try (refine AnyG.skip ?_; (conv => (whnf)))))
    refine ⟨⟨rfl, rfl, WkOs.rfl, ⟨Wk.rfl, trivial⟩, rfl⟩, ?_⟩
    intro i ⟨hi0, hi1, hi2⟩
    ((conv => (whnf)); (try (refine AnyG.skip ?_; (conv => (whnf)))))
    first
      | refine br_dec (fun h4 => ?_) (fun h4 => ?_)
      | refine br_eq (fun h4 => ?_) (fun h4 => ?_)
      | refine br_ne (fun h4 => ?_) (fun h4 => ?_)
      | refine br_neq (fun h4 => ?_) (fun h4 => ?_)
      | refine br_not (fun h4 => ?_) (fun h4 => ?_)
      | refine Br.mk (fun h4 => ?_) (fun h4 => ?_)
    all_goals (try simp only [List.length_append, List.length_cons, List.length_nil, List.length_map, List.length_take, List.length_drop, maxRow, byteRows_len, Ty.kids, Vl.kids, Vl.num] at h4)
    all_goals ((conv => (whnf)); (try (refine AnyG.skip ?_; (conv => (whnf)))))
    · have hlt : i.toNat < ks.length := by omega
      first | refine idx_map (f := dVl) (by omega) (by (try simp only [List.length_append, List.length_cons, List.length_nil, List.length_map, List.length_take, List.length_drop, maxRow, byteRows_len, Ty.kids, Vl.kids, Vl.num]); omega) ?_ | refine idx_map' (f := dVl) (by (try simp only [List.length_append, List.length_cons, List.length_nil, List.length_map, List.length_take, List.length_drop, maxRow, byteRows_len, Ty.kids, Vl.kids, Vl.num]); omega) ?_
      rw [dVl_eq]
      ((conv => (whnf)); (try (refine AnyG.skip ?_; (conv => (whnf)))))
      repeat (first
        | (refine rng_i64 (by omega) (by omega) ?_; ((conv => (whnf)); (try (refine AnyG.skip ?_; (conv => (whnf))))))
        | (refine rng_i64 (by dsimp only; omega) (by dsimp only; omega) ?_; ((conv => (whnf)); (try (refine AnyG.skip ?_; (conv => (whnf))))))
        | (refine rng_i64 (by (try simp only [List.length_append, List.length_cons, List.length_nil, List.length_map, List.length_take, List.length_drop, maxRow, byteRows_len, Ty.kids, Vl.kids, Vl.num]); omega) (by (try simp only [List.length_append, List.length_cons, List.length_nil, List.length_map, List.length_take, List.length_drop, maxRow, byteRows_len, Ty.kids, Vl.kids, Vl.num]); omega) ?_; ((conv => (whnf)); (try (refine AnyG.skip ?_; (conv => (whnf))))))
        | (refine Req.mk (Nat.le_of_ble_eq_true rfl) ?_; ((conv => (whnf)); (try (refine AnyG.skip ?_; (conv => (whnf))))))
        | (refine Req.mk (by omega) ?_; ((conv => (whnf)); (try (refine AnyG.skip ?_; (conv => (whnf))))))
        | (refine Req.mk (by (try simp only [List.length_append, List.length_cons, List.length_nil, List.length_map, List.length_take, List.length_drop, maxRow, byteRows_len, Ty.kids, Vl.kids, Vl.num]); omega) ?_; ((conv => (whnf)); (try (refine AnyG.skip ?_; (conv => (whnf))))))
        | (refine rng_u8 (by omega) (by omega) ?_; ((conv => (whnf)); (try (refine AnyG.skip ?_; (conv => (whnf))))))
        | (refine Req.mk (by (((conv => (whnf)); (try (refine AnyG.skip ?_; (conv => (whnf)))))); (repeat (first | (refine rng_i64 (by omega) (by omega) ?_; ((conv => (whnf)); (try (refine AnyG.skip ?_; (conv => (whnf)))))) | (refine rng_i64 (by dsimp only; omega) (by dsimp only; omega) ?_; ((conv => (whnf)); (try (refine AnyG.skip ?_; (conv => (whnf)))))) | (refine rng_i64 (by (try simp only [List.length_append, List.length_cons, List.length_nil, List.length_map, List.length_take, List.length_drop, maxRow, byteRows_len, Ty.kids, Vl.kids, Vl.num]); omega) (by (try simp only [List.length_append, List.length_cons, List.length_nil, List.length_map, List.length_take, List.length_drop, maxRow, byteRows_len, Ty.kids, Vl.kids, Vl.num]); omega) ?_; ((conv => (whnf)); (try (refine AnyG.skip ?_; (conv => (whnf)))))) | (refine Req.mk (Nat.le_of_ble_eq_true rfl) ?_; ((conv => (whnf)); (try (refine AnyG.skip ?_; (conv => (whnf)))))) | (refine Req.mk (by omega) ?_; ((conv => (whnf)); (try (refine AnyG.skip ?_; (conv => (whnf)))))) | (refine Req.mk (by (try simp only [List.length_append, List.length_cons, List.length_nil, List.length_map, List.length_take, List.length_drop, maxRow, byteRows_len, Ty.kids, Vl.kids, Vl.num]); omega) ?_; ((conv => (whnf)); (try (refine AnyG.skip ?_; (conv => (whnf)))))) | (refine rng_u8 (by omega) (by omega) ?_; ((conv => (whnf)); (try (refine AnyG.skip ?_; (conv => (whnf)))))))); exact Wk.rfl) ?_; ((conv => (whnf)); (try (refine AnyG.skip ?_; (conv => (whnf))))))
        )
      refine ⟨_, _, WkL.rfl, WkOs.rfl, _, _, rfl, rfl, by omega, by omega, by omega, ?_⟩
      intro t ht
      rw [hm1] at ht ⊢
      repeat (first
        | (refine rng_i64 (by omega) (by omega) ?_; ((conv => (whnf)); (try (refine AnyG.skip ?_; (conv => (whnf))))))
        | (refine rng_i64 (by dsimp only; omega) (by dsimp only; omega) ?_; ((conv => (whnf)); (try (refine AnyG.skip ?_; (conv => (whnf))))))
        | (refine rng_i64 (by (try simp only [List.length_append, List.length_cons, List.length_nil, List.length_map, List.length_take, List.length_drop, maxRow, byteRows_len, Ty.kids, Vl.kids, Vl.num]); omega) (by (try simp only [List.length_append, List.length_cons, List.length_nil, List.length_map, List.length_take, List.length_drop, maxRow, byteRows_len, Ty.kids, Vl.kids, Vl.num]); omega) ?_; ((conv => (whnf)); (try (refine AnyG.skip ?_; (conv => (whnf))))))
        | (refine Req.mk (Nat.le_of_ble_eq_true rfl) ?_; ((conv => (whnf)); (try (refine AnyG.skip ?_; (conv => (whnf))))))
        | (refine Req.mk (by omega) ?_; ((conv => (whnf)); (try (refine AnyG.skip ?_; (conv => (whnf))))))
        | (refine Req.mk (by (try simp only [List.length_append, List.length_cons, List.length_nil, List.length_map, List.length_take, List.length_drop, maxRow, byteRows_len, Ty.kids, Vl.kids, Vl.num]); omega) ?_; ((conv => (whnf)); (try (refine AnyG.skip ?_; (conv => (whnf))))))
        | (refine rng_u8 (by omega) (by omega) ?_; ((conv => (whnf)); (try (refine AnyG.skip ?_; (conv => (whnf))))))
        | (refine Req.mk (by (((conv => (whnf)); (try (refine AnyG.skip ?_; (conv => (whnf)))))); (repeat (first | (refine rng_i64 (by omega) (by omega) ?_; ((conv => (whnf)); (try (refine AnyG.skip ?_; (conv => (whnf)))))) | (refine rng_i64 (by dsimp only; omega) (by dsimp only; omega) ?_; ((conv => (whnf)); (try (refine AnyG.skip ?_; (conv => (whnf)))))) | (refine rng_i64 (by (try simp only [List.length_append, List.length_cons, List.length_nil, List.length_map, List.length_take, List.length_drop, maxRow, byteRows_len, Ty.kids, Vl.kids, Vl.num]); omega) (by (try simp only [List.length_append, List.length_cons, List.length_nil, List.length_map, List.length_take, List.length_drop, maxRow, byteRows_len, Ty.kids, Vl.kids, Vl.num]); omega) ?_; ((conv => (whnf)); (try (refine AnyG.skip ?_; (conv => (whnf)))))) | (refine Req.mk (Nat.le_of_ble_eq_true rfl) ?_; ((conv => (whnf)); (try (refine AnyG.skip ?_; (conv => (whnf)))))) | (refine Req.mk (by omega) ?_; ((conv => (whnf)); (try (refine AnyG.skip ?_; (conv => (whnf)))))) | (refine Req.mk (by (try simp only [List.length_append, List.length_cons, List.length_nil, List.length_map, List.length_take, List.length_drop, maxRow, byteRows_len, Ty.kids, Vl.kids, Vl.num]); omega) ?_; ((conv => (whnf)); (try (refine AnyG.skip ?_; (conv => (whnf)))))) | (refine rng_u8 (by omega) (by omega) ?_; ((conv => (whnf)); (try (refine AnyG.skip ?_; (conv => (whnf)))))))); exact Wk.rfl) ?_; ((conv => (whnf)); (try (refine AnyG.skip ?_; (conv => (whnf))))))
        )
      first
        | refine br_dec (fun h5 => ?_) (fun h5 => ?_)
        | refine br_eq (fun h5 => ?_) (fun h5 => ?_)
        | refine br_ne (fun h5 => ?_) (fun h5 => ?_)
        | refine br_neq (fun h5 => ?_) (fun h5 => ?_)
        | refine br_not (fun h5 => ?_) (fun h5 => ?_)
        | refine Br.mk (fun h5 => ?_) (fun h5 => ?_)
      all_goals (try simp only [List.length_append, List.length_cons, List.length_nil, List.length_map, List.length_take, List.length_drop, maxRow, byteRows_len, Ty.kids, Vl.kids, Vl.num] at h5)
      all_goals ((conv => (whnf)); (try (refine AnyG.skip ?_; (conv => (whnf)))))
      · have hs : shp m ks[i.toNat] = false := by simpa using h5
        refine endK ⟨[], ⟨rfl, rfl⟩, ?_⟩
        ((conv => (whnf)); (try (refine AnyG.skip ?_; (conv => (whnf)))))
        refine fin _ (.mk ((ks.take i.toNat).map vty)) false ?_ (fun h => by cases h) (by repeat' (first | exact Wk.rfl | exact WkL.rfl | exact WkOs.rfl | exact DWRows.rfl | exact Wk.nil _ | exact DWL.rfl | exact DW.rfl | exact DW.nil _ | exact DW.nilf _ | exact DW.sf | refine Wk.agg ?_ | refine Wk.tup ?_ | refine WkL.cons ?_ ?_ | refine Wk.d ?_ | refine DWL.cons ?_ ?_ | refine DW.sf.trans (DW.sl ?_) | refine DW.sl ?_ | refine DW.sff ?_ | exact WkL.nil | exact trivial | exact DWRows.rfl_of (by simp [Function.comp_def, Ty.kids, Vl.kids, Vl.num])))
        · have : ks.all (shp m) = false := List.all_eq_false.2 ⟨_, List.getElem_mem hlt, by simp [hs]⟩
          simp [shp, this]
      · left
        ((conv => (whnf)); (try (refine AnyG.skip ?_; (conv => (whnf)))))
        repeat (first
          | (refine rng_i64 (by omega) (by omega) ?_; ((conv => (whnf)); (try (refine AnyG.skip ?_; (conv => (whnf))))))
          | (refine rng_i64 (by dsimp only; omega) (by dsimp only; omega) ?_; ((conv => (whnf)); (try (refine AnyG.skip ?_; (conv => (whnf))))))
          | (refine rng_i64 (by (try simp only [List.length_append, List.length_cons, List.length_nil, List.length_map, List.length_take, List.length_drop, maxRow, byteRows_len, Ty.kids, Vl.kids, Vl.num]); omega) (by (try simp only [List.length_append, List.length_cons, List.length_nil, List.length_map, List.length_take, List.length_drop, maxRow, byteRows_len, Ty.kids, Vl.kids, Vl.num]); omega) ?_; ((conv => (whnf)); (try (refine AnyG.skip ?_; (conv => (whnf))))))
          | (refine Req.mk (Nat.le_of_ble_eq_true rfl) ?_; ((conv => (whnf)); (try (refine AnyG.skip ?_; (conv => (whnf))))))
          | (refine Req.mk (by omega) ?_; ((conv => (whnf)); (try (refine AnyG.skip ?_; (conv => (whnf))))))
          | (refine Req.mk (by (try simp only [List.length_append, List.length_cons, List.length_nil, List.length_map, List.length_take, List.length_drop, maxRow, byteRows_len, Ty.kids, Vl.kids, Vl.num]); omega) ?_; ((conv => (whnf)); (try (refine AnyG.skip ?_; (conv => (whnf))))))
          | (refine rng_u8 (by omega) (by omega) ?_; ((conv => (whnf)); (try (refine AnyG.skip ?_; (conv => (whnf))))))
          | (refine Req.mk (by (((conv => (whnf)); (try (refine AnyG.skip ?_; (conv => (whnf)))))); (repeat (first | (refine rng_i64 (by omega) (by omega) ?_; ((conv => (whnf)); (try (refine AnyG.skip ?_; (conv => (whnf)))))) | (refine rng_i64 (by dsimp only; omega) (by dsimp only; omega) ?_; ((conv => (whnf)); (try (refine AnyG.skip ?_; (conv => (whnf)))))) | (refine rng_i64 (by (try simp only [List.length_append, List.length_cons, List.length_nil, List.length_map, List.length_take, List.length_drop, maxRow, byteRows_len, Ty.kids, Vl.kids, Vl.num]); omega) (by (try simp only [List.length_append, List.length_cons, List.length_nil, List.length_map, List.length_take, List.length_drop, maxRow, byteRows_len, Ty.kids, Vl.kids, Vl.num]); omega) ?_; ((conv => (whnf)); (try (refine AnyG.skip ?_; (conv => (whnf)))))) | (refine Req.mk (Nat.le_of_ble_eq_true rfl) ?_; ((conv => (whnf)); (try (refine AnyG.skip ?_; (conv => (whnf)))))) | (refine Req.mk (by omega) ?_; ((conv => (whnf)); (try (refine AnyG.skip ?_; (conv => (whnf)))))) | (refine Req.mk (by (try simp only [List.length_append, List.length_cons, List.length_nil, List.length_map, List.length_take, List.length_drop, maxRow, byteRows_len, Ty.kids, Vl.kids, Vl.num]); omega) ?_; ((conv => (whnf)); (try (refine AnyG.skip ?_; (conv => (whnf)))))) | (refine rng_u8 (by omega) (by omega) ?_; ((conv => (whnf)); (try (refine AnyG.skip ?_; (conv => (whnf)))))))); exact Wk.rfl) ?_; ((conv => (whnf)); (try (refine AnyG.skip ?_; (conv => (whnf))))))
          )
        have ht := ht h5
        subst ht
        have e : (i + 1).toNat = i.toNat + 1 := by omega
        refine ⟨i + 1, ⟨by omega, by omega, e ▸ take_all hlt hi2 h5⟩, by dsimp only; omega, [], Meet.mk rfl rfl ⟨WkO.rfl, WkO.rfl, WkO.rfl, .inr ⟨rfl, rfl, rfl, rows_snoc hlt e (by rw [dTy_eq]) (by rw [dTy_eq]; exact DWL.rfl)⟩, trivial⟩ ⟨Wk.rfl, trivial⟩ rfl⟩
    · refine endK ⟨[], ⟨rfl, rfl⟩, ?_⟩
      ((conv => (whnf)); (try (refine AnyG.skip ?_; (conv => (whnf)))))
      have e : i.toNat = ks.length := by omega
      rw [e, List.take_length] at hi2
      have e0 : (ks.length == 0 || ks.length == 2) = true := by rw [Bool.or_eq_true, beq_iff_eq, beq_iff_eq]; omega
      have hs : shp (m + 1) (.mk k ks) = true := by simp only [shp, hi2, e0]; rfl
      refine fin _ (vty (.mk k ks)) true hs (fun _ => rfl) ?_
      rw [e, List.take_length, vty_mk]
      repeat' (first
        | exact Wk.rfl
        | exact WkL.rfl
        | exact WkOs.rfl
        | exact DWRows.rfl
        | exact Wk.nil _
        | exact DWL.rfl
        | exact DW.rfl
        | exact DW.nil _
        | exact DW.nilf _
        | exact DW.sf
        | refine Wk.agg ?_
        | refine Wk.tup ?_
        | refine WkL.cons ?_ ?_
        | refine Wk.d ?_
        | refine DWL.cons ?_ ?_
        | refine DW.sf.trans (DW.sl ?_)
        | refine DW.sl ?_
        | refine DW.sff ?_
        | exact WkL.nil
        | exact trivial
        | exact DWRows.rfl_of (by simp [Function.comp_def, Ty.kids, Vl.kids, Vl.num])
        )

def l1val : Ty → Vl → Bool
  | .mk ts, .mk n vs => decide (vs.length = ts.length) && (decide (vs.length = 0) || n == 0) && decide (0 ≤ n) && decide (n ≤ 9999) && l1vals ts vs
where l1vals : List Ty → List Vl → Bool
  | t :: ts, v :: vs => l1val t v && l1vals ts vs
  | _, _ => true
theorem l1vals_get : ∀ {ts : List Ty} {vs : List Vl} (i : Nat) (h1 : i < ts.length) (h2 : i < vs.length), l1val ts[i] vs[i] = false → l1val.l1vals ts vs = false
  | t :: ts, v :: vs, 0, _, _, h => by simp at h; simp [l1val.l1vals, h]
  | t :: ts, v :: vs, i + 1, h1, h2, h => by
    have := l1vals_get (ts := ts) (vs := vs) i (by simpa using h1) (by simpa using h2) (by simpa using h)
    simp [l1val.l1vals, this]
theorem l1vals_step : ∀ {ts : List Ty} {vs : List Vl} (i : Nat) (h1 : i < ts.length) (h2 : i < vs.length), l1val.l1vals (ts.take i) (vs.take i) = true → l1val ts[i] vs[i] = true → l1val.l1vals (ts.take (i + 1)) (vs.take (i + 1)) = true
  | t :: ts, v :: vs, 0, _, _, _, h => by simp at h; simp [l1val.l1vals, h]
  | t :: ts, v :: vs, i + 1, h1, h2, h, h' => by
    simp only [List.take_succ_cons, l1val.l1vals, Bool.and_eq_true] at h ⊢
    exact ⟨h.1, l1vals_step i (by simpa using h1) (by simpa using h2) h.2 (by simpa using h')⟩

/-- spec.l1Val -/
def S_s_l1Val (n : Nat) : Spec := fun args O Q => ∃ (t : Ty) (v : Vl) (m : Nat), args = [aTy t, aVl v] ∧ O = [] ∧ m < n ∧ tyOk m t = true ∧ Q (bv (l1val t v)) []
theorem v_s_l1Val {B : World} : ∀ n, Valid PG B s_l1Val (S_s_l1Val n) := by
  refine valid_lt (fun args O Q ⟨t, v, m, _, _, h1, _⟩ => by omega) fun n ih => ?_
  refine valid_of (Γ := [(s_l1Val, ⟨[], S_s_l1Val n⟩), (s_l6In, ⟨[], S_s_l6In⟩)]) wide tok ((AllValid.nil.cons v_s_l6In).cons ih) g_s_l1Val rfl rfl ?_
  rintro _ _ Q ⟨⟨ts⟩, ⟨k, vs⟩, m, rfl, rfl, hm, hok, hQ⟩
  obtain ⟨j, rfl, hlen, hks⟩ := tyOk_kids hok
  have fin : ∀ (b : Bool), l1val (.mk ts) (.mk k vs) = b → wkQ Q (bv b) [] := fun b hb => ⟨_, _, Wk.rfl, WkOs.rfl, by subst hb; exact hQ⟩
  ((conv => (whnf)); (try (refine AnyG.skip ?_; (conv => (whnf)))))
  first
    | refine br_dec (fun h => ?_) (fun h => ?_)
    | refine br_eq (fun h => ?_) (fun h => ?_)
    | refine br_ne (fun h => ?_) (fun h => ?_)
    | refine br_neq (fun h => ?_) (fun h => ?_)
    | refine br_not (fun h => ?_) (fun h => ?_)
    | refine Br.mk (fun h => ?_) (fun h => ?_)
  all_goals (try simp only [List.length_append, List.length_cons, List.length_nil, List.length_map, List.length_take, List.length_drop, maxRow, byteRows_len, Ty.kids, Vl.kids, Vl.num] at h)
  all_goals ((conv => (whnf)); (try (refine AnyG.skip ?_; (conv => (whnf)))))
  · refine endK ⟨[], ⟨rfl, rfl⟩, ?_⟩
    ((conv => (whnf)); (try (refine AnyG.skip ?_; (conv => (whnf)))))
    refine fin _ ?_
    have e : decide (vs.length = ts.length) = false := by simp; omega
    simp only [l1val, e, Bool.false_and]
  have step : ∀ b0 : Bool, (vs.length = 0 ∨ k = 0) → (decide (0 ≤ k) && decide (k ≤ 9999)) = b0 → l1val (.mk ts) (.mk k vs) = (b0 && l1val.l1vals ts vs) := by
    intro b0 h1 h2
    have e1 : (decide (vs.length = 0) || k == 0) = true := by rw [Bool.or_eq_true, decide_eq_true_eq, beq_iff_eq]; exact h1
    have e2 : decide (vs.length = ts.length) = true := by simp; omega
    simp only [l1val, e1, e2, Bool.true_and, ← h2]
  first
    | refine br_dec (fun h2 => ?_) (fun h2 => ?_)
    | refine br_eq (fun h2 => ?_) (fun h2 => ?_)
    | refine br_ne (fun h2 => ?_) (fun h2 => ?_)
    | refine br_neq (fun h2 => ?_) (fun h2 => ?_)
    | refine br_not (fun h2 => ?_) (fun h2 => ?_)
    | refine Br.mk (fun h2 => ?_) (fun h2 => ?_)
  all_goals (try simp only [List.length_append, List.length_cons, List.length_nil, List.length_map, List.length_take, List.length_drop, maxRow, byteRows_len, Ty.kids, Vl.kids, Vl.num] at h2)
  all_goals ((conv => (whnf)); (try (refine AnyG.skip ?_; (conv => (whnf)))))
  first
    | refine br_dec (fun h3 => ?_) (fun h3 => ?_)
    | refine br_eq (fun h3 => ?_) (fun h3 => ?_)
    | refine br_ne (fun h3 => ?_) (fun h3 => ?_)
    | refine br_neq (fun h3 => ?_) (fun h3 => ?_)
    | refine br_not (fun h3 => ?_) (fun h3 => ?_)
    | refine Br.mk (fun h3 => ?_) (fun h3 => ?_)
  all_goals (try simp only [List.length_append, List.length_cons, List.length_nil, List.length_map, List.length_take, List.length_drop, maxRow, byteRows_len, Ty.kids, Vl.kids, Vl.num] at h3)
  all_goals ((conv => (whnf)); (try (refine AnyG.skip ?_; (conv => (whnf)))))
  · refine endK ⟨[], ⟨rfl, rfl⟩, ?_⟩
    ((conv => (whnf)); (try (refine AnyG.skip ?_; (conv => (whnf)))))
    refine fin _ ?_
    have e1 : (decide (vs.length = 0) || k == 0) = false := by simp; exact ⟨by rintro rfl; simp at h2, h3⟩
    simp only [l1val, e1, Bool.and_false, Bool.false_and]
  focus (have h0 : vs.length = 0 ∨ k = 0 := .inr h3)
  rotate_left
  focus (have h0 : vs.length = 0 ∨ k = 0 := .inl (by omega))
  all_goals
    refine ⟨_, _, WkL.rfl, WkOs.rfl, _, _, _, rfl, rfl, ?_⟩
    repeat (first
      | (refine rng_i64 (by omega) (by omega) ?_; ((conv => (whnf)); (try (refine AnyG.skip ?_; (conv => (whnf))))))
      | (refine rng_i64 (by dsimp only; omega) (by dsimp only; omega) ?_; ((conv => (whnf)); (try (refine AnyG.skip ?_; (conv => (whnf))))))
      | (refine rng_i64 (by (try simp only [List.length_append, List.length_cons, List.length_nil, List.length_map, List.length_take, List.length_drop, maxRow, byteRows_len, Ty.kids, Vl.kids, Vl.num]); omega) (by (try simp only [List.length_append, List.length_cons, List.length_nil, List.length_map, List.length_take, List.length_drop, maxRow, byteRows_len, Ty.kids, Vl.kids, Vl.num]); omega) ?_; ((conv => (whnf)); (try (refine AnyG.skip ?_; (conv => (whnf))))))
      | (refine Req.mk (Nat.le_of_ble_eq_true rfl) ?_; ((conv => (whnf)); (try (refine AnyG.skip ?_; (conv => (whnf))))))
      | (refine Req.mk (by omega) ?_; ((conv => (whnf)); (try (refine AnyG.skip ?_; (conv => (whnf))))))
      | (refine Req.mk (by (try simp only [List.length_append, List.length_cons, List.length_nil, List.length_map, List.length_take, List.length_drop, maxRow, byteRows_len, Ty.kids, Vl.kids, Vl.num]); omega) ?_; ((conv => (whnf)); (try (refine AnyG.skip ?_; (conv => (whnf))))))
      | (refine rng_u8 (by omega) (by omega) ?_; ((conv => (whnf)); (try (refine AnyG.skip ?_; (conv => (whnf))))))
      | (refine Req.mk (by (((conv => (whnf)); (try (refine AnyG.skip ?_; (conv => (whnf)))))); (repeat (first | (refine rng_i64 (by omega) (by omega) ?_; ((conv => (whnf)); (try (refine AnyG.skip ?_; (conv => (whnf)))))) | (refine rng_i64 (by dsimp only; omega) (by dsimp only; omega) ?_; ((conv => (whnf)); (try (refine AnyG.skip ?_; (conv => (whnf)))))) | (refine rng_i64 (by (try simp only [List.length_append, List.length_cons, List.length_nil, List.length_map, List.length_take, List.length_drop, maxRow, byteRows_len, Ty.kids, Vl.kids, Vl.num]); omega) (by (try simp only [List.length_append, List.length_cons, List.length_nil, List.length_map, List.length_take, List.length_drop, maxRow, byteRows_len, Ty.kids, Vl.kids, Vl.num]); omega) ?_; ((conv => (whnf)); (try (refine AnyG.skip ?_; (conv => (whnf)))))) | (refine Req.mk (Nat.le_of_ble_eq_true rfl) ?_; ((conv => (whnf)); (try (refine AnyG.skip ?_; (conv => (whnf)))))) | (refine Req.mk (by omega) ?_; ((conv => (whnf)); (try (refine AnyG.skip ?_; (conv => (whnf)))))) | (refine Req.mk (by (try simp only [List.length_append, List.length_cons, List.length_nil, List.length_map, List.length_take, List.length_drop, maxRow, byteRows_len, Ty.kids, Vl.kids, Vl.num]); omega) ?_; ((conv => (whnf)); (try (refine AnyG.skip ?_; (conv => (whnf)))))) | (refine rng_u8 (by omega) (by omega) ?_; ((conv => (whnf)); (try (refine AnyG.skip ?_; (conv => (whnf)))))))); exact Wk.rfl) ?_; ((conv => (whnf)); (try (refine AnyG.skip ?_; (conv => (whnf))))))
      )
    first
      | refine br_dec (fun h4 => ?_) (fun h4 => ?_)
      | refine br_eq (fun h4 => ?_) (fun h4 => ?_)
      | refine br_ne (fun h4 => ?_) (fun h4 => ?_)
      | refine br_neq (fun h4 => ?_) (fun h4 => ?_)
      | refine br_not (fun h4 => ?_) (fun h4 => ?_)
      | refine Br.mk (fun h4 => ?_) (fun h4 => ?_)
    all_goals (try simp only [List.length_append, List.length_cons, List.length_nil, List.length_map, List.length_take, List.length_drop, maxRow, byteRows_len, Ty.kids, Vl.kids, Vl.num] at h4)
    all_goals ((conv => (whnf)); (try (refine AnyG.skip ?_; (conv => (whnf)))))
    · refine endK ⟨[], ⟨rfl, rfl⟩, ?_⟩
      ((conv => (whnf)); (try (refine AnyG.skip ?_; (conv => (whnf)))))
      refine fin _ ?_
      rw [step false h0 h4]; rfl
    refine ⟨[], Int, fun i => 0 ≤ i ∧ i ≤ vs.length ∧ l1val.l1vals (ts.take i.toNat) (vs.take i.toNat) = true, fun i => (vs.length - i).toNat, fun i => [(5, iv i)],
      fun i => [.cells [.d (.sl 1 (ts.map dTy))], .cells [iv k, .d (.sl 2 (vs.map dVl))]], 0, ⟨by omega, by omega, by simp [l1val.l1vals]⟩, ?_⟩
    ((conv => (whnf)); (try (refine AnyG.skip ?_; (conv => (whnf)))))
    refine ⟨⟨rfl, rfl, WkOs.rfl, ⟨Wk.rfl, trivial⟩, rfl⟩, ?_⟩
    intro i ⟨hi0, hi1, hi2⟩
    ((conv => (whnf)); (try (refine AnyG.skip ?_; (conv => (whnf)))))
    first
      | refine br_dec (fun h5 => ?_) (fun h5 => ?_)
      | refine br_eq (fun h5 => ?_) (fun h5 => ?_)
      | refine br_ne (fun h5 => ?_) (fun h5 => ?_)
      | refine br_neq (fun h5 => ?_) (fun h5 => ?_)
      | refine br_not (fun h5 => ?_) (fun h5 => ?_)
      | refine Br.mk (fun h5 => ?_) (fun h5 => ?_)
    all_goals (try simp only [List.length_append, List.length_cons, List.length_nil, List.length_map, List.length_take, List.length_drop, maxRow, byteRows_len, Ty.kids, Vl.kids, Vl.num] at h5)
    all_goals ((conv => (whnf)); (try (refine AnyG.skip ?_; (conv => (whnf)))))
    · have hl1 : i.toNat < ts.length := by omega
      have hl2 : i.toNat < vs.length := by omega
      first | refine idx_map (f := dTy) (by omega) (by (try simp only [List.length_append, List.length_cons, List.length_nil, List.length_map, List.length_take, List.length_drop, maxRow, byteRows_len, Ty.kids, Vl.kids, Vl.num]); omega) ?_ | refine idx_map' (f := dTy) (by (try simp only [List.length_append, List.length_cons, List.length_nil, List.length_map, List.length_take, List.length_drop, maxRow, byteRows_len, Ty.kids, Vl.kids, Vl.num]); omega) ?_
      rw [dTy_eq]
      ((conv => (whnf)); (try (refine AnyG.skip ?_; (conv => (whnf)))))
      first | refine idx_map (f := dVl) (by omega) (by (try simp only [List.length_append, List.length_cons, List.length_nil, List.length_map, List.length_take, List.length_drop, maxRow, byteRows_len, Ty.kids, Vl.kids, Vl.num]); omega) ?_ | refine idx_map' (f := dVl) (by (try simp only [List.length_append, List.length_cons, List.length_nil, List.length_map, List.length_take, List.length_drop, maxRow, byteRows_len, Ty.kids, Vl.kids, Vl.num]); omega) ?_
      rw [dVl_eq]
      ((conv => (whnf)); (try (refine AnyG.skip ?_; (conv => (whnf)))))
      refine ⟨_, _, WkL.rfl, WkOs.rfl, ts[i.toNat], vs[i.toNat], j, rfl, rfl, by omega, hks _ (List.getElem_mem _), ?_⟩
      repeat (first
        | (refine rng_i64 (by omega) (by omega) ?_; ((conv => (whnf)); (try (refine AnyG.skip ?_; (conv => (whnf))))))
        | (refine rng_i64 (by dsimp only; omega) (by dsimp only; omega) ?_; ((conv => (whnf)); (try (refine AnyG.skip ?_; (conv => (whnf))))))
        | (refine rng_i64 (by (try simp only [List.length_append, List.length_cons, List.length_nil, List.length_map, List.length_take, List.length_drop, maxRow, byteRows_len, Ty.kids, Vl.kids, Vl.num]); omega) (by (try simp only [List.length_append, List.length_cons, List.length_nil, List.length_map, List.length_take, List.length_drop, maxRow, byteRows_len, Ty.kids, Vl.kids, Vl.num]); omega) ?_; ((conv => (whnf)); (try (refine AnyG.skip ?_; (conv => (whnf))))))
        | (refine Req.mk (Nat.le_of_ble_eq_true rfl) ?_; ((conv => (whnf)); (try (refine AnyG.skip ?_; (conv => (whnf))))))
        | (refine Req.mk (by omega) ?_; ((conv => (whnf)); (try (refine AnyG.skip ?_; (conv => (whnf))))))
        | (refine Req.mk (by (try simp only [List.length_append, List.length_cons, List.length_nil, List.length_map, List.length_take, List.length_drop, maxRow, byteRows_len, Ty.kids, Vl.kids, Vl.num]); omega) ?_; ((conv => (whnf)); (try (refine AnyG.skip ?_; (conv => (whnf))))))
        | (refine rng_u8 (by omega) (by omega) ?_; ((conv => (whnf)); (try (refine AnyG.skip ?_; (conv => (whnf))))))
        | (refine Req.mk (by (((conv => (whnf)); (try (refine AnyG.skip ?_; (conv => (whnf)))))); (repeat (first | (refine rng_i64 (by omega) (by omega) ?_; ((conv => (whnf)); (try (refine AnyG.skip ?_; (conv => (whnf)))))) | (refine rng_i64 (by dsimp only; omega) (by dsimp only; omega) ?_; ((conv => (whnf)); (try (refine AnyG.skip ?_; (conv => (whnf)))))) | (refine rng_i64 (by (try simp only [List.length_append, List.length_cons, List.length_nil, List.length_map, List.length_take, List.length_drop, maxRow, byteRows_len, Ty.kids, Vl.kids, Vl.num]); omega) (by (try simp only [List.length_append, List.length_cons, List.length_nil, List.length_map, List.length_take, List.length_drop, maxRow, byteRows_len, Ty.kids, Vl.kids, Vl.num]); omega) ?_; ((conv => (whnf)); (try (refine AnyG.skip ?_; (conv => (whnf)))))) | (refine Req.mk (Nat.le_of_ble_eq_true rfl) ?_; ((conv => (whnf)); (try (refine AnyG.skip ?_; (conv => (whnf)))))) | (refine Req.mk (by omega) ?_; ((conv => (whnf)); (try (refine AnyG.skip ?_; (conv => (whnf)))))) | (refine Req.mk (by (try simp only [List.length_append, List.length_cons, List.length_nil, List.length_map, List.length_take, List.length_drop, maxRow, byteRows_len, Ty.kids, Vl.kids, Vl.num]); omega) ?_; ((conv => (whnf)); (try (refine AnyG.skip ?_; (conv => (whnf)))))) | (refine rng_u8 (by omega) (by omega) ?_; ((conv => (whnf)); (try (refine AnyG.skip ?_; (conv => (whnf)))))))); exact Wk.rfl) ?_; ((conv => (whnf)); (try (refine AnyG.skip ?_; (conv => (whnf))))))
        )
      first
        | refine br_dec (fun h6 => ?_) (fun h6 => ?_)
        | refine br_eq (fun h6 => ?_) (fun h6 => ?_)
        | refine br_ne (fun h6 => ?_) (fun h6 => ?_)
        | refine br_neq (fun h6 => ?_) (fun h6 => ?_)
        | refine br_not (fun h6 => ?_) (fun h6 => ?_)
        | refine Br.mk (fun h6 => ?_) (fun h6 => ?_)
      all_goals (try simp only [List.length_append, List.length_cons, List.length_nil, List.length_map, List.length_take, List.length_drop, maxRow, byteRows_len, Ty.kids, Vl.kids, Vl.num] at h6)
      all_goals ((conv => (whnf)); (try (refine AnyG.skip ?_; (conv => (whnf)))))
      · refine endK ⟨[], ⟨rfl, rfl⟩, ?_⟩
        ((conv => (whnf)); (try (refine AnyG.skip ?_; (conv => (whnf)))))
        refine fin _ ?_
        rw [step true h0 h4, l1vals_get _ hl1 hl2 h6]; rfl
      · repeat (first
          | (refine rng_i64 (by omega) (by omega) ?_; ((conv => (whnf)); (try (refine AnyG.skip ?_; (conv => (whnf))))))
          | (refine rng_i64 (by dsimp only; omega) (by dsimp only; omega) ?_; ((conv => (whnf)); (try (refine AnyG.skip ?_; (conv => (whnf))))))
          | (refine rng_i64 (by (try simp only [List.length_append, List.length_cons, List.length_nil, List.length_map, List.length_take, List.length_drop, maxRow, byteRows_len, Ty.kids, Vl.kids, Vl.num]); omega) (by (try simp only [List.length_append, List.length_cons, List.length_nil, List.length_map, List.length_take, List.length_drop, maxRow, byteRows_len, Ty.kids, Vl.kids, Vl.num]); omega) ?_; ((conv => (whnf)); (try (refine AnyG.skip ?_; (conv => (whnf))))))
          | (refine Req.mk (Nat.le_of_ble_eq_true rfl) ?_; ((conv => (whnf)); (try (refine AnyG.skip ?_; (conv => (whnf))))))
          | (refine Req.mk (by omega) ?_; ((conv => (whnf)); (try (refine AnyG.skip ?_; (conv => (whnf))))))
          | (refine Req.mk (by (try simp only [List.length_append, List.length_cons, List.length_nil, List.length_map, List.length_take, List.length_drop, maxRow, byteRows_len, Ty.kids, Vl.kids, Vl.num]); omega) ?_; ((conv => (whnf)); (try (refine AnyG.skip ?_; (conv => (whnf))))))
          | (refine rng_u8 (by omega) (by omega) ?_; ((conv => (whnf)); (try (refine AnyG.skip ?_; (conv => (whnf))))))
          | (refine Req.mk (by (((conv => (whnf)); (try (refine AnyG.skip ?_; (conv => (whnf)))))); (repeat (first | (refine rng_i64 (by omega) (by omega) ?_; ((conv => (whnf)); (try (refine AnyG.skip ?_; (conv => (whnf)))))) | (refine rng_i64 (by dsimp only; omega) (by dsimp only; omega) ?_; ((conv => (whnf)); (try (refine AnyG.skip ?_; (conv => (whnf)))))) | (refine rng_i64 (by (try simp only [List.length_append, List.length_cons, List.length_nil, List.length_map, List.length_take, List.length_drop, maxRow, byteRows_len, Ty.kids, Vl.kids, Vl.num]); omega) (by (try simp only [List.length_append, List.length_cons, List.length_nil, List.length_map, List.length_take, List.length_drop, maxRow, byteRows_len, Ty.kids, Vl.kids, Vl.num]); omega) ?_; ((conv => (whnf)); (try (refine AnyG.skip ?_; (conv => (whnf)))))) | (refine Req.mk (Nat.le_of_ble_eq_true rfl) ?_; ((conv => (whnf)); (try (refine AnyG.skip ?_; (conv => (whnf)))))) | (refine Req.mk (by omega) ?_; ((conv => (whnf)); (try (refine AnyG.skip ?_; (conv => (whnf)))))) | (refine Req.mk (by (try simp only [List.length_append, List.length_cons, List.length_nil, List.length_map, List.length_take, List.length_drop, maxRow, byteRows_len, Ty.kids, Vl.kids, Vl.num]); omega) ?_; ((conv => (whnf)); (try (refine AnyG.skip ?_; (conv => (whnf)))))) | (refine rng_u8 (by omega) (by omega) ?_; ((conv => (whnf)); (try (refine AnyG.skip ?_; (conv => (whnf)))))))); exact Wk.rfl) ?_; ((conv => (whnf)); (try (refine AnyG.skip ?_; (conv => (whnf))))))
          )
        have e : (i + 1).toNat = i.toNat + 1 := by omega
        refine ⟨i + 1, ⟨by omega, by omega, e ▸ l1vals_step _ hl1 hl2 hi2 h6⟩, by dsimp only; omega, [], Meet.mk rfl rfl WkOs.rfl ⟨Wk.rfl, trivial⟩ rfl⟩
    · refine endK ⟨[], ⟨rfl, rfl⟩, ?_⟩
      ((conv => (whnf)); (try (refine AnyG.skip ?_; (conv => (whnf)))))
      refine fin _ ?_
      have e1 : i.toNat = ts.length := by omega
      have e2 : i.toNat = vs.length := by omega
      rw [List.take_of_length_le (by omega), List.take_of_length_le (by omega)] at hi2
      rw [step true h0 h4, hi2]; rfl
end Ab

/- The reference's own words on values, second part: contracts. -/
namespace Ab
open Go Go.Proofs
set_option maxRecDepth 10000
set_option maxHeartbeats 4000000
set_option linter.all false

/-- spec.ValOk -/
def S_s_ValOk : Spec := fun args O Q => ∃ (t : Ty) (v : Vl), args = [aTy t, aVl v] ∧ O = [] ∧ Q (bv (tyOk 4 t && l1val t v)) []
theorem v_s_ValOk {B : World} : Valid PG B s_ValOk S_s_ValOk := by
  refine valid_of (Γ := [(s_TypeOk, ⟨[], STypeOk⟩), (s_l1Val, ⟨[], S_s_l1Val 10⟩)]) wide tok ((AllValid.nil.cons (v_s_l1Val 10)).cons v_s_TypeOk) g_s_ValOk rfl rfl ?_
  rintro _ _ Q ⟨t, v, rfl, rfl, hQ⟩
  ((conv => (whnf)); (try (refine AnyG.skip ?_; (conv => (whnf)))))
  refine ⟨_, _, WkL.rfl, WkOs.rfl, t, rfl, rfl, ?_⟩
  repeat (first
    | (refine rng_i64 (by omega) (by omega) ?_; ((conv => (whnf)); (try (refine AnyG.skip ?_; (conv => (whnf))))))
    | (refine rng_i64 (by dsimp only; omega) (by dsimp only; omega) ?_; ((conv => (whnf)); (try (refine AnyG.skip ?_; (conv => (whnf))))))
    | (refine rng_i64 (by (try simp only [List.length_append, List.length_cons, List.length_nil, List.length_map, List.length_take, List.length_drop, maxRow, byteRows_len, Ty.kids, Vl.kids, Vl.num]); omega) (by (try simp only [List.length_append, List.length_cons, List.length_nil, List.length_map, List.length_take, List.length_drop, maxRow, byteRows_len, Ty.kids, Vl.kids, Vl.num]); omega) ?_; ((conv => (whnf)); (try (refine AnyG.skip ?_; (conv => (whnf))))))
    | (refine Req.mk (Nat.le_of_ble_eq_true rfl) ?_; ((conv => (whnf)); (try (refine AnyG.skip ?_; (conv => (whnf))))))
    | (refine Req.mk (by omega) ?_; ((conv => (whnf)); (try (refine AnyG.skip ?_; (conv => (whnf))))))
    | (refine Req.mk (by (try simp only [List.length_append, List.length_cons, List.length_nil, List.length_map, List.length_take, List.length_drop, maxRow, byteRows_len, Ty.kids, Vl.kids, Vl.num]); omega) ?_; ((conv => (whnf)); (try (refine AnyG.skip ?_; (conv => (whnf))))))
    | (refine rng_u8 (by omega) (by omega) ?_; ((conv => (whnf)); (try (refine AnyG.skip ?_; (conv => (whnf))))))
    | (refine Req.mk (by (((conv => (whnf)); (try (refine AnyG.skip ?_; (conv => (whnf)))))); (repeat (first | (refine rng_i64 (by omega) (by omega) ?_; ((conv => (whnf)); (try (refine AnyG.skip ?_; (conv => (whnf)))))) | (refine rng_i64 (by dsimp only; omega) (by dsimp only; omega) ?_; ((conv => (whnf)); (try (refine AnyG.skip ?_; (conv => (whnf)))))) | (refine rng_i64 (by (try simp only [List.length_append, List.length_cons, List.length_nil, List.length_map, List.length_take, List.length_drop, maxRow, byteRows_len, Ty.kids, Vl.kids, Vl.num]); omega) (by (try simp only [List.length_append, List.length_cons, List.length_nil, List.length_map, List.length_take, List.length_drop, maxRow, byteRows_len, Ty.kids, Vl.kids, Vl.num]); omega) ?_; ((conv => (whnf)); (try (refine AnyG.skip ?_; (conv => (whnf)))))) | (refine Req.mk (Nat.le_of_ble_eq_true rfl) ?_; ((conv => (whnf)); (try (refine AnyG.skip ?_; (conv => (whnf)))))) | (refine Req.mk (by omega) ?_; ((conv => (whnf)); (try (refine AnyG.skip ?_; (conv => (whnf)))))) | (refine Req.mk (by (try simp only [List.length_append, List.length_cons, List.length_nil, List.length_map, List.length_take, List.length_drop, maxRow, byteRows_len, Ty.kids, Vl.kids, Vl.num]); omega) ?_; ((conv => (whnf)); (try (refine AnyG.skip ?_; (conv => (whnf)))))) | (refine rng_u8 (by omega) (by omega) ?_; ((conv => (whnf)); (try (refine AnyG.skip ?_; (conv => (whnf)))))))); exact Wk.rfl) ?_; ((conv => (whnf)); (try (refine AnyG.skip ?_; (conv => (whnf))))))
    )
  first
    | refine br_dec (fun h => ?_) (fun h => ?_)
    | refine br_eq (fun h => ?_) (fun h => ?_)
    | refine br_ne (fun h => ?_) (fun h => ?_)
    | refine br_neq (fun h => ?_) (fun h => ?_)
    | refine br_not (fun h => ?_) (fun h => ?_)
    | refine Br.mk (fun h => ?_) (fun h => ?_)
  all_goals (try simp only [List.length_append, List.length_cons, List.length_nil, List.length_map, List.length_take, List.length_drop, maxRow, byteRows_len, Ty.kids, Vl.kids, Vl.num] at h)
  all_goals ((conv => (whnf)); (try (refine AnyG.skip ?_; (conv => (whnf)))))
  · refine ⟨_, _, WkL.rfl, WkOs.rfl, t, v, 4, rfl, rfl, by omega, h, ?_⟩
    repeat (first
      | (refine rng_i64 (by omega) (by omega) ?_; ((conv => (whnf)); (try (refine AnyG.skip ?_; (conv => (whnf))))))
      | (refine rng_i64 (by dsimp only; omega) (by dsimp only; omega) ?_; ((conv => (whnf)); (try (refine AnyG.skip ?_; (conv => (whnf))))))
      | (refine rng_i64 (by (try simp only [List.length_append, List.length_cons, List.length_nil, List.length_map, List.length_take, List.length_drop, maxRow, byteRows_len, Ty.kids, Vl.kids, Vl.num]); omega) (by (try simp only [List.length_append, List.length_cons, List.length_nil, List.length_map, List.length_take, List.length_drop, maxRow, byteRows_len, Ty.kids, Vl.kids, Vl.num]); omega) ?_; ((conv => (whnf)); (try (refine AnyG.skip ?_; (conv => (whnf))))))
      | (refine Req.mk (Nat.le_of_ble_eq_true rfl) ?_; ((conv => (whnf)); (try (refine AnyG.skip ?_; (conv => (whnf))))))
      | (refine Req.mk (by omega) ?_; ((conv => (whnf)); (try (refine AnyG.skip ?_; (conv => (whnf))))))
      | (refine Req.mk (by (try simp only [List.length_append, List.length_cons, List.length_nil, List.length_map, List.length_take, List.length_drop, maxRow, byteRows_len, Ty.kids, Vl.kids, Vl.num]); omega) ?_; ((conv => (whnf)); (try (refine AnyG.skip ?_; (conv => (whnf))))))
      | (refine rng_u8 (by omega) (by omega) ?_; ((conv => (whnf)); (try (refine AnyG.skip ?_; (conv => (whnf))))))
      | (refine Req.mk (by (((conv => (whnf)); (try (refine AnyG.skip ?_; (conv => (whnf)))))); (repeat (first | (refine rng_i64 (by omega) (by omega) ?_; ((conv => (whnf)); (try (refine AnyG.skip ?_; (conv => (whnf)))))) | (refine rng_i64 (by dsimp only; omega) (by dsimp only; omega) ?_; ((conv => (whnf)); (try (refine AnyG.skip ?_; (conv => (whnf)))))) | (refine rng_i64 (by (try simp only [List.length_append, List.length_cons, List.length_nil, List.length_map, List.length_take, List.length_drop, maxRow, byteRows_len, Ty.kids, Vl.kids, Vl.num]); omega) (by (try simp only [List.length_append, List.length_cons, List.length_nil, List.length_map, List.length_take, List.length_drop, maxRow, byteRows_len, Ty.kids, Vl.kids, Vl.num]); omega) ?_; ((conv => (whnf)); (try (refine AnyG.skip ?_; (conv => (whnf)))))) | (refine Req.mk (Nat.le_of_ble_eq_true rfl) ?_; ((conv => (whnf)); (try (refine AnyG.skip ?_; (conv => (whnf)))))) | (refine Req.mk (by omega) ?_; ((conv => (whnf)); (try (refine AnyG.skip ?_; (conv => (whnf)))))) | (refine Req.mk (by (try simp only [List.length_append, List.length_cons, List.length_nil, List.length_map, List.length_take, List.length_drop, maxRow, byteRows_len, Ty.kids, Vl.kids, Vl.num]); omega) ?_; ((conv => (whnf)); (try (refine AnyG.skip ?_; (conv => (whnf)))))) | (refine rng_u8 (by omega) (by omega) ?_; ((conv => (whnf)); (try (refine AnyG.skip ?_; (conv => (whnf)))))))); exact Wk.rfl) ?_; ((conv => (whnf)); (try (refine AnyG.skip ?_; (conv => (whnf))))))
      )
    refine endK ⟨[], ⟨rfl, rfl⟩, ?_⟩
    ((conv => (whnf)); (try (refine AnyG.skip ?_; (conv => (whnf)))))
    refine ⟨_, _, Wk.of_eq ?_, WkOs.rfl, hQ⟩
    rw [h]; rfl
  · refine endK ⟨[], ⟨rfl, rfl⟩, ?_⟩
    ((conv => (whnf)); (try (refine AnyG.skip ?_; (conv => (whnf)))))
    refine ⟨_, _, Wk.of_eq ?_, WkOs.rfl, hQ⟩
    rw [h]; rfl

theorem vt_l1 : ∀ (d : Nat) (v : Vl), (shp d v = true → tyOk d (vty v) = true ∧ l1val (vty v) v = (vt d v).2) ∧ (shp d v = false → (vt d v).2 = false)
  | 0, v => ⟨fun h => by simp [shp] at h, fun _ => rfl⟩
  | d + 1, .mk n [] => by simp [shp, vt, vty, l1val, tyOk, l1val.l1vals]
  | d + 1, .mk n [a] => by simp [shp, vt]
  | d + 1, .mk n [a, b] => by
    have ha := vt_l1 d a
    have hb := vt_l1 d b
    simp only [shp, List.length_cons, List.length_nil, List.all_cons, List.all_nil, vty, List.map_cons, List.map_nil, tyOk, l1val, l1val.l1vals, vt]
    cases h1 : shp d a <;> cases h2 : shp d b <;> rw [h1] at ha <;> rw [h2] at hb <;> simp at ha hb ⊢
    · simp [ha]
    · simp [ha]
    · simp [hb]
    · by_cases hn : n = 0
      · simp [hn, ha, hb]; cases (vt d a).2 <;> cases (vt d b).2 <;> rfl
      · simp [hn, ha, hb]
  | d + 1, .mk n (_ :: _ :: _ :: _) => by simp [shp, vt]

/-- spec.l1Any -/
def S_s_l1Any : Spec := fun args O Q => ∃ (v : Vl), args = [aVl v] ∧ O = [] ∧ Q (bv (vt 4 v).2) []
theorem v_s_l1Any {B : World} : Valid PG B s_l1Any S_s_l1Any := by
  refine valid_of (Γ := [(s_l1Of, ⟨[], S_s_l1Of 10⟩), (s_ValOk, ⟨[], S_s_ValOk⟩)]) wide tok ((AllValid.nil.cons v_s_ValOk).cons (v_s_l1Of 10)) g_s_l1Any rfl rfl ?_
  rintro _ _ Q ⟨v, rfl, rfl, hQ⟩
  have key := vt_l1 4 v
  ((conv => (whnf)); (try (refine AnyG.skip ?_; (conv => (whnf)))))
  refine ⟨_, _, WkL.rfl, WkOs.rfl, v, 4, rfl, rfl, by omega, by omega, by omega, ?_⟩
  intro t ht
  repeat (first
    | (refine rng_i64 (by omega) (by omega) ?_; ((conv => (whnf)); (try (refine AnyG.skip ?_; (conv => (whnf))))))
    | (refine rng_i64 (by dsimp only; omega) (by dsimp only; omega) ?_; ((conv => (whnf)); (try (refine AnyG.skip ?_; (conv => (whnf))))))
    | (refine rng_i64 (by (try simp only [List.length_append, List.length_cons, List.length_nil, List.length_map, List.length_take, List.length_drop, maxRow, byteRows_len, Ty.kids, Vl.kids, Vl.num]); omega) (by (try simp only [List.length_append, List.length_cons, List.length_nil, List.length_map, List.length_take, List.length_drop, maxRow, byteRows_len, Ty.kids, Vl.kids, Vl.num]); omega) ?_; ((conv => (whnf)); (try (refine AnyG.skip ?_; (conv => (whnf))))))
    | (refine Req.mk (Nat.le_of_ble_eq_true rfl) ?_; ((conv => (whnf)); (try (refine AnyG.skip ?_; (conv => (whnf))))))
    | (refine Req.mk (by omega) ?_; ((conv => (whnf)); (try (refine AnyG.skip ?_; (conv => (whnf))))))
    | (refine Req.mk (by (try simp only [List.length_append, List.length_cons, List.length_nil, List.length_map, List.length_take, List.length_drop, maxRow, byteRows_len, Ty.kids, Vl.kids, Vl.num]); omega) ?_; ((conv => (whnf)); (try (refine AnyG.skip ?_; (conv => (whnf))))))
    | (refine rng_u8 (by omega) (by omega) ?_; ((conv => (whnf)); (try (refine AnyG.skip ?_; (conv => (whnf))))))
    | (refine Req.mk (by (((conv => (whnf)); (try (refine AnyG.skip ?_; (conv => (whnf)))))); (repeat (first | (refine rng_i64 (by omega) (by omega) ?_; ((conv => (whnf)); (try (refine AnyG.skip ?_; (conv => (whnf)))))) | (refine rng_i64 (by dsimp only; omega) (by dsimp only; omega) ?_; ((conv => (whnf)); (try (refine AnyG.skip ?_; (conv => (whnf)))))) | (refine rng_i64 (by (try simp only [List.length_append, List.length_cons, List.length_nil, List.length_map, List.length_take, List.length_drop, maxRow, byteRows_len, Ty.kids, Vl.kids, Vl.num]); omega) (by (try simp only [List.length_append, List.length_cons, List.length_nil, List.length_map, List.length_take, List.length_drop, maxRow, byteRows_len, Ty.kids, Vl.kids, Vl.num]); omega) ?_; ((conv => (whnf)); (try (refine AnyG.skip ?_; (conv => (whnf)))))) | (refine Req.mk (Nat.le_of_ble_eq_true rfl) ?_; ((conv => (whnf)); (try (refine AnyG.skip ?_; (conv => (whnf)))))) | (refine Req.mk (by omega) ?_; ((conv => (whnf)); (try (refine AnyG.skip ?_; (conv => (whnf)))))) | (refine Req.mk (by (try simp only [List.length_append, List.length_cons, List.length_nil, List.length_map, List.length_take, List.length_drop, maxRow, byteRows_len, Ty.kids, Vl.kids, Vl.num]); omega) ?_; ((conv => (whnf)); (try (refine AnyG.skip ?_; (conv => (whnf)))))) | (refine rng_u8 (by omega) (by omega) ?_; ((conv => (whnf)); (try (refine AnyG.skip ?_; (conv => (whnf)))))))); exact Wk.rfl) ?_; ((conv => (whnf)); (try (refine AnyG.skip ?_; (conv => (whnf))))))
    )
  first
    | refine br_dec (fun h => ?_) (fun h => ?_)
    | refine br_eq (fun h => ?_) (fun h => ?_)
    | refine br_ne (fun h => ?_) (fun h => ?_)
    | refine br_neq (fun h => ?_) (fun h => ?_)
    | refine br_not (fun h => ?_) (fun h => ?_)
    | refine Br.mk (fun h => ?_) (fun h => ?_)
  all_goals (try simp only [List.length_append, List.length_cons, List.length_nil, List.length_map, List.length_take, List.length_drop, maxRow, byteRows_len, Ty.kids, Vl.kids, Vl.num] at h)
  all_goals ((conv => (whnf)); (try (refine AnyG.skip ?_; (conv => (whnf)))))
  · have ht := ht h
    subst ht
    refine ⟨_, _, WkL.rfl, WkOs.rfl, _, _, rfl, rfl, ?_⟩
    repeat (first
      | (refine rng_i64 (by omega) (by omega) ?_; ((conv => (whnf)); (try (refine AnyG.skip ?_; (conv => (whnf))))))
      | (refine rng_i64 (by dsimp only; omega) (by dsimp only; omega) ?_; ((conv => (whnf)); (try (refine AnyG.skip ?_; (conv => (whnf))))))
      | (refine rng_i64 (by (try simp only [List.length_append, List.length_cons, List.length_nil, List.length_map, List.length_take, List.length_drop, maxRow, byteRows_len, Ty.kids, Vl.kids, Vl.num]); omega) (by (try simp only [List.length_append, List.length_cons, List.length_nil, List.length_map, List.length_take, List.length_drop, maxRow, byteRows_len, Ty.kids, Vl.kids, Vl.num]); omega) ?_; ((conv => (whnf)); (try (refine AnyG.skip ?_; (conv => (whnf))))))
      | (refine Req.mk (Nat.le_of_ble_eq_true rfl) ?_; ((conv => (whnf)); (try (refine AnyG.skip ?_; (conv => (whnf))))))
      | (refine Req.mk (by omega) ?_; ((conv => (whnf)); (try (refine AnyG.skip ?_; (conv => (whnf))))))
      | (refine Req.mk (by (try simp only [List.length_append, List.length_cons, List.length_nil, List.length_map, List.length_take, List.length_drop, maxRow, byteRows_len, Ty.kids, Vl.kids, Vl.num]); omega) ?_; ((conv => (whnf)); (try (refine AnyG.skip ?_; (conv => (whnf))))))
      | (refine rng_u8 (by omega) (by omega) ?_; ((conv => (whnf)); (try (refine AnyG.skip ?_; (conv => (whnf))))))
      | (refine Req.mk (by (((conv => (whnf)); (try (refine AnyG.skip ?_; (conv => (whnf)))))); (repeat (first | (refine rng_i64 (by omega) (by omega) ?_; ((conv => (whnf)); (try (refine AnyG.skip ?_; (conv => (whnf)))))) | (refine rng_i64 (by dsimp only; omega) (by dsimp only; omega) ?_; ((conv => (whnf)); (try (refine AnyG.skip ?_; (conv => (whnf)))))) | (refine rng_i64 (by (try simp only [List.length_append, List.length_cons, List.length_nil, List.length_map, List.length_take, List.length_drop, maxRow, byteRows_len, Ty.kids, Vl.kids, Vl.num]); omega) (by (try simp only [List.length_append, List.length_cons, List.length_nil, List.length_map, List.length_take, List.length_drop, maxRow, byteRows_len, Ty.kids, Vl.kids, Vl.num]); omega) ?_; ((conv => (whnf)); (try (refine AnyG.skip ?_; (conv => (whnf)))))) | (refine Req.mk (Nat.le_of_ble_eq_true rfl) ?_; ((conv => (whnf)); (try (refine AnyG.skip ?_; (conv => (whnf)))))) | (refine Req.mk (by omega) ?_; ((conv => (whnf)); (try (refine AnyG.skip ?_; (conv => (whnf)))))) | (refine Req.mk (by (try simp only [List.length_append, List.length_cons, List.length_nil, List.length_map, List.length_take, List.length_drop, maxRow, byteRows_len, Ty.kids, Vl.kids, Vl.num]); omega) ?_; ((conv => (whnf)); (try (refine AnyG.skip ?_; (conv => (whnf)))))) | (refine rng_u8 (by omega) (by omega) ?_; ((conv => (whnf)); (try (refine AnyG.skip ?_; (conv => (whnf)))))))); exact Wk.rfl) ?_; ((conv => (whnf)); (try (refine AnyG.skip ?_; (conv => (whnf))))))
      )
    refine endK ⟨[], ⟨rfl, rfl⟩, ?_⟩
    ((conv => (whnf)); (try (refine AnyG.skip ?_; (conv => (whnf)))))
    refine ⟨_, _, Wk.of_eq ?_, WkOs.rfl, hQ⟩
    obtain ⟨k1, k2⟩ := key.1 h
    rw [k1, k2]; rfl
  · refine endK ⟨[], ⟨rfl, rfl⟩, ?_⟩
    ((conv => (whnf)); (try (refine AnyG.skip ?_; (conv => (whnf)))))
    refine ⟨_, _, Wk.of_eq ?_, WkOs.rfl, hQ⟩
    rw [key.2 h]

/-- spec.l1Show -/
def S_s_l1Show (n : Nat) : Spec := fun args O Q => ∃ (m : Nat) (v : Vl), args = [aVl v] ∧ O = [] ∧ m < n ∧ n ≤ 10 ∧ (vt m v).2 = true ∧ Q (.d (.s (vw m v))) []
theorem v_s_l1Show {B : World} : ∀ n, Valid PG B s_l1Show (S_s_l1Show n) := by
  refine valid_lt (fun args O Q ⟨m, t, _, _, h1, _⟩ => by omega) fun n ih => ?_
  refine valid_of (Γ := [(s_l1Show, ⟨[], S_s_l1Show n⟩), (s_l6Dec, ⟨[], S_s_l6Dec 100000⟩)]) wide tok ((AllValid.nil.cons (v_s_l6Dec 100000)).cons ih) g_s_l1Show rfl rfl ?_
  rintro _ _ Q ⟨m, ⟨k, ks⟩, rfl, rfl, hm, hn, hok, hQ⟩
  obtain ⟨j, rfl, ⟨rfl, h0, h1⟩ | ⟨a, b, rfl, _, h1, h2⟩⟩ := vt_kids hok
  · ((conv => (whnf)); (try (refine AnyG.skip ?_; (conv => (whnf)))))
    first
      | refine br_dec (fun h => ?_) (fun h => ?_)
      | refine br_eq (fun h => ?_) (fun h => ?_)
      | refine br_ne (fun h => ?_) (fun h => ?_)
      | refine br_neq (fun h => ?_) (fun h => ?_)
      | refine br_not (fun h => ?_) (fun h => ?_)
      | refine Br.mk (fun h => ?_) (fun h => ?_)
    all_goals (try simp only [List.length_append, List.length_cons, List.length_nil, List.length_map, List.length_take, List.length_drop, maxRow, byteRows_len, Ty.kids, Vl.kids, Vl.num] at h)
    all_goals ((conv => (whnf)); (try (refine AnyG.skip ?_; (conv => (whnf)))))
    · refine ⟨_, _, WkL.rfl, WkOs.rfl, k, rfl, rfl, by omega, by omega, by omega, ?_⟩
      repeat (first
        | (refine rng_i64 (by omega) (by omega) ?_; ((conv => (whnf)); (try (refine AnyG.skip ?_; (conv => (whnf))))))
        | (refine rng_i64 (by dsimp only; omega) (by dsimp only; omega) ?_; ((conv => (whnf)); (try (refine AnyG.skip ?_; (conv => (whnf))))))
        | (refine rng_i64 (by (try simp only [List.length_append, List.length_cons, List.length_nil, List.length_map, List.length_take, List.length_drop, maxRow, byteRows_len, Ty.kids, Vl.kids, Vl.num]); omega) (by (try simp only [List.length_append, List.length_cons, List.length_nil, List.length_map, List.length_take, List.length_drop, maxRow, byteRows_len, Ty.kids, Vl.kids, Vl.num]); omega) ?_; ((conv => (whnf)); (try (refine AnyG.skip ?_; (conv => (whnf))))))
        | (refine Req.mk (Nat.le_of_ble_eq_true rfl) ?_; ((conv => (whnf)); (try (refine AnyG.skip ?_; (conv => (whnf))))))
        | (refine Req.mk (by omega) ?_; ((conv => (whnf)); (try (refine AnyG.skip ?_; (conv => (whnf))))))
        | (refine Req.mk (by (try simp only [List.length_append, List.length_cons, List.length_nil, List.length_map, List.length_take, List.length_drop, maxRow, byteRows_len, Ty.kids, Vl.kids, Vl.num]); omega) ?_; ((conv => (whnf)); (try (refine AnyG.skip ?_; (conv => (whnf))))))
        | (refine rng_u8 (by omega) (by omega) ?_; ((conv => (whnf)); (try (refine AnyG.skip ?_; (conv => (whnf))))))
        | (refine Req.mk (by (((conv => (whnf)); (try (refine AnyG.skip ?_; (conv => (whnf)))))); (repeat (first | (refine rng_i64 (by omega) (by omega) ?_; ((conv => (whnf)); (try (refine AnyG.skip ?_; (conv => (whnf)))))) | (refine rng_i64 (by dsimp only; omega) (by dsimp only; omega) ?_; ((conv => (whnf)); (try (refine AnyG.skip ?_; (conv => (whnf)))))) | (refine rng_i64 (by (try simp only [List.length_append, List.length_cons, List.length_nil, List.length_map, List.length_take, List.length_drop, maxRow, byteRows_len, Ty.kids, Vl.kids, Vl.num]); omega) (by (try simp only [List.length_append, List.length_cons, List.length_nil, List.length_map, List.length_take, List.length_drop, maxRow, byteRows_len, Ty.kids, Vl.kids, Vl.num]); omega) ?_; ((conv => (whnf)); (try (refine AnyG.skip ?_; (conv => (whnf)))))) | (refine Req.mk (Nat.le_of_ble_eq_true rfl) ?_; ((conv => (whnf)); (try (refine AnyG.skip ?_; (conv => (whnf)))))) | (refine Req.mk (by omega) ?_; ((conv => (whnf)); (try (refine AnyG.skip ?_; (conv => (whnf)))))) | (refine Req.mk (by (try simp only [List.length_append, List.length_cons, List.length_nil, List.length_map, List.length_take, List.length_drop, maxRow, byteRows_len, Ty.kids, Vl.kids, Vl.num]); omega) ?_; ((conv => (whnf)); (try (refine AnyG.skip ?_; (conv => (whnf)))))) | (refine rng_u8 (by omega) (by omega) ?_; ((conv => (whnf)); (try (refine AnyG.skip ?_; (conv => (whnf)))))))); exact Wk.rfl) ?_; ((conv => (whnf)); (try (refine AnyG.skip ?_; (conv => (whnf))))))
        )
      refine endK ⟨[], ⟨rfl, rfl⟩, ?_⟩
      ((conv => (whnf)); (try (refine AnyG.skip ?_; (conv => (whnf)))))
      refine ⟨_, _, Wk.of_eq ?_, WkOs.rfl, hQ⟩
      rw [vw, itoa_nat h0]
    · simp at h
  · have l1 := vw_len j a h1
    have l2 := vw_len j b h2
    have l3 := Lw_le (m := j) (by omega)
    ((conv => (whnf)); (try (refine AnyG.skip ?_; (conv => (whnf)))))
    first
      | refine br_dec (fun h => ?_) (fun h => ?_)
      | refine br_eq (fun h => ?_) (fun h => ?_)
      | refine br_ne (fun h => ?_) (fun h => ?_)
      | refine br_neq (fun h => ?_) (fun h => ?_)
      | refine br_not (fun h => ?_) (fun h => ?_)
      | refine Br.mk (fun h => ?_) (fun h => ?_)
    all_goals (try simp only [List.length_append, List.length_cons, List.length_nil, List.length_map, List.length_take, List.length_drop, maxRow, byteRows_len, Ty.kids, Vl.kids, Vl.num] at h)
    all_goals ((conv => (whnf)); (try (refine AnyG.skip ?_; (conv => (whnf)))))
    · simp at h
    try refine Req.mk (by omega) ?_
    refine ⟨dVl a, rfl, ?_⟩
    rw [dVl_eq]
    ((conv => (whnf)); (try (refine AnyG.skip ?_; (conv => (whnf)))))
    try refine Req.mk (by omega) ?_
    refine ⟨dVl b, rfl, ?_⟩
    rw [dVl_eq]
    ((conv => (whnf)); (try (refine AnyG.skip ?_; (conv => (whnf)))))
    refine ⟨_, _, WkL.rfl, WkOs.rfl, _, a, rfl, rfl, by omega, by omega, h1, ?_⟩
    repeat (first
      | (refine rng_i64 (by omega) (by omega) ?_; ((conv => (whnf)); (try (refine AnyG.skip ?_; (conv => (whnf))))))
      | (refine rng_i64 (by dsimp only; omega) (by dsimp only; omega) ?_; ((conv => (whnf)); (try (refine AnyG.skip ?_; (conv => (whnf))))))
      | (refine rng_i64 (by (try simp only [List.length_append, List.length_cons, List.length_nil, List.length_map, List.length_take, List.length_drop, maxRow, byteRows_len, Ty.kids, Vl.kids, Vl.num]); omega) (by (try simp only [List.length_append, List.length_cons, List.length_nil, List.length_map, List.length_take, List.length_drop, maxRow, byteRows_len, Ty.kids, Vl.kids, Vl.num]); omega) ?_; ((conv => (whnf)); (try (refine AnyG.skip ?_; (conv => (whnf))))))
      | (refine Req.mk (Nat.le_of_ble_eq_true rfl) ?_; ((conv => (whnf)); (try (refine AnyG.skip ?_; (conv => (whnf))))))
      | (refine Req.mk (by omega) ?_; ((conv => (whnf)); (try (refine AnyG.skip ?_; (conv => (whnf))))))
      | (refine Req.mk (by (try simp only [List.length_append, List.length_cons, List.length_nil, List.length_map, List.length_take, List.length_drop, maxRow, byteRows_len, Ty.kids, Vl.kids, Vl.num]); omega) ?_; ((conv => (whnf)); (try (refine AnyG.skip ?_; (conv => (whnf))))))
      | (refine rng_u8 (by omega) (by omega) ?_; ((conv => (whnf)); (try (refine AnyG.skip ?_; (conv => (whnf))))))
      | (refine Req.mk (by (((conv => (whnf)); (try (refine AnyG.skip ?_; (conv => (whnf)))))); (repeat (first | (refine rng_i64 (by omega) (by omega) ?_; ((conv => (whnf)); (try (refine AnyG.skip ?_; (conv => (whnf)))))) | (refine rng_i64 (by dsimp only; omega) (by dsimp only; omega) ?_; ((conv => (whnf)); (try (refine AnyG.skip ?_; (conv => (whnf)))))) | (refine rng_i64 (by (try simp only [List.length_append, List.length_cons, List.length_nil, List.length_map, List.length_take, List.length_drop, maxRow, byteRows_len, Ty.kids, Vl.kids, Vl.num]); omega) (by (try simp only [List.length_append, List.length_cons, List.length_nil, List.length_map, List.length_take, List.length_drop, maxRow, byteRows_len, Ty.kids, Vl.kids, Vl.num]); omega) ?_; ((conv => (whnf)); (try (refine AnyG.skip ?_; (conv => (whnf)))))) | (refine Req.mk (Nat.le_of_ble_eq_true rfl) ?_; ((conv => (whnf)); (try (refine AnyG.skip ?_; (conv => (whnf)))))) | (refine Req.mk (by omega) ?_; ((conv => (whnf)); (try (refine AnyG.skip ?_; (conv => (whnf)))))) | (refine Req.mk (by (try simp only [List.length_append, List.length_cons, List.length_nil, List.length_map, List.length_take, List.length_drop, maxRow, byteRows_len, Ty.kids, Vl.kids, Vl.num]); omega) ?_; ((conv => (whnf)); (try (refine AnyG.skip ?_; (conv => (whnf)))))) | (refine rng_u8 (by omega) (by omega) ?_; ((conv => (whnf)); (try (refine AnyG.skip ?_; (conv => (whnf)))))))); exact Wk.rfl) ?_; ((conv => (whnf)); (try (refine AnyG.skip ?_; (conv => (whnf))))))
      )
    refine Req.mk (by (((conv => (whnf)); (try (refine AnyG.skip ?_; (conv => (whnf)))))); refine Req.mk (by omega) ?_; refine ⟨dVl b, rfl, ?_⟩; rw [dVl_eq]; (((conv => (whnf)); (try (refine AnyG.skip ?_; (conv => (whnf)))))); exact Wk.rfl) ?_
    ((conv => (whnf)); (try (refine AnyG.skip ?_; (conv => (whnf)))))
    repeat (first
      | (refine rng_i64 (by omega) (by omega) ?_; ((conv => (whnf)); (try (refine AnyG.skip ?_; (conv => (whnf))))))
      | (refine rng_i64 (by dsimp only; omega) (by dsimp only; omega) ?_; ((conv => (whnf)); (try (refine AnyG.skip ?_; (conv => (whnf))))))
      | (refine rng_i64 (by (try simp only [List.length_append, List.length_cons, List.length_nil, List.length_map, List.length_take, List.length_drop, maxRow, byteRows_len, Ty.kids, Vl.kids, Vl.num]); omega) (by (try simp only [List.length_append, List.length_cons, List.length_nil, List.length_map, List.length_take, List.length_drop, maxRow, byteRows_len, Ty.kids, Vl.kids, Vl.num]); omega) ?_; ((conv => (whnf)); (try (refine AnyG.skip ?_; (conv => (whnf))))))
      | (refine Req.mk (Nat.le_of_ble_eq_true rfl) ?_; ((conv => (whnf)); (try (refine AnyG.skip ?_; (conv => (whnf))))))
      | (refine Req.mk (by omega) ?_; ((conv => (whnf)); (try (refine AnyG.skip ?_; (conv => (whnf))))))
      | (refine Req.mk (by (try simp only [List.length_append, List.length_cons, List.length_nil, List.length_map, List.length_take, List.length_drop, maxRow, byteRows_len, Ty.kids, Vl.kids, Vl.num]); omega) ?_; ((conv => (whnf)); (try (refine AnyG.skip ?_; (conv => (whnf))))))
      | (refine rng_u8 (by omega) (by omega) ?_; ((conv => (whnf)); (try (refine AnyG.skip ?_; (conv => (whnf))))))
      | (refine Req.mk (by (((conv => (whnf)); (try (refine AnyG.skip ?_; (conv => (whnf)))))); (repeat (first | (refine rng_i64 (by omega) (by omega) ?_; ((conv => (whnf)); (try (refine AnyG.skip ?_; (conv => (whnf)))))) | (refine rng_i64 (by dsimp only; omega) (by dsimp only; omega) ?_; ((conv => (whnf)); (try (refine AnyG.skip ?_; (conv => (whnf)))))) | (refine rng_i64 (by (try simp only [List.length_append, List.length_cons, List.length_nil, List.length_map, List.length_take, List.length_drop, maxRow, byteRows_len, Ty.kids, Vl.kids, Vl.num]); omega) (by (try simp only [List.length_append, List.length_cons, List.length_nil, List.length_map, List.length_take, List.length_drop, maxRow, byteRows_len, Ty.kids, Vl.kids, Vl.num]); omega) ?_; ((conv => (whnf)); (try (refine AnyG.skip ?_; (conv => (whnf)))))) | (refine Req.mk (Nat.le_of_ble_eq_true rfl) ?_; ((conv => (whnf)); (try (refine AnyG.skip ?_; (conv => (whnf)))))) | (refine Req.mk (by omega) ?_; ((conv => (whnf)); (try (refine AnyG.skip ?_; (conv => (whnf)))))) | (refine Req.mk (by (try simp only [List.length_append, List.length_cons, List.length_nil, List.length_map, List.length_take, List.length_drop, maxRow, byteRows_len, Ty.kids, Vl.kids, Vl.num]); omega) ?_; ((conv => (whnf)); (try (refine AnyG.skip ?_; (conv => (whnf)))))) | (refine rng_u8 (by omega) (by omega) ?_; ((conv => (whnf)); (try (refine AnyG.skip ?_; (conv => (whnf)))))))); exact Wk.rfl) ?_; ((conv => (whnf)); (try (refine AnyG.skip ?_; (conv => (whnf))))))
      )
    refine ⟨_, _, WkL.rfl, WkOs.rfl, _, b, rfl, rfl, by omega, by omega, h2, ?_⟩
    repeat (first
      | (refine rng_i64 (by omega) (by omega) ?_; ((conv => (whnf)); (try (refine AnyG.skip ?_; (conv => (whnf))))))
      | (refine rng_i64 (by dsimp only; omega) (by dsimp only; omega) ?_; ((conv => (whnf)); (try (refine AnyG.skip ?_; (conv => (whnf))))))
      | (refine rng_i64 (by (try simp only [List.length_append, List.length_cons, List.length_nil, List.length_map, List.length_take, List.length_drop, maxRow, byteRows_len, Ty.kids, Vl.kids, Vl.num]); omega) (by (try simp only [List.length_append, List.length_cons, List.length_nil, List.length_map, List.length_take, List.length_drop, maxRow, byteRows_len, Ty.kids, Vl.kids, Vl.num]); omega) ?_; ((conv => (whnf)); (try (refine AnyG.skip ?_; (conv => (whnf))))))
      | (refine Req.mk (Nat.le_of_ble_eq_true rfl) ?_; ((conv => (whnf)); (try (refine AnyG.skip ?_; (conv => (whnf))))))
      | (refine Req.mk (by omega) ?_; ((conv => (whnf)); (try (refine AnyG.skip ?_; (conv => (whnf))))))
      | (refine Req.mk (by (try simp only [List.length_append, List.length_cons, List.length_nil, List.length_map, List.length_take, List.length_drop, maxRow, byteRows_len, Ty.kids, Vl.kids, Vl.num]); omega) ?_; ((conv => (whnf)); (try (refine AnyG.skip ?_; (conv => (whnf))))))
      | (refine rng_u8 (by omega) (by omega) ?_; ((conv => (whnf)); (try (refine AnyG.skip ?_; (conv => (whnf))))))
      | (refine Req.mk (by (((conv => (whnf)); (try (refine AnyG.skip ?_; (conv => (whnf)))))); (repeat (first | (refine rng_i64 (by omega) (by omega) ?_; ((conv => (whnf)); (try (refine AnyG.skip ?_; (conv => (whnf)))))) | (refine rng_i64 (by dsimp only; omega) (by dsimp only; omega) ?_; ((conv => (whnf)); (try (refine AnyG.skip ?_; (conv => (whnf)))))) | (refine rng_i64 (by (try simp only [List.length_append, List.length_cons, List.length_nil, List.length_map, List.length_take, List.length_drop, maxRow, byteRows_len, Ty.kids, Vl.kids, Vl.num]); omega) (by (try simp only [List.length_append, List.length_cons, List.length_nil, List.length_map, List.length_take, List.length_drop, maxRow, byteRows_len, Ty.kids, Vl.kids, Vl.num]); omega) ?_; ((conv => (whnf)); (try (refine AnyG.skip ?_; (conv => (whnf)))))) | (refine Req.mk (Nat.le_of_ble_eq_true rfl) ?_; ((conv => (whnf)); (try (refine AnyG.skip ?_; (conv => (whnf)))))) | (refine Req.mk (by omega) ?_; ((conv => (whnf)); (try (refine AnyG.skip ?_; (conv => (whnf)))))) | (refine Req.mk (by (try simp only [List.length_append, List.length_cons, List.length_nil, List.length_map, List.length_take, List.length_drop, maxRow, byteRows_len, Ty.kids, Vl.kids, Vl.num]); omega) ?_; ((conv => (whnf)); (try (refine AnyG.skip ?_; (conv => (whnf)))))) | (refine rng_u8 (by omega) (by omega) ?_; ((conv => (whnf)); (try (refine AnyG.skip ?_; (conv => (whnf)))))))); exact Wk.rfl) ?_; ((conv => (whnf)); (try (refine AnyG.skip ?_; (conv => (whnf))))))
      )
    refine endK ⟨[], ⟨rfl, rfl⟩, ?_⟩
    ((conv => (whnf)); (try (refine AnyG.skip ?_; (conv => (whnf)))))
    exact ⟨_, _, Wk.rfl, WkOs.rfl, hQ⟩

/-- spec.ValText -/
theorem v_s_ValText {B : World} : Valid PG B s_ValText S_i_ValText := by
  refine valid_of (Γ := [(s_l1Any, ⟨[], S_s_l1Any⟩), (s_l1Show, ⟨[], S_s_l1Show 10⟩)]) wide tok ((AllValid.nil.cons (v_s_l1Show 10)).cons v_s_l1Any) g_s_ValText rfl rfl ?_
  rintro _ _ Q ⟨v, rfl, rfl, hQ⟩
  ((conv => (whnf)); (try (refine AnyG.skip ?_; (conv => (whnf)))))
  refine ⟨_, _, WkL.rfl, WkOs.rfl, v, rfl, rfl, ?_⟩
  repeat (first
    | (refine rng_i64 (by omega) (by omega) ?_; ((conv => (whnf)); (try (refine AnyG.skip ?_; (conv => (whnf))))))
    | (refine rng_i64 (by dsimp only; omega) (by dsimp only; omega) ?_; ((conv => (whnf)); (try (refine AnyG.skip ?_; (conv => (whnf))))))
    | (refine rng_i64 (by (try simp only [List.length_append, List.length_cons, List.length_nil, List.length_map, List.length_take, List.length_drop, maxRow, byteRows_len, Ty.kids, Vl.kids, Vl.num]); omega) (by (try simp only [List.length_append, List.length_cons, List.length_nil, List.length_map, List.length_take, List.length_drop, maxRow, byteRows_len, Ty.kids, Vl.kids, Vl.num]); omega) ?_; ((conv => (whnf)); (try (refine AnyG.skip ?_; (conv => (whnf))))))
    | (refine Req.mk (Nat.le_of_ble_eq_true rfl) ?_; ((conv => (whnf)); (try (refine AnyG.skip ?_; (conv => (whnf))))))
    | (refine Req.mk (by omega) ?_; ((conv => (whnf)); (try (refine AnyG.skip ?_; (conv => (whnf))))))
    | (refine Req.mk (by (try simp only [List.length_append, List.length_cons, List.length_nil, List.length_map, List.length_take, List.length_drop, maxRow, byteRows_len, Ty.kids, Vl.kids, Vl.num]); omega) ?_; ((conv => (whnf)); (try (refine AnyG.skip ?_; (conv => (whnf))))))
    | (refine rng_u8 (by omega) (by omega) ?_; ((conv => (whnf)); (try (refine AnyG.skip ?_; (conv => (whnf))))))
    | (refine Req.mk (by (((conv => (whnf)); (try (refine AnyG.skip ?_; (conv => (whnf)))))); (repeat (first | (refine rng_i64 (by omega) (by omega) ?_; ((conv => (whnf)); (try (refine AnyG.skip ?_; (conv => (whnf)))))) | (refine rng_i64 (by dsimp only; omega) (by dsimp only; omega) ?_; ((conv => (whnf)); (try (refine AnyG.skip ?_; (conv => (whnf)))))) | (refine rng_i64 (by (try simp only [List.length_append, List.length_cons, List.length_nil, List.length_map, List.length_take, List.length_drop, maxRow, byteRows_len, Ty.kids, Vl.kids, Vl.num]); omega) (by (try simp only [List.length_append, List.length_cons, List.length_nil, List.length_map, List.length_take, List.length_drop, maxRow, byteRows_len, Ty.kids, Vl.kids, Vl.num]); omega) ?_; ((conv => (whnf)); (try (refine AnyG.skip ?_; (conv => (whnf)))))) | (refine Req.mk (Nat.le_of_ble_eq_true rfl) ?_; ((conv => (whnf)); (try (refine AnyG.skip ?_; (conv => (whnf)))))) | (refine Req.mk (by omega) ?_; ((conv => (whnf)); (try (refine AnyG.skip ?_; (conv => (whnf)))))) | (refine Req.mk (by (try simp only [List.length_append, List.length_cons, List.length_nil, List.length_map, List.length_take, List.length_drop, maxRow, byteRows_len, Ty.kids, Vl.kids, Vl.num]); omega) ?_; ((conv => (whnf)); (try (refine AnyG.skip ?_; (conv => (whnf)))))) | (refine rng_u8 (by omega) (by omega) ?_; ((conv => (whnf)); (try (refine AnyG.skip ?_; (conv => (whnf)))))))); exact Wk.rfl) ?_; ((conv => (whnf)); (try (refine AnyG.skip ?_; (conv => (whnf))))))
    )
  first
    | refine br_dec (fun h => ?_) (fun h => ?_)
    | refine br_eq (fun h => ?_) (fun h => ?_)
    | refine br_ne (fun h => ?_) (fun h => ?_)
    | refine br_neq (fun h => ?_) (fun h => ?_)
    | refine br_not (fun h => ?_) (fun h => ?_)
    | refine Br.mk (fun h => ?_) (fun h => ?_)
  all_goals (try simp only [List.length_append, List.length_cons, List.length_nil, List.length_map, List.length_take, List.length_drop, maxRow, byteRows_len, Ty.kids, Vl.kids, Vl.num] at h)
  all_goals ((conv => (whnf)); (try (refine AnyG.skip ?_; (conv => (whnf)))))
  · refine endK ⟨[], ⟨rfl, rfl⟩, ?_⟩
    ((conv => (whnf)); (try (refine AnyG.skip ?_; (conv => (whnf)))))
    refine ⟨_, _, Wk.of_eq ?_, WkOs.rfl, hQ⟩
    simp [valText, h]
  · refine ⟨_, _, WkL.rfl, WkOs.rfl, 4, v, rfl, rfl, by omega, by omega, h, ?_⟩
    repeat (first
      | (refine rng_i64 (by omega) (by omega) ?_; ((conv => (whnf)); (try (refine AnyG.skip ?_; (conv => (whnf))))))
      | (refine rng_i64 (by dsimp only; omega) (by dsimp only; omega) ?_; ((conv => (whnf)); (try (refine AnyG.skip ?_; (conv => (whnf))))))
      | (refine rng_i64 (by (try simp only [List.length_append, List.length_cons, List.length_nil, List.length_map, List.length_take, List.length_drop, maxRow, byteRows_len, Ty.kids, Vl.kids, Vl.num]); omega) (by (try simp only [List.length_append, List.length_cons, List.length_nil, List.length_map, List.length_take, List.length_drop, maxRow, byteRows_len, Ty.kids, Vl.kids, Vl.num]); omega) ?_; ((conv => (whnf)); (try (refine AnyG.skip ?_; (conv => (whnf))))))
      | (refine Req.mk (Nat.le_of_ble_eq_true rfl) ?_; ((conv => (whnf)); (try (refine AnyG.skip ?_; (conv => (whnf))))))
      | (refine Req.mk (by omega) ?_; ((conv => (whnf)); (try (refine AnyG.skip ?_; (conv => (whnf))))))
      | (refine Req.mk (by (try simp only [List.length_append, List.length_cons, List.length_nil, List.length_map, List.length_take, List.length_drop, maxRow, byteRows_len, Ty.kids, Vl.kids, Vl.num]); omega) ?_; ((conv => (whnf)); (try (refine AnyG.skip ?_; (conv => (whnf))))))
      | (refine rng_u8 (by omega) (by omega) ?_; ((conv => (whnf)); (try (refine AnyG.skip ?_; (conv => (whnf))))))
      | (refine Req.mk (by (((conv => (whnf)); (try (refine AnyG.skip ?_; (conv => (whnf)))))); (repeat (first | (refine rng_i64 (by omega) (by omega) ?_; ((conv => (whnf)); (try (refine AnyG.skip ?_; (conv => (whnf)))))) | (refine rng_i64 (by dsimp only; omega) (by dsimp only; omega) ?_; ((conv => (whnf)); (try (refine AnyG.skip ?_; (conv => (whnf)))))) | (refine rng_i64 (by (try simp only [List.length_append, List.length_cons, List.length_nil, List.length_map, List.length_take, List.length_drop, maxRow, byteRows_len, Ty.kids, Vl.kids, Vl.num]); omega) (by (try simp only [List.length_append, List.length_cons, List.length_nil, List.length_map, List.length_take, List.length_drop, maxRow, byteRows_len, Ty.kids, Vl.kids, Vl.num]); omega) ?_; ((conv => (whnf)); (try (refine AnyG.skip ?_; (conv => (whnf)))))) | (refine Req.mk (Nat.le_of_ble_eq_true rfl) ?_; ((conv => (whnf)); (try (refine AnyG.skip ?_; (conv => (whnf)))))) | (refine Req.mk (by omega) ?_; ((conv => (whnf)); (try (refine AnyG.skip ?_; (conv => (whnf)))))) | (refine Req.mk (by (try simp only [List.length_append, List.length_cons, List.length_nil, List.length_map, List.length_take, List.length_drop, maxRow, byteRows_len, Ty.kids, Vl.kids, Vl.num]); omega) ?_; ((conv => (whnf)); (try (refine AnyG.skip ?_; (conv => (whnf)))))) | (refine rng_u8 (by omega) (by omega) ?_; ((conv => (whnf)); (try (refine AnyG.skip ?_; (conv => (whnf)))))))); exact Wk.rfl) ?_; ((conv => (whnf)); (try (refine AnyG.skip ?_; (conv => (whnf))))))
      )
    refine endK ⟨[], ⟨rfl, rfl⟩, ?_⟩
    ((conv => (whnf)); (try (refine AnyG.skip ?_; (conv => (whnf)))))
    refine ⟨_, _, Wk.of_eq ?_, WkOs.rfl, hQ⟩
    simp [valText, h]
end Ab
