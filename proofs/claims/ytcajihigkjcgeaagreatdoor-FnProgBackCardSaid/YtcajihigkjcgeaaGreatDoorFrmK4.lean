/- The reference's words for what is in form: statements of kind 4. -/
import Derived.Test.YtcajihigkjcgeaaGreatDoorSyn
import Derived.Test.YtcajihigkjcgeaaGreatDoorFrm
set_option linter.all false
namespace Ab
open Go Go.Proofs
set_option maxRecDepth 10000
set_option maxHeartbeats 4000000
set_option linter.all false

theorem v_st4 {B : World} {n : Nat} (hb : Valid PG B s_l2Body (S_s_l2Body n)) : Valid PG B s_l2Stmt (S_stK (· = 4) (n + 1)) := by
  refine valid_of (Γ := [(s_l2Place, ⟨[], S_s_l2Place⟩), (s_l2NoExpr, ⟨[], S_s_l2NoExpr⟩), (s_l2None, ⟨[], S_s_l2None⟩), (s_l2Expr, ⟨[], S_s_l2Expr 10⟩), (s_l2Name, ⟨[], S_s_l2Name⟩), (s_l2Args, ⟨[], S_s_l2Args⟩), (s_l6In, ⟨[], S_s_l6In⟩), (s_l2Body, ⟨[], S_s_l2Body n⟩)]) wide tok ((((((((AllValid.nil.cons hb).cons v_s_l6In).cons v_s_l2Args).cons v_s_l2Name).cons (v_s_l2Expr 10)).cons v_s_l2None).cons v_s_l2NoExpr).cons v_s_l2Place) g_s_l2Stmt rfl rfl ?_
  rintro _ _ Q ⟨⟨k, nm, p, o, x, f, ar, t, e⟩, d, rfl, rfl, hd0, hdn, hn, hB, hk, hQ⟩
  obtain ⟨D, hD⟩ : ∃ D, d.toNat = D + 1 := ⟨d.toNat - 1, by omega⟩
  have hD1 : (d - 1).toNat = D := by omega
  rw [hD] at hQ hB
  obtain ⟨b1, b2, b3, b4⟩ := hB
  have fin : ∀ b : Bool, stFm (D + 1) (.mk k nm p o x f ar t e) = b → wkQ Q (bv b) [] := fun b h => ⟨_, _, Wk.rfl, WkOs.rfl, by subst h; exact hQ⟩
  clear hQ
  have el : ((t.map dSt).length : Int) + ((e.map dSt).length : Int) ≤ 10000000 := by simp; omega
  have el0 : (0 : Int) ≤ ((t.map dSt).length : Int) + ((e.map dSt).length : Int) := by simp; omega
  have em : (((t.map dSt).length : Int) + ((e.map dSt).length : Int) == 0) = (t.isEmpty && e.isEmpty) := by rw [List.length_map, List.length_map, len00]
  have ea : ((ar.map dAr).length : Int) > 0 → ar.isEmpty = false := fun h => by cases ar with | nil => simp at h | cons => rfl
  have en : ¬ ((ar.map dAr).length : Int) > 0 → ar = [] := fun h => by cases ar with | nil => rfl | cons => exact absurd (by simp) h
  · have hk : k = 4 := hk
    subst hk
    refine wG ?_
    repeat' (first
      | refine stG1 ?_
      | (refine Br.yes rfl ?_; refine wG ?_)
      | (refine Br.no rfl ?_; refine wG ?_)
      | (refine ⟨_, _, WkL.rfl, WkOs.rfl, o, rfl, rfl, ?_⟩; refine wG ?_)
      | (refine ⟨_, _, WkL.rfl, WkOs.rfl, p, rfl, rfl, ?_⟩; refine wG ?_)
      | (refine ⟨_, _, WkL.rfl, WkOs.rfl, x, 4, rfl, rfl, by omega, by omega, by omega, ?_⟩; refine wG ?_)
      | (refine ⟨_, _, WkL.rfl, WkOs.rfl, x, rfl, rfl, ?_⟩; refine wG ?_)
      | (refine ⟨_, _, WkL.rfl, WkOs.rfl, nm, rfl, rfl, ?_⟩; refine wG ?_)
      | (refine ⟨_, _, WkL.rfl, WkOs.rfl, f, rfl, rfl, ?_⟩; refine wG ?_)
      | (refine ⟨_, _, WkL.rfl, WkOs.rfl, ar, rfl, rfl, ?_⟩; refine wG ?_)
      | (refine ⟨_, _, WkL.rfl, WkOs.rfl, 4, 1, 6, rfl, rfl, ?_⟩; refine wG ?_)
      | (refine rng_i64 (Int.le_trans (by decide) el0) (Int.le_trans el (by decide)) ?_; (((conv => (whnf)); (try (refine AnyG.skip ?_; (conv => (whnf)))))))
      | (refine br_dec (fun h => ?_) (fun h => ?_) <;> refine wG ?_)
      | (refine br_eq (fun h => ?_) (fun h => ?_) <;> refine wG ?_)
      | (refine br_ne (fun h => ?_) (fun h => ?_) <;> refine wG ?_)
      | (refine br_neq (fun h => ?_) (fun h => ?_) <;> refine wG ?_)
      | (refine br_not (fun h => ?_) (fun h => ?_) <;> refine wG ?_)
      | (refine Br.mk (fun h => ?_) (fun h => ?_) <;> refine wG ?_)
      | (refine endK ⟨[], ⟨rfl, rfl⟩, ?_⟩; refine wG ?_; refine fin _ ?_)
      )
    all_goals rw [stFm_4]
    all_goals (try simp_all [St.kind, St.name, St.fn, St.args, St.thn, St.els, St.pl, St.other, St.ex])
    all_goals (try (intros; subst_vars; simp_all [argsFm, nameOk]))
end Ab

/- The reference's words for what is in form: statements of kind 5. -/
namespace Ab
open Go Go.Proofs
set_option maxRecDepth 10000
set_option maxHeartbeats 4000000
set_option linter.all false

theorem v_st5 {B : World} {n : Nat} (hb : Valid PG B s_l2Body (S_s_l2Body n)) : Valid PG B s_l2Stmt (S_stK (· = 5) (n + 1)) := by
  refine valid_of (Γ := [(s_l2Place, ⟨[], S_s_l2Place⟩), (s_l2NoExpr, ⟨[], S_s_l2NoExpr⟩), (s_l2None, ⟨[], S_s_l2None⟩), (s_l2Expr, ⟨[], S_s_l2Expr 10⟩), (s_l2Name, ⟨[], S_s_l2Name⟩), (s_l2Args, ⟨[], S_s_l2Args⟩), (s_l6In, ⟨[], S_s_l6In⟩), (s_l2Body, ⟨[], S_s_l2Body n⟩)]) wide tok ((((((((AllValid.nil.cons hb).cons v_s_l6In).cons v_s_l2Args).cons v_s_l2Name).cons (v_s_l2Expr 10)).cons v_s_l2None).cons v_s_l2NoExpr).cons v_s_l2Place) g_s_l2Stmt rfl rfl ?_
  rintro _ _ Q ⟨⟨k, nm, p, o, x, f, ar, t, e⟩, d, rfl, rfl, hd0, hdn, hn, hB, hk, hQ⟩
  obtain ⟨D, hD⟩ : ∃ D, d.toNat = D + 1 := ⟨d.toNat - 1, by omega⟩
  have hD1 : (d - 1).toNat = D := by omega
  rw [hD] at hQ hB
  obtain ⟨b1, b2, b3, b4⟩ := hB
  have fin : ∀ b : Bool, stFm (D + 1) (.mk k nm p o x f ar t e) = b → wkQ Q (bv b) [] := fun b h => ⟨_, _, Wk.rfl, WkOs.rfl, by subst h; exact hQ⟩
  clear hQ
  have el : ((t.map dSt).length : Int) + ((e.map dSt).length : Int) ≤ 10000000 := by simp; omega
  have el0 : (0 : Int) ≤ ((t.map dSt).length : Int) + ((e.map dSt).length : Int) := by simp; omega
  have em : (((t.map dSt).length : Int) + ((e.map dSt).length : Int) == 0) = (t.isEmpty && e.isEmpty) := by rw [List.length_map, List.length_map, len00]
  have ea : ((ar.map dAr).length : Int) > 0 → ar.isEmpty = false := fun h => by cases ar with | nil => simp at h | cons => rfl
  have en : ¬ ((ar.map dAr).length : Int) > 0 → ar = [] := fun h => by cases ar with | nil => rfl | cons => exact absurd (by simp) h
  · have hk : k = 5 := hk
    subst hk
    refine wG ?_
    repeat' (first
      | refine stG1 ?_
      | (refine Br.yes rfl ?_; refine wG ?_)
      | (refine Br.no rfl ?_; refine wG ?_)
      | (refine ⟨_, _, WkL.rfl, WkOs.rfl, o, rfl, rfl, ?_⟩; refine wG ?_)
      | (refine ⟨_, _, WkL.rfl, WkOs.rfl, p, rfl, rfl, ?_⟩; refine wG ?_)
      | (refine ⟨_, _, WkL.rfl, WkOs.rfl, x, 4, rfl, rfl, by omega, by omega, by omega, ?_⟩; refine wG ?_)
      | (refine ⟨_, _, WkL.rfl, WkOs.rfl, x, rfl, rfl, ?_⟩; refine wG ?_)
      | (refine ⟨_, _, WkL.rfl, WkOs.rfl, nm, rfl, rfl, ?_⟩; refine wG ?_)
      | (refine ⟨_, _, WkL.rfl, WkOs.rfl, f, rfl, rfl, ?_⟩; refine wG ?_)
      | (refine ⟨_, _, WkL.rfl, WkOs.rfl, ar, rfl, rfl, ?_⟩; refine wG ?_)
      | (refine ⟨_, _, WkL.rfl, WkOs.rfl, 5, 1, 6, rfl, rfl, ?_⟩; refine wG ?_)
      | (refine ⟨_, _, WkL.rfl, WkOs.rfl, t, d - 1, rfl, rfl, by omega, by omega, by omega, (by rw [hD1]; exact b3), ?_⟩; refine wG ?_)
      | (refine ⟨_, _, WkL.rfl, WkOs.rfl, e, d - 1, rfl, rfl, by omega, by omega, by omega, (by rw [hD1]; exact b4), ?_⟩; refine wG ?_)
      | (refine rng_i64 (Int.le_trans (by decide) el0) (Int.le_trans el (by decide)) ?_; (((conv => (whnf)); (try (refine AnyG.skip ?_; (conv => (whnf)))))))
      | (refine br_dec (fun h => ?_) (fun h => ?_) <;> refine wG ?_)
      | (refine br_eq (fun h => ?_) (fun h => ?_) <;> refine wG ?_)
      | (refine br_ne (fun h => ?_) (fun h => ?_) <;> refine wG ?_)
      | (refine br_neq (fun h => ?_) (fun h => ?_) <;> refine wG ?_)
      | (refine br_not (fun h => ?_) (fun h => ?_) <;> refine wG ?_)
      | (refine Br.mk (fun h => ?_) (fun h => ?_) <;> refine wG ?_)
      | (refine endK ⟨[], ⟨rfl, rfl⟩, ?_⟩; refine wG ?_; refine fin _ ?_)
      )
    all_goals rw [stFm_5]
    all_goals (try simp_all [St.kind, St.name, St.fn, St.args, St.thn, St.els, St.pl, St.other, St.ex])
    all_goals (try (intros; subst_vars; simp_all [argsFm, nameOk]))
end Ab

/- The reference's words for what is in form: statements of kind 6. -/
namespace Ab
open Go Go.Proofs
set_option maxRecDepth 10000
set_option maxHeartbeats 4000000
set_option linter.all false

theorem v_st6 {B : World} {n : Nat} (hb : Valid PG B s_l2Body (S_s_l2Body n)) : Valid PG B s_l2Stmt (S_stK (· = 6) (n + 1)) := by
  refine valid_of (Γ := [(s_l2Place, ⟨[], S_s_l2Place⟩), (s_l2NoExpr, ⟨[], S_s_l2NoExpr⟩), (s_l2None, ⟨[], S_s_l2None⟩), (s_l2Expr, ⟨[], S_s_l2Expr 10⟩), (s_l2Name, ⟨[], S_s_l2Name⟩), (s_l2Args, ⟨[], S_s_l2Args⟩), (s_l6In, ⟨[], S_s_l6In⟩), (s_l2Body, ⟨[], S_s_l2Body n⟩)]) wide tok ((((((((AllValid.nil.cons hb).cons v_s_l6In).cons v_s_l2Args).cons v_s_l2Name).cons (v_s_l2Expr 10)).cons v_s_l2None).cons v_s_l2NoExpr).cons v_s_l2Place) g_s_l2Stmt rfl rfl ?_
  rintro _ _ Q ⟨⟨k, nm, p, o, x, f, ar, t, e⟩, d, rfl, rfl, hd0, hdn, hn, hB, hk, hQ⟩
  obtain ⟨D, hD⟩ : ∃ D, d.toNat = D + 1 := ⟨d.toNat - 1, by omega⟩
  have hD1 : (d - 1).toNat = D := by omega
  rw [hD] at hQ hB
  obtain ⟨b1, b2, b3, b4⟩ := hB
  have fin : ∀ b : Bool, stFm (D + 1) (.mk k nm p o x f ar t e) = b → wkQ Q (bv b) [] := fun b h => ⟨_, _, Wk.rfl, WkOs.rfl, by subst h; exact hQ⟩
  clear hQ
  have el : ((t.map dSt).length : Int) + ((e.map dSt).length : Int) ≤ 10000000 := by simp; omega
  have el0 : (0 : Int) ≤ ((t.map dSt).length : Int) + ((e.map dSt).length : Int) := by simp; omega
  have em : (((t.map dSt).length : Int) + ((e.map dSt).length : Int) == 0) = (t.isEmpty && e.isEmpty) := by rw [List.length_map, List.length_map, len00]
  have ea : ((ar.map dAr).length : Int) > 0 → ar.isEmpty = false := fun h => by cases ar with | nil => simp at h | cons => rfl
  have en : ¬ ((ar.map dAr).length : Int) > 0 → ar = [] := fun h => by cases ar with | nil => rfl | cons => exact absurd (by simp) h
  · have hk : k = 6 := hk
    subst hk
    refine wG ?_
    repeat' (first
      | refine stG1 ?_
      | (refine Br.yes rfl ?_; refine wG ?_)
      | (refine Br.no rfl ?_; refine wG ?_)
      | (refine ⟨_, _, WkL.rfl, WkOs.rfl, o, rfl, rfl, ?_⟩; refine wG ?_)
      | (refine ⟨_, _, WkL.rfl, WkOs.rfl, p, rfl, rfl, ?_⟩; refine wG ?_)
      | (refine ⟨_, _, WkL.rfl, WkOs.rfl, x, 4, rfl, rfl, by omega, by omega, by omega, ?_⟩; refine wG ?_)
      | (refine ⟨_, _, WkL.rfl, WkOs.rfl, x, rfl, rfl, ?_⟩; refine wG ?_)
      | (refine ⟨_, _, WkL.rfl, WkOs.rfl, nm, rfl, rfl, ?_⟩; refine wG ?_)
      | (refine ⟨_, _, WkL.rfl, WkOs.rfl, f, rfl, rfl, ?_⟩; refine wG ?_)
      | (refine ⟨_, _, WkL.rfl, WkOs.rfl, ar, rfl, rfl, ?_⟩; refine wG ?_)
      | (refine ⟨_, _, WkL.rfl, WkOs.rfl, 6, 1, 6, rfl, rfl, ?_⟩; refine wG ?_)
      | (refine rng_i64 (Int.le_trans (by decide) el0) (Int.le_trans el (by decide)) ?_; (((conv => (whnf)); (try (refine AnyG.skip ?_; (conv => (whnf)))))))
      | (refine br_dec (fun h => ?_) (fun h => ?_) <;> refine wG ?_)
      | (refine br_eq (fun h => ?_) (fun h => ?_) <;> refine wG ?_)
      | (refine br_ne (fun h => ?_) (fun h => ?_) <;> refine wG ?_)
      | (refine br_neq (fun h => ?_) (fun h => ?_) <;> refine wG ?_)
      | (refine br_not (fun h => ?_) (fun h => ?_) <;> refine wG ?_)
      | (refine Br.mk (fun h => ?_) (fun h => ?_) <;> refine wG ?_)
      | (refine endK ⟨[], ⟨rfl, rfl⟩, ?_⟩; refine wG ?_; refine fin _ ?_)
      )
    all_goals rw [stFm_6]
    all_goals (try simp_all [St.kind, St.name, St.fn, St.args, St.thn, St.els, St.pl, St.other, St.ex])
    all_goals (try (intros; subst_vars; simp_all [argsFm, nameOk]))
end Ab
