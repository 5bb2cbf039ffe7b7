/- The reference's words for what is in form: statements of no kind. -/
import Derived.Test.YtcajihigkjcgeaaGreatDoorSyn
import Derived.Test.YtcajihigkjcgeaaGreatDoorFrm
import Derived.Test.YtcajihigkjcgeaaGreatDoorFrmK1
import Derived.Test.YtcajihigkjcgeaaGreatDoorFrmK4
set_option linter.all false
namespace Ab
open Go Go.Proofs
set_option maxRecDepth 10000
set_option maxHeartbeats 4000000
set_option linter.all false

theorem v_sto {B : World} {n : Nat} (hb : Valid PG B s_l2Body (S_s_l2Body n)) : Valid PG B s_l2Stmt (S_stK (fun k => k ≠ 1 ∧ k ≠ 2 ∧ k ≠ 3 ∧ k ≠ 4 ∧ k ≠ 5 ∧ k ≠ 6) (n + 1)) := by
  refine valid_of (Γ := [(s_l2Place, ⟨[], S_s_l2Place⟩), (s_l2NoExpr, ⟨[], S_s_l2NoExpr⟩), (s_l2None, ⟨[], S_s_l2None⟩), (s_l2Expr, ⟨[], S_s_l2Expr 10⟩), (s_l2Name, ⟨[], S_s_l2Name⟩), (s_l2Args, ⟨[], S_s_l2Args⟩), (s_l6In, ⟨[], S_s_l6In⟩), (s_l2Body, ⟨[], S_s_l2Body n⟩)]) wide tok ((((((((AllValid.nil.cons hb).cons v_s_l6In).cons v_s_l2Args).cons v_s_l2Name).cons (v_s_l2Expr 10)).cons v_s_l2None).cons v_s_l2NoExpr).cons v_s_l2Place) g_s_l2Stmt rfl rfl ?_
  rintro _ _ Q ⟨⟨k, nm, p, o, x, f, ar, t, e⟩, d, rfl, rfl, hd0, hdn, hn, hB, hk, hQ⟩
  obtain ⟨D, hD⟩ : ∃ D, d.toNat = D + 1 := ⟨d.toNat - 1, by omega⟩
  have hD1 : (d - 1).toNat = D := by omega
  rw [hD] at hQ hB
  obtain ⟨b1, b2, b3, b4⟩ := hB
  have fin : ∀ b : Bool, stFm (D + 1) (.mk k nm p o x f ar t e) = b → wkQ Q (bv b) [] := fun b h => ⟨_, _, Wk.rfl, WkOs.rfl, by subst h; exact hQ⟩
  clear hQ
  have el : ((t.map dSt).length : Int) + ((e.map dSt).length : Int) ≤ 10000000 := by simp; omega
  have el0 : (0 : Int) ≤ ((t.map dSt).length : Int) + ((e.map dSt).length : Int) := by simp; omega
  have em : (((t.map dSt).length : Int) + ((e.map dSt).length : Int) == 0) = (t.isEmpty && e.isEmpty) := by rw [List.length_map, List.length_map, len00]
  have ea : ((ar.map dAr).length : Int) > 0 → ar.isEmpty = false := fun h => by cases ar with | nil => simp at h | cons => rfl
  have en : ¬ ((ar.map dAr).length : Int) > 0 → ar = [] := fun h => by cases ar with | nil => rfl | cons => exact absurd (by simp) h
  · have hk : k ≠ 1 ∧ k ≠ 2 ∧ k ≠ 3 ∧ k ≠ 4 ∧ k ≠ 5 ∧ k ≠ 6 := hk
    obtain ⟨h1, h2, h3, h4, h5, h6⟩ := hk
    have k1 : (k == 1) = false := by simpa using h1
    have n1 : (k != 1) = true := by simpa using h1
    have k2 : (k == 2) = false := by simpa using h2
    have n2 : (k != 2) = true := by simpa using h2
    have k3 : (k == 3) = false := by simpa using h3
    have n3 : (k != 3) = true := by simpa using h3
    have k4 : (k == 4) = false := by simpa using h4
    have n4 : (k != 4) = true := by simpa using h4
    have k5 : (k == 5) = false := by simpa using h5
    have n5 : (k != 5) = true := by simpa using h5
    have k6 : (k == 6) = false := by simpa using h6
    have n6 : (k != 6) = true := by simpa using h6
    have sf := stFm_o D nm p o x f ar t e k1 k2 k3 k4 k5 k6
    refine wG ?_
    repeat' (first
      | refine stG1 ?_
      | (refine Br.yes rfl ?_; refine wG ?_)
      | (refine Br.no rfl ?_; refine wG ?_)
      | (refine ⟨_, _, WkL.rfl, WkOs.rfl, o, rfl, rfl, ?_⟩; refine wG ?_)
      | (refine ⟨_, _, WkL.rfl, WkOs.rfl, p, rfl, rfl, ?_⟩; refine wG ?_)
      | (refine ⟨_, _, WkL.rfl, WkOs.rfl, x, 4, rfl, rfl, by omega, by omega, by omega, ?_⟩; refine wG ?_)
      | (refine ⟨_, _, WkL.rfl, WkOs.rfl, x, rfl, rfl, ?_⟩; refine wG ?_)
      | (refine ⟨_, _, WkL.rfl, WkOs.rfl, nm, rfl, rfl, ?_⟩; refine wG ?_)
      | (refine ⟨_, _, WkL.rfl, WkOs.rfl, f, rfl, rfl, ?_⟩; refine wG ?_)
      | (refine ⟨_, _, WkL.rfl, WkOs.rfl, ar, rfl, rfl, ?_⟩; refine wG ?_)
      | (refine ⟨_, _, WkL.rfl, WkOs.rfl, k, 1, 6, rfl, rfl, ?_⟩; refine wG ?_)
      | (refine Br.no k1 ?_; (((conv => (whnf)); (try (refine AnyG.skip ?_; (conv => (whnf)))))))
      | (refine Br.yes n1 ?_; (((conv => (whnf)); (try (refine AnyG.skip ?_; (conv => (whnf)))))))
      | (refine Br.no k2 ?_; (((conv => (whnf)); (try (refine AnyG.skip ?_; (conv => (whnf)))))))
      | (refine Br.yes n2 ?_; (((conv => (whnf)); (try (refine AnyG.skip ?_; (conv => (whnf)))))))
      | (refine Br.no k3 ?_; (((conv => (whnf)); (try (refine AnyG.skip ?_; (conv => (whnf)))))))
      | (refine Br.yes n3 ?_; (((conv => (whnf)); (try (refine AnyG.skip ?_; (conv => (whnf)))))))
      | (refine Br.no k4 ?_; (((conv => (whnf)); (try (refine AnyG.skip ?_; (conv => (whnf)))))))
      | (refine Br.yes n4 ?_; (((conv => (whnf)); (try (refine AnyG.skip ?_; (conv => (whnf)))))))
      | (refine Br.no k5 ?_; (((conv => (whnf)); (try (refine AnyG.skip ?_; (conv => (whnf)))))))
      | (refine Br.yes n5 ?_; (((conv => (whnf)); (try (refine AnyG.skip ?_; (conv => (whnf)))))))
      | (refine Br.no k6 ?_; (((conv => (whnf)); (try (refine AnyG.skip ?_; (conv => (whnf)))))))
      | (refine Br.yes n6 ?_; (((conv => (whnf)); (try (refine AnyG.skip ?_; (conv => (whnf)))))))
      | (refine rng_i64 (Int.le_trans (by decide) el0) (Int.le_trans el (by decide)) ?_; (((conv => (whnf)); (try (refine AnyG.skip ?_; (conv => (whnf)))))))
      | (refine br_dec (fun h => ?_) (fun h => ?_) <;> refine wG ?_)
      | (refine br_eq (fun h => ?_) (fun h => ?_) <;> refine wG ?_)
      | (refine br_ne (fun h => ?_) (fun h => ?_) <;> refine wG ?_)
      | (refine br_neq (fun h => ?_) (fun h => ?_) <;> refine wG ?_)
      | (refine br_not (fun h => ?_) (fun h => ?_) <;> refine wG ?_)
      | (refine Br.mk (fun h => ?_) (fun h => ?_) <;> refine wG ?_)
      | (refine endK ⟨[], ⟨rfl, rfl⟩, ?_⟩; refine wG ?_; refine fin _ ?_)
      )
    all_goals (try exact sf)
    exfalso
    simp at h
    omega
end Ab

/- The reference's words for what is in form, third part: bodies, functions, programs. -/
namespace Ab
open Go Go.Proofs
set_option maxRecDepth 10000
set_option maxHeartbeats 4000000
set_option linter.all false

theorem v_l2Stmt {B : World} {n : Nat} (hb : Valid PG B s_l2Body (S_s_l2Body n)) : Valid PG B s_l2Stmt (S_s_l2Stmt (n + 1)) := by
  intro w g O args us Q i a b c ⟨s, d, h1, h2, h3, h4, h5, h6, hQ⟩
  by_cases k1 : s.kind = 1
  · exact v_st1 hb w g O args us Q i a b c ⟨s, d, h1, h2, h3, h4, h5, h6, k1, hQ⟩
  by_cases k2 : s.kind = 2
  · exact v_st2 hb w g O args us Q i a b c ⟨s, d, h1, h2, h3, h4, h5, h6, k2, hQ⟩
  by_cases k3 : s.kind = 3
  · exact v_st3 hb w g O args us Q i a b c ⟨s, d, h1, h2, h3, h4, h5, h6, k3, hQ⟩
  by_cases k4 : s.kind = 4
  · exact v_st4 hb w g O args us Q i a b c ⟨s, d, h1, h2, h3, h4, h5, h6, k4, hQ⟩
  by_cases k5 : s.kind = 5
  · exact v_st5 hb w g O args us Q i a b c ⟨s, d, h1, h2, h3, h4, h5, h6, k5, hQ⟩
  by_cases k6 : s.kind = 6
  · exact v_st6 hb w g O args us Q i a b c ⟨s, d, h1, h2, h3, h4, h5, h6, k6, hQ⟩
  exact v_sto hb w g O args us Q i a b c ⟨s, d, h1, h2, h3, h4, h5, h6, ⟨k1, k2, k3, k4, k5, k6⟩, hQ⟩
theorem v_l2Body {B : World} {n : Nat} (hs : Valid PG B s_l2Stmt (S_s_l2Stmt n)) : Valid PG B s_l2Body (S_s_l2Body n) := by
  refine valid_of (Γ := [(s_l2Stmt, ⟨[], S_s_l2Stmt n⟩)]) wide tok (AllValid.nil.cons hs) g_s_l2Body rfl rfl ?_
  rintro _ _ Q ⟨l, d, rfl, rfl, hd0, hdn, hn, hB, hQ⟩
  have fin : ∀ b : Bool, bodyFm d.toNat l = b → wkQ Q (bv b) [] := fun b h => ⟨_, _, Wk.rfl, WkOs.rfl, by subst h; exact hQ⟩
  refine wG ?_
  refine brG1 (fun h1 => ?_) (fun h1 => ?_)
  · refine endK ⟨[], ⟨rfl, rfl⟩, ?_⟩
    refine wG ?_
    exact fin _ (by simp [bodyFm]; omega)
  refine brG1 (fun h2 => ?_) (fun h2 => ?_)
  · refine endK ⟨[], ⟨rfl, rfl⟩, ?_⟩
    refine wG ?_
    exact fin _ (by simp [bodyFm]; omega)
  have hd : 1 ≤ d.toNat := by omega
  have hl : l.length ≤ 40 := by simp at h2; omega
  refine ⟨[], Int, fun i => 0 ≤ i ∧ i ≤ l.length ∧ (l.take i.toNat).all (stFm d.toNat) = true, fun i => (l.length - i).toNat, fun i => [(5, iv i)], fun i => [], 0, ⟨by omega, by omega, by simp⟩, ?_⟩
  refine wG ?_
  refine ⟨Meet.mk rfl rfl WkOs.rfl ⟨Wk.rfl, trivial⟩ rfl, ?_⟩
  rintro i ⟨i0, i1, i2⟩
  refine wG ?_
  refine brG1 (fun h3 => ?_) (fun h3 => ?_)
  · have h3 : i < (l.length : Int) := by simpa using h3
    have hi : i.toNat < l.length := by omega
    have e3 : (i + 1).toNat = i.toNat + 1 := by omega
    have hkm := List.getElem_mem hi
    have hx : (l.map dSt)[i.toNat]? = some (dSt l[i.toNat]) := by simp [hi]
    have hb := hB _ hkm
    have yes : stFm d.toNat l[i.toNat] = true → ((l.take (i + 1).toNat).all (stFm d.toNat) = true) := fun h => e3 ▸ take_all hi i2 h
    have bad : stFm d.toNat l[i.toNat] = false → bodyFm d.toNat l = false := fun h => by
      have : l.all (stFm d.toNat) = false := List.all_eq_false.2 ⟨_, hkm, by rw [h]; simp⟩
      simp [bodyFm, this]
    generalize l[i.toNat] = s at *
    refine Req.mk i0 ?_
    refine ⟨_, hx, ?_⟩
    rw [dSt_eq]
    refine wG ?_
    refine ⟨_, _, WkL.rfl, WkOs.rfl, s, d, rfl, rfl, by omega, by omega, by omega, hb, ?_⟩
    refine goG1 ?_
    refine ⟨fun h4 => ?_, fun h4 => ?_⟩
    · refine wG ?_
      refine endK ⟨[], ⟨rfl, rfl⟩, ?_⟩
      refine wG ?_
      exact fin _ (bad (of_not_t h4))
    · refine wG ?_
      refine goG1 ?_
      refine ⟨i + 1, ⟨by omega, by omega, yes (of_not_f h4)⟩, by dsimp only; omega, [], Meet.mk rfl rfl WkOs.rfl ⟨Wk.rfl, trivial⟩ rfl⟩
  · have h3 : ¬ i < (l.length : Int) := by simpa using h3
    rw [List.take_of_length_le (by omega)] at i2
    refine endK ⟨[], ⟨rfl, rfl⟩, ?_⟩
    refine wG ?_
    exact fin _ (by simp only [bodyFm, i2, hl, hd]; rfl)
theorem v_forms {B : World} : ∀ n, Valid PG B s_l2Stmt (S_s_l2Stmt n) ∧ Valid PG B s_l2Body (S_s_l2Body n)
  | 0 => by
    have h : Valid PG B s_l2Stmt (S_s_l2Stmt 0) := fun w g O args us Q _ _ _ _ ⟨_, d, _, _, h1, h2, _⟩ => by omega
    exact ⟨h, v_l2Body h⟩
  | n + 1 => by
    have h := v_l2Stmt (B := B) (v_forms n).2
    exact ⟨h, v_l2Body h⟩
end Ab
