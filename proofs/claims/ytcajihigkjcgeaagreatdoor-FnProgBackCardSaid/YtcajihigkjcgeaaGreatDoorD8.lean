/- The draws, eighth part: programs. -/
import Derived.Test.YtcajihigkjcgeaaGreatDoorSyn
import Derived.Test.YtcajihigkjcgeaaGreatDoorD7
set_option linter.all false
namespace Ab
open Go Go.Proofs
set_option maxRecDepth 10000
set_option maxHeartbeats 4000000
set_option linter.all false

/-- l71Prog -/
def S_s_l71Prog : Spec := fun args O Q => ∃ (l : List UInt8) (p : Int), args = [.ptr 0 0] ∧ O = [oRd l p] ∧ l.length ≤ 2000 ∧ 0 ≤ p ∧ p + 300000000 ≤ 1000000000 ∧
  ∀ (P : Pr) (p' : Int), 1 ≤ P.length → P.length ≤ 4 → (∀ f ∈ P, FdG f) → p ≤ p' → p' ≤ p + 200000000 → Q (aPr P) [oRd l p']
theorem v_s_l71Prog {B : World} : Valid PG B s_l71Prog S_s_l71Prog := by
  refine valid_of (Γ := [(s_l6Rd_pick, ⟨[], S_s_l6Rd_pick⟩), (s_l71Fn, ⟨[], S_s_l71Fn⟩)]) wide tok ((AllValid.nil.cons v_s_l71Fn).cons v_s_l6Rd_pick) g_s_l71Prog rfl rfl ?_
  rintro _ _ Q ⟨l, p, rfl, rfl, hl, h0, hp, hQ⟩
  refine wG ?_
  refine ⟨_, _, WkL.rfl, WkOs.rfl, l, p, 4, hl, h0, by omega, by omega, rfl, rfl, ?_⟩
  intro k _ hk
  obtain ⟨hk0, hk1⟩ := hk (by omega)
  refine goG1 ?_
  refine ⟨[.cell 2 0 12], Pr × Int × Int, fun x => 0 ≤ x.2.2 ∧ x.2.2 ≤ 1 + k ∧ (x.1.length : Int) = 1 + k - x.2.2 ∧ (∀ f ∈ x.1, FdG f) ∧ p + 1 ≤ x.2.1 ∧ x.2.1 ≤ p + 1 + 40000000 * (1 + k - x.2.2), fun x => x.2.2.toNat, fun x => [(4, iv x.2.2)], fun x => [oRd l x.2.1, .cells [nilS], .cells [.row 3 1], .row 1 false 12 (x.1.map dFd)], ([], p + 1, 1 + k), ⟨by dsimp only; omega, by dsimp only; omega, by simp, by simp, by dsimp only; omega, by dsimp only; omega⟩, ?_⟩
  refine wG ?_
  refine ⟨Meet.mk rfl rfl WkOs.rfl ⟨Wk.rfl, trivial⟩ rfl, ?_⟩
  rintro ⟨P, p1, n⟩ ⟨n0, n1, n2, n3, n4, n5⟩
  dsimp only at n0 n1 n2 n3 n4 n5
  refine wG ?_
  refine brG1 (fun h => ?_) (fun h => ?_)
  · refine ⟨_, _, WkL.rfl, WkOs.rfl, l, p1, P, rfl, rfl, hl, by omega, by omega, by omega, n3, ?_⟩
    intro f p2 hf g1 g2
    refine goG1 ?_
    left
    refine wG ?_
    refine goG1 ?_
    refine ⟨(P ++ [f], p2, n - 1), ⟨by dsimp only; omega, by dsimp only; omega, by simp; omega, ?_, by dsimp only; omega, by dsimp only; omega⟩, by dsimp only; omega, [], Meet.mk rfl rfl ?_ ⟨Wk.rfl, trivial⟩ rfl⟩
    · intro g hg
      rcases List.mem_append.1 hg with hg | hg
      · exact n3 g hg
      · simp at hg; subst hg; exact hf
    · exact ⟨WkO.rfl, WkO.rfl, WkO.rfl, .inr ⟨rfl, rfl, rfl, rows_app rfl DWL.rfl⟩, trivial⟩
  · have hn : P.length = 1 + k := by omega
    refine goG1 ?_
    refine endK ⟨[], ⟨rfl, rfl⟩, ?_⟩
    refine wG ?_
    refine ⟨_, _, ?_, WkOs.rfl, hQ P p1 (by omega) (by omega) n3 (by omega) (by omega)⟩
    repeat' (first
      | exact Wk.rfl
      | exact WkL.rfl
      | exact WkOs.rfl
      | exact DWRows.rfl
      | exact Wk.nil _
      | exact DWL.rfl
      | exact DW.rfl
      | exact DW.nil _
      | exact DW.nilf _
      | exact DW.sf
      | refine Wk.agg ?_
      | refine Wk.tup ?_
      | refine WkL.cons ?_ ?_
      | refine Wk.d ?_
      | refine DWL.cons ?_ ?_
      | refine DW.sf.trans (DW.sl ?_)
      | refine DW.sl ?_
      | refine DW.sff ?_
      | exact WkL.nil
      | exact trivial
      | exact DWRows.rfl_of (by simp [Function.comp_def, Ty.kids, Ty.kids_mk])
      )
end Ab

/- The draws, ninth part: bent programs. -/
namespace Ab
open Go Go.Proofs
set_option maxRecDepth 10000
set_option maxHeartbeats 4000000
set_option linter.all false

/-- l71Deep, at any place of the code -/
def S_deep : Spec := fun args O Q => ∃ (l : List UInt8) (p : Int), args = [.ptr 0 0] ∧ O = [oRd l p] ∧ l.length ≤ 2000 ∧ 0 ≤ p ∧ p + 1000 ≤ 1000000000 ∧
  ∀ (t : Ty) (p' : Int), t.kids.length ≤ 3 → p ≤ p' → p' ≤ p + 200 → Q (aTy t) [oRd l p']
theorem v_deep {B : World} : Valid PG B s_l71Deep S_deep := by
  refine valid_of (Γ := [(s_l71Type, ⟨[], S_s_l71Type 5⟩), (s_l6Rd_pick, ⟨[], S_s_l6Rd_pick⟩)]) wide tok ((AllValid.nil.cons v_s_l6Rd_pick).cons (v_s_l71Type 5)) g_s_l71Deep rfl rfl ?_
  rintro _ _ Q ⟨l, p, rfl, rfl, hl, h0, hp, hQ⟩
  have hB : Bd 5 = 63 := by decide
  refine wG ?_
  refine ⟨_, _, WkL.rfl, WkOs.rfl, l, p, 4, hl, h0, by omega, by omega, rfl, rfl, ?_⟩
  intro k _ hk
  obtain ⟨hk1, hk2⟩ := hk (by omega)
  refine goG1 ?_
  refine ⟨_, _, WkL.rfl, WkOs.rfl, l, p + 1, 1 + k, hl, by omega, (by rw [hB]; omega), by omega, by omega, by omega, rfl, rfl, ?_⟩
  intro t p1 ht0 e1 e2
  rw [hB] at e2
  have ht := tyOk_len ht0
  refine goG1 ?_
  refine ⟨_, _, WkL.rfl, WkOs.rfl, l, p1, 12, hl, by omega, by omega, by omega, rfl, rfl, ?_⟩
  intro k2 _ hk2
  refine goG1 ?_
  refine brG1 (fun h1 => ?_) (fun h1 => ?_)
  · refine ⟨[], Ty × Int, fun x => 0 ≤ x.2 ∧ x.2 ≤ 5 ∧ x.1.kids.length ≤ 2, fun x => (5 - x.2).toNat, fun x => [(4, iv x.2)], fun x => [oRd l (p1 + 1), .cells [.d (.v (.slice none 0 0))], .cells [.d (.sf 1 (x.1.kids.map dTy))]], (t, 0), ⟨by dsimp only; omega, by dsimp only; omega, ht⟩, ?_⟩
    refine wG ?_
    refine ⟨Meet.mk rfl rfl WkOs.rfl ⟨Wk.rfl, trivial⟩ rfl, ?_⟩
    rintro ⟨t, i⟩ ⟨hi0, hi1, ht⟩
    dsimp only at hi0 hi1 ht
    refine wG ?_
    refine brG1 (fun h4 => ?_) (fun h4 => ?_)
    · left
      refine wG ?_
      refine goG1 ?_
      refine ⟨(.mk [t, .mk []], i + 1), ⟨by dsimp only; omega, by dsimp only; omega, by simp [Ty.kids]⟩, by dsimp only; omega, [], Meet.mk rfl rfl ?_ ⟨Wk.rfl, trivial⟩ rfl⟩
      refine ⟨WkO.rfl, WkO.rfl, .inr (WkL.cons (Wk.d (DW.sff ?_)) WkL.nil), trivial⟩
      exact ⟨by rw [dTy_eq]; rfl, wk_fTy t, by rw [dTy_eq]; rfl, wk_nil, trivial⟩
    · refine goG1 ?_
      refine endK ⟨[], ⟨rfl, rfl⟩, ?_⟩
      refine wG ?_
      exact ⟨_, _, Wk.agg (WkL.cons (Wk.d DW.sf) WkL.nil), WkOs.rfl, hQ t (p1 + 1) (by omega) (by omega) (by omega)⟩
  refine brG1 (fun h2 => ?_) (fun h2 => ?_)
  · left
    refine wG ?_
    refine ⟨⟨.inr (by decide), by simp [maxRow]; omega⟩, ?_⟩
    refine wG ?_
    refine goG1 ?_
    refine endK ⟨[], ⟨rfl, rfl⟩, ?_⟩
    refine wG ?_
    refine ⟨_, _, Wk.agg (WkL.cons (Wk.d (DW.sl ?_)) WkL.nil), WkOs.rfl, hQ (.mk (t.kids ++ [.mk []])) (p1 + 1) (by rw [Ty.kids_mk]; simp; omega) (by omega) (by omega)⟩
    rw [Ty.kids_mk, List.map_append]
    exact DWRows.app DWRows.rfl ⟨by rw [dTy_eq]; rfl, wk_nil, trivial⟩
  · refine goG1 ?_
    refine endK ⟨[], ⟨rfl, rfl⟩, ?_⟩
    refine wG ?_
    exact ⟨_, _, Wk.agg (WkL.cons (Wk.d DW.sf) WkL.nil), WkOs.rfl, hQ t (p1 + 1) (by omega) (by omega) (by omega)⟩
/-- a program whose statements are in form -/
structure PrG (p : Pr) : Prop where
  len : p.length ≤ 6
  body : ∀ f ∈ p, ∀ s ∈ f.body, StF 3 s
  blen : ∀ f ∈ p, f.body.length ≤ 10
  plen : ∀ f ∈ p, f.params.length ≤ 10
theorem rows_set {P : Pr} {k : Nat} {F : Fd} {r : List DV} (hr : r.length = 12) (hw : DWL r (dFd F)) : DWRows ((P.map dFd).set k r) ((P.set k F).map dFd) := by
  induction P generalizing k with
  | nil => exact DWRows.rfl
  | cons a P ih =>
    cases k with
    | zero => exact ⟨hr, hw, DWRows.rfl⟩
    | succ k => exact ⟨rfl, DWL.rfl, ih⟩
theorem DWL.of_eq {xs ys : List DV} (h : xs = ys) : DWL xs ys := h ▸ DWL.rfl
end Ab
