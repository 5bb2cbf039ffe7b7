/- The draws, eleventh part: drawn programs. -/
import Derived.Test.YtcajihigkjcgeaaGreatDoorSyn
import Derived.Test.YtcajihigkjcgeaaGreatDoorD10
import Derived.Test.YtcajihigkjcgeaaGreatDoorFrB
set_option linter.all false
namespace Ab
open Go Go.Proofs
set_option maxRecDepth 10000
set_option maxHeartbeats 4000000
set_option linter.all false

theorem FdG.prG {P : Pr} (h : ∀ f ∈ P, FdG f) (hl : P.length ≤ 4) : PrG P :=
  ⟨by omega, fun f hf => (h f hf).body, fun f hf => by have := (h f hf).len; omega, fun f hf => by have := (h f hf).ok.params; omega⟩
/-- l71Some -/
def S_s_l71Some : Spec := fun args O Q => ∃ (l : List UInt8) (p : Int), args = [.ptr 0 0] ∧ O = [oRd l p] ∧ l.length ≤ 2000 ∧ 0 ≤ p ∧ p + 400000000 ≤ 1000000000 ∧
  ∀ (P : Pr) (p' : Int), PrG P → 1 ≤ P.length → p ≤ p' → p' ≤ p + 400000000 → Q (aPr P) [oRd l p']
theorem v_s_l71Some {B : World} : Valid PG B s_l71Some S_s_l71Some := by
  refine valid_of (Γ := [(s_l71Prog, ⟨[], S_s_l71Prog⟩), (s_l6Rd_pick, ⟨[], S_s_l6Rd_pick⟩), (s_l71Bend, ⟨[], S_s_l71Bend⟩)]) wide tok (((AllValid.nil.cons v_s_l71Bend).cons v_s_l6Rd_pick).cons v_s_l71Prog) g_s_l71Some rfl rfl ?_
  rintro _ _ Q ⟨l, p, rfl, rfl, hl, h0, hp, hQ⟩
  refine wG ?_
  refine ⟨_, _, WkL.rfl, WkOs.rfl, l, p, rfl, rfl, hl, h0, by omega, ?_⟩
  intro P p1 hP1 hP4 hP g1 g2
  refine goG1 ?_
  refine ⟨_, _, WkL.rfl, WkOs.rfl, l, p1, 5, hl, by omega, by omega, by omega, rfl, rfl, ?_⟩
  intro k _ hk
  refine goG1 ?_
  refine brG1 (fun h1 => ?_) (fun h1 => ?_)
  · refine goG1 ?_
    refine ⟨_, _, WkL.rfl, WkOs.rfl, l, p1 + 1, P, rfl, rfl, hl, by omega, by omega, hP1, hP4, hP, ?_⟩
    intro P' p' hP' hP'1 g3 g4
    refine goG1 ?_
    refine endK ⟨[], ⟨rfl, rfl⟩, ?_⟩
    refine wG ?_
    exact ⟨_, _, Wk.rfl, WkOs.rfl, hQ P' p' hP' hP'1 (by omega) (by omega)⟩
  · refine goG1 ?_
    refine endK ⟨[], ⟨rfl, rfl⟩, ?_⟩
    refine wG ?_
    exact ⟨_, _, Wk.rfl, WkOs.rfl, hQ P (p1 + 1) (FdG.prG hP hP4) hP1 (by omega) (by omega)⟩
/-- DrawProgWrite -/
def S_s_DrawProgWrite : Spec := fun args O Q => ∃ (l : List UInt8), args = [.d (.sl 1 (byteRows l))] ∧ O = [] ∧ ∀ P : Pr, PrG P → 1 ≤ P.length → Q (aPr P) []
theorem v_s_DrawProgWrite {B : World} : Valid PG B s_DrawProgWrite S_s_DrawProgWrite := by
  refine valid_of (Γ := [(s_l6Open, ⟨[], SOpen⟩), (s_l71Some, ⟨[], S_s_l71Some⟩)]) wide tok ((AllValid.nil.cons v_s_l71Some).cons v_s_l6Open) g_s_DrawProgWrite rfl rfl ?_
  rintro _ _ Q ⟨l, rfl, rfl, hQ⟩
  refine wG ?_
  refine ⟨_, _, WkL.rfl, WkOs.rfl, l, rfl, rfl, ?_⟩
  refine goG1 ?_
  refine ⟨_, _, WkL.rfl, WkOs.rfl, l.take 2000, 0, rfl, rfl, by simp; omega, by omega, by omega, ?_⟩
  intro P p' hP hP1 _ _
  refine goG1 ?_
  refine endK ⟨[], ⟨rfl, rfl⟩, ?_⟩
  refine wG ?_
  exact ⟨_, _, Wk.rfl, WkOs.rfl, hQ P hP hP1⟩
end Ab
