/- The program's reader, last part: programs. -/
import Derived.Test.YtcajihigkjcgeaaGreatDoorSyn
import Derived.Test.YtcajihigkjcgeaaGreatDoorR7
set_option linter.all false
namespace Ab
open Go Go.Proofs
set_option maxRecDepth 10000
set_option maxHeartbeats 4000000
set_option linter.all false

theorem wFn_pos (f : Fd) : 0 < (wFn f).length := by simp [wFn]
theorem wProg_app (a b : Pr) : wProg (a ++ b) = wProg a ++ wProg b := by simp [wProg]
theorem wProg_one (f : Fd) : wProg [f] = wFn f := by simp [wProg]
theorem linesT_len : ∀ (wl : List (List Bs)), wl.length ≤ (linesT wl).length ∧ ∀ ws ∈ wl, (lineT ws).length ≤ (linesT wl).length
  | [] => ⟨by simp, fun ws h => by simp at h⟩
  | a :: wl => by
    obtain ⟨h1, h2⟩ := linesT_len wl
    have e : linesT (a :: wl) = lineT a ++ [10] ++ linesT wl := by simp [linesT]
    rw [e]
    simp only [List.length_append, List.length_cons, List.length_nil]
    refine ⟨by omega, fun ws hw => ?_⟩
    rcases List.mem_cons.1 hw with rfl | hw
    · omega
    · have := h2 ws hw; omega
/-- ProgRead -/
def S_i_ProgRead : Spec := fun args O Q => ∃ (p : Pr), args = [sv (progS p)] ∧ O = [] ∧ p ≠ [] ∧ prFm p = true ∧ prI p = prFm p ∧ (progS p).length ≤ 6000 ∧ Q (.tup [aPr p, bv true]) []
theorem v_i_ProgRead {B : World} (hB : TabM B) : Valid PG B i_ProgRead S_i_ProgRead := by
  refine valid_of (Γ := [(x_strings_TrimSuffix, ⟨[], S_x_strings_TrimSuffix⟩), (x_strings_Split, ⟨[], S_x_strings_Split⟩), (i_progReader_fn, ⟨[], S_i_fn⟩), (i_ProgWrite, ⟨[], S_i_ProgWrite⟩)]) wide tok ((((AllValid.nil.cons (v_i_ProgWrite hB.1)).cons (v_i_fn hB)).cons (v_x_strings_Split hB)).cons v_x_strings_TrimSuffix) g_i_ProgRead rfl rfl ?_
  rintro _ _ Q ⟨p, rfl, rfl, hp0, hpF, hpI, hlen, hQ⟩
  have h2 := hpF
  simp only [prFm, Bool.and_eq_true, decide_eq_true_eq, List.all_eq_true] at h2
  obtain ⟨hl, hF⟩ := h2
  have hF : ∀ f ∈ p, FdF f := fun f hf => fnFm_F (hF f hf)
  obtain ⟨hgood, htext⟩ := wProg_ok hF
  have hne : wProg p ≠ [] := by
    obtain ⟨a, q, rfl⟩ : ∃ a q, p = a :: q := by
      cases p with
      | nil => exact absurd rfl hp0
      | cons a q => exact ⟨a, q, rfl⟩
    simp [wProg, wFn]
  have hnt : progS p ≠ [] := by rw [htext, linesT_join hne]; simp
  obtain ⟨hll1, hll2⟩ := linesT_len (wProg p)
  rw [← htext] at hll1 hll2
  have hG : Gwl (wProg p) := ⟨fun ws hw => ⟨hgood ws hw, by have := hll2 ws hw; omega⟩, by omega⟩
  have htrim : Lib.trimSuffix (progS p) [10] = Lib.join ((wProg p).map lineT) [10] := by rw [htext, trim_lines hne]
  obtain ⟨hs1, hs2⟩ := lines_split hne hgood
  have hjl : (Lib.join ((wProg p).map lineT) [10]).length ≤ 6000 := by
    have := linesT_join hne
    rw [← htext] at this
    rw [this] at hlen
    simp at hlen; omega
  refine wG ?_
  refine goG2 ?_
  refine Br.no (by (simp; omega)) ?_
  refine wG ?_
  refine goG2 ?_
  refine Br.yes (by (simpa using hnt)) ?_
  refine wG ?_
  refine goG2 ?_
  refine ⟨_, _, WkL.rfl, WkOs.rfl, progS p, [10], rfl, by omega, ?_⟩
  rw [htrim]
  refine goG2 ?_
  refine ⟨_, _, WkL.rfl, WkOs.rfl, _, 10, rfl, by omega, by rw [hs1, List.length_map]; omega, ?_⟩
  rw [hs1]
  refine goG2 ?_
  have hW : progW p = progS p := by simp [progW, hpF, hlen]
  refine ⟨[.cell 1 0 12], Nat, fun k => k ≤ p.length, fun k => p.length - k, fun k => [(5, .ptr 2 0)], fun k => [.cells [nilW], .cells [.row 3 1], rdO (wProg p) (wProg (p.take k)).length, .row 1 true 12 ((p.take k).map dFd)], 0, Nat.zero_le _, ?_⟩
  refine wG ?_
  refine ⟨Meet.mk rfl rfl (⟨WkO.rfl, WkO.rfl, .inr (WkL.cons (Wk.d (DW.sl (DWRows.rfl_of (by simp [dS])))) WkL.rfl), WkO.rfl, trivial⟩) ⟨Wk.rfl, trivial⟩ rfl, ?_⟩
  intro k hk
  have hsplit : wProg p = wProg (p.take k) ++ wProg (p.drop k) := by rw [← wProg_app, List.take_append_drop]
  rcases hq : p.drop k with _ | ⟨f, q⟩
  · have e1 : p.take k = p := List.take_of_length_le (List.drop_eq_nil_iff.1 hq)
    refine wG ?_
    refine goG2 ?_
    refine Br.no (by (rw [e1]; simp)) ?_
    refine wG ?_
    refine goG2 ?_
    refine Br.no (by rfl) ?_
    refine wG ?_
    refine goG2 ?_
    refine ⟨_, _, (WkL.cons (Wk.agg (WkL.cons (Wk.of_eq (by rw [e1])) WkL.nil)) WkL.nil), WkOs.rfl, p, rfl, rfl, hp0, hpI, ?_⟩
    refine goG2 ?_
    refine Br.no (by (rw [hW]; simp)) ?_
    refine wG ?_
    refine goG2 ?_
    refine endK ⟨[], ⟨rfl, rfl⟩, ?_⟩
    refine wG ?_
    exact ⟨_, _, Wk.tup (WkL.cons (Wk.agg (WkL.cons (Wk.of_eq (by rw [e1])) WkL.nil)) WkL.rfl), WkOs.rfl, hQ⟩
  · have ht1 : p.take (k + 1) = p.take k ++ [f] := by rw [List.take_add, hq]; rfl
    have hkn : k < p.length := by
      rcases Nat.lt_or_ge k p.length with h | h
      · exact h
      · rw [List.drop_eq_nil_of_le h] at hq; cases hq
    have hf : FdF f := hF f (List.mem_of_mem_drop (i := k) (by rw [hq]; simp))
    have hfp := wFn_pos f
    have hd : (wProg p).drop (wProg (p.take k)).length = wFn f ++ wProg q := by
      rw [hsplit, hq]; simp [wProg]
    have hlt : (wProg (p.take k)).length < (wProg p).length := by
      rw [hsplit, hq, List.length_append]; simp [wProg]; omega
    have hat : (wProg (p.take (k + 1))).length = (wProg (p.take k)).length + (wFn f).length := by rw [ht1, wProg_app, wProg_one, List.length_append]
    refine wG ?_
    refine goG2 ?_
    refine Br.yes (by (simp; omega)) ?_
    refine wG ?_
    refine goG2 ?_
    refine Br.yes (by rfl) ?_
    refine wG ?_
    refine goG2 ?_
    refine ⟨_, _, WkL.rfl, WkOs.rfl, _, _, f, wProg q, rfl, rfl, hG, hd, hf, ?_⟩
    refine goG2 ?_
    left
    refine wG ?_
    refine goG2 ?_
    refine ⟨k + 1, by dsimp only; omega, by dsimp only; omega, [], Meet.mk rfl rfl ⟨WkO.rfl, WkO.rfl, .inl ?_, .inr ⟨rfl, rfl, rfl, ?_⟩, trivial⟩ ⟨Wk.rfl, trivial⟩ rfl⟩
    · show rdO (wProg p) _ = rdO (wProg p) _
      rw [hat]
    · rw [ht1]
      exact rows_app rfl DWL.rfl
end Ab
