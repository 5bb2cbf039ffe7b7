/- The program's reader, fifth part: statements. -/
import Derived.Test.YtcajihigkjcgeaaGreatDoorSyn
import Derived.Test.YtcajihigkjcgeaaGreatDoorR4
set_option linter.all false
namespace Ab
open Go Go.Proofs
set_option maxRecDepth 10000
set_option maxHeartbeats 4000000
set_option linter.all false

def kws : List Bs := [kLet, kLend, kSet, kCall, kIf, kPick]
def stopL (post : List (List Bs)) : Prop := ∀ w ws r, post = (w :: ws) :: r → w ∉ kws
theorem drop_cons {α : Type} {wl : List α} {i : Nat} {a : α} {r : List α} (h : wl.drop i = a :: r) : wl[i]? = some a ∧ wl.drop (i + 1) = r := by
  constructor
  · have : (wl.drop i)[0]? = some a := by rw [h]; rfl
    simpa using this
  · rw [← List.drop_drop, h]; rfl
theorem drop_app {α : Type} {wl a b : List α} {i : Nat} (h : wl.drop i = a ++ b) : wl.drop (i + a.length) = b := by
  rw [← List.drop_drop, h]; simp
theorem wLines_cons (d : Nat) (s : St) (l : List St) : wLines d (s :: l) = wLine d s ++ wLines d l := by simp [wLines]
theorem wLines_app (d : Nat) (a b : List St) : wLines d (a ++ b) = wLines d a ++ wLines d b := by simp [wLines]
/-- stmts -/
def S_i_stmts (n : Nat) : Spec := fun args O Q => ∃ (wl : List (List Bs)) (i : Nat) (l : List St) (D : Nat) (post : List (List Bs)) (d : Int), args = [.ptr 0 0, iv d] ∧ O = [rdO wl i] ∧ Gwl wl ∧ wl.drop i = wLines D l ++ post ∧ stopL post ∧ (∀ s ∈ l, StF D s) ∧
  D < n ∧ D ≤ d ∧ d ≤ 100 ∧ l.length ≤ 40 ∧ Q (.d (.sl 15 (l.map dSt))) [rdO wl (i + (wLines D l).length)]
/-- choice -/
def S_i_choice (n : Nat) : Spec := fun args O Q => ∃ (wl : List (List Bs)) (i : Nat) (x : Xp) (t e : List St) (D : Nat) (post : List (List Bs)) (d : Int), args = [.ptr 0 0, iv d] ∧ O = [rdO wl i] ∧ Gwl wl ∧
  wl.drop i = wLine (D + 1) (.mk 5 [] pl0 pl0 x [] [] t e) ++ post ∧ StF (D + 1) (.mk 5 [] pl0 pl0 x [] [] t e) ∧ D < n ∧ D < d ∧ d ≤ 100 ∧
  Q (aSt (.mk 5 [] pl0 pl0 x [] [] t e)) [rdO wl (i + (wLine (D + 1) (.mk 5 [] pl0 pl0 x [] [] t e)).length)]
theorem stop_else (r : List (List Bs)) : stopL ([kElse] :: r) := by
  intro w ws r' h; injection h with h _; injection h with h _; subst h; decide
theorem stop_end (r : List (List Bs)) : stopL ([kEnd] :: r) := by
  intro w ws r' h; injection h with h _; injection h with h _; subst h; decide
theorem v_i_choice {B : World} (hB : TabM B) {n : Nat} (ih : Valid PG B i_progReader_stmts (S_i_stmts n)) : Valid PG B i_progReader_choice (S_i_choice n) := by
  refine valid_of (Γ := [(i_progReader_take, ⟨[], S_i_take⟩), (i_progReader_whole, ⟨[], S_i_whole⟩), (i_progReader_stmts, ⟨[], S_i_stmts n⟩)]) wide tok (((AllValid.nil.cons ih).cons (v_i_whole hB)).cons (v_i_take hB)) g_i_progReader_choice rfl rfl ?_
  rintro _ _ Q ⟨wl, i, x, t, e, D, post, d, rfl, rfl, hG, hw, hs, hD, hd, hd1, hQ⟩
  have hln : wLine (D + 1) (.mk 5 [] pl0 pl0 x [] [] t e) = (kIf :: wSay 4 x) :: (wLines D t ++ [kElse] :: (wLines D e ++ [[kEnd]])) := by simp [wLine, wLines]
  rw [hln] at hw hQ
  cases hs with
  | ifs h1 h2 h3 h4 h5 h6 =>
  obtain ⟨g1, g2⟩ := drop_cons (a := kIf :: wSay 4 x) (r := wLines D t ++ ([kElse] :: (wLines D e ++ ([kEnd] :: post)))) (hw.trans (by simp))
  have g3 := drop_app g2
  obtain ⟨g4, g5⟩ := drop_cons g3
  have g6 := drop_app g5
  obtain ⟨g7, g8⟩ := drop_cons g6
  have hx0 := (wSay_ok h1).1.1
  refine wG ?_
  refine ⟨_, _, WkL.rfl, WkOs.rfl, wl, i, kIf :: wSay 4 x, 2, rfl, rfl, hG, g1, by have := List.length_pos_iff.2 hx0; simp; omega, ?_⟩
  have hwl := wSay_len h1
  refine goG2 ?_
  refine ⟨_, _, (WkL.cons Wk.rfl (WkL.cons (Wk.d (DW.sl (DWRows.rfl_of (by rw [List.take_length]; rfl)))) WkL.nil)), WkOs.rfl, wl, i + 1, x, rfl, rfl, h1, ?_⟩
  refine goG2 ?_
  refine ⟨_, _, WkL.rfl, WkOs.rfl, wl, i + 1, t, D, _, d - 1, rfl, rfl, hG, g2, stop_else _, h4, by omega, by omega, by omega, h3, ?_⟩
  refine goG2 ?_
  refine ⟨_, _, WkL.rfl, WkOs.rfl, wl, _, [kElse], 1, rfl, rfl, hG, g4, by simp, ?_⟩
  have u1 := (List.getElem?_eq_some_iff.1 g4).1
  have u2 := (List.getElem?_eq_some_iff.1 g7).1
  have hl := hG.len
  have back : ∀ {j : Nat} {ws : List Bs}, wl[j]? = some ws → (wl.map fun ws => dS (lineT ws))[(((j + 1 : Nat) : Int) - 1).toNat]? = some (dS (lineT ws)) := fun {j ws} h => by
    have e : (((j + 1 : Nat) : Int) - 1).toNat = j := by omega
    rw [e, List.getElem?_map, h]; rfl
  have b1 := back g4
  have b2 := back g7
  refine goG2 ?_
  refine Br.no (by rfl) ?_
  refine wG ?_
  refine goG2 ?_
  refine ⟨_, b1, ?_⟩
  rw [lineT1, dS_eq]
  refine wG ?_
  refine goG2 ?_
  refine Br.no (by rfl) ?_
  refine wG ?_
  refine goG2 ?_
  refine ⟨_, _, WkL.rfl, WkOs.rfl, wl, _, e, D, _, d - 1, rfl, rfl, hG, g5, stop_end _, h6, by omega, by omega, by omega, h5, ?_⟩
  refine goG2 ?_
  refine ⟨_, _, WkL.rfl, WkOs.rfl, wl, _, [kEnd], 1, rfl, rfl, hG, g7, by simp, ?_⟩
  refine goG2 ?_
  refine Br.no (by rfl) ?_
  refine wG ?_
  refine goG2 ?_
  refine ⟨_, b2, ?_⟩
  rw [lineT1, dS_eq]
  refine wG ?_
  refine goG2 ?_
  refine Br.no (by rfl) ?_
  refine wG ?_
  refine goG2 ?_
  refine endK ⟨[], ⟨rfl, rfl⟩, ?_⟩
  refine wG ?_
  refine ⟨_, _, ?_, WkOs.of_eq ?_, hQ⟩
  · repeat' (first
      | exact Wk.rfl
      | exact WkL.rfl
      | exact WkOs.rfl
      | exact DWRows.rfl
      | exact Wk.nil _
      | exact DWL.rfl
      | exact DW.rfl
      | exact DW.nil _
      | exact DW.nilf _
      | exact DW.sf
      | refine Wk.agg ?_
      | refine Wk.tup ?_
      | refine WkL.cons ?_ ?_
      | refine Wk.d ?_
      | refine DWL.cons ?_ ?_
      | refine DW.sf.trans (DW.sl ?_)
      | refine DW.sl ?_
      | refine DW.sff ?_
      | exact WkL.nil
      | exact trivial
      | exact DWRows.rfl_of (by simp [Function.comp_def, Ty.kids, Ty.kids_mk, mkS])
      )
  · have u : i + 1 + (wLines D t).length + 1 + (wLines D e).length + 1 = i + ((kIf :: wSay 4 x) :: (wLines D t ++ [kElse] :: (wLines D e ++ [[kEnd]]))).length := by simp; omega
    show [rdO wl (i + 1 + (wLines D t).length + 1 + (wLines D e).length + 1)] = _
    rw [u]
/-- the lines of a body: the first statement, and what is behind it -/
theorem v_i_stmts {B : World} (hB : TabM B) : ∀ n, Valid PG B i_progReader_stmts (S_i_stmts n) := by
  refine valid_lt (fun args O Q ⟨_, _, _, _, _, _, _, _, _, _, _, _, h, _⟩ => by omega) fun n ih => ?_
  refine valid_of (Γ := [(i_progReader_first, ⟨[], S_i_first⟩), (i_progReader_take, ⟨[], S_i_take⟩), (i_progReader_whole, ⟨[], S_i_whole⟩), (i_progReader_place, ⟨[], S_i_place⟩), (i_progReader_args, ⟨[], S_i_args⟩), (i_progReader_choice, ⟨[], S_i_choice n⟩)]) wide tok ((((((AllValid.nil.cons (v_i_choice hB ih)).cons (v_i_args hB)).cons (v_i_place hB)).cons (v_i_whole hB)).cons (v_i_take hB)).cons (v_i_first hB)) g_i_progReader_stmts rfl rfl ?_
  rintro _ _ Q ⟨wl, i, l, D, post, d, rfl, rfl, hG, hw, hp, hF, hD, hd, hd1, hl, hQ⟩
  have hlen := hG.len
  refine wG ?_
  refine ⟨[.slot 5 15], Nat, fun k => k ≤ l.length, fun k => l.length - k, fun k => [(5, .row 1 1)], fun k => [rdO wl (i + (wLines D (l.take k)).length), .row 1 true 15 ((l.take k).map dSt)], 0, Nat.zero_le _, ?_⟩
  refine wG ?_
  refine ⟨Meet.mk rfl rfl WkOs.rfl ⟨Wk.rfl, trivial⟩ rfl, ?_⟩
  intro k hk
  have hw2 : wl.drop (i + (wLines D (l.take k)).length) = wLines D (l.drop k) ++ post := by
    have : wLines D l = wLines D (l.take k) ++ wLines D (l.drop k) := by
      rw [← wLines_app, List.take_append_drop]
    rw [this, List.append_assoc] at hw
    exact drop_app hw
  have hkl : (l.take k).length ≤ 40 := by simp; omega
  rcases hq : l.drop k with _ | ⟨s, q⟩
  · have e1 : l.take k = l := List.take_of_length_le (List.drop_eq_nil_iff.1 hq)
    rw [hq] at hw2
    have hw2 : wl.drop (i + (wLines D (l.take k)).length) = post := hw2
    refine wG ?_
    refine goG2 ?_
    refine Br.yes (by rfl) ?_
    refine wG ?_
    refine goG2 ?_
    refine Br.no (by (simp; omega)) ?_
    refine wG ?_
    refine goG2 ?_
    refine ⟨_, _, WkL.rfl, WkOs.rfl, wl, _, rfl, rfl, hG, (fun hn => ?_), (fun w ws hw3 => ?_)⟩
    · have hne : ∀ k : Bs, k ∈ kws → (([] : Bs) == k) = false := by decide
      refine goG2 ?_
      refine Br.no (by exact hne kLet (by decide)) ?_
      refine wG ?_
      refine goG2 ?_
      refine Br.no (by exact hne kLend (by decide)) ?_
      refine wG ?_
      refine goG2 ?_
      refine Br.no (by exact hne kSet (by decide)) ?_
      refine wG ?_
      refine goG2 ?_
      refine Br.no (by exact hne kCall (by decide)) ?_
      refine wG ?_
      refine goG2 ?_
      refine Br.no (by exact hne kIf (by decide)) ?_
      refine wG ?_
      refine goG2 ?_
      refine Br.no (by exact hne kPick (by decide)) ?_
      refine wG ?_
      refine goG2 ?_
      refine endK ⟨[], ⟨rfl, rfl⟩, ?_⟩
      refine wG ?_
      exact ⟨_, _, Wk.of_eq (by show AV.d (.sl 15 ((l.take k).map dSt)) = _; rw [e1]), WkOs.of_eq (by show [rdO wl (i + (wLines D (l.take k)).length)] = _; rw [e1]), hQ⟩
    · have hne : ∀ k : Bs, k ∈ kws → (w == k) = false := fun kk hkk => by
        obtain ⟨r, hr⟩ : ∃ r, post = (w :: ws) :: r := by
          have h0 : (wl.drop (i + (wLines D (l.take k)).length))[0]? = some (w :: ws) := by simpa using hw3
          rw [hw2] at h0
          cases post with
          | nil => simp at h0
          | cons a r => simp at h0; exact ⟨r, by rw [h0]⟩
        have := hp w ws r hr
        rw [beq_eq_false_iff_ne]
        exact fun e => this (e ▸ hkk)
      refine goG2 ?_
      refine Br.no (by exact hne kLet (by decide)) ?_
      refine wG ?_
      refine goG2 ?_
      refine Br.no (by exact hne kLend (by decide)) ?_
      refine wG ?_
      refine goG2 ?_
      refine Br.no (by exact hne kSet (by decide)) ?_
      refine wG ?_
      refine goG2 ?_
      refine Br.no (by exact hne kCall (by decide)) ?_
      refine wG ?_
      refine goG2 ?_
      refine Br.no (by exact hne kIf (by decide)) ?_
      refine wG ?_
      refine goG2 ?_
      refine Br.no (by exact hne kPick (by decide)) ?_
      refine wG ?_
      refine goG2 ?_
      refine endK ⟨[], ⟨rfl, rfl⟩, ?_⟩
      refine wG ?_
      exact ⟨_, _, Wk.of_eq (by show AV.d (.sl 15 ((l.take k).map dSt)) = _; rw [e1]), WkOs.of_eq (by show [rdO wl (i + (wLines D (l.take k)).length)] = _; rw [e1]), hQ⟩
  · have hq1 : l.drop (k + 1) = q := by rw [← List.drop_drop, hq]; rfl
    have ht1 : l.take (k + 1) = l.take k ++ [s] := by rw [List.take_add, hq]; rfl
    have hkn : k < l.length := by
      rcases Nat.lt_or_ge k l.length with h | h
      · exact h
      · rw [List.drop_eq_nil_of_le h] at hq; cases hq
    have hs : StF D s := hF s (List.mem_of_mem_drop (i := k) (by rw [hq]; simp))
    rw [hq, wLines_cons, List.append_assoc] at hw2
    have hj : i + (wLines D (l.take (k + 1))).length = i + (wLines D (l.take k)).length + (wLine D s).length := by rw [ht1, wLines_app]; simp [wLines]; omega
    refine wG ?_
    refine goG2 ?_
    refine Br.yes (by rfl) ?_
    refine wG ?_
    refine goG2 ?_
    refine Br.no (by (simp; omega)) ?_
    refine wG ?_
    refine goG2 ?_
    cases hs with
    | @let_ D n x h1 h2 =>
      have hln : wLine (D + 1) (.mk 1 n pl0 pl0 x [] [] [] []) = [kLet :: n :: wSay 4 x] := by simp [wLine]
      have hx0 := List.length_pos_iff.2 (wSay_ok h2).1.1
      have hxl := wSay_len h2
      rw [hln] at hw2 hj
      obtain ⟨g1, g2⟩ := drop_cons (a := kLet :: n :: wSay 4 x) hw2
      have g0 := (List.getElem?_eq_some_iff.1 g1).1
      refine ⟨_, _, WkL.rfl, WkOs.rfl, wl, _, rfl, rfl, hG, (fun hn => absurd g0 (by omega)), (fun w ws hw3 => ?_)⟩
      rw [g1] at hw3
      injection hw3 with hw3
      injection hw3 with hw3 hw4
      subst hw3
      clear hw4
      refine goG2 ?_
      refine Br.yes (by rfl) ?_
      refine wG ?_
      refine ⟨_, _, WkL.rfl, WkOs.rfl, wl, _, kLet :: n :: wSay 4 x, 3, rfl, rfl, hG, g1, by simp only [List.length_cons, List.length_nil]; omega, ?_⟩
      refine goG2 ?_
      refine ⟨dS (n), rfl, ?_⟩
      rw [dS_eq]
      refine wG ?_
      refine agG2 ?_
      refine ⟨_, _, (WkL.cons Wk.rfl (WkL.cons (Wk.d (DW.sl (DWRows.rfl_of (by rw [List.take_length]; rfl)))) WkL.rfl)), WkOs.rfl, wl, _, x, rfl, rfl, h2, ?_⟩
      refine agG2 ?_
      left
      refine wG ?_
      refine agG2 ?_
      refine ⟨k + 1, by dsimp only; omega, by dsimp only; omega, [], Meet.mk rfl rfl ⟨.inl ?_, .inr ⟨rfl, rfl, rfl, ?_⟩, trivial⟩ ⟨Wk.rfl, trivial⟩ rfl⟩
      · show rdO wl (_ + 1) = rdO wl _
        rw [hj]; rfl
      · rw [ht1]
        refine rows_app (by first | (rw [dSt_eq]; done) | (rw [dSt_eq]; rfl)) ?_
        rw [dSt_eq]
        repeat' (first
          | exact Wk.rfl
          | exact WkL.rfl
          | exact WkOs.rfl
          | exact DWRows.rfl
          | exact Wk.nil _
          | exact DWL.rfl
          | exact DW.rfl
          | exact DW.nil _
          | exact DW.nilf _
          | exact DW.sf
          | refine Wk.agg ?_
          | refine Wk.tup ?_
          | refine WkL.cons ?_ ?_
          | refine Wk.d ?_
          | refine DWL.cons ?_ ?_
          | refine DW.sf.trans (DW.sl ?_)
          | refine DW.sl ?_
          | refine DW.sff ?_
          | exact WkL.nil
          | exact trivial
          | exact DWRows.rfl_of (by simp [Function.comp_def, Ty.kids, Ty.kids_mk, mkS])
          )
    | @lend D n p h1 h2 =>
      have hln : wLine (D + 1) (.mk 2 n p pl0 xp0 [] [] [] []) = [[kLend, n, atS p]] := by simp [wLine]
      rw [hln] at hw2 hj
      obtain ⟨g1, g2⟩ := drop_cons (a := [kLend, n, atS p]) hw2
      have g0 := (List.getElem?_eq_some_iff.1 g1).1
      refine ⟨_, _, WkL.rfl, WkOs.rfl, wl, _, rfl, rfl, hG, (fun hn => absurd g0 (by omega)), (fun w ws hw3 => ?_)⟩
      rw [g1] at hw3
      injection hw3 with hw3
      injection hw3 with hw3 hw4
      subst hw3
      clear hw4
      refine goG2 ?_
      refine Br.no (by rfl) ?_
      refine wG ?_
      refine goG2 ?_
      refine Br.yes (by rfl) ?_
      refine wG ?_
      refine ⟨_, _, WkL.rfl, WkOs.rfl, wl, _, [kLend, n, atS p], 3, rfl, rfl, hG, g1, by simp only [List.length_cons, List.length_nil]; omega, ?_⟩
      refine goG2 ?_
      refine ⟨dS (n), rfl, ?_⟩
      rw [dS_eq]
      refine wG ?_
      refine agG2 ?_
      refine ⟨dS (atS p), rfl, ?_⟩
      rw [dS_eq]
      refine wG ?_
      refine agG2 ?_
      refine ⟨_, _, WkL.rfl, WkOs.rfl, wl, _, p, rfl, rfl, h2, ?_⟩
      refine agG2 ?_
      left
      refine wG ?_
      refine agG2 ?_
      refine ⟨k + 1, by dsimp only; omega, by dsimp only; omega, [], Meet.mk rfl rfl ⟨.inl ?_, .inr ⟨rfl, rfl, rfl, ?_⟩, trivial⟩ ⟨Wk.rfl, trivial⟩ rfl⟩
      · show rdO wl (_ + 1) = rdO wl _
        rw [hj]; rfl
      · rw [ht1]
        refine rows_app (by first | (rw [dSt_eq]; done) | (rw [dSt_eq]; rfl)) ?_
        rw [dSt_eq]
        repeat' (first
          | exact Wk.rfl
          | exact WkL.rfl
          | exact WkOs.rfl
          | exact DWRows.rfl
          | exact Wk.nil _
          | exact DWL.rfl
          | exact DW.rfl
          | exact DW.nil _
          | exact DW.nilf _
          | exact DW.sf
          | refine Wk.agg ?_
          | refine Wk.tup ?_
          | refine WkL.cons ?_ ?_
          | refine Wk.d ?_
          | refine DWL.cons ?_ ?_
          | refine DW.sf.trans (DW.sl ?_)
          | refine DW.sl ?_
          | refine DW.sff ?_
          | exact WkL.nil
          | exact trivial
          | exact DWRows.rfl_of (by simp [Function.comp_def, Ty.kids, Ty.kids_mk, mkS])
          )
    | @set D p x h1 h2 =>
      have hln : wLine (D + 1) (.mk 3 [] p pl0 x [] [] [] []) = [kSet :: atS p :: wSay 4 x] := by simp [wLine]
      have hx0 := List.length_pos_iff.2 (wSay_ok h2).1.1
      have hxl := wSay_len h2
      rw [hln] at hw2 hj
      obtain ⟨g1, g2⟩ := drop_cons (a := kSet :: atS p :: wSay 4 x) hw2
      have g0 := (List.getElem?_eq_some_iff.1 g1).1
      refine ⟨_, _, WkL.rfl, WkOs.rfl, wl, _, rfl, rfl, hG, (fun hn => absurd g0 (by omega)), (fun w ws hw3 => ?_)⟩
      rw [g1] at hw3
      injection hw3 with hw3
      injection hw3 with hw3 hw4
      subst hw3
      clear hw4
      refine goG2 ?_
      refine Br.no (by rfl) ?_
      refine wG ?_
      refine goG2 ?_
      refine Br.no (by rfl) ?_
      refine wG ?_
      refine goG2 ?_
      refine Br.yes (by rfl) ?_
      refine wG ?_
      refine ⟨_, _, WkL.rfl, WkOs.rfl, wl, _, kSet :: atS p :: wSay 4 x, 3, rfl, rfl, hG, g1, by simp only [List.length_cons, List.length_nil]; omega, ?_⟩
      refine goG2 ?_
      refine ⟨dS (atS p), rfl, ?_⟩
      rw [dS_eq]
      refine wG ?_
      refine agG2 ?_
      refine ⟨_, _, WkL.rfl, WkOs.rfl, wl, _, p, rfl, rfl, h1, ?_⟩
      refine agG2 ?_
      refine ⟨_, _, (WkL.cons Wk.rfl (WkL.cons (Wk.d (DW.sl (DWRows.rfl_of (by rw [List.take_length]; rfl)))) WkL.rfl)), WkOs.rfl, wl, _, x, rfl, rfl, h2, ?_⟩
      refine agG2 ?_
      left
      refine wG ?_
      refine agG2 ?_
      refine ⟨k + 1, by dsimp only; omega, by dsimp only; omega, [], Meet.mk rfl rfl ⟨.inl ?_, .inr ⟨rfl, rfl, rfl, ?_⟩, trivial⟩ ⟨Wk.rfl, trivial⟩ rfl⟩
      · show rdO wl (_ + 1) = rdO wl _
        rw [hj]; rfl
      · rw [ht1]
        refine rows_app (by first | (rw [dSt_eq]; done) | (rw [dSt_eq]; rfl)) ?_
        rw [dSt_eq]
        repeat' (first
          | exact Wk.rfl
          | exact WkL.rfl
          | exact WkOs.rfl
          | exact DWRows.rfl
          | exact Wk.nil _
          | exact DWL.rfl
          | exact DW.rfl
          | exact DW.nil _
          | exact DW.nilf _
          | exact DW.sf
          | refine Wk.agg ?_
          | refine Wk.tup ?_
          | refine WkL.cons ?_ ?_
          | refine Wk.d ?_
          | refine DWL.cons ?_ ?_
          | refine DW.sf.trans (DW.sl ?_)
          | refine DW.sl ?_
          | refine DW.sff ?_
          | exact WkL.nil
          | exact trivial
          | exact DWRows.rfl_of (by simp [Function.comp_def, Ty.kids, Ty.kids_mk, mkS])
          )
    | @call D n f ar h1 h2 h3 h4 =>
      have hln : wLine (D + 1) (.mk 4 n pl0 pl0 xp0 f ar [] []) = [kCall :: n :: f :: wArgs ar] := by simp [wLine]
      have hxl := wArgs_len h4
      rw [hln] at hw2 hj
      obtain ⟨g1, g2⟩ := drop_cons (a := kCall :: n :: f :: wArgs ar) hw2
      have g0 := (List.getElem?_eq_some_iff.1 g1).1
      refine ⟨_, _, WkL.rfl, WkOs.rfl, wl, _, rfl, rfl, hG, (fun hn => absurd g0 (by omega)), (fun w ws hw3 => ?_)⟩
      rw [g1] at hw3
      injection hw3 with hw3
      injection hw3 with hw3 hw4
      subst hw3
      clear hw4
      refine goG2 ?_
      refine Br.no (by rfl) ?_
      refine wG ?_
      refine goG2 ?_
      refine Br.no (by rfl) ?_
      refine wG ?_
      refine goG2 ?_
      refine Br.no (by rfl) ?_
      refine wG ?_
      refine goG2 ?_
      refine Br.yes (by rfl) ?_
      refine wG ?_
      refine ⟨_, _, WkL.rfl, WkOs.rfl, wl, _, kCall :: n :: f :: wArgs ar, 3, rfl, rfl, hG, g1, by simp only [List.length_cons, List.length_nil]; omega, ?_⟩
      refine goG2 ?_
      refine ⟨dS (n), rfl, ?_⟩
      rw [dS_eq]
      refine wG ?_
      refine agG2 ?_
      refine ⟨dS (f), rfl, ?_⟩
      rw [dS_eq]
      refine wG ?_
      refine agG2 ?_
      refine ⟨_, _, (WkL.cons Wk.rfl (WkL.cons (Wk.d (DW.sl (DWRows.rfl_of (by rw [List.take_length]; rfl)))) WkL.rfl)), WkOs.rfl, wl, _, ar, rfl, rfl, by omega, h4, ?_⟩
      refine agG2 ?_
      left
      refine wG ?_
      refine agG2 ?_
      refine ⟨k + 1, by dsimp only; omega, by dsimp only; omega, [], Meet.mk rfl rfl ⟨.inl ?_, .inr ⟨rfl, rfl, rfl, ?_⟩, trivial⟩ ⟨Wk.rfl, trivial⟩ rfl⟩
      · show rdO wl (_ + 1) = rdO wl _
        rw [hj]; rfl
      · rw [ht1]
        refine rows_app (by first | (rw [dSt_eq]; done) | (rw [dSt_eq]; rfl)) ?_
        rw [dSt_eq]
        repeat' (first
          | exact Wk.rfl
          | exact WkL.rfl
          | exact WkOs.rfl
          | exact DWRows.rfl
          | exact Wk.nil _
          | exact DWL.rfl
          | exact DW.rfl
          | exact DW.nil _
          | exact DW.nilf _
          | exact DW.sf
          | refine Wk.agg ?_
          | refine Wk.tup ?_
          | refine WkL.cons ?_ ?_
          | refine Wk.d ?_
          | refine DWL.cons ?_ ?_
          | refine DW.sf.trans (DW.sl ?_)
          | refine DW.sl ?_
          | refine DW.sff ?_
          | exact WkL.nil
          | exact trivial
          | exact DWRows.rfl_of (by simp [Function.comp_def, Ty.kids, Ty.kids_mk, mkS])
          )
    | @ifs D x t e h1 h2 h3 h4 h5 h6 =>
      have hln : wLine (D + 1) (.mk 5 [] pl0 pl0 x [] [] t e) = (kIf :: wSay 4 x) :: (wLines D t ++ [kElse] :: (wLines D e ++ [[kEnd]])) := by simp [wLine, wLines]
      have hw5 := hw2
      have hj5 := hj
      rw [hln] at hw2 hj
      obtain ⟨g1, g2⟩ := drop_cons (a := kIf :: wSay 4 x) hw2
      have g0 := (List.getElem?_eq_some_iff.1 g1).1
      refine ⟨_, _, WkL.rfl, WkOs.rfl, wl, _, rfl, rfl, hG, (fun hn => absurd g0 (by omega)), (fun w ws hw3 => ?_)⟩
      rw [g1] at hw3
      injection hw3 with hw3
      injection hw3 with hw3 hw4
      subst hw3
      clear hw4
      refine goG2 ?_
      refine Br.no (by rfl) ?_
      refine wG ?_
      refine goG2 ?_
      refine Br.no (by rfl) ?_
      refine wG ?_
      refine goG2 ?_
      refine Br.no (by rfl) ?_
      refine wG ?_
      refine goG2 ?_
      refine Br.no (by rfl) ?_
      refine wG ?_
      refine goG2 ?_
      refine Br.yes (by rfl) ?_
      refine wG ?_
      refine goG2 ?_
      refine ⟨_, _, WkL.rfl, WkOs.rfl, wl, _, x, t, e, D, _, d, rfl, rfl, hG, hw5, .ifs h1 h2 h3 h4 h5 h6, by omega, by omega, by omega, ?_⟩
      refine goG2 ?_
      left
      refine wG ?_
      refine goG2 ?_
      refine ⟨k + 1, by dsimp only; omega, by dsimp only; omega, [], Meet.mk rfl rfl ⟨.inl ?_, .inr ⟨rfl, rfl, rfl, ?_⟩, trivial⟩ ⟨Wk.rfl, trivial⟩ rfl⟩
      · show rdO wl (_ + _) = rdO wl _
        rw [hj5]
      · rw [ht1]
        refine rows_app (by first | (rw [dSt_eq]; done) | (rw [dSt_eq]; rfl)) ?_
        rw [dSt_eq]
        repeat' (first
          | exact Wk.rfl
          | exact WkL.rfl
          | exact WkOs.rfl
          | exact DWRows.rfl
          | exact Wk.nil _
          | exact DWL.rfl
          | exact DW.rfl
          | exact DW.nil _
          | exact DW.nilf _
          | exact DW.sf
          | refine Wk.agg ?_
          | refine Wk.tup ?_
          | refine WkL.cons ?_ ?_
          | refine Wk.d ?_
          | refine DWL.cons ?_ ?_
          | refine DW.sf.trans (DW.sl ?_)
          | refine DW.sl ?_
          | refine DW.sff ?_
          | exact WkL.nil
          | exact trivial
          | exact DWRows.rfl_of (by simp [Function.comp_def, Ty.kids, Ty.kids_mk, mkS])
          )
    | @pick D n p q x h1 h2 h3 h4 =>
      have hln : wLine (D + 1) (.mk 6 n p q x [] [] [] []) = [kPick :: n :: atS p :: atS q :: wSay 4 x] := by simp [wLine]
      have hx0 := List.length_pos_iff.2 (wSay_ok h4).1.1
      have hxl := wSay_len h4
      rw [hln] at hw2 hj
      obtain ⟨g1, g2⟩ := drop_cons (a := kPick :: n :: atS p :: atS q :: wSay 4 x) hw2
      have g0 := (List.getElem?_eq_some_iff.1 g1).1
      refine ⟨_, _, WkL.rfl, WkOs.rfl, wl, _, rfl, rfl, hG, (fun hn => absurd g0 (by omega)), (fun w ws hw3 => ?_)⟩
      rw [g1] at hw3
      injection hw3 with hw3
      injection hw3 with hw3 hw4
      subst hw3
      clear hw4
      refine goG2 ?_
      refine Br.no (by rfl) ?_
      refine wG ?_
      refine goG2 ?_
      refine Br.no (by rfl) ?_
      refine wG ?_
      refine goG2 ?_
      refine Br.no (by rfl) ?_
      refine wG ?_
      refine goG2 ?_
      refine Br.no (by rfl) ?_
      refine wG ?_
      refine goG2 ?_
      refine Br.no (by rfl) ?_
      refine wG ?_
      refine goG2 ?_
      refine Br.yes (by rfl) ?_
      refine wG ?_
      refine ⟨_, _, WkL.rfl, WkOs.rfl, wl, _, kPick :: n :: atS p :: atS q :: wSay 4 x, 5, rfl, rfl, hG, g1, by simp only [List.length_cons, List.length_nil]; omega, ?_⟩
      refine goG2 ?_
      refine ⟨dS (n), rfl, ?_⟩
      rw [dS_eq]
      refine wG ?_
      refine agG2 ?_
      refine ⟨dS (atS p), rfl, ?_⟩
      rw [dS_eq]
      refine wG ?_
      refine agG2 ?_
      refine ⟨dS (atS q), rfl, ?_⟩
      rw [dS_eq]
      refine wG ?_
      refine agG2 ?_
      refine ⟨_, _, WkL.rfl, WkOs.rfl, wl, _, p, rfl, rfl, h2, ?_⟩
      refine agG2 ?_
      refine ⟨_, _, WkL.rfl, WkOs.rfl, wl, _, q, rfl, rfl, h3, ?_⟩
      refine agG2 ?_
      refine ⟨_, _, (WkL.cons Wk.rfl (WkL.cons (Wk.d (DW.sl (DWRows.rfl_of (by rw [List.take_length]; rfl)))) WkL.rfl)), WkOs.rfl, wl, _, x, rfl, rfl, h4, ?_⟩
      refine agG2 ?_
      left
      refine wG ?_
      refine agG2 ?_
      refine ⟨k + 1, by dsimp only; omega, by dsimp only; omega, [], Meet.mk rfl rfl ⟨.inl ?_, .inr ⟨rfl, rfl, rfl, ?_⟩, trivial⟩ ⟨Wk.rfl, trivial⟩ rfl⟩
      · show rdO wl (_ + 1) = rdO wl _
        rw [hj]; rfl
      · rw [ht1]
        refine rows_app (by first | (rw [dSt_eq]; done) | (rw [dSt_eq]; rfl)) ?_
        rw [dSt_eq]
        repeat' (first
          | exact Wk.rfl
          | exact WkL.rfl
          | exact WkOs.rfl
          | exact DWRows.rfl
          | exact Wk.nil _
          | exact DWL.rfl
          | exact DW.rfl
          | exact DW.nil _
          | exact DW.nilf _
          | exact DW.sf
          | refine Wk.agg ?_
          | refine Wk.tup ?_
          | refine WkL.cons ?_ ?_
          | refine Wk.d ?_
          | refine DWL.cons ?_ ?_
          | refine DW.sf.trans (DW.sl ?_)
          | refine DW.sl ?_
          | refine DW.sff ?_
          | exact WkL.nil
          | exact trivial
          | exact DWRows.rfl_of (by simp [Function.comp_def, Ty.kids, Ty.kids_mk, mkS])
          )
end Ab
