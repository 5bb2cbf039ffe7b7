/- The reference's words that write, third part: statements. -/
import Derived.Test.YtcajihigkjcgeaaGreatDoorSyn
import Derived.Test.YtcajihigkjcgeaaGreatDoorW1
import Derived.Test.YtcajihigkjcgeaaGreatDoorL3O
set_option linter.all false
namespace Ab
open Go Go.Proofs
set_option maxRecDepth 10000
set_option maxHeartbeats 4000000
set_option linter.all false

def argS (a : Ar) : Bs := bif a.lent then [32, 116, 111, 32] ++ atS a.pl else [32, 111, 102, 32] ++ sayS 4 a.ex
def argsS (l : List Ar) : Bs := (l.map argS).flatten
def lineS : Nat → St → Bs
  | 0, _ => []
  | d + 1, .mk k n p o x f ar t e =>
    if k = 1 then [108, 101, 116, 32] ++ n ++ [32] ++ sayS 4 x ++ [10]
    else if k = 2 then [108, 101, 110, 100, 32] ++ n ++ [32] ++ atS p ++ [10]
    else if k = 6 then [112, 105, 99, 107, 32] ++ n ++ [32] ++ atS p ++ [32] ++ atS o ++ [32] ++ sayS 4 x ++ [10]
    else if k = 3 then [115, 101, 116, 32] ++ atS p ++ [32] ++ sayS 4 x ++ [10]
    else if k = 4 then [99, 97, 108, 108, 32] ++ n ++ [32] ++ f ++ argsS ar ++ [10]
    else [105, 102, 32] ++ sayS 4 x ++ [10] ++ (t.map (lineS d)).flatten ++ [101, 108, 115, 101, 10] ++ (e.map (lineS d)).flatten ++ [101, 110, 100, 10]
def linesS (d : Nat) (l : List St) : Bs := (l.map (lineS d)).flatten
theorem linesS_snoc (d : Nat) (l : List St) (s : St) : linesS d (l ++ [s]) = linesS d l ++ lineS d s := by simp [linesS]
theorem argsS_snoc (l : List Ar) (s : Ar) : argsS (l ++ [s]) = argsS l ++ argS s := by simp [argsS]
theorem say4_len {x : Xp} (h : XpF 4 x) : (sayS 4 x).length ≤ 320 := by have := sayS_len h; omega
theorem argS_len {a : Ar} (h : ArF a) : (argS a).length ≤ 330 := by
  cases h with
  | lent h => have := atS_len h; simp only [argS, cond_true, List.length_append, List.length_cons, List.length_nil]; omega
  | own h => have := say4_len h; simp only [argS, cond_false, List.length_append, List.length_cons, List.length_nil]; omega
theorem argsS_len : ∀ {l : List Ar}, (∀ a ∈ l, ArF a) → (argsS l).length ≤ 330 * l.length
  | [], _ => by simp [argsS]
  | a :: l, h => by
    have h1 := argS_len (h a (by simp))
    have h2 := argsS_len (l := l) (fun b hb => h b (List.mem_cons_of_mem _ hb))
    simp only [argsS, List.map_cons, List.flatten_cons, List.length_append, List.length_cons] at h2 ⊢
    omega
theorem name_len {n : Bs} (h : nameOk n = true) : n.length ≤ 6 := by
  simp only [nameOk, Bool.and_eq_true, decide_eq_true_eq] at h; exact h.1.2
theorem flatS_len {d : Nat} (hs : ∀ {s : St}, StF d s → (lineS d s).length ≤ 2000 * cntS s) : ∀ {l : List St}, (∀ s ∈ l, StF d s) → (linesS d l).length ≤ 2000 * cntB l
  | [], _ => by simp [linesS, cntB]
  | s :: l, h => by
    have h1 := hs (h s (by simp))
    have h2 := flatS_len hs (l := l) (fun b hb => h b (List.mem_cons_of_mem _ hb))
    simp only [linesS, cntB, List.map_cons, List.flatten_cons, List.length_append, List.sum_cons] at h2 ⊢
    omega
theorem lineS_len : ∀ {d : Nat} {s : St}, StF d s → (lineS d s).length ≤ 2000 * cntS s
  | _, _, .let_ h1 h2 => by
    have a1 := name_len h1; have a2 := say4_len h2
    rw [cntS_eq]; simp only [lineS, if_true, List.length_append, List.length_cons, List.length_nil]; omega
  | _, _, .lend h1 h2 => by
    have a1 := name_len h1; have a2 := atS_len h2
    rw [cntS_eq]; simp [lineS]; omega
  | _, _, .set h1 h2 => by
    have a1 := atS_len h1; have a2 := say4_len h2
    rw [cntS_eq]; simp [lineS]; omega
  | _, _, .call h1 h2 h3 h4 => by
    have a1 := name_len h1; have a2 := name_len h2; have a3 := argsS_len h4
    rw [cntS_eq]; simp [lineS]; omega
  | _, _, .pick h1 h2 h3 h4 => by
    have a1 := name_len h1; have a2 := atS_len h2; have a3 := atS_len h3; have a4 := say4_len h4
    rw [cntS_eq]; simp [lineS]; omega
  | d + 1, _, .ifs (t := t) (e := e) h1 h2 h3 h4 h5 h6 => by
    have a1 := say4_len h1
    have a2 := flatS_len lineS_len h4
    have a3 := flatS_len lineS_len h6
    rw [cntS_eq]
    simp only [linesS] at a2 a3
    simp [lineS, St.thn, St.els] at a2 a3 ⊢
    omega
theorem linesS_len {d : Nat} {l : List St} (h : ∀ s ∈ l, StF d s) : (linesS d l).length ≤ 2000 * cntB l := flatS_len lineS_len h
/-- l2Lines -/
def S_s_l2Lines (n : Nat) : Spec := fun args O Q => ∃ (l : List St) (d : Nat), args = [.d (.sl 15 (l.map dSt))] ∧ O = [] ∧ d < n ∧ (∀ s ∈ l, StF d s) ∧ cntB l ≤ 100000 ∧ Q (.d (.s (linesS d l))) []
theorem v_s_l2Lines {B : World} : ∀ n, Valid PG B s_l2Lines (S_s_l2Lines n) := by
  refine valid_lt (fun args O Q ⟨x, m, _, _, h1, _⟩ => by omega) fun n ih => ?_
  refine valid_of (Γ := [(s_l2Say, ⟨[], S_s_l2Say 5⟩), (s_l2At, ⟨[], S_s_l2At⟩), (s_l2Lines, ⟨[], S_s_l2Lines n⟩)]) wide tok (((AllValid.nil.cons ih).cons v_s_l2At).cons (v_s_l2Say 5)) g_s_l2Lines rfl rfl ?_
  rintro _ _ Q ⟨l, d, rfl, rfl, hd, hl, hc, hQ⟩
  have hll := cntB_len l
  refine wG ?_
  refine ⟨[], Int, fun i => 0 ≤ i ∧ i ≤ l.length, fun i => (l.length - i).toNat, fun i => [(3, .d (.s (linesS d (l.take i.toNat)))), (4, iv i)], fun i => [], 0, ⟨by omega, by omega⟩, ?_⟩
  refine wG ?_
  refine ⟨Meet.mk rfl rfl (WkOs.rfl) ⟨Wk.rfl, Wk.rfl, trivial⟩ rfl, ?_⟩
  rintro i ⟨i0, i1⟩
  refine wG ?_
  refine brG3 (fun h => ?_) (fun h => ?_)
  · have hi : i.toNat < l.length := by
      have h : i < (l.length : Int) := by simpa using h
      omega
    have e3 : (i + 1).toNat = i.toNat + 1 := by omega
    have hF := hl _ (List.getElem_mem hi)
    have hx : (l.map dSt)[i.toNat]? = some (dSt l[i.toNat]) := by simp [hi]
    have hs : linesS d (l.take (i + 1).toNat) = linesS d (l.take i.toNat) ++ lineS d l[i.toNat] := by
      rw [e3, List.take_succ_eq_append_getElem hi, linesS_snoc]
    have hl1 : (linesS d (l.take i.toNat)).length ≤ 200000000 := by
      have a1 := linesS_len (l := l.take i.toNat) (fun s hs => hl s (List.mem_of_mem_take hs))
      have a2 : cntB (l.take i.toNat) ≤ cntB l := cntB_take l i.toNat
      omega
    have hc1 : cntS l[i.toNat] ≤ 100000 := by
      have := cntB_take1 l hi
      omega
    generalize hS : linesS d (l.take i.toNat) = S at *
    generalize l[i.toNat] = s at *
    refine Req.mk i0 ?_
    refine ⟨_, hx, ?_⟩
    rw [dSt_eq]
    refine wG ?_
    cases hF with
    | @let_ d n x h1 h2 =>
      have a1 := name_len h1; have a2 := say4_len h2
      refine Br.yes (by rfl) ?_
      refine wG ?_
      refine goG3 ?_
      refine ⟨_, _, WkL.rfl, WkOs.rfl, x, 4, rfl, rfl, by omega, by omega, h2, ?_⟩
      refine goG3 ?_
      refine ⟨i + 1, ⟨by omega, by omega⟩, by dsimp only; omega, [], Meet.mk rfl rfl WkOs.rfl ⟨Wk.of_eq ?_, Wk.rfl, trivial⟩ rfl⟩
      dsimp only
      rw [hs]
      show AV.d (DV.s _) = AV.d (DV.s (_ ++ lineS (d + 1) (.mk 1 n pl0 pl0 x [] [] [] [])))
      simp [lineS, mkS, St.name]
    | @lend d n p h1 h2 =>
      have a1 := name_len h1; have a2 := atS_len h2
      refine Br.no (by rfl) ?_
      refine wG ?_
      refine Br.yes (by rfl) ?_
      refine wG ?_
      refine goG3 ?_
      refine ⟨_, _, WkL.rfl, WkOs.rfl, p, rfl, rfl, h2, ?_⟩
      refine goG3 ?_
      refine ⟨i + 1, ⟨by omega, by omega⟩, by dsimp only; omega, [], Meet.mk rfl rfl WkOs.rfl ⟨Wk.of_eq ?_, Wk.rfl, trivial⟩ rfl⟩
      dsimp only
      rw [hs]
      show AV.d (DV.s _) = AV.d (DV.s (_ ++ lineS (d + 1) (.mk 2 n p pl0 xp0 [] [] [] [])))
      simp [lineS, mkS, St.name]
    | @set d p x h1 h2 =>
      have a1 := atS_len h1; have a2 := say4_len h2
      refine Br.no (by rfl) ?_
      refine wG ?_
      refine Br.no (by rfl) ?_
      refine wG ?_
      refine Br.no (by rfl) ?_
      refine wG ?_
      refine Br.yes (by rfl) ?_
      refine wG ?_
      refine goG3 ?_
      refine ⟨_, _, WkL.rfl, WkOs.rfl, p, rfl, rfl, h1, ?_⟩
      refine goG3 ?_
      refine ⟨_, _, WkL.rfl, WkOs.rfl, x, 4, rfl, rfl, by omega, by omega, h2, ?_⟩
      refine goG3 ?_
      refine ⟨i + 1, ⟨by omega, by omega⟩, by dsimp only; omega, [], Meet.mk rfl rfl WkOs.rfl ⟨Wk.of_eq ?_, Wk.rfl, trivial⟩ rfl⟩
      dsimp only
      rw [hs]
      show AV.d (DV.s _) = AV.d (DV.s (_ ++ lineS (d + 1) (.mk 3 [] p pl0 x [] [] [] [])))
      simp [lineS, mkS]
    | @call d n f ar h1 h2 h3 h4 =>
      have a1 := name_len h1; have a2 := name_len h2
      refine Br.no (by rfl) ?_
      refine wG ?_
      refine Br.no (by rfl) ?_
      refine wG ?_
      refine Br.no (by rfl) ?_
      refine wG ?_
      refine Br.no (by rfl) ?_
      refine wG ?_
      refine Br.yes (by rfl) ?_
      refine wG ?_
      refine goG3 ?_
      have hB : (S ++ [99, 97, 108, 108, 32] ++ n ++ [32] ++ f).length ≤ 300000000 := by simp only [List.length_append, List.length_cons, List.length_nil]; omega
      refine ⟨[], Int, fun j => 0 ≤ j ∧ j ≤ ar.length, fun j => (ar.length - j).toNat, fun j => [(3, .d (.s (S ++ [99, 97, 108, 108, 32] ++ n ++ [32] ++ f ++ argsS (ar.take j.toNat)))), (6, iv j)], fun _ => [bSt (callSt n f ar)], 0, ⟨by omega, by omega⟩, ?_⟩
      refine wG ?_
      refine ⟨Meet.mk rfl rfl (WkOs.rfl) ⟨Wk.of_eq (by show AV.d (DV.s _) = AV.d (DV.s (S ++ [99, 97, 108, 108, 32] ++ n ++ [32] ++ f ++ argsS [])); simp [mkS, argsS, St.name, St.fn]), Wk.rfl, trivial⟩ rfl, ?_⟩
      rintro j ⟨j0, j1⟩
      refine wG ?_
      have hAl : (argsS (ar.take j.toNat)).length ≤ 330 * 4 := by
        have z1 := argsS_len (l := ar.take j.toNat) (fun a ha => h4 a (List.mem_of_mem_take ha))
        have z2 : (ar.take j.toNat).length ≤ 4 := by simp; omega
        omega
      have hsl : lineS (d + 1) (.mk 4 n pl0 pl0 xp0 f ar [] []) = [99, 97, 108, 108, 32] ++ n ++ [32] ++ f ++ argsS ar ++ [10] := by simp [lineS]
      generalize hB0 : S ++ [99, 97, 108, 108, 32] ++ n ++ [32] ++ f = B0 at *
      refine brG3 (fun h5 => ?_) (fun h5 => ?_)
      · have hj : j.toNat < ar.length := by
          have h5 : j < (ar.length : Int) := by simpa [St.args] using h5
          omega
        have e4 : (j + 1).toNat = j.toNat + 1 := by omega
        have hA := h4 _ (List.getElem_mem hj)
        have hxa : (ar.map dAr)[j.toNat]? = some (dAr ar[j.toNat]) := by simp [hj]
        have hs2 : argsS (ar.take (j + 1).toNat) = argsS (ar.take j.toNat) ++ argS ar[j.toNat] := by
          rw [e4, List.take_succ_eq_append_getElem hj, argsS_snoc]
        generalize hA0 : argsS (ar.take j.toNat) = A0 at *
        generalize ar[j.toNat] = a at *
        refine Req.mk j0 ?_
        refine ⟨_, hxa, ?_⟩
        rw [dAr_eq]
        refine wG ?_
        cases hA with
        | @lent q hq =>
          have b1 := atS_len hq
          refine Br.yes (by rfl) ?_
          refine wG ?_
          refine goG3 ?_
          refine ⟨_, hxa, ?_⟩
          rw [dAr_eq]
          refine wG ?_
          refine ⟨_, _, WkL.rfl, WkOs.rfl, q, rfl, rfl, hq, ?_⟩
          refine goG3 ?_
          refine ⟨j + 1, ⟨by omega, by omega⟩, by dsimp only; omega, [], Meet.mk rfl rfl WkOs.rfl ⟨Wk.of_eq ?_, Wk.rfl, trivial⟩ rfl⟩
          dsimp only
          rw [hs2]
          show AV.d (DV.s _) = AV.d (DV.s (_ ++ (A0 ++ argS ⟨true, q, xp0⟩)))
          simp [argS, mkS]
        | @own x hx =>
          have b1 := say4_len hx
          refine Br.no (by rfl) ?_
          refine wG ?_
          refine goG3 ?_
          refine ⟨_, hxa, ?_⟩
          rw [dAr_eq]
          refine wG ?_
          refine ⟨_, _, WkL.rfl, WkOs.rfl, x, 4, rfl, rfl, by omega, by omega, hx, ?_⟩
          refine goG3 ?_
          refine ⟨j + 1, ⟨by omega, by omega⟩, by dsimp only; omega, [], Meet.mk rfl rfl WkOs.rfl ⟨Wk.of_eq ?_, Wk.rfl, trivial⟩ rfl⟩
          dsimp only
          rw [hs2]
          show AV.d (DV.s _) = AV.d (DV.s (_ ++ (A0 ++ argS ⟨false, pl0, x⟩)))
          simp [argS, mkS]
      · have hj : ¬ j < (ar.length : Int) := by simpa [St.args] using h5
        rw [List.take_of_length_le (by omega)] at hAl ⊢
        refine goG3 ?_
        refine ⟨i + 1, ⟨by omega, by omega⟩, by dsimp only; omega, [], Meet.mk rfl rfl WkOs.rfl ⟨Wk.of_eq ?_, Wk.rfl, trivial⟩ rfl⟩
        dsimp only
        rw [hs]
        rw [hsl]
        show AV.d (DV.s _) = AV.d (DV.s _)
        simp [mkS, ← hB0]
    | @pick d n p q x h1 h2 h3 h4 =>
      have a1 := name_len h1; have a2 := atS_len h2; have a3 := atS_len h3; have a4 := say4_len h4
      refine Br.no (by rfl) ?_
      refine wG ?_
      refine Br.no (by rfl) ?_
      refine wG ?_
      refine Br.yes (by rfl) ?_
      refine wG ?_
      refine goG3 ?_
      refine ⟨_, _, WkL.rfl, WkOs.rfl, p, rfl, rfl, h2, ?_⟩
      refine goG3 ?_
      refine ⟨_, _, WkL.rfl, WkOs.rfl, q, rfl, rfl, h3, ?_⟩
      refine goG3 ?_
      refine ⟨_, _, WkL.rfl, WkOs.rfl, x, 4, rfl, rfl, by omega, by omega, h4, ?_⟩
      refine goG3 ?_
      refine ⟨i + 1, ⟨by omega, by omega⟩, by dsimp only; omega, [], Meet.mk rfl rfl WkOs.rfl ⟨Wk.of_eq ?_, Wk.rfl, trivial⟩ rfl⟩
      dsimp only
      rw [hs]
      show AV.d (DV.s _) = AV.d (DV.s (_ ++ lineS (d + 1) (.mk 6 n p q x [] [] [] [])))
      simp [lineS, mkS, St.name]
    | @ifs d x t e h1 h2 h3 h4 h5 h6 =>
      have a1 := say4_len h1
      have a2 := linesS_len h4
      have a3 := linesS_len h6
      rw [cntS_eq] at hc1
      simp only [St.thn, St.els] at hc1
      refine Br.no (by rfl) ?_
      refine wG ?_
      refine Br.no (by rfl) ?_
      refine wG ?_
      refine Br.no (by rfl) ?_
      refine wG ?_
      refine Br.no (by rfl) ?_
      refine wG ?_
      refine Br.no (by rfl) ?_
      refine wG ?_
      refine goG3 ?_
      refine ⟨_, _, WkL.rfl, WkOs.rfl, x, 4, rfl, rfl, by omega, by omega, h1, ?_⟩
      refine goG3 ?_
      refine ⟨_, _, WkL.rfl, WkOs.rfl, t, d, rfl, rfl, by omega, h4, by omega, ?_⟩
      refine goG3 ?_
      refine ⟨_, _, WkL.rfl, WkOs.rfl, e, d, rfl, rfl, by omega, h6, by omega, ?_⟩
      refine goG3 ?_
      refine ⟨i + 1, ⟨by omega, by omega⟩, by dsimp only; omega, [], Meet.mk rfl rfl WkOs.rfl ⟨Wk.of_eq ?_, Wk.rfl, trivial⟩ rfl⟩
      dsimp only
      rw [hs]
      show AV.d (DV.s _) = AV.d (DV.s (_ ++ lineS (d + 1) (.mk 5 [] pl0 pl0 x [] [] t e)))
      simp [lineS, mkS, linesS]
  · have hi : ¬ i < (l.length : Int) := by simpa using h
    rw [List.take_of_length_le (by omega)]
    refine goG3 ?_
    refine endK ⟨[], ⟨rfl, rfl⟩, ?_⟩
    refine wG ?_
    exact ⟨_, _, Wk.rfl, WkOs.rfl, hQ⟩
end Ab
