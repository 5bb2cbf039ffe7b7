/- The program's words that write, into a builder: a line, statements. -/
import Derived.Test.YtcajihigkjcgeaaGreatDoorSyn
import Derived.Test.YtcajihigkjcgeaaGreatDoorJ1
import Derived.Test.YtcajihigkjcgeaaGreatDoorI6
import Derived.Test.YtcajihigkjcgeaaGreatDoorR1
set_option linter.all false
namespace Ab
open Go Go.Proofs
set_option maxRecDepth 10000
set_option maxHeartbeats 4000000
set_option linter.all false

/-- what a builder may be while it holds l -/
def eAt (es : List (DV × List AV)) (l : Bs) : Prop := es = [(.i .i64 (bE : Nat), []), (.s l, [])] ∨ es = [] ∧ l = []
theorem eAt.o {es : List (DV × List AV)} {l : Bs} (h : eAt es l) : (Obj.map bT es = bld l ∨ Obj.map bT es = .map bT [] ∧ l = []) := by
  rcases h with rfl | ⟨rfl, rfl⟩
  · exact .inl rfl
  · exact .inr ⟨rfl, rfl⟩
theorem eAt_bld (l : Bs) : eAt [(.i .i64 (bE : Nat), []), (.s l, [])] l := .inl rfl
theorem lineT1 (a : Bs) : lineT [a] = a := Lib.join_one a _
theorem lineT2 (a b : Bs) : lineT [a, b] = a ++ [32] ++ b := by rw [lineT, join_cons2, Lib.join_one]
theorem lineT3 (a b c : Bs) : lineT [a, b, c] = a ++ [32] ++ b ++ [32] ++ c := by rw [lineT, join_cons2, join_cons2, Lib.join_one]; simp
theorem lineT5 (a b c d e : Bs) : lineT [a, b, c, d, e] = a ++ [32] ++ b ++ [32] ++ c ++ [32] ++ d ++ [32] ++ e := by rw [lineT, join_cons2, join_cons2, join_cons2, join_cons2, Lib.join_one]; simp
/-- impl.progLine -/
def S_i_progLine : Spec := fun args O Q => ∃ (ws : List Bs) (es : List (DV × List AV)) (l : Bs), args = [.ptr 0 0, .d (.sl 1 (ws.map dS))] ∧ O = [.map bT es] ∧ eAt es l ∧ ws.length ≤ 100000 ∧ l.length + (lineT ws).length ≤ 10000000 ∧ Q (.tup []) [bld (l ++ lineT ws ++ [10])]
theorem v_i_progLine {B : World} : Valid PG B i_progLine S_i_progLine := by
  refine valid_of (Γ := [(x_strings_Join, ⟨[], S_x_strings_Join⟩), (x_strings_Builder_WriteString, ⟨[], S_x_WriteString⟩), (x_strings_Builder_WriteByte, ⟨[], S_x_WriteByte⟩)]) wide tok (((AllValid.nil.cons v_x_WriteByte).cons v_x_WriteString).cons v_x_strings_Join) g_i_progLine rfl rfl ?_
  rintro _ _ Q ⟨ws, es, l, rfl, rfl, ho, hw, hl, hQ⟩
  have ho' := eAt.o ho
  rcases ho with rfl | ⟨rfl, rfl⟩
  · refine wG ?_
    refine ⟨_, _, WkL.rfl, WkOs.rfl, ws, [32], rfl, hw, by have : (Lib.join ws [32]).length = (lineT ws).length := rfl; omega, ?_⟩
    refine goG2 ?_
    refine ⟨_, _, WkL.rfl, WkOs.rfl, lineT ws, _, _, rfl, rfl, ho', by first | omega | (simp at hl ⊢; omega), ?_⟩
    refine goG2 ?_
    refine ⟨_, _, WkL.rfl, WkOs.rfl, 10, _, _, rfl, rfl, .inl rfl, by simp only [List.length_append]; omega, ?_⟩
    refine goG2 ?_
    refine endK ⟨[], ⟨rfl, rfl⟩, ?_⟩
    refine wG ?_
    exact ⟨_, _, Wk.rfl, WkOs.rfl, hQ⟩
  · refine wG ?_
    refine ⟨_, _, WkL.rfl, WkOs.rfl, ws, [32], rfl, hw, by have : (Lib.join ws [32]).length = (lineT ws).length := rfl; omega, ?_⟩
    refine goG2 ?_
    refine ⟨_, _, WkL.rfl, WkOs.rfl, lineT ws, _, _, rfl, rfl, ho', by first | omega | (simp at hl ⊢; omega), ?_⟩
    refine goG2 ?_
    refine ⟨_, _, WkL.rfl, WkOs.rfl, 10, _, _, rfl, rfl, .inl rfl, by simp only [List.length_append]; omega, ?_⟩
    refine goG2 ?_
    refine endK ⟨[], ⟨rfl, rfl⟩, ?_⟩
    refine wG ?_
    exact ⟨_, _, Wk.rfl, WkOs.rfl, hQ⟩
def argW (a : Ar) : List Bs := bif a.lent then [[116, 111], atS a.pl] else [[111, 102], sayS 4 a.ex]
def argsW (l : List Ar) : List Bs := (l.map argW).flatten
theorem argsW_len : ∀ l : List Ar, (argsW l).length = 2 * l.length
  | [] => rfl
  | a :: l => by
    have := argsW_len l
    have u : argsW (a :: l) = argW a ++ argsW l := by simp [argsW]
    have v : (argW a).length = 2 := by unfold argW; cases a.lent <;> rfl
    rw [u, List.length_append, v, this, List.length_cons]; omega
theorem argsW_line : ∀ {l : List Ar} {x : List Bs}, x ≠ [] → lineT (x ++ argsW l) = lineT x ++ argsS l
  | [], x, _ => by simp [argsW, argsS]
  | a :: l, x, hx => by
    have u : argsW (a :: l) = argW a ++ argsW l := by simp [argsW]
    have v : argsS (a :: l) = argS a ++ argsS l := by simp [argsS]
    have g : argW a ≠ [] := by unfold argW; cases a.lent <;> simp
    have w : argS a = 32 :: lineT (argW a) := by unfold argS argW; cases a.lent <;> simp [lineT2]
    have j : lineT (x ++ argW a) = lineT x ++ [32] ++ lineT (argW a) := join_app hx g
    rw [u, v, w, ← List.append_assoc, argsW_line (by simp [hx]), j]; simp
theorem argsW_snoc (l : List Ar) (a : Ar) : argsW (l ++ [a]) = argsW l ++ argW a := by simp [argsW]
/-- impl.stmtsWrite -/
def S_i_stmtsWrite (n : Nat) : Spec := fun args O Q => ∃ (l : List St) (d : Nat) (T : Bs), args = [.ptr 0 0, .d (.sl 15 (l.map dSt))] ∧ O = [bld T] ∧ d < n ∧ (∀ s ∈ l, StF d s) ∧ T.length + 2000 * cntB l ≤ 5000000 ∧ Q (.tup []) [bld (T ++ linesS d l)]
theorem v_i_stmtsWrite {B : World} (hB : Tabs B) : ∀ n, Valid PG B i_stmtsWrite (S_i_stmtsWrite n) := by
  refine valid_lt (fun args O Q ⟨l, d, _, _, _, h, _⟩ => by omega) fun n ih => ?_
  refine valid_of (Γ := [(i_stmtOf, ⟨[], S_i_stmtOf⟩), (i_progLine, ⟨[], S_i_progLine⟩), (i_exprText, ⟨[], S_s_l2Say 10⟩), (i_placeText, ⟨[], S_s_l2At⟩), (i_stmtsWrite, ⟨[], S_i_stmtsWrite n⟩)]) wide tok (((((AllValid.nil.cons ih).cons (v_i_placeText hB)).cons (v_i_exprText hB 10)).cons v_i_progLine).cons v_i_stmtOf) g_i_stmtsWrite rfl rfl ?_
  rintro _ _ Q ⟨l, d, T, rfl, rfl, hd, hF, hT, hQ⟩
  have hln := cntB_len l
  refine wG ?_
  refine ⟨[], Int, fun i => 0 ≤ i ∧ i ≤ l.length, fun i => (l.length - i).toNat, fun i => [(17, iv i)], fun i => [bld (T ++ linesS d (l.take i.toNat))], 0, ⟨by omega, by omega⟩, ?_⟩
  refine wG ?_
  refine ⟨Meet.mk rfl rfl (WkOs.of_eq (by show [bld T] = [bld (T ++ [])]; simp)) ⟨Wk.rfl, trivial⟩ rfl, ?_⟩
  rintro i ⟨i0, i1⟩
  refine wG ?_
  refine brG2 (fun h => ?_) (fun h => ?_)
  · have h : i < (l.length : Int) := by simpa using h
    have hi : i.toNat < l.length := by omega
    have e3 : (i + 1).toNat = i.toNat + 1 := by omega
    have hkm := List.getElem_mem hi
    have hx : (l.map dSt)[i.toNat]? = some (dSt l[i.toNat]) := by simp [hi]
    have hs : T ++ linesS d (l.take (i + 1).toNat) = T ++ linesS d (l.take i.toNat) ++ lineS d l[i.toNat] := by
      rw [e3, List.take_succ_eq_append_getElem hi, linesS_snoc]; simp
    have hc2 := cntB_take1 l hi
    have hU : T.length + (linesS d (l.take i.toNat)).length + 2000 * cntS l[i.toNat] ≤ 5000000 := by
      have := linesS_len (l := l.take i.toNat) (fun s hs => hF s (List.mem_of_mem_take hs))
      omega
    have hf := hF _ hkm
    generalize l[i.toNat] = s at *
    refine Req.mk i0 ?_
    refine ⟨_, hx, ?_⟩
    rw [dSt_eq]
    refine wG ?_
    refine goG2 ?_
    refine ⟨_, _, WkL.rfl, WkOs.rfl, s, rfl, rfl, ?_⟩
    have hcp := cntS_pos s
    have fin : ∀ T2 : Bs, T2 = T ++ linesS d (l.take i.toNat) ++ lineS d s → [bld T2] = [bld (T ++ linesS d (l.take (i + 1).toNat))] := fun T2 h => by rw [hs, h]
    cases hf with
    | @let_ d n x h1 h2 =>
      have e : stSh (.mk 1 n pl0 pl0 x [] [] [] []) = .let_ n x := by simp [stSh, stNo, St.kind, St.name, St.pl, St.other, St.ex, St.fn, St.args, St.thn, St.els, plNo_0, xpNo_0]
      have l1 := name_len h1; have l2 := say4_len h2
      rw [e]
      refine goG2 ?_
      refine ⟨_, _, WkL.rfl, WkOs.rfl, x, 4, rfl, rfl, by omega, by omega, h2, ?_⟩
      refine goG2 ?_
      left
      refine wG ?_
      refine goG2 ?_
      refine ⟨_, _, (WkL.cons Wk.rfl (WkL.cons (Wk.d DW.sf) WkL.nil)), WkOs.rfl, [kLet, n, sayS 4 x], _, _, rfl, rfl, eAt_bld _, by simp, by (try rw [lineT3]); simp only [List.length_append, List.length_cons, List.length_nil] at *; omega, ?_⟩
      refine goG2 ?_
      refine ⟨i + 1, ⟨by omega, by omega⟩, by dsimp only; omega, [], Meet.mk rfl rfl (WkOs.of_eq (fin _ ?_)) ⟨Wk.rfl, trivial⟩ rfl⟩
      rw [lineT3]; simp [lineS]
    | @lend d n p h1 h2 =>
      have e : stSh (.mk 2 n p pl0 xp0 [] [] [] []) = .lend n p := by simp [stSh, stNo, St.kind, St.name, St.pl, St.other, St.ex, St.fn, St.args, St.thn, St.els, plNo_0, xpNo_0]
      have l1 := name_len h1; have l2 := atS_len h2
      rw [e]
      refine goG2 ?_
      refine ⟨_, _, WkL.rfl, WkOs.rfl, p, rfl, rfl, h2, ?_⟩
      refine goG2 ?_
      left
      refine wG ?_
      refine goG2 ?_
      refine ⟨_, _, (WkL.cons Wk.rfl (WkL.cons (Wk.d DW.sf) WkL.nil)), WkOs.rfl, [kLend, n, atS p], _, _, rfl, rfl, eAt_bld _, by simp, by (try rw [lineT3]); simp only [List.length_append, List.length_cons, List.length_nil] at *; omega, ?_⟩
      refine goG2 ?_
      refine ⟨i + 1, ⟨by omega, by omega⟩, by dsimp only; omega, [], Meet.mk rfl rfl (WkOs.of_eq (fin _ ?_)) ⟨Wk.rfl, trivial⟩ rfl⟩
      rw [lineT3]; simp [lineS]
    | @set d p x h1 h2 =>
      have e : stSh (.mk 3 [] p pl0 x [] [] [] []) = .set p x := by simp [stSh, stNo, St.kind, St.name, St.pl, St.other, St.ex, St.fn, St.args, St.thn, St.els, plNo_0, xpNo_0]
      have l1 := atS_len h1; have l2 := say4_len h2
      rw [e]
      refine goG2 ?_
      refine ⟨_, _, WkL.rfl, WkOs.rfl, p, rfl, rfl, h1, ?_⟩
      refine goG2 ?_
      refine ⟨_, _, WkL.rfl, WkOs.rfl, x, 4, rfl, rfl, by omega, by omega, h2, ?_⟩
      refine goG2 ?_
      left
      refine wG ?_
      refine goG2 ?_
      refine ⟨_, _, (WkL.cons Wk.rfl (WkL.cons (Wk.d DW.sf) WkL.nil)), WkOs.rfl, [kSet, atS p, sayS 4 x], _, _, rfl, rfl, eAt_bld _, by simp, by (try rw [lineT3]); simp only [List.length_append, List.length_cons, List.length_nil] at *; omega, ?_⟩
      refine goG2 ?_
      refine ⟨i + 1, ⟨by omega, by omega⟩, by dsimp only; omega, [], Meet.mk rfl rfl (WkOs.of_eq (fin _ ?_)) ⟨Wk.rfl, trivial⟩ rfl⟩
      rw [lineT3]; simp [lineS]
    | @call d n f ar h1 h2 h3 h4 =>
      have e : stSh (.mk 4 n pl0 pl0 xp0 f ar [] []) = .call n f ar := by simp [stSh, stNo, St.kind, St.name, St.pl, St.other, St.ex, St.fn, St.args, St.thn, St.els, plNo_0, xpNo_0]
      have l1 := name_len h1; have l2 := name_len h2
      rw [e]
      refine goG2 ?_
      right
      refine wG ?_
      refine goG2 ?_
      refine ⟨[], Int, fun j => 0 ≤ j ∧ j ≤ ar.length, fun j => (ar.length - j).toNat, fun j => [(10, .row 3 1), (68, iv j)], fun j => [bld (T ++ linesS (d + 1) (l.take i.toNat)), bSt (.mk 4 n pl0 pl0 xp0 f ar [] []), .cells [sv n, sv f, .d (.sl 8 (ar.map dAr))], .row 1 true 1 ((kCall :: n :: f :: argsW (ar.take j.toNat)).map dS)], 0, ⟨by omega, by omega⟩, ?_⟩
      refine wG ?_
      refine ⟨Meet.mk rfl rfl WkOs.rfl ⟨Wk.rfl, Wk.rfl, trivial⟩ rfl, ?_⟩
      rintro j ⟨j0, j1⟩
      refine wG ?_
      refine brG2 (fun h5 => ?_) (fun h5 => ?_)
      · have h5 : j < (ar.length : Int) := by simpa using h5
        have hj : j.toNat < ar.length := by omega
        have e4 : (j + 1).toNat = j.toNat + 1 := by omega
        have hxa : (ar.map dAr)[j.toNat]? = some (dAr ar[j.toNat]) := by simp [hj]
        have hs2 : argsW (ar.take (j + 1).toNat) = argsW (ar.take j.toNat) ++ argW ar[j.toNat] := by
          rw [e4, List.take_succ_eq_append_getElem hj, argsW_snoc]
        have hwl := argsW_len (ar.take j.toNat)
        have hwl2 : (ar.take j.toNat).length = j.toNat := by simp; omega
        have hfa := h4 _ (List.getElem_mem hj)
        generalize ar[j.toNat] = a at *
        refine Req.mk j0 ?_
        refine ⟨_, hxa, ?_⟩
        rw [dAr_eq]
        refine wG ?_
        refine goG2 ?_
        cases hfa with
        | @lent p hp =>
          refine Br.yes (by rfl) ?_
          refine wG ?_
          refine ⟨_, _, WkL.rfl, WkOs.rfl, p, rfl, rfl, hp, ?_⟩
          refine goG2 ?_
          left
          refine wG ?_
          refine goG2 ?_
          refine ⟨j + 1, ⟨by omega, by omega⟩, by dsimp only; omega, [], Meet.mk rfl rfl ⟨WkO.rfl, WkO.rfl, WkO.rfl, .inr ⟨rfl, rfl, rfl, DWRows.rfl_of ?_⟩, trivial⟩ ⟨Wk.rfl, Wk.rfl, trivial⟩ rfl⟩
          dsimp only
          rw [hs2]; simp [argW, dS]
        | @own x hx =>
          refine Br.no (by rfl) ?_
          refine wG ?_
          refine ⟨_, _, WkL.rfl, WkOs.rfl, x, 4, rfl, rfl, by omega, by omega, hx, ?_⟩
          refine goG2 ?_
          left
          refine wG ?_
          refine goG2 ?_
          refine ⟨j + 1, ⟨by omega, by omega⟩, by dsimp only; omega, [], Meet.mk rfl rfl ⟨WkO.rfl, WkO.rfl, WkO.rfl, .inr ⟨rfl, rfl, rfl, DWRows.rfl_of ?_⟩, trivial⟩ ⟨Wk.rfl, Wk.rfl, trivial⟩ rfl⟩
          dsimp only
          rw [hs2]; simp [argW, dS]
      · have h5 : ¬ j < (ar.length : Int) := by simpa using h5
        have e5 : ar.take j.toNat = ar := List.take_of_length_le (by omega)
        have z : lineT (kCall :: n :: f :: argsW (ar.take j.toNat)) = kCall ++ [32] ++ n ++ [32] ++ f ++ argsS ar := by
          have u : kCall :: n :: f :: argsW (ar.take j.toNat) = [kCall, n, f] ++ argsW (ar.take j.toNat) := rfl
          rw [u, argsW_line (by simp), lineT3, e5]
        have z1 := argsS_len h4
        have z2 := argsW_len (ar.take j.toNat)
        rw [e5] at z2
        refine goG2 ?_
        refine ⟨_, _, (WkL.cons Wk.rfl (WkL.cons Wk.rfl WkL.nil)), WkOs.rfl, kCall :: n :: f :: argsW (ar.take j.toNat), _, _, rfl, rfl, eAt_bld _, by rw [e5]; simp only [List.length_cons]; omega, by rw [z]; simp only [List.length_append, List.length_cons, List.length_nil]; omega, ?_⟩
        refine goG2 ?_
        refine ⟨i + 1, ⟨by omega, by omega⟩, by dsimp only; omega, [], Meet.mk rfl rfl (WkOs.of_eq (fin _ ?_)) ⟨Wk.rfl, trivial⟩ rfl⟩
        rw [z]; simp [lineS]
    | @ifs d x t e h1 h2 h3 h4 h5 h6 =>
      have e1 : stSh (.mk 5 [] pl0 pl0 x [] [] t e) = .ifs x t e := by simp [stSh, stNo, St.kind, St.name, St.pl, St.other, St.ex, St.fn, St.args, St.thn, St.els, plNo_0, xpNo_0]
      have l1 := say4_len h1
      have lt := linesS_len h4
      have le := linesS_len h6
      have hcn : cntS (.mk 5 [] pl0 pl0 x [] [] t e) = 1 + cntB t + cntB e := by rw [cntS_eq]; rfl
      rw [hcn] at hU
      have z1 : (lineT [kIf, sayS 4 x]).length = 3 + (sayS 4 x).length := by rw [lineT2]; simp; omega
      have z2 : (lineT [kElse]).length = 4 := by rw [lineT1]; rfl
      have z3 : (lineT [kEnd]).length = 3 := by rw [lineT1]; rfl
      rw [e1]
      refine goG2 ?_
      refine ⟨_, _, WkL.rfl, WkOs.rfl, x, 4, rfl, rfl, by omega, by omega, h1, ?_⟩
      refine goG2 ?_
      left
      refine wG ?_
      refine goG2 ?_
      refine ⟨_, _, (WkL.cons Wk.rfl (WkL.cons (Wk.d DW.sf) WkL.nil)), WkOs.rfl, [kIf, sayS 4 x], _, _, rfl, rfl, eAt_bld _, by simp, by (try rw [lineT2]); simp only [List.length_append, List.length_cons, List.length_nil] at *; omega, ?_⟩
      refine goG2 ?_
      refine ⟨_, _, WkL.rfl, WkOs.rfl, t, d, _, rfl, rfl, by omega, h4, by simp only [List.length_append, List.length_cons, List.length_nil]; omega, ?_⟩
      refine goG2 ?_
      left
      refine wG ?_
      refine goG2 ?_
      refine ⟨_, _, (WkL.cons Wk.rfl (WkL.cons (Wk.d DW.sf) WkL.nil)), WkOs.rfl, [kElse], _, _, rfl, rfl, eAt_bld _, by simp, by (try rw [lineT1]); simp only [List.length_append, List.length_cons, List.length_nil] at *; omega, ?_⟩
      refine goG2 ?_
      refine ⟨_, _, WkL.rfl, WkOs.rfl, e, d, _, rfl, rfl, by omega, h6, by simp only [List.length_append, List.length_cons, List.length_nil]; omega, ?_⟩
      refine goG2 ?_
      left
      refine wG ?_
      refine goG2 ?_
      refine ⟨_, _, (WkL.cons Wk.rfl (WkL.cons (Wk.d DW.sf) WkL.nil)), WkOs.rfl, [kEnd], _, _, rfl, rfl, eAt_bld _, by simp, by (try rw [lineT1]); simp only [List.length_append, List.length_cons, List.length_nil] at *; omega, ?_⟩
      refine goG2 ?_
      refine ⟨i + 1, ⟨by omega, by omega⟩, by dsimp only; omega, [], Meet.mk rfl rfl (WkOs.of_eq (fin _ ?_)) ⟨Wk.rfl, trivial⟩ rfl⟩
      rw [lineT2, lineT1, lineT1]; simp [lineS, linesS]
    | @pick d n p q x h1 h2 h3 h4 =>
      have e : stSh (.mk 6 n p q x [] [] [] []) = .pick n p q x := by simp [stSh, stNo, St.kind, St.name, St.pl, St.other, St.ex, St.fn, St.args, St.thn, St.els, plNo_0, xpNo_0]
      have l1 := name_len h1; have l2 := say4_len h4; have l3 := atS_len h2; have l4 := atS_len h3
      rw [e]
      refine goG2 ?_
      refine ⟨_, _, WkL.rfl, WkOs.rfl, p, rfl, rfl, h2, ?_⟩
      refine goG2 ?_
      refine ⟨_, _, WkL.rfl, WkOs.rfl, q, rfl, rfl, h3, ?_⟩
      refine goG2 ?_
      refine ⟨_, _, WkL.rfl, WkOs.rfl, x, 4, rfl, rfl, by omega, by omega, h4, ?_⟩
      refine goG2 ?_
      left
      refine wG ?_
      refine goG2 ?_
      refine ⟨_, _, (WkL.cons Wk.rfl (WkL.cons (Wk.d DW.sf) WkL.nil)), WkOs.rfl, [kPick, n, atS p, atS q, sayS 4 x], _, _, rfl, rfl, eAt_bld _, by simp, by (try rw [lineT5]); simp only [List.length_append, List.length_cons, List.length_nil] at *; omega, ?_⟩
      refine goG2 ?_
      refine ⟨i + 1, ⟨by omega, by omega⟩, by dsimp only; omega, [], Meet.mk rfl rfl (WkOs.of_eq (fin _ ?_)) ⟨Wk.rfl, trivial⟩ rfl⟩
      rw [lineT5]; simp [lineS]
  · have h : ¬ i < (l.length : Int) := by simpa using h
    have e : l.take i.toNat = l := List.take_of_length_le (by omega)
    refine goG2 ?_
    refine endK ⟨[], ⟨rfl, rfl⟩, ?_⟩
    refine wG ?_
    exact ⟨_, _, Wk.rfl, WkOs.of_eq (by show [bld (T ++ linesS d (l.take i.toNat))] = _; rw [e]), hQ⟩
end Ab
