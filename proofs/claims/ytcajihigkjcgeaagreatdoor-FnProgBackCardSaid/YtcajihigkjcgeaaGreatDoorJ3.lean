/- The program's words that write, into a builder: functions, programs. -/
import Derived.Test.YtcajihigkjcgeaaGreatDoorSyn
import Derived.Test.YtcajihigkjcgeaaGreatDoorJ2
import Derived.Test.YtcajihigkjcgeaaGreatDoorI6
set_option linter.all false
namespace Ab
open Go Go.Proofs
set_option maxRecDepth 10000
set_option maxHeartbeats 4000000
set_option linter.all false

/-- impl.fnWrite -/
def S_i_fnWrite : Spec := fun args O Q => ∃ (f : Fd) (es : List (DV × List AV)) (T : Bs), args = [.ptr 0 0, aFd f] ∧ O = [.map bT es] ∧ eAt es T ∧ FdF f ∧ T.length ≤ 1000000 ∧ Q (.tup []) [bld (T ++ fnS f)]
theorem v_i_fnWrite {B : World} (hB : Tabs B) : Valid PG B i_fnWrite S_i_fnWrite := by
  refine valid_of (Γ := [(i_progLine, ⟨[], S_i_progLine⟩), (i_typeWords, ⟨[], S_i_typeWords 5⟩), (i_exprText, ⟨[], S_s_l2Say 10⟩), (i_placeText, ⟨[], S_s_l2At⟩), (i_stmtsWrite, ⟨[], S_i_stmtsWrite 10⟩)]) wide tok (((((AllValid.nil.cons (v_i_stmtsWrite hB 10)).cons (v_i_placeText hB)).cons (v_i_exprText hB 10)).cons (v_i_typeWords 5)).cons v_i_progLine) g_i_fnWrite rfl rfl ?_
  rintro _ _ Q ⟨f, es, T, rfl, rfl, hes, hf, hT, hQ⟩
  have hes' := hes
  have z1 := name_len hf.name; have z2 := hf.plen; have z3 := linesS_len hf.body; have z4 := hf.cnt; have z5 := ty4_len f.ty
  have y1 : (lineT [[102, 110], f.name]).length = 3 + f.name.length := by rw [lineT2]; simp; omega
  rcases hes with rfl | ⟨rfl, hT0⟩
  · refine wG ?_
    refine goG2 ?_
    left
    refine wG ?_
    refine goG2 ?_
    refine ⟨_, _, (WkL.cons Wk.rfl (WkL.cons (Wk.d DW.sf) WkL.nil)), WkOs.rfl, [[102, 110], f.name], _, _, rfl, rfl, hes', by simp, by first | omega | (simp only [List.length_nil] at *; omega), ?_⟩
    refine goG2 ?_
    refine ⟨[], Int, fun j => 0 ≤ j ∧ j ≤ f.params.length, fun j => (f.params.length - j).toNat, fun j => [(15, iv j)], fun j => [bld (T ++ ([102, 110, 32] ++ f.name ++ [10]) ++ pmsS (f.params.take j.toNat)), bFd f], 0, ⟨by omega, by omega⟩, ?_⟩
    refine wG ?_
    refine ⟨Meet.mk rfl rfl (⟨.inl (by show bld (T ++ lineT [[102, 110], f.name] ++ [10]) = bld (T ++ ([102, 110, 32] ++ f.name ++ [10]) ++ pmsS []); rw [lineT2]; simp [pmsS]), WkO.rfl, trivial⟩) ⟨Wk.rfl, trivial⟩ rfl, ?_⟩
    rintro j ⟨j0, j1⟩
    refine wG ?_
    have hAl : (pmsS (f.params.take j.toNat)).length ≤ 400 := by
      have y1 := pmsS_len (l := f.params.take j.toNat) (fun a ha => (hf.params a (List.mem_of_mem_take ha)).1)
      have y2 : (f.params.take j.toNat).length ≤ 4 := by simp; omega
      omega
    refine brG2 (fun h5 => ?_) (fun h5 => ?_)
    · have hj : j.toNat < f.params.length := by
        have h5 : j < (f.params.length : Int) := by simpa using h5
        omega
      have e4 : (j + 1).toNat = j.toNat + 1 := by omega
      have hP := hf.params _ (List.getElem_mem hj)
      have hxa : (f.params.map dPm)[j.toNat]? = some (dPm f.params[j.toNat]) := by simp [hj]
      have hs2 : pmsS (f.params.take (j + 1).toNat) = pmsS (f.params.take j.toNat) ++ pmS f.params[j.toNat] := by
        rw [e4, List.take_succ_eq_append_getElem hj, pmsS_snoc]
      generalize f.params[j.toNat] = a at *
      have fin : ∀ T2 : Bs, T2 = T ++ ([102, 110, 32] ++ f.name ++ [10]) ++ (pmsS (f.params.take j.toNat) ++ pmS a) → bld T2 = bld (T ++ ([102, 110, 32] ++ f.name ++ [10]) ++ pmsS (f.params.take (j + 1).toNat)) := fun T2 h => by rw [hs2, h]
      have y3 := name_len hP.1
      have y4 := ty4_len a.ty
      refine Req.mk j0 ?_
      refine ⟨_, hxa, ?_⟩
      rw [dPm_eq]
      refine wG ?_
      refine goG2 ?_
      refine ⟨fun hb => ?_, fun hb => ?_⟩
      · have hb : a.lent = true := hb
        refine wG ?_
        refine goG2 ?_
        refine ⟨_, _, WkL.rfl, WkOs.rfl, a.ty, 4, rfl, rfl, by omega, by omega, hP.2, ?_⟩
        refine goG2 ?_
        left
        refine wG ?_
        refine goG2 ?_
        have z : (lineT [[108, 101, 110, 116], a.name, tyS 4 a.ty]).length ≤ 80 := by rw [lineT3]; simp; omega
        refine ⟨_, _, (WkL.cons Wk.rfl (WkL.cons (Wk.d DW.sf) WkL.nil)), WkOs.rfl, [[108, 101, 110, 116], a.name, tyS 4 a.ty], _, _, rfl, rfl, eAt_bld _, by simp, by simp only [List.length_append, List.length_cons, List.length_nil]; omega, ?_⟩
        refine goG2 ?_
        refine ⟨j + 1, ⟨by omega, by omega⟩, by dsimp only; omega, [], Meet.mk rfl rfl ⟨.inl (fin _ ?_), WkO.rfl, trivial⟩ ⟨Wk.rfl, trivial⟩ rfl⟩
        rw [lineT3]; simp [pmS, hb]
      · have hb : a.lent = false := hb
        refine wG ?_
        refine goG2 ?_
        refine ⟨_, _, WkL.rfl, WkOs.rfl, a.ty, 4, rfl, rfl, by omega, by omega, hP.2, ?_⟩
        refine goG2 ?_
        left
        refine wG ?_
        refine goG2 ?_
        have z : (lineT [[104, 97, 115], a.name, tyS 4 a.ty]).length ≤ 80 := by rw [lineT3]; simp; omega
        refine ⟨_, _, (WkL.cons Wk.rfl (WkL.cons (Wk.d DW.sf) WkL.nil)), WkOs.rfl, [[104, 97, 115], a.name, tyS 4 a.ty], _, _, rfl, rfl, eAt_bld _, by simp, by simp only [List.length_append, List.length_cons, List.length_nil]; omega, ?_⟩
        refine goG2 ?_
        refine ⟨j + 1, ⟨by omega, by omega⟩, by dsimp only; omega, [], Meet.mk rfl rfl ⟨.inl (fin _ ?_), WkO.rfl, trivial⟩ ⟨Wk.rfl, trivial⟩ rfl⟩
        rw [lineT3]; simp [pmS, hb]
    · have h5 : ¬ j < (f.params.length : Int) := by simpa using h5
      have e5 : f.params.take j.toNat = f.params := List.take_of_length_le (by omega)
      rw [e5] at hAl
      refine goG2 ?_
      refine ⟨_, _, WkL.rfl, WkOs.rfl, f.body, 4, _, rfl, rfl, by omega, hf.body, by rw [e5]; simp only [List.length_append, List.length_cons, List.length_nil]; omega, ?_⟩
      refine goG2 ?_
      refine ⟨fun hb => ?_, fun hb => ?_⟩
      · have hb : f.lent = true := hb
        obtain ⟨w1, w2⟩ := hf.lent hb
        have w3 := atS_len w1
        refine wG ?_
        refine goG2 ?_
        refine ⟨_, _, WkL.rfl, WkOs.rfl, f.ty, 4, rfl, rfl, by omega, by omega, hf.ty, ?_⟩
        refine goG2 ?_
        refine ⟨_, _, WkL.rfl, WkOs.rfl, f.gives, rfl, rfl, w1, ?_⟩
        refine goG2 ?_
        left
        refine wG ?_
        refine goG2 ?_
        have z : (lineT [[103, 105, 118, 101, 115], tyS 4 f.ty, atS f.gives]).length ≤ 100 := by rw [lineT3]; simp; omega
        refine ⟨_, _, (WkL.cons Wk.rfl (WkL.cons (Wk.d DW.sf) WkL.nil)), WkOs.rfl, [[103, 105, 118, 101, 115], tyS 4 f.ty, atS f.gives], _, _, rfl, rfl, eAt_bld _, by simp, by rw [e5]; simp only [List.length_append, List.length_cons, List.length_nil]; omega, ?_⟩
        refine goG2 ?_
        refine endK ⟨[], ⟨rfl, rfl⟩, ?_⟩
        refine wG ?_
        refine ⟨_, _, Wk.rfl, WkOs.of_eq ?_, hQ⟩
        rw [e5, lineT3]; simp [fnS, endS, hb]
      · have hb : f.lent = false := hb
        obtain ⟨w1, w2⟩ := hf.own hb
        have w3 := say4_len w2
        refine wG ?_
        refine goG2 ?_
        refine ⟨_, _, WkL.rfl, WkOs.rfl, f.ty, 4, rfl, rfl, by omega, by omega, hf.ty, ?_⟩
        refine goG2 ?_
        refine ⟨_, _, WkL.rfl, WkOs.rfl, f.says, 4, rfl, rfl, by omega, by omega, w2, ?_⟩
        refine goG2 ?_
        left
        refine wG ?_
        refine goG2 ?_
        have z : (lineT [[115, 97, 121, 115], tyS 4 f.ty, sayS 4 f.says]).length ≤ 500 := by rw [lineT3]; simp; omega
        refine ⟨_, _, (WkL.cons Wk.rfl (WkL.cons (Wk.d DW.sf) WkL.nil)), WkOs.rfl, [[115, 97, 121, 115], tyS 4 f.ty, sayS 4 f.says], _, _, rfl, rfl, eAt_bld _, by simp, by rw [e5]; simp only [List.length_append, List.length_cons, List.length_nil]; omega, ?_⟩
        refine goG2 ?_
        refine endK ⟨[], ⟨rfl, rfl⟩, ?_⟩
        refine wG ?_
        refine ⟨_, _, Wk.rfl, WkOs.of_eq ?_, hQ⟩
        rw [e5, lineT3]; simp [fnS, endS, hb]
  · refine wG ?_
    refine goG2 ?_
    left
    refine wG ?_
    refine goG2 ?_
    refine ⟨_, _, (WkL.cons Wk.rfl (WkL.cons (Wk.d DW.sf) WkL.nil)), WkOs.rfl, [[102, 110], f.name], _, _, rfl, rfl, hes', by simp, by first | omega | (simp only [List.length_nil] at *; omega), ?_⟩
    refine goG2 ?_
    refine ⟨[], Int, fun j => 0 ≤ j ∧ j ≤ f.params.length, fun j => (f.params.length - j).toNat, fun j => [(15, iv j)], fun j => [bld (T ++ ([102, 110, 32] ++ f.name ++ [10]) ++ pmsS (f.params.take j.toNat)), bFd f], 0, ⟨by omega, by omega⟩, ?_⟩
    refine wG ?_
    refine ⟨Meet.mk rfl rfl (⟨.inl (by show bld (T ++ lineT [[102, 110], f.name] ++ [10]) = bld (T ++ ([102, 110, 32] ++ f.name ++ [10]) ++ pmsS []); rw [lineT2]; simp [pmsS]), WkO.rfl, trivial⟩) ⟨Wk.rfl, trivial⟩ rfl, ?_⟩
    rintro j ⟨j0, j1⟩
    refine wG ?_
    have hAl : (pmsS (f.params.take j.toNat)).length ≤ 400 := by
      have y1 := pmsS_len (l := f.params.take j.toNat) (fun a ha => (hf.params a (List.mem_of_mem_take ha)).1)
      have y2 : (f.params.take j.toNat).length ≤ 4 := by simp; omega
      omega
    refine brG2 (fun h5 => ?_) (fun h5 => ?_)
    · have hj : j.toNat < f.params.length := by
        have h5 : j < (f.params.length : Int) := by simpa using h5
        omega
      have e4 : (j + 1).toNat = j.toNat + 1 := by omega
      have hP := hf.params _ (List.getElem_mem hj)
      have hxa : (f.params.map dPm)[j.toNat]? = some (dPm f.params[j.toNat]) := by simp [hj]
      have hs2 : pmsS (f.params.take (j + 1).toNat) = pmsS (f.params.take j.toNat) ++ pmS f.params[j.toNat] := by
        rw [e4, List.take_succ_eq_append_getElem hj, pmsS_snoc]
      generalize f.params[j.toNat] = a at *
      have fin : ∀ T2 : Bs, T2 = T ++ ([102, 110, 32] ++ f.name ++ [10]) ++ (pmsS (f.params.take j.toNat) ++ pmS a) → bld T2 = bld (T ++ ([102, 110, 32] ++ f.name ++ [10]) ++ pmsS (f.params.take (j + 1).toNat)) := fun T2 h => by rw [hs2, h]
      have y3 := name_len hP.1
      have y4 := ty4_len a.ty
      refine Req.mk j0 ?_
      refine ⟨_, hxa, ?_⟩
      rw [dPm_eq]
      refine wG ?_
      refine goG2 ?_
      refine ⟨fun hb => ?_, fun hb => ?_⟩
      · have hb : a.lent = true := hb
        refine wG ?_
        refine goG2 ?_
        refine ⟨_, _, WkL.rfl, WkOs.rfl, a.ty, 4, rfl, rfl, by omega, by omega, hP.2, ?_⟩
        refine goG2 ?_
        left
        refine wG ?_
        refine goG2 ?_
        have z : (lineT [[108, 101, 110, 116], a.name, tyS 4 a.ty]).length ≤ 80 := by rw [lineT3]; simp; omega
        refine ⟨_, _, (WkL.cons Wk.rfl (WkL.cons (Wk.d DW.sf) WkL.nil)), WkOs.rfl, [[108, 101, 110, 116], a.name, tyS 4 a.ty], _, _, rfl, rfl, eAt_bld _, by simp, by simp only [List.length_append, List.length_cons, List.length_nil]; omega, ?_⟩
        refine goG2 ?_
        refine ⟨j + 1, ⟨by omega, by omega⟩, by dsimp only; omega, [], Meet.mk rfl rfl ⟨.inl (fin _ ?_), WkO.rfl, trivial⟩ ⟨Wk.rfl, trivial⟩ rfl⟩
        rw [lineT3]; simp [pmS, hb]
      · have hb : a.lent = false := hb
        refine wG ?_
        refine goG2 ?_
        refine ⟨_, _, WkL.rfl, WkOs.rfl, a.ty, 4, rfl, rfl, by omega, by omega, hP.2, ?_⟩
        refine goG2 ?_
        left
        refine wG ?_
        refine goG2 ?_
        have z : (lineT [[104, 97, 115], a.name, tyS 4 a.ty]).length ≤ 80 := by rw [lineT3]; simp; omega
        refine ⟨_, _, (WkL.cons Wk.rfl (WkL.cons (Wk.d DW.sf) WkL.nil)), WkOs.rfl, [[104, 97, 115], a.name, tyS 4 a.ty], _, _, rfl, rfl, eAt_bld _, by simp, by simp only [List.length_append, List.length_cons, List.length_nil]; omega, ?_⟩
        refine goG2 ?_
        refine ⟨j + 1, ⟨by omega, by omega⟩, by dsimp only; omega, [], Meet.mk rfl rfl ⟨.inl (fin _ ?_), WkO.rfl, trivial⟩ ⟨Wk.rfl, trivial⟩ rfl⟩
        rw [lineT3]; simp [pmS, hb]
    · have h5 : ¬ j < (f.params.length : Int) := by simpa using h5
      have e5 : f.params.take j.toNat = f.params := List.take_of_length_le (by omega)
      rw [e5] at hAl
      refine goG2 ?_
      refine ⟨_, _, WkL.rfl, WkOs.rfl, f.body, 4, _, rfl, rfl, by omega, hf.body, by rw [e5]; simp only [List.length_append, List.length_cons, List.length_nil]; omega, ?_⟩
      refine goG2 ?_
      refine ⟨fun hb => ?_, fun hb => ?_⟩
      · have hb : f.lent = true := hb
        obtain ⟨w1, w2⟩ := hf.lent hb
        have w3 := atS_len w1
        refine wG ?_
        refine goG2 ?_
        refine ⟨_, _, WkL.rfl, WkOs.rfl, f.ty, 4, rfl, rfl, by omega, by omega, hf.ty, ?_⟩
        refine goG2 ?_
        refine ⟨_, _, WkL.rfl, WkOs.rfl, f.gives, rfl, rfl, w1, ?_⟩
        refine goG2 ?_
        left
        refine wG ?_
        refine goG2 ?_
        have z : (lineT [[103, 105, 118, 101, 115], tyS 4 f.ty, atS f.gives]).length ≤ 100 := by rw [lineT3]; simp; omega
        refine ⟨_, _, (WkL.cons Wk.rfl (WkL.cons (Wk.d DW.sf) WkL.nil)), WkOs.rfl, [[103, 105, 118, 101, 115], tyS 4 f.ty, atS f.gives], _, _, rfl, rfl, eAt_bld _, by simp, by rw [e5]; simp only [List.length_append, List.length_cons, List.length_nil]; omega, ?_⟩
        refine goG2 ?_
        refine endK ⟨[], ⟨rfl, rfl⟩, ?_⟩
        refine wG ?_
        refine ⟨_, _, Wk.rfl, WkOs.of_eq ?_, hQ⟩
        rw [e5, lineT3]; simp [fnS, endS, hb]
      · have hb : f.lent = false := hb
        obtain ⟨w1, w2⟩ := hf.own hb
        have w3 := say4_len w2
        refine wG ?_
        refine goG2 ?_
        refine ⟨_, _, WkL.rfl, WkOs.rfl, f.ty, 4, rfl, rfl, by omega, by omega, hf.ty, ?_⟩
        refine goG2 ?_
        refine ⟨_, _, WkL.rfl, WkOs.rfl, f.says, 4, rfl, rfl, by omega, by omega, w2, ?_⟩
        refine goG2 ?_
        left
        refine wG ?_
        refine goG2 ?_
        have z : (lineT [[115, 97, 121, 115], tyS 4 f.ty, sayS 4 f.says]).length ≤ 500 := by rw [lineT3]; simp; omega
        refine ⟨_, _, (WkL.cons Wk.rfl (WkL.cons (Wk.d DW.sf) WkL.nil)), WkOs.rfl, [[115, 97, 121, 115], tyS 4 f.ty, sayS 4 f.says], _, _, rfl, rfl, eAt_bld _, by simp, by rw [e5]; simp only [List.length_append, List.length_cons, List.length_nil]; omega, ?_⟩
        refine goG2 ?_
        refine endK ⟨[], ⟨rfl, rfl⟩, ?_⟩
        refine wG ?_
        refine ⟨_, _, Wk.rfl, WkOs.of_eq ?_, hQ⟩
        rw [e5, lineT3]; simp [fnS, endS, hb]
end Ab

/- The program's words that write, into a builder: programs. -/
namespace Ab
open Go Go.Proofs
set_option maxRecDepth 10000
set_option maxHeartbeats 4000000
set_option linter.all false

/-- the table of types, strings.Builder in it -/
abbrev tiB : TI := ⟨.struct, 2, [(0, Tryz.lays156_ren.t 70), (1, Tryz.lays156_ren.t 37)], 0, 0, [.v (.pointer none), .v (.slice none 0 0)], 32⟩
theorem tokB : Tok1 PG bT tiB :=
  tok_of (by kernel_rfl) (by kernel_rfl) (by kernel_rfl) (by kernel_rfl) (by kernel_rfl) (by kernel_rfl) (kind_struct rfl (by kernel_rfl)) (by decide)
abbrev tauW : Tab := (bT, tiB) :: tau
theorem tokW : Tok PG tauW := ⟨tokB, tok⟩
/-- impl.ProgWrite -/
def S_i_ProgWrite : Spec := fun args O Q => ∃ (p : Pr), args = [aPr p] ∧ O = [] ∧ p ≠ [] ∧ prI p = prFm p ∧ Q (.d (.s (progW p))) []
theorem v_i_ProgWrite {B : World} (hB : Tabs B) : Valid PG B i_ProgWrite S_i_ProgWrite := by
  refine valid_of (Γ := [(i_progForm, ⟨[], S_i_progForm⟩), (i_fnWrite, ⟨[], S_i_fnWrite⟩), (x_strings_Builder_Len, ⟨[], S_x_Len⟩), (x_strings_Builder_String, ⟨[], S_x_String⟩)]) wide tokW ((((AllValid.nil.cons v_x_String).cons v_x_Len).cons (v_i_fnWrite hB)).cons v_i_progForm) g_i_ProgWrite rfl rfl ?_
  rintro _ _ Q ⟨p, rfl, rfl, hp0, hpI, hQ⟩
  refine wG ?_
  refine ⟨_, _, WkL.rfl, WkOs.rfl, p, rfl, rfl, ?_⟩
  rw [hpI]
  refine goG2 ?_
  refine brG2 (fun h1 => ?_) (fun h1 => ?_)
  · refine endK ⟨[], ⟨rfl, rfl⟩, ?_⟩
    refine wG ?_
    have h1 : prFm p = false := h1
    have : progW p = [] := by simp [progW, h1]
    rw [this] at hQ
    exact ⟨_, _, Wk.rfl, WkOs.rfl, hQ⟩
  have h1 : prFm p = true := h1
  have h2 := h1
  simp only [prFm, Bool.and_eq_true, decide_eq_true_eq, List.all_eq_true] at h2
  obtain ⟨hl, hF⟩ := h2
  refine ⟨[], Int × List (DV × List AV), fun x => 0 ≤ x.1 ∧ x.1 ≤ p.length ∧ (x.1 = 0 → x.2 = []) ∧ (x.1 ≠ 0 → x.2 = [(.i .i64 (bE : Nat), []), (.s (progS (p.take x.1.toNat)), [])]), fun x => (p.length - x.1).toNat, fun x => [(12, iv x.1)], fun x => [.cells [.d (.sl 12 (p.map dFd))], .map bT x.2], (0, []), ⟨by dsimp only; omega, by dsimp only; omega, fun _ => rfl, fun h => absurd rfl h⟩, ?_⟩
  refine wG ?_
  refine ⟨Meet.mk rfl rfl WkOs.rfl ⟨Wk.rfl, trivial⟩ rfl, ?_⟩
  rintro ⟨i, es⟩ ⟨i0, i1, hes0, hes1⟩
  dsimp only at i0 i1 hes0 hes1
  have hS1 : (progS (p.take i.toNat)).length ≤ 500000 := by
    have a1 := progS_len (l := p.take i.toNat) (fun f hf => fnFm_F (hF f (List.mem_of_mem_take hf)))
    have a2 : (p.take i.toNat).length ≤ 5 := by simp; omega
    omega
  have hes : eAt es (progS (p.take i.toNat)) := by
    rcases Classical.em (i = 0) with h | h
    · exact .inr ⟨hes0 h, by subst h; rfl⟩
    · exact .inl (hes1 h)
  refine wG ?_
  refine brG2 (fun h3 => ?_) (fun h3 => ?_)
  · have h3 : i < (p.length : Int) := by simpa using h3
    have hi : i.toNat < p.length := by omega
    have e3 : (i + 1).toNat = i.toNat + 1 := by omega
    have hx : (p.map dFd)[i.toNat]? = some (dFd p[i.toNat]) := by simp [hi]
    have hf := fnFm_F (hF _ (List.getElem_mem hi))
    have hs : progS (p.take (i + 1).toNat) = progS (p.take i.toNat) ++ fnS p[i.toNat] := by
      rw [e3, List.take_succ_eq_append_getElem hi, progS_snoc]
    generalize hS : progS (p.take i.toNat) = S at *
    generalize p[i.toNat] = f at *
    have hes' := hes
    rcases hes with rfl | ⟨rfl, hT0⟩
    · refine Req.mk i0 ?_
      refine ⟨_, hx, ?_⟩
      rw [dFd_eq]
      refine wG ?_
      refine goG2 ?_
      refine ⟨_, _, WkL.rfl, WkOs.rfl, f, _, S, rfl, rfl, hes', hf, by omega, ?_⟩
      refine goG2 ?_
      refine ⟨(i + 1, [(.i .i64 (bE : Nat), []), (.s (S ++ fnS f), [])]), ⟨by dsimp only; omega, by dsimp only; omega, fun h => ?_, fun h => ?_⟩, by dsimp only; omega, [], Meet.mk rfl rfl WkOs.rfl ⟨Wk.rfl, trivial⟩ rfl⟩
      · dsimp only at h; omega
      · dsimp only; rw [hs]
    · refine Req.mk i0 ?_
      refine ⟨_, hx, ?_⟩
      rw [dFd_eq]
      refine wG ?_
      refine goG2 ?_
      refine ⟨_, _, WkL.rfl, WkOs.rfl, f, _, S, rfl, rfl, hes', hf, by omega, ?_⟩
      refine goG2 ?_
      refine ⟨(i + 1, [(.i .i64 (bE : Nat), []), (.s (S ++ fnS f), [])]), ⟨by dsimp only; omega, by dsimp only; omega, fun h => ?_, fun h => ?_⟩, by dsimp only; omega, [], Meet.mk rfl rfl WkOs.rfl ⟨Wk.rfl, trivial⟩ rfl⟩
      · dsimp only at h; omega
      · dsimp only; rw [hs]
  · have h3 : ¬ i < (p.length : Int) := by simpa using h3
    have e5 : p.take i.toNat = p := List.take_of_length_le (by omega)
    have hi0 : i ≠ 0 := by
      have := List.length_pos_iff.2 hp0
      omega
    have hes := hes1 hi0
    subst hes
    rw [e5] at hS1 hes1 ⊢
    have hne : progS p ≠ [] := by
      obtain ⟨a, q, rfl⟩ : ∃ a q, p = a :: q := by
        cases p with
        | nil => exact absurd rfl hp0
        | cons a q => exact ⟨a, q, rfl⟩
      simp [progS, fnS]
    refine goG2 ?_
    refine ⟨_, _, WkL.rfl, WkOs.rfl, _, progS p, rfl, rfl, .inl rfl, ?_⟩
    refine goG2 ?_
    refine brG2 (fun h6 => ?_) (fun h6 => ?_)
    · have h6 : ((progS p).length : Int) > 6000 := h6
      have h7 : ¬ (progS p).length ≤ 6000 := by omega
      have : progW p = [] := by simp [progW, h7]
      rw [this] at hQ
      refine goG2 ?_
      refine endK ⟨[], ⟨rfl, rfl⟩, ?_⟩
      refine wG ?_
      exact ⟨_, _, Wk.rfl, WkOs.rfl, hQ⟩
    · have h6 : ¬ ((progS p).length : Int) > 6000 := h6
      have h7 : (progS p).length ≤ 6000 := by omega
      have : progW p = progS p := by simp [progW, h1, h7]
      rw [this] at hQ
      refine goG2 ?_
      refine ⟨_, _, WkL.rfl, WkOs.rfl, progS p, rfl, rfl, hne, ?_⟩
      refine goG2 ?_
      refine endK ⟨[], ⟨rfl, rfl⟩, ?_⟩
      refine wG ?_
      exact ⟨_, _, Wk.rfl, WkOs.rfl, hQ⟩
end Ab
