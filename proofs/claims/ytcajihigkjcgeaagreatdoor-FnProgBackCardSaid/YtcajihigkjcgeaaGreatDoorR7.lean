/- The program's reader, sixth part: functions. -/
import Derived.Test.YtcajihigkjcgeaaGreatDoorSyn
import Derived.Test.YtcajihigkjcgeaaGreatDoorR6
set_option linter.all false
namespace Ab
open Go Go.Proofs
set_option maxRecDepth 10000
set_option maxHeartbeats 4000000
set_option linter.all false

abbrev kHas : Bs := [104, 97, 115]
abbrev kLent : Bs := [108, 101, 110, 116]
abbrev kSays : Bs := [115, 97, 121, 115]
abbrev kGives : Bs := [103, 105, 118, 101, 115]
abbrev kFn : Bs := [102, 110]
abbrev nilW : AV := .d (.v (.slice none 0 0))
abbrev rFd0 : Obj := .cells [sv [], nilW, bv false, nilW, nilW, iv 0, iv 0, sv [], nilW, nilW, sv [], nilW]
theorem DWL.of_eqx {xs ys : List DV} (h : xs = ys) : DWL xs ys := h ▸ DWL.rfl
/-- the first word behind the parameters -/
theorem body_head {d : Nat} {l : List St} (h : ∀ s ∈ l, StF d s) (e : Bs) (es : List Bs) (post : List (List Bs)) (he : e = kSays ∨ e = kGives) :
    ∃ w ws r, wLines d l ++ (e :: es) :: post = (w :: ws) :: r ∧ w ≠ kHas ∧ w ≠ kLent := by
  cases l with
  | nil => exact ⟨e, es, post, rfl, by rcases he with rfl | rfl <;> decide, by rcases he with rfl | rfl <;> decide⟩
  | cons s l =>
    rw [wLines_cons]
    cases h s (by simp) with
    | let_ => exact ⟨kLet, _, _, by simp [wLine]; exact ⟨rfl, rfl⟩, by decide, by decide⟩
    | lend => exact ⟨kLend, _, _, by simp [wLine]; exact ⟨rfl, rfl⟩, by decide, by decide⟩
    | set => exact ⟨kSet, _, _, by simp [wLine]; exact ⟨rfl, rfl⟩, by decide, by decide⟩
    | call => exact ⟨kCall, _, _, by simp [wLine]; exact ⟨rfl, rfl⟩, by decide, by decide⟩
    | ifs => exact ⟨kIf, _, _, by simp [wLine]; exact ⟨rfl, rfl⟩, by decide, by decide⟩
    | pick => exact ⟨kPick, _, _, by simp [wLine]; exact ⟨rfl, rfl⟩, by decide, by decide⟩
/-- fn -/
def S_i_fn : Spec := fun args O Q => ∃ (wl : List (List Bs)) (i : Nat) (f : Fd) (post : List (List Bs)), args = [.ptr 0 0] ∧ O = [rdO wl i] ∧ Gwl wl ∧ wl.drop i = wFn f ++ post ∧ FdF f ∧ Q (aFd f) [rdO wl (i + (wFn f).length)]
theorem v_i_fn {B : World} (hB : TabM B) : Valid PG B i_progReader_fn S_i_fn := by
  refine valid_of (Γ := [(i_progReader_first, ⟨[], S_i_first⟩), (i_progReader_take, ⟨[], S_i_take⟩), (i_progReader_whole, ⟨[], S_i_whole⟩), (i_progReader_place, ⟨[], S_i_place⟩), (i_progReader_typ, ⟨[], S_i_typ⟩), (i_progReader_stmts, ⟨[], S_i_stmts 5⟩)]) wide tok ((((((AllValid.nil.cons (v_i_stmts hB 5)).cons v_i_typ).cons (v_i_place hB)).cons (v_i_whole hB)).cons (v_i_take hB)).cons (v_i_first hB)) g_i_progReader_fn rfl rfl ?_
  rintro _ _ Q ⟨wl, i, f, post, rfl, rfl, hG, hw, hF, hQ⟩
  have hlen := hG.len
  obtain ⟨e, es, he, hes⟩ : ∃ e es, (e = kSays ∨ e = kGives) ∧ wEnd f = e :: es := by
    unfold wEnd
    cases f.lent
    · exact ⟨kSays, _, .inl rfl, rfl⟩
    · exact ⟨kGives, _, .inr rfl, rfl⟩
  obtain ⟨g1, g2⟩ := drop_cons (a := [kFn, f.name]) (r := f.params.map wPm ++ (wLines 4 f.body ++ (wEnd f :: post))) (hw.trans (by simp [wFn]))
  have gj : ∀ j, j ≤ f.params.length → wl.drop (i + 1 + j) = (f.params.drop j).map wPm ++ (wLines 4 f.body ++ (wEnd f :: post)) := fun j hj => by
    rw [← List.drop_drop, g2, List.drop_append, List.map_drop]
    simp [Nat.sub_eq_zero_of_le hj]
  refine wG ?_
  refine ⟨_, _, WkL.rfl, WkOs.rfl, wl, i, [kFn, f.name], 2, rfl, rfl, hG, g1, by simp, ?_⟩
  refine goG2 ?_
  refine ⟨dS kFn, rfl, ?_⟩
  rw [dS_eq]
  refine wG ?_
  refine goG2 ?_
  refine Br.no (by rfl) ?_
  refine wG ?_
  refine goG2 ?_
  refine ⟨dS f.name, rfl, ?_⟩
  rw [dS_eq]
  refine wG ?_
  refine goG2 ?_
  refine ⟨[.cell 2 1 3], Nat, fun j => j ≤ f.params.length, fun j => f.params.length - j, fun j => [(4, .ptr 2 0)], fun j => [rdO wl (i + 1 + j), rFd0, .cells [sv f.name, .row 3 1, bv false, nilW, nilW, iv 0, iv 0, sv [], nilW, nilW, sv [], nilW], .row 1 true 3 ((f.params.take j).map dPm)], 0, Nat.zero_le _, ?_⟩
  refine wG ?_
  refine ⟨Meet.mk rfl rfl WkOs.rfl ⟨Wk.rfl, trivial⟩ rfl, ?_⟩
  intro j hj
  have hd := gj j hj
  rcases hq : f.params.drop j with _ | ⟨a, q⟩
  · have e1 : f.params.take j = f.params := List.take_of_length_le (List.drop_eq_nil_iff.1 hq)
    have hjl : j = f.params.length := by
      have := List.drop_eq_nil_iff.1 hq
      omega
    rw [hq] at hd
    have hd : wl.drop (i + 1 + j) = wLines 4 f.body ++ (wEnd f :: post) := hd
    have hdd := hd
    obtain ⟨w, ws, r, hb1, hb2, hb3⟩ := body_head hF.body e es post he
    rw [hes, hb1] at hdd
    obtain ⟨g3, _⟩ := drop_cons hdd
    have g4 := (List.getElem?_eq_some_iff.1 g3).1
    have stp : stopL (wEnd f :: post) := by
      intro w ws r h
      rw [hes] at h
      injection h with h _
      injection h with h _
      subst h
      rcases he with rfl | rfl <;> decide
    have q1 : (w == kHas) = false := beq_eq_false_iff_ne.2 hb2
    have q2 : (w == kLent) = false := beq_eq_false_iff_ne.2 hb3
    refine wG ?_
    refine ⟨_, _, WkL.rfl, WkOs.rfl, wl, _, rfl, rfl, hG, (fun hn => absurd g4 (by omega)), (fun w' ws' hw3 => ?_)⟩
    rw [g3] at hw3
    injection hw3 with hw3
    injection hw3 with hw3 hw4
    subst hw3
    clear hw4
    refine goG2 ?_
    refine Br.no (by exact q1) ?_
    refine wG ?_
    refine goG2 ?_
    refine ⟨_, _, WkL.rfl, WkOs.rfl, wl, _, rfl, rfl, hG, (fun hn => absurd g4 (by omega)), (fun w' ws' hw3 => ?_)⟩
    rw [g3] at hw3
    injection hw3 with hw3
    injection hw3 with hw3 hw4
    subst hw3
    clear hw4
    refine goG2 ?_
    refine Br.no (by exact q2) ?_
    refine wG ?_
    refine goG2 ?_
    refine ⟨_, _, WkL.rfl, WkOs.rfl, wl, _, f.body, 4, wEnd f :: post, 4, rfl, rfl, hG, hd, stp, hF.body, by omega, by omega, by omega, hF.blen, ?_⟩
    refine goG2 ?_
    have g5 := drop_app hd
    have g5' := g5
    rw [hes] at g5'
    obtain ⟨g3, _⟩ := drop_cons g5'
    have g4 := (List.getElem?_eq_some_iff.1 g3).1
    refine ⟨_, _, WkL.rfl, WkOs.rfl, wl, _, rfl, rfl, hG, (fun hn => absurd g4 (by omega)), (fun w' ws' hw3 => ?_)⟩
    rw [g3] at hw3
    injection hw3 with hw3
    injection hw3 with hw3 hw4
    subst hw3
    clear hw4
    refine goG2 ?_
    cases hl : f.lent with
    | false =>
      obtain ⟨w1, w2⟩ := hF.own hl
      have hE : wEnd f = kSays :: tyS 4 f.ty :: wSay 4 f.says := by simp [wEnd, hl]
      rw [hE] at hes
      injection hes with hes1 hes2
      subst hes1
      rw [← hes2] at g3
      have hx0 := List.length_pos_iff.2 (wSay_ok w2).1.1
      have hxl := wSay_len w2
      refine Br.yes (by rfl) ?_
      refine wG ?_
      refine goG2 ?_
      refine ⟨_, _, WkL.rfl, WkOs.rfl, wl, _, _, 3, rfl, rfl, hG, g3, by simp only [List.length_cons]; omega, ?_⟩
      refine goG2 ?_
      refine ⟨dS (tyS 4 f.ty), rfl, ?_⟩
      rw [dS_eq]
      refine wG ?_
      refine agG2 ?_
      refine ⟨_, _, WkL.rfl, WkOs.rfl, wl, _, f.ty, rfl, rfl, hF.ty, ?_⟩
      refine agG2 ?_
      refine ⟨_, _, (WkL.cons Wk.rfl (WkL.cons (Wk.d (DW.sl (DWRows.rfl_of (by rw [List.take_length]; rfl)))) WkL.rfl)), WkOs.rfl, wl, _, f.says, rfl, rfl, w2, ?_⟩
      refine agG2 ?_
      refine endK ⟨[], ⟨rfl, rfl⟩, ?_⟩
      refine wG ?_
      refine ⟨_, _, ?_, WkOs.of_eq ?_, hQ⟩
      · repeat' (first
          | exact DWRows.rfl_of (by rw [e1])
          | exact Wk.rfl
          | exact WkL.rfl
          | exact WkOs.rfl
          | exact DWRows.rfl
          | exact Wk.nil _
          | exact DWL.rfl
          | exact DW.rfl
          | exact DW.nil _
          | exact DW.nilf _
          | exact DW.sf
          | refine Wk.agg ?_
          | refine Wk.tup ?_
          | refine WkL.cons ?_ ?_
          | refine Wk.d ?_
          | refine DWL.cons ?_ ?_
          | refine DW.sf.trans (DW.sl ?_)
          | refine DW.sl ?_
          | refine DW.sff ?_
          | exact WkL.nil
          | exact trivial
          | exact DWRows.rfl_of (by simp [Function.comp_def, Ty.kids, Ty.kids_mk, mkS])
          )
        all_goals first | (rw [hl]; exact DW.rfl) | (rw [hl]; exact fun _ _ h => h) | (rw [w1]; exact DW.rfl) | (rw [w1]; exact DW.nil _)
      · have e9 : i + 1 + j + (wLines 4 f.body).length + 1 = i + (wFn f).length := by simp [wFn]; omega
        show [rdO wl (i + 1 + j + (wLines 4 f.body).length + 1)] = _
        rw [e9]
    | true =>
      obtain ⟨w1, w2⟩ := hF.lent hl
      have hE : wEnd f = [kGives, tyS 4 f.ty, atS f.gives] := by simp [wEnd, hl]
      rw [hE] at hes
      injection hes with hes1 hes2
      subst hes1
      rw [← hes2] at g3
      refine Br.no (by rfl) ?_
      refine wG ?_
      refine goG2 ?_
      refine Br.yes (by rfl) ?_
      refine wG ?_
      refine goG2 ?_
      refine ⟨_, _, WkL.rfl, WkOs.rfl, wl, _, _, 3, rfl, rfl, hG, g3, by simp only [List.length_cons, List.length_nil]; omega, ?_⟩
      refine goG2 ?_
      refine ⟨dS (tyS 4 f.ty), rfl, ?_⟩
      rw [dS_eq]
      refine wG ?_
      refine agG2 ?_
      refine ⟨dS (atS f.gives), rfl, ?_⟩
      rw [dS_eq]
      refine wG ?_
      refine agG2 ?_
      refine ⟨_, _, WkL.rfl, WkOs.rfl, wl, _, f.ty, rfl, rfl, hF.ty, ?_⟩
      refine agG2 ?_
      refine ⟨_, _, WkL.rfl, WkOs.rfl, wl, _, f.gives, rfl, rfl, w1, ?_⟩
      refine agG2 ?_
      refine endK ⟨[], ⟨rfl, rfl⟩, ?_⟩
      refine wG ?_
      refine ⟨_, _, ?_, WkOs.of_eq ?_, hQ⟩
      · repeat' (first
          | exact DWRows.rfl_of (by rw [e1])
          | exact Wk.rfl
          | exact WkL.rfl
          | exact WkOs.rfl
          | exact DWRows.rfl
          | exact Wk.nil _
          | exact DWL.rfl
          | exact DW.rfl
          | exact DW.nil _
          | exact DW.nilf _
          | exact DW.sf
          | refine Wk.agg ?_
          | refine Wk.tup ?_
          | refine WkL.cons ?_ ?_
          | refine Wk.d ?_
          | refine DWL.cons ?_ ?_
          | refine DW.sf.trans (DW.sl ?_)
          | refine DW.sl ?_
          | refine DW.sff ?_
          | exact WkL.nil
          | exact trivial
          | exact DWRows.rfl_of (by simp [Function.comp_def, Ty.kids, Ty.kids_mk, mkS])
          )
        all_goals first | (rw [hl]; exact DW.rfl) | (rw [hl]; exact fun _ _ h => h) | (rw [w2]; exact DW.rfl) | (rw [w2]; exact DW.nil _)
      · have e9 : i + 1 + j + (wLines 4 f.body).length + 1 = i + (wFn f).length := by simp [wFn]; omega
        show [rdO wl (i + 1 + j + (wLines 4 f.body).length + 1)] = _
        rw [e9]
  · have hq1 : f.params.drop (j + 1) = q := by rw [← List.drop_drop, hq]; rfl
    have ht1 : f.params.take (j + 1) = f.params.take j ++ [a] := by rw [List.take_add, hq]; rfl
    have hjl : j < f.params.length := by
      rcases Nat.lt_or_ge j f.params.length with h | h
      · exact h
      · rw [List.drop_eq_nil_of_le h] at hq; cases hq
    have ha := hF.params a (List.mem_of_mem_drop (i := j) (by rw [hq]; simp))
    rw [hq] at hd
    obtain ⟨g3, _⟩ := drop_cons (a := wPm a) (r := q.map wPm ++ (wLines 4 f.body ++ (wEnd f :: post))) hd
    have g4 := (List.getElem?_eq_some_iff.1 g3).1
    refine wG ?_
    cases hl : a.lent with
    | true =>
      have hp : wPm a = [kLent, a.name, tyS 4 a.ty] := by simp [wPm, hl, wPm.kLent]
      rw [hp] at g3
      refine ⟨_, _, WkL.rfl, WkOs.rfl, wl, _, rfl, rfl, hG, (fun hn => absurd g4 (by omega)), (fun w' ws' hw3 => ?_)⟩
      rw [g3] at hw3
      injection hw3 with hw3
      injection hw3 with hw3 hw4
      subst hw3
      clear hw4
      refine goG2 ?_
      refine Br.no (by rfl) ?_
      refine wG ?_
      refine goG2 ?_
      refine ⟨_, _, WkL.rfl, WkOs.rfl, wl, _, rfl, rfl, hG, (fun hn => absurd g4 (by omega)), (fun w' ws' hw3 => ?_)⟩
      rw [g3] at hw3
      injection hw3 with hw3
      injection hw3 with hw3 hw4
      subst hw3
      clear hw4
      refine goG2 ?_
      refine Br.yes (by rfl) ?_
      refine wG ?_
      refine goG2 ?_
      refine ⟨_, _, WkL.rfl, WkOs.rfl, wl, _, [kLent, a.name, tyS 4 a.ty], 3, rfl, rfl, hG, g3, by simp, ?_⟩
      refine goG2 ?_
      refine ⟨dS (a.name), rfl, ?_⟩
      rw [dS_eq]
      refine wG ?_
      refine agG2 ?_
      refine ⟨dS (kLent), rfl, ?_⟩
      rw [dS_eq]
      refine wG ?_
      refine agG2 ?_
      refine ⟨dS (tyS 4 a.ty), rfl, ?_⟩
      rw [dS_eq]
      refine wG ?_
      refine agG2 ?_
      refine ⟨_, _, WkL.rfl, WkOs.rfl, wl, _, a.ty, rfl, rfl, ha.2, ?_⟩
      refine agG2 ?_
      left
      refine wG ?_
      refine agG2 ?_
      refine ⟨j + 1, by dsimp only; omega, by dsimp only; omega, [], Meet.mk rfl rfl ⟨WkO.rfl, WkO.rfl, WkO.rfl, .inr ⟨rfl, rfl, rfl, ?_⟩, trivial⟩ ⟨Wk.rfl, trivial⟩ rfl⟩
      rw [ht1]
      exact rows_app rfl (DWL.of_eqx (by rw [dPm_eq]; show _ = [DV.s a.name, DV.b a.lent, DV.sl 1 (a.ty.kids.map dTy)]; rw [hl]; rfl))
    | false =>
      have hp : wPm a = [kHas, a.name, tyS 4 a.ty] := by simp [wPm, hl, wPm.kHas]
      rw [hp] at g3
      refine ⟨_, _, WkL.rfl, WkOs.rfl, wl, _, rfl, rfl, hG, (fun hn => absurd g4 (by omega)), (fun w' ws' hw3 => ?_)⟩
      rw [g3] at hw3
      injection hw3 with hw3
      injection hw3 with hw3 hw4
      subst hw3
      clear hw4
      refine goG2 ?_
      refine Br.yes (by rfl) ?_
      refine wG ?_
      refine goG2 ?_
      refine ⟨_, _, WkL.rfl, WkOs.rfl, wl, _, [kHas, a.name, tyS 4 a.ty], 3, rfl, rfl, hG, g3, by simp, ?_⟩
      refine goG2 ?_
      refine ⟨dS (a.name), rfl, ?_⟩
      rw [dS_eq]
      refine wG ?_
      refine agG2 ?_
      refine ⟨dS (kHas), rfl, ?_⟩
      rw [dS_eq]
      refine wG ?_
      refine agG2 ?_
      refine ⟨dS (tyS 4 a.ty), rfl, ?_⟩
      rw [dS_eq]
      refine wG ?_
      refine agG2 ?_
      refine ⟨_, _, WkL.rfl, WkOs.rfl, wl, _, a.ty, rfl, rfl, ha.2, ?_⟩
      refine agG2 ?_
      left
      refine wG ?_
      refine agG2 ?_
      refine ⟨j + 1, by dsimp only; omega, by dsimp only; omega, [], Meet.mk rfl rfl ⟨WkO.rfl, WkO.rfl, WkO.rfl, .inr ⟨rfl, rfl, rfl, ?_⟩, trivial⟩ ⟨Wk.rfl, trivial⟩ rfl⟩
      rw [ht1]
      exact rows_app rfl (DWL.of_eqx (by rw [dPm_eq]; show _ = [DV.s a.name, DV.b a.lent, DV.sl 1 (a.ty.kids.map dTy)]; rw [hl]; rfl))
end Ab
