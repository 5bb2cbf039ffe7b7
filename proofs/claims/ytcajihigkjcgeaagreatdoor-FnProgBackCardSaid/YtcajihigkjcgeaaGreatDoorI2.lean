/- The program's words for what is in form, second part: expressions, arguments. -/
import Derived.Test.YtcajihigkjcgeaaGreatDoorSyn
import Derived.Test.YtcajihigkjcgeaaGreatDoorI1
set_option linter.all false
namespace Ab
open Go Go.Proofs
set_option maxRecDepth 10000
set_option maxHeartbeats 4000000
set_option linter.all false

theorem xpFm_sh (n : Nat) (x : Xp) : xpFm (n + 1) x = match xpSh x with
    | .no => false
    | .num m => decide (0 ≤ m) && decide (m ≤ 9999)
    | .read p => plOk p
    | .two _ a b => xpFm n a && xpFm n b := by
  obtain ⟨k, m, p, ks⟩ := x
  by_cases k1 : k = 1
  · subst k1
    have e1 : xpSh (.mk 1 m p ks) = bif plNo p && ks.isEmpty then .num m else .no := by simp [xpSh]
    rw [xpFm_1, e1]
    cases plNo p <;> cases ks.isEmpty <;> simp
  have k1' : (k == 1) = false := by simpa using k1
  by_cases k2 : k = 2
  · subst k2
    have e1 : xpSh (.mk 2 m p ks) = bif m == 0 && ks.isEmpty then .read p else .no := by simp [xpSh]
    rw [xpFm_2, e1]
    cases m == 0 <;> cases ks.isEmpty <;> simp
  have k2' : (k == 2) = false := by simpa using k2
  rw [xpFm_o n p ks k1' k2']
  by_cases k3 : 3 ≤ k ∧ k ≤ 6
  · by_cases hl : ks.length = 2
    · obtain ⟨a, b, rfl⟩ : ∃ a b, ks = [a, b] := by
        match ks, hl with
        | [a, b], _ => exact ⟨a, b, rfl⟩
      have e1 : xpSh (.mk k m p [a, b]) = bif m == 0 && plNo p then .two k a b else .no := by simp only [xpSh]; rw [if_neg k1, if_neg k2, if_pos k3]
      rw [e1]
      simp only [k3.1, k3.2, decide_true, Bool.true_and]
      cases m == 0 <;> cases plNo p <;> simp
    · have e1 : xpSh (.mk k m p ks) = .no := by
        simp only [xpSh]; rw [if_neg k1, if_neg k2, if_pos k3]
        match ks, hl with
        | [], _ => rfl
        | [_], _ => rfl
        | [_, _], h => simp at h
        | _ :: _ :: _ :: _, _ => rfl
      rw [e1]
      have : (ks.length == 2) = false := by simpa using hl
      simp [this]
  · have e1 : xpSh (.mk k m p ks) = .no := by simp only [xpSh]; rw [if_neg k1, if_neg k2, if_neg k3]
    rw [e1]
    have : (decide (3 ≤ k) && decide (k ≤ 6)) = false := by
      rw [Bool.and_eq_false_iff]
      by_cases h : 3 ≤ k
      · right; simp; omega
      · left; simp; omega
    rw [this]; rfl
/-- impl.exprForm -/
theorem v_i_exprForm {B : World} : ∀ n, Valid PG B i_exprForm (S_s_l2Expr n) := by
  refine valid_lt (fun args O Q ⟨x, d, _, _, h1, h2, _⟩ => by omega) fun n ih => ?_
  refine valid_of (Γ := [(i_exprOf, ⟨[], S_i_exprOf⟩), (i_placeForm, ⟨[], S_s_l2Place⟩), (i_exprForm, ⟨[], S_s_l2Expr n⟩)]) wide tok (((AllValid.nil.cons ih).cons v_i_placeForm).cons v_i_exprOf) g_i_exprForm rfl rfl ?_
  rintro _ _ Q ⟨x, d, rfl, rfl, hd0, hdn, hn, hQ⟩
  refine wG ?_
  refine brG1 (fun h1 => ?_) (fun h1 => ?_)
  · refine endK ⟨[], ⟨rfl, rfl⟩, ?_⟩
    refine wG ?_
    refine ⟨_, _, Wk.of_eq ?_, WkOs.rfl, hQ⟩
    have : d.toNat = 0 := by omega
    rw [this]; cases x; rfl
  obtain ⟨D, hD⟩ : ∃ D, d.toNat = D + 1 := ⟨d.toNat - 1, by omega⟩
  have hD1 : (d - 1).toNat = D := by omega
  rw [hD, xpFm_sh] at hQ
  refine ⟨_, _, WkL.rfl, WkOs.rfl, x, rfl, rfl, ?_⟩
  cases hs : xpSh x with
  | no =>
    rw [hs] at hQ
    refine goG1 ?_
    refine endK ⟨[], ⟨rfl, rfl⟩, ?_⟩
    refine wG ?_
    exact ⟨_, _, Wk.rfl, WkOs.rfl, hQ⟩
  | num m =>
    rw [hs] at hQ
    have fin : ∀ b : Bool, (decide (0 ≤ m) && decide (m ≤ 9999)) = b → wkQ Q (bv b) [] := fun b h => ⟨_, _, Wk.rfl, WkOs.rfl, by subst h; exact hQ⟩
    refine goG1 ?_
    repeat' (first
      | refine stG1 ?_
      | (refine Br.yes rfl ?_; refine wG ?_)
      | (refine Br.no rfl ?_; refine wG ?_)
      | (refine br_dec (fun h => ?_) (fun h => ?_) <;> refine wG ?_)
      | (refine br_eq (fun h => ?_) (fun h => ?_) <;> refine wG ?_)
      | (refine br_ne (fun h => ?_) (fun h => ?_) <;> refine wG ?_)
      | (refine br_neq (fun h => ?_) (fun h => ?_) <;> refine wG ?_)
      | (refine br_not (fun h => ?_) (fun h => ?_) <;> refine wG ?_)
      | (refine Br.mk (fun h => ?_) (fun h => ?_) <;> refine wG ?_)
      | (refine endK ⟨[], ⟨rfl, rfl⟩, ?_⟩; refine wG ?_; refine fin _ ?_)
      )
    all_goals (first | (simp_all; done) | (simp_all; omega))
  | read p =>
    rw [hs] at hQ
    refine goG1 ?_
    refine ⟨_, _, WkL.rfl, WkOs.rfl, p, rfl, rfl, ?_⟩
    refine goG1 ?_
    refine endK ⟨[], ⟨rfl, rfl⟩, ?_⟩
    refine wG ?_
    exact ⟨_, _, Wk.rfl, WkOs.rfl, hQ⟩
  | two k a b =>
    rw [hs] at hQ
    have fin : ∀ b' : Bool, (xpFm D a && xpFm D b) = b' → wkQ Q (bv b') [] := fun b h => ⟨_, _, Wk.rfl, WkOs.rfl, by subst h; exact hQ⟩
    refine goG1 ?_
    refine ⟨_, _, WkL.rfl, WkOs.rfl, a, d - 1, rfl, rfl, by omega, by omega, by omega, ?_⟩
    rw [hD1]
    refine goG1 ?_
    refine ⟨fun h => ?_, fun h => ?_⟩
    · have h : xpFm D a = true := h
      refine wG ?_
      refine goG1 ?_
      refine ⟨_, _, WkL.rfl, WkOs.rfl, b, d - 1, rfl, rfl, by omega, by omega, by omega, ?_⟩
      rw [hD1]
      refine goG1 ?_
      refine endK ⟨[], ⟨rfl, rfl⟩, ?_⟩
      refine wG ?_
      exact fin _ (by rw [h]; rfl)
    · have h : xpFm D a = false := h
      refine wG ?_
      refine goG1 ?_
      refine endK ⟨[], ⟨rfl, rfl⟩, ?_⟩
      refine wG ?_
      exact fin _ (by rw [h]; rfl)
/-- impl.argForm -/
def S_i_argForm : Spec := fun args O Q => ∃ (a : Ar), args = [aAr a] ∧ O = [] ∧ Q (bv (arFm a)) []
theorem v_i_argForm {B : World} : Valid PG B i_argForm S_i_argForm := by
  refine valid_of (Γ := [(i_placeForm, ⟨[], S_s_l2Place⟩), (i_exprNothing, ⟨[], S_s_l2NoExpr⟩), (i_placeNothing, ⟨[], S_s_l2None⟩), (i_exprForm, ⟨[], S_s_l2Expr 10⟩)]) wide tok ((((AllValid.nil.cons (v_i_exprForm 10)).cons v_i_placeNothing).cons v_i_exprNothing).cons v_i_placeForm) g_i_argForm rfl rfl ?_
  rintro _ _ Q ⟨⟨b, p, x⟩, rfl, rfl, hQ⟩
  have fin : ∀ b' : Bool, arFm ⟨b, p, x⟩ = b' → wkQ Q (bv b') [] := fun b h => ⟨_, _, Wk.rfl, WkOs.rfl, by subst h; exact hQ⟩
  refine wG ?_
  cases b with
  | true =>
    repeat' (first
      | refine stG1 ?_
      | (refine Br.yes rfl ?_; refine wG ?_)
      | (refine Br.no rfl ?_; refine wG ?_)
      | (refine ⟨_, _, WkL.rfl, WkOs.rfl, p, rfl, rfl, ?_⟩; refine wG ?_)
      | (refine ⟨_, _, WkL.rfl, WkOs.rfl, x, rfl, rfl, ?_⟩; refine wG ?_)
      | (refine br_dec (fun h => ?_) (fun h => ?_) <;> refine wG ?_)
      | (refine br_eq (fun h => ?_) (fun h => ?_) <;> refine wG ?_)
      | (refine br_ne (fun h => ?_) (fun h => ?_) <;> refine wG ?_)
      | (refine br_neq (fun h => ?_) (fun h => ?_) <;> refine wG ?_)
      | (refine br_not (fun h => ?_) (fun h => ?_) <;> refine wG ?_)
      | (refine Br.mk (fun h => ?_) (fun h => ?_) <;> refine wG ?_)
      | (refine endK ⟨[], ⟨rfl, rfl⟩, ?_⟩; refine wG ?_; refine fin _ ?_)
      )
    all_goals simp_all [arFm]
  | false =>
    repeat' (first
      | refine stG1 ?_
      | (refine Br.yes rfl ?_; refine wG ?_)
      | (refine Br.no rfl ?_; refine wG ?_)
      | (refine ⟨_, _, WkL.rfl, WkOs.rfl, p, rfl, rfl, ?_⟩; refine wG ?_)
      | (refine ⟨_, _, WkL.rfl, WkOs.rfl, x, 4, rfl, rfl, by omega, by omega, by omega, ?_⟩; refine wG ?_)
      | (refine br_dec (fun h => ?_) (fun h => ?_) <;> refine wG ?_)
      | (refine br_eq (fun h => ?_) (fun h => ?_) <;> refine wG ?_)
      | (refine br_ne (fun h => ?_) (fun h => ?_) <;> refine wG ?_)
      | (refine br_neq (fun h => ?_) (fun h => ?_) <;> refine wG ?_)
      | (refine br_not (fun h => ?_) (fun h => ?_) <;> refine wG ?_)
      | (refine Br.mk (fun h => ?_) (fun h => ?_) <;> refine wG ?_)
      | (refine endK ⟨[], ⟨rfl, rfl⟩, ?_⟩; refine wG ?_; refine fin _ ?_)
      )
    all_goals simp_all [arFm]
/-- impl.argsForm -/
theorem v_i_argsForm {B : World} : Valid PG B i_argsForm S_s_l2Args := by
  refine valid_of (Γ := [(i_argForm, ⟨[], S_i_argForm⟩)]) wide tok (AllValid.nil.cons v_i_argForm) g_i_argsForm rfl rfl ?_
  rintro _ _ Q ⟨l, rfl, rfl, hQ⟩
  have fin : ∀ b : Bool, argsFm l = b → wkQ Q (bv b) [] := fun b h => ⟨_, _, Wk.rfl, WkOs.rfl, by subst h; exact hQ⟩
  refine wG ?_
  refine brG1 (fun h1 => ?_) (fun h1 => ?_)
  · refine endK ⟨[], ⟨rfl, rfl⟩, ?_⟩
    refine wG ?_
    exact fin _ (by simp [argsFm]; omega)
  have hl : l.length ≤ 4 := by simp at h1; omega
  refine ⟨[], Int, fun i => 0 ≤ i ∧ i ≤ l.length ∧ (l.take i.toNat).all arFm = true, fun i => (l.length - i).toNat, fun i => [(10, iv i)], fun i => [], 0, ⟨by omega, by omega, by simp⟩, ?_⟩
  refine wG ?_
  refine ⟨Meet.mk rfl rfl WkOs.rfl ⟨Wk.rfl, trivial⟩ rfl, ?_⟩
  rintro i ⟨i0, i1, i2⟩
  refine wG ?_
  refine brG1 (fun h3 => ?_) (fun h3 => ?_)
  · have h3 : i < (l.length : Int) := by simpa using h3
    have hi : i.toNat < l.length := by omega
    have e3 : (i + 1).toNat = i.toNat + 1 := by omega
    have hkm := List.getElem_mem hi
    have hx : (l.map dAr)[i.toNat]? = some (dAr l[i.toNat]) := by simp [hi]
    have yes : arFm l[i.toNat] = true → ((l.take (i + 1).toNat).all arFm = true) := fun h => e3 ▸ take_all hi i2 h
    have bad : arFm l[i.toNat] = false → argsFm l = false := fun h => by
      have : l.all arFm = false := List.all_eq_false.2 ⟨_, hkm, by rw [h]; simp⟩
      simp [argsFm, this]
    generalize l[i.toNat] = a at *
    refine Req.mk i0 ?_
    refine ⟨_, hx, ?_⟩
    rw [dAr_eq]
    refine wG ?_
    refine ⟨_, _, WkL.rfl, WkOs.rfl, a, rfl, rfl, ?_⟩
    refine goG1 ?_
    refine ⟨fun h4 => ?_, fun h4 => ?_⟩
    · refine wG ?_
      refine endK ⟨[], ⟨rfl, rfl⟩, ?_⟩
      refine wG ?_
      exact fin _ (bad (of_not_t h4))
    · refine wG ?_
      refine goG1 ?_
      refine ⟨i + 1, ⟨by omega, by omega, yes (of_not_f h4)⟩, by dsimp only; omega, [], Meet.mk rfl rfl WkOs.rfl ⟨Wk.rfl, trivial⟩ rfl⟩
  · have h3 : ¬ i < (l.length : Int) := by simpa using h3
    rw [List.take_of_length_le (by omega)] at i2
    refine endK ⟨[], ⟨rfl, rfl⟩, ?_⟩
    refine wG ?_
    exact fin _ (by simp [argsFm, i2, hl])
end Ab

/- The program's words for what is in form, third part: what a statement is. -/
namespace Ab
open Go Go.Proofs
set_option maxRecDepth 10000
set_option maxHeartbeats 4000000
set_option linter.all false

/-- what a statement is -/
inductive Ssh where
  | no
  | let_ (n : Bs) (x : Xp)
  | lend (n : Bs) (p : Pl)
  | set (p : Pl) (x : Xp)
  | call (n f : Bs) (ar : List Ar)
  | ifs (x : Xp) (t e : List St)
  | pick (n : Bs) (p q : Pl) (x : Xp)
def stNo (s : St) : Bool := s.kind == 0 && s.name.isEmpty && plNo s.pl && plNo s.other && xpNo s.ex && s.fn.isEmpty && s.args.isEmpty && s.thn.isEmpty && s.els.isEmpty
def stSh : St → Ssh
  | .mk k n p o x f ar t e =>
    if k = 1 then bif stNo (.mk 0 [] p o xp0 f ar t e) then .let_ n x else .no
    else if k = 2 then bif stNo (.mk 0 [] pl0 o x f ar t e) then .lend n p else .no
    else if k = 3 then bif stNo (.mk 0 n pl0 o xp0 f ar t e) then .set p x else .no
    else if k = 4 then bif stNo (.mk 0 [] p o x [] [] t e) then .call n f ar else .no
    else if k = 5 then bif stNo (.mk 0 n p o xp0 f ar [] []) then .ifs x t e else .no
    else if k = 6 then bif stNo (.mk 0 [] pl0 pl0 xp0 f ar t e) then .pick n p o x else .no
    else .no
abbrev aX (x : Xp) : List AV := [iv x.kind, iv x.num, sv x.pl.name, .d (.sl 1 (x.pl.path.map dI)), .d (.sl 5 (x.kids.map dXp))]
abbrev aP (p : Pl) : List AV := [sv p.name, .d (.sl 1 (p.path.map dI))]
def aSsh : Ssh → AV
  | .no => .d (.v .nilIface)
  | .let_ n x => .ifc t_i_stmtLet (.agg (sv n :: aX x))
  | .lend n p => .ifc t_i_stmtLend (.agg (sv n :: aP p))
  | .set p x => .ifc t_i_stmtSet (.agg (aP p ++ aX x))
  | .call n f ar => .ifc t_i_stmtCall (.agg [sv n, sv f, .d (.sl 8 (ar.map dAr))])
  | .ifs x t e => .ifc t_i_stmtIf (.agg (aX x ++ [.d (.sl 15 (t.map dSt)), .d (.sl 15 (e.map dSt))]))
  | .pick n p q x => .ifc t_i_stmtPick (.agg (sv n :: aP p ++ aP q ++ aX x))
/-- impl.stmtNothing -/
def S_i_stmtNothing : Spec := fun args O Q => ∃ (s : St), args = [aSt s] ∧ O = [] ∧ Q (bv (stNo s)) []
theorem v_i_stmtNothing {B : World} : Valid PG B i_stmtNothing S_i_stmtNothing := by
  refine valid_of (Γ := [(i_placeNothing, ⟨[], S_s_l2None⟩), (i_exprNothing, ⟨[], S_s_l2NoExpr⟩)]) wide tok ((AllValid.nil.cons v_i_exprNothing).cons v_i_placeNothing) g_i_stmtNothing rfl rfl ?_
  rintro _ _ Q ⟨⟨k, n, p, o, x, f, ar, t, e⟩, rfl, rfl, hQ⟩
  have fin : ∀ b : Bool, stNo (.mk k n p o x f ar t e) = b → wkQ Q (bv b) [] := fun b h => ⟨_, _, Wk.rfl, WkOs.rfl, by subst h; exact hQ⟩
  have ea : (((ar.map dAr).length : Int) == 0) = ar.isEmpty := by rw [List.length_map, len0]
  have et : (((t.map dSt).length : Int) == 0) = t.isEmpty := by rw [List.length_map, len0]
  have ee : (((e.map dSt).length : Int) == 0) = e.isEmpty := by rw [List.length_map, len0]
  refine wG ?_
  repeat' (first
    | refine stG1 ?_
    | (refine Br.yes rfl ?_; refine wG ?_)
    | (refine Br.no rfl ?_; refine wG ?_)
    | (refine ⟨_, _, WkL.rfl, WkOs.rfl, p, rfl, rfl, ?_⟩; refine wG ?_)
    | (refine ⟨_, _, WkL.rfl, WkOs.rfl, o, rfl, rfl, ?_⟩; refine wG ?_)
    | (refine ⟨_, _, WkL.rfl, WkOs.rfl, x, rfl, rfl, ?_⟩; refine wG ?_)
    | (refine br_dec (fun h => ?_) (fun h => ?_) <;> refine wG ?_)
    | (refine br_eq (fun h => ?_) (fun h => ?_) <;> refine wG ?_)
    | (refine br_ne (fun h => ?_) (fun h => ?_) <;> refine wG ?_)
    | (refine br_neq (fun h => ?_) (fun h => ?_) <;> refine wG ?_)
    | (refine br_not (fun h => ?_) (fun h => ?_) <;> refine wG ?_)
    | (refine Br.mk (fun h => ?_) (fun h => ?_) <;> refine wG ?_)
    | (refine endK ⟨[], ⟨rfl, rfl⟩, ?_⟩; refine wG ?_; refine fin _ ?_)
    )
  all_goals (try simp only [List.length_map, len0, mt_str] at *)
  all_goals (simp_all [stNo, St.kind, St.name, St.fn, St.args, St.thn, St.els, St.pl, St.other, St.ex])
/-- impl.stmtOf -/
def S_i_stmtOf : Spec := fun args O Q => ∃ (s : St), args = [aSt s] ∧ O = [] ∧ Q (aSsh (stSh s)) []
theorem v_i_stmtOf {B : World} : Valid PG B i_stmtOf S_i_stmtOf := by
  refine valid_of (Γ := [(i_stmtNothing, ⟨[], S_i_stmtNothing⟩)]) wide tok (AllValid.nil.cons v_i_stmtNothing) g_i_stmtOf rfl rfl ?_
  rintro _ _ Q ⟨⟨k, n, p, o, x, f, ar, t, e⟩, rfl, rfl, hQ⟩
  by_cases k1 : k = 1
  · subst k1
    have e1 : stSh (.mk 1 n p o x f ar t e) = bif stNo (.mk 0 [] p o xp0 f ar t e) then .let_ n x else .no := by simp [stSh]
    rw [e1] at hQ
    refine wG ?_
    refine Br.yes (by rfl) ?_
    refine wG ?_
    refine ⟨_, _, (by repeat' (first | exact Wk.rfl | exact WkL.rfl | exact WkOs.rfl | exact DWRows.rfl | exact Wk.nil _ | exact DWL.rfl | exact DW.rfl | exact DW.nil _ | exact DW.nilf _ | exact DW.sf | refine Wk.agg ?_ | refine Wk.tup ?_ | refine WkL.cons ?_ ?_ | refine Wk.d ?_ | refine DWL.cons ?_ ?_ | refine DW.sf.trans (DW.sl ?_) | refine DW.sl ?_ | refine DW.sff ?_ | exact WkL.nil | exact trivial | exact DWRows.rfl_of (by simp [Function.comp_def, Ty.kids, Ty.kids_mk]))), WkOs.rfl, .mk 0 [] p o xp0 f ar t e, rfl, rfl, ?_⟩
    generalize stNo (.mk 0 [] p o xp0 f ar t e) = b at *
    refine goG1 ?_
    cases b with
    | true =>
      refine Br.no (by rfl) ?_
      refine wG ?_
      refine endK ⟨[], ⟨rfl, rfl⟩, ?_⟩
      refine wG ?_
      exact ⟨_, _, Wk.rfl, WkOs.rfl, hQ⟩
    | false =>
      refine Br.yes (by rfl) ?_
      refine wG ?_
      refine endK ⟨[], ⟨rfl, rfl⟩, ?_⟩
      refine wG ?_
      exact ⟨_, _, Wk.rfl, WkOs.rfl, hQ⟩
  by_cases k2 : k = 2
  · subst k2
    have e1 : stSh (.mk 2 n p o x f ar t e) = bif stNo (.mk 0 [] pl0 o x f ar t e) then .lend n p else .no := by simp [stSh]
    rw [e1] at hQ
    refine wG ?_
    refine Br.no (by rfl) ?_
    refine wG ?_
    refine Br.yes (by rfl) ?_
    refine wG ?_
    refine ⟨_, _, (by repeat' (first | exact Wk.rfl | exact WkL.rfl | exact WkOs.rfl | exact DWRows.rfl | exact Wk.nil _ | exact DWL.rfl | exact DW.rfl | exact DW.nil _ | exact DW.nilf _ | exact DW.sf | refine Wk.agg ?_ | refine Wk.tup ?_ | refine WkL.cons ?_ ?_ | refine Wk.d ?_ | refine DWL.cons ?_ ?_ | refine DW.sf.trans (DW.sl ?_) | refine DW.sl ?_ | refine DW.sff ?_ | exact WkL.nil | exact trivial | exact DWRows.rfl_of (by simp [Function.comp_def, Ty.kids, Ty.kids_mk]))), WkOs.rfl, .mk 0 [] pl0 o x f ar t e, rfl, rfl, ?_⟩
    generalize stNo (.mk 0 [] pl0 o x f ar t e) = b at *
    refine goG1 ?_
    cases b with
    | true =>
      refine Br.no (by rfl) ?_
      refine wG ?_
      refine endK ⟨[], ⟨rfl, rfl⟩, ?_⟩
      refine wG ?_
      exact ⟨_, _, Wk.rfl, WkOs.rfl, hQ⟩
    | false =>
      refine Br.yes (by rfl) ?_
      refine wG ?_
      refine endK ⟨[], ⟨rfl, rfl⟩, ?_⟩
      refine wG ?_
      exact ⟨_, _, Wk.rfl, WkOs.rfl, hQ⟩
  by_cases k3 : k = 3
  · subst k3
    have e1 : stSh (.mk 3 n p o x f ar t e) = bif stNo (.mk 0 n pl0 o xp0 f ar t e) then .set p x else .no := by simp [stSh]
    rw [e1] at hQ
    refine wG ?_
    refine Br.no (by rfl) ?_
    refine wG ?_
    refine Br.no (by rfl) ?_
    refine wG ?_
    refine Br.yes (by rfl) ?_
    refine wG ?_
    refine ⟨_, _, (by repeat' (first | exact Wk.rfl | exact WkL.rfl | exact WkOs.rfl | exact DWRows.rfl | exact Wk.nil _ | exact DWL.rfl | exact DW.rfl | exact DW.nil _ | exact DW.nilf _ | exact DW.sf | refine Wk.agg ?_ | refine Wk.tup ?_ | refine WkL.cons ?_ ?_ | refine Wk.d ?_ | refine DWL.cons ?_ ?_ | refine DW.sf.trans (DW.sl ?_) | refine DW.sl ?_ | refine DW.sff ?_ | exact WkL.nil | exact trivial | exact DWRows.rfl_of (by simp [Function.comp_def, Ty.kids, Ty.kids_mk]))), WkOs.rfl, .mk 0 n pl0 o xp0 f ar t e, rfl, rfl, ?_⟩
    generalize stNo (.mk 0 n pl0 o xp0 f ar t e) = b at *
    refine goG1 ?_
    cases b with
    | true =>
      refine Br.no (by rfl) ?_
      refine wG ?_
      refine endK ⟨[], ⟨rfl, rfl⟩, ?_⟩
      refine wG ?_
      exact ⟨_, _, Wk.rfl, WkOs.rfl, hQ⟩
    | false =>
      refine Br.yes (by rfl) ?_
      refine wG ?_
      refine endK ⟨[], ⟨rfl, rfl⟩, ?_⟩
      refine wG ?_
      exact ⟨_, _, Wk.rfl, WkOs.rfl, hQ⟩
  by_cases k4 : k = 4
  · subst k4
    have e1 : stSh (.mk 4 n p o x f ar t e) = bif stNo (.mk 0 [] p o x [] [] t e) then .call n f ar else .no := by simp [stSh]
    rw [e1] at hQ
    refine wG ?_
    refine Br.no (by rfl) ?_
    refine wG ?_
    refine Br.no (by rfl) ?_
    refine wG ?_
    refine Br.no (by rfl) ?_
    refine wG ?_
    refine Br.yes (by rfl) ?_
    refine wG ?_
    refine ⟨_, _, (by repeat' (first | exact Wk.rfl | exact WkL.rfl | exact WkOs.rfl | exact DWRows.rfl | exact Wk.nil _ | exact DWL.rfl | exact DW.rfl | exact DW.nil _ | exact DW.nilf _ | exact DW.sf | refine Wk.agg ?_ | refine Wk.tup ?_ | refine WkL.cons ?_ ?_ | refine Wk.d ?_ | refine DWL.cons ?_ ?_ | refine DW.sf.trans (DW.sl ?_) | refine DW.sl ?_ | refine DW.sff ?_ | exact WkL.nil | exact trivial | exact DWRows.rfl_of (by simp [Function.comp_def, Ty.kids, Ty.kids_mk]))), WkOs.rfl, .mk 0 [] p o x [] [] t e, rfl, rfl, ?_⟩
    generalize stNo (.mk 0 [] p o x [] [] t e) = b at *
    refine goG1 ?_
    cases b with
    | true =>
      refine Br.no (by rfl) ?_
      refine wG ?_
      refine endK ⟨[], ⟨rfl, rfl⟩, ?_⟩
      refine wG ?_
      exact ⟨_, _, Wk.rfl, WkOs.rfl, hQ⟩
    | false =>
      refine Br.yes (by rfl) ?_
      refine wG ?_
      refine endK ⟨[], ⟨rfl, rfl⟩, ?_⟩
      refine wG ?_
      exact ⟨_, _, Wk.rfl, WkOs.rfl, hQ⟩
  by_cases k5 : k = 5
  · subst k5
    have e1 : stSh (.mk 5 n p o x f ar t e) = bif stNo (.mk 0 n p o xp0 f ar [] []) then .ifs x t e else .no := by simp [stSh]
    rw [e1] at hQ
    refine wG ?_
    refine Br.no (by rfl) ?_
    refine wG ?_
    refine Br.no (by rfl) ?_
    refine wG ?_
    refine Br.no (by rfl) ?_
    refine wG ?_
    refine Br.no (by rfl) ?_
    refine wG ?_
    refine Br.yes (by rfl) ?_
    refine wG ?_
    refine ⟨_, _, (by repeat' (first | exact Wk.rfl | exact WkL.rfl | exact WkOs.rfl | exact DWRows.rfl | exact Wk.nil _ | exact DWL.rfl | exact DW.rfl | exact DW.nil _ | exact DW.nilf _ | exact DW.sf | refine Wk.agg ?_ | refine Wk.tup ?_ | refine WkL.cons ?_ ?_ | refine Wk.d ?_ | refine DWL.cons ?_ ?_ | refine DW.sf.trans (DW.sl ?_) | refine DW.sl ?_ | refine DW.sff ?_ | exact WkL.nil | exact trivial | exact DWRows.rfl_of (by simp [Function.comp_def, Ty.kids, Ty.kids_mk]))), WkOs.rfl, .mk 0 n p o xp0 f ar [] [], rfl, rfl, ?_⟩
    generalize stNo (.mk 0 n p o xp0 f ar [] []) = b at *
    refine goG1 ?_
    cases b with
    | true =>
      refine Br.no (by rfl) ?_
      refine wG ?_
      refine endK ⟨[], ⟨rfl, rfl⟩, ?_⟩
      refine wG ?_
      exact ⟨_, _, Wk.rfl, WkOs.rfl, hQ⟩
    | false =>
      refine Br.yes (by rfl) ?_
      refine wG ?_
      refine endK ⟨[], ⟨rfl, rfl⟩, ?_⟩
      refine wG ?_
      exact ⟨_, _, Wk.rfl, WkOs.rfl, hQ⟩
  by_cases k6 : k = 6
  · subst k6
    have e1 : stSh (.mk 6 n p o x f ar t e) = bif stNo (.mk 0 [] pl0 pl0 xp0 f ar t e) then .pick n p o x else .no := by simp [stSh]
    rw [e1] at hQ
    refine wG ?_
    refine Br.no (by rfl) ?_
    refine wG ?_
    refine Br.no (by rfl) ?_
    refine wG ?_
    refine Br.no (by rfl) ?_
    refine wG ?_
    refine Br.no (by rfl) ?_
    refine wG ?_
    refine Br.no (by rfl) ?_
    refine wG ?_
    refine Br.yes (by rfl) ?_
    refine wG ?_
    refine ⟨_, _, (by repeat' (first | exact Wk.rfl | exact WkL.rfl | exact WkOs.rfl | exact DWRows.rfl | exact Wk.nil _ | exact DWL.rfl | exact DW.rfl | exact DW.nil _ | exact DW.nilf _ | exact DW.sf | refine Wk.agg ?_ | refine Wk.tup ?_ | refine WkL.cons ?_ ?_ | refine Wk.d ?_ | refine DWL.cons ?_ ?_ | refine DW.sf.trans (DW.sl ?_) | refine DW.sl ?_ | refine DW.sff ?_ | exact WkL.nil | exact trivial | exact DWRows.rfl_of (by simp [Function.comp_def, Ty.kids, Ty.kids_mk]))), WkOs.rfl, .mk 0 [] pl0 pl0 xp0 f ar t e, rfl, rfl, ?_⟩
    generalize stNo (.mk 0 [] pl0 pl0 xp0 f ar t e) = b at *
    refine goG1 ?_
    cases b with
    | true =>
      refine Br.no (by rfl) ?_
      refine wG ?_
      refine endK ⟨[], ⟨rfl, rfl⟩, ?_⟩
      refine wG ?_
      exact ⟨_, _, Wk.rfl, WkOs.rfl, hQ⟩
    | false =>
      refine Br.yes (by rfl) ?_
      refine wG ?_
      refine endK ⟨[], ⟨rfl, rfl⟩, ?_⟩
      refine wG ?_
      exact ⟨_, _, Wk.rfl, WkOs.rfl, hQ⟩
  have e1 : stSh (.mk k n p o x f ar t e) = .no := by simp [stSh, k1, k2, k3, k4, k5, k6]
  rw [e1] at hQ
  refine wG ?_
  refine Br.no (by show (k == 1) = false; simpa using k1) ?_
  refine wG ?_
  refine Br.no (by show (k == 2) = false; simpa using k2) ?_
  refine wG ?_
  refine Br.no (by show (k == 3) = false; simpa using k3) ?_
  refine wG ?_
  refine Br.no (by show (k == 4) = false; simpa using k4) ?_
  refine wG ?_
  refine Br.no (by show (k == 5) = false; simpa using k5) ?_
  refine wG ?_
  refine Br.no (by show (k == 6) = false; simpa using k6) ?_
  refine wG ?_
  refine endK ⟨[], ⟨rfl, rfl⟩, ?_⟩
  refine wG ?_
  exact ⟨_, _, Wk.rfl, WkOs.rfl, hQ⟩
end Ab
