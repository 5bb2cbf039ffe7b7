/- The program's words for what is in form: names, places, expressions. -/
import Derived.Test.YtcajihigkjcgeaaGreatDoorSyn
import Derived.Test.YtcajihigkjcgeaaGreatDoorFrm
set_option linter.all false
namespace Ab
open Go Go.Proofs
set_option maxRecDepth 10000
set_option maxHeartbeats 4000000
set_option linter.all false

/-- impl.placeNothing -/
theorem v_i_placeNothing {B : World} : Valid PG B i_placeNothing S_s_l2None := by
  refine valid_of (Γ := []) wide tok AllValid.nil g_i_placeNothing rfl rfl ?_
  rintro _ _ Q ⟨⟨n, p⟩, rfl, rfl, hQ⟩
  have fin : ∀ b : Bool, plNo ⟨n, p⟩ = b → wkQ Q (bv b) [] := fun b h => ⟨_, _, Wk.rfl, WkOs.rfl, by subst h; exact hQ⟩
  refine wG ?_
  repeat' (first
    | refine stG1 ?_
    | (refine Br.yes rfl ?_; refine wG ?_)
    | (refine Br.no rfl ?_; refine wG ?_)
    | (refine br_dec (fun h => ?_) (fun h => ?_) <;> refine wG ?_)
    | (refine br_eq (fun h => ?_) (fun h => ?_) <;> refine wG ?_)
    | (refine br_ne (fun h => ?_) (fun h => ?_) <;> refine wG ?_)
    | (refine br_neq (fun h => ?_) (fun h => ?_) <;> refine wG ?_)
    | (refine br_not (fun h => ?_) (fun h => ?_) <;> refine wG ?_)
    | (refine Br.mk (fun h => ?_) (fun h => ?_) <;> refine wG ?_)
    | (refine endK ⟨[], ⟨rfl, rfl⟩, ?_⟩; refine wG ?_; refine fin _ ?_)
    )
  all_goals (try simp only [List.length_map, len0, mt_str] at *)
  all_goals (simp_all [plNo])
/-- impl.exprNothing -/
theorem v_i_exprNothing {B : World} : Valid PG B i_exprNothing S_s_l2NoExpr := by
  refine valid_of (Γ := [(i_placeNothing, ⟨[], S_s_l2None⟩)]) wide tok (AllValid.nil.cons v_i_placeNothing) g_i_exprNothing rfl rfl ?_
  rintro _ _ Q ⟨⟨k, m, p, ks⟩, rfl, rfl, hQ⟩
  have fin : ∀ b : Bool, xpNo (.mk k m p ks) = b → wkQ Q (bv b) [] := fun b h => ⟨_, _, Wk.rfl, WkOs.rfl, by subst h; exact hQ⟩
  refine wG ?_
  repeat' (first
    | refine stG1 ?_
    | (refine Br.yes rfl ?_; refine wG ?_)
    | (refine Br.no rfl ?_; refine wG ?_)
    | (refine ⟨_, _, WkL.rfl, WkOs.rfl, p, rfl, rfl, ?_⟩; refine wG ?_)
    | (refine br_dec (fun h => ?_) (fun h => ?_) <;> refine wG ?_)
    | (refine br_eq (fun h => ?_) (fun h => ?_) <;> refine wG ?_)
    | (refine br_ne (fun h => ?_) (fun h => ?_) <;> refine wG ?_)
    | (refine br_neq (fun h => ?_) (fun h => ?_) <;> refine wG ?_)
    | (refine br_not (fun h => ?_) (fun h => ?_) <;> refine wG ?_)
    | (refine Br.mk (fun h => ?_) (fun h => ?_) <;> refine wG ?_)
    | (refine endK ⟨[], ⟨rfl, rfl⟩, ?_⟩; refine wG ?_; refine fin _ ?_)
    )
  all_goals (try simp only [List.length_map, len0, mt_str, Xp.kind, Xp.num, Xp.pl, Xp.kids] at *)
  all_goals (simp_all [plNo, xpNo, Xp.kind, Xp.num, Xp.pl, Xp.kids])
/-- impl.nameForm -/
theorem v_i_nameForm {B : World} : Valid PG B i_nameForm S_s_l2Name := by
  refine valid_of (Γ := []) wide tok AllValid.nil g_i_nameForm rfl rfl ?_
  rintro _ _ Q ⟨s, rfl, rfl, hQ⟩
  have fin : ∀ b : Bool, nameOk s = b → wkQ Q (bv b) [] := fun b h => ⟨_, _, Wk.rfl, WkOs.rfl, by subst h; exact hQ⟩
  refine wG ?_
  refine brG1 (fun h1 => ?_) (fun h1 => ?_)
  · refine endK ⟨[], ⟨rfl, rfl⟩, ?_⟩
    refine wG ?_
    exact fin _ (by simp [nameOk]; omega)
  refine brG1 (fun h2 => ?_) (fun h2 => ?_)
  · refine endK ⟨[], ⟨rfl, rfl⟩, ?_⟩
    refine wG ?_
    exact fin _ (by simp [nameOk]; omega)
  refine ⟨[], Int, fun i => 0 ≤ i ∧ i ≤ s.length ∧ (s.take i.toNat).all (cIn 97 122) = true, fun i => (s.length - i).toNat, fun i => [(14, iv i)], fun i => [], 0, ⟨by omega, by omega, by simp⟩, ?_⟩
  refine wG ?_
  refine ⟨Meet.mk rfl rfl WkOs.rfl ⟨Wk.rfl, trivial⟩ rfl, ?_⟩
  rintro i ⟨i0, i1, i2⟩
  refine wG ?_
  refine brG1 (fun h3 => ?_) (fun h3 => ?_)
  · have hi : i.toNat < s.length := by omega
    have e3 : (i + 1).toNat = i.toNat + 1 := by omega
    have bad : cIn 97 122 s[i.toNat] = false → nameOk s = false := fun h => by
      have : s.all (cIn 97 122) = false := List.all_eq_false.2 ⟨_, List.getElem_mem hi, by rw [h]; simp⟩
      simp [nameOk, this]
    first | refine str_at (by omega) (by (try simp only [List.length_append, List.length_cons, List.length_nil, List.length_map, List.length_take, List.length_drop, maxRow, byteRows_len, Ty.kids, Ty.kids_mk]); omega) ?_ | refine str_at' (by (try simp only [List.length_append, List.length_cons, List.length_nil, List.length_map, List.length_take, List.length_drop, maxRow, byteRows_len, Ty.kids, Ty.kids_mk]); omega) ?_
    refine wG ?_
    refine brG1 (fun h4 => ?_) (fun h4 => ?_)
    · refine endK ⟨[], ⟨rfl, rfl⟩, ?_⟩
      refine wG ?_
      exact fin _ (bad (by simp [cIn]; omega))
    first | refine str_at (by omega) (by (try simp only [List.length_append, List.length_cons, List.length_nil, List.length_map, List.length_take, List.length_drop, maxRow, byteRows_len, Ty.kids, Ty.kids_mk]); omega) ?_ | refine str_at' (by (try simp only [List.length_append, List.length_cons, List.length_nil, List.length_map, List.length_take, List.length_drop, maxRow, byteRows_len, Ty.kids, Ty.kids_mk]); omega) ?_
    refine wG ?_
    refine brG1 (fun h5 => ?_) (fun h5 => ?_)
    · refine endK ⟨[], ⟨rfl, rfl⟩, ?_⟩
      refine wG ?_
      exact fin _ (bad (by simp [cIn]; omega))
    refine goG1 ?_
    refine ⟨i + 1, ⟨by omega, by omega, e3 ▸ take_all hi i2 (by simp [cIn]; omega)⟩, by dsimp only; omega, [], Meet.mk rfl rfl WkOs.rfl ⟨Wk.rfl, trivial⟩ rfl⟩
  · refine endK ⟨[], ⟨rfl, rfl⟩, ?_⟩
    refine wG ?_
    rw [List.take_of_length_le (by omega)] at i2
    exact fin _ (by simp [nameOk, i2]; omega)
/-- impl.pathForm -/
def S_i_pathForm : Spec := fun args O Q => ∃ (p : List Int), args = [.d (.sl 1 (p.map dI))] ∧ O = [] ∧ Q (bv (pathOk p)) []
theorem v_i_pathForm {B : World} : Valid PG B i_pathForm S_i_pathForm := by
  refine valid_of (Γ := []) wide tok AllValid.nil g_i_pathForm rfl rfl ?_
  rintro _ _ Q ⟨p, rfl, rfl, hQ⟩
  have fin : ∀ b : Bool, pathOk p = b → wkQ Q (bv b) [] := fun b h => ⟨_, _, Wk.rfl, WkOs.rfl, by subst h; exact hQ⟩
  refine wG ?_
  refine brG1 (fun h2 => ?_) (fun h2 => ?_)
  · refine endK ⟨[], ⟨rfl, rfl⟩, ?_⟩
    refine wG ?_
    exact fin _ (by simp [pathOk]; omega)
  refine ⟨[], Int, fun i => 0 ≤ i ∧ i ≤ p.length ∧ (p.take i.toNat).all stepOk = true, fun i => (p.length - i).toNat, fun i => [(10, iv i)], fun i => [], 0, ⟨by omega, by omega, by simp⟩, ?_⟩
  refine wG ?_
  refine ⟨Meet.mk rfl rfl WkOs.rfl ⟨Wk.rfl, trivial⟩ rfl, ?_⟩
  rintro i ⟨i0, i1, i2⟩
  refine wG ?_
  refine brG1 (fun h3 => ?_) (fun h3 => ?_)
  · have hi : i.toNat < p.length := by omega
    have e3 : (i + 1).toNat = i.toNat + 1 := by omega
    have bad : stepOk p[i.toNat] = false → pathOk p = false := fun h => by
      have : p.all stepOk = false := List.all_eq_false.2 ⟨_, List.getElem_mem hi, by rw [h]; simp⟩
      simp [pathOk, this]
    first | refine idx_map (f := dI) (by omega) (by (try simp only [List.length_append, List.length_cons, List.length_nil, List.length_map, List.length_take, List.length_drop, maxRow, byteRows_len, Ty.kids, Ty.kids_mk]); omega) ?_ | refine idx_map' (f := dI) (by (try simp only [List.length_append, List.length_cons, List.length_nil, List.length_map, List.length_take, List.length_drop, maxRow, byteRows_len, Ty.kids, Ty.kids_mk]); omega) ?_
    refine wG ?_
    refine wG ?_
    refine brG1 (fun h4 => ?_) (fun h4 => ?_)
    · refine endK ⟨[], ⟨rfl, rfl⟩, ?_⟩
      refine wG ?_
      exact fin _ (bad (by simp [stepOk]; omega))
    refine brG1 (fun h5 => ?_) (fun h5 => ?_)
    · refine endK ⟨[], ⟨rfl, rfl⟩, ?_⟩
      refine wG ?_
      exact fin _ (bad (by simp [stepOk]; omega))
    refine goG1 ?_
    refine ⟨i + 1, ⟨by omega, by omega, e3 ▸ take_all hi i2 (by simp [stepOk]; omega)⟩, by dsimp only; omega, [], Meet.mk rfl rfl WkOs.rfl ⟨Wk.rfl, trivial⟩ rfl⟩
  · refine endK ⟨[], ⟨rfl, rfl⟩, ?_⟩
    refine wG ?_
    rw [List.take_of_length_le (by omega)] at i2
    exact fin _ (by simp [pathOk, i2]; omega)
/-- impl.placeForm -/
theorem v_i_placeForm {B : World} : Valid PG B i_placeForm S_s_l2Place := by
  refine valid_of (Γ := [(i_nameForm, ⟨[], S_s_l2Name⟩), (i_pathForm, ⟨[], S_i_pathForm⟩)]) wide tok ((AllValid.nil.cons v_i_pathForm).cons v_i_nameForm) g_i_placeForm rfl rfl ?_
  rintro _ _ Q ⟨⟨n, p⟩, rfl, rfl, hQ⟩
  have fin : ∀ b : Bool, plOk ⟨n, p⟩ = b → wkQ Q (bv b) [] := fun b h => ⟨_, _, Wk.rfl, WkOs.rfl, by subst h; exact hQ⟩
  refine wG ?_
  repeat' (first
    | refine stG1 ?_
    | (refine Br.yes rfl ?_; refine wG ?_)
    | (refine Br.no rfl ?_; refine wG ?_)
    | (refine ⟨_, _, WkL.rfl, WkOs.rfl, n, rfl, rfl, ?_⟩; refine wG ?_)
    | (refine ⟨_, _, WkL.rfl, WkOs.rfl, p, rfl, rfl, ?_⟩; refine wG ?_)
    | (refine br_dec (fun h => ?_) (fun h => ?_) <;> refine wG ?_)
    | (refine br_eq (fun h => ?_) (fun h => ?_) <;> refine wG ?_)
    | (refine br_ne (fun h => ?_) (fun h => ?_) <;> refine wG ?_)
    | (refine br_neq (fun h => ?_) (fun h => ?_) <;> refine wG ?_)
    | (refine br_not (fun h => ?_) (fun h => ?_) <;> refine wG ?_)
    | (refine Br.mk (fun h => ?_) (fun h => ?_) <;> refine wG ?_)
    | (refine endK ⟨[], ⟨rfl, rfl⟩, ?_⟩; refine wG ?_; refine fin _ ?_)
    )
  all_goals (simp_all [plOk])

/-- what an expression is -/
inductive Sh where
  | no
  | num (m : Int)
  | read (p : Pl)
  | two (k : Int) (a b : Xp)
def xpSh : Xp → Sh
  | .mk k m p ks => if k = 1 then (bif plNo p && ks.isEmpty then .num m else .no)
      else if k = 2 then (bif m == 0 && ks.isEmpty then .read p else .no)
      else if 3 ≤ k ∧ k ≤ 6 then match ks with
        | [a, b] => bif m == 0 && plNo p then .two k a b else .no
        | _ => .no
      else .no
def aSh : Sh → AV
  | .no => .d (.v .nilIface)
  | .num m => .ifc t_i_exprNum (.agg [iv m])
  | .read p => .ifc t_i_exprRead (.agg [sv p.name, .d (.sl 1 (p.path.map dI))])
  | .two k a b => .ifc t_i_exprTwo (.agg [iv k, iv a.kind, iv a.num, sv a.pl.name, .d (.sl 1 (a.pl.path.map dI)), .d (.sl 5 (a.kids.map dXp)), iv b.kind, iv b.num, sv b.pl.name, .d (.sl 1 (b.pl.path.map dI)), .d (.sl 5 (b.kids.map dXp))])
/-- impl.exprOf -/
def S_i_exprOf : Spec := fun args O Q => ∃ (x : Xp), args = [aXp x] ∧ O = [] ∧ Q (aSh (xpSh x)) []
theorem v_i_exprOf {B : World} : Valid PG B i_exprOf S_i_exprOf := by
  refine valid_of (Γ := [(i_exprNothing, ⟨[], S_s_l2NoExpr⟩)]) wide tok (AllValid.nil.cons v_i_exprNothing) g_i_exprOf rfl rfl ?_
  rintro _ _ Q ⟨⟨k, m, p, ks⟩, rfl, rfl, hQ⟩
  by_cases k1 : k = 1
  · subst k1
    have e1 : xpSh (.mk 1 m p ks) = bif plNo p && ks.isEmpty then .num m else .no := by simp [xpSh]
    rw [e1] at hQ
    refine wG ?_
    refine Br.yes (by rfl) ?_
    refine wG ?_
    refine ⟨_, _, WkL.rfl, WkOs.rfl, .mk 0 0 p ks, rfl, rfl, ?_⟩
    have e2 : xpNo (.mk 0 0 p ks) = (plNo p && ks.isEmpty) := by simp [xpNo, Xp.kind, Xp.num, Xp.pl, Xp.kids]
    rw [e2]
    generalize (plNo p && ks.isEmpty) = b at *
    refine goG1 ?_
    cases b with
    | true =>
      refine Br.no (by rfl) ?_
      refine wG ?_
      refine endK ⟨[], ⟨rfl, rfl⟩, ?_⟩
      refine wG ?_
      exact ⟨_, _, Wk.rfl, WkOs.rfl, hQ⟩
    | false =>
      refine Br.yes (by rfl) ?_
      refine wG ?_
      refine endK ⟨[], ⟨rfl, rfl⟩, ?_⟩
      refine wG ?_
      exact ⟨_, _, Wk.rfl, WkOs.rfl, hQ⟩
  have k1' : (k == 1) = false := by simpa using k1
  by_cases k2 : k = 2
  · subst k2
    have e1 : xpSh (.mk 2 m p ks) = bif m == 0 && ks.isEmpty then .read p else .no := by simp [xpSh]
    rw [e1] at hQ
    refine wG ?_
    refine Br.no (by rfl) ?_
    refine wG ?_
    refine Br.yes (by rfl) ?_
    refine wG ?_
    refine ⟨_, _, (WkL.cons (Wk.agg (WkL.cons Wk.rfl (WkL.cons Wk.rfl (WkL.cons Wk.rfl (WkL.cons (Wk.nil 1) (WkL.cons Wk.rfl WkL.nil)))))) WkL.nil), WkOs.rfl, .mk 0 m pl0 ks, rfl, rfl, ?_⟩
    have e2 : xpNo (.mk 0 m pl0 ks) = (m == 0 && ks.isEmpty) := by simp [xpNo, Xp.kind, Xp.num, Xp.pl, Xp.kids, plNo]
    rw [e2]
    generalize (m == 0 && ks.isEmpty) = b at *
    refine goG1 ?_
    cases b with
    | true =>
      refine Br.no (by rfl) ?_
      refine wG ?_
      refine endK ⟨[], ⟨rfl, rfl⟩, ?_⟩
      refine wG ?_
      exact ⟨_, _, Wk.rfl, WkOs.rfl, hQ⟩
    | false =>
      refine Br.yes (by rfl) ?_
      refine wG ?_
      refine endK ⟨[], ⟨rfl, rfl⟩, ?_⟩
      refine wG ?_
      exact ⟨_, _, Wk.rfl, WkOs.rfl, hQ⟩
  have k2' : (k == 2) = false := by simpa using k2
  by_cases k3 : 3 ≤ k ∧ k ≤ 6
  · refine wG ?_
    refine Br.no k1' ?_
    refine wG ?_
    refine Br.no k2' ?_
    refine wG ?_
    have h3 : k = 3 ∨ k = 4 ∨ k = 5 ∨ k = 6 := by omega
    rcases h3 with rfl | rfl | rfl | rfl
    · refine Br.yes (by rfl) ?_
      refine wG ?_
      by_cases hl : ks.length = 2
      · obtain ⟨a, b, rfl⟩ : ∃ a b, ks = [a, b] := by
          match ks, hl with
          | [a, b], _ => exact ⟨a, b, rfl⟩
        have e1 : xpSh (.mk (3) m p [a, b]) = bif m == 0 && plNo p then .two (3) a b else .no := by simp only [xpSh]; rw [if_neg k1, if_neg k2, if_pos k3]
        rw [e1] at hQ
        refine Br.no (by rfl) ?_
        refine wG ?_
        refine Req.mk (by omega) ?_
        refine ⟨dXp a, rfl, ?_⟩
        rw [dXp_eq]
        refine wG ?_
        refine Req.mk (by omega) ?_
        refine ⟨dXp b, rfl, ?_⟩
        rw [dXp_eq]
        refine wG ?_
        refine ⟨_, _, (WkL.cons (Wk.agg (WkL.cons Wk.rfl (WkL.cons Wk.rfl (WkL.cons Wk.rfl (WkL.cons Wk.rfl (WkL.cons (Wk.nil 5) WkL.nil)))))) WkL.nil), WkOs.rfl, .mk 0 m p [], rfl, rfl, ?_⟩
        have e2 : xpNo (.mk 0 m p []) = (m == 0 && plNo p) := by simp [xpNo, Xp.kind, Xp.num, Xp.pl, Xp.kids]
        rw [e2]
        generalize (m == 0 && plNo p) = b at *
        refine goG1 ?_
        cases b with
        | true =>
          refine Br.no (by rfl) ?_
          refine wG ?_
          refine endK ⟨[], ⟨rfl, rfl⟩, ?_⟩
          refine wG ?_
          exact ⟨_, _, Wk.rfl, WkOs.rfl, hQ⟩
        | false =>
          refine Br.yes (by rfl) ?_
          refine wG ?_
          refine endK ⟨[], ⟨rfl, rfl⟩, ?_⟩
          refine wG ?_
          exact ⟨_, _, Wk.rfl, WkOs.rfl, hQ⟩
      · have e1 : xpSh (.mk (3) m p ks) = .no := by
          simp only [xpSh]; rw [if_neg k1, if_neg k2, if_pos k3]
          match ks, hl with
          | [], _ => rfl
          | [_], _ => rfl
          | [_, _], h => simp at h
          | _ :: _ :: _ :: _, _ => rfl
        rw [e1] at hQ
        refine Br.yes (by show (((ks.map dXp).length : Int) != 2) = true; simp; omega) ?_
        refine wG ?_
        refine endK ⟨[], ⟨rfl, rfl⟩, ?_⟩
        refine wG ?_
        exact ⟨_, _, Wk.rfl, WkOs.rfl, hQ⟩
    · refine Br.no (by rfl) ?_
      refine wG ?_
      refine Br.yes (by rfl) ?_
      refine wG ?_
      by_cases hl : ks.length = 2
      · obtain ⟨a, b, rfl⟩ : ∃ a b, ks = [a, b] := by
          match ks, hl with
          | [a, b], _ => exact ⟨a, b, rfl⟩
        have e1 : xpSh (.mk (4) m p [a, b]) = bif m == 0 && plNo p then .two (4) a b else .no := by simp only [xpSh]; rw [if_neg k1, if_neg k2, if_pos k3]
        rw [e1] at hQ
        refine Br.no (by rfl) ?_
        refine wG ?_
        refine Req.mk (by omega) ?_
        refine ⟨dXp a, rfl, ?_⟩
        rw [dXp_eq]
        refine wG ?_
        refine Req.mk (by omega) ?_
        refine ⟨dXp b, rfl, ?_⟩
        rw [dXp_eq]
        refine wG ?_
        refine ⟨_, _, (WkL.cons (Wk.agg (WkL.cons Wk.rfl (WkL.cons Wk.rfl (WkL.cons Wk.rfl (WkL.cons Wk.rfl (WkL.cons (Wk.nil 5) WkL.nil)))))) WkL.nil), WkOs.rfl, .mk 0 m p [], rfl, rfl, ?_⟩
        have e2 : xpNo (.mk 0 m p []) = (m == 0 && plNo p) := by simp [xpNo, Xp.kind, Xp.num, Xp.pl, Xp.kids]
        rw [e2]
        generalize (m == 0 && plNo p) = b at *
        refine goG1 ?_
        cases b with
        | true =>
          refine Br.no (by rfl) ?_
          refine wG ?_
          refine endK ⟨[], ⟨rfl, rfl⟩, ?_⟩
          refine wG ?_
          exact ⟨_, _, Wk.rfl, WkOs.rfl, hQ⟩
        | false =>
          refine Br.yes (by rfl) ?_
          refine wG ?_
          refine endK ⟨[], ⟨rfl, rfl⟩, ?_⟩
          refine wG ?_
          exact ⟨_, _, Wk.rfl, WkOs.rfl, hQ⟩
      · have e1 : xpSh (.mk (4) m p ks) = .no := by
          simp only [xpSh]; rw [if_neg k1, if_neg k2, if_pos k3]
          match ks, hl with
          | [], _ => rfl
          | [_], _ => rfl
          | [_, _], h => simp at h
          | _ :: _ :: _ :: _, _ => rfl
        rw [e1] at hQ
        refine Br.yes (by show (((ks.map dXp).length : Int) != 2) = true; simp; omega) ?_
        refine wG ?_
        refine endK ⟨[], ⟨rfl, rfl⟩, ?_⟩
        refine wG ?_
        exact ⟨_, _, Wk.rfl, WkOs.rfl, hQ⟩
    · refine Br.no (by rfl) ?_
      refine wG ?_
      refine Br.no (by rfl) ?_
      refine wG ?_
      refine Br.yes (by rfl) ?_
      refine wG ?_
      by_cases hl : ks.length = 2
      · obtain ⟨a, b, rfl⟩ : ∃ a b, ks = [a, b] := by
          match ks, hl with
          | [a, b], _ => exact ⟨a, b, rfl⟩
        have e1 : xpSh (.mk (5) m p [a, b]) = bif m == 0 && plNo p then .two (5) a b else .no := by simp only [xpSh]; rw [if_neg k1, if_neg k2, if_pos k3]
        rw [e1] at hQ
        refine Br.no (by rfl) ?_
        refine wG ?_
        refine Req.mk (by omega) ?_
        refine ⟨dXp a, rfl, ?_⟩
        rw [dXp_eq]
        refine wG ?_
        refine Req.mk (by omega) ?_
        refine ⟨dXp b, rfl, ?_⟩
        rw [dXp_eq]
        refine wG ?_
        refine ⟨_, _, (WkL.cons (Wk.agg (WkL.cons Wk.rfl (WkL.cons Wk.rfl (WkL.cons Wk.rfl (WkL.cons Wk.rfl (WkL.cons (Wk.nil 5) WkL.nil)))))) WkL.nil), WkOs.rfl, .mk 0 m p [], rfl, rfl, ?_⟩
        have e2 : xpNo (.mk 0 m p []) = (m == 0 && plNo p) := by simp [xpNo, Xp.kind, Xp.num, Xp.pl, Xp.kids]
        rw [e2]
        generalize (m == 0 && plNo p) = b at *
        refine goG1 ?_
        cases b with
        | true =>
          refine Br.no (by rfl) ?_
          refine wG ?_
          refine endK ⟨[], ⟨rfl, rfl⟩, ?_⟩
          refine wG ?_
          exact ⟨_, _, Wk.rfl, WkOs.rfl, hQ⟩
        | false =>
          refine Br.yes (by rfl) ?_
          refine wG ?_
          refine endK ⟨[], ⟨rfl, rfl⟩, ?_⟩
          refine wG ?_
          exact ⟨_, _, Wk.rfl, WkOs.rfl, hQ⟩
      · have e1 : xpSh (.mk (5) m p ks) = .no := by
          simp only [xpSh]; rw [if_neg k1, if_neg k2, if_pos k3]
          match ks, hl with
          | [], _ => rfl
          | [_], _ => rfl
          | [_, _], h => simp at h
          | _ :: _ :: _ :: _, _ => rfl
        rw [e1] at hQ
        refine Br.yes (by show (((ks.map dXp).length : Int) != 2) = true; simp; omega) ?_
        refine wG ?_
        refine endK ⟨[], ⟨rfl, rfl⟩, ?_⟩
        refine wG ?_
        exact ⟨_, _, Wk.rfl, WkOs.rfl, hQ⟩
    · refine Br.no (by rfl) ?_
      refine wG ?_
      refine Br.no (by rfl) ?_
      refine wG ?_
      refine Br.no (by rfl) ?_
      refine wG ?_
      refine Br.yes (by rfl) ?_
      refine wG ?_
      by_cases hl : ks.length = 2
      · obtain ⟨a, b, rfl⟩ : ∃ a b, ks = [a, b] := by
          match ks, hl with
          | [a, b], _ => exact ⟨a, b, rfl⟩
        have e1 : xpSh (.mk (6) m p [a, b]) = bif m == 0 && plNo p then .two (6) a b else .no := by simp only [xpSh]; rw [if_neg k1, if_neg k2, if_pos k3]
        rw [e1] at hQ
        refine Br.no (by rfl) ?_
        refine wG ?_
        refine Req.mk (by omega) ?_
        refine ⟨dXp a, rfl, ?_⟩
        rw [dXp_eq]
        refine wG ?_
        refine Req.mk (by omega) ?_
        refine ⟨dXp b, rfl, ?_⟩
        rw [dXp_eq]
        refine wG ?_
        refine ⟨_, _, (WkL.cons (Wk.agg (WkL.cons Wk.rfl (WkL.cons Wk.rfl (WkL.cons Wk.rfl (WkL.cons Wk.rfl (WkL.cons (Wk.nil 5) WkL.nil)))))) WkL.nil), WkOs.rfl, .mk 0 m p [], rfl, rfl, ?_⟩
        have e2 : xpNo (.mk 0 m p []) = (m == 0 && plNo p) := by simp [xpNo, Xp.kind, Xp.num, Xp.pl, Xp.kids]
        rw [e2]
        generalize (m == 0 && plNo p) = b at *
        refine goG1 ?_
        cases b with
        | true =>
          refine Br.no (by rfl) ?_
          refine wG ?_
          refine endK ⟨[], ⟨rfl, rfl⟩, ?_⟩
          refine wG ?_
          exact ⟨_, _, Wk.rfl, WkOs.rfl, hQ⟩
        | false =>
          refine Br.yes (by rfl) ?_
          refine wG ?_
          refine endK ⟨[], ⟨rfl, rfl⟩, ?_⟩
          refine wG ?_
          exact ⟨_, _, Wk.rfl, WkOs.rfl, hQ⟩
      · have e1 : xpSh (.mk (6) m p ks) = .no := by
          simp only [xpSh]; rw [if_neg k1, if_neg k2, if_pos k3]
          match ks, hl with
          | [], _ => rfl
          | [_], _ => rfl
          | [_, _], h => simp at h
          | _ :: _ :: _ :: _, _ => rfl
        rw [e1] at hQ
        refine Br.yes (by show (((ks.map dXp).length : Int) != 2) = true; simp; omega) ?_
        refine wG ?_
        refine endK ⟨[], ⟨rfl, rfl⟩, ?_⟩
        refine wG ?_
        exact ⟨_, _, Wk.rfl, WkOs.rfl, hQ⟩
  have e1 : xpSh (.mk k m p ks) = .no := by simp only [xpSh]; rw [if_neg k1, if_neg k2, if_neg k3]
  rw [e1] at hQ
  refine wG ?_
  refine Br.no k1' ?_
  refine wG ?_
  refine Br.no k2' ?_
  refine wG ?_
  refine Br.no (by show (k == 3) = false; simp; omega) ?_
  refine wG ?_
  refine Br.no (by show (k == 4) = false; simp; omega) ?_
  refine wG ?_
  refine Br.no (by show (k == 5) = false; simp; omega) ?_
  refine wG ?_
  refine Br.no (by show (k == 6) = false; simp; omega) ?_
  refine wG ?_
  refine endK ⟨[], ⟨rfl, rfl⟩, ?_⟩
  refine wG ?_
  exact ⟨_, _, Wk.rfl, WkOs.rfl, hQ⟩
end Ab
