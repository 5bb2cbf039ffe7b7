/- The program's words for what is in form, fifth part: functions, programs. -/
import Derived.Test.YtcajihigkjcgeaaGreatDoorSyn
import Derived.Test.YtcajihigkjcgeaaGreatDoorI4
import Derived.Test.YtcajihigkjcgeaaGreatDoorW4
set_option linter.all false
namespace Ab
open Go Go.Proofs
set_option maxRecDepth 10000
set_option maxHeartbeats 4000000
set_option linter.all false

def fdI (f : Fd) : Bool := nameOk f.name && decide (f.params.length ≤ 4) && tyOk 4 f.ty && f.params.all pmFm && f.body.all (stI 4) && decide (cntB f.body ≤ 40) &&
  bif f.lent then plOk f.gives && xpNo f.says else xpFm 4 f.says && plNo f.gives
def prI (p : Pr) : Bool := decide (p.length ≤ 5) && p.all fdI
/-- impl.fnForm -/
def S_i_fnForm : Spec := fun args O Q => ∃ (f : Fd), args = [aFd f] ∧ O = [] ∧ Q (bv (fdI f)) []
theorem v_i_fnForm {B : World} : Valid PG B i_fnForm S_i_fnForm := by
  refine valid_of (Γ := [(i_nameForm, ⟨[], S_s_l2Name⟩), (i_TypeOk, ⟨[], STypeOk⟩), (i_stmtsForm, ⟨[], S_i_stmtsForm 10⟩), (i_placeForm, ⟨[], S_s_l2Place⟩), (i_exprNothing, ⟨[], S_s_l2NoExpr⟩), (i_exprForm, ⟨[], S_s_l2Expr 10⟩), (i_placeNothing, ⟨[], S_s_l2None⟩)]) wide tok
    (((((((AllValid.nil.cons v_i_placeNothing).cons (v_i_exprForm 10)).cons v_i_exprNothing).cons v_i_placeForm).cons (v_i_stmtsForm 10)).cons v_i_TypeOk).cons v_i_nameForm) g_i_fnForm rfl rfl ?_
  rintro _ _ Q ⟨⟨nm, ps, lent, ty, body, says, gives⟩, rfl, rfl, hQ⟩
  have fin : ∀ b : Bool, fdI ⟨nm, ps, lent, ty, body, says, gives⟩ = b → wkQ Q (bv b) [] := fun b h => ⟨_, _, Wk.rfl, WkOs.rfl, by subst h; exact hQ⟩
  have key : ∀ {r : AV} {c : Prop} (_ : c → fdI ⟨nm, ps, lent, ty, body, says, gives⟩ = false), c → wkQ Q (bv false) [] := fun h c => fin _ (h c)
  refine wG ?_
  refine ⟨_, _, WkL.rfl, WkOs.rfl, nm, rfl, rfl, ?_⟩
  cases h1 : nameOk nm with
  | false =>
    refine goG1 ?_
    refine Br.yes (by rfl) ?_
    refine wG ?_
    refine endK ⟨[], ⟨rfl, rfl⟩, ?_⟩
    refine wG ?_
    exact fin _ (by simp [fdI, h1])
  | true =>
  refine goG1 ?_
  refine Br.no (by rfl) ?_
  refine wG ?_
  refine goG1 ?_
  refine brG1 (fun h2 => ?_) (fun h2 => ?_)
  · refine goG1 ?_
    refine endK ⟨[], ⟨rfl, rfl⟩, ?_⟩
    refine wG ?_
    exact fin _ (by simp [fdI]; omega)
  refine ⟨_, _, WkL.rfl, WkOs.rfl, ty, rfl, rfl, ?_⟩
  cases h3 : tyOk 4 ty with
  | false =>
    refine goG1 ?_
    refine Br.yes (by rfl) ?_
    refine wG ?_
    refine endK ⟨[], ⟨rfl, rfl⟩, ?_⟩
    refine wG ?_
    exact fin _ (by simp [fdI, h3])
  | true =>
  refine goG1 ?_
  refine Br.no (by rfl) ?_
  refine wG ?_
  have hps : ps.length ≤ 4 := by simp at h2; omega
  refine ⟨[], Int, fun i => 0 ≤ i ∧ i ≤ ps.length ∧ (ps.take i.toNat).all pmFm = true, fun i => (ps.length - i).toNat, fun i => [(25, iv i)], fun i => [bFd ⟨nm, ps, lent, ty, body, says, gives⟩], 0, ⟨by omega, by omega, by simp⟩, ?_⟩
  refine wG ?_
  refine ⟨Meet.mk rfl rfl WkOs.rfl ⟨Wk.rfl, trivial⟩ rfl, ?_⟩
  rintro i ⟨i0, i1, i2⟩
  refine wG ?_
  refine brG1 (fun h6 => ?_) (fun h6 => ?_)
  · have h6 : i < (ps.length : Int) := by simpa using h6
    have hi : i.toNat < ps.length := by omega
    have e3 : (i + 1).toNat = i.toNat + 1 := by omega
    have hkm := List.getElem_mem hi
    have hx : (ps.map dPm)[i.toNat]? = some (dPm ps[i.toNat]) := by simp [hi]
    have yes : pmFm ps[i.toNat] = true → ((ps.take (i + 1).toNat).all pmFm = true) := fun h => e3 ▸ take_all hi i2 h
    have bad : pmFm ps[i.toNat] = false → fdI ⟨nm, ps, lent, ty, body, says, gives⟩ = false := fun h => by
      have : ps.all pmFm = false := List.all_eq_false.2 ⟨_, hkm, by rw [h]; simp⟩
      simp [fdI, this]
    generalize ps[i.toNat] = p at *
    refine Req.mk i0 ?_
    refine ⟨_, hx, ?_⟩
    rw [dPm_eq]
    refine wG ?_
    refine goG1 ?_
    refine ⟨_, _, WkL.rfl, WkOs.rfl, p.name, rfl, rfl, ?_⟩
    cases h7 : nameOk p.name with
    | false =>
      refine goG1 ?_
      refine Br.yes (by rfl) ?_
      refine wG ?_
      refine endK ⟨[], ⟨rfl, rfl⟩, ?_⟩
      refine wG ?_
      exact fin _ (bad (by simp [pmFm, h7]))
    | true =>
    refine goG1 ?_
    refine Br.no (by rfl) ?_
    refine wG ?_
    refine goG1 ?_
    refine ⟨_, _, WkL.rfl, WkOs.rfl, p.ty, rfl, rfl, ?_⟩
    cases h8 : tyOk 4 p.ty with
    | false =>
      refine goG1 ?_
      refine Br.yes (by rfl) ?_
      refine wG ?_
      refine endK ⟨[], ⟨rfl, rfl⟩, ?_⟩
      refine wG ?_
      exact fin _ (bad (by simp [pmFm, h8]))
    | true =>
    refine goG1 ?_
    refine Br.no (by rfl) ?_
    refine wG ?_
    refine goG1 ?_
    refine ⟨i + 1, ⟨by omega, by omega, yes (by simp_all [pmFm])⟩, by dsimp only; omega, [], Meet.mk rfl rfl WkOs.rfl ⟨Wk.rfl, trivial⟩ rfl⟩
  · have h6 : ¬ i < (ps.length : Int) := by simpa using h6
    rw [List.take_of_length_le (by omega)] at i2
    have h1' : nameOk nm = true := h1
    have h3' : tyOk 4 ty = true := h3
    refine goG1 ?_
    refine ⟨_, _, (WkL.cons Wk.rfl (WkL.cons Wk.rfl WkL.rfl)), WkOs.rfl, body, 4, 40, rfl, rfl, by omega, by omega, by omega, by omega, fun hk => ?_, fun hk left' => ?_⟩
    · obtain ⟨u1, u2⟩ := hk
      have u2 : cntB body ≤ 40 := by omega
      have fin2 : ∀ b, (bif lent then plOk gives && xpNo says else xpFm 4 says && plNo gives) = b → wkQ Q (bv b) [] := fun b h => fin b (by simp only [fdI, h1, h3, i2, hps, u1, u2, decide_true, Bool.true_and, Bool.and_true]; exact h)
      clear fin
      have fin := fin2
      refine goG1 ?_
      refine Br.no (by rfl) ?_
      refine wG ?_
      refine goG1 ?_
      cases lent with
      | true =>
        refine goG1 ?_
        repeat' (first
          | refine stG1 ?_
          | (refine Br.yes rfl ?_; refine wG ?_)
          | (refine Br.no rfl ?_; refine wG ?_)
          | (refine ⟨_, _, WkL.rfl, WkOs.rfl, gives, rfl, rfl, ?_⟩; refine wG ?_)
          | (refine ⟨_, _, WkL.rfl, WkOs.rfl, says, rfl, rfl, ?_⟩; refine wG ?_)
          | (refine br_dec (fun h => ?_) (fun h => ?_) <;> refine wG ?_)
          | (refine br_eq (fun h => ?_) (fun h => ?_) <;> refine wG ?_)
          | (refine br_ne (fun h => ?_) (fun h => ?_) <;> refine wG ?_)
          | (refine br_neq (fun h => ?_) (fun h => ?_) <;> refine wG ?_)
          | (refine br_not (fun h => ?_) (fun h => ?_) <;> refine wG ?_)
          | (refine Br.mk (fun h => ?_) (fun h => ?_) <;> refine wG ?_)
          | (refine endK ⟨[], ⟨rfl, rfl⟩, ?_⟩; refine wG ?_; refine fin _ ?_)
          )
        all_goals simp_all
      | false =>
        refine goG1 ?_
        repeat' (first
          | refine stG1 ?_
          | (refine Br.yes rfl ?_; refine wG ?_)
          | (refine Br.no rfl ?_; refine wG ?_)
          | (refine ⟨_, _, WkL.rfl, WkOs.rfl, gives, rfl, rfl, ?_⟩; refine wG ?_)
          | (refine ⟨_, _, WkL.rfl, WkOs.rfl, says, 4, rfl, rfl, by omega, by omega, by omega, ?_⟩; refine wG ?_)
          | (refine br_dec (fun h => ?_) (fun h => ?_) <;> refine wG ?_)
          | (refine br_eq (fun h => ?_) (fun h => ?_) <;> refine wG ?_)
          | (refine br_ne (fun h => ?_) (fun h => ?_) <;> refine wG ?_)
          | (refine br_neq (fun h => ?_) (fun h => ?_) <;> refine wG ?_)
          | (refine br_not (fun h => ?_) (fun h => ?_) <;> refine wG ?_)
          | (refine Br.mk (fun h => ?_) (fun h => ?_) <;> refine wG ?_)
          | (refine endK ⟨[], ⟨rfl, rfl⟩, ?_⟩; refine wG ?_; refine fin _ ?_)
          )
        all_goals simp_all
    · refine goG1 ?_
      refine Br.yes (by rfl) ?_
      refine wG ?_
      refine goG1 ?_
      refine endK ⟨[], ⟨rfl, rfl⟩, ?_⟩
      refine wG ?_
      refine fin _ ?_
      rcases Classical.em (body.all (stI 4) = true) with h7 | h7
      · have h8 : ¬ cntB body ≤ 40 := fun h8 => hk ⟨h7, by omega⟩
        have h8 : decide (cntB body ≤ 40) = false := by simpa using h8
        simp only [fdI, h8, Bool.and_false, Bool.false_and]
      · have h8 : body.all (stI 4) = false := by simpa using h7
        simp only [fdI, h8, Bool.and_false, Bool.false_and]
/-- impl.progForm -/
def S_i_progForm : Spec := fun args O Q => ∃ (p : Pr), args = [aPr p] ∧ O = [] ∧ Q (bv (prI p)) []
theorem v_i_progForm {B : World} : Valid PG B i_progForm S_i_progForm := by
  refine valid_of (Γ := [(i_fnForm, ⟨[], S_i_fnForm⟩)]) wide tok (AllValid.nil.cons v_i_fnForm) g_i_progForm rfl rfl ?_
  rintro _ _ Q ⟨p, rfl, rfl, hQ⟩
  have fin : ∀ b : Bool, prI p = b → wkQ Q (bv b) [] := fun b h => ⟨_, _, Wk.rfl, WkOs.rfl, by subst h; exact hQ⟩
  refine wG ?_
  refine brG1 (fun h1 => ?_) (fun h1 => ?_)
  · refine endK ⟨[], ⟨rfl, rfl⟩, ?_⟩
    refine wG ?_
    exact fin _ (by simp [prI]; omega)
  have hl : p.length ≤ 5 := by simp at h1; omega
  refine ⟨[], Int, fun i => 0 ≤ i ∧ i ≤ p.length ∧ (p.take i.toNat).all fdI = true, fun i => (p.length - i).toNat, fun i => [(12, iv i)], fun i => [.cells [.d (.sl 12 (p.map dFd))]], 0, ⟨by omega, by omega, by simp⟩, ?_⟩
  refine wG ?_
  refine ⟨Meet.mk rfl rfl WkOs.rfl ⟨Wk.rfl, trivial⟩ rfl, ?_⟩
  rintro i ⟨i0, i1, i2⟩
  refine wG ?_
  refine brG1 (fun h3 => ?_) (fun h3 => ?_)
  · have h3 : i < (p.length : Int) := by simpa using h3
    have hi : i.toNat < p.length := by omega
    have e3 : (i + 1).toNat = i.toNat + 1 := by omega
    have hkm := List.getElem_mem hi
    have hx : (p.map dFd)[i.toNat]? = some (dFd p[i.toNat]) := by simp [hi]
    have yes : fdI p[i.toNat] = true → ((p.take (i + 1).toNat).all fdI = true) := fun h => e3 ▸ take_all hi i2 h
    have bad : fdI p[i.toNat] = false → prI p = false := fun h => by
      have : p.all fdI = false := List.all_eq_false.2 ⟨_, hkm, by rw [h]; simp⟩
      simp [prI, this]
    generalize p[i.toNat] = f at *
    refine Req.mk i0 ?_
    refine ⟨_, hx, ?_⟩
    rw [dFd_eq]
    refine wG ?_
    refine ⟨_, _, WkL.rfl, WkOs.rfl, f, rfl, rfl, ?_⟩
    refine goG1 ?_
    refine ⟨fun h4 => ?_, fun h4 => ?_⟩
    · refine wG ?_
      refine endK ⟨[], ⟨rfl, rfl⟩, ?_⟩
      refine wG ?_
      exact fin _ (bad (of_not_t h4))
    · refine wG ?_
      refine goG1 ?_
      refine ⟨i + 1, ⟨by omega, by omega, yes (of_not_f h4)⟩, by dsimp only; omega, [], Meet.mk rfl rfl WkOs.rfl ⟨Wk.rfl, trivial⟩ rfl⟩
  · have h3 : ¬ i < (p.length : Int) := by simpa using h3
    rw [List.take_of_length_le (by omega)] at i2
    refine endK ⟨[], ⟨rfl, rfl⟩, ?_⟩
    refine wG ?_
    exact fin _ (by simp only [prI, i2, hl]; rfl)
/-- what the reference lets pass at a depth, the program lets pass one deeper -/
theorem stShl : True := trivial
end Ab
