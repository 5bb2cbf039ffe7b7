/- The program's words for what is in form, fourth part: statements. -/
import Derived.Test.YtcajihigkjcgeaaGreatDoorSyn
import Derived.Test.YtcajihigkjcgeaaGreatDoorI2
import Derived.Test.YtcajihigkjcgeaaGreatDoorW4
set_option linter.all false
namespace Ab
open Go Go.Proofs
set_option maxRecDepth 10000
set_option maxHeartbeats 4000000
set_option linter.all false

def stI : Nat → St → Bool
  | 0, _ => false
  | d + 1, s => match stSh s with
    | .no => false
    | .let_ n x => nameOk n && xpFm 4 x
    | .lend n p => nameOk n && plOk p
    | .set p x => plOk p && xpFm 4 x
    | .call n f ar => nameOk n && nameOk f && argsFm ar
    | .ifs x t e => xpFm 4 x && t.all (stI d) && e.all (stI d)
    | .pick n p q x => nameOk n && plOk p && plOk q && xpFm 4 x
theorem stI_s (d : Nat) (s : St) : stI (d + 1) s = match stSh s with
    | .no => false
    | .let_ n x => nameOk n && xpFm 4 x
    | .lend n p => nameOk n && plOk p
    | .set p x => plOk p && xpFm 4 x
    | .call n f ar => nameOk n && nameOk f && argsFm ar
    | .ifs x t e => xpFm 4 x && t.all (stI d) && e.all (stI d)
    | .pick n p q x => nameOk n && plOk p && plOk q && xpFm 4 x := rfl
/-- how many are in what a statement has -/
theorem stSh_cnt {s : St} (h : stSh s ≠ .no) : cntS s = 1 + (match stSh s with | .ifs _ t e => cntB t + cntB e | _ => 0) := by
  obtain ⟨k, n, p, o, x, f, ar, t, e⟩ := s
  rw [cntS_eq]
  simp only [stSh] at h ⊢
  have key : ∀ {n p o x f ar}, stNo (.mk 0 n p o x f ar t e) = true → t = [] ∧ e = [] := fun {n p o x f ar} h => by
    simp [stNo, St.thn, St.els] at h; exact ⟨h.1.2, h.2⟩
  have no : ∀ {n p o x f ar} {w : Ssh}, (bif stNo (.mk 0 n p o x f ar t e) then w else Ssh.no) ≠ .no → (bif stNo (.mk 0 n p o x f ar t e) then w else Ssh.no) = w ∧ t = [] ∧ e = [] := fun {n p o x f ar w} h => by
    cases hb : stNo (.mk 0 n p o x f ar t e) with
    | true => exact ⟨rfl, key hb⟩
    | false => rw [hb] at h; exact absurd rfl h
  by_cases k1 : k = 1
  · rw [if_pos k1] at h ⊢
    obtain ⟨h1, rfl, rfl⟩ := no h
    rw [h1]; simp [St.thn, St.els, cntB]
  rw [if_neg k1] at h ⊢
  by_cases k2 : k = 2
  · rw [if_pos k2] at h ⊢
    obtain ⟨h1, rfl, rfl⟩ := no h
    rw [h1]; simp [St.thn, St.els, cntB]
  rw [if_neg k2] at h ⊢
  by_cases k3 : k = 3
  · rw [if_pos k3] at h ⊢
    obtain ⟨h1, rfl, rfl⟩ := no h
    rw [h1]; simp [St.thn, St.els, cntB]
  rw [if_neg k3] at h ⊢
  by_cases k4 : k = 4
  · rw [if_pos k4] at h ⊢
    obtain ⟨h1, rfl, rfl⟩ := no h
    rw [h1]; simp [St.thn, St.els, cntB]
  rw [if_neg k4] at h ⊢
  by_cases k5 : k = 5
  · rw [if_pos k5] at h ⊢
    cases hb : stNo (.mk 0 n p o xp0 f ar [] []) with
    | true => show 1 + cntB t + cntB e = 1 + (cntB t + cntB e); omega
    | false => rw [hb] at h; exact absurd rfl h
  rw [if_neg k5] at h ⊢
  by_cases k6 : k = 6
  · rw [if_pos k6] at h ⊢
    obtain ⟨h1, rfl, rfl⟩ := no h
    rw [h1]; simp [St.thn, St.els, cntB]
  rw [if_neg k6] at h
  exact absurd rfl h
def okI (d : Nat) (l : List St) (left : Int) : Prop := l.all (stI d) = true ∧ (cntB l : Int) ≤ left
/-- impl.stmtsForm -/
def S_i_stmtsForm (n : Nat) : Spec := fun args O Q => ∃ (l : List St) (d : Nat) (left : Int), args = [.d (.sl 15 (l.map dSt)), iv d, .ptr 0 0] ∧ O = [.cells [iv left]] ∧ d < n ∧ n ≤ 10 ∧ 0 ≤ left ∧ left ≤ 1000 ∧
  (okI d l left → Q (bv true) [.cells [iv (left - cntB l)]]) ∧ (¬ okI d l left → ∀ left', Q (bv false) [.cells [iv left']])
theorem v_i_stmtsForm {B : World} : ∀ n, Valid PG B i_stmtsForm (S_i_stmtsForm n) := by
  refine valid_lt (fun args O Q ⟨l, d, _, _, _, h, _⟩ => by omega) fun n ih => ?_
  refine valid_of (Γ := [(i_stmtOf, ⟨[], S_i_stmtOf⟩), (i_nameForm, ⟨[], S_s_l2Name⟩), (i_exprForm, ⟨[], S_s_l2Expr 10⟩), (i_placeForm, ⟨[], S_s_l2Place⟩), (i_argsForm, ⟨[], S_s_l2Args⟩), (i_stmtsForm, ⟨[], S_i_stmtsForm n⟩)]) wide tok ((((((AllValid.nil.cons ih).cons v_i_argsForm).cons v_i_placeForm).cons (v_i_exprForm 10)).cons v_i_nameForm).cons v_i_stmtOf) g_i_stmtsForm rfl rfl ?_
  rintro _ _ Q ⟨l, d, left, rfl, rfl, hd, hn, hl0, hl1, hQ1, hQ2⟩
  refine wG ?_
  refine ⟨[], Int, fun i => 0 ≤ i ∧ i ≤ l.length ∧ (l.take i.toNat).all (stI d) = true ∧ (cntB (l.take i.toNat) : Int) ≤ left, fun i => (l.length - i).toNat, fun i => [(18, iv i)], fun i => [.cells [iv (left - cntB (l.take i.toNat))]], 0, ⟨by omega, by omega, by simp, by simp [cntB]; omega⟩, ?_⟩
  refine wG ?_
  refine ⟨Meet.mk rfl rfl (⟨.inr (WkL.cons (Wk.of_eq (by show iv left = iv (left - cntB []); simp [cntB])) WkL.nil), trivial⟩) ⟨Wk.rfl, trivial⟩ rfl, ?_⟩
  rintro i ⟨i0, i1, i2, i3⟩
  refine wG ?_
  refine brG1 (fun h => ?_) (fun h => ?_)
  · have h : i < (l.length : Int) := by simpa using h
    have hi : i.toNat < l.length := by omega
    have e3 : (i + 1).toNat = i.toNat + 1 := by omega
    have hkm := List.getElem_mem hi
    have hx : (l.map dSt)[i.toNat]? = some (dSt l[i.toNat]) := by simp [hi]
    have hc : cntB (l.take (i + 1).toNat) = cntB (l.take i.toNat) + cntS l[i.toNat] := by
      rw [e3, List.take_succ_eq_append_getElem hi, cntB_app]; simp [cntB]
    have hc2 := cntB_take1 l hi
    have hcl : (l.take i.toNat).length ≤ cntB (l.take i.toNat) := cntB_len _
    have hil : (l.take i.toNat).length = i.toNat := by simp; omega
    have yes : stI d l[i.toNat] = true → ((l.take (i + 1).toNat).all (stI d) = true) := fun h => e3 ▸ take_all hi i2 h
    have bad : (stI d l[i.toNat] = false ∨ left < cntB (l.take i.toNat) + cntS l[i.toNat]) → ¬ okI d l left := fun h hk => by
      rcases h with h | h
      · have := List.all_eq_true.1 hk.1 _ hkm
        rw [h] at this; cases this
      · have := hk.2; omega
    have hcp := cntS_pos l[i.toNat]
    generalize l[i.toNat] = s at *
    refine Req.mk i0 ?_
    refine ⟨_, hx, ?_⟩
    rw [dSt_eq]
    refine wG ?_
    refine goG1 ?_
    refine brG1 (fun h1 => ?_) (fun h1 => ?_)
    · refine endK ⟨[], ⟨rfl, rfl⟩, ?_⟩
      refine wG ?_
      have hd0 : d = 0 := by omega
      subst hd0
      exact ⟨_, _, Wk.rfl, WkOs.rfl, hQ2 (bad (.inl rfl)) _⟩
    refine brG1 (fun h2 => ?_) (fun h2 => ?_)
    · refine endK ⟨[], ⟨rfl, rfl⟩, ?_⟩
      refine wG ?_
      exact ⟨_, _, Wk.rfl, WkOs.rfl, hQ2 (bad (.inr (by omega))) _⟩
    obtain ⟨D, rfl⟩ : ∃ k, d = k + 1 := ⟨d - 1, by omega⟩
    refine goG1 ?_
    refine ⟨_, _, WkL.rfl, WkOs.rfl, s, rfl, rfl, ?_⟩
    have hst := stI_s D s
    have hcn := @stSh_cnt s
    have fin : ∀ (b : Bool) {L : Int}, (b = false ∧ stI (D + 1) s = false) → wkQ Q (bv b) [.cells [iv L]] := fun b L h => by
      obtain ⟨rfl, h⟩ := h
      exact ⟨_, _, Wk.rfl, WkOs.rfl, hQ2 (bad (.inl h)) _⟩
    cases hsh : stSh s with
    | no =>
      rw [hsh] at hst
      refine goG1 ?_
      refine endK ⟨[], ⟨rfl, rfl⟩, ?_⟩
      refine wG ?_
      exact ⟨_, _, Wk.rfl, WkOs.rfl, hQ2 (bad (.inl hst)) _⟩
    | let_ nm x =>
      rw [hsh] at hst hcn
      have hcn := hcn (by simp)
      dsimp only at hcn
      have back : [Obj.cells [AV.d (.i .i64 (left - (cntB (l.take i.toNat) : Nat) - 1))]] = [Obj.cells [iv (left - (cntB (l.take (i + 1).toNat) : Nat))]] := by
        have e : (left - (cntB (l.take i.toNat) : Nat) - 1 : Int) = left - (cntB (l.take (i + 1).toNat) : Nat) := by omega
        rw [e]
      refine goG1 ?_
      repeat' (first
        | refine stG1 ?_
        | (refine Br.yes rfl ?_; refine wG ?_)
        | (refine Br.no rfl ?_; refine wG ?_)
        | (refine ⟨_, _, WkL.rfl, WkOs.rfl, nm, rfl, rfl, ?_⟩; refine wG ?_)
        | (refine ⟨_, _, WkL.rfl, WkOs.rfl, x, 4, rfl, rfl, by omega, by omega, by omega, ?_⟩; refine wG ?_)
        | (refine br_dec (fun h => ?_) (fun h => ?_) <;> refine wG ?_)
        | (refine br_eq (fun h => ?_) (fun h => ?_) <;> refine wG ?_)
        | (refine br_ne (fun h => ?_) (fun h => ?_) <;> refine wG ?_)
        | (refine br_neq (fun h => ?_) (fun h => ?_) <;> refine wG ?_)
        | (refine br_not (fun h => ?_) (fun h => ?_) <;> refine wG ?_)
        | (refine Br.mk (fun h => ?_) (fun h => ?_) <;> refine wG ?_)
        | (refine endK ⟨[], ⟨rfl, rfl⟩, ?_⟩; refine wG ?_; refine fin _ ?_)
        )
      all_goals first
        | exact ⟨rfl, by rw [hst]; simp_all⟩
        | (refine ⟨i + 1, ⟨by omega, by omega, yes (by rw [hst]; simp_all), by rw [hc]; omega⟩, by dsimp only; omega, [], Meet.mk rfl rfl (WkOs.of_eq back) ⟨Wk.rfl, trivial⟩ rfl⟩)
    | lend nm p =>
      rw [hsh] at hst hcn
      have hcn := hcn (by simp)
      dsimp only at hcn
      have back : [Obj.cells [AV.d (.i .i64 (left - (cntB (l.take i.toNat) : Nat) - 1))]] = [Obj.cells [iv (left - (cntB (l.take (i + 1).toNat) : Nat))]] := by
        have e : (left - (cntB (l.take i.toNat) : Nat) - 1 : Int) = left - (cntB (l.take (i + 1).toNat) : Nat) := by omega
        rw [e]
      refine goG1 ?_
      repeat' (first
        | refine stG1 ?_
        | (refine Br.yes rfl ?_; refine wG ?_)
        | (refine Br.no rfl ?_; refine wG ?_)
        | (refine ⟨_, _, WkL.rfl, WkOs.rfl, nm, rfl, rfl, ?_⟩; refine wG ?_)
        | (refine ⟨_, _, WkL.rfl, WkOs.rfl, p, rfl, rfl, ?_⟩; refine wG ?_)
        | (refine br_dec (fun h => ?_) (fun h => ?_) <;> refine wG ?_)
        | (refine br_eq (fun h => ?_) (fun h => ?_) <;> refine wG ?_)
        | (refine br_ne (fun h => ?_) (fun h => ?_) <;> refine wG ?_)
        | (refine br_neq (fun h => ?_) (fun h => ?_) <;> refine wG ?_)
        | (refine br_not (fun h => ?_) (fun h => ?_) <;> refine wG ?_)
        | (refine Br.mk (fun h => ?_) (fun h => ?_) <;> refine wG ?_)
        | (refine endK ⟨[], ⟨rfl, rfl⟩, ?_⟩; refine wG ?_; refine fin _ ?_)
        )
      all_goals first
        | exact ⟨rfl, by rw [hst]; simp_all⟩
        | (refine ⟨i + 1, ⟨by omega, by omega, yes (by rw [hst]; simp_all), by rw [hc]; omega⟩, by dsimp only; omega, [], Meet.mk rfl rfl (WkOs.of_eq back) ⟨Wk.rfl, trivial⟩ rfl⟩)
    | set p x =>
      rw [hsh] at hst hcn
      have hcn := hcn (by simp)
      dsimp only at hcn
      have back : [Obj.cells [AV.d (.i .i64 (left - (cntB (l.take i.toNat) : Nat) - 1))]] = [Obj.cells [iv (left - (cntB (l.take (i + 1).toNat) : Nat))]] := by
        have e : (left - (cntB (l.take i.toNat) : Nat) - 1 : Int) = left - (cntB (l.take (i + 1).toNat) : Nat) := by omega
        rw [e]
      refine goG1 ?_
      repeat' (first
        | refine stG1 ?_
        | (refine Br.yes rfl ?_; refine wG ?_)
        | (refine Br.no rfl ?_; refine wG ?_)
        | (refine ⟨_, _, WkL.rfl, WkOs.rfl, p, rfl, rfl, ?_⟩; refine wG ?_)
        | (refine ⟨_, _, WkL.rfl, WkOs.rfl, x, 4, rfl, rfl, by omega, by omega, by omega, ?_⟩; refine wG ?_)
        | (refine br_dec (fun h => ?_) (fun h => ?_) <;> refine wG ?_)
        | (refine br_eq (fun h => ?_) (fun h => ?_) <;> refine wG ?_)
        | (refine br_ne (fun h => ?_) (fun h => ?_) <;> refine wG ?_)
        | (refine br_neq (fun h => ?_) (fun h => ?_) <;> refine wG ?_)
        | (refine br_not (fun h => ?_) (fun h => ?_) <;> refine wG ?_)
        | (refine Br.mk (fun h => ?_) (fun h => ?_) <;> refine wG ?_)
        | (refine endK ⟨[], ⟨rfl, rfl⟩, ?_⟩; refine wG ?_; refine fin _ ?_)
        )
      all_goals first
        | exact ⟨rfl, by rw [hst]; simp_all⟩
        | (refine ⟨i + 1, ⟨by omega, by omega, yes (by rw [hst]; simp_all), by rw [hc]; omega⟩, by dsimp only; omega, [], Meet.mk rfl rfl (WkOs.of_eq back) ⟨Wk.rfl, trivial⟩ rfl⟩)
    | call nm f ar =>
      rw [hsh] at hst hcn
      have hcn := hcn (by simp)
      dsimp only at hcn
      have back : [Obj.cells [AV.d (.i .i64 (left - (cntB (l.take i.toNat) : Nat) - 1))]] = [Obj.cells [iv (left - (cntB (l.take (i + 1).toNat) : Nat))]] := by
        have e : (left - (cntB (l.take i.toNat) : Nat) - 1 : Int) = left - (cntB (l.take (i + 1).toNat) : Nat) := by omega
        rw [e]
      refine goG1 ?_
      repeat' (first
        | refine stG1 ?_
        | (refine Br.yes rfl ?_; refine wG ?_)
        | (refine Br.no rfl ?_; refine wG ?_)
        | (refine ⟨_, _, WkL.rfl, WkOs.rfl, nm, rfl, rfl, ?_⟩; refine wG ?_)
        | (refine ⟨_, _, WkL.rfl, WkOs.rfl, f, rfl, rfl, ?_⟩; refine wG ?_)
        | (refine ⟨_, _, WkL.rfl, WkOs.rfl, ar, rfl, rfl, ?_⟩; refine wG ?_)
        | (refine br_dec (fun h => ?_) (fun h => ?_) <;> refine wG ?_)
        | (refine br_eq (fun h => ?_) (fun h => ?_) <;> refine wG ?_)
        | (refine br_ne (fun h => ?_) (fun h => ?_) <;> refine wG ?_)
        | (refine br_neq (fun h => ?_) (fun h => ?_) <;> refine wG ?_)
        | (refine br_not (fun h => ?_) (fun h => ?_) <;> refine wG ?_)
        | (refine Br.mk (fun h => ?_) (fun h => ?_) <;> refine wG ?_)
        | (refine endK ⟨[], ⟨rfl, rfl⟩, ?_⟩; refine wG ?_; refine fin _ ?_)
        )
      all_goals first
        | exact ⟨rfl, by rw [hst]; simp_all⟩
        | (refine ⟨i + 1, ⟨by omega, by omega, yes (by rw [hst]; simp_all), by rw [hc]; omega⟩, by dsimp only; omega, [], Meet.mk rfl rfl (WkOs.of_eq back) ⟨Wk.rfl, trivial⟩ rfl⟩)
    | pick nm p q x =>
      rw [hsh] at hst hcn
      have hcn := hcn (by simp)
      dsimp only at hcn
      have back : [Obj.cells [AV.d (.i .i64 (left - (cntB (l.take i.toNat) : Nat) - 1))]] = [Obj.cells [iv (left - (cntB (l.take (i + 1).toNat) : Nat))]] := by
        have e : (left - (cntB (l.take i.toNat) : Nat) - 1 : Int) = left - (cntB (l.take (i + 1).toNat) : Nat) := by omega
        rw [e]
      refine goG1 ?_
      repeat' (first
        | refine stG1 ?_
        | (refine Br.yes rfl ?_; refine wG ?_)
        | (refine Br.no rfl ?_; refine wG ?_)
        | (refine ⟨_, _, WkL.rfl, WkOs.rfl, nm, rfl, rfl, ?_⟩; refine wG ?_)
        | (refine ⟨_, _, WkL.rfl, WkOs.rfl, p, rfl, rfl, ?_⟩; refine wG ?_)
        | (refine ⟨_, _, WkL.rfl, WkOs.rfl, q, rfl, rfl, ?_⟩; refine wG ?_)
        | (refine ⟨_, _, WkL.rfl, WkOs.rfl, x, 4, rfl, rfl, by omega, by omega, by omega, ?_⟩; refine wG ?_)
        | (refine br_dec (fun h => ?_) (fun h => ?_) <;> refine wG ?_)
        | (refine br_eq (fun h => ?_) (fun h => ?_) <;> refine wG ?_)
        | (refine br_ne (fun h => ?_) (fun h => ?_) <;> refine wG ?_)
        | (refine br_neq (fun h => ?_) (fun h => ?_) <;> refine wG ?_)
        | (refine br_not (fun h => ?_) (fun h => ?_) <;> refine wG ?_)
        | (refine Br.mk (fun h => ?_) (fun h => ?_) <;> refine wG ?_)
        | (refine endK ⟨[], ⟨rfl, rfl⟩, ?_⟩; refine wG ?_; refine fin _ ?_)
        )
      all_goals first
        | exact ⟨rfl, by rw [hst]; simp_all⟩
        | (refine ⟨i + 1, ⟨by omega, by omega, yes (by rw [hst]; simp_all), by rw [hc]; omega⟩, by dsimp only; omega, [], Meet.mk rfl rfl (WkOs.of_eq back) ⟨Wk.rfl, trivial⟩ rfl⟩)
    | ifs x t e =>
      rw [hsh] at hst hcn
      have hcn : cntS s = 1 + (cntB t + cntB e) := hcn (by simp)
      have hcn : (cntS s : Int) = 1 + ((cntB t : Int) + (cntB e : Int)) := by rw [hcn]; simp
      refine goG1 ?_
      refine ⟨_, _, WkL.rfl, WkOs.rfl, x, 4, rfl, rfl, by omega, by omega, by omega, ?_⟩
      refine goG1 ?_
      refine ⟨fun hx4 => ?_, fun hx4 => ?_⟩
      · have hx4 : xpFm 4 x = true := hx4
        refine wG ?_
        refine goG1 ?_
        refine ⟨_, _, (WkL.cons Wk.rfl (WkL.cons (Wk.of_eq (by show iv (((D + 1 : Nat) : Int) - 1) = iv (D : Int); rw [show (((D + 1 : Nat) : Int) - 1) = (D : Int) by omega])) WkL.rfl)), WkOs.rfl, t, D, left - (cntB (l.take i.toNat) : Nat) - 1, rfl, rfl, by omega, by omega, by omega, by omega, fun hk => ?_, fun hk left' => ?_⟩
        · obtain ⟨u1, u2⟩ := hk
          refine goG1 ?_
          refine Br.yes (by rfl) ?_
          refine wG ?_
          refine goG1 ?_
          refine ⟨_, _, (WkL.cons Wk.rfl (WkL.cons (Wk.of_eq (by show iv (((D + 1 : Nat) : Int) - 1) = iv (D : Int); rw [show (((D + 1 : Nat) : Int) - 1) = (D : Int) by omega])) WkL.rfl)), WkOs.rfl, e, D, left - (cntB (l.take i.toNat) : Nat) - 1 - cntB t, rfl, rfl, by omega, by omega, by omega, by omega, fun hk => ?_, fun hk left' => ?_⟩
          · obtain ⟨u3, u4⟩ := hk
            have back : [Obj.cells [iv (left - (cntB (l.take i.toNat) : Nat) - 1 - cntB t - cntB e)]] = [Obj.cells [iv (left - (cntB (l.take (i + 1).toNat) : Nat))]] := by
              have e : (left - (cntB (l.take i.toNat) : Nat) - 1 - cntB t - cntB e : Int) = left - (cntB (l.take (i + 1).toNat) : Nat) := by omega
              rw [e]
            refine goG1 ?_
            refine Br.no (by rfl) ?_
            refine wG ?_
            refine goG1 ?_
            refine ⟨i + 1, ⟨by omega, by omega, yes (by rw [hst]; simp_all), by rw [hc]; omega⟩, by dsimp only; omega, [], Meet.mk rfl rfl (WkOs.of_eq back) ⟨Wk.rfl, trivial⟩ rfl⟩
          · refine goG1 ?_
            refine Br.yes (by rfl) ?_
            refine wG ?_
            refine endK ⟨[], ⟨rfl, rfl⟩, ?_⟩
            refine wG ?_
            refine ⟨_, _, Wk.rfl, WkOs.rfl, hQ2 (bad ?_) _⟩
            rcases Classical.em (e.all (stI D) = true) with h7 | h7
            · right
              have : ¬ ((cntB e : Int) ≤ left - (cntB (l.take i.toNat) : Nat) - 1 - cntB t) := fun h8 => hk ⟨h7, h8⟩
              omega
            · left
              rw [hst]
              have h7 : e.all (stI D) = false := by simpa using h7
              show (xpFm 4 x && t.all (stI D) && e.all (stI D)) = false
              rw [h7]; simp
        · refine goG1 ?_
          refine Br.no (by rfl) ?_
          refine wG ?_
          refine goG1 ?_
          refine endK ⟨[], ⟨rfl, rfl⟩, ?_⟩
          refine wG ?_
          refine ⟨_, _, Wk.rfl, WkOs.rfl, hQ2 (bad ?_) _⟩
          rcases Classical.em (t.all (stI D) = true) with h7 | h7
          · right
            have : ¬ ((cntB t : Int) ≤ left - (cntB (l.take i.toNat) : Nat) - 1) := fun h8 => hk ⟨h7, h8⟩
            omega
          · left
            rw [hst]
            have h7 : t.all (stI D) = false := by simpa using h7
            show (xpFm 4 x && t.all (stI D) && e.all (stI D)) = false
            rw [h7]; simp
      · have hx4 : xpFm 4 x = false := hx4
        refine wG ?_
        refine goG1 ?_
        refine endK ⟨[], ⟨rfl, rfl⟩, ?_⟩
        refine wG ?_
        refine ⟨_, _, Wk.rfl, WkOs.rfl, hQ2 (bad (.inl ?_)) _⟩
        rw [hst]
        show (xpFm 4 x && t.all (stI D) && e.all (stI D)) = false
        rw [hx4]; rfl
  · have h : ¬ i < (l.length : Int) := by simpa using h
    rw [List.take_of_length_le (by omega)] at i2 i3
    refine endK ⟨[], ⟨rfl, rfl⟩, ?_⟩
    refine wG ?_
    refine ⟨_, _, Wk.rfl, ?_, hQ1 ⟨i2, i3⟩⟩
    exact WkOs.of_eq (by show [Obj.cells [iv (left - cntB (l.take i.toNat))]] = _; rw [List.take_of_length_le (by omega)])
end Ab
