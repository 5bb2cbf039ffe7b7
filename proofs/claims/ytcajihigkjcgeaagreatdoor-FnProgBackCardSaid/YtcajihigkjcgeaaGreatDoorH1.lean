/- The laws' words that compare: types, places, expressions: what is the same is the same. -/
import Derived.Test.YtcajihigkjcgeaaGreatDoorSyn
import Derived.Test.YtcajihigkjcgeaaGreatDoorR1
set_option linter.all false
namespace Ab
open Go Go.Proofs
set_option maxRecDepth 10000
set_option maxHeartbeats 4000000
set_option linter.all false

/-- lhType -/
def S_l_lhType (n : Nat) : Spec := fun args O Q => ∃ (t : Ty) (m : Nat), args = [aTy t, aTy t] ∧ O = [] ∧ m < n ∧ tyOk m t = true ∧ Q (bv true) []
theorem v_l_lhType {B : World} : ∀ n, Valid PG B l_lhType (S_l_lhType n) := by
  refine valid_lt (fun args O Q ⟨t, m, _, _, h, _⟩ => by omega) fun n ih => ?_
  refine valid_of (Γ := [(l_lhType, ⟨[], S_l_lhType n⟩)]) wide tok (AllValid.nil.cons ih) g_l_lhType rfl rfl ?_
  rintro _ _ Q ⟨⟨ks⟩, m, rfl, rfl, hm, ht, hQ⟩
  have hl := tyOk_len ht
  have hl : ks.length ≤ 2 := hl
  cases m with
  | zero => simp [tyOk] at ht
  | succ m =>
  simp only [tyOk, Bool.and_eq_true, Bool.or_eq_true, beq_iff_eq, List.all_eq_true] at ht
  refine wG ?_
  refine Br.no (by simp) ?_
  refine wG ?_
  refine goG2 ?_
  refine ⟨[], Int, fun i => 0 ≤ i ∧ i ≤ ks.length, fun i => (ks.length - i).toNat, fun i => [(5, iv i)], fun i => [.cells [.d (.sl 1 (ks.map dTy))], .cells [.d (.sl 1 (ks.map dTy))]], 0, ⟨by omega, by omega⟩, ?_⟩
  refine wG ?_
  refine ⟨Meet.mk rfl rfl WkOs.rfl ⟨Wk.rfl, trivial⟩ rfl, ?_⟩
  rintro i ⟨i0, i1⟩
  refine wG ?_
  refine brG2 (fun h => ?_) (fun h => ?_)
  · have h : i < (ks.length : Int) := by simpa using h
    have hi : i.toNat < ks.length := by omega
    have hx : (ks.map dTy)[i.toNat]? = some (dTy ks[i.toNat]) := by simp [hi]
    have hk := ht.2 _ (List.getElem_mem hi)
    generalize ks[i.toNat] = t at *
    refine goG2 ?_
    refine ⟨_, hx, ?_⟩
    rw [dTy_eq]
    refine wG ?_
    refine agG2 ?_
    refine ⟨_, hx, ?_⟩
    rw [dTy_eq]
    refine wG ?_
    refine agG2 ?_
    refine ⟨_, _, WkL.rfl, WkOs.rfl, t, m, rfl, rfl, by omega, hk, ?_⟩
    refine agG2 ?_
    refine Br.no (by rfl) ?_
    refine wG ?_
    refine goG2 ?_
    refine ⟨i + 1, ⟨by omega, by omega⟩, by dsimp only; omega, [], Meet.mk rfl rfl WkOs.rfl ⟨Wk.rfl, trivial⟩ rfl⟩
  · refine goG2 ?_
    refine endK ⟨[], ⟨rfl, rfl⟩, ?_⟩
    refine wG ?_
    exact ⟨_, _, Wk.rfl, WkOs.rfl, hQ⟩
/-- lhInts -/
def S_l_lhInts : Spec := fun args O Q => ∃ (p : List Int), args = [.d (.sl 1 (p.map dI)), .d (.sl 1 (p.map dI))] ∧ O = [] ∧ p.length ≤ 1000 ∧ Q (bv true) []
theorem v_l_lhInts {B : World} : Valid PG B l_lhInts S_l_lhInts := by
  refine valid_of (Γ := []) wide tok AllValid.nil g_l_lhInts rfl rfl ?_
  rintro _ _ Q ⟨p, rfl, rfl, hl, hQ⟩
  refine wG ?_
  refine Br.no (by simp) ?_
  refine wG ?_
  refine goG2 ?_
  refine ⟨[], Int, fun i => 0 ≤ i ∧ i ≤ p.length, fun i => (p.length - i).toNat, fun i => [(5, iv i)], fun i => [], 0, ⟨by omega, by omega⟩, ?_⟩
  refine wG ?_
  refine ⟨Meet.mk rfl rfl WkOs.rfl ⟨Wk.rfl, trivial⟩ rfl, ?_⟩
  rintro i ⟨i0, i1⟩
  refine wG ?_
  refine brG2 (fun h => ?_) (fun h => ?_)
  · have h : i < (p.length : Int) := by simpa using h
    have hi : i.toNat < p.length := by omega
    have hx : (p.map dI)[i.toNat]? = some (dI p[i.toNat]) := by simp [hi]
    generalize p[i.toNat] = t at *
    refine goG2 ?_
    refine ⟨_, hx, ?_⟩
    rw [dI_eq]
    refine wG ?_
    refine agG2 ?_
    refine ⟨_, hx, ?_⟩
    rw [dI_eq]
    refine wG ?_
    refine agG2 ?_
    refine Br.no (by simp) ?_
    refine wG ?_
    refine goG2 ?_
    refine ⟨i + 1, ⟨by omega, by omega⟩, by dsimp only; omega, [], Meet.mk rfl rfl WkOs.rfl ⟨Wk.rfl, trivial⟩ rfl⟩
  · refine goG2 ?_
    refine endK ⟨[], ⟨rfl, rfl⟩, ?_⟩
    refine wG ?_
    exact ⟨_, _, Wk.rfl, WkOs.rfl, hQ⟩
/-- lhPlace -/
def S_l_lhPlace : Spec := fun args O Q => ∃ (p : Pl), args = [aPl p, aPl p] ∧ O = [] ∧ p.path.length ≤ 1000 ∧ Q (bv true) []
theorem v_l_lhPlace {B : World} : Valid PG B l_lhPlace S_l_lhPlace := by
  refine valid_of (Γ := [(l_lhInts, ⟨[], S_l_lhInts⟩)]) wide tok (AllValid.nil.cons v_l_lhInts) g_l_lhPlace rfl rfl ?_
  rintro _ _ Q ⟨p, rfl, rfl, hl, hQ⟩
  refine wG ?_
  refine Br.yes (by simp) ?_
  refine wG ?_
  refine goG2 ?_
  refine ⟨_, _, WkL.rfl, WkOs.rfl, p.path, rfl, rfl, hl, ?_⟩
  refine goG2 ?_
  refine endK ⟨[], ⟨rfl, rfl⟩, ?_⟩
  refine wG ?_
  exact ⟨_, _, Wk.rfl, WkOs.rfl, hQ⟩
/-- an expression in form, or none -/
def XpN (m : Nat) (x : Xp) : Prop := XpF m x ∨ x = xp0
theorem xpF_path {m : Nat} {x : Xp} (h : XpN m x) : x.pl.path.length ≤ 4 ∧ x.kids.length ≤ 2 ∧ ∀ k ∈ x.kids, ∃ m', m = m' + 1 ∧ XpF m' k := by
  rcases h with h | rfl
  · cases h with
    | num h1 h2 => exact ⟨by simp [Xp.pl], by simp [Xp.kids], fun k hk => by simp [Xp.kids] at hk⟩
    | read h => exact ⟨plOk_len h, by simp [Xp.kids], fun k hk => by simp [Xp.kids] at hk⟩
    | two h1 h2 ha hb =>
      refine ⟨by simp [Xp.pl], by simp [Xp.kids], fun k hk => ⟨_, rfl, ?_⟩⟩
      simp [Xp.kids] at hk
      rcases hk with rfl | rfl
      · exact ha
      · exact hb
  · exact ⟨by simp [Xp.pl], by simp [Xp.kids], fun k hk => by simp [Xp.kids] at hk⟩
/-- lhExpr -/
def S_l_lhExpr (n : Nat) : Spec := fun args O Q => ∃ (x : Xp) (m : Nat), args = [aXp x, aXp x] ∧ O = [] ∧ m < n ∧ XpN m x ∧ Q (bv true) []
theorem v_l_lhExpr {B : World} : ∀ n, Valid PG B l_lhExpr (S_l_lhExpr n) := by
  refine valid_lt (fun args O Q ⟨t, m, _, _, h, _⟩ => by omega) fun n ih => ?_
  refine valid_of (Γ := [(l_lhPlace, ⟨[], S_l_lhPlace⟩), (l_lhExpr, ⟨[], S_l_lhExpr n⟩)]) wide tok ((AllValid.nil.cons ih).cons v_l_lhPlace) g_l_lhExpr rfl rfl ?_
  rintro _ _ Q ⟨x, m, rfl, rfl, hm, hx, hQ⟩
  obtain ⟨h1, h2, h3⟩ := xpF_path hx
  refine wG ?_
  refine Br.no (by simp) ?_
  refine wG ?_
  refine goG2 ?_
  refine Br.no (by simp) ?_
  refine wG ?_
  refine goG2 ?_
  refine ⟨_, _, WkL.rfl, WkOs.rfl, x.pl, rfl, rfl, by omega, ?_⟩
  refine goG2 ?_
  refine Br.no (by rfl) ?_
  refine wG ?_
  refine goG2 ?_
  refine Br.no (by simp) ?_
  refine wG ?_
  refine goG2 ?_
  refine ⟨[], Int, fun i => 0 ≤ i ∧ i ≤ x.kids.length, fun i => (x.kids.length - i).toNat, fun i => [(5, iv i)], fun i => [.cells [iv x.kind, iv x.num, sv x.pl.name, .d (.sl 1 (x.pl.path.map dI)), .d (.sl 5 (x.kids.map dXp))], .cells [iv x.kind, iv x.num, sv x.pl.name, .d (.sl 1 (x.pl.path.map dI)), .d (.sl 5 (x.kids.map dXp))]], 0, ⟨by omega, by omega⟩, ?_⟩
  refine wG ?_
  refine ⟨Meet.mk rfl rfl WkOs.rfl ⟨Wk.rfl, trivial⟩ rfl, ?_⟩
  rintro i ⟨i0, i1⟩
  refine wG ?_
  refine brG2 (fun h => ?_) (fun h => ?_)
  · have h : i < (x.kids.length : Int) := by simpa using h
    have hi : i.toNat < x.kids.length := by omega
    have hx : (x.kids.map dXp)[i.toNat]? = some (dXp x.kids[i.toNat]) := by simp [hi]
    obtain ⟨m', rfl, hk⟩ := h3 _ (List.getElem_mem hi)
    generalize x.kids[i.toNat] = t at *
    refine goG2 ?_
    refine ⟨_, hx, ?_⟩
    rw [dXp_eq]
    refine wG ?_
    refine agG2 ?_
    refine ⟨_, hx, ?_⟩
    rw [dXp_eq]
    refine wG ?_
    refine agG2 ?_
    refine ⟨_, _, WkL.rfl, WkOs.rfl, t, m', rfl, rfl, by omega, .inl hk, ?_⟩
    refine agG2 ?_
    refine Br.no (by rfl) ?_
    refine wG ?_
    refine goG2 ?_
    refine ⟨i + 1, ⟨by omega, by omega⟩, by dsimp only; omega, [], Meet.mk rfl rfl WkOs.rfl ⟨Wk.rfl, trivial⟩ rfl⟩
  · refine goG2 ?_
    refine endK ⟨[], ⟨rfl, rfl⟩, ?_⟩
    refine wG ?_
    exact ⟨_, _, Wk.rfl, WkOs.rfl, hQ⟩
end Ab
