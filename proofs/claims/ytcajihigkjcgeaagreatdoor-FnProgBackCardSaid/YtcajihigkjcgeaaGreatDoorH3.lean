/- The laws' words that compare: programs: what is the same is the same. -/
import Derived.Test.YtcajihigkjcgeaaGreatDoorSyn
import Derived.Test.YtcajihigkjcgeaaGreatDoorH2
import Derived.Test.YtcajihigkjcgeaaGreatDoorL3J
import Derived.Test.YtcajihigkjcgeaaGreatDoorD11
import Derived.Test.YtcajihigkjcgeaaGreatDoorR8
import Derived.Test.YtcajihigkjcgeaaGreatDoorB4
set_option linter.all false
namespace Ab
open Go Go.Proofs
set_option maxRecDepth 10000
set_option maxHeartbeats 4000000
set_option linter.all false

/-- lhProg -/
def S_l_lhProg : Spec := fun args O Q => ∃ (p : Pr), args = [aPr p, aPr p] ∧ O = [] ∧ p.length ≤ 5 ∧ (∀ f ∈ p, FdF f) ∧ Q (bv true) []
theorem v_l_lhProg {B : World} : Valid PG B l_lhProg S_l_lhProg := by
  refine valid_of (Γ := [(l_lhType, ⟨[], S_l_lhType 5⟩), (l_lhBody, ⟨[], S_l_lhBody 5⟩), (l_lhExpr, ⟨[], S_l_lhExpr 5⟩), (l_lhPlace, ⟨[], S_l_lhPlace⟩)]) wide tok ((((AllValid.nil.cons v_l_lhPlace).cons (v_l_lhExpr 5)).cons (v_l_lhBody 5)).cons (v_l_lhType 5)) g_l_lhProg rfl rfl ?_
  rintro _ _ Q ⟨p, rfl, rfl, hl, hF, hQ⟩
  refine wG ?_
  refine Br.no (by simp) ?_
  refine wG ?_
  refine goG2 ?_
  refine ⟨[], Int, fun i => 0 ≤ i ∧ i ≤ p.length, fun i => (p.length - i).toNat, fun i => [(5, iv i)], fun i => [.cells [.d (.sl 12 (p.map dFd))], .cells [.d (.sl 12 (p.map dFd))]], 0, ⟨by omega, by omega⟩, ?_⟩
  refine wG ?_
  refine ⟨Meet.mk rfl rfl WkOs.rfl ⟨Wk.rfl, trivial⟩ rfl, ?_⟩
  rintro i ⟨i0, i1⟩
  refine wG ?_
  refine brG2 (fun h => ?_) (fun h => ?_)
  · have h : i < (p.length : Int) := by simpa using h
    have hi : i.toNat < p.length := by omega
    have hx : (p.map dFd)[i.toNat]? = some (cFd p[i.toNat]) := by simp [hi, dFd_eq]
    have hf := hF _ (List.getElem_mem hi)
    generalize p[i.toNat] = f at *
    have hs : XpN 4 f.says := by
      cases hb : f.lent with
      | true => exact .inr (hf.lent hb).2
      | false => exact .inl (hf.own hb).2
    have hg : f.gives.path.length ≤ 4 := by
      cases hb : f.lent with
      | true => exact plOk_len (hf.lent hb).1
      | false => rw [(hf.own hb).1]; simp
    have hpl := hf.plen
    refine goG2 ?_
    refine ⟨_, hx, ?_⟩
    refine wG ?_
    refine goG2 ?_
    refine ⟨_, hx, ?_⟩
    refine wG ?_
    refine goG2 ?_
    refine Br.no (by simp) ?_
    refine wG ?_
    refine goG2 ?_
    refine Br.no (by simp) ?_
    refine wG ?_
    refine goG2 ?_
    refine ⟨_, _, WkL.rfl, WkOs.rfl, f.ty, 4, rfl, rfl, by omega, hf.ty, ?_⟩
    refine goG2 ?_
    refine Br.no (by rfl) ?_
    refine wG ?_
    refine goG2 ?_
    refine ⟨_, _, WkL.rfl, WkOs.rfl, f.body, 4, rfl, rfl, by omega, hf.blen, hf.body, ?_⟩
    refine goG2 ?_
    refine Br.no (by rfl) ?_
    refine wG ?_
    refine goG2 ?_
    refine ⟨_, _, WkL.rfl, WkOs.rfl, f.says, 4, rfl, rfl, by omega, hs, ?_⟩
    refine goG2 ?_
    refine Br.no (by rfl) ?_
    refine wG ?_
    refine goG2 ?_
    refine ⟨_, _, WkL.rfl, WkOs.rfl, f.gives, rfl, rfl, by omega, ?_⟩
    refine goG2 ?_
    refine Br.no (by rfl) ?_
    refine wG ?_
    refine goG2 ?_
    refine Br.no (by simp) ?_
    refine wG ?_
    refine goG2 ?_
    refine ⟨[], Int, fun k => 0 ≤ k ∧ k ≤ f.params.length, fun k => (f.params.length - k).toNat, fun k => [(5, iv i), (8, iv k)], fun _ => [.cells [.d (.sl 12 (p.map dFd))], .cells [.d (.sl 12 (p.map dFd))], bFd f, bFd f], 0, ⟨by omega, by omega⟩, ?_⟩
    refine wG ?_
    refine ⟨Meet.mk rfl rfl WkOs.rfl ⟨Wk.rfl, Wk.rfl, trivial⟩ rfl, ?_⟩
    rintro k ⟨k0, k1⟩
    refine wG ?_
    refine goG2 ?_
    refine brG2 (fun h5 => ?_) (fun h5 => ?_)
    · have h5 : k < (f.params.length : Int) := by simpa using h5
      have hk : k.toNat < f.params.length := by omega
      have hxa : (f.params.map dPm)[k.toNat]? = some (cPm f.params[k.toNat]) := by simp [hk, dPm_eq]
      obtain ⟨a1, a2⟩ := hf.params _ (List.getElem_mem hk)
      generalize f.params[k.toNat] = a at *
      refine goG2 ?_
      refine ⟨_, hxa, ?_⟩
      refine wG ?_
      refine agG2 ?_
      refine ⟨_, hxa, ?_⟩
      refine wG ?_
      refine agG2 ?_
      refine Br.no (by simp) ?_
      refine wG ?_
      refine goG2 ?_
      refine ⟨_, hxa, ?_⟩
      refine wG ?_
      refine agG2 ?_
      refine ⟨_, hxa, ?_⟩
      refine wG ?_
      refine agG2 ?_
      refine Br.no (by simp) ?_
      refine wG ?_
      refine goG2 ?_
      refine ⟨_, hxa, ?_⟩
      refine wG ?_
      refine agG2 ?_
      refine ⟨_, hxa, ?_⟩
      refine wG ?_
      refine agG2 ?_
      refine ⟨_, _, WkL.rfl, WkOs.rfl, a.ty, 4, rfl, rfl, by omega, a2, ?_⟩
      refine agG2 ?_
      refine Br.no (by rfl) ?_
      refine wG ?_
      refine goG2 ?_
      refine ⟨k + 1, ⟨by omega, by omega⟩, by dsimp only; omega, [], Meet.mk rfl rfl WkOs.rfl ⟨Wk.rfl, Wk.rfl, trivial⟩ rfl⟩
    · refine goG2 ?_
      refine ⟨i + 1, ⟨by omega, by omega⟩, by dsimp only; omega, [], Meet.mk rfl rfl WkOs.rfl ⟨Wk.rfl, trivial⟩ rfl⟩
  · refine goG2 ?_
    refine endK ⟨[], ⟨rfl, rfl⟩, ?_⟩
    refine wG ?_
    exact ⟨_, _, Wk.rfl, WkOs.rfl, hQ⟩
end Ab

/- The law FnProgBack: a program is read back from its text. -/
namespace Ab
open Go Go.Proofs
set_option maxRecDepth 10000
set_option maxHeartbeats 4000000
set_option linter.all false

/-- laws.FnProgBack -/
theorem v_l_FnProgBack {B : World} (hB : TabM B) : Valid PG B l_FnProgBack S_l_law := by
  refine valid_of (Γ := [(s_DrawProgWrite, ⟨[], S_s_DrawProgWrite⟩), (i_ProgWrite, ⟨[], S_i_ProgWrite⟩), (s_ProgWrite, ⟨[], S_s_ProgWrite⟩), (i_ProgRead, ⟨[], S_i_ProgRead⟩), (l_lhProg, ⟨[], S_l_lhProg⟩)]) wide tok
    (((((AllValid.nil.cons v_l_lhProg).cons (v_i_ProgRead hB)).cons v_s_ProgWrite).cons (v_i_ProgWrite hB.1)).cons v_s_DrawProgWrite) g_l_FnProgBack rfl rfl ?_
  rintro _ _ Q ⟨l, rfl, rfl, hQ⟩
  refine wG ?_
  refine brG2 (fun h1 => ?_) (fun h1 => ?_)
  · refine goG2 ?_
    refine endK ⟨[], ⟨rfl, rfl⟩, ?_⟩
    refine wG ?_
    exact ⟨_, _, Wk.rfl, WkOs.rfl, hQ⟩
  refine ⟨_, _, WkL.rfl, WkOs.rfl, l, rfl, rfl, ?_⟩
  intro p hP hp1
  have hp0 : p ≠ [] := fun h => by subst h; simp at hp1
  have hpI : prI p = prFm p := prI_prFm hP.body (fun f hf => by have := hP.blen f hf; omega)
  have hB4 : ∀ f ∈ p, ∀ s ∈ f.body, StB 4 s := fun f hf s hs => (hP.body f hf s hs).b
  refine goG2 ?_
  refine ⟨_, _, WkL.rfl, WkOs.rfl, p, rfl, rfl, hp0, hpI, ?_⟩
  refine goG2 ?_
  refine ⟨_, _, WkL.rfl, WkOs.rfl, p, rfl, rfl, hB4, ?_⟩
  refine goG2 ?_
  refine Br.no (by simp) ?_
  refine wG ?_
  refine goG2 ?_
  refine brG2 (fun h2 => ?_) (fun h2 => ?_)
  · have h2 : progW p = [] := by simpa using h2
    refine goG2 ?_
    refine ⟨_, _, WkL.rfl, WkOs.rfl, p, rfl, rfl, hB4, ?_⟩
    refine goG2 ?_
    refine endK ⟨[], ⟨rfl, rfl⟩, ?_⟩
    refine wG ?_
    exact ⟨_, _, Wk.of_eq (by simp), WkOs.rfl, hQ⟩
  · have h2 : progW p ≠ [] := by simpa using h2
    have hF : prFm p = true := by
      cases h : prFm p with
      | true => rfl
      | false => exact absurd (by simp [progW, h]) h2
    have hL : (progS p).length ≤ 6000 := by
      rcases Nat.lt_or_ge 6000 (progS p).length with h | h
      · have h' : ¬ (progS p).length ≤ 6000 := by omega
        exact absurd (by simp [progW, h']) h2
      · exact h
    have hW : progW p = progS p := by simp [progW, hF, hL]
    have h3 := hF
    simp only [prFm, Bool.and_eq_true, decide_eq_true_eq, List.all_eq_true] at h3
    refine goG2 ?_
    refine ⟨_, _, (WkL.cons (Wk.of_eq (by rw [hW])) WkL.nil), WkOs.rfl, p, rfl, rfl, hp0, hF, hpI, hL, ?_⟩
    refine goG2 ?_
    refine Br.yes (by rfl) ?_
    refine wG ?_
    refine goG2 ?_
    refine ⟨_, _, WkL.rfl, WkOs.rfl, p, rfl, rfl, h3.1, (fun f hf => fnFm_F (h3.2 f hf)), ?_⟩
    refine goG2 ?_
    refine endK ⟨[], ⟨rfl, rfl⟩, ?_⟩
    refine wG ?_
    exact ⟨_, _, Wk.rfl, WkOs.rfl, hQ⟩
end Ab
