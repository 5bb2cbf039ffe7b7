/- The laws' words that compare: statements: what is the same is the same. -/
import Derived.Test.YtcajihigkjcgeaaGreatDoorSyn
import Derived.Test.YtcajihigkjcgeaaGreatDoorH1
set_option linter.all false
namespace Ab
open Go Go.Proofs
set_option maxRecDepth 10000
set_option maxHeartbeats 4000000
set_option linter.all false

structure StP (D : Nat) (s : St) : Prop where
  pl : s.pl.path.length ≤ 4
  other : s.other.path.length ≤ 4
  ex : XpN 4 s.ex
  alen : s.args.length ≤ 4
  args : ∀ a ∈ s.args, ArF a
  thn : ∀ t ∈ s.thn, StF D t
  els : ∀ t ∈ s.els, StF D t
  tl : s.thn.length ≤ 40
  el : s.els.length ≤ 40
theorem StF.parts {D : Nat} {s : St} (h : StF D s) : ∃ D', D = D' + 1 ∧ StP D' s := by
  cases h with
  | let_ h1 h2 => exact ⟨_, rfl, by simp [St.pl], by simp [St.other], .inl h2, by simp [St.args], fun a ha => by simp [St.args] at ha, fun a ha => by simp [St.thn] at ha, fun a ha => by simp [St.els] at ha, by simp [St.thn], by simp [St.els]⟩
  | lend h1 h2 => exact ⟨_, rfl, plOk_len h2, by simp [St.other], .inr rfl, by simp [St.args], fun a ha => by simp [St.args] at ha, fun a ha => by simp [St.thn] at ha, fun a ha => by simp [St.els] at ha, by simp [St.thn], by simp [St.els]⟩
  | set h1 h2 => exact ⟨_, rfl, plOk_len h1, by simp [St.other], .inl h2, by simp [St.args], fun a ha => by simp [St.args] at ha, fun a ha => by simp [St.thn] at ha, fun a ha => by simp [St.els] at ha, by simp [St.thn], by simp [St.els]⟩
  | call h1 h2 h3 h4 => exact ⟨_, rfl, by simp [St.pl], by simp [St.other], .inr rfl, h3, h4, fun a ha => by simp [St.thn] at ha, fun a ha => by simp [St.els] at ha, by simp [St.thn], by simp [St.els]⟩
  | ifs h1 h2 h3 h4 h5 h6 => exact ⟨_, rfl, by simp [St.pl], by simp [St.other], .inl h1, by simp [St.args], fun a ha => by simp [St.args] at ha, h4, h6, h3, h5⟩
  | pick h1 h2 h3 h4 => exact ⟨_, rfl, plOk_len h2, plOk_len h3, .inl h4, by simp [St.args], fun a ha => by simp [St.args] at ha, fun a ha => by simp [St.thn] at ha, fun a ha => by simp [St.els] at ha, by simp [St.thn], by simp [St.els]⟩
theorem ArF.parts {a : Ar} (h : ArF a) : a.pl.path.length ≤ 4 ∧ XpN 4 a.ex := by
  cases h with
  | lent h => exact ⟨plOk_len h, .inr rfl⟩
  | own h => exact ⟨by simp, .inl h⟩
/-- lhBody -/
def S_l_lhBody (n : Nat) : Spec := fun args O Q => ∃ (l : List St) (D : Nat), args = [.d (.sl 15 (l.map dSt)), .d (.sl 15 (l.map dSt))] ∧ O = [] ∧ D < n ∧ l.length ≤ 40 ∧ (∀ s ∈ l, StF D s) ∧ Q (bv true) []
theorem v_l_lhBody {B : World} : ∀ n, Valid PG B l_lhBody (S_l_lhBody n) := by
  refine valid_lt (fun args O Q ⟨t, m, _, _, h, _⟩ => by omega) fun n ih => ?_
  refine valid_of (Γ := [(l_lhPlace, ⟨[], S_l_lhPlace⟩), (l_lhExpr, ⟨[], S_l_lhExpr 5⟩), (l_lhBody, ⟨[], S_l_lhBody n⟩)]) wide tok (((AllValid.nil.cons ih).cons (v_l_lhExpr 5)).cons v_l_lhPlace) g_l_lhBody rfl rfl ?_
  rintro _ _ Q ⟨l, D, rfl, rfl, hD, hl, hF, hQ⟩
  refine wG ?_
  refine Br.no (by simp) ?_
  refine wG ?_
  refine goG2 ?_
  refine ⟨[], Int, fun i => 0 ≤ i ∧ i ≤ l.length, fun i => (l.length - i).toNat, fun i => [(5, iv i)], fun i => [], 0, ⟨by omega, by omega⟩, ?_⟩
  refine wG ?_
  refine ⟨Meet.mk rfl rfl WkOs.rfl ⟨Wk.rfl, trivial⟩ rfl, ?_⟩
  rintro i ⟨i0, i1⟩
  refine wG ?_
  refine brG2 (fun h => ?_) (fun h => ?_)
  · have h : i < (l.length : Int) := by simpa using h
    have hi : i.toNat < l.length := by omega
    have hx : (l.map dSt)[i.toNat]? = some (cSt l[i.toNat]) := by rw [← dSt_eq]; simp [hi]
    obtain ⟨D', rfl, hs⟩ := (hF _ (List.getElem_mem hi)).parts
    generalize l[i.toNat] = s at *
    refine goG2 ?_
    refine ⟨_, hx, ?_⟩
    refine wG ?_
    refine agG2 ?_
    refine ⟨_, hx, ?_⟩
    refine wG ?_
    refine agG2 ?_
    refine Br.no (by simp) ?_
    refine wG ?_
    refine goG2 ?_
    refine ⟨_, hx, ?_⟩
    refine wG ?_
    refine agG2 ?_
    refine ⟨_, hx, ?_⟩
    refine wG ?_
    refine agG2 ?_
    refine Br.no (by simp) ?_
    refine wG ?_
    refine goG2 ?_
    refine ⟨_, hx, ?_⟩
    refine wG ?_
    refine agG2 ?_
    refine ⟨_, hx, ?_⟩
    refine wG ?_
    refine agG2 ?_
    refine ⟨_, _, WkL.rfl, WkOs.rfl, s.pl, rfl, rfl, by have := hs.pl; omega, ?_⟩
    refine agG2 ?_
    refine Br.no (by rfl) ?_
    refine wG ?_
    refine goG2 ?_
    refine ⟨_, hx, ?_⟩
    refine wG ?_
    refine agG2 ?_
    refine ⟨_, hx, ?_⟩
    refine wG ?_
    refine agG2 ?_
    refine ⟨_, _, WkL.rfl, WkOs.rfl, s.other, rfl, rfl, by have := hs.other; omega, ?_⟩
    refine agG2 ?_
    refine Br.no (by rfl) ?_
    refine wG ?_
    refine goG2 ?_
    refine ⟨_, hx, ?_⟩
    refine wG ?_
    refine agG2 ?_
    refine ⟨_, hx, ?_⟩
    refine wG ?_
    refine agG2 ?_
    refine ⟨_, _, WkL.rfl, WkOs.rfl, s.ex, 4, rfl, rfl, by omega, hs.ex, ?_⟩
    refine agG2 ?_
    refine Br.no (by rfl) ?_
    refine wG ?_
    refine goG2 ?_
    refine ⟨_, hx, ?_⟩
    refine wG ?_
    refine agG2 ?_
    refine ⟨_, hx, ?_⟩
    refine wG ?_
    refine agG2 ?_
    refine Br.no (by simp) ?_
    refine wG ?_
    refine goG2 ?_
    refine ⟨_, hx, ?_⟩
    refine wG ?_
    refine agG2 ?_
    refine ⟨_, hx, ?_⟩
    refine wG ?_
    refine agG2 ?_
    refine Br.no (by simp) ?_
    refine wG ?_
    refine goG2 ?_
    refine ⟨_, hx, ?_⟩
    refine wG ?_
    refine agG2 ?_
    refine ⟨_, hx, ?_⟩
    refine wG ?_
    refine agG2 ?_
    refine ⟨_, _, WkL.rfl, WkOs.rfl, s.thn, D', rfl, rfl, by omega, hs.tl, hs.thn, ?_⟩
    refine agG2 ?_
    refine Br.no (by rfl) ?_
    refine wG ?_
    refine goG2 ?_
    refine ⟨_, hx, ?_⟩
    refine wG ?_
    refine agG2 ?_
    refine ⟨_, hx, ?_⟩
    refine wG ?_
    refine agG2 ?_
    refine ⟨_, _, WkL.rfl, WkOs.rfl, s.els, D', rfl, rfl, by omega, hs.el, hs.els, ?_⟩
    refine agG2 ?_
    refine Br.no (by rfl) ?_
    refine wG ?_
    refine goG2 ?_
    have hal := hs.alen
    refine ⟨[], Int, fun k => 0 ≤ k ∧ k ≤ s.args.length, fun k => (s.args.length - k).toNat, fun k => [(5, iv i), (6, iv k)], fun _ => [], 0, ⟨by omega, by omega⟩, ?_⟩
    refine wG ?_
    refine ⟨Meet.mk rfl rfl WkOs.rfl ⟨Wk.rfl, Wk.rfl, trivial⟩ rfl, ?_⟩
    rintro k ⟨k0, k1⟩
    refine wG ?_
    refine goG2 ?_
    refine ⟨_, hx, ?_⟩
    refine wG ?_
    refine goG2 ?_
    refine brG2 (fun h5 => ?_) (fun h5 => ?_)
    · have h5 : k < (s.args.length : Int) := by simpa using h5
      have hk : k.toNat < s.args.length := by omega
      have hxa : (s.args.map dAr)[k.toNat]? = some (cAr s.args[k.toNat]) := by simp [hk, dAr_eq]
      obtain ⟨a1, a2⟩ := (hs.args _ (List.getElem_mem hk)).parts
      generalize s.args[k.toNat] = a at *
      refine goG2 ?_
      refine ⟨_, hx, ?_⟩
      refine wG ?_
      refine agG2 ?_
      refine ⟨_, hxa, ?_⟩
      refine wG ?_
      refine agG2 ?_
      refine ⟨_, hx, ?_⟩
      refine wG ?_
      refine agG2 ?_
      refine ⟨_, hxa, ?_⟩
      refine wG ?_
      refine agG2 ?_
      refine Br.no (by simp) ?_
      refine wG ?_
      refine goG2 ?_
      refine ⟨_, hx, ?_⟩
      refine wG ?_
      refine agG2 ?_
      refine ⟨_, hxa, ?_⟩
      refine wG ?_
      refine agG2 ?_
      refine ⟨_, hx, ?_⟩
      refine wG ?_
      refine agG2 ?_
      refine ⟨_, hxa, ?_⟩
      refine wG ?_
      refine agG2 ?_
      refine ⟨_, _, WkL.rfl, WkOs.rfl, a.pl, rfl, rfl, by omega, ?_⟩
      refine agG2 ?_
      refine Br.no (by rfl) ?_
      refine wG ?_
      refine goG2 ?_
      refine ⟨_, hx, ?_⟩
      refine wG ?_
      refine agG2 ?_
      refine ⟨_, hxa, ?_⟩
      refine wG ?_
      refine agG2 ?_
      refine ⟨_, hx, ?_⟩
      refine wG ?_
      refine agG2 ?_
      refine ⟨_, hxa, ?_⟩
      refine wG ?_
      refine agG2 ?_
      refine ⟨_, _, WkL.rfl, WkOs.rfl, a.ex, 4, rfl, rfl, by omega, a2, ?_⟩
      refine agG2 ?_
      refine Br.no (by rfl) ?_
      refine wG ?_
      refine goG2 ?_
      refine ⟨k + 1, ⟨by omega, by omega⟩, by dsimp only; omega, [], Meet.mk rfl rfl WkOs.rfl ⟨Wk.rfl, Wk.rfl, trivial⟩ rfl⟩
    · refine goG2 ?_
      refine ⟨i + 1, ⟨by omega, by omega⟩, by dsimp only; omega, [], Meet.mk rfl rfl WkOs.rfl ⟨Wk.rfl, trivial⟩ rfl⟩
  · refine goG2 ?_
    refine endK ⟨[], ⟨rfl, rfl⟩, ?_⟩
    refine wG ?_
    exact ⟨_, _, Wk.rfl, WkOs.rfl, hQ⟩
end Ab
