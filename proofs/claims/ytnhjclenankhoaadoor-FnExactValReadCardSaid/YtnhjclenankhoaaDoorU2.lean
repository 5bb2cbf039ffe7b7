/- The exact laws' words on trees of values: what is the same is equal; what is marked is held. -/
import Derived.Test.YtnhjclenankhoaaDoorBase
import Derived.Test.YtnhjclenankhoaaDoorT3
import Derived.Test.YtnhjclenankhoaaDoorFrS
set_option linter.all false
namespace Ab
open Go Go.Proofs
set_option maxRecDepth 10000
set_option maxHeartbeats 4000000
set_option linter.all false

theorem szT_mem : ∀ {ks : List Vl} {i : Nat} (h : i < ks.length), szT ks[i].kids < szT ks
  | .mk n kids :: ks, 0, _ => by rw [szT_cons]; simp [Vl.kids]; omega
  | .mk n kids :: ks, i + 1, h => by
    have := szT_mem (ks := ks) (i := i) (by simpa using h)
    rw [szT_cons]; simp only [List.getElem_cons_succ]; omega
def S_l_eqVal (n : Nat) : Spec := fun args O Q => ∃ v : Vl, szT v.kids < n ∧ n ≤ 1000000 ∧ args = [aVl v, aVl v] ∧ O = [] ∧ Q (bv true) []
def S_l_eqValS (n : Nat) : Spec := fun args O Q => ∃ ks : List Vl, szT ks < n ∧ n ≤ 1000000 ∧ args = [.d (.sl 2 (ks.map dVl)), .d (.sl 2 (ks.map dVl))] ∧ O = [] ∧ Q (bv true) []
theorem v_l_eqVal {B : World} {n : Nat} (ih : Valid PG B l_eqValS (S_l_eqValS n)) : Valid PG B l_eqVal (S_l_eqVal n) := by
  refine valid_of (Γ := [(l_eqValS, ⟨[], S_l_eqValS n⟩)]) wide tok (AllValid.nil.cons ih) g_l_eqVal rfl rfl ?_
  rintro _ _ Q ⟨⟨k, ks⟩, hm, hn, rfl, rfl, hQ⟩
  refine wG ?_
  refine Br.no (by simp) ?_
  refine wG ?_
  refine goG0 ?_
  refine ⟨_, _, WkL.rfl, WkOs.rfl, ks, hm, hn, rfl, rfl, ?_⟩
  refine goG0 ?_
  refine Br.no (by rfl) ?_
  refine wG ?_
  refine goG0 ?_
  refine endK ⟨[], ⟨rfl, rfl⟩, ?_⟩
  refine wG ?_
  exact ⟨_, _, Wk.rfl, WkOs.rfl, hQ⟩
theorem v_l_eqValS {B : World} {n : Nat} (ih : Valid PG B l_eqVal (S_l_eqVal n)) : Valid PG B l_eqValS (S_l_eqValS (n + 1)) := by
  refine valid_of (Γ := [(l_eqVal, ⟨[], S_l_eqVal n⟩)]) wide tok (AllValid.nil.cons ih) g_l_eqValS rfl rfl ?_
  rintro _ _ Q ⟨ks, hm, hn, rfl, rfl, hQ⟩
  have hl := len_szT ks
  refine wG ?_
  refine Br.no (by simp) ?_
  refine wG ?_
  refine goG0 ?_
  refine ⟨[], Int, fun i => 0 ≤ i ∧ i ≤ ks.length, fun i => (ks.length - i).toNat, fun i => [(5, iv i)], fun i => [], 0, ⟨by omega, by omega⟩, ?_⟩
  refine wG ?_
  refine ⟨Meet.mk rfl rfl WkOs.rfl ⟨Wk.rfl, trivial⟩ rfl, ?_⟩
  rintro i ⟨i0, i1⟩
  refine wG ?_
  refine brG0 (fun h => ?_) (fun h => ?_)
  · have h : i < (ks.length : Int) := by simpa using h
    have hi : i.toNat < ks.length := by omega
    have hx : (ks.map dVl)[i.toNat]? = some (dVl ks[i.toNat]) := by simp [hi]
    have hk := szT_mem hi
    generalize ks[i.toNat] = t at *
    refine goG0 ?_
    refine ⟨_, hx, ?_⟩
    rw [dVl_eq]
    refine wG ?_
    refine agG0 ?_
    refine ⟨_, hx, ?_⟩
    rw [dVl_eq]
    refine wG ?_
    refine agG0 ?_
    refine ⟨_, _, WkL.rfl, WkOs.rfl, t, by omega, by omega, rfl, rfl, ?_⟩
    refine agG0 ?_
    refine Br.no (by rfl) ?_
    refine wG ?_
    refine goG0 ?_
    refine ⟨i + 1, ⟨by omega, by omega⟩, by dsimp only; omega, [], Meet.mk rfl rfl WkOs.rfl ⟨Wk.rfl, trivial⟩ rfl⟩
  · refine goG0 ?_
    refine endK ⟨[], ⟨rfl, rfl⟩, ?_⟩
    refine wG ?_
    exact ⟨_, _, Wk.rfl, WkOs.rfl, hQ⟩
theorem eq_pair {B : World} : ∀ n, Valid PG B l_eqVal (S_l_eqVal n) ∧ Valid PG B l_eqValS (S_l_eqValS n)
  | 0 => ⟨fun w g O args us Q _ _ _ _ h => (by obtain ⟨v, h, _⟩ := h; omega), fun w g O args us Q _ _ _ _ h => (by obtain ⟨v, h, _⟩ := h; omega)⟩
  | n + 1 => by
    have h : Valid PG B l_eqValS (S_l_eqValS (n + 1)) := v_l_eqValS (eq_pair (B := B) n).1
    exact ⟨v_l_eqVal h, h⟩

/-! ### What is marked -/
def MkT : List Vl → Int → Prop
  | [], _ => True
  | .mk n kids :: ks, k => n = k ∧ MkT kids (k + 1) ∧ MkT ks (k + 1 + szT kids)
theorem MkT_cons (n : Int) (kids ks : List Vl) (k : Int) : MkT (.mk n kids :: ks) k = (n = k ∧ MkT kids (k + 1) ∧ MkT ks (k + 1 + szT kids)) := by rw [MkT]
theorem markT_sz : ∀ (ks : List Vl) (k : Int), szT (markT ks k).1 = szT ks
  | [], k => by rw [markT_nil]
  | .mk n kids :: ks, k => by
    rw [markT_cons, szT_cons, szT_cons, markT_sz kids, markT_sz ks]
theorem markT_mk : ∀ (ks : List Vl) (k : Int), MkT (markT ks k).1 k
  | [], k => by rw [markT_nil, MkT]; trivial
  | .mk n kids :: ks, k => by
    rw [markT_cons, MkT_cons, markT_sz, ← markT_num kids (k + 1)]
    exact ⟨rfl, markT_mk kids _, markT_mk ks _⟩
theorem MkT_at : ∀ {ks : List Vl} {k : Int} {i : Nat}, MkT ks k → ∀ h : i < ks.length, ks[i].num = k + szT (ks.take i) ∧ MkT ks[i].kids (k + szT (ks.take i) + 1) ∧ szT (ks.take (i + 1)) = szT (ks.take i) + 1 + szT ks[i].kids
  | .mk n kids :: ks, k, 0, hM, h => by
    rw [MkT_cons] at hM
    have h1 := hM.1; subst h1
    simp [Vl.num, Vl.kids, szT_nil, szT_cons]; exact hM.2.1
  | .mk n kids :: ks, k, i + 1, hM, h => by
    rw [MkT_cons] at hM
    obtain ⟨h1, h2, h3⟩ := MkT_at (i := i) hM.2.2 (by simpa using h)
    simp only [List.getElem_cons_succ, List.take_succ_cons, szT_cons]
    refine ⟨by rw [h1]; omega, ?_, by omega⟩
    have e : k + ((1 + szT kids + szT (List.take i ks) : Nat) : Int) + 1 = k + 1 + (szT kids : Int) + (szT (List.take i ks) : Int) + 1 := by omega
    rw [e]; exact h2
def S_l_heldValS (n : Nat) : Spec := fun args O Q => ∃ (ks : List Vl) (k : Int), szT ks < n ∧ n ≤ 1000000 ∧ 0 ≤ k ∧ k ≤ 1000000 - szT ks ∧ MkT ks k ∧ args = [.d (.sl 2 (ks.map dVl)), iv k] ∧ O = [] ∧ Q (iv (k + szT ks)) []
theorem v_l_heldValS {B : World} : ∀ n, Valid PG B l_heldValS (S_l_heldValS n) := by
  refine valid_lt (fun args O Q ⟨ks, k, h, _⟩ => by omega) fun n ih => ?_
  refine valid_of (Γ := [(l_heldValS, ⟨[], S_l_heldValS n⟩)]) wide tok (AllValid.nil.cons ih) g_l_heldValS rfl rfl ?_
  rintro _ _ Q ⟨ks, k, hm, hn, k0, k1, hM, rfl, rfl, hQ⟩
  have hl := len_szT ks
  refine wG ?_
  refine ⟨[], Int × Int, fun s => 0 ≤ s.1 ∧ s.1 ≤ ks.length ∧ s.2 = k + szT (ks.take s.1.toNat), fun s => (ks.length - s.1).toNat, fun s => [(1, iv s.2), (5, iv s.1)], fun i => [], (0, k), ⟨by simp, by simp, by simp [szT_nil]⟩, ?_⟩
  refine wG ?_
  refine ⟨Meet.mk rfl rfl WkOs.rfl ⟨Wk.rfl, Wk.rfl, trivial⟩ rfl, ?_⟩
  rintro ⟨i, q⟩ ⟨i0, i1, i2⟩
  dsimp only at i0 i1 i2
  refine wG ?_
  refine brG0 (fun h => ?_) (fun h => ?_)
  · have h : i < (ks.length : Int) := by simpa using h
    have hi : i.toNat < ks.length := by omega
    have hx : (ks.map dVl)[i.toNat]? = some (dVl ks[i.toNat]) := by simp [hi]
    have hk := szT_mem hi
    obtain ⟨m1, m2, m3⟩ := MkT_at hM hi
    generalize ks[i.toNat] = t at *
    refine goG0 ?_
    refine ⟨_, hx, ?_⟩
    rw [dVl_eq]
    refine wG ?_
    refine agG0 ?_
    have htk : szT (ks.take (i.toNat + 1)) ≤ szT ks := by
      have e := szT_app (ks.take (i.toNat + 1)) (ks.drop (i.toNat + 1))
      rw [List.take_append_drop] at e
      omega
    dsimp only
    refine Br.no (by (simp only [m1, i2]; simp)) ?_
    refine wG ?_
    refine goG0 ?_
    refine ⟨_, hx, ?_⟩
    rw [dVl_eq]
    refine wG ?_
    refine agG0 ?_
    refine ⟨_, _, WkL.rfl, WkOs.rfl, t.kids, q + 1, by omega, by omega, by omega, by omega, by rw [i2]; exact m2, rfl, rfl, ?_⟩
    refine agG0 ?_
    refine Br.no (by (simp only [decide_eq_false_iff_not]; omega)) ?_
    refine wG ?_
    refine goG0 ?_
    have e2 : (i + 1).toNat = i.toNat + 1 := by omega
    refine ⟨(i + 1, q + 1 + szT t.kids), ⟨by dsimp only; omega, by dsimp only; omega, by dsimp only; rw [e2, m3]; omega⟩, by dsimp only; omega, [], Meet.mk rfl rfl WkOs.rfl ⟨Wk.rfl, Wk.rfl, trivial⟩ rfl⟩
  · have h : ¬ i < (ks.length : Int) := by simpa using h
    have e : q = k + szT ks := by rw [i2, List.take_of_length_le (by omega)]
    subst e
    refine goG0 ?_
    refine endK ⟨[], ⟨rfl, rfl⟩, ?_⟩
    refine wG ?_
    exact ⟨_, _, Wk.rfl, WkOs.rfl, hQ⟩
/-- heldVal -/
def S_l_heldVal : Spec := fun args O Q => ∃ (v : Vl) (k : Int), szT v.kids < 1000 ∧ 0 ≤ k ∧ k ≤ 1000 ∧ MkT v.kids k ∧ args = [aVl v, iv k] ∧ O = [] ∧ Q (iv (k + szT v.kids)) []
theorem v_l_heldVal {B : World} : Valid PG B l_heldVal S_l_heldVal := by
  refine valid_of (Γ := [(l_heldValS, ⟨[], S_l_heldValS 1000⟩)]) wide tok (AllValid.nil.cons (v_l_heldValS 1000)) g_l_heldVal rfl rfl ?_
  rintro _ _ Q ⟨v, k, hm, k0, k1, hM, rfl, rfl, hQ⟩
  refine wG ?_
  refine goG0 ?_
  refine ⟨_, _, WkL.rfl, WkOs.rfl, v.kids, k, hm, by omega, k0, by omega, hM, rfl, rfl, ?_⟩
  refine goG0 ?_
  refine Br.no (by (simp only [decide_eq_false_iff_not]; omega)) ?_
  refine wG ?_
  refine goG0 ?_
  refine endK ⟨[], ⟨rfl, rfl⟩, ?_⟩
  refine wG ?_
  exact ⟨_, _, Wk.rfl, WkOs.rfl, hQ⟩
end Ab
