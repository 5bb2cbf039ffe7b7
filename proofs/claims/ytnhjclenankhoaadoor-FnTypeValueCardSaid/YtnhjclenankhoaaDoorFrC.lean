/- YtnhjclenankhoaaDoorFrC: contracts of functions of the program, by the frame 'Ab'. -/
import Derived.Test.YtnhjclenankhoaaDoorFrB
set_option linter.all false
namespace Ab
open Go Go.Proofs
set_option maxRecDepth 10000
set_option maxHeartbeats 4000000
set_option linter.unusedSimpArgs false
set_option linter.unusedVariables false

def Bd : Nat → Int
  | 0 => 1
  | n + 1 => 2 * Bd n + 1
theorem Bd_pos : ∀ n, 1 ≤ Bd n
  | 0 => by simp [Bd]
  | n + 1 => by have := Bd_pos n; simp only [Bd]; omega

theorem wk_fTy (t : Ty) : DWL [.sf 1 (t.kids.map dTy)] (dTy t) := by
  rw [dTy_eq]; exact DWL.cons DW.sf DWL.nil

theorem wk_nil : DWL [.v (.slice none 0 0)] (dTy (.mk [])) := by
  rw [dTy_eq]; exact DWL.cons (DW.nil 1) DWL.nil
theorem DWRows.app : ∀ {xs ys xs' ys' : List (List DV)}, DWRows xs xs' → DWRows ys ys' → DWRows (xs ++ ys) (xs' ++ ys')
  | [], _, [], _, _, h => h
  | _ :: _, _, _ :: _, _, ⟨h1, h2, h3⟩, h => ⟨h1, h2, DWRows.app h3 h⟩
theorem Ty.kids_mk (ks : List Ty) : (Ty.mk ks).kids = ks := rfl

/-- spec.l71Type -/
def S31 (n : Nat) : Spec := fun args O Q => ∃ (l : List UInt8) (p d : Int), l.length ≤ 2000 ∧ 0 ≤ p ∧ p + Bd n ≤ 1000000000 ∧ 0 ≤ d ∧ d < n ∧ n ≤ 20 ∧ args = [.ptr 0 0, iv d] ∧ O = [oRd l p] ∧
  ∀ (t : Ty) (p' : Int), t.kids.length ≤ 2 → p ≤ p' → p' ≤ p + Bd n → Q (fTy t) [oRd l p']

theorem v31 {B : World} : ∀ n, Valid Tryd.prog B 31 (S31 n) := by
  refine valid_lt (fun args O Q ⟨l, p, d, _, _, _, h1, h2, _⟩ => by omega) fun n ih => ?_
  refine valid_of (Γ := [(31, ⟨[], S31 n⟩), (32, ⟨[], S32⟩)]) wide tok ((AllValid.nil.cons v32).cons ih) Tryd.func31 rfl rfl ?_
  rintro _ _ Q ⟨l, p, d, hl, hp, hB, hd, hd', hn, rfl, rfl, hQ⟩
  have hb := Bd_pos n
  have hb1 : Bd (n + 1) = 2 * Bd n + 1 := rfl
  conv => whnf
  refine ⟨fun h => ?_, fun h => ?_⟩
  · conv => whnf
    refine ⟨[], ⟨rfl, rfl⟩, ?_⟩
    conv => whnf
    refine ⟨_, _, Wk.agg (WkL.cons (Wk.d (DW.nilf 1)) WkL.nil), WkOs.rfl, hQ (.mk []) p (by simp [Ty.kids]) (by omega) (by omega)⟩
  · have hd2 : ¬ d < 2 := by simpa using h
    conv => whnf
    refine ⟨_, _, WkL.rfl, WkOs.rfl, l, p, 3, hl, hp, by omega, by omega, rfl, rfl, ?_⟩
    intro k hk1 hk2
    obtain ⟨hk3, hk4⟩ := hk2 (by omega)
    conv => whnf
    refine ⟨Nat.le_of_ble_eq_true rfl, ?_⟩
    conv => whnf
    refine ⟨fun h2 => ?_, fun h2 => ?_⟩
    · conv => whnf
      refine ⟨[], ⟨rfl, rfl⟩, ?_⟩
      conv => whnf
      refine ⟨_, _, Wk.agg (WkL.cons (Wk.d (DW.nilf 1)) WkL.nil), WkOs.rfl, hQ (.mk []) (p + 1) (by simp [Ty.kids]) (by omega) (by omega)⟩
    · conv => whnf
      refine ⟨lo64 (by omega), hi64 (by omega), ?_⟩
      conv => whnf
      refine ⟨_, _, WkL.rfl, WkOs.rfl, l, p + 1, d - 1, hl, by omega, by omega, by omega, by omega, by omega, rfl, rfl, ?_⟩
      intro t1 p1 e1 e2 e3
      conv => whnf
      refine ⟨Nat.le_of_ble_eq_true rfl, ?_⟩
      conv => whnf
      refine ⟨lo64 (by omega), hi64 (by omega), ?_⟩
      conv => whnf
      refine ⟨_, _, WkL.rfl, WkOs.rfl, l, p1, d - 1, hl, by omega, by omega, by omega, by omega, by omega, rfl, rfl, ?_⟩
      intro t2 p2 e4 e5 e6
      conv => whnf
      refine ⟨Nat.le_of_ble_eq_true rfl, ?_⟩
      conv => whnf
      left
      conv => whnf
      refine ⟨[], ⟨rfl, rfl⟩, ?_⟩
      conv => whnf
      refine ⟨_, _, Wk.agg (WkL.cons (Wk.d (DW.sff ?_)) WkL.nil), WkOs.rfl, hQ (.mk [t1, t2]) p2 (by simp [Ty.kids]) (by omega) (by omega)⟩
      exact ⟨by rw [dTy_eq]; rfl, wk_fTy t1, by rw [dTy_eq]; rfl, wk_fTy t2, trivial⟩

/-- spec.l71Deep -/
def S22 : Spec := fun args O Q => ∃ (l : List UInt8), l.length ≤ 2000 ∧ args = [.ptr 0 0] ∧ O = [oRd l 0] ∧
  ∀ (t : Ty) (p' : Int), t.kids.length ≤ 3 → Q (aTy t) [oRd l p']

theorem v22 {B : World} : Valid Tryd.prog B 22 S22 := by
  refine valid_of (Γ := [(31, ⟨[], S31 10⟩), (32, ⟨[], S32⟩)]) wide tok ((AllValid.nil.cons v32).cons (v31 10)) Tryd.func22 rfl rfl ?_
  rintro _ _ Q ⟨l, hl, rfl, rfl, hQ⟩
  have hB : Bd 10 = 2047 := by decide
  conv => whnf
  refine ⟨_, _, WkL.rfl, WkOs.rfl, l, 0, 4, hl, by omega, by omega, by omega, rfl, rfl, ?_⟩
  intro k _ hk
  obtain ⟨hk1, hk2⟩ := hk (by omega)
  conv => whnf
  refine ⟨Nat.le_of_ble_eq_true rfl, ?_⟩
  conv => whnf
  refine ⟨lo64 (by omega), hi64 (by omega), ?_⟩
  conv => whnf
  refine ⟨_, _, WkL.rfl, WkOs.rfl, l, 1, 1 + k, hl, by omega, by omega, by omega, by omega, by omega, rfl, rfl, ?_⟩
  intro t p1 ht e1 e2
  conv => whnf
  refine ⟨Nat.le_of_ble_eq_true rfl, ?_⟩
  conv => whnf
  refine ⟨_, _, WkL.rfl, WkOs.rfl, l, p1, 12, hl, by omega, by omega, by omega, rfl, rfl, ?_⟩
  intro k2 _ hk2
  conv => whnf
  refine ⟨Nat.le_of_ble_eq_true rfl, ?_⟩
  conv => whnf
  refine ⟨fun h => ?_, fun h => ?_⟩
  · conv => whnf
    refine ⟨[], Ty × Int, fun x => 0 ≤ x.2 ∧ x.2 ≤ 5 ∧ x.1.kids.length ≤ 2, fun x => (5 - x.2).toNat, fun x => [(4, iv x.2)],
      fun x => [oRd l (p1 + 1), .cells [.d (.v (.slice none 0 0))], .cells [.d (.sf 1 (x.1.kids.map dTy))]], (t, 0), ⟨by dsimp only; omega, by dsimp only; omega, ht⟩, ?_⟩
    conv => whnf
    refine ⟨⟨rfl, rfl, WkOs.rfl, ⟨Wk.rfl, trivial⟩, rfl⟩, ?_⟩
    rintro ⟨t, i⟩ ⟨hi0, hi1, ht⟩
    conv => whnf
    refine ⟨fun h4 => ?_, fun h4 => ?_⟩
    · conv => whnf
      left
      conv => whnf
      refine ⟨lo64 (by dsimp only at hi0; omega), hi64 (by dsimp only at hi1; omega), ?_⟩
      conv => whnf
      refine ⟨(.mk [t, .mk []], i + 1), ⟨?_, ?_, by simp [Ty.kids]⟩, ?_, rfl, rfl, ?_, ⟨Wk.rfl, trivial⟩, rfl⟩
      · dsimp only at hi0 ⊢; omega
      · simp at h4 ⊢; omega
      · simp at h4 ⊢; omega
      · refine ⟨WkO.rfl, WkO.rfl, .inr (WkL.cons (Wk.d (DW.sff ?_)) WkL.nil), trivial⟩
        exact ⟨by rw [dTy_eq]; rfl, wk_fTy t, by rw [dTy_eq]; rfl, wk_nil, trivial⟩
    · conv => whnf
      refine ⟨[], ⟨rfl, rfl⟩, ?_⟩
      conv => whnf
      exact ⟨_, _, Wk.agg (WkL.cons (Wk.d DW.sf) WkL.nil), WkOs.rfl, hQ t (p1 + 1) (by dsimp only at ht; omega)⟩
  · conv => whnf
    refine ⟨fun h => ?_, fun h => ?_⟩
    · conv => whnf
      left
      conv => whnf
      refine ⟨⟨by decide, ?_⟩, ?_⟩
      · simp [maxRow]; omega
      conv => whnf
      refine ⟨[], ⟨rfl, rfl⟩, ?_⟩
      conv => whnf
      refine ⟨_, _, Wk.agg (WkL.cons (Wk.d (DW.sl ?_)) WkL.nil), WkOs.rfl, hQ (.mk (t.kids ++ [.mk []])) (p1 + 1) (by rw [Ty.kids_mk]; simp; omega)⟩
      rw [Ty.kids_mk, List.map_append]
      exact DWRows.app DWRows.rfl ⟨by rw [dTy_eq]; rfl, wk_nil, trivial⟩
    · conv => whnf
      refine ⟨[], ⟨rfl, rfl⟩, ?_⟩
      conv => whnf
      exact ⟨_, _, Wk.agg (WkL.cons (Wk.d DW.sf) WkL.nil), WkOs.rfl, hQ t (p1 + 1) (by omega)⟩

/-- spec.DrawTypeOk -/
def S7 : Spec := fun args O Q => ∃ (l : List UInt8), args = [.d (.sl 1 (byteRows l))] ∧ O = [] ∧ ∀ (t : Ty), t.kids.length ≤ 3 → Q (aTy t) []
theorem v7 {B : World} : Valid Tryd.prog B 7 S7 := by
  refine valid_of (Γ := [(22, ⟨[], S22⟩), (23, ⟨[], SOpen⟩)]) wide tok ((AllValid.nil.cons v23).cons v22) Tryd.func7 rfl rfl ?_
  rintro _ _ Q ⟨l, rfl, rfl, hQ⟩
  conv => whnf
  refine ⟨_, _, WkL.rfl, WkOs.rfl, l, rfl, rfl, ?_⟩
  conv => whnf
  refine ⟨Nat.le_of_ble_eq_true rfl, ?_⟩
  conv => whnf
  refine ⟨_, _, WkL.rfl, WkOs.rfl, l.take 2000, by simp; omega, rfl, rfl, ?_⟩
  intro t p' ht
  conv => whnf
  refine ⟨Nat.le_of_ble_eq_true rfl, ?_⟩
  conv => whnf
  refine ⟨[], ⟨rfl, rfl⟩, ?_⟩
  conv => whnf
  exact ⟨_, _, Wk.rfl, WkOs.rfl, hQ t ht⟩
end Ab
