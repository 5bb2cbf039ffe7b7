/- YtnhjclenankhoaaDoorFrF: contracts of functions of the program, by the frame 'Ab'. -/
import Derived.Test.YtnhjclenankhoaaDoorFrE
set_option linter.all false
namespace Ab
open Go Go.Proofs
set_option maxRecDepth 10000
set_option maxHeartbeats 4000000
set_option linter.unusedSimpArgs false
set_option linter.unusedVariables false

def nought : Ty → Vl
  | .mk ks => .mk 0 (ks.map nought)
theorem nought_mk (ks : List Ty) : nought (.mk ks) = .mk 0 (ks.map nought) := by simp [nought]

/-- laws.lhNought -/
def S10 (n : Nat) : Spec := fun args O Q => ∃ (m : Nat) (t : Ty), m < n ∧ tyOk m t = true ∧ args = [aTy t] ∧ O = [] ∧ Q (aVl (nought t)) []
theorem v10 {B : World} : ∀ n, Valid Tryd.prog B 10 (S10 n) := by
  refine valid_lt (fun args O Q ⟨m, t, h1, _⟩ => by omega) fun n ih => ?_
  refine valid_of (Γ := [(10, ⟨[], S10 n⟩)]) wide tok (AllValid.nil.cons ih) Tryd.func10 rfl rfl ?_
  rintro _ _ Q ⟨m, ⟨ks⟩, hm, hok, rfl, rfl, hQ⟩
  obtain ⟨j, rfl, hlen, hks⟩ := tyOk_kids hok
  rw [nought_mk] at hQ
  conv => whnf
  refine ⟨[.cell 2 1 2], Int, fun i => 0 ≤ i ∧ i ≤ ks.length, fun i => (ks.length - i).toNat, fun i => [(4, iv i)],
    fun i => [.cells [.d (.sl 1 (ks.map dTy))], .cells [iv 0, .d (.v (.slice none 0 0))], .cells [iv 0, .row 3 1], .row 1 true 2 ((ks.take i.toNat).map fun k => dVl (nought k))], 0, ⟨by omega, by omega⟩, ?_⟩
  conv => whnf
  refine ⟨⟨rfl, rfl, WkOs.rfl, ⟨Wk.rfl, trivial⟩, rfl⟩, ?_⟩
  intro i ⟨hi0, hi1⟩
  conv => whnf
  refine ⟨fun h4 => ?_, fun h4 => ?_⟩
  · simp [Ty.kids] at h4
    have hlt : i.toNat < ks.length := by omega
    conv => whnf
    refine ⟨hi0, dTy ks[i.toNat], by simp [Ty.kids, hlt], ?_⟩
    rw [dTy_eq]
    conv => whnf
    refine ⟨_, _, WkL.rfl, WkOs.rfl, j, ks[i.toNat], by omega, hks _ (List.getElem_mem _), rfl, rfl, ?_⟩
    conv => whnf
    refine ⟨Nat.le_of_ble_eq_true rfl, ?_⟩
    conv => whnf
    refine ⟨by conv => whnf
               exact Wk.rfl, ?_⟩
    conv => whnf
    left
    conv => whnf
    refine ⟨by conv => whnf
               exact Wk.rfl, ?_⟩
    conv => whnf
    refine ⟨by simp [maxRow]; omega, ?_⟩
    conv => whnf
    refine ⟨lo64 (by omega), hi64 (by omega), ?_⟩
    conv => whnf
    refine ⟨i + 1, ⟨by omega, by omega⟩, by dsimp only; omega, rfl, rfl, ⟨WkO.rfl, WkO.rfl, WkO.rfl, .inr ⟨rfl, rfl, rfl, ?_⟩, trivial⟩, ⟨Wk.rfl, trivial⟩, rfl⟩
    have e : (i + 1).toNat = i.toNat + 1 := by omega
    rw [e, List.take_add_one, List.map_append]
    simp only [List.getElem?_eq_getElem hlt]
    exact DWRows.app DWRows.rfl ⟨by dsimp only; rw [dVl_eq], by dsimp only; rw [dVl_eq]; exact DWL.rfl, trivial⟩
  · conv => whnf
    refine ⟨[], ⟨rfl, rfl⟩, ?_⟩
    conv => whnf
    refine ⟨_, _, Wk.of_eq ?_, WkOs.rfl, hQ⟩
    have e : i.toNat = ks.length := by simp [Ty.kids] at h4; omega
    rw [e, List.take_length]
    simp [Vl.num, Vl.kids, Function.comp_def]
end Ab
