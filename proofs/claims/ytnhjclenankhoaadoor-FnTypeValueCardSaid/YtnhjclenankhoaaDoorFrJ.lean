/- YtnhjclenankhoaaDoorFrJ: contracts of functions of the program, by the frame 'Ab'. -/
import Derived.Test.YtnhjclenankhoaaDoorFrI
set_option linter.all false
namespace Ab
open Go Go.Proofs
set_option maxRecDepth 10000
set_option maxHeartbeats 4000000
set_option linter.unusedSimpArgs false
set_option linter.unusedVariables false

/-- The law, with no program in sight. -/
structure LawTV (t : Ty) : Prop where
  ok : valOk t (nought t) = true
  read : valRead (valText (nought t)) = some (nought t)
  len : (valText (nought t)).length ≤ 1000000000
  b : ∃ m, m < 10 ∧ vlB m (nought t)
  same : sameVl (nought t) (nought t) = true
  neg : valOk t (.mk (-1) []) = false

/-- laws.FnTypeValue -/
def S3 : Spec := fun args O Q => ∃ (l : List UInt8), args = [.d (.sl 1 (byteRows l))] ∧ O = [] ∧ Q (bv true) []
theorem v3 {B : World} (hB : Tabs B) (law : ∀ t, tyOk 4 t = true → LawTV t) : Valid Tryd.prog B 3 S3 := by
  refine valid_of (Γ := [(7, ⟨[], S7⟩), (8, ⟨[], STypeOk⟩), (9, ⟨[], STypeOk⟩), (10, ⟨[], S10 10⟩), (11, ⟨[], S11⟩), (12, ⟨[], S12⟩), (13, ⟨[], S13⟩), (14, ⟨[], S14 10⟩)]) wide tok
    ((((((((AllValid.nil.cons (v14 10)).cons v13).cons (v12 hB)).cons (v11 hB)).cons (v10 10)).cons v9).cons v8).cons v7) Tryd.func3 rfl rfl ?_
  rintro _ _ Q ⟨l, rfl, rfl, hQ⟩
  have fin : ∀ b : Bool, b = true → wkQ Q (bv b) [] := fun b h => ⟨_, _, Wk.rfl, WkOs.rfl, by subst h; exact hQ⟩
  conv => whnf
  refine ⟨fun h => ?_, fun h => ?_⟩
  · conv => whnf
    refine ⟨[], ⟨rfl, rfl⟩, ?_⟩
    exact fin _ rfl
  · conv => whnf
    refine ⟨_, _, WkL.rfl, WkOs.rfl, l, rfl, rfl, ?_⟩
    intro t _
    conv => whnf
    refine ⟨Nat.le_of_ble_eq_true rfl, ?_⟩
    conv => whnf
    refine ⟨_, _, WkL.rfl, WkOs.rfl, t, rfl, rfl, ?_⟩
    conv => whnf
    refine ⟨Nat.le_of_ble_eq_true rfl, ?_⟩
    conv => whnf
    refine ⟨_, _, WkL.rfl, WkOs.rfl, t, rfl, rfl, ?_⟩
    conv => whnf
    refine ⟨Nat.le_of_ble_eq_true rfl, ?_⟩
    conv => whnf
    refine Br.no (by simp) ?_
    conv => whnf
    refine ⟨fun h2 => ?_, fun h2 => ?_⟩
    · conv => whnf
      refine ⟨_, _, WkL.rfl, WkOs.rfl, t, rfl, rfl, ?_⟩
      conv => whnf
      refine ⟨Nat.le_of_ble_eq_true rfl, ?_⟩
      conv => whnf
      refine ⟨[], ⟨rfl, rfl⟩, ?_⟩
      exact fin _ (by simp)
    · have hok : tyOk 4 t = true := by simpa using h2
      obtain ⟨l1, l2, l3, ⟨mb, l4, l5⟩, l6, l7⟩ := law t hok
      conv => whnf
      refine ⟨_, _, WkL.rfl, WkOs.rfl, 4, t, by omega, hok, rfl, rfl, ?_⟩
      generalize hv : nought t = v at *
      conv => whnf
      refine ⟨Nat.le_of_ble_eq_true rfl, ?_⟩
      conv => whnf
      refine ⟨_, _, WkL.rfl, WkOs.rfl, v, rfl, rfl, ?_⟩
      conv => whnf
      refine ⟨Nat.le_of_ble_eq_true rfl, ?_⟩
      conv => whnf
      refine ⟨_, _, WkL.rfl, WkOs.rfl, valText v, l3, rfl, rfl, fun v' hv' => ?_, fun hn => by rw [l2] at hn; cases hn⟩
      have : v = v' := by rw [l2] at hv'; simpa using hv'
      subst this
      conv => whnf
      refine ⟨Nat.le_of_ble_eq_true rfl, ?_⟩
      conv => whnf
      refine ⟨_, _, WkL.rfl, WkOs.rfl, t, v, rfl, rfl, ?_⟩
      conv => whnf
      refine ⟨Nat.le_of_ble_eq_true rfl, ?_⟩
      conv => whnf
      refine Br.yes l1 ?_
      conv => whnf
      refine Br.yes rfl ?_
      conv => whnf
      refine ⟨_, _, WkL.rfl, WkOs.rfl, mb, v, v, l4, l5, rfl, rfl, ?_⟩
      conv => whnf
      refine ⟨Nat.le_of_ble_eq_true rfl, ?_⟩
      conv => whnf
      refine Br.yes l6 ?_
      conv => whnf
      refine ⟨_, _, WkL.cons Wk.rfl (WkL.cons (wk_v0 (-1)) WkL.nil), WkOs.rfl, t, .mk (-1) [], rfl, rfl, ?_⟩
      conv => whnf
      refine ⟨Nat.le_of_ble_eq_true rfl, ?_⟩
      conv => whnf
      refine ⟨[], ⟨rfl, rfl⟩, ?_⟩
      exact fin _ (by rw [l7]; rfl)
end Ab
