/- YtnhjclenankhoaaDoorFrI: contracts of functions of the program, by the frame 'Ab'. -/
import Derived.Test.YtnhjclenankhoaaDoorFrH
set_option linter.all false
namespace Ab
open Go Go.Proofs
set_option maxRecDepth 10000
set_option maxHeartbeats 4000000
set_option linter.unusedSimpArgs false
set_option linter.unusedVariables false

def valRead (s : List UInt8) : Option Vl := match rdv 4 s with
  | some (v, r) => if r = [] ∧ valText v = s then some v else none
  | none => none

/-- impl.ValRead -/
def S11 : Spec := fun args O Q => ∃ (s : List UInt8), s.length ≤ 1000000000 ∧ args = [.d (.s s)] ∧ O = [] ∧
  (∀ v, valRead s = some v → Q (.tup [aVl v, bv true]) []) ∧ (valRead s = none → Q (.tup [aVl (.mk 0 []), bv false]) [])

theorem v11 {B : World} (hB : Tabs B) : Valid Tryd.prog B 11 S11 := by
  refine valid_of (Γ := [(12, ⟨[], S12⟩), (26, ⟨[], S26 10⟩)]) wide tok ((AllValid.nil.cons (v26 hB 10)).cons (v12 hB)) Tryd.func11 rfl rfl ?_
  rintro _ _ Q ⟨s, hs, rfl, rfl, hQ, hE⟩
  have fin0 : valRead s = none → wkQ Q (.tup [.agg [.d (.i .i64 0), .d (.v (.slice none 0 0))], bv false]) [] := fun h =>
      ⟨_, _, Wk.tup (WkL.cons (wk_v0 0) (WkL.cons Wk.rfl WkL.nil)), WkOs.rfl, hE h⟩
  conv => whnf
  refine ⟨_, _, WkL.rfl, WkOs.rfl, s, 4, by omega, by omega, by omega, hs, rfl, rfl, ?_⟩
  refine ⟨fun v r hr => ?_, fun hnone v r _ => ?_⟩
  · have hr : rdv 4 s = some (v, r) := hr
    conv => whnf
    refine ⟨Nat.le_of_ble_eq_true rfl, ?_⟩
    conv => whnf
    refine Br.no rfl ?_
    conv => whnf
    refine ⟨fun h => ?_, fun h => ?_⟩
    · conv => whnf
      refine ⟨[], ⟨rfl, rfl⟩, ?_⟩
      refine fin0 ?_
      have : r ≠ [] := by rintro rfl; cases h
      simp [valRead, hr, this]
    · have hr0 : r = [] := by
        cases r with
        | nil => rfl
        | cons c r => cases h
      subst hr0
      conv => whnf
      refine ⟨_, _, WkL.rfl, WkOs.rfl, v, rfl, rfl, ?_⟩
      conv => whnf
      refine ⟨Nat.le_of_ble_eq_true rfl, ?_⟩
      conv => whnf
      refine ⟨fun h2 => ?_, fun h2 => ?_⟩
      · conv => whnf
        refine ⟨[], ⟨rfl, rfl⟩, ?_⟩
        refine fin0 ?_
        have : valText v ≠ s := by intro e; rw [e] at h2; simp at h2
        simp [valRead, hr, this]
      · conv => whnf
        refine ⟨[], ⟨rfl, rfl⟩, ?_⟩
        have : valText v = s := by simpa using h2
        exact ⟨_, _, Wk.rfl, WkOs.rfl, hQ v (by simp [valRead, hr, this])⟩
  · have hnone : rdv 4 s = none := hnone
    conv => whnf
    refine ⟨Nat.le_of_ble_eq_true rfl, ?_⟩
    conv => whnf
    refine Br.yes rfl ?_
    conv => whnf
    refine ⟨[], ⟨rfl, rfl⟩, ?_⟩
    exact fin0 (by simp [valRead, hnone])
end Ab
