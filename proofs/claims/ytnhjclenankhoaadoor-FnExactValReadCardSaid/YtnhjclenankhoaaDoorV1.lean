/- Values: trees of numbers, as data. -/
import Derived.Test.YtnhjclenankhoaaDoorBase
import Derived.Test.YtnhjclenankhoaaDoorFrB
set_option linter.all false
namespace Ab
open Go Go.Proofs
set_option linter.all false

inductive Vl where | mk (n : Int) (kids : List Vl)
def Vl.num : Vl → Int | .mk n _ => n
def Vl.kids : Vl → List Vl | .mk _ k => k
def dVl : Vl → List DV | .mk n ks => [.i .i64 n, .sl 2 (ks.map dVl)]
theorem dVl_eq (v : Vl) : dVl v = [.i .i64 v.num, .sl 2 (v.kids.map dVl)] := by cases v; simp [dVl, Vl.num, Vl.kids]
abbrev aVl (v : Vl) : AV := .agg [.d (.i .i64 v.num), .d (.sl 2 (v.kids.map dVl))]
abbrev fVl (v : Vl) : AV := .agg [.d (.i .i64 v.num), .d (.sf 2 (v.kids.map dVl))]
end Ab

namespace Ab
open Go Go.Proofs
set_option maxRecDepth 10000
set_option maxHeartbeats 4000000
set_option linter.unusedSimpArgs false
set_option linter.unusedVariables false

/-- the type of a value, and whether it is of one -/
def vt : Nat → Vl → Ty × Bool
  | 0, _ => (.mk [], false)
  | d + 1, .mk n [] => (.mk [], decide (0 ≤ n) && decide (n ≤ 9999))
  | d + 1, .mk n [a, b] => if n = 0 then (if (vt d a).2 && (vt d b).2 then (.mk [(vt d a).1, (vt d b).1], true) else (.mk [], false)) else (.mk [], false)
  | d + 1, .mk n _ => (.mk [], false)

/-- impl.valType -/
def S_i_valType (n : Nat) : Spec := fun args O Q => ∃ (v : Vl) (d : Int), 0 ≤ d ∧ d < n ∧ n ≤ 100 ∧ args = [aVl v, iv d] ∧ O = [] ∧ Q (.tup [aTy (vt d.toNat v).1, bv (vt d.toNat v).2]) []

theorem wk_t0 : Wk (.agg [.d (.v (.slice none 0 0))]) (aTy (.mk [])) := Wk.agg (WkL.cons (Wk.nil 1) WkL.nil)

theorem v_i_valType {B : World} : ∀ n, Valid PG B i_valType (S_i_valType n) := by
  refine valid_lt (fun args O Q ⟨t, d, h1, h2, _⟩ => by omega) fun n ih => ?_
  refine valid_of (Γ := [(i_valType, ⟨[], S_i_valType n⟩)]) wide tok (AllValid.nil.cons ih) g_i_valType rfl rfl ?_
  rintro _ _ Q ⟨⟨k, ks⟩, d, hd, hd', hn, rfl, rfl, hQ⟩
  have fin : ∀ (x : AV) (t : Ty) (b : Bool), vt d.toNat (.mk k ks) = (t, b) → Wk x (.tup [aTy t, bv b]) → wkQ Q x [] := fun x t b hb hx => ⟨_, _, hx, WkOs.rfl, by rw [hb] at hQ; exact hQ⟩
  ((conv => (whnf)); (try (refine AnyG.skip ?_; (conv => (whnf)))))
  refine ⟨fun h => ?_, fun h => ?_⟩
  · ((conv => (whnf)); (try (refine AnyG.skip ?_; (conv => (whnf)))))
    refine endK ⟨[], ⟨rfl, rfl⟩, ?_⟩
    have h0 : d.toNat = 0 := by simp at h; omega
    exact fin _ (.mk []) false (by rw [h0]; rfl) (Wk.tup (WkL.cons wk_t0 (WkL.cons Wk.rfl WkL.nil)))
  · have hd1 : ¬ d < 1 := by simpa using h
    obtain ⟨m, hm⟩ : ∃ m, d.toNat = m + 1 := ⟨d.toNat - 1, by omega⟩
    have hm1 : (d - 1).toNat = m := by omega
    rw [hm] at fin
    ((conv => (whnf)); (try (refine AnyG.skip ?_; (conv => (whnf)))))
    refine ⟨fun h2 => ?_, fun h2 => ?_⟩
    · have : ks = [] := by
        cases ks with
        | nil => rfl
        | cons k ks => simp [Vl.kids] at h2; omega
      subst this
      ((conv => (whnf)); (try (refine AnyG.skip ?_; (conv => (whnf)))))
      refine ⟨fun h3 => ?_, fun h3 => ?_⟩
      · ((conv => (whnf)); (try (refine AnyG.skip ?_; (conv => (whnf)))))
        refine ⟨?_, ?_⟩
        · ((conv => (whnf)); (try (refine AnyG.skip ?_; (conv => (whnf)))))
          exact Wk.rfl
        ((conv => (whnf)); (try (refine AnyG.skip ?_; (conv => (whnf)))))
        refine endK ⟨[], ⟨rfl, rfl⟩, ?_⟩
        refine fin _ (.mk []) (decide (k ≤ 9999)) ?_ ?_
        · simp [Vl.num] at h3; simp [vt, h3]
        exact Wk.tup (WkL.cons wk_t0 (WkL.cons Wk.rfl WkL.nil))
      · ((conv => (whnf)); (try (refine AnyG.skip ?_; (conv => (whnf)))))
        refine ⟨?_, ?_⟩
        · ((conv => (whnf)); (try (refine AnyG.skip ?_; (conv => (whnf)))))
          rfl
        ((conv => (whnf)); (try (refine AnyG.skip ?_; (conv => (whnf)))))
        refine endK ⟨[], ⟨rfl, rfl⟩, ?_⟩
        refine fin _ (.mk []) false ?_ ?_
        · simp [Vl.num] at h3; simp [vt]; omega
        exact Wk.tup (WkL.cons wk_t0 (WkL.cons Wk.rfl WkL.nil))
    · have hk0 : ks ≠ [] := by rintro rfl; simp [Vl.kids] at h2
      ((conv => (whnf)); (try (refine AnyG.skip ?_; (conv => (whnf)))))
      refine ⟨fun h3 => ?_, fun h3 => ?_⟩
      · have hv : vt (m + 1) (.mk k ks) = (.mk [], false) := by
          match ks, h3, hk0 with
          | [], _, h => exact absurd rfl h
          | [_], _, _ => rfl
          | [_, _], h3, _ => simp [Vl.kids] at h3
          | _ :: _ :: _ :: _, _, _ => rfl
        ((conv => (whnf)); (try (refine AnyG.skip ?_; (conv => (whnf)))))
        refine endK ⟨[], ⟨rfl, rfl⟩, ?_⟩
        exact fin _ (.mk []) false hv (Wk.tup (WkL.cons wk_t0 (WkL.cons Wk.rfl WkL.nil)))
      · obtain ⟨a, b, rfl⟩ : ∃ a b, ks = [a, b] := by
          match ks, h3 with
          | [], h3 => simp [Vl.kids] at h3
          | [_], h3 => simp [Vl.kids] at h3
          | [a, b], _ => exact ⟨a, b, rfl⟩
          | _ :: _ :: _ :: _, h3 => simp [Vl.kids] at h3; omega
        ((conv => (whnf)); (try (refine AnyG.skip ?_; (conv => (whnf)))))
        refine ⟨fun h4 => ?_, fun h4 => ?_⟩
        · have hv : vt (m + 1) (.mk k [a, b]) = (.mk [], false) := by
            simp [Vl.num] at h4
            simp [vt, h4]
          ((conv => (whnf)); (try (refine AnyG.skip ?_; (conv => (whnf)))))
          refine endK ⟨[], ⟨rfl, rfl⟩, ?_⟩
          exact fin _ (.mk []) false hv (Wk.tup (WkL.cons wk_t0 (WkL.cons Wk.rfl WkL.nil)))
        · have hk : k = 0 := by simpa [Vl.num] using h4
          subst hk
          ((conv => (whnf)); (try (refine AnyG.skip ?_; (conv => (whnf)))))
          refine ⟨by omega, dVl a, rfl, ?_⟩
          rw [dVl_eq]
          ((conv => (whnf)); (try (refine AnyG.skip ?_; (conv => (whnf)))))
          refine ⟨lo64 (by omega), hi64 (by omega), ?_⟩
          ((conv => (whnf)); (try (refine AnyG.skip ?_; (conv => (whnf)))))
          refine ⟨_, _, WkL.rfl, WkOs.rfl, a, d - 1, by omega, by omega, by omega, rfl, rfl, ?_⟩
          ((conv => (whnf)); (try (refine AnyG.skip ?_; (conv => (whnf)))))
          refine ⟨Nat.le_of_ble_eq_true rfl, ?_⟩
          ((conv => (whnf)); (try (refine AnyG.skip ?_; (conv => (whnf)))))
          refine ⟨by omega, dVl b, rfl, ?_⟩
          rw [dVl_eq]
          ((conv => (whnf)); (try (refine AnyG.skip ?_; (conv => (whnf)))))
          refine ⟨lo64 (by omega), hi64 (by omega), ?_⟩
          ((conv => (whnf)); (try (refine AnyG.skip ?_; (conv => (whnf)))))
          refine ⟨_, _, WkL.rfl, WkOs.rfl, b, d - 1, by omega, by omega, by omega, rfl, rfl, ?_⟩
          ((conv => (whnf)); (try (refine AnyG.skip ?_; (conv => (whnf)))))
          refine ⟨Nat.le_of_ble_eq_true rfl, ?_⟩
          ((conv => (whnf)); (try (refine AnyG.skip ?_; (conv => (whnf)))))
          rw [hm1]
          refine ⟨fun h5 => ?_, fun h5 => ?_⟩
          · have hv : vt (m + 1) (.mk 0 [a, b]) = (.mk [], false) := by
              simp at h5; simp [vt, h5]
            ((conv => (whnf)); (try (refine AnyG.skip ?_; (conv => (whnf)))))
            refine endK ⟨[], ⟨rfl, rfl⟩, ?_⟩
            exact fin _ (.mk []) false hv (Wk.tup (WkL.cons wk_t0 (WkL.cons Wk.rfl WkL.nil)))
          · ((conv => (whnf)); (try (refine AnyG.skip ?_; (conv => (whnf)))))
            refine ⟨fun h6 => ?_, fun h6 => ?_⟩
            · have hv : vt (m + 1) (.mk 0 [a, b]) = (.mk [], false) := by
                simp at h6; simp [vt, h6]
              ((conv => (whnf)); (try (refine AnyG.skip ?_; (conv => (whnf)))))
              refine endK ⟨[], ⟨rfl, rfl⟩, ?_⟩
              exact fin _ (.mk []) false hv (Wk.tup (WkL.cons wk_t0 (WkL.cons Wk.rfl WkL.nil)))
            · have hv : vt (m + 1) (.mk 0 [a, b]) = (.mk [(vt m a).1, (vt m b).1], true) := by
                simp at h5 h6; simp [vt, h5, h6]
              ((conv => (whnf)); (try (refine AnyG.skip ?_; (conv => (whnf)))))
              left
              ((conv => (whnf)); (try (refine AnyG.skip ?_; (conv => (whnf)))))
              refine endK ⟨[], ⟨rfl, rfl⟩, ?_⟩
              refine fin _ _ true hv (Wk.tup (WkL.cons (Wk.agg (WkL.cons (Wk.d (DW.sf.trans (DW.sl ?_))) WkL.nil)) (WkL.cons Wk.rfl WkL.nil)))
              exact ⟨by rw [dTy_eq], by rw [dTy_eq]; exact DWL.rfl, by rw [dTy_eq], by rw [dTy_eq]; exact DWL.rfl, trivial⟩

/-- impl.valTyped -/
def S_i_valTyped : Spec := fun args O Q => ∃ (v : Vl), args = [aVl v] ∧ O = [] ∧ Q (.tup [aTy (vt 4 v).1, bv (vt 4 v).2]) []
theorem v_i_valTyped {B : World} : Valid PG B i_valTyped S_i_valTyped := by
  refine valid_of (Γ := [(i_valType, ⟨[], S_i_valType 10⟩)]) wide tok (AllValid.nil.cons (v_i_valType 10)) g_i_valTyped rfl rfl ?_
  rintro _ _ Q ⟨v, rfl, rfl, hQ⟩
  ((conv => (whnf)); (try (refine AnyG.skip ?_; (conv => (whnf)))))
  refine ⟨_, _, WkL.rfl, WkOs.rfl, v, 4, by omega, by omega, by omega, rfl, rfl, ?_⟩
  ((conv => (whnf)); (try (refine AnyG.skip ?_; (conv => (whnf)))))
  refine ⟨Nat.le_of_ble_eq_true rfl, ?_⟩
  ((conv => (whnf)); (try (refine AnyG.skip ?_; (conv => (whnf)))))
  refine endK ⟨[], ⟨rfl, rfl⟩, ?_⟩
  ((conv => (whnf)); (try (refine AnyG.skip ?_; (conv => (whnf)))))
  exact ⟨_, _, Wk.rfl, WkOs.rfl, hQ⟩
end Ab
