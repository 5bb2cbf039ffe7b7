/- Contracts of functions of the program, by the frame 'Ab'. -/
import Derived.Test.YtnhjclenankhoaaDoorFrLt
set_option linter.all false
namespace Ab
open Go Go.Proofs
set_option maxRecDepth 10000
set_option maxHeartbeats 4000000
set_option linter.unusedSimpArgs false
set_option linter.unusedVariables false

/-- the text of a value -/
def vw : Nat → Vl → List UInt8
  | 0, _ => []
  | d + 1, .mk n [] => Lib.itoa n
  | d + 1, .mk _ [a, b] => (([40] ++ vw d a) ++ [44]) ++ vw d b ++ [41]
  | d + 1, .mk _ _ => []

theorem itoa_len {n : Int} (h0 : 0 ≤ n) (h1 : n ≤ 9999) : (Lib.itoa n).length ≤ 4 := by
  unfold Lib.itoa
  rw [if_neg (by omega)]
  exact dec_len 3 _ (by omega)

def Lw : Nat → Nat
  | 0 => 4
  | d + 1 => 2 * Lw d + 3
theorem Lw_pos : ∀ d, 4 ≤ Lw d
  | 0 => by simp [Lw]
  | d + 1 => by have := Lw_pos d; simp [Lw]; omega

theorem vt_kids {d : Nat} {n : Int} {ks : List Vl} (h : (vt d (.mk n ks)).2 = true) : ∃ j, d = j + 1 ∧ ((ks = [] ∧ 0 ≤ n ∧ n ≤ 9999) ∨ ∃ a b, ks = [a, b] ∧ n = 0 ∧ (vt j a).2 = true ∧ (vt j b).2 = true) := by
  match d, ks with
  | 0, _ => simp [vt] at h
  | j + 1, [] => simp [vt] at h; exact ⟨j, rfl, .inl ⟨rfl, h⟩⟩
  | j + 1, [a, b] =>
    refine ⟨j, rfl, .inr ⟨a, b, rfl, ?_⟩⟩
    by_cases hn : n = 0
    · simp only [vt, hn, if_true] at h
      split at h
      · rename_i hc
        simp only [Bool.and_eq_true] at hc
        exact ⟨hn, hc.1, hc.2⟩
      · cases h
    · simp [vt, hn] at h
  | j + 1, [_] => simp [vt] at h
  | j + 1, _ :: _ :: _ :: _ => simp [vt] at h

theorem vw_len : ∀ (d : Nat) (v : Vl), (vt d v).2 = true → (vw d v).length ≤ Lw d
  | d, .mk n ks, h => by
    obtain ⟨j, rfl, ⟨rfl, h0, h1⟩ | ⟨a, b, rfl, _, h1, h2⟩⟩ := vt_kids h
    · have := itoa_len h0 h1
      have := Lw_pos (j + 1)
      simp only [vw]; omega
    · have := vw_len j a h1
      have := vw_len j b h2
      simp [vw, Lw]; omega

/-- impl.valWords -/
def S_i_valWords (n : Nat) : Spec := fun args O Q => ∃ (m : Nat) (v : Vl), m < n ∧ n ≤ 10 ∧ (vt m v).2 = true ∧ args = [aVl v] ∧ O = [] ∧ Q (.d (.s (vw m v))) []
theorem Lw_le {m : Nat} (h : m < 10) : Lw m ≤ 10000 := by
  have : ∀ m, m < 10 → Lw m ≤ 10000 := by decide
  exact this m h
theorem v_i_valWords {B : World} (hB : Tabs B) : ∀ n, Valid PG B i_valWords (S_i_valWords n) := by
  refine valid_lt (fun args O Q ⟨m, t, h1, _⟩ => by omega) fun n ih => ?_
  refine valid_of (Γ := [(i_valWords, ⟨[], S_i_valWords n⟩), (x_strconv_Itoa, ⟨[], S_x_strconv_Itoa⟩)]) wide tok ((AllValid.nil.cons (v_x_strconv_Itoa hB)).cons ih) g_i_valWords rfl rfl ?_
  rintro _ _ Q ⟨m, ⟨k, ks⟩, hm, hn, hok, rfl, rfl, hQ⟩
  obtain ⟨j, rfl, ⟨rfl, h0, h1⟩ | ⟨a, b, rfl, _, h1, h2⟩⟩ := vt_kids hok
  · ((conv => (whnf)); (try (refine AnyG.skip ?_; (conv => (whnf)))))
    refine ⟨fun h => ?_, fun h => by simp [Vl.kids] at h⟩
    ((conv => (whnf)); (try (refine AnyG.skip ?_; (conv => (whnf)))))
    refine ⟨_, _, WkL.rfl, WkOs.rfl, k, by omega, by omega, rfl, ?_⟩
    ((conv => (whnf)); (try (refine AnyG.skip ?_; (conv => (whnf)))))
    refine ⟨Nat.le_of_ble_eq_true rfl, ?_⟩
    ((conv => (whnf)); (try (refine AnyG.skip ?_; (conv => (whnf)))))
    refine endK ⟨[], ⟨rfl, rfl⟩, ?_⟩
    exact ⟨_, _, Wk.rfl, WkOs.rfl, hQ⟩
  · have l1 := vw_len j a h1
    have l2 := vw_len j b h2
    have l3 := Lw_le (m := j) (by omega)
    ((conv => (whnf)); (try (refine AnyG.skip ?_; (conv => (whnf)))))
    refine ⟨fun h => by simp [Vl.kids] at h, fun h => ?_⟩
    ((conv => (whnf)); (try (refine AnyG.skip ?_; (conv => (whnf)))))
    refine ⟨by omega, dVl a, rfl, ?_⟩
    rw [dVl_eq]
    ((conv => (whnf)); (try (refine AnyG.skip ?_; (conv => (whnf)))))
    refine ⟨by omega, dVl b, rfl, ?_⟩
    rw [dVl_eq]
    ((conv => (whnf)); (try (refine AnyG.skip ?_; (conv => (whnf)))))
    refine ⟨_, _, WkL.rfl, WkOs.rfl, j, a, by omega, by omega, h1, rfl, rfl, ?_⟩
    ((conv => (whnf)); (try (refine AnyG.skip ?_; (conv => (whnf)))))
    refine ⟨Nat.le_of_ble_eq_true rfl, ?_⟩
    ((conv => (whnf)); (try (refine AnyG.skip ?_; (conv => (whnf)))))
    refine ⟨by ((conv => (whnf)); (try (refine AnyG.skip ?_; (conv => (whnf)))))
               exact Wk.rfl, ?_⟩
    ((conv => (whnf)); (try (refine AnyG.skip ?_; (conv => (whnf)))))
    refine ⟨by ((conv => (whnf)); (try (refine AnyG.skip ?_; (conv => (whnf)))))
               refine ⟨by omega, dVl b, rfl, ?_⟩
               rw [dVl_eq]
               ((conv => (whnf)); (try (refine AnyG.skip ?_; (conv => (whnf)))))
               exact Wk.rfl, ?_⟩
    ((conv => (whnf)); (try (refine AnyG.skip ?_; (conv => (whnf)))))
    refine ⟨by ((conv => (whnf)); (try (refine AnyG.skip ?_; (conv => (whnf)))))
               exact Wk.rfl, ?_⟩
    ((conv => (whnf)); (try (refine AnyG.skip ?_; (conv => (whnf)))))
    refine ⟨by simp; omega, ?_⟩
    ((conv => (whnf)); (try (refine AnyG.skip ?_; (conv => (whnf)))))
    refine ⟨by simp; omega, ?_⟩
    ((conv => (whnf)); (try (refine AnyG.skip ?_; (conv => (whnf)))))
    refine ⟨_, _, WkL.rfl, WkOs.rfl, j, b, by omega, by omega, h2, rfl, rfl, ?_⟩
    ((conv => (whnf)); (try (refine AnyG.skip ?_; (conv => (whnf)))))
    refine ⟨Nat.le_of_ble_eq_true rfl, ?_⟩
    ((conv => (whnf)); (try (refine AnyG.skip ?_; (conv => (whnf)))))
    refine ⟨by simp; omega, ?_⟩
    ((conv => (whnf)); (try (refine AnyG.skip ?_; (conv => (whnf)))))
    refine ⟨by simp; omega, ?_⟩
    ((conv => (whnf)); (try (refine AnyG.skip ?_; (conv => (whnf)))))
    refine endK ⟨[], ⟨rfl, rfl⟩, ?_⟩
    exact ⟨_, _, Wk.rfl, WkOs.rfl, hQ⟩

/-- impl.ValText -/
def valText (v : Vl) : List UInt8 := bif (vt 4 v).2 then vw 4 v else []
def S_i_ValText : Spec := fun args O Q => ∃ (v : Vl), args = [aVl v] ∧ O = [] ∧ Q (.d (.s (valText v))) []
theorem v_i_ValText {B : World} (hB : Tabs B) : Valid PG B i_ValText S_i_ValText := by
  refine valid_of (Γ := [(i_valTyped, ⟨[], S_i_valTyped⟩), (i_valWords, ⟨[], S_i_valWords 10⟩)]) wide tok ((AllValid.nil.cons (v_i_valWords hB 10)).cons v_i_valTyped) g_i_ValText rfl rfl ?_
  rintro _ _ Q ⟨v, rfl, rfl, hQ⟩
  ((conv => (whnf)); (try (refine AnyG.skip ?_; (conv => (whnf)))))
  refine ⟨_, _, WkL.rfl, WkOs.rfl, v, rfl, rfl, ?_⟩
  ((conv => (whnf)); (try (refine AnyG.skip ?_; (conv => (whnf)))))
  refine ⟨Nat.le_of_ble_eq_true rfl, ?_⟩
  ((conv => (whnf)); (try (refine AnyG.skip ?_; (conv => (whnf)))))
  refine ⟨fun h => ?_, fun h => ?_⟩
  · ((conv => (whnf)); (try (refine AnyG.skip ?_; (conv => (whnf)))))
    refine endK ⟨[], ⟨rfl, rfl⟩, ?_⟩
    refine ⟨_, _, Wk.of_eq ?_, WkOs.rfl, hQ⟩
    simp at h; simp [valText, h]
  · ((conv => (whnf)); (try (refine AnyG.skip ?_; (conv => (whnf)))))
    have h' : (vt 4 v).2 = true := by simpa using h
    refine ⟨_, _, WkL.rfl, WkOs.rfl, 4, v, by omega, by omega, h', rfl, rfl, ?_⟩
    ((conv => (whnf)); (try (refine AnyG.skip ?_; (conv => (whnf)))))
    refine ⟨Nat.le_of_ble_eq_true rfl, ?_⟩
    ((conv => (whnf)); (try (refine AnyG.skip ?_; (conv => (whnf)))))
    refine endK ⟨[], ⟨rfl, rfl⟩, ?_⟩
    refine ⟨_, _, Wk.of_eq ?_, WkOs.rfl, hQ⟩
    simp [valText, h']
end Ab
