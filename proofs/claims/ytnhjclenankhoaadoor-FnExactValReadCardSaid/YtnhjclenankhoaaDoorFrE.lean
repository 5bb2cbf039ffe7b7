/- Contracts of functions of the program, by the frame 'Ab'. -/
import Derived.Test.YtnhjclenankhoaaDoorV1
set_option linter.all false
namespace Ab
open Go Go.Proofs
set_option maxRecDepth 10000
set_option maxHeartbeats 4000000
set_option linter.unusedSimpArgs false
set_option linter.unusedVariables false

/-- impl.typeSame -/
def S_i_typeSame (n : Nat) : Spec := fun args O Q => ∃ (m : Nat) (a b : Ty), m < n ∧ tyOk m a = true ∧ args = [aTy a, aTy b] ∧ O = [] ∧ Q (bv (sameTy a b)) []

theorem v_i_typeSame {B : World} : ∀ n, Valid PG B i_typeSame (S_i_typeSame n) := by
  refine valid_lt (fun args O Q ⟨m, a, b, h1, _⟩ => by omega) fun n ih => ?_
  refine valid_of (Γ := [(i_typeSame, ⟨[], S_i_typeSame n⟩)]) wide tok (AllValid.nil.cons ih) g_i_typeSame rfl rfl ?_
  rintro _ _ Q ⟨m, ⟨xs⟩, ⟨ys⟩, hm, hok, rfl, rfl, hQ⟩
  obtain ⟨j, rfl, hlen, hks⟩ := tyOk_kids hok
  rw [sameTy_mk] at hQ
  have fin : ∀ (b : Bool), sameTys xs ys = b → wkQ Q (bv b) [] := fun b hb => ⟨_, _, Wk.rfl, WkOs.rfl, hb ▸ hQ⟩
  ((conv => (whnf)); (try (refine AnyG.skip ?_; (conv => (whnf)))))
  refine ⟨fun h => ?_, fun h => ?_⟩
  · ((conv => (whnf)); (try (refine AnyG.skip ?_; (conv => (whnf)))))
    refine endK ⟨[], ⟨rfl, rfl⟩, ?_⟩
    refine fin _ ?_
    cases hs : sameTys xs ys with
    | false => rfl
    | true => have := sameTys_len hs; simp [Ty.kids, this] at h
  · have hl : xs.length = ys.length := by simp [Ty.kids] at h; omega
    ((conv => (whnf)); (try (refine AnyG.skip ?_; (conv => (whnf)))))
    refine ⟨[], Int, fun i => 0 ≤ i ∧ i ≤ xs.length ∧ sameTys (xs.take i.toNat) (ys.take i.toNat) = true, fun i => (xs.length - i).toNat, fun i => [(16, iv i)],
      fun _ => [.cells [.d (.sl 1 (xs.map dTy))], .cells [.d (.sl 1 (ys.map dTy))]], 0, ⟨by omega, by omega, by simp [sameTys]⟩, ?_⟩
    ((conv => (whnf)); (try (refine AnyG.skip ?_; (conv => (whnf)))))
    refine ⟨⟨rfl, rfl, WkOs.rfl, ⟨Wk.rfl, trivial⟩, rfl⟩, ?_⟩
    intro i ⟨hi0, hi1, hi2⟩
    ((conv => (whnf)); (try (refine AnyG.skip ?_; (conv => (whnf)))))
    refine ⟨fun h4 => ?_, fun h4 => ?_⟩
    · simp [Ty.kids] at h4
      have hlt : i.toNat < xs.length := by omega
      have hlt2 : i.toNat < ys.length := by omega
      ((conv => (whnf)); (try (refine AnyG.skip ?_; (conv => (whnf)))))
      refine ⟨hi0, dTy xs[i.toNat], by simp [Ty.kids, hlt], ?_⟩
      rw [dTy_eq]
      ((conv => (whnf)); (try (refine AnyG.skip ?_; (conv => (whnf)))))
      refine ⟨hi0, dTy ys[i.toNat], by simp [Ty.kids, hlt2], ?_⟩
      rw [dTy_eq]
      ((conv => (whnf)); (try (refine AnyG.skip ?_; (conv => (whnf)))))
      refine ⟨_, _, WkL.rfl, WkOs.rfl, j, xs[i.toNat], ys[i.toNat], by omega, hks _ (List.getElem_mem _), rfl, rfl, ?_⟩
      ((conv => (whnf)); (try (refine AnyG.skip ?_; (conv => (whnf)))))
      refine ⟨Nat.le_of_ble_eq_true rfl, ?_⟩
      ((conv => (whnf)); (try (refine AnyG.skip ?_; (conv => (whnf)))))
      refine ⟨fun h5 => ?_, fun h5 => ?_⟩
      · ((conv => (whnf)); (try (refine AnyG.skip ?_; (conv => (whnf)))))
        refine endK ⟨[], ⟨rfl, rfl⟩, ?_⟩
        refine fin _ ?_
        cases hs : sameTys xs ys with
        | false => rfl
        | true => rw [sameTys_get _ hlt hlt2 hs] at h5; cases h5
      · ((conv => (whnf)); (try (refine AnyG.skip ?_; (conv => (whnf)))))
        refine ⟨lo64 (by omega), hi64 (by omega), ?_⟩
        ((conv => (whnf)); (try (refine AnyG.skip ?_; (conv => (whnf)))))
        refine ⟨i + 1, ⟨by omega, by omega, ?_⟩, by dsimp only; omega, [], Meet.mk rfl rfl WkOs.rfl ⟨Wk.rfl, trivial⟩ rfl⟩
        have e : (i + 1).toNat = i.toNat + 1 := by omega
        rw [e]
        exact sameTys_step _ hlt hlt2 hi2 (by simpa using h5)
    · ((conv => (whnf)); (try (refine AnyG.skip ?_; (conv => (whnf)))))
      refine endK ⟨[], ⟨rfl, rfl⟩, ?_⟩
      refine fin _ ?_
      have : i.toNat = xs.length := by simp [Ty.kids] at h4; omega
      rw [this, List.take_length, hl, List.take_length] at hi2
      exact hi2

theorem vt_ok : ∀ (d : Nat) (v : Vl), (vt d v).2 = true → tyOk d (vt d v).1 = true
  | 0, v, h => by simp [vt] at h
  | d + 1, .mk n [], h => by simp [vt, tyOk]
  | d + 1, .mk n [a, b], h => by
    by_cases hn : n = 0
    · simp only [vt, hn, if_true] at h ⊢
      split at h
      · rename_i hc
        rw [if_pos hc]
        simp only [Bool.and_eq_true] at hc
        simp [tyOk, vt_ok d a hc.1, vt_ok d b hc.2]
      · cases h
    · simp [vt, hn] at h
  | d + 1, .mk n [_], h => by simp [vt] at h
  | d + 1, .mk n (_ :: _ :: _ :: _), h => by simp [vt] at h

def valOk (t : Ty) (v : Vl) : Bool := tyOk 4 t && ((vt 4 v).2 && sameTy (vt 4 v).1 t)
/-- impl.ValOk -/
def S_i_ValOk : Spec := fun args O Q => ∃ (t : Ty) (v : Vl), args = [aTy t, aVl v] ∧ O = [] ∧ Q (bv (valOk t v)) []
theorem v_i_ValOk {B : World} : Valid PG B i_ValOk S_i_ValOk := by
  refine valid_of (Γ := [(i_TypeOk, ⟨[], STypeOk⟩), (i_valTyped, ⟨[], S_i_valTyped⟩), (i_typeSame, ⟨[], S_i_typeSame 10⟩)]) wide tok (((AllValid.nil.cons (v_i_typeSame 10)).cons v_i_valTyped).cons v_i_TypeOk) g_i_ValOk rfl rfl ?_
  rintro _ _ Q ⟨t, v, rfl, rfl, hQ⟩
  have fin : ∀ (b : Bool), valOk t v = b → wkQ Q (bv b) [] := fun b hb => ⟨_, _, Wk.rfl, WkOs.rfl, hb ▸ hQ⟩
  ((conv => (whnf)); (try (refine AnyG.skip ?_; (conv => (whnf)))))
  refine ⟨_, _, WkL.rfl, WkOs.rfl, t, rfl, rfl, ?_⟩
  ((conv => (whnf)); (try (refine AnyG.skip ?_; (conv => (whnf)))))
  refine ⟨Nat.le_of_ble_eq_true rfl, ?_⟩
  ((conv => (whnf)); (try (refine AnyG.skip ?_; (conv => (whnf)))))
  refine ⟨fun h => ?_, fun h => ?_⟩
  · ((conv => (whnf)); (try (refine AnyG.skip ?_; (conv => (whnf)))))
    refine endK ⟨[], ⟨rfl, rfl⟩, ?_⟩
    refine fin _ ?_
    simp at h; simp [valOk, h]
  · simp at h
    ((conv => (whnf)); (try (refine AnyG.skip ?_; (conv => (whnf)))))
    refine ⟨_, _, WkL.rfl, WkOs.rfl, v, rfl, rfl, ?_⟩
    ((conv => (whnf)); (try (refine AnyG.skip ?_; (conv => (whnf)))))
    refine ⟨Nat.le_of_ble_eq_true rfl, ?_⟩
    ((conv => (whnf)); (try (refine AnyG.skip ?_; (conv => (whnf)))))
    refine ⟨fun h2 => ?_, fun h2 => ?_⟩
    · ((conv => (whnf)); (try (refine AnyG.skip ?_; (conv => (whnf)))))
      refine ⟨_, _, WkL.rfl, WkOs.rfl, 4, (vt 4 v).1, t, by omega, vt_ok 4 v h2, rfl, rfl, ?_⟩
      ((conv => (whnf)); (try (refine AnyG.skip ?_; (conv => (whnf)))))
      refine ⟨Nat.le_of_ble_eq_true rfl, ?_⟩
      ((conv => (whnf)); (try (refine AnyG.skip ?_; (conv => (whnf)))))
      refine endK ⟨[], ⟨rfl, rfl⟩, ?_⟩
      refine fin _ ?_
      simp [valOk, h, h2]
    · ((conv => (whnf)); (try (refine AnyG.skip ?_; (conv => (whnf)))))
      refine endK ⟨[], ⟨rfl, rfl⟩, ?_⟩
      refine fin _ ?_
      simp [valOk, h, h2]

mutual
def sameVl : Vl → Vl → Bool
  | .mk m xs, .mk n ys => m == n && sameVls xs ys
def sameVls : List Vl → List Vl → Bool
  | [], [] => true
  | a :: xs, b :: ys => sameVl a b && sameVls xs ys
  | _, _ => false
end
theorem sameVl_mk (m n : Int) (xs ys : List Vl) : sameVl (.mk m xs) (.mk n ys) = (m == n && sameVls xs ys) := by simp [sameVl]
theorem sameVls_len : ∀ {xs ys : List Vl}, sameVls xs ys = true → xs.length = ys.length
  | [], [], _ => rfl
  | a :: xs, b :: ys, h => by simp [sameVls] at h; simp [sameVls_len h.2]
  | [], _ :: _, h => by simp [sameVls] at h
  | _ :: _, [], h => by simp [sameVls] at h
theorem sameVls_get : ∀ {xs ys : List Vl} (i : Nat) (h1 : i < xs.length) (h2 : i < ys.length), sameVls xs ys = true → sameVl xs[i] ys[i] = true
  | a :: xs, b :: ys, 0, _, _, h => by simp [sameVls] at h; exact h.1
  | a :: xs, b :: ys, i + 1, h1, h2, h => by simp [sameVls] at h; exact sameVls_get i (by simpa using h1) (by simpa using h2) h.2
theorem sameVls_step : ∀ {xs ys : List Vl} (i : Nat) (h1 : i < xs.length) (h2 : i < ys.length), sameVls (xs.take i) (ys.take i) = true → sameVl xs[i] ys[i] = true → sameVls (xs.take (i + 1)) (ys.take (i + 1)) = true
  | a :: xs, b :: ys, 0, _, _, _, h => by simpa [sameVls] using h
  | a :: xs, b :: ys, i + 1, h1, h2, h, h' => by
    simp [sameVls] at h ⊢
    exact ⟨h.1, sameVls_step i (by simpa using h1) (by simpa using h2) h.2 h'⟩

/-- no node has more than so many kids, and it is at most so deep -/
def vlB : Nat → Vl → Prop
  | 0, _ => False
  | d + 1, .mk _ ks => ks.length ≤ 1000000 ∧ ∀ k ∈ ks, vlB d k

/-- laws.lhVal -/
def S_l_lhVal (n : Nat) : Spec := fun args O Q => ∃ (m : Nat) (a b : Vl), m < n ∧ vlB m a ∧ args = [aVl a, aVl b] ∧ O = [] ∧ Q (bv (sameVl a b)) []
theorem v_l_lhVal {B : World} : ∀ n, Valid PG B l_lhVal (S_l_lhVal n) := by
  refine valid_lt (fun args O Q ⟨m, a, b, h1, _⟩ => by omega) fun n ih => ?_
  refine valid_of (Γ := [(l_lhVal, ⟨[], S_l_lhVal n⟩)]) wide tok (AllValid.nil.cons ih) g_l_lhVal rfl rfl ?_
  rintro _ _ Q ⟨m, ⟨k, xs⟩, ⟨l, ys⟩, hm, hok, rfl, rfl, hQ⟩
  obtain ⟨j, rfl⟩ : ∃ j, m = j + 1 := by
    cases m with
    | zero => exact hok.elim
    | succ j => exact ⟨j, rfl⟩
  obtain ⟨hlen, hks⟩ := hok
  rw [sameVl_mk] at hQ
  have fin : ∀ (b : Bool), (k == l && sameVls xs ys) = b → wkQ Q (bv b) [] := fun b hb => ⟨_, _, Wk.rfl, WkOs.rfl, hb ▸ hQ⟩
  ((conv => (whnf)); (try (refine AnyG.skip ?_; (conv => (whnf)))))
  refine ⟨fun h => ?_, fun h => ?_⟩
  · ((conv => (whnf)); (try (refine AnyG.skip ?_; (conv => (whnf)))))
    refine endK ⟨[], ⟨rfl, rfl⟩, ?_⟩
    refine fin _ ?_
    simp [Vl.num] at h; simp [h]
  · have hk : k = l := by simpa [Vl.num] using h
    ((conv => (whnf)); (try (refine AnyG.skip ?_; (conv => (whnf)))))
    refine ⟨fun h2 => ?_, fun h2 => ?_⟩
    · ((conv => (whnf)); (try (refine AnyG.skip ?_; (conv => (whnf)))))
      refine endK ⟨[], ⟨rfl, rfl⟩, ?_⟩
      refine fin _ ?_
      cases hs : sameVls xs ys with
      | false => simp
      | true => have := sameVls_len hs; simp [Vl.kids, this] at h2
    · have hl : xs.length = ys.length := by simp [Vl.kids] at h2; omega
      ((conv => (whnf)); (try (refine AnyG.skip ?_; (conv => (whnf)))))
      refine ⟨[], Int, fun i => 0 ≤ i ∧ i ≤ xs.length ∧ sameVls (xs.take i.toNat) (ys.take i.toNat) = true, fun i => (xs.length - i).toNat, fun i => [(5, iv i)],
        fun _ => [.cells [iv k, .d (.sl 2 (xs.map dVl))], .cells [iv l, .d (.sl 2 (ys.map dVl))]], 0, ⟨by omega, by omega, by simp [sameVls]⟩, ?_⟩
      ((conv => (whnf)); (try (refine AnyG.skip ?_; (conv => (whnf)))))
      refine ⟨⟨rfl, rfl, WkOs.rfl, ⟨Wk.rfl, trivial⟩, rfl⟩, ?_⟩
      intro i ⟨hi0, hi1, hi2⟩
      ((conv => (whnf)); (try (refine AnyG.skip ?_; (conv => (whnf)))))
      refine ⟨fun h4 => ?_, fun h4 => ?_⟩
      · simp [Vl.kids] at h4
        have hlt : i.toNat < xs.length := by omega
        have hlt2 : i.toNat < ys.length := by omega
        ((conv => (whnf)); (try (refine AnyG.skip ?_; (conv => (whnf)))))
        refine ⟨hi0, dVl xs[i.toNat], by simp [Vl.kids, hlt], ?_⟩
        rw [dVl_eq]
        ((conv => (whnf)); (try (refine AnyG.skip ?_; (conv => (whnf)))))
        refine ⟨hi0, dVl ys[i.toNat], by simp [Vl.kids, hlt2], ?_⟩
        rw [dVl_eq]
        ((conv => (whnf)); (try (refine AnyG.skip ?_; (conv => (whnf)))))
        refine ⟨_, _, WkL.rfl, WkOs.rfl, j, xs[i.toNat], ys[i.toNat], by omega, hks _ (List.getElem_mem _), rfl, rfl, ?_⟩
        ((conv => (whnf)); (try (refine AnyG.skip ?_; (conv => (whnf)))))
        refine ⟨Nat.le_of_ble_eq_true rfl, ?_⟩
        ((conv => (whnf)); (try (refine AnyG.skip ?_; (conv => (whnf)))))
        refine ⟨fun h5 => ?_, fun h5 => ?_⟩
        · ((conv => (whnf)); (try (refine AnyG.skip ?_; (conv => (whnf)))))
          refine endK ⟨[], ⟨rfl, rfl⟩, ?_⟩
          refine fin _ ?_
          cases hs : sameVls xs ys with
          | false => simp
          | true => rw [sameVls_get _ hlt hlt2 hs] at h5; cases h5
        · ((conv => (whnf)); (try (refine AnyG.skip ?_; (conv => (whnf)))))
          refine ⟨lo64 (by omega), hi64 (by omega), ?_⟩
          ((conv => (whnf)); (try (refine AnyG.skip ?_; (conv => (whnf)))))
          refine ⟨i + 1, ⟨by omega, by omega, ?_⟩, by dsimp only; omega, [], Meet.mk rfl rfl WkOs.rfl ⟨Wk.rfl, trivial⟩ rfl⟩
          have e : (i + 1).toNat = i.toNat + 1 := by omega
          rw [e]
          exact sameVls_step _ hlt hlt2 hi2 (by simpa using h5)
      · ((conv => (whnf)); (try (refine AnyG.skip ?_; (conv => (whnf)))))
        refine endK ⟨[], ⟨rfl, rfl⟩, ?_⟩
        refine fin _ ?_
        have : i.toNat = xs.length := by simp [Vl.kids] at h4; omega
        rw [this, List.take_length, hl, List.take_length] at hi2
        simp [hk, hi2]
end Ab

namespace Ab
open Go Go.Proofs
set_option maxRecDepth 10000
set_option maxHeartbeats 4000000
set_option linter.unusedSimpArgs false
set_option linter.unusedVariables false

def nought : Ty → Vl
  | .mk ks => .mk 0 (ks.map nought)
theorem nought_mk (ks : List Ty) : nought (.mk ks) = .mk 0 (ks.map nought) := by simp [nought]

/-- laws.lhNought -/
def S_l_lhNought (n : Nat) : Spec := fun args O Q => ∃ (m : Nat) (t : Ty), m < n ∧ tyOk m t = true ∧ args = [aTy t] ∧ O = [] ∧ Q (aVl (nought t)) []
theorem v_l_lhNought {B : World} : ∀ n, Valid PG B l_lhNought (S_l_lhNought n) := by
  refine valid_lt (fun args O Q ⟨m, t, h1, _⟩ => by omega) fun n ih => ?_
  refine valid_of (Γ := [(l_lhNought, ⟨[], S_l_lhNought n⟩)]) wide tok (AllValid.nil.cons ih) g_l_lhNought rfl rfl ?_
  rintro _ _ Q ⟨m, ⟨ks⟩, hm, hok, rfl, rfl, hQ⟩
  obtain ⟨j, rfl, hlen, hks⟩ := tyOk_kids hok
  rw [nought_mk] at hQ
  ((conv => (whnf)); (try (refine AnyG.skip ?_; (conv => (whnf)))))
  refine ⟨[.cell 2 1 2], Int, fun i => 0 ≤ i ∧ i ≤ ks.length, fun i => (ks.length - i).toNat, fun i => [(4, iv i)],
    fun i => [.cells [.d (.sl 1 (ks.map dTy))], .cells [iv 0, .d (.v (.slice none 0 0))], .cells [iv 0, .row 3 1], .row 1 true 2 ((ks.take i.toNat).map fun k => dVl (nought k))], 0, ⟨by omega, by omega⟩, ?_⟩
  ((conv => (whnf)); (try (refine AnyG.skip ?_; (conv => (whnf)))))
  refine ⟨⟨rfl, rfl, WkOs.rfl, ⟨Wk.rfl, trivial⟩, rfl⟩, ?_⟩
  intro i ⟨hi0, hi1⟩
  ((conv => (whnf)); (try (refine AnyG.skip ?_; (conv => (whnf)))))
  refine ⟨fun h4 => ?_, fun h4 => ?_⟩
  · simp [Ty.kids] at h4
    have hlt : i.toNat < ks.length := by omega
    ((conv => (whnf)); (try (refine AnyG.skip ?_; (conv => (whnf)))))
    refine ⟨hi0, dTy ks[i.toNat], by simp [Ty.kids, hlt], ?_⟩
    rw [dTy_eq]
    ((conv => (whnf)); (try (refine AnyG.skip ?_; (conv => (whnf)))))
    refine ⟨_, _, WkL.rfl, WkOs.rfl, j, ks[i.toNat], by omega, hks _ (List.getElem_mem _), rfl, rfl, ?_⟩
    ((conv => (whnf)); (try (refine AnyG.skip ?_; (conv => (whnf)))))
    refine ⟨Nat.le_of_ble_eq_true rfl, ?_⟩
    ((conv => (whnf)); (try (refine AnyG.skip ?_; (conv => (whnf)))))
    refine ⟨by ((conv => (whnf)); (try (refine AnyG.skip ?_; (conv => (whnf)))))
               exact Wk.rfl, ?_⟩
    ((conv => (whnf)); (try (refine AnyG.skip ?_; (conv => (whnf)))))
    left
    ((conv => (whnf)); (try (refine AnyG.skip ?_; (conv => (whnf)))))
    refine ⟨by ((conv => (whnf)); (try (refine AnyG.skip ?_; (conv => (whnf)))))
               exact Wk.rfl, ?_⟩
    ((conv => (whnf)); (try (refine AnyG.skip ?_; (conv => (whnf)))))
    refine ⟨by simp [maxRow]; omega, ?_⟩
    ((conv => (whnf)); (try (refine AnyG.skip ?_; (conv => (whnf)))))
    refine ⟨lo64 (by omega), hi64 (by omega), ?_⟩
    ((conv => (whnf)); (try (refine AnyG.skip ?_; (conv => (whnf)))))
    refine ⟨i + 1, ⟨by omega, by omega⟩, by dsimp only; omega, [], Meet.mk rfl rfl ⟨WkO.rfl, WkO.rfl, WkO.rfl, .inr ⟨rfl, rfl, rfl, ?_⟩, trivial⟩ ⟨Wk.rfl, trivial⟩ rfl⟩
    have e : (i + 1).toNat = i.toNat + 1 := by omega
    rw [e, List.take_add_one, List.map_append]
    simp only [List.getElem?_eq_getElem hlt]
    exact DWRows.app DWRows.rfl ⟨by dsimp only; rw [dVl_eq], by dsimp only; rw [dVl_eq]; exact DWL.rfl, trivial⟩
  · ((conv => (whnf)); (try (refine AnyG.skip ?_; (conv => (whnf)))))
    refine endK ⟨[], ⟨rfl, rfl⟩, ?_⟩
    ((conv => (whnf)); (try (refine AnyG.skip ?_; (conv => (whnf)))))
    refine ⟨_, _, Wk.of_eq ?_, WkOs.rfl, hQ⟩
    have e : i.toNat = ks.length := by simp [Ty.kids] at h4; omega
    rw [e, List.take_length]
    simp [Vl.num, Vl.kids, Function.comp_def]
/-- spec.DrawTypeOk -/
def S_s_DrawTypeOk : Spec := fun args O Q => ∃ (l : List UInt8), args = [.d (.sl 1 (byteRows l))] ∧ O = [] ∧ ∀ (t : Ty), t.kids.length ≤ 3 → Q (aTy t) []
theorem v_s_DrawTypeOk {B : World} : Valid PG B s_DrawTypeOk S_s_DrawTypeOk := by
  refine valid_of (Γ := [(s_l71Deep, ⟨[], S_s_l71Deep⟩), (s_l6Open, ⟨[], SOpen⟩)]) wide tok ((AllValid.nil.cons v_s_l6Open).cons v_s_l71Deep) g_s_DrawTypeOk rfl rfl ?_
  rintro _ _ Q ⟨l, rfl, rfl, hQ⟩
  ((conv => (whnf)); (try (refine AnyG.skip ?_; (conv => (whnf)))))
  refine ⟨_, _, WkL.rfl, WkOs.rfl, l, rfl, rfl, ?_⟩
  ((conv => (whnf)); (try (refine AnyG.skip ?_; (conv => (whnf)))))
  refine ⟨Nat.le_of_ble_eq_true rfl, ?_⟩
  ((conv => (whnf)); (try (refine AnyG.skip ?_; (conv => (whnf)))))
  refine ⟨_, _, WkL.rfl, WkOs.rfl, l.take 2000, by simp; omega, rfl, rfl, ?_⟩
  intro t p' ht
  ((conv => (whnf)); (try (refine AnyG.skip ?_; (conv => (whnf)))))
  refine ⟨Nat.le_of_ble_eq_true rfl, ?_⟩
  ((conv => (whnf)); (try (refine AnyG.skip ?_; (conv => (whnf)))))
  refine endK ⟨[], ⟨rfl, rfl⟩, ?_⟩
  ((conv => (whnf)); (try (refine AnyG.skip ?_; (conv => (whnf)))))
  exact ⟨_, _, Wk.rfl, WkOs.rfl, hQ t ht⟩
end Ab
