/- YtnhjclenankhoaaDoorFrE: contracts of functions of the program, by the frame 'Ab'. -/
import Derived.Test.YtnhjclenankhoaaDoorFrD
set_option linter.all false
namespace Ab
open Go Go.Proofs
set_option maxRecDepth 10000
set_option maxHeartbeats 4000000
set_option linter.unusedSimpArgs false
set_option linter.unusedVariables false

mutual
def sameTy : Ty → Ty → Bool
  | .mk xs, .mk ys => sameTys xs ys
def sameTys : List Ty → List Ty → Bool
  | [], [] => true
  | a :: xs, b :: ys => sameTy a b && sameTys xs ys
  | _, _ => false
end
theorem sameTy_mk (xs ys : List Ty) : sameTy (.mk xs) (.mk ys) = sameTys xs ys := by simp [sameTy]
theorem sameTys_len : ∀ {xs ys : List Ty}, sameTys xs ys = true → xs.length = ys.length
  | [], [], _ => rfl
  | a :: xs, b :: ys, h => by simp [sameTys] at h; simp [sameTys_len h.2]
  | [], _ :: _, h => by simp [sameTys] at h
  | _ :: _, [], h => by simp [sameTys] at h
theorem sameTys_get : ∀ {xs ys : List Ty} (i : Nat) (h1 : i < xs.length) (h2 : i < ys.length), sameTys xs ys = true → sameTy xs[i] ys[i] = true
  | a :: xs, b :: ys, 0, _, _, h => by simp [sameTys] at h; exact h.1
  | a :: xs, b :: ys, i + 1, h1, h2, h => by simp [sameTys] at h; exact sameTys_get i (by simpa using h1) (by simpa using h2) h.2
theorem sameTys_step : ∀ {xs ys : List Ty} (i : Nat) (h1 : i < xs.length) (h2 : i < ys.length), sameTys (xs.take i) (ys.take i) = true → sameTy xs[i] ys[i] = true → sameTys (xs.take (i + 1)) (ys.take (i + 1)) = true
  | a :: xs, b :: ys, 0, _, _, _, h => by simpa [sameTys] using h
  | a :: xs, b :: ys, i + 1, h1, h2, h, h' => by
    simp [sameTys] at h ⊢
    exact ⟨h.1, sameTys_step i (by simpa using h1) (by simpa using h2) h.2 h'⟩

/-- impl.typeSame -/
def S29 (n : Nat) : Spec := fun args O Q => ∃ (m : Nat) (a b : Ty), m < n ∧ tyOk m a = true ∧ args = [aTy a, aTy b] ∧ O = [] ∧ Q (bv (sameTy a b)) []

theorem tyOk_kids {m : Nat} {ks : List Ty} (h : tyOk m (.mk ks) = true) : ∃ j, m = j + 1 ∧ ks.length ≤ 2 ∧ ∀ k ∈ ks, tyOk j k = true := by
  cases m with
  | zero => simp [tyOk] at h
  | succ j =>
    simp only [tyOk, Bool.and_eq_true, List.all_eq_true] at h
    refine ⟨j, rfl, ?_, h.2⟩
    have := h.1
    simp at this
    rcases this with h | h <;> simp [h]

theorem v29 {B : World} : ∀ n, Valid Tryd.prog B 29 (S29 n) := by
  refine valid_lt (fun args O Q ⟨m, a, b, h1, _⟩ => by omega) fun n ih => ?_
  refine valid_of (Γ := [(29, ⟨[], S29 n⟩)]) wide tok (AllValid.nil.cons ih) Tryd.func29 rfl rfl ?_
  rintro _ _ Q ⟨m, ⟨xs⟩, ⟨ys⟩, hm, hok, rfl, rfl, hQ⟩
  obtain ⟨j, rfl, hlen, hks⟩ := tyOk_kids hok
  rw [sameTy_mk] at hQ
  have fin : ∀ (b : Bool), sameTys xs ys = b → wkQ Q (bv b) [] := fun b hb => ⟨_, _, Wk.rfl, WkOs.rfl, hb ▸ hQ⟩
  conv => whnf
  refine ⟨fun h => ?_, fun h => ?_⟩
  · conv => whnf
    refine ⟨[], ⟨rfl, rfl⟩, ?_⟩
    refine fin _ ?_
    cases hs : sameTys xs ys with
    | false => rfl
    | true => have := sameTys_len hs; simp [Ty.kids, this] at h
  · have hl : xs.length = ys.length := by simp [Ty.kids] at h; omega
    conv => whnf
    refine ⟨[], Int, fun i => 0 ≤ i ∧ i ≤ xs.length ∧ sameTys (xs.take i.toNat) (ys.take i.toNat) = true, fun i => (xs.length - i).toNat, fun i => [(16, iv i)],
      fun _ => [.cells [.d (.sl 1 (xs.map dTy))], .cells [.d (.sl 1 (ys.map dTy))]], 0, ⟨by omega, by omega, by simp [sameTys]⟩, ?_⟩
    conv => whnf
    refine ⟨⟨rfl, rfl, WkOs.rfl, ⟨Wk.rfl, trivial⟩, rfl⟩, ?_⟩
    intro i ⟨hi0, hi1, hi2⟩
    conv => whnf
    refine ⟨fun h4 => ?_, fun h4 => ?_⟩
    · simp [Ty.kids] at h4
      have hlt : i.toNat < xs.length := by omega
      have hlt2 : i.toNat < ys.length := by omega
      conv => whnf
      refine ⟨hi0, dTy xs[i.toNat], by simp [Ty.kids, hlt], ?_⟩
      rw [dTy_eq]
      conv => whnf
      refine ⟨hi0, dTy ys[i.toNat], by simp [Ty.kids, hlt2], ?_⟩
      rw [dTy_eq]
      conv => whnf
      refine ⟨_, _, WkL.rfl, WkOs.rfl, j, xs[i.toNat], ys[i.toNat], by omega, hks _ (List.getElem_mem _), rfl, rfl, ?_⟩
      conv => whnf
      refine ⟨Nat.le_of_ble_eq_true rfl, ?_⟩
      conv => whnf
      refine ⟨fun h5 => ?_, fun h5 => ?_⟩
      · conv => whnf
        refine ⟨[], ⟨rfl, rfl⟩, ?_⟩
        refine fin _ ?_
        cases hs : sameTys xs ys with
        | false => rfl
        | true => rw [sameTys_get _ hlt hlt2 hs] at h5; cases h5
      · conv => whnf
        refine ⟨lo64 (by omega), hi64 (by omega), ?_⟩
        conv => whnf
        refine ⟨i + 1, ⟨by omega, by omega, ?_⟩, by dsimp only; omega, rfl, rfl, WkOs.rfl, ⟨Wk.rfl, trivial⟩, rfl⟩
        have e : (i + 1).toNat = i.toNat + 1 := by omega
        rw [e]
        exact sameTys_step _ hlt hlt2 hi2 (by simpa using h5)
    · conv => whnf
      refine ⟨[], ⟨rfl, rfl⟩, ?_⟩
      refine fin _ ?_
      have : i.toNat = xs.length := by simp [Ty.kids] at h4; omega
      rw [this, List.take_length, hl, List.take_length] at hi2
      exact hi2

theorem vt_ok : ∀ (d : Nat) (v : Vl), (vt d v).2 = true → tyOk d (vt d v).1 = true
  | 0, v, h => by simp [vt] at h
  | d + 1, .mk n [], h => by simp [vt, tyOk]
  | d + 1, .mk n [a, b], h => by
    by_cases hn : n = 0
    · simp only [vt, hn, if_true] at h ⊢
      split at h
      · rename_i hc
        rw [if_pos hc]
        simp only [Bool.and_eq_true] at hc
        simp [tyOk, vt_ok d a hc.1, vt_ok d b hc.2]
      · cases h
    · simp [vt, hn] at h
  | d + 1, .mk n [_], h => by simp [vt] at h
  | d + 1, .mk n (_ :: _ :: _ :: _), h => by simp [vt] at h

def valOk (t : Ty) (v : Vl) : Bool := tyOk 4 t && ((vt 4 v).2 && sameTy (vt 4 v).1 t)
/-- impl.ValOk -/
def S13 : Spec := fun args O Q => ∃ (t : Ty) (v : Vl), args = [aTy t, aVl v] ∧ O = [] ∧ Q (bv (valOk t v)) []
theorem v13 {B : World} : Valid Tryd.prog B 13 S13 := by
  refine valid_of (Γ := [(8, ⟨[], STypeOk⟩), (27, ⟨[], S27⟩), (29, ⟨[], S29 10⟩)]) wide tok (((AllValid.nil.cons (v29 10)).cons v27).cons v8) Tryd.func13 rfl rfl ?_
  rintro _ _ Q ⟨t, v, rfl, rfl, hQ⟩
  have fin : ∀ (b : Bool), valOk t v = b → wkQ Q (bv b) [] := fun b hb => ⟨_, _, Wk.rfl, WkOs.rfl, hb ▸ hQ⟩
  conv => whnf
  refine ⟨_, _, WkL.rfl, WkOs.rfl, t, rfl, rfl, ?_⟩
  conv => whnf
  refine ⟨Nat.le_of_ble_eq_true rfl, ?_⟩
  conv => whnf
  refine ⟨fun h => ?_, fun h => ?_⟩
  · conv => whnf
    refine ⟨[], ⟨rfl, rfl⟩, ?_⟩
    refine fin _ ?_
    simp at h; simp [valOk, h]
  · simp at h
    conv => whnf
    refine ⟨_, _, WkL.rfl, WkOs.rfl, v, rfl, rfl, ?_⟩
    conv => whnf
    refine ⟨Nat.le_of_ble_eq_true rfl, ?_⟩
    conv => whnf
    refine ⟨fun h2 => ?_, fun h2 => ?_⟩
    · conv => whnf
      refine ⟨_, _, WkL.rfl, WkOs.rfl, 4, (vt 4 v).1, t, by omega, vt_ok 4 v h2, rfl, rfl, ?_⟩
      conv => whnf
      refine ⟨Nat.le_of_ble_eq_true rfl, ?_⟩
      conv => whnf
      refine ⟨[], ⟨rfl, rfl⟩, ?_⟩
      refine fin _ ?_
      simp [valOk, h, h2]
    · conv => whnf
      refine ⟨[], ⟨rfl, rfl⟩, ?_⟩
      refine fin _ ?_
      simp [valOk, h, h2]

mutual
def sameVl : Vl → Vl → Bool
  | .mk m xs, .mk n ys => m == n && sameVls xs ys
def sameVls : List Vl → List Vl → Bool
  | [], [] => true
  | a :: xs, b :: ys => sameVl a b && sameVls xs ys
  | _, _ => false
end
theorem sameVl_mk (m n : Int) (xs ys : List Vl) : sameVl (.mk m xs) (.mk n ys) = (m == n && sameVls xs ys) := by simp [sameVl]
theorem sameVls_len : ∀ {xs ys : List Vl}, sameVls xs ys = true → xs.length = ys.length
  | [], [], _ => rfl
  | a :: xs, b :: ys, h => by simp [sameVls] at h; simp [sameVls_len h.2]
  | [], _ :: _, h => by simp [sameVls] at h
  | _ :: _, [], h => by simp [sameVls] at h
theorem sameVls_get : ∀ {xs ys : List Vl} (i : Nat) (h1 : i < xs.length) (h2 : i < ys.length), sameVls xs ys = true → sameVl xs[i] ys[i] = true
  | a :: xs, b :: ys, 0, _, _, h => by simp [sameVls] at h; exact h.1
  | a :: xs, b :: ys, i + 1, h1, h2, h => by simp [sameVls] at h; exact sameVls_get i (by simpa using h1) (by simpa using h2) h.2
theorem sameVls_step : ∀ {xs ys : List Vl} (i : Nat) (h1 : i < xs.length) (h2 : i < ys.length), sameVls (xs.take i) (ys.take i) = true → sameVl xs[i] ys[i] = true → sameVls (xs.take (i + 1)) (ys.take (i + 1)) = true
  | a :: xs, b :: ys, 0, _, _, _, h => by simpa [sameVls] using h
  | a :: xs, b :: ys, i + 1, h1, h2, h, h' => by
    simp [sameVls] at h ⊢
    exact ⟨h.1, sameVls_step i (by simpa using h1) (by simpa using h2) h.2 h'⟩

/-- no node has more than so many kids, and it is at most so deep -/
def vlB : Nat → Vl → Prop
  | 0, _ => False
  | d + 1, .mk _ ks => ks.length ≤ 1000000 ∧ ∀ k ∈ ks, vlB d k

/-- laws.lhVal -/
def S14 (n : Nat) : Spec := fun args O Q => ∃ (m : Nat) (a b : Vl), m < n ∧ vlB m a ∧ args = [aVl a, aVl b] ∧ O = [] ∧ Q (bv (sameVl a b)) []
theorem v14 {B : World} : ∀ n, Valid Tryd.prog B 14 (S14 n) := by
  refine valid_lt (fun args O Q ⟨m, a, b, h1, _⟩ => by omega) fun n ih => ?_
  refine valid_of (Γ := [(14, ⟨[], S14 n⟩)]) wide tok (AllValid.nil.cons ih) Tryd.func14 rfl rfl ?_
  rintro _ _ Q ⟨m, ⟨k, xs⟩, ⟨l, ys⟩, hm, hok, rfl, rfl, hQ⟩
  obtain ⟨j, rfl⟩ : ∃ j, m = j + 1 := by
    cases m with
    | zero => exact hok.elim
    | succ j => exact ⟨j, rfl⟩
  obtain ⟨hlen, hks⟩ := hok
  rw [sameVl_mk] at hQ
  have fin : ∀ (b : Bool), (k == l && sameVls xs ys) = b → wkQ Q (bv b) [] := fun b hb => ⟨_, _, Wk.rfl, WkOs.rfl, hb ▸ hQ⟩
  conv => whnf
  refine ⟨fun h => ?_, fun h => ?_⟩
  · conv => whnf
    refine ⟨[], ⟨rfl, rfl⟩, ?_⟩
    refine fin _ ?_
    simp [Vl.num] at h; simp [h]
  · have hk : k = l := by simpa [Vl.num] using h
    conv => whnf
    refine ⟨fun h2 => ?_, fun h2 => ?_⟩
    · conv => whnf
      refine ⟨[], ⟨rfl, rfl⟩, ?_⟩
      refine fin _ ?_
      cases hs : sameVls xs ys with
      | false => simp
      | true => have := sameVls_len hs; simp [Vl.kids, this] at h2
    · have hl : xs.length = ys.length := by simp [Vl.kids] at h2; omega
      conv => whnf
      refine ⟨[], Int, fun i => 0 ≤ i ∧ i ≤ xs.length ∧ sameVls (xs.take i.toNat) (ys.take i.toNat) = true, fun i => (xs.length - i).toNat, fun i => [(5, iv i)],
        fun _ => [.cells [iv k, .d (.sl 2 (xs.map dVl))], .cells [iv l, .d (.sl 2 (ys.map dVl))]], 0, ⟨by omega, by omega, by simp [sameVls]⟩, ?_⟩
      conv => whnf
      refine ⟨⟨rfl, rfl, WkOs.rfl, ⟨Wk.rfl, trivial⟩, rfl⟩, ?_⟩
      intro i ⟨hi0, hi1, hi2⟩
      conv => whnf
      refine ⟨fun h4 => ?_, fun h4 => ?_⟩
      · simp [Vl.kids] at h4
        have hlt : i.toNat < xs.length := by omega
        have hlt2 : i.toNat < ys.length := by omega
        conv => whnf
        refine ⟨hi0, dVl xs[i.toNat], by simp [Vl.kids, hlt], ?_⟩
        rw [dVl_eq]
        conv => whnf
        refine ⟨hi0, dVl ys[i.toNat], by simp [Vl.kids, hlt2], ?_⟩
        rw [dVl_eq]
        conv => whnf
        refine ⟨_, _, WkL.rfl, WkOs.rfl, j, xs[i.toNat], ys[i.toNat], by omega, hks _ (List.getElem_mem _), rfl, rfl, ?_⟩
        conv => whnf
        refine ⟨Nat.le_of_ble_eq_true rfl, ?_⟩
        conv => whnf
        refine ⟨fun h5 => ?_, fun h5 => ?_⟩
        · conv => whnf
          refine ⟨[], ⟨rfl, rfl⟩, ?_⟩
          refine fin _ ?_
          cases hs : sameVls xs ys with
          | false => simp
          | true => rw [sameVls_get _ hlt hlt2 hs] at h5; cases h5
        · conv => whnf
          refine ⟨lo64 (by omega), hi64 (by omega), ?_⟩
          conv => whnf
          refine ⟨i + 1, ⟨by omega, by omega, ?_⟩, by dsimp only; omega, rfl, rfl, WkOs.rfl, ⟨Wk.rfl, trivial⟩, rfl⟩
          have e : (i + 1).toNat = i.toNat + 1 := by omega
          rw [e]
          exact sameVls_step _ hlt hlt2 hi2 (by simpa using h5)
      · conv => whnf
        refine ⟨[], ⟨rfl, rfl⟩, ?_⟩
        refine fin _ ?_
        have : i.toNat = xs.length := by simp [Vl.kids] at h4; omega
        rw [this, List.take_length, hl, List.take_length] at hi2
        simp [hk, hi2]
end Ab
