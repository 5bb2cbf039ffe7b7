/- YtnhjclenankhoaaDoorFrA: contracts of functions of the program, by the frame 'Ab'. -/
import Derived.Test.YtnhjclenankhoaaDoorFrT
set_option linter.all false
namespace Ab
open Go Go.Proofs
set_option maxRecDepth 10000
set_option maxHeartbeats 4000000
set_option linter.unusedSimpArgs false
set_option linter.unusedVariables false

theorem wide : Tryd.prog.follows .mixedOrders = true := by kernel_rfl

inductive Ty where | mk (kids : List Ty)
def Ty.kids : Ty → List Ty | .mk k => k
theorem Ty.eta (t : Ty) : t = .mk t.kids := by cases t; rfl
def dTy : Ty → List DV | .mk ks => [.sl 1 (ks.map dTy)]
theorem dTy_eq (t : Ty) : dTy t = [.sl 1 (t.kids.map dTy)] := by cases t; simp [dTy, Ty.kids]
abbrev aTy (t : Ty) : AV := .agg [.d (.sl 1 (t.kids.map dTy))]
abbrev fTy (t : Ty) : AV := .agg [.d (.sf 1 (t.kids.map dTy))]
abbrev iv (n : Int) : AV := .d (.i .i64 n)
abbrev bv (b : Bool) : AV := .d (.b b)

theorem lo64 {n : Int} (h : -9223372036854775808 ≤ n) : IntKind.i64.min ≤ n := by
  have : IntKind.i64.min = -9223372036854775808 := by decide
  omega
theorem hi64 {n : Int} (h : n ≤ 9223372036854775807) : n ≤ IntKind.i64.max := by
  have : IntKind.i64.max = 9223372036854775807 := by decide
  omega

def tyOk : Nat → Ty → Bool
  | 0, _ => false
  | n+1, .mk ks => (ks.length == 0 || ks.length == 2) && ks.all (tyOk n)

theorem valid_lt {P : Program} {B : World} {f : Nat} {S : Nat → Spec} (h0 : ∀ args O Q, ¬ S 0 args O Q) (h : ∀ n, Valid P B f (S n) → Valid P B f (S (n+1))) : ∀ n, Valid P B f (S n)
  | 0 => fun w g O args us Q _ _ _ _ hs => absurd hs (h0 _ _ _)
  | n+1 => h n (valid_lt h0 h n)
theorem Valid.weak {P : Program} {B : World} {f : Nat} {S S' : Spec} (h : Valid P B f S) (hs : ∀ args O Q, S' args O Q → S args O Q) : Valid P B f S' :=
  fun w g O args us Q i a b c d => h w g O args us Q i a b c (hs _ _ _ d)

/-- impl.typeFits -/
def S24 (n : Nat) : Spec := fun args O Q => ∃ (t : Ty) (d : Int), 0 ≤ d ∧ d < n ∧ n ≤ 100 ∧ args = [aTy t, iv d] ∧ O = [] ∧ Q (bv (tyOk d.toNat t)) []

theorem tyOk_neg {d : Int} (h : d < 1) (t : Ty) : tyOk d.toNat t = false := by
  have : d.toNat = 0 := by omega
  rw [this]; cases t; rfl
theorem tyOk_pos {d : Int} (h : ¬ d < 1) (ks : List Ty) : tyOk d.toNat (.mk ks) = ((ks.length == 0 || ks.length == 2) && ks.all (tyOk (d - 1).toNat)) := by
  obtain ⟨n, hn⟩ : ∃ n, d.toNat = n + 1 := ⟨d.toNat - 1, by omega⟩
  have : (d - 1).toNat = n := by omega
  rw [hn, this]; simp [tyOk]

theorem v24 {B : World} : ∀ n, Valid Tryd.prog B 24 (S24 n) := by
  refine valid_lt (fun args O Q ⟨t, d, h1, h2, _⟩ => by omega) fun n ih => ?_
  refine valid_of (Γ := [(24, ⟨[], S24 n⟩)]) wide tok (AllValid.nil.cons ih) Tryd.func24 rfl rfl ?_
  rintro _ _ Q ⟨⟨ks⟩, d, hd, hd', hn, rfl, rfl, hQ⟩
  have fin : ∀ (b : Bool), tyOk d.toNat (.mk ks) = b → Q (bv b) [] := fun b hb => hb ▸ hQ
  conv => whnf
  refine ⟨fun h => ?_, fun h => ?_⟩
  · conv => whnf
    refine ⟨[], ⟨rfl, rfl⟩, ?_⟩
    conv => whnf
    exact ⟨_, _, Wk.rfl, WkOs.rfl, fin _ (tyOk_neg (by simpa using h) _)⟩
  · have hd1 : ¬ d < 1 := by simpa using h
    rw [tyOk_pos hd1] at fin
    conv => whnf
    refine ⟨fun h2 => ?_, fun h2 => ?_⟩
    · conv => whnf
      refine ⟨[], ⟨rfl, rfl⟩, ?_⟩
      conv => whnf
      refine ⟨_, _, Wk.rfl, WkOs.rfl, fin _ ?_⟩
      have : ks = [] := by
        cases ks with
        | nil => rfl
        | cons k ks => simp [Ty.kids] at h2; omega
      subst this
      rfl
    · have hk0 : ks ≠ [] := by rintro rfl; simp [Ty.kids] at h2
      conv => whnf
      refine ⟨fun h3 => ?_, fun h3 => ?_⟩
      · obtain ⟨t1, t2, rfl⟩ : ∃ t1 t2, ks = [t1, t2] := by
          match ks, h3 with
          | [], h3 => simp [Ty.kids] at h3
          | [_], h3 => simp [Ty.kids] at h3
          | [t1, t2], _ => exact ⟨t1, t2, rfl⟩
          | _ :: _ :: _ :: _, h3 => simp [Ty.kids] at h3; omega
        conv => whnf
        refine ⟨by omega, dTy t1, rfl, ?_⟩
        rw [dTy_eq]
        conv => whnf
        refine ⟨lo64 (by omega), hi64 (by omega), ?_⟩
        conv => whnf
        refine ⟨_, _, WkL.rfl, WkOs.rfl, t1, d - 1, by omega, by omega, by omega, rfl, rfl, ?_⟩
        conv => whnf
        refine ⟨by decide, ?_⟩
        conv => whnf
        refine ⟨fun h5 => ?_, fun h5 => ?_⟩
        · conv => whnf
          refine ⟨by omega, dTy t2, rfl, ?_⟩
          rw [dTy_eq]
          conv => whnf
          refine ⟨lo64 (by omega), hi64 (by omega), ?_⟩
          conv => whnf
          refine ⟨_, _, WkL.rfl, WkOs.rfl, t2, d - 1, by omega, by omega, by omega, rfl, rfl, ?_⟩
          conv => whnf
          refine ⟨by decide, ?_⟩
          conv => whnf
          refine ⟨[], ⟨rfl, rfl⟩, ?_⟩
          conv => whnf
          refine ⟨_, _, Wk.rfl, WkOs.rfl, fin _ ?_⟩
          show (tyOk (d - 1).toNat t1 && (tyOk (d - 1).toNat t2 && true)) = _
          rw [h5, Bool.and_true]; rfl
        · conv => whnf
          refine ⟨[], ⟨rfl, rfl⟩, ?_⟩
          conv => whnf
          refine ⟨_, _, Wk.rfl, WkOs.rfl, fin _ ?_⟩
          show (tyOk (d - 1).toNat t1 && (tyOk (d - 1).toNat t2 && true)) = _
          rw [h5]; rfl
      · conv => whnf
        refine ⟨[], ⟨rfl, rfl⟩, ?_⟩
        conv => whnf
        refine ⟨_, _, Wk.rfl, WkOs.rfl, fin _ ?_⟩
        have : (ks.length == 0 || ks.length == 2) = false := by
          simp [Ty.kids] at h3 ⊢
          exact ⟨hk0, by omega⟩
        rw [this]; rfl

/-- spec.l1Deep -/
theorem v25 {B : World} : ∀ n, Valid Tryd.prog B 25 (S24 n) := by
  refine valid_lt (fun args O Q ⟨t, d, h1, h2, _⟩ => by omega) fun n ih => ?_
  refine valid_of (Γ := [(25, ⟨[], S24 n⟩)]) wide tok (AllValid.nil.cons ih) Tryd.func25 rfl rfl ?_
  rintro _ _ Q ⟨⟨ks⟩, d, hd, hd', hn, rfl, rfl, hQ⟩
  have fin : ∀ (b : Bool), tyOk d.toNat (.mk ks) = b → Q (bv b) [] := fun b hb => hb ▸ hQ
  conv => whnf
  refine ⟨fun h => ?_, fun h => ?_⟩
  · conv => whnf
    refine ⟨[], ⟨rfl, rfl⟩, ?_⟩
    conv => whnf
    exact ⟨_, _, Wk.rfl, WkOs.rfl, fin _ (tyOk_neg (by simpa using h) _)⟩
  · have hd1 : ¬ d < 1 := by simpa using h
    rw [tyOk_pos hd1] at fin
    conv => whnf
    have hlen : (ks.length == 0 || ks.length == 2) = true → ks.length ≤ 2 := fun h => by simp at h; rcases h with h | h <;> simp [h]
    refine ⟨fun h2 => ?_, fun h2 => ?_⟩
    conv => whnf
    refine ⟨fun h3 => ?_, fun h3 => ?_⟩
    · conv => whnf
      refine ⟨[], ⟨rfl, rfl⟩, ?_⟩
      conv => whnf
      refine ⟨_, _, Wk.rfl, WkOs.rfl, fin _ ?_⟩
      have : (ks.length == 0 || ks.length == 2) = false := by
        simp [Ty.kids] at h2 h3 ⊢
        exact ⟨h2, by omega⟩
      rw [this]; rfl
    have hk : (ks.length == 0 || ks.length == 2) = true := by
      simp [Ty.kids] at h3 ⊢
      omega
    rotate_left
    have hk : (ks.length == 0 || ks.length == 2) = true := by
      simp [Ty.kids] at h2 ⊢
      exact .inl h2
    all_goals
      rw [hk, Bool.true_and] at fin
      conv => whnf
      refine ⟨[], Int, fun i => 0 ≤ i ∧ i ≤ ks.length ∧ (ks.take i.toNat).all (tyOk (d - 1).toNat) = true, fun i => (ks.length - i).toNat, fun i => [(5, iv i)],
        fun _ => [.cells [.d (.sl 1 (ks.map dTy))]], 0, ⟨by omega, by omega, by simp⟩, ?_⟩
      conv => whnf
      refine ⟨⟨rfl, rfl, WkOs.rfl, ⟨Wk.rfl, trivial⟩, rfl⟩, ?_⟩
      intro i ⟨hi0, hi1, hi2⟩
      conv => whnf
      refine ⟨fun h4 => ?_, fun h4 => ?_⟩
      · simp [Ty.kids] at h4
        have hlt : i.toNat < ks.length := by omega
        conv => whnf
        refine ⟨hi0, dTy ks[i.toNat], by simp [Ty.kids, hlt], ?_⟩
        rw [dTy_eq]
        conv => whnf
        refine ⟨lo64 (by omega), hi64 (by omega), ?_⟩
        conv => whnf
        refine ⟨_, _, WkL.rfl, WkOs.rfl, ks[i.toNat], d - 1, by omega, by omega, by omega, rfl, rfl, ?_⟩
        conv => whnf
        refine ⟨by decide, ?_⟩
        conv => whnf
        refine ⟨fun h5 => ?_, fun h5 => ?_⟩
        · conv => whnf
          refine ⟨[], ⟨rfl, rfl⟩, ?_⟩
          conv => whnf
          refine ⟨_, _, Wk.rfl, WkOs.rfl, fin _ ?_⟩
          rw [List.all_eq_false]
          exact ⟨ks[i.toNat], List.getElem_mem _, by simpa using h5⟩
        · conv => whnf
          refine ⟨lo64 (by omega), hi64 (by have := hlen hk; omega), ?_⟩
          conv => whnf
          refine ⟨i + 1, ⟨by omega, by omega, ?_⟩, by dsimp only; omega, rfl, rfl, WkOs.rfl, ⟨Wk.rfl, trivial⟩, rfl⟩
          have e : (i + 1).toNat = i.toNat + 1 := by omega
          rw [e, List.take_add_one, List.all_append, hi2]
          simp only [List.getElem?_eq_getElem hlt]
          simpa using h5
      · conv => whnf
        refine ⟨[], ⟨rfl, rfl⟩, ?_⟩
        conv => whnf
        refine ⟨_, _, Wk.rfl, WkOs.rfl, fin _ ?_⟩
        have : i.toNat = ks.length := by simp [Ty.kids] at h4; omega
        rw [this, List.take_length] at hi2
        exact hi2
end Ab
