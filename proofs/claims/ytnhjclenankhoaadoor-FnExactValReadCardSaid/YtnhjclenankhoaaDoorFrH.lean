/- Contracts of functions of the program, by the frame 'Ab'. -/
import Derived.Test.YtnhjclenankhoaaDoorFrG
set_option linter.all false
namespace Ab
open Go Go.Proofs
set_option maxRecDepth 10000
set_option maxHeartbeats 4000000
set_option linter.unusedSimpArgs false
set_option linter.unusedVariables false

abbrev digits : List UInt8 := [48, 49, 50, 51, 52, 53, 54, 55, 56, 57]

/-- a value read, and what is left -/
def rdv : Nat → List UInt8 → Option (Vl × List UInt8)
  | 0, _ => none
  | d + 1, s => bif Lib.hasPrefix s [40] then
      (if d = 0 then none else match rdv d (s.drop 1) with
        | some (a, r) => bif Lib.hasPrefix r [44] then (match rdv d (r.drop 1) with
            | some (b, r2) => bif Lib.hasPrefix r2 [41] then some (.mk 0 [a, b], r2.drop 1) else none
            | none => none) else none
        | none => none)
    else match Lib.atoiAll (s.take (s.length - (Lib.trimLeftS s digits).length)) with
      | .ok v => some (.mk v [], Lib.trimLeftS s digits)
      | _ => none

theorem trim_len (s cs : List UInt8) : (Lib.trimLeftS s cs).length ≤ s.length := by
  unfold Lib.trimLeftS
  exact (List.dropWhile_sublist _).length_le

theorem hasPrefix_cons {s : List UInt8} {c : UInt8} (h : Lib.hasPrefix s [c] = true) : ∃ r, s = c :: r := by
  cases s with
  | nil => simp [Lib.hasPrefix, List.isPrefixOf] at h
  | cons a r => simp [Lib.hasPrefix, List.isPrefixOf] at h; exact ⟨r, by rw [h]⟩

theorem rdv_len : ∀ (d : Nat) (s : List UInt8) (v : Vl) (r : List UInt8), rdv d s = some (v, r) → r.length ≤ s.length
  | 0, _, _, _, h => by simp [rdv] at h
  | d + 1, s, v, r, h => by
    unfold rdv at h
    cases hp : Lib.hasPrefix s [40] with
    | false =>
      rw [hp] at h
      simp only [cond_false] at h
      split at h
      · simp at h; rw [← h.2]; exact trim_len _ _
      · cases h
    | true =>
      rw [hp] at h
      simp only [cond_true] at h
      split at h
      · cases h
      · split at h
        · rename_i a r1 h1
          have l1 := rdv_len d _ _ _ h1
          cases hp2 : Lib.hasPrefix r1 [44] with
          | false => rw [hp2] at h; cases h
          | true =>
            rw [hp2] at h
            simp only [cond_true] at h
            split at h
            · rename_i b r2 h2
              have l2 := rdv_len d _ _ _ h2
              cases hp3 : Lib.hasPrefix r2 [41] with
              | false => rw [hp3] at h; cases h
              | true =>
                rw [hp3] at h
                simp at h
                rw [← h.2]
                simp at l1 l2 ⊢
                omega
            · cases h
        · cases h

/-- impl.valRead -/
def S_i_valRead (n : Nat) : Spec := fun args O Q => ∃ (s : List UInt8) (d : Int), 1 ≤ d ∧ d ≤ n ∧ n ≤ 10 ∧ s.length ≤ 1000000000 ∧ args = [.d (.s s), iv d] ∧ O = [] ∧
  (∀ v r, rdv d.toNat s = some (v, r) → Q (.tup [aVl v, .d (.s r), bv true]) []) ∧ (rdv d.toNat s = none → ∀ (v : Vl) (r : List UInt8), r.length ≤ s.length → Q (.tup [aVl v, .d (.s r), bv false]) [])

theorem wk_v0 (n : Int) : Wk (.agg [.d (.i .i64 n), .d (.v (.slice none 0 0))]) (aVl (.mk n [])) := Wk.agg (WkL.cons Wk.rfl (WkL.cons (Wk.nil 2) WkL.nil))

theorem v_i_valRead {B : World} (hB : Tabs B) : ∀ n, Valid PG B i_valRead (S_i_valRead n) := by
  refine valid_lt (fun args O Q ⟨s, d, h1, h2, _⟩ => by omega) fun n ih => ?_
  refine valid_of (Γ := [(i_valRead, ⟨[], S_i_valRead n⟩), (x_strings_CutPrefix, ⟨[], S_x_strings_CutPrefix⟩), (x_strings_TrimLeft, ⟨[], S_x_strings_TrimLeft⟩), (x_strconv_Atoi, ⟨[], S_x_strconv_Atoi⟩), (x_strings_HasPrefix, ⟨[], S_x_strings_HasPrefix⟩)]) wide tok (((((AllValid.nil.cons v_x_strings_HasPrefix).cons (v_x_strconv_Atoi hB)).cons v_x_strings_TrimLeft).cons v_x_strings_CutPrefix).cons ih) g_i_valRead rfl rfl ?_
  rintro _ _ Q ⟨s, d, hd, hd', hn, hs, rfl, rfl, hQ, hE⟩
  obtain ⟨m, hm⟩ : ∃ m, d.toNat = m + 1 := ⟨d.toNat - 1, by omega⟩
  have hm1 : (d - 1).toNat = m := by omega
  rw [hm] at hQ hE
  ((conv => (whnf)); (try (refine AnyG.skip ?_; (conv => (whnf)))))
  refine ⟨_, _, WkL.rfl, WkOs.rfl, s, [40], rfl, ?_⟩
  ((conv => (whnf)); (try (refine AnyG.skip ?_; (conv => (whnf)))))
  refine ⟨Nat.le_of_ble_eq_true rfl, ?_⟩
  ((conv => (whnf)); (try (refine AnyG.skip ?_; (conv => (whnf)))))
  refine ⟨fun h => ?_, fun h => ?_⟩
  · have hp : Lib.hasPrefix s [40] = false := by simpa using h
    ((conv => (whnf)); (try (refine AnyG.skip ?_; (conv => (whnf)))))
    refine ⟨_, _, WkL.rfl, WkOs.rfl, s, digits, by decide, by decide, rfl, ?_⟩
    ((conv => (whnf)); (try (refine AnyG.skip ?_; (conv => (whnf)))))
    refine ⟨Nat.le_of_ble_eq_true rfl, ?_⟩
    have ht := trim_len s digits
    ((conv => (whnf)); (try (refine AnyG.skip ?_; (conv => (whnf)))))
    refine ⟨lo64 (by omega), hi64 (by omega), ?_⟩
    ((conv => (whnf)); (try (refine AnyG.skip ?_; (conv => (whnf)))))
    refine ⟨by omega, ?_⟩
    ((conv => (whnf)); (try (refine AnyG.skip ?_; (conv => (whnf)))))
    refine ⟨_, _, WkL.rfl, WkOs.rfl, s.take (s.length - (Lib.trimLeftS s digits).length), by simp; omega, ?_, ?_, ?_⟩
    · have e : ((s.length : Int) - (Lib.trimLeftS s digits).length).toNat = s.length - (Lib.trimLeftS s digits).length := by omega
      rw [e]; rfl
    · intro v hv
      ((conv => (whnf)); (try (refine AnyG.skip ?_; (conv => (whnf)))))
      refine ⟨Nat.le_of_ble_eq_true rfl, ?_⟩
      ((conv => (whnf)); (try (refine AnyG.skip ?_; (conv => (whnf)))))
      refine endK ⟨[], ⟨rfl, rfl⟩, ?_⟩
      refine ⟨_, _, Wk.tup (WkL.cons (wk_v0 v) (WkL.cons Wk.rfl (WkL.cons Wk.rfl WkL.nil))), WkOs.rfl, hQ _ _ ?_⟩
      simp [rdv, hp, hv]
    · intro hv n _ x
      ((conv => (whnf)); (try (refine AnyG.skip ?_; (conv => (whnf)))))
      refine ⟨Nat.le_of_ble_eq_true rfl, ?_⟩
      ((conv => (whnf)); (try (refine AnyG.skip ?_; (conv => (whnf)))))
      refine endK ⟨[], ⟨rfl, rfl⟩, ?_⟩
      refine ⟨_, _, Wk.tup (WkL.cons (wk_v0 n) (WkL.cons Wk.rfl (WkL.cons Wk.rfl WkL.nil))), WkOs.rfl, hE ?_ _ _ ht⟩
      simp only [rdv, hp, cond_false]
      all_goals split
      all_goals first
        | rfl
        | (rename_i v h'; exact absurd h' (hv v))
  · have hp : Lib.hasPrefix s [40] = true := by simpa using h
    obtain ⟨s', rfl⟩ := hasPrefix_cons hp
    have e1 : Lib.trimPrefix (40 :: s') [40] = s' := by simp [Lib.trimPrefix, Lib.hasPrefix, List.isPrefixOf]
    have hl : s'.length ≤ 1000000000 := by simp at hs; omega
    have fin0 : rdv (m + 1) (40 :: s') = none → ∀ k : AV, Wk k (bv false) → wkQ Q (.tup [.agg [.d (.i .i64 0), .d (.v (.slice none 0 0))], .d (.s []), k]) [] := fun h k hk =>
      ⟨_, _, Wk.tup (WkL.cons (wk_v0 0) (WkL.cons Wk.rfl (WkL.cons hk WkL.nil))), WkOs.rfl, hE h _ _ (by simp)⟩
    ((conv => (whnf)); (try (refine AnyG.skip ?_; (conv => (whnf)))))
    refine ⟨fun h2 => ?_, fun h2 => ?_⟩
    · have hm0 : m = 0 := by simp at h2; omega
      ((conv => (whnf)); (try (refine AnyG.skip ?_; (conv => (whnf)))))
      refine endK ⟨[], ⟨rfl, rfl⟩, ?_⟩
      refine fin0 ?_ _ Wk.rfl
      simp [rdv, hp, hm0]
    · have hm0 : m ≠ 0 := by simp at h2; omega
      ((conv => (whnf)); (try (refine AnyG.skip ?_; (conv => (whnf)))))
      refine ⟨lo64 (by omega), hi64 (by omega), ?_⟩
      ((conv => (whnf)); (try (refine AnyG.skip ?_; (conv => (whnf)))))
      rw [e1]
      refine ⟨_, _, WkL.rfl, WkOs.rfl, s', d - 1, by simp at h2; omega, by omega, by omega, hl, rfl, rfl, ?_⟩
      rw [hm1]
      have hstep : rdv (m + 1) (40 :: s') = (match rdv m s' with
        | some (a, r) => bif Lib.hasPrefix r [44] then (match rdv m (r.drop 1) with
            | some (b, r2) => bif Lib.hasPrefix r2 [41] then some (.mk 0 [a, b], r2.drop 1) else none
            | none => none) else none
        | none => none) := by
        simp only [rdv, hp, cond_true, if_neg hm0]; rfl
      rw [hstep] at fin0 hQ
      clear hstep hE e1
      refine ⟨fun a r ha => ?_, fun hnone v r hr => ?_⟩
      · have hlr := rdv_len _ _ _ _ ha
        rw [ha] at fin0 hQ
        dsimp only at fin0 hQ
        ((conv => (whnf)); (try (refine AnyG.skip ?_; (conv => (whnf)))))
        refine ⟨Nat.le_of_ble_eq_true rfl, ?_⟩
        ((conv => (whnf)); (try (refine AnyG.skip ?_; (conv => (whnf)))))
        refine Br.no rfl ?_
        ((conv => (whnf)); (try (refine AnyG.skip ?_; (conv => (whnf)))))
        refine ⟨_, _, WkL.rfl, WkOs.rfl, r, [44], rfl, ?_⟩
        ((conv => (whnf)); (try (refine AnyG.skip ?_; (conv => (whnf)))))
        refine ⟨Nat.le_of_ble_eq_true rfl, ?_⟩
        ((conv => (whnf)); (try (refine AnyG.skip ?_; (conv => (whnf)))))
        refine ⟨fun h3 => ?_, fun h3 => ?_⟩
        · have hp3 : Lib.hasPrefix r [44] = false := by simpa using h3
          rw [hp3] at fin0
          ((conv => (whnf)); (try (refine AnyG.skip ?_; (conv => (whnf)))))
          refine endK ⟨[], ⟨rfl, rfl⟩, ?_⟩
          exact fin0 rfl _ Wk.rfl
        · have hp3 : Lib.hasPrefix r [44] = true := by simpa using h3
          rw [hp3] at fin0 hQ
          obtain ⟨r', rfl⟩ := hasPrefix_cons hp3
          have e3 : (44 :: r').drop 1 = r' := rfl
          rw [e3] at fin0 hQ
          dsimp only [cond_true] at fin0 hQ
          ((conv => (whnf)); (try (refine AnyG.skip ?_; (conv => (whnf)))))
          refine ⟨by simp; omega, ?_⟩
          ((conv => (whnf)); (try (refine AnyG.skip ?_; (conv => (whnf)))))
          refine ⟨lo64 (by omega), hi64 (by omega), ?_⟩
          ((conv => (whnf)); (try (refine AnyG.skip ?_; (conv => (whnf)))))
          have e2 : ((44 :: r').take (44 :: r').length).drop (Int.toNat 1) = r' := by rw [List.take_length]; rfl
          rw [e2]
          refine ⟨_, _, WkL.rfl, WkOs.rfl, r', d - 1, by simp at h2; omega, by omega, by omega, by simp at hlr; omega, rfl, rfl, ?_⟩
          rw [hm1]
          refine ⟨fun b r2 hb => ?_, fun hnone v r hr => ?_⟩
          · have hlr2 := rdv_len _ _ _ _ hb
            rw [hb] at fin0 hQ
            dsimp only at fin0 hQ
            ((conv => (whnf)); (try (refine AnyG.skip ?_; (conv => (whnf)))))
            refine ⟨Nat.le_of_ble_eq_true rfl, ?_⟩
            ((conv => (whnf)); (try (refine AnyG.skip ?_; (conv => (whnf)))))
            refine Br.no rfl ?_
            ((conv => (whnf)); (try (refine AnyG.skip ?_; (conv => (whnf)))))
            refine ⟨_, _, WkL.rfl, WkOs.rfl, r2, [41], rfl, ?_⟩
            ((conv => (whnf)); (try (refine AnyG.skip ?_; (conv => (whnf)))))
            refine ⟨Nat.le_of_ble_eq_true rfl, ?_⟩
            ((conv => (whnf)); (try (refine AnyG.skip ?_; (conv => (whnf)))))
            refine ⟨fun h4 => ?_, fun h4 => ?_⟩
            · have hp4 : Lib.hasPrefix r2 [41] = false := by simpa using h4
              rw [hp4] at fin0
              ((conv => (whnf)); (try (refine AnyG.skip ?_; (conv => (whnf)))))
              refine endK ⟨[], ⟨rfl, rfl⟩, ?_⟩
              exact fin0 rfl _ Wk.rfl
            · have hp4 : Lib.hasPrefix r2 [41] = true := by simpa using h4
              rw [hp4] at hQ
              obtain ⟨r3, rfl⟩ := hasPrefix_cons hp4
              have e4 : (41 :: r3).drop 1 = r3 := rfl
              rw [e4] at hQ
              dsimp only [cond_true] at hQ
              ((conv => (whnf)); (try (refine AnyG.skip ?_; (conv => (whnf)))))
              refine ⟨by simp; omega, ?_⟩
              ((conv => (whnf)); (try (refine AnyG.skip ?_; (conv => (whnf)))))
              left
              ((conv => (whnf)); (try (refine AnyG.skip ?_; (conv => (whnf)))))
              refine endK ⟨[], ⟨rfl, rfl⟩, ?_⟩
              refine ⟨_, _, Wk.tup (WkL.cons (Wk.agg (WkL.cons Wk.rfl (WkL.cons (Wk.d (DW.sf.trans (DW.sl ?_))) WkL.nil))) (WkL.cons (Wk.of_eq ?_) (WkL.cons Wk.rfl WkL.nil))), WkOs.rfl, hQ _ _ rfl⟩
              · exact ⟨by rw [dVl_eq], by rw [dVl_eq]; exact DWL.rfl, by rw [dVl_eq], by rw [dVl_eq]; exact DWL.rfl, trivial⟩
              · rw [List.take_length]; rfl
          · rw [hnone] at fin0
            ((conv => (whnf)); (try (refine AnyG.skip ?_; (conv => (whnf)))))
            refine ⟨Nat.le_of_ble_eq_true rfl, ?_⟩
            ((conv => (whnf)); (try (refine AnyG.skip ?_; (conv => (whnf)))))
            refine Br.yes rfl ?_
            ((conv => (whnf)); (try (refine AnyG.skip ?_; (conv => (whnf)))))
            refine endK ⟨[], ⟨rfl, rfl⟩, ?_⟩
            exact fin0 rfl _ Wk.rfl
      · rw [hnone] at fin0
        ((conv => (whnf)); (try (refine AnyG.skip ?_; (conv => (whnf)))))
        refine ⟨Nat.le_of_ble_eq_true rfl, ?_⟩
        ((conv => (whnf)); (try (refine AnyG.skip ?_; (conv => (whnf)))))
        refine Br.yes rfl ?_
        ((conv => (whnf)); (try (refine AnyG.skip ?_; (conv => (whnf)))))
        refine endK ⟨[], ⟨rfl, rfl⟩, ?_⟩
        exact fin0 rfl _ Wk.rfl
end Ab

namespace Ab
open Go Go.Proofs
set_option maxRecDepth 10000
set_option maxHeartbeats 4000000
set_option linter.unusedSimpArgs false
set_option linter.unusedVariables false

def valRead (s : List UInt8) : Option Vl := match rdv 4 s with
  | some (v, r) => if r = [] ∧ valText v = s then some v else none
  | none => none

/-- impl.ValRead -/
def S_i_ValRead : Spec := fun args O Q => ∃ (s : List UInt8), s.length ≤ 1000000000 ∧ args = [.d (.s s)] ∧ O = [] ∧
  (∀ v, valRead s = some v → Q (.tup [aVl v, bv true]) []) ∧ (valRead s = none → Q (.tup [aVl (.mk 0 []), bv false]) [])

theorem v_i_ValRead {B : World} (hB : Tabs B) : Valid PG B i_ValRead S_i_ValRead := by
  refine valid_of (Γ := [(i_ValText, ⟨[], S_i_ValText⟩), (i_valRead, ⟨[], S_i_valRead 10⟩)]) wide tok ((AllValid.nil.cons (v_i_valRead hB 10)).cons (v_i_ValText hB)) g_i_ValRead rfl rfl ?_
  rintro _ _ Q ⟨s, hs, rfl, rfl, hQ, hE⟩
  have fin0 : valRead s = none → wkQ Q (.tup [.agg [.d (.i .i64 0), .d (.v (.slice none 0 0))], bv false]) [] := fun h =>
      ⟨_, _, Wk.tup (WkL.cons (wk_v0 0) (WkL.cons Wk.rfl WkL.nil)), WkOs.rfl, hE h⟩
  ((conv => (whnf)); (try (refine AnyG.skip ?_; (conv => (whnf)))))
  refine ⟨_, _, WkL.rfl, WkOs.rfl, s, 4, by omega, by omega, by omega, hs, rfl, rfl, ?_⟩
  refine ⟨fun v r hr => ?_, fun hnone v r _ => ?_⟩
  · have hr : rdv 4 s = some (v, r) := hr
    ((conv => (whnf)); (try (refine AnyG.skip ?_; (conv => (whnf)))))
    refine ⟨Nat.le_of_ble_eq_true rfl, ?_⟩
    ((conv => (whnf)); (try (refine AnyG.skip ?_; (conv => (whnf)))))
    refine Br.no rfl ?_
    ((conv => (whnf)); (try (refine AnyG.skip ?_; (conv => (whnf)))))
    refine ⟨fun h => ?_, fun h => ?_⟩
    · ((conv => (whnf)); (try (refine AnyG.skip ?_; (conv => (whnf)))))
      refine endK ⟨[], ⟨rfl, rfl⟩, ?_⟩
      refine fin0 ?_
      have : r ≠ [] := by rintro rfl; cases h
      simp [valRead, hr, this]
    · have hr0 : r = [] := by
        cases r with
        | nil => rfl
        | cons c r => cases h
      subst hr0
      ((conv => (whnf)); (try (refine AnyG.skip ?_; (conv => (whnf)))))
      refine ⟨_, _, WkL.rfl, WkOs.rfl, v, rfl, rfl, ?_⟩
      ((conv => (whnf)); (try (refine AnyG.skip ?_; (conv => (whnf)))))
      refine ⟨Nat.le_of_ble_eq_true rfl, ?_⟩
      ((conv => (whnf)); (try (refine AnyG.skip ?_; (conv => (whnf)))))
      refine ⟨fun h2 => ?_, fun h2 => ?_⟩
      · ((conv => (whnf)); (try (refine AnyG.skip ?_; (conv => (whnf)))))
        refine endK ⟨[], ⟨rfl, rfl⟩, ?_⟩
        refine fin0 ?_
        have : valText v ≠ s := by intro e; rw [e] at h2; simp at h2
        simp [valRead, hr, this]
      · ((conv => (whnf)); (try (refine AnyG.skip ?_; (conv => (whnf)))))
        refine endK ⟨[], ⟨rfl, rfl⟩, ?_⟩
        have : valText v = s := by simpa using h2
        exact ⟨_, _, Wk.rfl, WkOs.rfl, hQ v (by simp [valRead, hr, this])⟩
  · have hnone : rdv 4 s = none := hnone
    ((conv => (whnf)); (try (refine AnyG.skip ?_; (conv => (whnf)))))
    refine ⟨Nat.le_of_ble_eq_true rfl, ?_⟩
    ((conv => (whnf)); (try (refine AnyG.skip ?_; (conv => (whnf)))))
    refine Br.yes rfl ?_
    ((conv => (whnf)); (try (refine AnyG.skip ?_; (conv => (whnf)))))
    refine endK ⟨[], ⟨rfl, rfl⟩, ?_⟩
    exact fin0 (by simp [valRead, hnone])
end Ab
