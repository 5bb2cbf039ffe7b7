/- Contracts of functions of the program, by the frame 'Ab'. -/
import Derived.Test.YtnhjclenankhoaaDoorFrH
set_option linter.all false
namespace Ab
open Go Go.Proofs
set_option maxRecDepth 10000
set_option maxHeartbeats 4000000
set_option linter.unusedSimpArgs false
set_option linter.unusedVariables false

/-- The law, with no program in sight. -/
structure LawTV (t : Ty) : Prop where
  ok : valOk t (nought t) = true
  read : valRead (valText (nought t)) = some (nought t)
  len : (valText (nought t)).length ≤ 1000000000
  b : ∃ m, m < 10 ∧ vlB m (nought t)
  same : sameVl (nought t) (nought t) = true
  neg : valOk t (.mk (-1) []) = false

/-- laws.FnTypeValue -/
def S_l_FnTypeValue : Spec := fun args O Q => ∃ (l : List UInt8), args = [.d (.sl 1 (byteRows l))] ∧ O = [] ∧ Q (bv true) []
theorem v_l_FnTypeValue {B : World} (hB : Tabs B) (law : ∀ t, tyOk 4 t = true → LawTV t) : Valid PG B l_FnTypeValue S_l_FnTypeValue := by
  refine valid_of (Γ := [(s_DrawTypeOk, ⟨[], S_s_DrawTypeOk⟩), (i_TypeOk, ⟨[], STypeOk⟩), (s_TypeOk, ⟨[], STypeOk⟩), (l_lhNought, ⟨[], S_l_lhNought 10⟩), (i_ValRead, ⟨[], S_i_ValRead⟩), (i_ValText, ⟨[], S_i_ValText⟩), (i_ValOk, ⟨[], S_i_ValOk⟩), (l_lhVal, ⟨[], S_l_lhVal 10⟩)]) wide tok
    ((((((((AllValid.nil.cons (v_l_lhVal 10)).cons v_i_ValOk).cons (v_i_ValText hB)).cons (v_i_ValRead hB)).cons (v_l_lhNought 10)).cons v_s_TypeOk).cons v_i_TypeOk).cons v_s_DrawTypeOk) g_l_FnTypeValue rfl rfl ?_
  rintro _ _ Q ⟨l, rfl, rfl, hQ⟩
  have fin : ∀ b : Bool, b = true → wkQ Q (bv b) [] := fun b h => ⟨_, _, Wk.rfl, WkOs.rfl, by subst h; exact hQ⟩
  ((conv => (whnf)); (try (refine AnyG.skip ?_; (conv => (whnf)))))
  refine ⟨fun h => ?_, fun h => ?_⟩
  · ((conv => (whnf)); (try (refine AnyG.skip ?_; (conv => (whnf)))))
    refine endK ⟨[], ⟨rfl, rfl⟩, ?_⟩
    exact fin _ rfl
  · ((conv => (whnf)); (try (refine AnyG.skip ?_; (conv => (whnf)))))
    refine ⟨_, _, WkL.rfl, WkOs.rfl, l, rfl, rfl, ?_⟩
    intro t _
    ((conv => (whnf)); (try (refine AnyG.skip ?_; (conv => (whnf)))))
    refine ⟨Nat.le_of_ble_eq_true rfl, ?_⟩
    ((conv => (whnf)); (try (refine AnyG.skip ?_; (conv => (whnf)))))
    refine ⟨_, _, WkL.rfl, WkOs.rfl, t, rfl, rfl, ?_⟩
    ((conv => (whnf)); (try (refine AnyG.skip ?_; (conv => (whnf)))))
    refine ⟨Nat.le_of_ble_eq_true rfl, ?_⟩
    ((conv => (whnf)); (try (refine AnyG.skip ?_; (conv => (whnf)))))
    refine ⟨_, _, WkL.rfl, WkOs.rfl, t, rfl, rfl, ?_⟩
    ((conv => (whnf)); (try (refine AnyG.skip ?_; (conv => (whnf)))))
    refine ⟨Nat.le_of_ble_eq_true rfl, ?_⟩
    ((conv => (whnf)); (try (refine AnyG.skip ?_; (conv => (whnf)))))
    refine Br.no (by simp) ?_
    ((conv => (whnf)); (try (refine AnyG.skip ?_; (conv => (whnf)))))
    refine ⟨fun h2 => ?_, fun h2 => ?_⟩
    · ((conv => (whnf)); (try (refine AnyG.skip ?_; (conv => (whnf)))))
      refine ⟨_, _, WkL.rfl, WkOs.rfl, t, rfl, rfl, ?_⟩
      ((conv => (whnf)); (try (refine AnyG.skip ?_; (conv => (whnf)))))
      refine ⟨Nat.le_of_ble_eq_true rfl, ?_⟩
      ((conv => (whnf)); (try (refine AnyG.skip ?_; (conv => (whnf)))))
      refine endK ⟨[], ⟨rfl, rfl⟩, ?_⟩
      exact fin _ (by simp)
    · have hok : tyOk 4 t = true := by simpa using h2
      obtain ⟨l1, l2, l3, ⟨mb, l4, l5⟩, l6, l7⟩ := law t hok
      ((conv => (whnf)); (try (refine AnyG.skip ?_; (conv => (whnf)))))
      refine ⟨_, _, WkL.rfl, WkOs.rfl, 4, t, by omega, hok, rfl, rfl, ?_⟩
      generalize hv : nought t = v at *
      ((conv => (whnf)); (try (refine AnyG.skip ?_; (conv => (whnf)))))
      refine ⟨Nat.le_of_ble_eq_true rfl, ?_⟩
      ((conv => (whnf)); (try (refine AnyG.skip ?_; (conv => (whnf)))))
      refine ⟨_, _, WkL.rfl, WkOs.rfl, v, rfl, rfl, ?_⟩
      ((conv => (whnf)); (try (refine AnyG.skip ?_; (conv => (whnf)))))
      refine ⟨Nat.le_of_ble_eq_true rfl, ?_⟩
      ((conv => (whnf)); (try (refine AnyG.skip ?_; (conv => (whnf)))))
      refine ⟨_, _, WkL.rfl, WkOs.rfl, valText v, l3, rfl, rfl, fun v' hv' => ?_, fun hn => by rw [l2] at hn; cases hn⟩
      have : v = v' := by rw [l2] at hv'; simpa using hv'
      subst this
      ((conv => (whnf)); (try (refine AnyG.skip ?_; (conv => (whnf)))))
      refine ⟨Nat.le_of_ble_eq_true rfl, ?_⟩
      ((conv => (whnf)); (try (refine AnyG.skip ?_; (conv => (whnf)))))
      refine ⟨_, _, WkL.rfl, WkOs.rfl, t, v, rfl, rfl, ?_⟩
      ((conv => (whnf)); (try (refine AnyG.skip ?_; (conv => (whnf)))))
      refine ⟨Nat.le_of_ble_eq_true rfl, ?_⟩
      ((conv => (whnf)); (try (refine AnyG.skip ?_; (conv => (whnf)))))
      refine Br.yes l1 ?_
      ((conv => (whnf)); (try (refine AnyG.skip ?_; (conv => (whnf)))))
      refine Br.yes rfl ?_
      ((conv => (whnf)); (try (refine AnyG.skip ?_; (conv => (whnf)))))
      refine ⟨_, _, WkL.rfl, WkOs.rfl, mb, v, v, l4, l5, rfl, rfl, ?_⟩
      ((conv => (whnf)); (try (refine AnyG.skip ?_; (conv => (whnf)))))
      refine ⟨Nat.le_of_ble_eq_true rfl, ?_⟩
      ((conv => (whnf)); (try (refine AnyG.skip ?_; (conv => (whnf)))))
      refine Br.yes l6 ?_
      ((conv => (whnf)); (try (refine AnyG.skip ?_; (conv => (whnf)))))
      refine ⟨_, _, WkL.cons Wk.rfl (WkL.cons (wk_v0 (-1)) WkL.nil), WkOs.rfl, t, .mk (-1) [], rfl, rfl, ?_⟩
      ((conv => (whnf)); (try (refine AnyG.skip ?_; (conv => (whnf)))))
      refine ⟨Nat.le_of_ble_eq_true rfl, ?_⟩
      ((conv => (whnf)); (try (refine AnyG.skip ?_; (conv => (whnf)))))
      refine endK ⟨[], ⟨rfl, rfl⟩, ?_⟩
      exact fin _ (by rw [l7]; rfl)
end Ab

namespace Ab
open Go Go.Proofs
set_option maxRecDepth 10000
set_option linter.unusedSimpArgs false
set_option linter.unusedVariables false

theorem digit_mem (k : Nat) (h : k < 10) : digits.contains (UInt8.ofNat (48 + k)) = true := by
  have : ∀ k, k < 10 → digits.contains (UInt8.ofNat (48 + k)) = true := by decide
  exact this k h

theorem dec_digits : ∀ (n u : Nat), u < n → ∀ b ∈ Lib.decDigits u, digits.contains b = true
  | 0, u, h, _, _ => by omega
  | n + 1, u, h, b, hb => by
    rw [Lib.decDigits] at hb
    split at hb
    · rename_i hu
      simp only [List.mem_singleton] at hb
      rw [hb]; exact digit_mem u hu
    · rename_i hu
      rcases List.mem_append.1 hb with hb | hb
      · exact dec_digits n (u / 10) (by omega) b hb
      · simp only [List.mem_singleton] at hb
        rw [hb]; exact digit_mem _ (Nat.mod_lt _ (by omega))

theorem parse_app : ∀ (l : List UInt8) (acc v k : Nat), k < 10 → v < 1844674407370955161 → Lib.parseUint10 acc l = .ok v → Lib.parseUint10 acc (l ++ [UInt8.ofNat (48 + k)]) = .ok (v * 10 + k)
  | [], acc, v, k, hk, hv, h => by
    simp only [Lib.parseUint10] at h
    injection h with h
    subst h
    have hd := digit_val k hk
    simp only [List.nil_append, Lib.parseUint10, hd]
    rw [if_pos (by omega), if_neg (by omega), if_neg (by omega)]
    congr 1; omega
  | c :: r, acc, v, k, hk, hv, h => by
    simp only [List.cons_append, Lib.parseUint10] at h ⊢
    split at h
    · rename_i hc
      rw [if_pos hc]
      split at h
      · cases h
      · rename_i h2
        rw [if_neg h2]
        split at h
        · cases h
        · rename_i h3
          rw [if_neg h3]
          exact parse_app r _ v k hk hv h
    · cases h

theorem parse_dec : ∀ (n u : Nat), u < n → u < 1000000 → Lib.parseUint10 0 (Lib.decDigits u) = .ok u
  | 0, u, h, _ => by omega
  | n + 1, u, h, h' => by
    rw [Lib.decDigits]
    split
    · rename_i hu
      have := parse_app [] 0 0 u hu (by omega) rfl
      simpa using this
    · rename_i hu
      have ih := parse_dec n (u / 10) (by omega) (by omega)
      have := parse_app _ 0 _ (u % 10) (Nat.mod_lt _ (by omega)) (by omega) ih
      rw [this]
      congr 1; omega

theorem atoi_dec (u : Nat) (h : u < 1000000) : Lib.atoiAll (Lib.decDigits u) = .ok (u : Int) := by
  have hp := parse_dec (u + 1) u (by omega) h
  have hd := dec_digits (u + 1) u (by omega)
  cases hl : Lib.decDigits u with
  | nil => exact absurd hl (dec_ne u)
  | cons c r =>
    rw [hl] at hp hd
    have hc := hd c (by simp)
    have hdig : ∀ b : UInt8, digits.contains b = true → b.toNat ≠ 43 ∧ b.toNat ≠ 45 := by
      intro b hb
      simp [digits] at hb
      rcases hb with rfl | rfl | rfl | rfl | rfl | rfl | rfl | rfl | rfl | rfl <;> decide
    obtain ⟨h1, h2⟩ := hdig c hc
    unfold Lib.atoiAll
    simp only [h1, h2, or_self, if_false, not_false_eq_true, true_and, false_and]
    have : Lib.parseMag (c :: r) = .ok u := by
      unfold Lib.parseMag
      rw [if_neg (by simp)]; exact hp
    rw [this]
    dsimp only
    rw [if_neg (by omega)]

/-- what follows begins with no digit -/
def stop (rest : List UInt8) : Prop := ∀ b, rest.head? = some b → digits.contains b = false

theorem trim_app (ds rest : List UInt8) (hd : ∀ b ∈ ds, digits.contains b = true) (hr : stop rest) : Lib.trimLeftS (ds ++ rest) digits = rest := by
  unfold Lib.trimLeftS
  induction ds with
  | nil =>
    cases rest with
    | nil => rfl
    | cons b r =>
      have := hr b rfl
      simp only [List.nil_append, List.dropWhile]
      rw [this]
  | cons c ds ih =>
    have := hd c (by simp)
    simp only [List.cons_append, List.dropWhile]
    rw [this]
    exact ih (fun b hb => hd b (by simp [hb]))

theorem pre_cons (c d : UInt8) (r : List UInt8) : Lib.hasPrefix (c :: r) [d] = (d == c) := by
  simp [Lib.hasPrefix, List.isPrefixOf]

/-- A value is read back from its text. -/
theorem rdv_vw : ∀ (d : Nat) (v : Vl), (vt d v).2 = true → ∀ rest, stop rest → rdv d (vw d v ++ rest) = some (v, rest)
  | d, .mk n ks, h, rest, hr => by
    obtain ⟨j, rfl, ⟨rfl, h0, h1⟩ | ⟨a, b, rfl, rfl, h1, h2⟩⟩ := vt_kids h
    · have hdig := dec_digits (n.toNat + 1) n.toNat (by omega)
      have htr := trim_app (Lib.decDigits n.toNat) rest hdig hr
      have hat := atoi_dec n.toNat (by omega)
      simp only [vw, itoa_nat h0, rdv]
      have hpre : Lib.hasPrefix (Lib.decDigits n.toNat ++ rest) [40] = false := by
        cases hl : Lib.decDigits n.toNat with
        | nil => exact absurd hl (dec_ne _)
        | cons c r =>
          rw [hl] at hdig
          have hc := hdig c (by simp)
          have hd2 : ∀ b : UInt8, digits.contains b = true → ((40 : UInt8) == b) = false := by
            intro b hb
            simp [digits] at hb
            rcases hb with rfl | rfl | rfl | rfl | rfl | rfl | rfl | rfl | rfl | rfl <;> decide
          rw [List.cons_append, pre_cons]
          exact hd2 c hc
      rw [hpre, htr]
      simp only [cond_false]
      have e : (Lib.decDigits n.toNat ++ rest).take ((Lib.decDigits n.toNat ++ rest).length - rest.length) = Lib.decDigits n.toNat := by
        simp
      rw [e, hat]
      have : (n.toNat : Int) = n := by omega
      simp [this]
    · have ha := rdv_vw j a h1
      have hb := rdv_vw j b h2
      have hj : j ≠ 0 := by rintro rfl; simp [vt] at h1
      have s1 : ∀ r, stop (44 :: r) := fun r b hb => by simp at hb; subst hb; decide
      have s2 : ∀ r, stop (41 :: r) := fun r b hb => by simp at hb; subst hb; decide
      have e : vw (j + 1) (.mk 0 [a, b]) ++ rest = 40 :: (vw j a ++ (44 :: (vw j b ++ (41 :: rest)))) := by simp [vw]
      rw [e]
      simp only [rdv, pre_cons, beq_self_eq_true, cond_true, if_neg hj, List.drop_succ_cons, List.drop_zero]
      rw [ha _ (s1 _)]
      simp only [pre_cons, beq_self_eq_true, cond_true, List.drop_succ_cons, List.drop_zero]
      rw [hb _ (s2 _)]
      simp only [pre_cons, beq_self_eq_true, cond_true, List.drop_succ_cons, List.drop_zero]

theorem valRead_text {v : Vl} (h : (vt 4 v).2 = true) : valRead (valText v) = some v := by
  have e : valText v = vw 4 v := by simp [valText, h]
  have := rdv_vw 4 v h [] (fun b hb => by simp at hb)
  rw [List.append_nil] at this
  simp [valRead, e, this]

theorem vt_nought : ∀ (d : Nat) (t : Ty), tyOk d t = true → (vt d (nought t)).2 = true ∧ sameTy (vt d (nought t)).1 t = true
  | d, .mk ks, h => by
    obtain ⟨j, rfl, hl, hk⟩ := tyOk_kids h
    match ks, hl, hk with
    | [], _, _ => simp [nought, vt, sameTy, sameTys]
    | [a], _, _ => simp [tyOk] at h
    | [a, b], _, hk =>
      obtain ⟨h1, h2⟩ := vt_nought j a (hk a (by simp))
      obtain ⟨h3, h4⟩ := vt_nought j b (hk b (by simp))
      simp [nought, vt, h1, h3, sameTy, sameTys, h2, h4]
    | _ :: _ :: _ :: _, hl, _ => simp at hl

theorem vlB_nought : ∀ (d : Nat) (t : Ty), tyOk d t = true → vlB d (nought t)
  | d, .mk ks, h => by
    obtain ⟨j, rfl, hl, hk⟩ := tyOk_kids h
    rw [nought_mk]
    refine ⟨by simp; omega, fun k hk' => ?_⟩
    simp only [List.mem_map] at hk'
    obtain ⟨t, ht, rfl⟩ := hk'
    exact vlB_nought j t (hk t ht)

theorem sameVl_rfl : ∀ (d : Nat) (v : Vl), vlB d v → sameVl v v = true
  | 0, _, h => h.elim
  | d + 1, .mk n ks, h => by
    obtain ⟨_, hk⟩ := h
    rw [sameVl_mk]
    have : ∀ l : List Vl, (∀ k ∈ l, vlB d k) → sameVls l l = true := by
      intro l
      induction l with
      | nil => intro _; simp [sameVls]
      | cons x xs ih =>
        intro hx
        simp [sameVls, sameVl_rfl d x (hx x (by simp)), ih (fun k hk => hx k (by simp [hk]))]
    simp [this ks hk]

theorem lawTV (t : Ty) (h : tyOk 4 t = true) : LawTV t := by
  obtain ⟨h1, h2⟩ := vt_nought 4 t h
  have hb := vlB_nought 4 t h
  refine ⟨by simp [valOk, h, h1, h2], valRead_text h1, ?_, ⟨4, by omega, hb⟩, sameVl_rfl 4 _ hb, by simp [valOk, vt]⟩
  have := vw_len 4 _ h1
  have h3 : Lw 4 ≤ 10000 := by decide
  simp only [valText, h1, cond_true]
  omega

/-- laws.FnTypeValue: true, whatever the input. -/
theorem v_l_FnTypeValue' {B : World} (hB : Tabs B) : Valid PG B l_FnTypeValue S_l_FnTypeValue := v_l_FnTypeValue hB lawTV
end Ab
