/- The reference's words for what is in form: contracts. -/
import Derived.Test.YtcajihigkjcgeaaGreatDoorSyn
import Derived.Test.YtcajihigkjcgeaaGreatDoorL3H
set_option linter.all false
namespace Ab
open Go Go.Proofs
set_option maxRecDepth 10000
set_option maxHeartbeats 4000000
set_option linter.all false

theorem len0 {α : Type} (l : List α) : (((l.length : Nat) : Int) == 0) = l.isEmpty := by cases l <;> simp <;> omega
theorem mt_str : ({ data := #[] } : ByteArray).data.toList = ([] : Bs) := rfl

/-- l2Name -/
def S_s_l2Name : Spec := fun args O Q => ∃ (s : Bs), args = [sv s] ∧ O = [] ∧ Q (bv (nameOk s)) []
theorem v_s_l2Name {B : World} : Valid PG B s_l2Name S_s_l2Name := by
  refine valid_of (Γ := []) wide tok AllValid.nil g_s_l2Name rfl rfl ?_
  rintro _ _ Q ⟨s, rfl, rfl, hQ⟩
  have fin : ∀ b : Bool, nameOk s = b → wkQ Q (bv b) [] := fun b h => ⟨_, _, Wk.rfl, WkOs.rfl, by subst h; exact hQ⟩
  refine wG ?_
  refine brG1 (fun h1 => ?_) (fun h1 => ?_)
  · refine endK ⟨[], ⟨rfl, rfl⟩, ?_⟩
    refine wG ?_
    exact fin _ (by simp [nameOk]; omega)
  refine brG1 (fun h2 => ?_) (fun h2 => ?_)
  · refine endK ⟨[], ⟨rfl, rfl⟩, ?_⟩
    refine wG ?_
    exact fin _ (by simp [nameOk]; omega)
  refine ⟨[], Int, fun i => 0 ≤ i ∧ i ≤ s.length ∧ (s.take i.toNat).all (cIn 97 122) = true, fun i => (s.length - i).toNat, fun i => [(3, iv i)], fun i => [], 0, ⟨by omega, by omega, by simp⟩, ?_⟩
  refine wG ?_
  refine ⟨Meet.mk rfl rfl WkOs.rfl ⟨Wk.rfl, trivial⟩ rfl, ?_⟩
  rintro i ⟨i0, i1, i2⟩
  refine wG ?_
  refine brG1 (fun h3 => ?_) (fun h3 => ?_)
  · have hi : i.toNat < s.length := by omega
    have e3 : (i + 1).toNat = i.toNat + 1 := by omega
    have bad : cIn 97 122 s[i.toNat] = false → nameOk s = false := fun h => by
      have : s.all (cIn 97 122) = false := List.all_eq_false.2 ⟨_, List.getElem_mem hi, by rw [h]; simp⟩
      simp [nameOk, this]
    first | refine str_at (by omega) (by (try simp only [List.length_append, List.length_cons, List.length_nil, List.length_map, List.length_take, List.length_drop, maxRow, byteRows_len, Ty.kids, Ty.kids_mk]); omega) ?_ | refine str_at' (by (try simp only [List.length_append, List.length_cons, List.length_nil, List.length_map, List.length_take, List.length_drop, maxRow, byteRows_len, Ty.kids, Ty.kids_mk]); omega) ?_
    refine wG ?_
    refine brG1 (fun h4 => ?_) (fun h4 => ?_)
    · refine endK ⟨[], ⟨rfl, rfl⟩, ?_⟩
      refine wG ?_
      exact fin _ (bad (by simp [cIn]; omega))
    first | refine str_at (by omega) (by (try simp only [List.length_append, List.length_cons, List.length_nil, List.length_map, List.length_take, List.length_drop, maxRow, byteRows_len, Ty.kids, Ty.kids_mk]); omega) ?_ | refine str_at' (by (try simp only [List.length_append, List.length_cons, List.length_nil, List.length_map, List.length_take, List.length_drop, maxRow, byteRows_len, Ty.kids, Ty.kids_mk]); omega) ?_
    refine wG ?_
    refine brG1 (fun h5 => ?_) (fun h5 => ?_)
    · refine endK ⟨[], ⟨rfl, rfl⟩, ?_⟩
      refine wG ?_
      exact fin _ (bad (by simp [cIn]; omega))
    refine goG1 ?_
    refine ⟨i + 1, ⟨by omega, by omega, e3 ▸ take_all hi i2 (by simp [cIn]; omega)⟩, by dsimp only; omega, [], Meet.mk rfl rfl WkOs.rfl ⟨Wk.rfl, trivial⟩ rfl⟩
  · refine endK ⟨[], ⟨rfl, rfl⟩, ?_⟩
    refine wG ?_
    rw [List.take_of_length_le (by omega)] at i2
    exact fin _ (by simp [nameOk, i2]; omega)

/-- l2Place -/
def S_s_l2Place : Spec := fun args O Q => ∃ (p : Pl), args = [aPl p] ∧ O = [] ∧ Q (bv (plOk p)) []
theorem v_s_l2Place {B : World} : Valid PG B s_l2Place S_s_l2Place := by
  refine valid_of (Γ := [(s_l2Name, ⟨[], S_s_l2Name⟩), (s_l6In, ⟨[], S_s_l6In⟩)]) wide tok ((AllValid.nil.cons v_s_l6In).cons v_s_l2Name) g_s_l2Place rfl rfl ?_
  rintro _ _ Q ⟨⟨n, p⟩, rfl, rfl, hQ⟩
  have fin : ∀ b : Bool, plOk ⟨n, p⟩ = b → wkQ Q (bv b) [] := fun b h => ⟨_, _, Wk.rfl, WkOs.rfl, by subst h; exact hQ⟩
  refine wG ?_
  refine ⟨_, _, WkL.rfl, WkOs.rfl, n, rfl, rfl, ?_⟩
  refine goG1 ?_
  refine brG1 (fun h1 => ?_) (fun h1 => ?_)
  · refine endK ⟨[], ⟨rfl, rfl⟩, ?_⟩
    refine wG ?_
    exact fin _ (by simp [plOk, h1])
  refine brG1 (fun h2 => ?_) (fun h2 => ?_)
  · refine endK ⟨[], ⟨rfl, rfl⟩, ?_⟩
    refine wG ?_
    exact fin _ (by simp [plOk, pathOk]; omega)
  refine ⟨[], Int, fun i => 0 ≤ i ∧ i ≤ p.length ∧ (p.take i.toNat).all stepOk = true, fun i => (p.length - i).toNat, fun i => [(3, iv i)], fun i => [bPl ⟨n, p⟩], 0, ⟨by omega, by omega, by simp⟩, ?_⟩
  refine wG ?_
  refine ⟨Meet.mk rfl rfl WkOs.rfl ⟨Wk.rfl, trivial⟩ rfl, ?_⟩
  rintro i ⟨i0, i1, i2⟩
  refine wG ?_
  refine brG1 (fun h3 => ?_) (fun h3 => ?_)
  · have hi : i.toNat < p.length := by omega
    have e3 : (i + 1).toNat = i.toNat + 1 := by omega
    first | refine idx_map (f := dI) (by omega) (by (try simp only [List.length_append, List.length_cons, List.length_nil, List.length_map, List.length_take, List.length_drop, maxRow, byteRows_len, Ty.kids, Ty.kids_mk]); omega) ?_ | refine idx_map' (f := dI) (by (try simp only [List.length_append, List.length_cons, List.length_nil, List.length_map, List.length_take, List.length_drop, maxRow, byteRows_len, Ty.kids, Ty.kids_mk]); omega) ?_
    refine wG ?_
    refine ⟨_, _, WkL.rfl, WkOs.rfl, p[i.toNat], 0, 1, rfl, rfl, ?_⟩
    refine goG1 ?_
    refine ⟨fun h4 => ?_, fun h4 => ?_⟩
    · have h4 : stepOk p[i.toNat] = false := of_not_t h4
      refine wG ?_
      refine endK ⟨[], ⟨rfl, rfl⟩, ?_⟩
      refine wG ?_
      have : p.all stepOk = false := List.all_eq_false.2 ⟨_, List.getElem_mem hi, by rw [h4]; simp⟩
      exact fin _ (by simp [plOk, pathOk, this])
    · have h4 : stepOk p[i.toNat] = true := of_not_f h4
      refine wG ?_
      refine goG1 ?_
      refine ⟨i + 1, ⟨by omega, by omega, e3 ▸ take_all hi i2 h4⟩, by dsimp only; omega, [], Meet.mk rfl rfl WkOs.rfl ⟨Wk.rfl, trivial⟩ rfl⟩
  · refine endK ⟨[], ⟨rfl, rfl⟩, ?_⟩
    refine wG ?_
    rw [List.take_of_length_le (by omega)] at i2
    exact fin _ (by simp [plOk, pathOk, h1, i2]; omega)

/-- l2None -/
def S_s_l2None : Spec := fun args O Q => ∃ (p : Pl), args = [aPl p] ∧ O = [] ∧ Q (bv (plNo p)) []
theorem v_s_l2None {B : World} : Valid PG B s_l2None S_s_l2None := by
  refine valid_of (Γ := []) wide tok AllValid.nil g_s_l2None rfl rfl ?_
  rintro _ _ Q ⟨⟨n, p⟩, rfl, rfl, hQ⟩
  have fin : ∀ b : Bool, plNo ⟨n, p⟩ = b → wkQ Q (bv b) [] := fun b h => ⟨_, _, Wk.rfl, WkOs.rfl, by subst h; exact hQ⟩
  refine wG ?_
  repeat' (first
    | refine stG1 ?_
    | (refine Br.yes rfl ?_; refine wG ?_)
    | (refine Br.no rfl ?_; refine wG ?_)
    | (refine br_dec (fun h => ?_) (fun h => ?_) <;> refine wG ?_)
    | (refine br_eq (fun h => ?_) (fun h => ?_) <;> refine wG ?_)
    | (refine br_ne (fun h => ?_) (fun h => ?_) <;> refine wG ?_)
    | (refine br_neq (fun h => ?_) (fun h => ?_) <;> refine wG ?_)
    | (refine br_not (fun h => ?_) (fun h => ?_) <;> refine wG ?_)
    | (refine Br.mk (fun h => ?_) (fun h => ?_) <;> refine wG ?_)
    | (refine endK ⟨[], ⟨rfl, rfl⟩, ?_⟩; refine wG ?_; refine fin _ ?_)
    )
  all_goals (try simp only [List.length_map, len0, mt_str, Xp.kind, Xp.num, Xp.pl, Xp.kids] at *)
  all_goals (simp_all [plNo, xpNo, Xp.kind, Xp.num, Xp.pl, Xp.kids])

/-- l2NoExpr -/
def S_s_l2NoExpr : Spec := fun args O Q => ∃ (x : Xp), args = [aXp x] ∧ O = [] ∧ Q (bv (xpNo x)) []
theorem v_s_l2NoExpr {B : World} : Valid PG B s_l2NoExpr S_s_l2NoExpr := by
  refine valid_of (Γ := [(s_l2None, ⟨[], S_s_l2None⟩)]) wide tok (AllValid.nil.cons v_s_l2None) g_s_l2NoExpr rfl rfl ?_
  rintro _ _ Q ⟨⟨k, m, p, ks⟩, rfl, rfl, hQ⟩
  have fin : ∀ b : Bool, xpNo (.mk k m p ks) = b → wkQ Q (bv b) [] := fun b h => ⟨_, _, Wk.rfl, WkOs.rfl, by subst h; exact hQ⟩
  refine wG ?_
  repeat' (first
    | refine stG1 ?_
    | (refine Br.yes rfl ?_; refine wG ?_)
    | (refine Br.no rfl ?_; refine wG ?_)
    | (refine ⟨_, _, WkL.rfl, WkOs.rfl, p, rfl, rfl, ?_⟩; refine wG ?_)
    | (refine br_dec (fun h => ?_) (fun h => ?_) <;> refine wG ?_)
    | (refine br_eq (fun h => ?_) (fun h => ?_) <;> refine wG ?_)
    | (refine br_ne (fun h => ?_) (fun h => ?_) <;> refine wG ?_)
    | (refine br_neq (fun h => ?_) (fun h => ?_) <;> refine wG ?_)
    | (refine br_not (fun h => ?_) (fun h => ?_) <;> refine wG ?_)
    | (refine Br.mk (fun h => ?_) (fun h => ?_) <;> refine wG ?_)
    | (refine endK ⟨[], ⟨rfl, rfl⟩, ?_⟩; refine wG ?_; refine fin _ ?_)
    )
  all_goals (try simp only [List.length_map, len0, mt_str, Xp.kind, Xp.num, Xp.pl, Xp.kids] at *)
  all_goals (simp_all [plNo, xpNo, Xp.kind, Xp.num, Xp.pl, Xp.kids])
theorem xpFm_bad {n : Nat} {k m : Int} {p : Pl} {ks : List Xp} {c : Xp} (hc : c ∈ ks) (h : xpFm n c = false) : xpFm (n + 1) (.mk k m p ks) = false := by
  have h1 : ks.isEmpty = false := by cases ks with | nil => simp at hc | cons => rfl
  have h2 : ks.all (xpFm n) = false := List.all_eq_false.2 ⟨_, hc, by rw [h]; simp⟩
  rw [xpFm]
  split
  · simp [h1]
  · split
    · simp [h1]
    · simp [h2]
theorem xpFm_1 (n : Nat) (m : Int) (p : Pl) (ks : List Xp) : xpFm (n + 1) (.mk 1 m p ks) = (decide (0 ≤ m) && decide (m ≤ 9999) && plNo p && ks.isEmpty) := by simp [xpFm]
theorem xpFm_2 (n : Nat) (m : Int) (p : Pl) (ks : List Xp) : xpFm (n + 1) (.mk 2 m p ks) = (m == 0 && plOk p && ks.isEmpty) := by simp [xpFm]
theorem xpFm_o (n : Nat) {k m : Int} (p : Pl) (ks : List Xp) (h1 : (k == 1) = false) (h2 : (k == 2) = false) : xpFm (n + 1) (.mk k m p ks) = (decide (3 ≤ k) && decide (k ≤ 6) && m == 0 && plNo p && ks.length == 2 && ks.all (xpFm n)) := by
  rw [xpFm, if_neg (by simpa using h1), if_neg (by simpa using h2)]
theorem len2 {α : Type} (l : List α) : (((l.length : Nat) : Int) == 2) = (l.length == 2) := by
  rw [Bool.eq_iff_iff]; simp; omega
/-- l2Expr -/
def S_s_l2Expr (n : Nat) : Spec := fun args O Q => ∃ (x : Xp) (d : Int), args = [aXp x, iv d] ∧ O = [] ∧ 0 ≤ d ∧ d < n ∧ n ≤ 100 ∧ Q (bv (xpFm d.toNat x)) []
theorem v_s_l2Expr {B : World} : ∀ n, Valid PG B s_l2Expr (S_s_l2Expr n) := by
  refine valid_lt (fun args O Q ⟨x, d, _, _, h1, h2, _⟩ => by omega) fun n ih => ?_
  refine valid_of (Γ := [(s_l2None, ⟨[], S_s_l2None⟩), (s_l2Place, ⟨[], S_s_l2Place⟩), (s_l6In, ⟨[], S_s_l6In⟩), (s_l2Expr, ⟨[], S_s_l2Expr n⟩)]) wide tok ((((AllValid.nil.cons ih).cons v_s_l6In).cons v_s_l2Place).cons v_s_l2None) g_s_l2Expr rfl rfl ?_
  rintro _ _ Q ⟨⟨k, m, p, ks⟩, d, rfl, rfl, hd0, hdn, hn, hQ⟩
  refine wG ?_
  refine brG1 (fun h1 => ?_) (fun h1 => ?_)
  · refine endK ⟨[], ⟨rfl, rfl⟩, ?_⟩
    refine wG ?_
    refine ⟨_, _, Wk.of_eq ?_, WkOs.rfl, hQ⟩
    have : d.toNat = 0 := by omega
    rw [this]; rfl
  obtain ⟨D, hD⟩ : ∃ D, d.toNat = D + 1 := ⟨d.toNat - 1, by omega⟩
  have hD1 : (d - 1).toNat = D := by omega
  rw [hD] at hQ
  have fin : ∀ b : Bool, xpFm (D + 1) (.mk k m p ks) = b → wkQ Q (bv b) [] := fun b h => ⟨_, _, Wk.rfl, WkOs.rfl, by subst h; exact hQ⟩
  clear hQ
  have big : (ks.length : Int) > 2 → ks.isEmpty = false ∧ (ks.length == 2) = false := fun h => by
    cases ks with
    | nil => simp at h
    | cons a l => exact ⟨rfl, by simp at h ⊢; omega⟩
  have em : ks.isEmpty = (((ks.map dXp).length : Int) == 0) := by rw [List.length_map, len0]
  by_cases k1 : k = 1
  · subst k1
    refine wG ?_
    repeat' (first
      | refine stG1 ?_
      | (refine Br.yes rfl ?_; refine wG ?_)
      | (refine Br.no rfl ?_; refine wG ?_)
      | (refine ⟨_, _, WkL.rfl, WkOs.rfl, p, rfl, rfl, ?_⟩; refine wG ?_)
      | (refine br_dec (fun h => ?_) (fun h => ?_) <;> refine wG ?_)
      | (refine br_eq (fun h => ?_) (fun h => ?_) <;> refine wG ?_)
      | (refine br_ne (fun h => ?_) (fun h => ?_) <;> refine wG ?_)
      | (refine br_neq (fun h => ?_) (fun h => ?_) <;> refine wG ?_)
      | (refine br_not (fun h => ?_) (fun h => ?_) <;> refine wG ?_)
      | (refine Br.mk (fun h => ?_) (fun h => ?_) <;> refine wG ?_)
      | (refine endK ⟨[], ⟨rfl, rfl⟩, ?_⟩; refine wG ?_; refine fin _ ?_)
      )
    · rw [xpFm_1]; simp [h]
    · rw [xpFm_1]; simp [(big (by simpa [Xp.kids] using h)).1]
    have hks : ks.length ≤ 2 := by have h := h; simp [Xp.kids] at h; omega
    refine ⟨[], Int, fun i => 0 ≤ i ∧ i ≤ ks.length ∧ (ks.take i.toNat).all (xpFm D) = true, fun i => (ks.length - i).toNat, fun i => [(5, iv i)], fun i => [.cells [iv 1, iv m, sv p.name, .d (.sl 1 (p.path.map dI)), .d (.sl 5 (ks.map dXp))]], 0, ⟨by omega, by omega, by simp⟩, ?_⟩
    refine wG ?_
    refine ⟨Meet.mk rfl rfl WkOs.rfl ⟨Wk.rfl, trivial⟩ rfl, ?_⟩
    rintro i ⟨i0, i1, i2⟩
    refine wG ?_
    refine brG1 (fun h3 => ?_) (fun h3 => ?_)
    · have h3 : i < (ks.length : Int) := by simpa [Xp.kids] using h3
      have hi : i.toNat < ks.length := by omega
      have e3 : (i + 1).toNat = i.toNat + 1 := by omega
      have hkm := List.getElem_mem hi
      have hx : (ks.map dXp)[i.toNat]? = some (dXp ks[i.toNat]) := by simp [hi]
      refine Req.mk i0 ?_
      refine ⟨_, hx, ?_⟩
      rw [dXp_eq]
      refine wG ?_
      refine goG1 ?_
      refine ⟨_, _, WkL.rfl, WkOs.rfl, ks[i.toNat], d - 1, rfl, rfl, by omega, by omega, by omega, ?_⟩
      rw [hD1]
      refine goG1 ?_
      refine ⟨fun h4 => ?_, fun h4 => ?_⟩
      · have h4 : xpFm D ks[i.toNat] = false := of_not_t h4
        refine wG ?_
        refine endK ⟨[], ⟨rfl, rfl⟩, ?_⟩
        refine wG ?_
        exact fin _ (xpFm_bad hkm h4)
      · have h4 : xpFm D ks[i.toNat] = true := of_not_f h4
        refine wG ?_
        refine goG1 ?_
        refine ⟨i + 1, ⟨by omega, by omega, e3 ▸ take_all hi i2 h4⟩, by dsimp only; omega, [], Meet.mk rfl rfl WkOs.rfl ⟨Wk.rfl, trivial⟩ rfl⟩
    have h3 : ¬ i < (ks.length : Int) := by simpa [Xp.kids] using h3
    rw [List.take_of_length_le (by omega)] at i2
    refine wG ?_
    repeat' (first
      | refine stG1 ?_
      | (refine Br.yes rfl ?_; refine wG ?_)
      | (refine Br.no rfl ?_; refine wG ?_)
      | (refine ⟨_, _, WkL.rfl, WkOs.rfl, m, 0, 9999, rfl, rfl, ?_⟩; refine wG ?_)
      | (refine br_dec (fun h => ?_) (fun h => ?_) <;> refine wG ?_)
      | (refine br_eq (fun h => ?_) (fun h => ?_) <;> refine wG ?_)
      | (refine br_ne (fun h => ?_) (fun h => ?_) <;> refine wG ?_)
      | (refine br_neq (fun h => ?_) (fun h => ?_) <;> refine wG ?_)
      | (refine br_not (fun h => ?_) (fun h => ?_) <;> refine wG ?_)
      | (refine Br.mk (fun h => ?_) (fun h => ?_) <;> refine wG ?_)
      | (refine endK ⟨[], ⟨rfl, rfl⟩, ?_⟩; refine wG ?_; refine fin _ ?_)
      )
    all_goals rw [xpFm_1, em]
    all_goals simp_all [Xp.num, Xp.kids, Xp.pl]
    all_goals omega
  have k1' : (k == 1) = false := by simpa using k1
  have k1n : (k != 1) = true := by simpa using k1
  by_cases k2 : k = 2
  · subst k2
    refine wG ?_
    repeat' (first
      | refine stG1 ?_
      | (refine Br.yes rfl ?_; refine wG ?_)
      | (refine Br.no rfl ?_; refine wG ?_)
      | (refine ⟨_, _, WkL.rfl, WkOs.rfl, p, rfl, rfl, ?_⟩; refine wG ?_)
      | (refine br_dec (fun h => ?_) (fun h => ?_) <;> refine wG ?_)
      | (refine br_eq (fun h => ?_) (fun h => ?_) <;> refine wG ?_)
      | (refine br_ne (fun h => ?_) (fun h => ?_) <;> refine wG ?_)
      | (refine br_neq (fun h => ?_) (fun h => ?_) <;> refine wG ?_)
      | (refine br_not (fun h => ?_) (fun h => ?_) <;> refine wG ?_)
      | (refine Br.mk (fun h => ?_) (fun h => ?_) <;> refine wG ?_)
      | (refine endK ⟨[], ⟨rfl, rfl⟩, ?_⟩; refine wG ?_; refine fin _ ?_)
      )
    · rw [xpFm_2]
      have h : m ≠ 0 := h
      simp [h]
    · rw [xpFm_2]; simp [(big (by simpa [Xp.kids] using h)).1]
    have hks : ks.length ≤ 2 := by have h := h; simp [Xp.kids] at h; omega
    refine ⟨[], Int, fun i => 0 ≤ i ∧ i ≤ ks.length ∧ (ks.take i.toNat).all (xpFm D) = true, fun i => (ks.length - i).toNat, fun i => [(5, iv i)], fun i => [.cells [iv 2, iv m, sv p.name, .d (.sl 1 (p.path.map dI)), .d (.sl 5 (ks.map dXp))]], 0, ⟨by omega, by omega, by simp⟩, ?_⟩
    refine wG ?_
    refine ⟨Meet.mk rfl rfl WkOs.rfl ⟨Wk.rfl, trivial⟩ rfl, ?_⟩
    rintro i ⟨i0, i1, i2⟩
    refine wG ?_
    refine brG1 (fun h3 => ?_) (fun h3 => ?_)
    · have h3 : i < (ks.length : Int) := by simpa [Xp.kids] using h3
      have hi : i.toNat < ks.length := by omega
      have e3 : (i + 1).toNat = i.toNat + 1 := by omega
      have hkm := List.getElem_mem hi
      have hx : (ks.map dXp)[i.toNat]? = some (dXp ks[i.toNat]) := by simp [hi]
      refine Req.mk i0 ?_
      refine ⟨_, hx, ?_⟩
      rw [dXp_eq]
      refine wG ?_
      refine goG1 ?_
      refine ⟨_, _, WkL.rfl, WkOs.rfl, ks[i.toNat], d - 1, rfl, rfl, by omega, by omega, by omega, ?_⟩
      rw [hD1]
      refine goG1 ?_
      refine ⟨fun h4 => ?_, fun h4 => ?_⟩
      · have h4 : xpFm D ks[i.toNat] = false := of_not_t h4
        refine wG ?_
        refine endK ⟨[], ⟨rfl, rfl⟩, ?_⟩
        refine wG ?_
        exact fin _ (xpFm_bad hkm h4)
      · have h4 : xpFm D ks[i.toNat] = true := of_not_f h4
        refine wG ?_
        refine goG1 ?_
        refine ⟨i + 1, ⟨by omega, by omega, e3 ▸ take_all hi i2 h4⟩, by dsimp only; omega, [], Meet.mk rfl rfl WkOs.rfl ⟨Wk.rfl, trivial⟩ rfl⟩
    have h3 : ¬ i < (ks.length : Int) := by simpa [Xp.kids] using h3
    rw [List.take_of_length_le (by omega)] at i2
    refine wG ?_
    repeat' (first
      | refine stG1 ?_
      | (refine Br.yes rfl ?_; refine wG ?_)
      | (refine Br.no rfl ?_; refine wG ?_)
      | (refine ⟨_, _, WkL.rfl, WkOs.rfl, p, rfl, rfl, ?_⟩; refine wG ?_)
      | (refine br_dec (fun h => ?_) (fun h => ?_) <;> refine wG ?_)
      | (refine br_eq (fun h => ?_) (fun h => ?_) <;> refine wG ?_)
      | (refine br_ne (fun h => ?_) (fun h => ?_) <;> refine wG ?_)
      | (refine br_neq (fun h => ?_) (fun h => ?_) <;> refine wG ?_)
      | (refine br_not (fun h => ?_) (fun h => ?_) <;> refine wG ?_)
      | (refine Br.mk (fun h => ?_) (fun h => ?_) <;> refine wG ?_)
      | (refine endK ⟨[], ⟨rfl, rfl⟩, ?_⟩; refine wG ?_; refine fin _ ?_)
      )
    all_goals rw [xpFm_2, em]
    all_goals simp_all [Xp.num, Xp.kids, Xp.pl]
  have k2' : (k == 2) = false := by simpa using k2
  have k2n : (k != 2) = true := by simpa using k2
  · refine wG ?_
    repeat' (first
      | refine stG1 ?_
      | (refine Br.yes rfl ?_; refine wG ?_)
      | (refine Br.no rfl ?_; refine wG ?_)
      | (refine ⟨_, _, WkL.rfl, WkOs.rfl, p, rfl, rfl, ?_⟩; refine wG ?_)
      | (refine Br.no k1' ?_; (((conv => (whnf)); (try (refine AnyG.skip ?_; (conv => (whnf)))))))
      | (refine Br.no k2' ?_; (((conv => (whnf)); (try (refine AnyG.skip ?_; (conv => (whnf)))))))
      | (refine Br.yes k1n ?_; (((conv => (whnf)); (try (refine AnyG.skip ?_; (conv => (whnf)))))))
      | (refine Br.yes k2n ?_; (((conv => (whnf)); (try (refine AnyG.skip ?_; (conv => (whnf)))))))
      | (refine br_dec (fun h => ?_) (fun h => ?_) <;> refine wG ?_)
      | (refine br_eq (fun h => ?_) (fun h => ?_) <;> refine wG ?_)
      | (refine br_ne (fun h => ?_) (fun h => ?_) <;> refine wG ?_)
      | (refine br_neq (fun h => ?_) (fun h => ?_) <;> refine wG ?_)
      | (refine br_not (fun h => ?_) (fun h => ?_) <;> refine wG ?_)
      | (refine Br.mk (fun h => ?_) (fun h => ?_) <;> refine wG ?_)
      | (refine endK ⟨[], ⟨rfl, rfl⟩, ?_⟩; refine wG ?_; refine fin _ ?_)
      )
    · rw [xpFm_o _ _ _ k1' k2']
      have h : m ≠ 0 := h
      simp [h]
    · rw [xpFm_o _ _ _ k1' k2']; simp [h]
    · rw [xpFm_o _ _ _ k1' k2']; simp [(big (by simpa [Xp.kids] using h)).2]
    rename_i hm hpl
    have hks : ks.length ≤ 2 := by have h := h; simp [Xp.kids] at h; omega
    refine ⟨[], Int, fun i => 0 ≤ i ∧ i ≤ ks.length ∧ (ks.take i.toNat).all (xpFm D) = true, fun i => (ks.length - i).toNat, fun i => [(5, iv i)], fun i => [.cells [iv k, iv m, sv p.name, .d (.sl 1 (p.path.map dI)), .d (.sl 5 (ks.map dXp))]], 0, ⟨by omega, by omega, by simp⟩, ?_⟩
    refine wG ?_
    refine ⟨Meet.mk rfl rfl WkOs.rfl ⟨Wk.rfl, trivial⟩ rfl, ?_⟩
    rintro i ⟨i0, i1, i2⟩
    refine wG ?_
    refine brG1 (fun h3 => ?_) (fun h3 => ?_)
    · have h3 : i < (ks.length : Int) := by simpa [Xp.kids] using h3
      have hi : i.toNat < ks.length := by omega
      have e3 : (i + 1).toNat = i.toNat + 1 := by omega
      have hkm := List.getElem_mem hi
      have hx : (ks.map dXp)[i.toNat]? = some (dXp ks[i.toNat]) := by simp [hi]
      refine Req.mk i0 ?_
      refine ⟨_, hx, ?_⟩
      rw [dXp_eq]
      refine wG ?_
      refine goG1 ?_
      refine ⟨_, _, WkL.rfl, WkOs.rfl, ks[i.toNat], d - 1, rfl, rfl, by omega, by omega, by omega, ?_⟩
      rw [hD1]
      refine goG1 ?_
      refine ⟨fun h4 => ?_, fun h4 => ?_⟩
      · have h4 : xpFm D ks[i.toNat] = false := of_not_t h4
        refine wG ?_
        refine endK ⟨[], ⟨rfl, rfl⟩, ?_⟩
        refine wG ?_
        exact fin _ (xpFm_bad hkm h4)
      · have h4 : xpFm D ks[i.toNat] = true := of_not_f h4
        refine wG ?_
        refine goG1 ?_
        refine ⟨i + 1, ⟨by omega, by omega, e3 ▸ take_all hi i2 h4⟩, by dsimp only; omega, [], Meet.mk rfl rfl WkOs.rfl ⟨Wk.rfl, trivial⟩ rfl⟩
    have h3 : ¬ i < (ks.length : Int) := by simpa [Xp.kids] using h3
    rw [List.take_of_length_le (by omega)] at i2
    refine wG ?_
    repeat' (first
      | refine stG1 ?_
      | (refine Br.yes rfl ?_; refine wG ?_)
      | (refine Br.no rfl ?_; refine wG ?_)
      | (refine ⟨_, _, WkL.rfl, WkOs.rfl, k, 3, 6, rfl, rfl, ?_⟩; refine wG ?_)
      | (refine Br.no k1' ?_; (((conv => (whnf)); (try (refine AnyG.skip ?_; (conv => (whnf)))))))
      | (refine Br.no k2' ?_; (((conv => (whnf)); (try (refine AnyG.skip ?_; (conv => (whnf)))))))
      | (refine br_dec (fun h => ?_) (fun h => ?_) <;> refine wG ?_)
      | (refine br_eq (fun h => ?_) (fun h => ?_) <;> refine wG ?_)
      | (refine br_ne (fun h => ?_) (fun h => ?_) <;> refine wG ?_)
      | (refine br_neq (fun h => ?_) (fun h => ?_) <;> refine wG ?_)
      | (refine br_not (fun h => ?_) (fun h => ?_) <;> refine wG ?_)
      | (refine Br.mk (fun h => ?_) (fun h => ?_) <;> refine wG ?_)
      | (refine endK ⟨[], ⟨rfl, rfl⟩, ?_⟩; refine wG ?_; refine fin _ ?_)
      )
    all_goals rw [xpFm_o _ _ _ k1' k2']
    all_goals have hm : (m == 0) = true := by simpa [Xp.num] using hm
    · have el : (((ks.map dXp).length : Int) == 2) = (ks.length == 2) := by rw [List.length_map, len2]
      rw [h, hm, hpl, i2, el]; simp
    · rw [h]; rfl

end Ab

/- The reference's words for what is in form, second part: statements. -/
namespace Ab
open Go Go.Proofs
set_option maxRecDepth 10000
set_option maxHeartbeats 4000000
set_option linter.all false

/-- l2Args -/
def S_s_l2Args : Spec := fun args O Q => ∃ (l : List Ar), args = [.d (.sl 8 (l.map dAr))] ∧ O = [] ∧ Q (bv (argsFm l)) []
theorem v_s_l2Args {B : World} : Valid PG B s_l2Args S_s_l2Args := by
  refine valid_of (Γ := [(s_l2Place, ⟨[], S_s_l2Place⟩), (s_l2NoExpr, ⟨[], S_s_l2NoExpr⟩), (s_l2None, ⟨[], S_s_l2None⟩), (s_l2Expr, ⟨[], S_s_l2Expr 10⟩)]) wide tok ((((AllValid.nil.cons (v_s_l2Expr 10)).cons v_s_l2None).cons v_s_l2NoExpr).cons v_s_l2Place) g_s_l2Args rfl rfl ?_
  rintro _ _ Q ⟨l, rfl, rfl, hQ⟩
  have fin : ∀ b : Bool, argsFm l = b → wkQ Q (bv b) [] := fun b h => ⟨_, _, Wk.rfl, WkOs.rfl, by subst h; exact hQ⟩
  refine wG ?_
  refine brG1 (fun h1 => ?_) (fun h1 => ?_)
  · refine endK ⟨[], ⟨rfl, rfl⟩, ?_⟩
    refine wG ?_
    exact fin _ (by simp [argsFm]; omega)
  have hl : l.length ≤ 4 := by simp at h1; omega
  refine ⟨[], Int, fun i => 0 ≤ i ∧ i ≤ l.length ∧ (l.take i.toNat).all arFm = true, fun i => (l.length - i).toNat, fun i => [(3, iv i)], fun i => [], 0, ⟨by omega, by omega, by simp⟩, ?_⟩
  refine wG ?_
  refine ⟨Meet.mk rfl rfl WkOs.rfl ⟨Wk.rfl, trivial⟩ rfl, ?_⟩
  rintro i ⟨i0, i1, i2⟩
  refine wG ?_
  refine brG1 (fun h3 => ?_) (fun h3 => ?_)
  · have h3 : i < (l.length : Int) := by simpa using h3
    have hi : i.toNat < l.length := by omega
    have e3 : (i + 1).toNat = i.toNat + 1 := by omega
    have hkm := List.getElem_mem hi
    have hx : (l.map dAr)[i.toNat]? = some (dAr l[i.toNat]) := by simp [hi]
    have yes : arFm l[i.toNat] = true → ((l.take (i + 1).toNat).all arFm = true) := fun h => e3 ▸ take_all hi i2 h
    have bad : arFm l[i.toNat] = false → argsFm l = false := fun h => by
      have : l.all arFm = false := List.all_eq_false.2 ⟨_, hkm, by rw [h]; simp⟩
      simp [argsFm, this]
    refine Req.mk i0 ?_
    refine ⟨_, hx, ?_⟩
    rw [dAr_eq]
    generalize l[i.toNat] = a at *
    obtain ⟨b, p, x⟩ := a
    refine wG ?_
    cases b with
    | true =>
      repeat' (first
        | refine stG1 ?_
        | (refine Br.yes rfl ?_; refine wG ?_)
        | (refine Br.no rfl ?_; refine wG ?_)
        | (refine ⟨_, _, WkL.rfl, WkOs.rfl, p, rfl, rfl, ?_⟩; refine wG ?_)
        | (refine ⟨_, _, WkL.rfl, WkOs.rfl, x, rfl, rfl, ?_⟩; refine wG ?_)
        | (refine br_dec (fun h => ?_) (fun h => ?_) <;> refine wG ?_)
        | (refine br_eq (fun h => ?_) (fun h => ?_) <;> refine wG ?_)
        | (refine br_ne (fun h => ?_) (fun h => ?_) <;> refine wG ?_)
        | (refine br_neq (fun h => ?_) (fun h => ?_) <;> refine wG ?_)
        | (refine br_not (fun h => ?_) (fun h => ?_) <;> refine wG ?_)
        | (refine Br.mk (fun h => ?_) (fun h => ?_) <;> refine wG ?_)
        | (refine endK ⟨[], ⟨rfl, rfl⟩, ?_⟩; refine wG ?_; refine fin _ ?_)
        )
      · exact bad (by simp_all [arFm])
      · rename_i hp
        exact bad (by simp_all [arFm])
      · rename_i hp
        refine ⟨i + 1, ⟨by omega, by omega, yes (by simp_all [arFm])⟩, by dsimp only; omega, [], Meet.mk rfl rfl WkOs.rfl ⟨Wk.rfl, trivial⟩ rfl⟩
    | false =>
      repeat' (first
        | refine stG1 ?_
        | (refine Br.yes rfl ?_; refine wG ?_)
        | (refine Br.no rfl ?_; refine wG ?_)
        | (refine ⟨_, _, WkL.rfl, WkOs.rfl, p, rfl, rfl, ?_⟩; refine wG ?_)
        | (refine ⟨_, _, WkL.rfl, WkOs.rfl, x, 4, rfl, rfl, by omega, by omega, by omega, ?_⟩; refine wG ?_)
        | (refine br_dec (fun h => ?_) (fun h => ?_) <;> refine wG ?_)
        | (refine br_eq (fun h => ?_) (fun h => ?_) <;> refine wG ?_)
        | (refine br_ne (fun h => ?_) (fun h => ?_) <;> refine wG ?_)
        | (refine br_neq (fun h => ?_) (fun h => ?_) <;> refine wG ?_)
        | (refine br_not (fun h => ?_) (fun h => ?_) <;> refine wG ?_)
        | (refine Br.mk (fun h => ?_) (fun h => ?_) <;> refine wG ?_)
        | (refine endK ⟨[], ⟨rfl, rfl⟩, ?_⟩; refine wG ?_; refine fin _ ?_)
        )
      · exact bad (by simp_all [arFm])
      · rename_i hp
        exact bad (by simp_all [arFm])
      · rename_i hp
        refine ⟨i + 1, ⟨by omega, by omega, yes (by simp_all [arFm])⟩, by dsimp only; omega, [], Meet.mk rfl rfl WkOs.rfl ⟨Wk.rfl, trivial⟩ rfl⟩
  · have h3 : ¬ i < (l.length : Int) := by simpa using h3
    rw [List.take_of_length_le (by omega)] at i2
    refine endK ⟨[], ⟨rfl, rfl⟩, ?_⟩
    refine wG ?_
    exact fin _ (by simp [argsFm, i2, hl])
/-- rows that are not too long, so deep -/
def StB : Nat → St → Prop
  | 0, _ => True
  | d + 1, .mk _ _ _ _ _ _ _ t e => t.length ≤ 1000000 ∧ e.length ≤ 1000000 ∧ (∀ s ∈ t, StB d s) ∧ (∀ s ∈ e, StB d s)
theorem StF.b {d m : Nat} {s : St} (h : StF d s) : StB m s := by
  induction m generalizing d s with
  | zero => trivial
  | succ m ih =>
    cases h with
    | ifs _ _ h3 h4 h5 h6 => exact ⟨by omega, by omega, fun s hs => ih (h4 s hs), fun s hs => ih (h6 s hs)⟩
    | _ => exact ⟨by simp, by simp, by simp, by simp⟩
theorem len00 {α β : Type} (l : List α) (m : List β) : (((l.length : Nat) : Int) + ((m.length : Nat) : Int) == 0) = (l.isEmpty && m.isEmpty) := by
  cases l <;> cases m <;> simp <;> omega
section
variable (D : Nat) (nm : Bs) (p o : Pl) (x : Xp) (f : Bs) (ar : List Ar) (t e : List St)
theorem stFm_1 : stFm (D + 1) (.mk 1 nm p o x f ar t e) = (nameOk nm && plNo p && plNo o && xpFm 4 x && f.isEmpty && ar.isEmpty && (t.isEmpty && e.isEmpty)) := rfl
theorem stFm_2 : stFm (D + 1) (.mk 2 nm p o x f ar t e) = (nameOk nm && plOk p && plNo o && xpNo x && f.isEmpty && ar.isEmpty && (t.isEmpty && e.isEmpty)) := rfl
theorem stFm_3 : stFm (D + 1) (.mk 3 nm p o x f ar t e) = (nm.isEmpty && plOk p && plNo o && xpFm 4 x && f.isEmpty && ar.isEmpty && (t.isEmpty && e.isEmpty)) := rfl
theorem stFm_4 : stFm (D + 1) (.mk 4 nm p o x f ar t e) = (nameOk nm && plNo p && plNo o && xpNo x && nameOk f && argsFm ar && (t.isEmpty && e.isEmpty)) := rfl
theorem stFm_5 : stFm (D + 1) (.mk 5 nm p o x f ar t e) = (nm.isEmpty && plNo p && plNo o && xpFm 4 x && f.isEmpty && ar.isEmpty && (bodyFm D t && bodyFm D e)) := by
  show (_ && (decide (1 ≤ D) && decide (t.length ≤ 40) && t.all (stFm D) && decide (e.length ≤ 40) && e.all (stFm D))) = _
  congr 1
  simp only [bodyFm]
  cases decide (1 ≤ D) <;> simp [Bool.and_assoc]
theorem stFm_6 : stFm (D + 1) (.mk 6 nm p o x f ar t e) = (nameOk nm && plOk p && plOk o && xpFm 4 x && f.isEmpty && ar.isEmpty && (t.isEmpty && e.isEmpty)) := rfl
theorem stFm_o {k : Int} (h1 : (k == 1) = false) (h2 : (k == 2) = false) (h3 : (k == 3) = false) (h4 : (k == 4) = false) (h5 : (k == 5) = false) (h6 : (k == 6) = false) : stFm (D + 1) (.mk k nm p o x f ar t e) = false := by
  simp [stFm, stCom, St.kind, h1, h2, h3, h4, h5, h6]
end
/-- l2Stmt, l2Body -/
def S_stK (P : Int → Prop) (n : Nat) : Spec := fun args O Q => ∃ (s : St) (d : Int), args = [aSt s, iv d] ∧ O = [] ∧ 1 ≤ d ∧ d < n ∧ n ≤ 100 ∧ StB d.toNat s ∧ P s.kind ∧ Q (bv (stFm d.toNat s)) []
def S_s_l2Stmt (n : Nat) : Spec := fun args O Q => ∃ (s : St) (d : Int), args = [aSt s, iv d] ∧ O = [] ∧ 1 ≤ d ∧ d < n ∧ n ≤ 100 ∧ StB d.toNat s ∧ Q (bv (stFm d.toNat s)) []
def S_s_l2Body (n : Nat) : Spec := fun args O Q => ∃ (l : List St) (d : Int), args = [.d (.sl 15 (l.map dSt)), iv d] ∧ O = [] ∧ 0 ≤ d ∧ d < n ∧ n ≤ 100 ∧ (∀ s ∈ l, StB d.toNat s) ∧ Q (bv (bodyFm d.toNat l)) []
end Ab
