/- The program's words that write: types, places, expressions. -/
import Derived.Test.YtcajihigkjcgeaaGreatDoorSyn
import Derived.Test.YtcajihigkjcgeaaGreatDoorI5
import Derived.Test.YtcajihigkjcgeaaGreatDoorFrL
import Derived.Test.YtcajihigkjcgeaaGreatDoorD6
set_option linter.all false
namespace Ab
open Go Go.Proofs
set_option maxRecDepth 10000
set_option maxHeartbeats 4000000
set_option linter.all false

/-- impl.twoText -/
def S_i_twoText : Spec := fun args O Q => ∃ (k : Int), args = [iv k] ∧ O = [] ∧ Q (.d (.s (sign k))) []
theorem v_i_twoText {B : World} : Valid PG B i_twoText S_i_twoText := by
  refine valid_of (Γ := []) wide tok AllValid.nil g_i_twoText rfl rfl ?_
  rintro _ _ Q ⟨k, rfl, rfl, hQ⟩
  by_cases k3 : k = 3
  · subst k3
    refine wG ?_
    refine Br.yes (by rfl) ?_
    refine wG ?_
    refine endK ⟨[], ⟨rfl, rfl⟩, ?_⟩
    refine wG ?_
    exact ⟨_, _, Wk.rfl, WkOs.rfl, hQ⟩
  by_cases k4 : k = 4
  · subst k4
    refine wG ?_
    refine Br.no (by rfl) ?_
    refine wG ?_
    refine Br.yes (by rfl) ?_
    refine wG ?_
    refine endK ⟨[], ⟨rfl, rfl⟩, ?_⟩
    refine wG ?_
    exact ⟨_, _, Wk.rfl, WkOs.rfl, hQ⟩
  by_cases k5 : k = 5
  · subst k5
    refine wG ?_
    refine Br.no (by rfl) ?_
    refine wG ?_
    refine Br.no (by rfl) ?_
    refine wG ?_
    refine Br.yes (by rfl) ?_
    refine wG ?_
    refine endK ⟨[], ⟨rfl, rfl⟩, ?_⟩
    refine wG ?_
    exact ⟨_, _, Wk.rfl, WkOs.rfl, hQ⟩
  have : sign k = [44] := by simp [sign, k3, k4, k5]
  rw [this] at hQ
  have q3 : (k == 3) = false := by simpa using k3
  have q4 : (k == 4) = false := by simpa using k4
  have q5 : (k == 5) = false := by simpa using k5
  refine wG ?_
  refine Br.no (by exact q3) ?_
  refine wG ?_
  refine Br.no (by exact q4) ?_
  refine wG ?_
  refine Br.no (by exact q5) ?_
  refine wG ?_
  refine endK ⟨[], ⟨rfl, rfl⟩, ?_⟩
  refine wG ?_
  exact ⟨_, _, Wk.rfl, WkOs.rfl, hQ⟩
/-- impl.typeIsNum -/
def S_i_typeIsNum : Spec := fun args O Q => ∃ (t : Ty), args = [aTy t] ∧ O = [] ∧ Q (bv (t.kids.length == 0)) []
theorem v_i_typeIsNum {B : World} : Valid PG B i_typeIsNum S_i_typeIsNum := by
  refine valid_of (Γ := []) wide tok AllValid.nil g_i_typeIsNum rfl rfl ?_
  rintro _ _ Q ⟨⟨ks⟩, rfl, rfl, hQ⟩
  have fin : ∀ b : Bool, (ks.length == 0) = b → wkQ Q (bv b) [] := fun b h => ⟨_, _, Wk.rfl, WkOs.rfl, by subst h; exact hQ⟩
  refine wG ?_
  refine endK ⟨[], ⟨rfl, rfl⟩, ?_⟩
  refine wG ?_
  exact fin _ (by cases ks <;> simp [Ty.kids]; omega)
/-- impl.typeWords -/
def S_i_typeWords (n : Nat) : Spec := fun args O Q => ∃ (t : Ty) (m : Nat), args = [aTy t] ∧ O = [] ∧ m < n ∧ n ≤ 10 ∧ tyOk m t = true ∧ Q (.d (.s (tyS m t))) []
theorem v_i_typeWords {B : World} : ∀ n, Valid PG B i_typeWords (S_i_typeWords n) := by
  refine valid_lt (fun args O Q ⟨x, m, _, _, h1, _⟩ => by omega) fun n ih => ?_
  refine valid_of (Γ := [(i_typeIsNum, ⟨[], S_i_typeIsNum⟩), (i_typeWords, ⟨[], S_i_typeWords n⟩)]) wide tok ((AllValid.nil.cons ih).cons v_i_typeIsNum) g_i_typeWords rfl rfl ?_
  rintro _ _ Q ⟨⟨ks⟩, m, rfl, rfl, hm, hn, ht, hQ⟩
  have hl := tyOk_len ht
  cases m with
  | zero => simp [tyOk] at ht
  | succ m =>
  simp only [tyOk, Bool.and_eq_true, Bool.or_eq_true, beq_iff_eq, List.all_eq_true] at ht
  rcases ht.1 with h1 | h1
  · obtain rfl := List.eq_nil_of_length_eq_zero h1
    refine wG ?_
    refine ⟨_, _, WkL.rfl, WkOs.rfl, .mk [], rfl, rfl, ?_⟩
    refine goG2 ?_
    refine Br.yes (by rfl) ?_
    refine wG ?_
    refine endK ⟨[], ⟨rfl, rfl⟩, ?_⟩
    refine wG ?_
    exact ⟨_, _, Wk.rfl, WkOs.rfl, hQ⟩
  · obtain ⟨a, b, rfl⟩ : ∃ a b, ks = [a, b] := by
      match ks, h1 with
      | [a, b], _ => exact ⟨a, b, rfl⟩
    have ha := ht.2 a (by simp)
    have hb := ht.2 b (by simp)
    have la := tyS_len (n := m) (t := a)
    have lb := tyS_len (n := m) (t := b)
    have hp : 2 ^ m ≤ 2 ^ 9 := Nat.pow_le_pow_right (by omega) (by omega)
    refine wG ?_
    refine ⟨_, _, WkL.rfl, WkOs.rfl, .mk [a, b], rfl, rfl, ?_⟩
    refine goG2 ?_
    refine Br.no (by rfl) ?_
    refine wG ?_
    refine Req.mk (by omega) ?_
    refine ⟨dTy a, rfl, ?_⟩
    rw [dTy_eq]
    refine wG ?_
    refine goG2 ?_
    refine ⟨dTy b, rfl, ?_⟩
    rw [dTy_eq]
    refine wG ?_
    refine goG2 ?_
    refine ⟨_, _, WkL.rfl, WkOs.rfl, a, m, rfl, rfl, by omega, by omega, ha, ?_⟩
    repeat (first | (refine Req.mk (by (((conv => (whnf)); (try (refine AnyG.skip ?_; (conv => (whnf)))))); refine ⟨dTy a, rfl, ?_⟩; rw [dTy_eq]; (((conv => (whnf)); (try (refine AnyG.skip ?_; (conv => (whnf)))))); exact Wk.rfl) ?_; ((conv => (whnf)); (try (refine AnyG.skip ?_; (conv => (whnf)))))) | (refine Req.mk (by (((conv => (whnf)); (try (refine AnyG.skip ?_; (conv => (whnf)))))); refine Req.mk (by omega) ?_; refine ⟨dTy a, rfl, ?_⟩; rw [dTy_eq]; (((conv => (whnf)); (try (refine AnyG.skip ?_; (conv => (whnf)))))); exact Wk.rfl) ?_; ((conv => (whnf)); (try (refine AnyG.skip ?_; (conv => (whnf)))))) | (refine Req.mk (by (((conv => (whnf)); (try (refine AnyG.skip ?_; (conv => (whnf)))))); refine Req.mk (by omega) ?_; refine ⟨dTy b, rfl, ?_⟩; rw [dTy_eq]; (((conv => (whnf)); (try (refine AnyG.skip ?_; (conv => (whnf)))))); exact Wk.rfl) ?_; ((conv => (whnf)); (try (refine AnyG.skip ?_; (conv => (whnf)))))) | (refine Req.mk (by simp only [mkS, List.length_append, List.length_cons, List.length_nil]; omega) ?_; ((conv => (whnf)); (try (refine AnyG.skip ?_; (conv => (whnf)))))) | (refine Req.mk (by omega) ?_; ((conv => (whnf)); (try (refine AnyG.skip ?_; (conv => (whnf)))))) | (refine Req.mk (Nat.le_of_ble_eq_true rfl) ?_; ((conv => (whnf)); (try (refine AnyG.skip ?_; (conv => (whnf)))))) | (refine Req.mk (by (((conv => (whnf)); (try (refine AnyG.skip ?_; (conv => (whnf)))))); exact Wk.rfl) ?_; ((conv => (whnf)); (try (refine AnyG.skip ?_; (conv => (whnf)))))))
    refine ⟨_, _, WkL.rfl, WkOs.rfl, b, m, rfl, rfl, by omega, by omega, hb, ?_⟩
    repeat (first | (refine Req.mk (by (((conv => (whnf)); (try (refine AnyG.skip ?_; (conv => (whnf)))))); refine ⟨dTy a, rfl, ?_⟩; rw [dTy_eq]; (((conv => (whnf)); (try (refine AnyG.skip ?_; (conv => (whnf)))))); exact Wk.rfl) ?_; ((conv => (whnf)); (try (refine AnyG.skip ?_; (conv => (whnf)))))) | (refine Req.mk (by (((conv => (whnf)); (try (refine AnyG.skip ?_; (conv => (whnf)))))); refine Req.mk (by omega) ?_; refine ⟨dTy a, rfl, ?_⟩; rw [dTy_eq]; (((conv => (whnf)); (try (refine AnyG.skip ?_; (conv => (whnf)))))); exact Wk.rfl) ?_; ((conv => (whnf)); (try (refine AnyG.skip ?_; (conv => (whnf)))))) | (refine Req.mk (by (((conv => (whnf)); (try (refine AnyG.skip ?_; (conv => (whnf)))))); refine Req.mk (by omega) ?_; refine ⟨dTy b, rfl, ?_⟩; rw [dTy_eq]; (((conv => (whnf)); (try (refine AnyG.skip ?_; (conv => (whnf)))))); exact Wk.rfl) ?_; ((conv => (whnf)); (try (refine AnyG.skip ?_; (conv => (whnf)))))) | (refine Req.mk (by simp only [mkS, List.length_append, List.length_cons, List.length_nil]; omega) ?_; ((conv => (whnf)); (try (refine AnyG.skip ?_; (conv => (whnf)))))) | (refine Req.mk (by omega) ?_; ((conv => (whnf)); (try (refine AnyG.skip ?_; (conv => (whnf)))))) | (refine Req.mk (Nat.le_of_ble_eq_true rfl) ?_; ((conv => (whnf)); (try (refine AnyG.skip ?_; (conv => (whnf)))))) | (refine Req.mk (by (((conv => (whnf)); (try (refine AnyG.skip ?_; (conv => (whnf)))))); exact Wk.rfl) ?_; ((conv => (whnf)); (try (refine AnyG.skip ?_; (conv => (whnf)))))))
    refine endK ⟨[], ⟨rfl, rfl⟩, ?_⟩
    refine wG ?_
    exact ⟨_, _, Wk.rfl, WkOs.rfl, hQ⟩
/-- impl.pathText -/
def S_i_pathText : Spec := fun args O Q => ∃ (p : List Int), args = [.d (.sl 1 (p.map dI))] ∧ O = [] ∧ p.length ≤ 4 ∧ p.all stepOk = true ∧ Q (.d (.s (pathS p))) []
theorem v_i_pathText {B : World} (hB : Tabs B) : Valid PG B i_pathText S_i_pathText := by
  refine valid_of (Γ := [(x_strconv_Itoa, ⟨[], S_x_strconv_Itoa⟩)]) wide tok (AllValid.nil.cons (v_x_strconv_Itoa hB)) g_i_pathText rfl rfl ?_
  rintro _ _ Q ⟨p, rfl, rfl, h2, h3, hQ⟩
  refine wG ?_
  refine ⟨[], Int, fun i => 0 ≤ i ∧ i ≤ p.length, fun i => (p.length - i).toNat, fun i => [(3, .d (.s (pathS (p.take i.toNat)))), (8, iv i)], fun i => [], 0, ⟨by omega, by omega⟩, ?_⟩
  refine wG ?_
  refine ⟨Meet.mk rfl rfl (WkOs.rfl) ⟨Wk.of_eq (by show AV.d (DV.s []) = AV.d (DV.s (pathS [])); simp [pathS]), Wk.rfl, trivial⟩ rfl, ?_⟩
  rintro i ⟨i0, i1⟩
  refine wG ?_
  refine brG2 (fun h => ?_) (fun h => ?_)
  · have hi : i.toNat < p.length := by
      have h : i < (p.length : Int) := by simpa using h
      omega
    have hst := List.all_eq_true.1 h3 _ (List.getElem_mem hi)
    have hd := dec1_len hst
    have e3 : (i + 1).toNat = i.toNat + 1 := by omega
    have hs : pathS (p.take i.toNat) ++ ([46] ++ dec p[i.toNat]) = pathS (p.take (i + 1).toNat) := by
      rw [e3, List.take_succ_eq_append_getElem hi, pathS_snoc]; simp
    have hl : (pathS (p.take i.toNat)).length ≤ 100 := by
      have : (p.take i.toNat).all stepOk = true := List.all_eq_true.2 fun x hx => List.all_eq_true.1 h3 x (List.mem_of_mem_take hx)
      rw [pathS_len this]; simp; omega
    have hs01 : 0 ≤ p[i.toNat] ∧ p[i.toNat] ≤ 1 := by simpa [stepOk] using hst
    generalize hS : pathS (p.take i.toNat) = S at *
    refine goG2 ?_
    first | refine idx_map (f := dI) (by omega) (by (try simp only [List.length_append, List.length_cons, List.length_nil, List.length_map, List.length_take, List.length_drop, maxRow, byteRows_len, Ty.kids, Ty.kids_mk, mkS]); omega) ?_ | refine idx_map' (f := dI) (by (try simp only [List.length_append, List.length_cons, List.length_nil, List.length_map, List.length_take, List.length_drop, maxRow, byteRows_len, Ty.kids, Ty.kids_mk, mkS]); omega) ?_
    refine wG ?_
    generalize p[i.toNat] = x at *
    refine ⟨_, _, WkL.rfl, WkOs.rfl, x, by omega, by omega, rfl, ?_⟩
    rw [itoa_nat hs01.1]
    have hd : (Lib.decDigits x.toNat).length = 1 := hd
    refine goG2 ?_
    refine ⟨i + 1, ⟨by omega, by omega⟩, by dsimp only; omega, [], Meet.mk rfl rfl WkOs.rfl ⟨Wk.of_eq ?_, Wk.rfl, trivial⟩ rfl⟩
    dsimp only
    rw [← hs]; rfl
  · have hi : i.toNat = p.length := by
      have h : ¬ i < (p.length : Int) := by simpa using h
      omega
    rw [hi, List.take_length]
    refine goG2 ?_
    refine endK ⟨[], ⟨rfl, rfl⟩, ?_⟩
    refine wG ?_
    exact ⟨_, _, Wk.rfl, WkOs.rfl, hQ⟩
/-- impl.placeText -/
theorem v_i_placeText {B : World} (hB : Tabs B) : Valid PG B i_placeText S_s_l2At := by
  refine valid_of (Γ := [(i_pathText, ⟨[], S_i_pathText⟩)]) wide tok (AllValid.nil.cons (v_i_pathText hB)) g_i_placeText rfl rfl ?_
  rintro _ _ Q ⟨⟨n, p⟩, rfl, rfl, hp, hQ⟩
  have h1 := plOk_nlen hp; have h2 := plOk_len hp; have h3 := plOk_path hp
  dsimp only at h1 h2 h3
  have h4 := pathS_len h3
  refine wG ?_
  refine ⟨_, _, WkL.rfl, WkOs.rfl, p, rfl, rfl, by omega, h3, ?_⟩
  refine goG2 ?_
  refine endK ⟨[], ⟨rfl, rfl⟩, ?_⟩
  refine wG ?_
  exact ⟨_, _, Wk.rfl, WkOs.rfl, hQ⟩
end Ab

/- The program's words that write: expressions. -/
namespace Ab
open Go Go.Proofs
set_option maxRecDepth 10000
set_option maxHeartbeats 4000000
set_option linter.all false

/-- impl.exprText -/
theorem v_i_exprText {B : World} (hB : Tabs B) : ∀ n, Valid PG B i_exprText (S_s_l2Say n) := by
  refine valid_lt (fun args O Q ⟨x, m, _, _, h1, _⟩ => by omega) fun n ih => ?_
  refine valid_of (Γ := [(i_exprOf, ⟨[], S_i_exprOf⟩), (x_strconv_Itoa, ⟨[], S_x_strconv_Itoa⟩), (i_placeText, ⟨[], S_s_l2At⟩), (i_twoText, ⟨[], S_i_twoText⟩), (i_exprText, ⟨[], S_s_l2Say n⟩)]) wide tok (((((AllValid.nil.cons ih).cons v_i_twoText).cons (v_i_placeText hB)).cons (v_x_strconv_Itoa hB)).cons v_i_exprOf) g_i_exprText rfl rfl ?_
  rintro _ _ Q ⟨x, m, rfl, rfl, hm, hn, hx, hQ⟩
  have hlen := sayS_len hx
  cases hx with
  | @num m v h1 h2 =>
    rw [sayS_1] at hQ
    refine wG ?_
    refine ⟨_, _, WkL.rfl, WkOs.rfl, .mk 1 v pl0 [], rfl, rfl, ?_⟩
    have e : xpSh (.mk 1 v pl0 []) = .num v := by simp [xpSh, plNo]
    rw [e]
    refine goG2 ?_
    refine ⟨_, _, WkL.rfl, WkOs.rfl, v, by omega, by omega, rfl, ?_⟩
    rw [itoa_nat h1]
    refine goG2 ?_
    refine endK ⟨[], ⟨rfl, rfl⟩, ?_⟩
    refine wG ?_
    exact ⟨_, _, Wk.rfl, WkOs.rfl, hQ⟩
  | @read m p h =>
    rw [sayS_2] at hQ
    have h1 := atS_len h
    refine wG ?_
    refine ⟨_, _, WkL.rfl, WkOs.rfl, .mk 2 0 p [], rfl, rfl, ?_⟩
    have e : xpSh (.mk 2 0 p []) = .read p := by simp [xpSh]
    rw [e]
    refine goG2 ?_
    refine ⟨_, _, WkL.rfl, WkOs.rfl, p, rfl, rfl, h, ?_⟩
    refine goG2 ?_
    refine endK ⟨[], ⟨rfl, rfl⟩, ?_⟩
    refine wG ?_
    exact ⟨_, _, Wk.rfl, WkOs.rfl, hQ⟩
  | @two m k a b h1 h2 ha hb =>
    have ea := sayS_len ha
    have eb := sayS_len hb
    have hp : 2 ^ m ≤ 2 ^ 9 := Nat.pow_le_pow_right (by omega) (by omega)
    have hsl := sign_len k
    rw [sayS_3 _ _ _ _ _ h1] at hQ
    refine wG ?_
    refine ⟨_, _, WkL.rfl, WkOs.rfl, .mk k 0 pl0 [a, b], rfl, rfl, ?_⟩
    have e : xpSh (.mk k 0 pl0 [a, b]) = .two k a b := by simp only [xpSh]; rw [if_neg (by omega), if_neg (by omega), if_pos ⟨h1, h2⟩]; rfl
    rw [e]
    refine goG2 ?_
    refine ⟨_, _, WkL.rfl, WkOs.rfl, k, rfl, rfl, ?_⟩
    refine goG2 ?_
    refine ⟨_, _, WkL.rfl, WkOs.rfl, a, m, rfl, rfl, by omega, by omega, ha, ?_⟩
    refine goG2 ?_
    refine ⟨_, _, WkL.rfl, WkOs.rfl, b, m, rfl, rfl, by omega, by omega, hb, ?_⟩
    refine goG2 ?_
    refine endK ⟨[], ⟨rfl, rfl⟩, ?_⟩
    refine wG ?_
    exact ⟨_, _, Wk.rfl, WkOs.rfl, hQ⟩
end Ab

/- The program's and the reference's forms agree where the nesting is small. -/
namespace Ab
open Go Go.Proofs
set_option maxRecDepth 10000
set_option maxHeartbeats 4000000
set_option linter.all false

theorem F_stI : ∀ {d : Nat} {s : St}, StF d s → stI d s = true := by
  intro d s h
  induction h with
  | @let_ d n x h1 h2 =>
    have e : stSh (.mk 1 n pl0 pl0 x [] [] [] []) = .let_ n x := by simp [stSh, stNo, St.kind, St.name, St.pl, St.other, St.ex, St.fn, St.args, St.thn, St.els, plNo_0, xpNo_0]
    rw [stI_s, e]; simp [h1, F_xpFm h2]
  | @lend d n p h1 h2 =>
    have e : stSh (.mk 2 n p pl0 xp0 [] [] [] []) = .lend n p := by simp [stSh, stNo, St.kind, St.name, St.pl, St.other, St.ex, St.fn, St.args, St.thn, St.els, plNo_0, xpNo_0]
    rw [stI_s, e]; simp [h1, h2]
  | @set d p x h1 h2 =>
    have e : stSh (.mk 3 [] p pl0 x [] [] [] []) = .set p x := by simp [stSh, stNo, St.kind, St.name, St.pl, St.other, St.ex, St.fn, St.args, St.thn, St.els, plNo_0, xpNo_0]
    rw [stI_s, e]; simp [h1, F_xpFm h2]
  | @call d n f ar h1 h2 h3 h4 =>
    have e : stSh (.mk 4 n pl0 pl0 xp0 f ar [] []) = .call n f ar := by simp [stSh, stNo, St.kind, St.name, St.pl, St.other, St.ex, St.fn, St.args, St.thn, St.els, plNo_0, xpNo_0]
    rw [stI_s, e]; simp [h1, h2, argsFm, h3]
    exact fun a ha => F_arFm (h4 a ha)
  | @ifs d x t e h1 h2 h3 h4 h5 h6 i1 i2 =>
    have e' : stSh (.mk 5 [] pl0 pl0 x [] [] t e) = .ifs x t e := by simp [stSh, stNo, St.kind, St.name, St.pl, St.other, St.ex, St.fn, St.args, St.thn, St.els, plNo_0, xpNo_0]
    rw [stI_s, e']; simp [F_xpFm h1]
    exact ⟨i1, i2⟩
  | @pick d n p q x h1 h2 h3 h4 =>
    have e : stSh (.mk 6 n p q x [] [] [] []) = .pick n p q x := by simp [stSh, stNo, St.kind, St.name, St.pl, St.other, St.ex, St.fn, St.args, St.thn, St.els, plNo_0, xpNo_0]
    rw [stI_s, e]; simp [h1, h2, h3, F_xpFm h4]
/-- where all statements are in form at depth 3 and bodies are short, both say the same -/
theorem fdI_fnFm {f : Fd} (h : ∀ s ∈ f.body, StF 3 s) (hl : f.body.length ≤ 40) : fdI f = fnFm f := by
  have h4 : ∀ s ∈ f.body, StF 4 s := fun s hs => (h s hs).mono (by omega)
  have e1 : f.body.all (stI 4) = true := List.all_eq_true.2 fun s hs => F_stI (h4 s hs)
  have e2 : bodyFm 4 f.body = true := by
    simp only [bodyFm, Bool.and_eq_true, decide_eq_true_eq, List.all_eq_true]
    exact ⟨⟨by omega, hl⟩, fun s hs => F_stFm (h4 s hs)⟩
  simp only [fdI, fnFm, e1, e2, Bool.and_true]
  cases f.lent <;> simp [Bool.and_comm, Bool.and_left_comm, Bool.and_assoc]
theorem prI_prFm {p : Pr} (h : ∀ f ∈ p, ∀ s ∈ f.body, StF 3 s) (hl : ∀ f ∈ p, f.body.length ≤ 40) : prI p = prFm p := by
  have : p.all fdI = p.all fnFm := by
    induction p with
    | nil => rfl
    | cons a p ih => rw [List.all_cons, List.all_cons, fdI_fnFm (h a (by simp)) (hl a (by simp)), ih (fun f hf => h f (by simp [hf])) (fun f hf => hl f (by simp [hf]))]
  rw [prI, prFm, this]
end Ab
