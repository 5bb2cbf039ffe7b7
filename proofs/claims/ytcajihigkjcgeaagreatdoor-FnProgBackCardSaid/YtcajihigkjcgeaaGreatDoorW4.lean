/- The reference's words that write, fourth part: counts, functions in form, programs. -/
import Derived.Test.YtcajihigkjcgeaaGreatDoorSyn
import Derived.Test.YtcajihigkjcgeaaGreatDoorW3
import Derived.Test.YtcajihigkjcgeaaGreatDoorFrmK7
set_option linter.all false
namespace Ab
open Go Go.Proofs
set_option maxRecDepth 10000
set_option maxHeartbeats 4000000
set_option linter.all false

theorem cntS_le : ∀ {d : Nat} {s : St}, StF d s → cntS s ≤ 81 ^ d
  | d, s, h => by
    induction h with
    | @ifs d x t e h1 h2 h3 h4 h5 h6 i1 i2 =>
      have key : ∀ {l : List St}, (∀ s ∈ l, cntS s ≤ 81 ^ d) → cntB l ≤ l.length * 81 ^ d := fun {l} hl => by
        induction l with
        | nil => simp [cntB]
        | cons s l ih =>
          have a1 := hl s (by simp)
          have a2 := ih (fun b hb => hl b (List.mem_cons_of_mem _ hb))
          simp only [cntB, List.map_cons, List.sum_cons, List.length_cons] at a2 ⊢
          rw [Nat.add_mul]; omega
      have a1 := key i1
      have a2 := key i2
      have a3 : t.length * 81 ^ d ≤ 40 * 81 ^ d := Nat.mul_le_mul_right _ h3
      have a4 : e.length * 81 ^ d ≤ 40 * 81 ^ d := Nat.mul_le_mul_right _ h5
      have a5 : 1 ≤ 81 ^ d := Nat.one_le_pow _ _ (by omega)
      rw [cntS_eq, Nat.pow_succ]
      simp only [St.thn, St.els]
      omega
    | _ =>
      rw [cntS_eq]
      simp only [St.thn, St.els, cntB, List.map_nil, List.sum_nil]
      exact Nat.one_le_pow _ _ (by omega)
theorem cntB_le {d : Nat} {l : List St} (h : ∀ s ∈ l, StF d s) : cntB l ≤ l.length * 81 ^ d := by
  induction l with
  | nil => simp [cntB]
  | cons s l ih =>
    have a1 := cntS_le (h s (by simp))
    have a2 := ih (fun b hb => h b (List.mem_cons_of_mem _ hb))
    simp only [cntB, List.map_cons, List.sum_cons, List.length_cons] at a2 ⊢
    rw [Nat.add_mul]; omega
/-- l2Count -/
def S_s_l2Count (n : Nat) : Spec := fun args O Q => ∃ (l : List St) (d : Nat), args = [.d (.sl 15 (l.map dSt))] ∧ O = [] ∧ d < n ∧ (∀ s ∈ l, StF d s) ∧ cntB l ≤ 100000000000 ∧ Q (iv (cntB l)) []
theorem v_s_l2Count {B : World} : ∀ n, Valid PG B s_l2Count (S_s_l2Count n) := by
  refine valid_lt (fun args O Q ⟨x, m, _, _, h1, _⟩ => by omega) fun n ih => ?_
  refine valid_of (Γ := [(s_l2Count, ⟨[], S_s_l2Count n⟩)]) wide tok (AllValid.nil.cons ih) g_s_l2Count rfl rfl ?_
  rintro _ _ Q ⟨l, d, rfl, rfl, hd, hl, hc, hQ⟩
  have hll := cntB_len l
  refine wG ?_
  refine ⟨[], Int, fun i => 0 ≤ i ∧ i ≤ l.length, fun i => (l.length - i).toNat, fun i => [(3, iv (l.length + cntB (l.take i.toNat) - i)), (4, iv i)], fun i => [], 0, ⟨by omega, by omega⟩, ?_⟩
  refine wG ?_
  refine ⟨Meet.mk rfl rfl (WkOs.rfl) ⟨Wk.of_eq (by show AV.d (DV.i .i64 ((l.map dSt).length : Int)) = _; simp [cntB]), Wk.rfl, trivial⟩ rfl, ?_⟩
  rintro i ⟨i0, i1⟩
  refine wG ?_
  refine brG3 (fun h => ?_) (fun h => ?_)
  · have hi : i.toNat < l.length := by
      have h : i < (l.length : Int) := by simpa using h
      omega
    have e3 : (i + 1).toNat = i.toNat + 1 := by omega
    have hF := hl _ (List.getElem_mem hi)
    have hx : (l.map dSt)[i.toNat]? = some (dSt l[i.toNat]) := by simp [hi]
    have hs : cntB (l.take (i + 1).toNat) = cntB (l.take i.toNat) + cntS l[i.toNat] := by
      rw [e3, List.take_succ_eq_append_getElem hi, cntB_app]; simp [cntB]
    have hs1 := cntB_take1 l hi
    generalize l[i.toNat] = s at *
    have hcs := cntS_eq s
    obtain ⟨d', rfl⟩ : ∃ k, d = k + 1 := ⟨d - 1, by have := hF.pos; omega⟩
    have ht : ∀ x ∈ s.thn, StF d' x := by
      cases hF with
      | ifs _ _ _ h4 _ _ => exact h4
      | _ => simp [St.thn]
    have he : ∀ x ∈ s.els, StF d' x := by
      cases hF with
      | ifs _ _ _ _ _ h6 => exact h6
      | _ => simp [St.els]
    (try refine Req.mk i0 ?_)
    refine ⟨_, hx, ?_⟩
    rw [dSt_eq]
    refine wG ?_
    (try refine Req.mk i0 ?_)
    refine ⟨_, hx, ?_⟩
    rw [dSt_eq]
    refine wG ?_
    refine ⟨_, _, WkL.rfl, WkOs.rfl, s.thn, d', rfl, rfl, by omega, ht, by omega, ?_⟩
    have hag : ∀ r, (l.map dSt)[i.toNat]? = some r → r = dSt s := fun r h => by rw [hx] at h; simp at h; exact h.symm
    refine wG ?_
    repeat (first | (refine Req.mk (by (((conv => (whnf)); (try (refine AnyG.skip ?_; (conv => (whnf)))))); refine Req.mk i0 ?_; refine ⟨_, hx, ?_⟩; rw [dSt_eq]; (((conv => (whnf)); (try (refine AnyG.skip ?_; (conv => (whnf)))))); exact Wk.rfl) ?_; ((conv => (whnf)); (try (refine AnyG.skip ?_; (conv => (whnf)))))) | (refine rng_i64 (by omega) (by omega) ?_; ((conv => (whnf)); (try (refine AnyG.skip ?_; (conv => (whnf)))))) | (refine Req.mk (Nat.le_of_ble_eq_true rfl) ?_; ((conv => (whnf)); (try (refine AnyG.skip ?_; (conv => (whnf)))))) | (refine Req.mk (by (((conv => (whnf)); (try (refine AnyG.skip ?_; (conv => (whnf)))))); exact Wk.rfl) ?_; ((conv => (whnf)); (try (refine AnyG.skip ?_; (conv => (whnf)))))))
    refine ⟨_, _, WkL.rfl, WkOs.rfl, s.els, d', rfl, rfl, by omega, he, by omega, ?_⟩
    refine wG ?_
    repeat (first | (refine Req.mk (by (((conv => (whnf)); (try (refine AnyG.skip ?_; (conv => (whnf)))))); refine Req.mk i0 ?_; refine ⟨_, hx, ?_⟩; rw [dSt_eq]; (((conv => (whnf)); (try (refine AnyG.skip ?_; (conv => (whnf)))))); exact Wk.rfl) ?_; ((conv => (whnf)); (try (refine AnyG.skip ?_; (conv => (whnf)))))) | (refine rng_i64 (by omega) (by omega) ?_; ((conv => (whnf)); (try (refine AnyG.skip ?_; (conv => (whnf)))))) | (refine Req.mk (Nat.le_of_ble_eq_true rfl) ?_; ((conv => (whnf)); (try (refine AnyG.skip ?_; (conv => (whnf)))))) | (refine Req.mk (by (((conv => (whnf)); (try (refine AnyG.skip ?_; (conv => (whnf)))))); exact Wk.rfl) ?_; ((conv => (whnf)); (try (refine AnyG.skip ?_; (conv => (whnf)))))))
    refine ⟨i + 1, ⟨by omega, by omega⟩, by dsimp only; omega, [], Meet.mk rfl rfl WkOs.rfl ⟨Wk.of_eq ?_, Wk.rfl, trivial⟩ rfl⟩
    dsimp only
    rw [hs]
    show AV.d (DV.i .i64 _) = iv _
    congr 2
    omega
  · have hi : ¬ i < (l.length : Int) := by simpa using h
    rw [List.take_of_length_le (by omega)]
    refine goG3 ?_
    refine endK ⟨[], ⟨rfl, rfl⟩, ?_⟩
    refine wG ?_
    refine ⟨_, _, Wk.of_eq ?_, WkOs.rfl, hQ⟩
    show AV.d (DV.i .i64 _) = iv _
    congr 2
    omega
theorem bodyFm_F {d : Nat} {l : List St} (h : bodyFm d l = true) : 1 ≤ d ∧ l.length ≤ 40 ∧ ∀ s ∈ l, StF d s := by
  simp only [bodyFm, Bool.and_eq_true, decide_eq_true_eq, List.all_eq_true] at h
  exact ⟨h.1.1, h.1.2, fun s hs => stFm_F (h.2 s hs)⟩
/-- l2Fn -/
def S_s_l2Fn : Spec := fun args O Q => ∃ (f : Fd), args = [aFd f] ∧ O = [] ∧ (∀ s ∈ f.body, StB 4 s) ∧ Q (bv (fnFm f)) []
theorem v_s_l2Fn {B : World} : Valid PG B s_l2Fn S_s_l2Fn := by
  refine valid_of (Γ := [(s_l2Name, ⟨[], S_s_l2Name⟩), (s_TypeOk, ⟨[], STypeOk⟩), (s_l2Body, ⟨[], S_s_l2Body 10⟩), (s_l2Count, ⟨[], S_s_l2Count 10⟩), (s_l2Place, ⟨[], S_s_l2Place⟩), (s_l2NoExpr, ⟨[], S_s_l2NoExpr⟩), (s_l2None, ⟨[], S_s_l2None⟩), (s_l2Expr, ⟨[], S_s_l2Expr 10⟩)]) wide tok
    ((((((((AllValid.nil.cons (v_s_l2Expr 10)).cons v_s_l2None).cons v_s_l2NoExpr).cons v_s_l2Place).cons (v_s_l2Count 10)).cons (v_forms 10).2).cons v_s_TypeOk).cons v_s_l2Name) g_s_l2Fn rfl rfl ?_
  rintro _ _ Q ⟨⟨nm, ps, lent, ty, body, says, gives⟩, rfl, rfl, hB, hQ⟩
  dsimp only at hB
  have fin : ∀ b : Bool, fnFm ⟨nm, ps, lent, ty, body, says, gives⟩ = b → wkQ Q (bv b) [] := fun b h => ⟨_, _, Wk.rfl, WkOs.rfl, by subst h; exact hQ⟩
  refine wG ?_
  refine ⟨_, _, WkL.rfl, WkOs.rfl, nm, rfl, rfl, ?_⟩
  refine goG3 ?_
  refine brG3 (fun h1 => ?_) (fun h1 => ?_)
  · refine endK ⟨[], ⟨rfl, rfl⟩, ?_⟩
    refine wG ?_
    exact fin _ (by simp [fnFm, h1])
  refine brG3 (fun h2 => ?_) (fun h2 => ?_)
  · refine endK ⟨[], ⟨rfl, rfl⟩, ?_⟩
    refine wG ?_
    exact fin _ (by simp [fnFm]; omega)
  refine ⟨_, _, WkL.rfl, WkOs.rfl, ty, rfl, rfl, ?_⟩
  refine goG3 ?_
  refine brG3 (fun h3 => ?_) (fun h3 => ?_)
  · refine endK ⟨[], ⟨rfl, rfl⟩, ?_⟩
    refine wG ?_
    exact fin _ (by simp [fnFm, h3])
  refine ⟨_, _, WkL.rfl, WkOs.rfl, body, 4, rfl, rfl, by omega, by omega, by omega, hB, ?_⟩
  refine goG3 ?_
  refine brG3 (fun h4 => ?_) (fun h4 => ?_)
  · refine endK ⟨[], ⟨rfl, rfl⟩, ?_⟩
    refine wG ?_
    have h4 : bodyFm 4 body = false := h4
    exact fin _ (by simp [fnFm, h4])
  have h4 : bodyFm 4 body = true := h4
  obtain ⟨_, b2, b3⟩ := bodyFm_F h4
  have b4 := cntB_le b3
  have b5 : body.length * 81 ^ 4 ≤ 40 * 81 ^ 4 := Nat.mul_le_mul_right _ b2
  refine ⟨_, _, WkL.rfl, WkOs.rfl, body, 4, rfl, rfl, by omega, b3, by omega, ?_⟩
  refine goG3 ?_
  refine brG3 (fun h5 => ?_) (fun h5 => ?_)
  · refine endK ⟨[], ⟨rfl, rfl⟩, ?_⟩
    refine wG ?_
    exact fin _ (by simp [fnFm]; omega)
  have hps : ps.length ≤ 4 := by simp at h2; omega
  refine ⟨[], Int, fun i => 0 ≤ i ∧ i ≤ ps.length ∧ (ps.take i.toNat).all pmFm = true, fun i => (ps.length - i).toNat, fun i => [(3, iv i)], fun i => [bFd ⟨nm, ps, lent, ty, body, says, gives⟩], 0, ⟨by omega, by omega, by simp⟩, ?_⟩
  refine wG ?_
  refine ⟨Meet.mk rfl rfl WkOs.rfl ⟨Wk.rfl, trivial⟩ rfl, ?_⟩
  rintro i ⟨i0, i1, i2⟩
  refine wG ?_
  refine brG3 (fun h6 => ?_) (fun h6 => ?_)
  · have h6 : i < (ps.length : Int) := by simpa using h6
    have hi : i.toNat < ps.length := by omega
    have e3 : (i + 1).toNat = i.toNat + 1 := by omega
    have hkm := List.getElem_mem hi
    have hx : (ps.map dPm)[i.toNat]? = some (dPm ps[i.toNat]) := by simp [hi]
    have yes : pmFm ps[i.toNat] = true → ((ps.take (i + 1).toNat).all pmFm = true) := fun h => e3 ▸ take_all hi i2 h
    have bad : pmFm ps[i.toNat] = false → fnFm ⟨nm, ps, lent, ty, body, says, gives⟩ = false := fun h => by
      have : ps.all pmFm = false := List.all_eq_false.2 ⟨_, hkm, by rw [h]; simp⟩
      simp [fnFm, this]
    generalize ps[i.toNat] = p at *
    (try refine Req.mk i0 ?_)
    refine ⟨_, hx, ?_⟩
    rw [dPm_eq]
    refine wG ?_
    refine ⟨_, _, WkL.rfl, WkOs.rfl, p.name, rfl, rfl, ?_⟩
    refine goG3 ?_
    refine brG3 (fun h7 => ?_) (fun h7 => ?_)
    · refine endK ⟨[], ⟨rfl, rfl⟩, ?_⟩
      refine wG ?_
      exact fin _ (bad (by simp [pmFm, h7]))
    (try refine Req.mk i0 ?_)
    refine ⟨_, hx, ?_⟩
    rw [dPm_eq]
    refine wG ?_
    refine ⟨_, _, WkL.rfl, WkOs.rfl, p.ty, rfl, rfl, ?_⟩
    refine goG3 ?_
    refine brG3 (fun h8 => ?_) (fun h8 => ?_)
    · refine endK ⟨[], ⟨rfl, rfl⟩, ?_⟩
      refine wG ?_
      exact fin _ (bad (by simp [pmFm, h8]))
    refine goG3 ?_
    refine ⟨i + 1, ⟨by omega, by omega, yes (by simp_all [pmFm])⟩, by dsimp only; omega, [], Meet.mk rfl rfl WkOs.rfl ⟨Wk.rfl, trivial⟩ rfl⟩
  · have h6 : ¬ i < (ps.length : Int) := by simpa using h6
    rw [List.take_of_length_le (by omega)] at i2
    have h1 : nameOk nm = true := h1
    have h3 : tyOk 4 ty = true := h3
    have h5 : cntB body ≤ 40 := by omega
    have fin2 : ∀ b, (bif lent then plOk gives && xpNo says else plNo gives && xpFm 4 says) = b → wkQ Q (bv b) [] := fun b h => fin b (by simp only [fnFm, h1, h3, h4, i2, hps, h5, decide_true, Bool.true_and, Bool.and_true]; exact h)
    clear fin
    have fin := fin2
    cases lent with
    | true =>
      repeat' (first
        | refine stG3 ?_
        | (refine Br.yes rfl ?_; refine wG ?_)
        | (refine Br.no rfl ?_; refine wG ?_)
        | (refine ⟨_, _, WkL.rfl, WkOs.rfl, gives, rfl, rfl, ?_⟩; refine wG ?_)
        | (refine ⟨_, _, WkL.rfl, WkOs.rfl, says, rfl, rfl, ?_⟩; refine wG ?_)
        | (refine br_dec (fun h => ?_) (fun h => ?_) <;> refine wG ?_)
        | (refine br_eq (fun h => ?_) (fun h => ?_) <;> refine wG ?_)
        | (refine br_ne (fun h => ?_) (fun h => ?_) <;> refine wG ?_)
        | (refine br_neq (fun h => ?_) (fun h => ?_) <;> refine wG ?_)
        | (refine br_not (fun h => ?_) (fun h => ?_) <;> refine wG ?_)
        | (refine Br.mk (fun h => ?_) (fun h => ?_) <;> refine wG ?_)
        | (refine endK ⟨[], ⟨rfl, rfl⟩, ?_⟩; refine wG ?_; refine fin _ ?_)
        )
      all_goals simp_all
    | false =>
      repeat' (first
        | refine stG3 ?_
        | (refine Br.yes rfl ?_; refine wG ?_)
        | (refine Br.no rfl ?_; refine wG ?_)
        | (refine ⟨_, _, WkL.rfl, WkOs.rfl, gives, rfl, rfl, ?_⟩; refine wG ?_)
        | (refine ⟨_, _, WkL.rfl, WkOs.rfl, says, 4, rfl, rfl, by omega, by omega, by omega, ?_⟩; refine wG ?_)
        | (refine br_dec (fun h => ?_) (fun h => ?_) <;> refine wG ?_)
        | (refine br_eq (fun h => ?_) (fun h => ?_) <;> refine wG ?_)
        | (refine br_ne (fun h => ?_) (fun h => ?_) <;> refine wG ?_)
        | (refine br_neq (fun h => ?_) (fun h => ?_) <;> refine wG ?_)
        | (refine br_not (fun h => ?_) (fun h => ?_) <;> refine wG ?_)
        | (refine Br.mk (fun h => ?_) (fun h => ?_) <;> refine wG ?_)
        | (refine endK ⟨[], ⟨rfl, rfl⟩, ?_⟩; refine wG ?_; refine fin _ ?_)
        )
      all_goals simp_all
end Ab

/- The reference's words that write, fifth part: programs. -/
namespace Ab
open Go Go.Proofs
set_option maxRecDepth 10000
set_option maxHeartbeats 4000000
set_option linter.all false

def pmS (p : Pm) : Bs := (bif p.lent then [108, 101, 110, 116, 32] else [104, 97, 115, 32]) ++ p.name ++ [32] ++ tyS 4 p.ty ++ [10]
def pmsS (l : List Pm) : Bs := (l.map pmS).flatten
def endS (f : Fd) : Bs := bif f.lent then [103, 105, 118, 101, 115, 32] ++ tyS 4 f.ty ++ [32] ++ atS f.gives ++ [10] else [115, 97, 121, 115, 32] ++ tyS 4 f.ty ++ [32] ++ sayS 4 f.says ++ [10]
def fnS (f : Fd) : Bs := [102, 110, 32] ++ f.name ++ [10] ++ pmsS f.params ++ linesS 4 f.body ++ endS f
def progS (p : Pr) : Bs := (p.map fnS).flatten
def progW (p : Pr) : Bs := bif prFm p && decide ((progS p).length ≤ 6000) then progS p else []
theorem pmsS_snoc (l : List Pm) (x : Pm) : pmsS (l ++ [x]) = pmsS l ++ pmS x := by simp [pmsS]
theorem progS_snoc (l : Pr) (x : Fd) : progS (l ++ [x]) = progS l ++ fnS x := by simp [progS]
/-- a function in form -/
structure FdF (f : Fd) : Prop where
  name : nameOk f.name = true
  plen : f.params.length ≤ 4
  ty : tyOk 4 f.ty = true
  body : ∀ s ∈ f.body, StF 4 s
  blen : f.body.length ≤ 40
  cnt : cntB f.body ≤ 40
  params : ∀ p ∈ f.params, nameOk p.name = true ∧ tyOk 4 p.ty = true
  lent : f.lent = true → plOk f.gives = true ∧ f.says = xp0
  own : f.lent = false → f.gives = pl0 ∧ XpF 4 f.says
theorem fnFm_F {f : Fd} (h : fnFm f = true) : FdF f := by
  simp only [fnFm, Bool.and_eq_true, decide_eq_true_eq, List.all_eq_true] at h
  obtain ⟨⟨⟨⟨⟨⟨h1, h2⟩, h3⟩, h4⟩, h5⟩, h6⟩, h7⟩ := h
  obtain ⟨_, b2, b3⟩ := bodyFm_F h4
  refine ⟨h1, h2, h3, b3, b2, h5, fun p hp => ?_, fun hl => ?_, fun hl => ?_⟩
  · have := h6 p hp
    simpa [pmFm] using this
  · rw [hl, cond_true, Bool.and_eq_true] at h7
    exact ⟨h7.1, xpNo_eq h7.2⟩
  · rw [hl, cond_false, Bool.and_eq_true] at h7
    exact ⟨plNo_eq h7.1, xpFm_F h7.2⟩
theorem ty4_len (t : Ty) : (tyS 4 t).length ≤ 61 := by have := tyS_len (n := 4) (t := t); omega
theorem pmS_len {p : Pm} (h : nameOk p.name = true) : (pmS p).length ≤ 80 := by
  have a1 := name_len h; have a2 := ty4_len p.ty
  cases hl : p.lent <;> simp [pmS, hl] <;> omega
theorem pmsS_len : ∀ {l : List Pm}, (∀ p ∈ l, nameOk p.name = true) → (pmsS l).length ≤ 80 * l.length
  | [], _ => by simp [pmsS]
  | a :: l, h => by
    have h1 := pmS_len (h a (by simp))
    have h2 := pmsS_len (l := l) (fun b hb => h b (List.mem_cons_of_mem _ hb))
    simp only [pmsS, List.map_cons, List.flatten_cons, List.length_append, List.length_cons] at h2 ⊢
    omega
theorem endS_len {f : Fd} (h : FdF f) : (endS f).length ≤ 500 := by
  have a1 := ty4_len f.ty
  cases hl : f.lent with
  | true => have a2 := atS_len (h.lent hl).1; simp [endS, hl]; omega
  | false => have a2 := say4_len (h.own hl).2; simp [endS, hl]; omega
theorem fnS_len {f : Fd} (h : FdF f) : (fnS f).length ≤ 90000 := by
  have a1 := name_len h.name; have a2 := pmsS_len (fun p hp => (h.params p hp).1); have a3 := linesS_len h.body; have a4 := endS_len h
  have a5 := h.cnt; have a6 := h.plen
  simp only [fnS, List.length_append, List.length_cons, List.length_nil]; omega
theorem progS_len : ∀ {l : Pr}, (∀ f ∈ l, FdF f) → (progS l).length ≤ 90000 * l.length
  | [], _ => by simp [progS]
  | a :: l, h => by
    have h1 := fnS_len (h a (by simp))
    have h2 := progS_len (l := l) (fun b hb => h b (List.mem_cons_of_mem _ hb))
    simp only [progS, List.map_cons, List.flatten_cons, List.length_append, List.length_cons] at h2 ⊢
    omega

/-- l2Form -/
def S_s_l2Form : Spec := fun args O Q => ∃ (p : Pr), args = [aPr p] ∧ O = [] ∧ (∀ f ∈ p, ∀ s ∈ f.body, StB 4 s) ∧ Q (bv (prFm p)) []
theorem v_s_l2Form {B : World} : Valid PG B s_l2Form S_s_l2Form := by
  refine valid_of (Γ := [(s_l2Fn, ⟨[], S_s_l2Fn⟩)]) wide tok (AllValid.nil.cons v_s_l2Fn) g_s_l2Form rfl rfl ?_
  rintro _ _ Q ⟨p, rfl, rfl, hB, hQ⟩
  have fin : ∀ b : Bool, prFm p = b → wkQ Q (bv b) [] := fun b h => ⟨_, _, Wk.rfl, WkOs.rfl, by subst h; exact hQ⟩
  refine wG ?_
  refine brG2 (fun h1 => ?_) (fun h1 => ?_)
  · refine endK ⟨[], ⟨rfl, rfl⟩, ?_⟩
    refine wG ?_
    exact fin _ (by simp [prFm]; omega)
  have hl : p.length ≤ 5 := by simp at h1; omega
  refine ⟨[], Int, fun i => 0 ≤ i ∧ i ≤ p.length ∧ (p.take i.toNat).all fnFm = true, fun i => (p.length - i).toNat, fun i => [(3, iv i)], fun i => [.cells [.d (.sl 12 (p.map dFd))]], 0, ⟨by omega, by omega, by simp⟩, ?_⟩
  refine wG ?_
  refine ⟨Meet.mk rfl rfl WkOs.rfl ⟨Wk.rfl, trivial⟩ rfl, ?_⟩
  rintro i ⟨i0, i1, i2⟩
  refine wG ?_
  refine brG2 (fun h3 => ?_) (fun h3 => ?_)
  · have h3 : i < (p.length : Int) := by simpa using h3
    have hi : i.toNat < p.length := by omega
    have e3 : (i + 1).toNat = i.toNat + 1 := by omega
    have hkm := List.getElem_mem hi
    have hx : (p.map dFd)[i.toNat]? = some (dFd p[i.toNat]) := by simp [hi]
    have hb := hB _ hkm
    have yes : fnFm p[i.toNat] = true → ((p.take (i + 1).toNat).all fnFm = true) := fun h => e3 ▸ take_all hi i2 h
    have bad : fnFm p[i.toNat] = false → prFm p = false := fun h => by
      have : p.all fnFm = false := List.all_eq_false.2 ⟨_, hkm, by rw [h]; simp⟩
      simp [prFm, this]
    generalize p[i.toNat] = f at *
    refine Req.mk i0 ?_
    refine ⟨_, hx, ?_⟩
    rw [dFd_eq]
    refine wG ?_
    refine ⟨_, _, WkL.rfl, WkOs.rfl, f, rfl, rfl, hb, ?_⟩
    refine goG2 ?_
    refine ⟨fun h4 => ?_, fun h4 => ?_⟩
    · refine wG ?_
      refine endK ⟨[], ⟨rfl, rfl⟩, ?_⟩
      refine wG ?_
      exact fin _ (bad (of_not_t h4))
    · refine wG ?_
      refine goG2 ?_
      refine ⟨i + 1, ⟨by omega, by omega, yes (of_not_f h4)⟩, by dsimp only; omega, [], Meet.mk rfl rfl WkOs.rfl ⟨Wk.rfl, trivial⟩ rfl⟩
  · have h3 : ¬ i < (p.length : Int) := by simpa using h3
    rw [List.take_of_length_le (by omega)] at i2
    refine endK ⟨[], ⟨rfl, rfl⟩, ?_⟩
    refine wG ?_
    exact fin _ (by simp only [prFm, i2, hl]; rfl)
/-- ProgWrite -/
def S_s_ProgWrite : Spec := fun args O Q => ∃ (p : Pr), args = [aPr p] ∧ O = [] ∧ (∀ f ∈ p, ∀ s ∈ f.body, StB 4 s) ∧ Q (.d (.s (progW p))) []
theorem v_s_ProgWrite {B : World} : Valid PG B s_ProgWrite S_s_ProgWrite := by
  refine valid_of (Γ := [(s_l2Form, ⟨[], S_s_l2Form⟩), (s_l1Say, ⟨[], S_s_l1Say 5⟩), (s_l2Lines, ⟨[], S_s_l2Lines 5⟩), (s_l2At, ⟨[], S_s_l2At⟩), (s_l2Say, ⟨[], S_s_l2Say 5⟩)]) wide tok (((((AllValid.nil.cons (v_s_l2Say 5)).cons v_s_l2At).cons (v_s_l2Lines 5)).cons (v_s_l1Say 5)).cons v_s_l2Form) g_s_ProgWrite rfl rfl ?_
  rintro _ _ Q ⟨p, rfl, rfl, hB, hQ⟩
  refine wG ?_
  refine ⟨_, _, WkL.rfl, WkOs.rfl, p, rfl, rfl, hB, ?_⟩
  refine goG2 ?_
  refine brG2 (fun h1 => ?_) (fun h1 => ?_)
  · refine endK ⟨[], ⟨rfl, rfl⟩, ?_⟩
    refine wG ?_
    have h1 : prFm p = false := h1
    have : progW p = [] := by simp [progW, h1]
    rw [this] at hQ
    exact ⟨_, _, Wk.rfl, WkOs.rfl, hQ⟩
  have h1 : prFm p = true := h1
  have h2 := h1
  simp only [prFm, Bool.and_eq_true, decide_eq_true_eq, List.all_eq_true] at h2
  obtain ⟨hl, hF⟩ := h2
  refine ⟨[], Int, fun i => 0 ≤ i ∧ i ≤ p.length, fun i => (p.length - i).toNat, fun i => [(3, .d (.s (progS (p.take i.toNat)))), (4, iv i)], fun i => [.cells [.d (.sl 12 (p.map dFd))]], 0, ⟨by omega, by omega⟩, ?_⟩
  refine wG ?_
  refine ⟨Meet.mk rfl rfl (WkOs.rfl) ⟨Wk.rfl, Wk.rfl, trivial⟩ rfl, ?_⟩
  rintro i ⟨i0, i1⟩
  refine wG ?_
  have hS1 : (progS (p.take i.toNat)).length ≤ 500000 := by
    have a1 := progS_len (l := p.take i.toNat) (fun f hf => fnFm_F (hF f (List.mem_of_mem_take hf)))
    have a2 : (p.take i.toNat).length ≤ 5 := by simp; omega
    omega
  refine brG2 (fun h3 => ?_) (fun h3 => ?_)
  · have h3 : i < (p.length : Int) := by simpa using h3
    have hi : i.toNat < p.length := by omega
    have e3 : (i + 1).toNat = i.toNat + 1 := by omega
    have hx : (p.map dFd)[i.toNat]? = some (dFd p[i.toNat]) := by simp [hi]
    have hf := fnFm_F (hF _ (List.getElem_mem hi))
    have hs : progS (p.take (i + 1).toNat) = progS (p.take i.toNat) ++ fnS p[i.toNat] := by
      rw [e3, List.take_succ_eq_append_getElem hi, progS_snoc]
    generalize hS : progS (p.take i.toNat) = S at *
    generalize p[i.toNat] = f at *
    have z1 := name_len hf.name; have z2 := hf.plen; have z3 := linesS_len hf.body; have z4 := hf.cnt; have z5 := ty4_len f.ty
    refine Req.mk i0 ?_
    refine ⟨_, hx, ?_⟩
    rw [dFd_eq]
    refine wG ?_
    refine goG2 ?_
    have hT : (S ++ [102, 110, 32] ++ f.name ++ [10]).length ≤ 600000 := by simp only [List.length_append, List.length_cons, List.length_nil]; omega
    refine ⟨[], Int, fun j => 0 ≤ j ∧ j ≤ f.params.length, fun j => (f.params.length - j).toNat, fun j => [(3, .d (.s (S ++ [102, 110, 32] ++ f.name ++ [10] ++ pmsS (f.params.take j.toNat)))), (6, iv j)], fun _ => [.cells [.d (.sl 12 (p.map dFd))], bFd f], 0, ⟨by omega, by omega⟩, ?_⟩
    refine wG ?_
    refine ⟨Meet.mk rfl rfl (WkOs.rfl) ⟨Wk.of_eq (by show AV.d (DV.s _) = AV.d (DV.s (S ++ [102, 110, 32] ++ f.name ++ [10] ++ pmsS [])); simp [mkS, pmsS]), Wk.rfl, trivial⟩ rfl, ?_⟩
    rintro j ⟨j0, j1⟩
    refine wG ?_
    have hAl : (pmsS (f.params.take j.toNat)).length ≤ 400 := by
      have y1 := pmsS_len (l := f.params.take j.toNat) (fun a ha => (hf.params a (List.mem_of_mem_take ha)).1)
      have y2 : (f.params.take j.toNat).length ≤ 4 := by simp; omega
      omega
    generalize hT0 : S ++ [102, 110, 32] ++ f.name ++ [10] = T at *
    refine brG2 (fun h5 => ?_) (fun h5 => ?_)
    · have hj : j.toNat < f.params.length := by
        have h5 : j < (f.params.length : Int) := by simpa using h5
        omega
      have e4 : (j + 1).toNat = j.toNat + 1 := by omega
      have hP := hf.params _ (List.getElem_mem hj)
      have hxa : (f.params.map dPm)[j.toNat]? = some (dPm f.params[j.toNat]) := by simp [hj]
      have hs2 : pmsS (f.params.take (j + 1).toNat) = pmsS (f.params.take j.toNat) ++ pmS f.params[j.toNat] := by
        rw [e4, List.take_succ_eq_append_getElem hj, pmsS_snoc]
      generalize hA0 : pmsS (f.params.take j.toNat) = A0 at *
      generalize f.params[j.toNat] = a at *
      have y3 := name_len hP.1
      have y4 := ty4_len a.ty
      (try refine Req.mk j0 ?_)
      refine ⟨_, hxa, ?_⟩
      rw [dPm_eq]
      refine wG ?_
      refine ⟨fun hb => ?_, fun hb => ?_⟩
      · have hb : a.lent = true := hb
        refine wG ?_
        refine goG2 ?_
        (try refine Req.mk j0 ?_)
        refine ⟨_, hxa, ?_⟩
        rw [dPm_eq]
        refine wG ?_
        refine goG2 ?_
        (try refine Req.mk j0 ?_)
        refine ⟨_, hxa, ?_⟩
        rw [dPm_eq]
        refine wG ?_
        refine goG2 ?_
        refine ⟨_, _, WkL.rfl, WkOs.rfl, a.ty, 4, rfl, rfl, by omega, by omega, hP.2, ?_⟩
        refine agG2 ?_
        refine ⟨j + 1, ⟨by omega, by omega⟩, by dsimp only; omega, [], Meet.mk rfl rfl WkOs.rfl ⟨Wk.of_eq ?_, Wk.rfl, trivial⟩ rfl⟩
        dsimp only
        rw [hs2]
        show AV.d (DV.s _) = AV.d (DV.s _)
        simp [pmS, mkS, hb]
      · have hb : a.lent = false := hb
        refine wG ?_
        refine goG2 ?_
        (try refine Req.mk j0 ?_)
        refine ⟨_, hxa, ?_⟩
        rw [dPm_eq]
        refine wG ?_
        refine goG2 ?_
        (try refine Req.mk j0 ?_)
        refine ⟨_, hxa, ?_⟩
        rw [dPm_eq]
        refine wG ?_
        refine goG2 ?_
        refine ⟨_, _, WkL.rfl, WkOs.rfl, a.ty, 4, rfl, rfl, by omega, by omega, hP.2, ?_⟩
        refine agG2 ?_
        refine ⟨j + 1, ⟨by omega, by omega⟩, by dsimp only; omega, [], Meet.mk rfl rfl WkOs.rfl ⟨Wk.of_eq ?_, Wk.rfl, trivial⟩ rfl⟩
        dsimp only
        rw [hs2]
        show AV.d (DV.s _) = AV.d (DV.s _)
        simp [pmS, mkS, hb]
    · have hj : ¬ j < (f.params.length : Int) := by simpa using h5
      rw [List.take_of_length_le (by omega)] at hAl ⊢
      refine goG2 ?_
      refine ⟨_, _, WkL.rfl, WkOs.rfl, f.body, 4, rfl, rfl, by omega, hf.body, by omega, ?_⟩
      refine goG2 ?_
      have hfs : T ++ pmsS f.params ++ linesS 4 f.body ++ endS f = S ++ fnS f := by rw [← hT0]; simp [fnS]
      have hA2 : (T ++ pmsS f.params ++ linesS 4 f.body).length ≤ 700000 := by simp only [List.length_append]; omega
      generalize hU : T ++ pmsS f.params ++ linesS 4 f.body = U at *
      refine ⟨fun hb => ?_, fun hb => ?_⟩
      · have hb : f.lent = true := hb
        obtain ⟨w1, w2⟩ := hf.lent hb
        have w3 := atS_len w1
        refine wG ?_
        refine goG2 ?_
        refine ⟨_, _, WkL.rfl, WkOs.rfl, f.ty, 4, rfl, rfl, by omega, by omega, hf.ty, ?_⟩
        refine goG2 ?_
        refine ⟨_, _, WkL.rfl, WkOs.rfl, f.gives, rfl, rfl, w1, ?_⟩
        refine goG2 ?_
        refine ⟨i + 1, ⟨by omega, by omega⟩, by dsimp only; omega, [], Meet.mk rfl rfl WkOs.rfl ⟨Wk.of_eq ?_, Wk.rfl, trivial⟩ rfl⟩
        dsimp only
        rw [hs, ← hfs]
        show AV.d (DV.s _) = AV.d (DV.s _)
        simp [endS, mkS, hb]
      · have hb : f.lent = false := hb
        obtain ⟨w1, w2⟩ := hf.own hb
        have w3 := say4_len w2
        refine wG ?_
        refine goG2 ?_
        refine ⟨_, _, WkL.rfl, WkOs.rfl, f.ty, 4, rfl, rfl, by omega, by omega, hf.ty, ?_⟩
        refine goG2 ?_
        refine ⟨_, _, WkL.rfl, WkOs.rfl, f.says, 4, rfl, rfl, by omega, by omega, w2, ?_⟩
        refine goG2 ?_
        refine ⟨i + 1, ⟨by omega, by omega⟩, by dsimp only; omega, [], Meet.mk rfl rfl WkOs.rfl ⟨Wk.of_eq ?_, Wk.rfl, trivial⟩ rfl⟩
        dsimp only
        rw [hs, ← hfs]
        show AV.d (DV.s _) = AV.d (DV.s _)
        simp [endS, mkS, hb]
  · have h3 : ¬ i < (p.length : Int) := by simpa using h3
    rw [List.take_of_length_le (by omega)] at hS1 ⊢
    refine brG2 (fun h6 => ?_) (fun h6 => ?_)
    · have h6 : ((progS p).length : Int) > 6000 := h6
      have h7 : ¬ (progS p).length ≤ 6000 := by omega
      have : progW p = [] := by simp [progW, h7]
      rw [this] at hQ
      refine goG2 ?_
      refine endK ⟨[], ⟨rfl, rfl⟩, ?_⟩
      refine wG ?_
      exact ⟨_, _, Wk.rfl, WkOs.rfl, hQ⟩
    · have h6 : ¬ ((progS p).length : Int) > 6000 := h6
      have h7 : (progS p).length ≤ 6000 := by omega
      have : progW p = progS p := by simp [progW, h1, h7]
      rw [this] at hQ
      refine goG2 ?_
      refine endK ⟨[], ⟨rfl, rfl⟩, ?_⟩
      refine wG ?_
      exact ⟨_, _, Wk.rfl, WkOs.rfl, hQ⟩
end Ab
