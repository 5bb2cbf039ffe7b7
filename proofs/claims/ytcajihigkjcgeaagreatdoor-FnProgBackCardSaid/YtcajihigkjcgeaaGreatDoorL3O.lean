/- The reference's checker, fifteenth part: statements. -/
import Derived.Test.YtcajihigkjcgeaaGreatDoorSyn
import Derived.Test.YtcajihigkjcgeaaGreatDoorL3L
set_option linter.all false
namespace Ab
open Go Go.Proofs
set_option maxRecDepth 10000
set_option maxHeartbeats 4000000
set_option linter.all false

theorem cntB_app (a b : List St) : cntB (a ++ b) = cntB a + cntB b := by simp [cntB]
theorem cntB_take (l : List St) (i : Nat) : cntB (l.take i) ≤ cntB l := by
  have := cntB_app (l.take i) (l.drop i)
  rw [List.take_append_drop] at this; omega
theorem cntB_take1 (l : List St) {i : Nat} (h : i < l.length) : cntB (l.take i) + cntS l[i] ≤ cntB l := by
  have := cntB_app (l.take i) [l[i]]
  rw [← List.take_succ_eq_append_getElem h] at this
  have h2 := cntB_take l (i + 1)
  have : cntB [l[i]] = cntS l[i] := by simp [cntB]
  omega
theorem StF.pos {d : Nat} {s : St} (h : StF d s) : 1 ≤ d := by cases h <;> omega
/-- (*l3Env).stmt -/
def S_s_l3Env_stmt (d : Nat) : Spec := fun args O Q => ∃ (e : En) (s : St), args = [.ptr 0 0, aSt s] ∧ O = oEn e ∧ EnOk e ∧ StF d s ∧ e.fns.length ≤ 100 ∧ e.vars.length + 500 * (d - 1) + 10 ≤ 10000 ∧ e.names.length + cntS s ≤ 100000 ∧
  Q (.tup []) (oEn1 (e.stmtD d s))
theorem v_stmt {B : World} {d : Nat} (hb : Valid PG B s_l3Env_body (S_s_l3Env_body d)) : Valid PG B s_l3Env_stmt (S_s_l3Env_stmt (d + 1)) := by
  refine valid_of (Γ := [(s_l3Env_expr, ⟨[], S_s_l3Env_expr 100⟩), (s_l3Env_add, ⟨[], S_s_l3Env_add⟩), (s_l3Env_use, ⟨[], S_s_l3Env_use⟩), (s_l3Env_same, ⟨[], S_s_l3Env_same⟩), (s_l3Env_call, ⟨[], S_s_l3Env_call⟩), (s_l3Env_pick, ⟨[], S_s_l3Env_pick⟩), (s_l3Env_num, ⟨[], S_s_l3Env_num⟩), (s_l3Env_fork, ⟨[], S_s_l3Env_fork d⟩)]) wide tok
    ((((((((AllValid.nil.cons (v_s_l3Env_fork hb)).cons v_s_l3Env_num).cons v_s_l3Env_pick).cons v_s_l3Env_call).cons v_s_l3Env_same).cons v_s_l3Env_use).cons v_s_l3Env_add).cons (v_s_l3Env_expr 100)) g_s_l3Env_stmt rfl rfl ?_
  rintro _ _ Q ⟨e, s, rfl, rfl, he, hs, hf, hv, hn, hQ⟩
  cases hs with
  | @let_ _ n x h1 h2 =>
    rw [stmt_let] at hQ
    have s1 := Step.expr (e := e) h2
    have s2 := s1.v1; have s3 := s1.n1
    have cp := cntS_pos (.mk 1 n pl0 pl0 x [] [] [] [])
    refine wG ?_
    refine Br.yes (by rfl) ?_
    refine wG ?_
    refine ⟨_, _, WkL.rfl, WkOs.rfl, e, x, 4, rfl, rfl, he, by omega, h2.ok, ?_⟩
    refine goG1 ?_
    refine ⟨_, _, WkL.cons Wk.rfl (WkL.cons (Wk.agg (WkL.cons Wk.rfl (WkL.cons Wk.rfl (WkL.cons Wk.rfl (WkL.cons Wk.rfl (WkL.cons (Wk.nil 2) (WkL.cons Wk.rfl WkL.nil))))))) WkL.nil), WkOs.rfl, (e.expr x).1, ⟨n, false, false, (e.expr x).2, [], false⟩, rfl, rfl, by omega, by omega, ?_⟩
    refine goG1 ?_
    refine endK ⟨[], ⟨rfl, rfl⟩, ?_⟩
    refine wG ?_
    exact ⟨_, _, Wk.rfl, WkOs.rfl, hQ⟩
  | @lend _ n p h1 h2 =>
    rw [stmt_lend] at hQ
    have hp := plOk_len h2
    have s1 := Step.use e p
    have s2 := s1.v1; have s3 := s1.n1
    have cp := cntS_pos (.mk 2 n p pl0 xp0 [] [] [] [])
    refine wG ?_
    refine Br.no (by rfl) ?_
    refine wG ?_
    refine Br.yes (by rfl) ?_
    refine wG ?_
    refine ⟨_, _, WkL.rfl, WkOs.rfl, e, p, rfl, rfl, he, by omega, ?_⟩
    refine goG1 ?_
    left
    refine wG ?_
    refine goG1 ?_
    have edp : [[DV.s p.name, DV.sl 1 (p.path.map dI)]] = [p].map dPl := rfl
    refine ⟨_, _, WkL.cons Wk.rfl (WkL.cons (Wk.agg (WkL.cons Wk.rfl (WkL.cons Wk.tt (WkL.cons Wk.rfl (WkL.cons Wk.rfl (WkL.cons (Wk.d (by rw [← edp]; exact DW.sf)) (WkL.cons Wk.rfl WkL.nil))))))) WkL.nil), WkOs.rfl, (e.use p).1, ⟨n, true, false, (e.use p).2, [p], false⟩, rfl, rfl, by omega, by omega, ?_⟩
    refine goG1 ?_
    refine endK ⟨[], ⟨rfl, rfl⟩, ?_⟩
    refine wG ?_
    exact ⟨_, _, Wk.rfl, WkOs.rfl, hQ⟩
  | @set _ p x h1 h2 =>
    rw [stmt_set] at hQ
    have hp := plOk_len h1
    obtain ⟨k1, k2⟩ := EnOk.expr he h2.ok
    refine wG ?_
    refine Br.no (by rfl) ?_
    refine wG ?_
    refine Br.no (by rfl) ?_
    refine wG ?_
    refine Br.yes (by rfl) ?_
    refine wG ?_
    refine ⟨_, _, WkL.rfl, WkOs.rfl, e, x, 4, rfl, rfl, he, by omega, h2.ok, ?_⟩
    refine goG1 ?_
    refine ⟨_, _, WkL.rfl, WkOs.rfl, (e.expr x).1, p, rfl, rfl, k1, by omega, ?_⟩
    refine goG1 ?_
    refine ⟨_, _, WkL.rfl, WkOs.rfl, ((e.expr x).1.use p).1, ((e.expr x).1.use p).2, (e.expr x).2, rfl, rfl, En.use_ty _ _, ?_⟩
    generalize ((e.expr x).1.use p).1.same ((e.expr x).1.use p).2 (e.expr x).2 = r at *
    refine goG1 ?_
    refine ⟨[.bump 1, .bump 2], ?_⟩
    refine wG ?_
    refine ⟨[], ⟨rfl, rfl⟩, ?_⟩
    refine wG ?_
    exact ⟨_, _, Wk.rfl, WkOs.rfl, hQ⟩
  | @call _ n f ar h1 h2 h3 h4 =>
    rw [stmt_call] at hQ
    refine wG ?_
    refine Br.no (by rfl) ?_
    refine wG ?_
    refine Br.no (by rfl) ?_
    refine wG ?_
    refine Br.no (by rfl) ?_
    refine wG ?_
    refine Br.yes (by rfl) ?_
    refine wG ?_
    refine ⟨_, _, WkL.rfl, WkOs.rfl, e, n, f, ar, rfl, rfl, he, by omega, hf, h3, h4, ?_⟩
    refine goG1 ?_
    refine endK ⟨[], ⟨rfl, rfl⟩, ?_⟩
    refine wG ?_
    exact ⟨_, _, Wk.rfl, WkOs.rfl, hQ⟩
  | @pick _ n p q x h1 h2 h3 h4 =>
    rw [stmt_pick] at hQ
    have hp := plOk_len h2
    have hq := plOk_len h3
    refine wG ?_
    refine Br.no (by rfl) ?_
    refine wG ?_
    refine Br.no (by rfl) ?_
    refine wG ?_
    refine Br.no (by rfl) ?_
    refine wG ?_
    refine Br.no (by rfl) ?_
    refine wG ?_
    refine Br.yes (by rfl) ?_
    refine wG ?_
    refine ⟨_, _, WkL.rfl, WkOs.rfl, e, .mk 6 n p q x [] [] [] [], rfl, rfl, he, by omega, XpF.ok (XpF.mono h4 (by omega)), by simp only [St.pl]; omega, by simp only [St.other]; omega, ?_⟩
    refine goG1 ?_
    refine endK ⟨[], ⟨rfl, rfl⟩, ?_⟩
    refine wG ?_
    exact ⟨_, _, Wk.rfl, WkOs.rfl, hQ⟩
  | @ifs _ x t l h1 h2 h3 h4 h5 h6 =>
    rw [stmt_if] at hQ
    obtain ⟨k1, k2⟩ := EnOk.expr he h1.ok
    have s1 : Step e ((e.expr x).1.num (e.expr x).2) 0 0 := (Step.expr h1).trans (.num _ _)
    have s2 := s1.v1; have s3 := s1.n1
    have k3 := k1.num (e.expr x).2
    have s4 := s1.fns
    rw [cntS_eq] at hn
    simp only [St.thn, St.els] at hn
    refine wG ?_
    refine Br.no (by rfl) ?_
    refine wG ?_
    refine Br.no (by rfl) ?_
    refine wG ?_
    refine Br.no (by rfl) ?_
    refine wG ?_
    refine Br.no (by rfl) ?_
    refine wG ?_
    refine Br.no (by rfl) ?_
    refine wG ?_
    refine ⟨_, _, WkL.rfl, WkOs.rfl, e, x, 4, rfl, rfl, he, by omega, h1.ok, ?_⟩
    refine goG1 ?_
    refine ⟨_, _, WkL.rfl, WkOs.rfl, (e.expr x).1, (e.expr x).2, rfl, rfl, ?_⟩
    refine goG1 ?_
    refine ⟨_, _, WkL.rfl, WkOs.rfl, ((e.expr x).1.num (e.expr x).2), x, t, l, rfl, rfl, k3, h4, h3, h6, h5, by rw [s4]; exact hf, by omega, by omega, ?_⟩
    refine goG1 ?_
    refine endK ⟨[], ⟨rfl, rfl⟩, ?_⟩
    refine wG ?_
    exact ⟨_, _, Wk.rfl, WkOs.rfl, hQ⟩

theorem v_body {B : World} {d : Nat} (hs : Valid PG B s_l3Env_stmt (S_s_l3Env_stmt d)) : Valid PG B s_l3Env_body (S_s_l3Env_body d) := by
  refine valid_of (Γ := [(s_l3Env_stmt, ⟨[], S_s_l3Env_stmt d⟩)]) wide tok (AllValid.nil.cons hs) g_s_l3Env_body rfl rfl ?_
  rintro _ _ Q ⟨e, l, rfl, rfl, he, hl, hll, hf, hv, hn, hQ⟩
  refine wG ?_
  refine ⟨[], En × Int, fun x => 0 ≤ x.2 ∧ x.2 ≤ l.length ∧ x.1 = e.bodyD d (l.take x.2.toNat), fun x => (l.length - x.2).toNat, fun x => [(4, iv x.2)], fun x => oEn1 x.1, (e, 0), ⟨by dsimp only; omega, by dsimp only; omega, rfl⟩, ?_⟩
  refine wG ?_
  refine ⟨Meet.mk rfl rfl WkOs.rfl ⟨Wk.rfl, trivial⟩ rfl, ?_⟩
  rintro ⟨e1, i⟩ ⟨i0, i1, h1⟩
  dsimp only at i0 i1 h1
  refine wG ?_
  have done : ∀ l', l.take i.toNat ++ l' = l → (i.toNat = l.length ∨ e1.code ≠ 0) → En.bodyD d e l = e1 := fun l' hl' h => by
    rcases h with h | h
    · rw [h1, List.take_of_length_le (by omega)]
    · rw [← hl', En.bodyD, List.foldl_append, ← En.bodyD, ← En.bodyD, ← h1, bodyD_stuck d e1 h]
  refine brG1 (fun h => ?_) (fun h => ?_)
  · have hi : i.toNat < l.length := by
      have h : i < (l.length : Int) := by simpa using h
      omega
    refine brG1 (fun h2 => ?_) (fun h2 => ?_)
    · have h2 : e1.code = 0 := h2
      have hS := hl _ (List.getElem_mem hi)
      have hx : (l.map dSt)[i.toNat]? = some (dSt l[i.toNat]) := by simp [hi]
      have st : Step e e1 (4 * (l.take i.toNat).length) (cntB (l.take i.toNat)) := by
        rw [h1]; exact Step.bodyD (fun s hs => hl s (List.mem_of_mem_take hs))
      have ke : EnOk e1 := by
        rw [h1]
        have := cntB_take l i.toNat
        exact EnOk.bodyD he (fun s hs => hl s (List.mem_of_mem_take hs)) (by simp; omega) hv (by omega)
      have ks : e1.bodyD d [l[i.toNat]] = e1.stmtD d l[i.toNat] := by simp [En.bodyD, h2]
      have e3 : (i + 1).toNat = i.toNat + 1 := by omega
      have h3 : e1.stmtD d l[i.toNat] = En.bodyD d e (l.take (i + 1).toNat) := by
        rw [e3, List.take_succ_eq_append_getElem hi, bodyD_snoc, ← h1, if_pos h2]
      have c1 := cntB_take1 l hi
      have hd := hS.pos
      have a1 := st.v1; have a2 := st.n1; have a3 := st.fns
      have a4 : (l.take i.toNat).length ≤ 40 := by simp; omega
      generalize l[i.toNat] = s at *
      refine Req.mk i0 ?_
      refine ⟨_, hx, ?_⟩
      rw [dSt_eq]
      refine wG ?_
      refine ⟨_, _, WkL.rfl, WkOs.rfl, e1, s, rfl, rfl, ke, hS, by rw [a3]; exact hf, by omega, by omega, ?_⟩
      refine goG1 ?_
      refine ⟨(e1.stmtD d s, i + 1), ⟨by dsimp only; omega, by dsimp only; omega, h3⟩, by dsimp only; omega, [], Meet.mk rfl rfl WkOs.rfl ⟨Wk.rfl, trivial⟩ rfl⟩
    · have h2 : e1.code ≠ 0 := h2
      rw [done _ (List.take_append_drop _ _) (.inr h2)] at hQ
      refine endK ⟨[], ⟨rfl, rfl⟩, ?_⟩
      refine wG ?_
      exact ⟨_, _, Wk.rfl, WkOs.rfl, hQ⟩
  · have hi : i.toNat = l.length := by
      have h : ¬ i < (l.length : Int) := by simpa using h
      omega
    rw [done _ (List.take_append_drop _ _) (.inl hi)] at hQ
    refine endK ⟨[], ⟨rfl, rfl⟩, ?_⟩
    refine wG ?_
    exact ⟨_, _, Wk.rfl, WkOs.rfl, hQ⟩

theorem v_stmts {B : World} : ∀ d, Valid PG B s_l3Env_stmt (S_s_l3Env_stmt d) ∧ Valid PG B s_l3Env_body (S_s_l3Env_body d)
  | 0 => by
    have h : Valid PG B s_l3Env_stmt (S_s_l3Env_stmt 0) := fun w g O args us Q _ _ _ _ ⟨_, s, _, _, _, h, _⟩ => by cases h
    exact ⟨h, v_body h⟩
  | d + 1 => by
    have h := v_stmt (B := B) (v_stmts d).2
    exact ⟨h, v_body h⟩
end Ab

/- The reference's checker, sixteenth part: what is of outside, and what is lent from what was there. -/
namespace Ab
open Go Go.Proofs
set_option maxRecDepth 10000
set_option maxHeartbeats 4000000
set_option linter.all false

/-! ### names are found again -/
theorem findV_app {vs ws : List Vr} {n : Bs} {i : Nat} (h : findV vs n = some i) : findV (vs ++ ws) n = some i := by
  induction vs generalizing i with
  | nil => simp [findV] at h
  | cons v vs ih =>
    simp only [findV, List.cons_append] at h ⊢
    split at h
    · rename_i hn; rw [if_pos hn]; exact h
    · rename_i hn
      rw [if_neg hn]
      simp only [Option.map_eq_some_iff] at h ⊢
      obtain ⟨j, hj, rfl⟩ := h
      exact ⟨j, ih hj, rfl⟩
theorem findV_cut {vs : List Vr} {n : Bs} {i k : Nat} (h : findV vs n = some i) (hi : i < k) : findV (vs.take k) n = some i := by
  induction vs generalizing i k with
  | nil => simp [findV] at h
  | cons v vs ih =>
    cases k with
    | zero => omega
    | succ k =>
      simp only [findV, List.take_succ_cons] at h ⊢
      split at h
      · rename_i hn; rw [if_pos hn]; exact h
      · rename_i hn
        rw [if_neg hn]
        simp only [Option.map_eq_some_iff] at h ⊢
        obtain ⟨j, hj, rfl⟩ := h
        exact ⟨j, ih hj (by omega), rfl⟩
theorem findV_shape : ∀ {vs ws : List Vr} {n : Bs}, vs.map Vr.shape = ws.map Vr.shape → findV vs n = findV ws n
  | [], [], _, _ => rfl
  | v :: vs, w :: ws, n, h => by
    simp only [List.map_cons, List.cons.injEq] at h
    have hn : v.name = w.name := by have := congrArg Vr.name h.1; exact this
    simp only [findV, hn, findV_shape h.2]
  | [], _ :: _, _, h => by simp at h
  | _ :: _, [], _, h => by simp at h
/-- lent from what was given ahead -/
def Acy (vars : List Vr) : Prop := ∀ (i : Nat) v, vars[i]? = some v → ∀ q ∈ v.loans, ∃ j, j < i ∧ findV vars q.name = some j
def TyV (vars : List Vr) : Prop := ∀ v ∈ vars, tyOk 4 v.ty = true
theorem shape_get {vs ws : List Vr} (h : vs.map Vr.shape = ws.map Vr.shape) {i : Nat} {v : Vr} (hv : ws[i]? = some v) : ∃ w, vs[i]? = some w ∧ w.shape = v.shape := by
  have := congrArg (·[i]?) h
  simp only [List.getElem?_map, hv, Option.map_some] at this
  cases h2 : vs[i]? with
  | none => rw [h2] at this; simp at this
  | some w => rw [h2] at this; simp at this; exact ⟨w, rfl, this⟩
theorem Acy.shape {vs ws : List Vr} (ha : Acy vs) (h : vs.map Vr.shape = ws.map Vr.shape) : Acy ws := fun i v hv q hq => by
  obtain ⟨w, hw, e⟩ := shape_get h hv
  have el : w.loans = v.loans := by have := congrArg Vr.loans e; exact this
  obtain ⟨j, hj, hf⟩ := ha i w hw q (by rw [el]; exact hq)
  exact ⟨j, hj, by rw [← findV_shape h]; exact hf⟩
theorem TyV.shape {vs ws : List Vr} (ha : TyV vs) (h : vs.map Vr.shape = ws.map Vr.shape) : TyV ws := fun v hv => by
  obtain ⟨i, hi, rfl⟩ := List.getElem_of_mem hv
  obtain ⟨w, hw, e⟩ := shape_get h (List.getElem?_eq_getElem hi)
  have el : w.ty = ws[i].ty := by have := congrArg Vr.ty e; exact this
  rw [← el]; exact ha w (List.mem_of_getElem? hw)
theorem Acy.snoc {vs : List Vr} (ha : Acy vs) {v : Vr} (h : ∀ q ∈ v.loans, ∃ j, findV vs q.name = some j) : Acy (vs ++ [v]) := fun i w hw q hq => by
  by_cases hi : i < vs.length
  · rw [List.getElem?_append_left hi] at hw
    obtain ⟨j, hj, hf⟩ := ha i w hw q hq
    exact ⟨j, hj, findV_app hf⟩
  · rw [List.getElem?_append_right (by omega)] at hw
    have hz : i - vs.length = 0 := by
      have := (List.getElem?_eq_some_iff.1 hw).1
      simp at this; omega
    rw [hz] at hw
    simp at hw; subst hw
    obtain ⟨j, hf⟩ := h q hq
    have := findV_lt hf
    exact ⟨j, by omega, findV_app hf⟩
theorem Acy.cut {vs : List Vr} (ha : Acy vs) (k : Nat) : Acy (vs.take k) := fun i v hv q hq => by
  have hi : i < k := by have := (List.getElem?_eq_some_iff.1 hv).1; simp at this; omega
  rw [List.getElem?_take_of_lt hi] at hv
  obtain ⟨j, hj, hf⟩ := ha i v hv q hq
  exact ⟨j, hj, findV_cut hf (by omega)⟩
theorem TyV.snoc {vs : List Vr} (ha : TyV vs) {v : Vr} (h : tyOk 4 v.ty = true) : TyV (vs ++ [v]) := fun w hw => by
  rcases List.mem_append.1 hw with hw | hw
  · exact ha w hw
  · simp at hw; subst hw; exact h
theorem TyV.cut {vs : List Vr} (ha : TyV vs) (k : Nat) : TyV (vs.take k) := fun w hw => ha w (List.mem_of_mem_take hw)

/-- both, while there is no fault -/
structure Gd (e : En) : Prop where
  ty : TyV e.vars
  acy : e.code = 0 → Acy e.vars
theorem Gd.of_shape {e e' : En} (h : Gd e) (hs : e.vars.map Vr.shape = e'.vars.map Vr.shape) (hc : e'.code = 0 → e.code = 0) : Gd e' :=
  ⟨h.ty.shape hs, fun hc' => (h.acy (hc hc')).shape hs⟩
theorem Step.code0 {e e' : En} {v n : Nat} (h : Step e e' v n) (hc : e'.code = 0) : e.code = 0 := Classical.byContradiction fun hn => h.code hn hc
theorem use_shape (e : En) (p : Pl) : e.vars.map Vr.shape = (e.use p).1.vars.map Vr.shape := by
  unfold En.use
  split
  · rfl
  · split
    · rfl
    · dsimp only; rw [shape_kill]
theorem num_vars (e : En) (t : Ty) : (e.num t).vars = e.vars := by unfold En.num; split <;> rfl
theorem same_vars (e : En) (a b : Ty) : (e.same a b).vars = e.vars := by unfold En.same; cases sameTy a b <;> rfl
theorem expr_shape : ∀ {n : Nat} {e : En} {x : Xp}, XpF n x → e.vars.map Vr.shape = (e.expr x).1.vars.map Vr.shape
  | _, e, _, .num h1 h2 => by rw [expr_1]
  | _, e, _, .read h => by rw [expr_2]; exact use_shape _ _
  | _, e, _, .two (k := k) (a := a) (b := b) h1 h2 ha hb => by
    rw [expr_b _ _ _ _ _ _ _ (by omega) (by omega)]
    have s1 := expr_shape (e := e) ha
    have s2 := s1.trans (expr_shape (e := (e.expr a).1) hb)
    split
    · cases h : tyOk 4 (.mk [(e.expr a).2, ((e.expr a).1.expr b).2]) with
      | true => exact s2
      | false => exact s2
    · dsimp only; rw [num_vars, num_vars]; exact s2
theorem Gd.use {e : En} (h : Gd e) (p : Pl) : Gd (e.use p).1 := h.of_shape (use_shape _ _) (Step.use e p).code0
theorem Gd.num {e : En} (h : Gd e) (t : Ty) : Gd (e.num t) := h.of_shape (by rw [num_vars]) (Step.num e t).code0
theorem Gd.same {e : En} (h : Gd e) (a b : Ty) : Gd (e.same a b) := h.of_shape (by rw [same_vars]) (Step.same e a b).code0
theorem Gd.expr {n : Nat} {e : En} {x : Xp} (h : Gd e) (hx : XpF n x) : Gd (e.expr x).1 := h.of_shape (expr_shape hx) (Step.expr hx).code0
theorem Gd.fail {e : En} (h : Gd e) (c : Int) : Gd (e.fail c) := h.of_shape rfl (Step.fail e c).code0
theorem Gd.fail0 {e : En} (h : Gd e) (c : Int) : Gd (e.fail0 c) := by unfold En.fail0; split; exact h.fail _; exact h
theorem use_found {e : En} {p : Pl} (h : (e.use p).1.code = 0) : ∃ j, findV e.vars p.name = some j := by
  unfold En.use at h
  split at h
  · exact absurd h (failc_ne (by omega))
  · rename_i i hi; exact ⟨i, hi⟩
theorem Gd.add {e : En} (h : Gd e) {v : Vr} (ht : tyOk 4 v.ty = true) (hl : e.code = 0 → ∀ q ∈ v.loans, ∃ j, findV e.vars q.name = some j) : Gd (e.add v) :=
  ⟨h.ty.snoc ht, fun hc => by
    have h0 := (Step.add e v).code0 hc
    exact (h.acy h0).snoc (hl h0)⟩
theorem Gd.push {e : En} (h : Gd e) {p : Pl} (hl : e.code = 0 → ∃ j, findV e.vars p.name = some j) : Gd (e.push p) :=
  ⟨h.ty.snoc rfl, fun hc => (h.acy hc).snoc (by simp [tmpV]; exact hl hc)⟩
theorem Gd.cut {e : En} (h : Gd e) {c : Int} (hc : e.code ≠ 0 → c ≠ 0) (k : Nat) : Gd { e with code := c, vars := e.vars.take k } :=
  ⟨h.ty.cut k, fun h0 => (h.acy (Classical.byContradiction fun hn => hc hn h0)).cut k⟩
theorem found_shape {vs ws : List Vr} {n : Bs} (h : vs.map Vr.shape = ws.map Vr.shape) (hf : ∃ j, findV vs n = some j) : ∃ j, findV ws n = some j := by rw [← findV_shape h]; exact hf
/-- found in what stood ahead of a step, and still -/
theorem Step.found {e e' : En} {v n : Nat} (h : Step e e' v n) {k : Bs} (hf : ∃ j, findV e.vars k = some j) : ∃ j, findV e'.vars k = some j := by
  obtain ⟨j, hj⟩ := hf
  obtain ⟨L, hL⟩ := h.pre
  have h1 : (e'.vars.take e.vars.length).map Vr.shape = e.vars.map Vr.shape := by
    rw [List.map_take, ← hL]; simp
  have h2 : findV (e'.vars.take e.vars.length) k = some j := by rw [findV_shape h1]; exact hj
  have := findV_app (ws := e'.vars.drop e.vars.length) h2
  rw [List.take_append_drop] at this
  exact ⟨j, this⟩
theorem Gd.args : ∀ {ar : List Ar} {ps : List Pm} {e : En} {e0 : En} {v : Nat} {L : List Pl}, Gd e → Step e0 e v 0 → (∀ a ∈ ar, ArF a) → (e.code = 0 → ∀ q ∈ L, ∃ j, findV e0.vars q.name = some j) →
    (∀ a ∈ ar, a.lent = true → a.pl.name ≠ []) → (∀ v ∈ e.vars.drop e0.vars.length, v.name = []) →
    Gd (e.args ar ps L).1 ∧ ∀ L', (e.args ar ps L).2 = some L' → (e.args ar ps L).1.code = 0 → ∀ q ∈ L', ∃ j, findV e0.vars q.name = some j
  | [], ps, e, e0, v, L, he, _, _, hL, _, _ => by rw [args_nil]; exact ⟨he, by simp; exact hL⟩
  | a :: ar, [], e, e0, v, L, he, _, _, hL, _, _ => by simp only [En.args]; exact ⟨he, by simp; exact hL⟩
  | a :: ar, p :: ps, e, e0, v, L, he, st, h, hL, hn, ht => by
    have ha := h a (by simp)
    have hna := hn a (by simp)
    have h' : ∀ b ∈ ar, ArF b := fun b hb => h b (List.mem_cons_of_mem _ hb)
    have hn' : ∀ b ∈ ar, b.lent = true → b.pl.name ≠ [] := fun b hb => hn b (List.mem_cons_of_mem _ hb)
    have key : ∀ e1 : En, e.vars.map Vr.shape = e1.vars.map Vr.shape → ∀ v ∈ e1.vars.drop e0.vars.length, v.name = [] := fun e1 hs w hw => by
      obtain ⟨k, hk, rfl⟩ := List.getElem_of_mem hw
      have hk2 : e1.vars[e0.vars.length + k]? = some (e1.vars.drop e0.vars.length)[k] := by
        rw [List.getElem_drop]; exact List.getElem?_eq_getElem _
      obtain ⟨u, hu, e2⟩ := shape_get hs hk2
      have : u ∈ e.vars.drop e0.vars.length := by
        refine List.mem_of_getElem? (i := k) ?_
        rw [List.getElem?_drop]; exact hu
      have hun := ht u this
      have en := congrArg Vr.name e2
      exact (show (e1.vars.drop e0.vars.length)[k].name = u.name from en.symm).trans hun
    rw [En.args]
    split
    · cases ha with
      | @lent q hq =>
        rw [if_pos (Eq.refl _)]
        dsimp only at hna ⊢
        have s1 : Step e ((e.use q).1.same (e.use q).2 p.ty) 0 0 := (Step.use e q).trans (.same _ _ _)
        have sh : e.vars.map Vr.shape = ((e.use q).1.same (e.use q).2 p.ty).vars.map Vr.shape := by rw [same_vars]; exact use_shape _ _
        have g1 : Gd ((e.use q).1.same (e.use q).2 p.ty) := (he.use q).same _ _
        have fq : ((e.use q).1.same (e.use q).2 p.ty).code = 0 → ∃ j, findV e0.vars q.name = some j := fun hc => by
          obtain ⟨j, hj⟩ := use_found ((Step.same (e.use q).1 (e.use q).2 p.ty).code0 hc)
          -- the name is not empty, so it is one of those ahead
          have hlt := findV_lt hj
          by_cases hjl : j < e0.vars.length
          · have := findV_cut hj hjl
            have h1 : (e.vars.take e0.vars.length).map Vr.shape = e0.vars.map Vr.shape := by
              obtain ⟨R, hR⟩ := st.pre
              rw [List.map_take, ← hR]; simp
            rw [findV_shape h1] at this
            exact ⟨j, this⟩
          · exfalso
            have hnm : ∀ {vs : List Vr} {i : Nat}, findV vs q.name = some i → ∃ v, vs[i]? = some v ∧ v.name = q.name := by
              intro vs
              induction vs with
              | nil => intro i h; simp [findV] at h
              | cons v vs ih =>
                intro i h
                simp only [findV] at h
                split at h
                · rename_i hn; simp at h; subst h; exact ⟨v, by simp, hn⟩
                · simp only [Option.map_eq_some_iff] at h
                  obtain ⟨k, hk, rfl⟩ := h
                  obtain ⟨w, hw, e⟩ := ih hk
                  exact ⟨w, by simpa using hw, e⟩
            obtain ⟨w, hw, hwn⟩ := hnm hj
            have : w ∈ e.vars.drop e0.vars.length := by
              refine List.mem_of_getElem? (i := j - e0.vars.length) ?_
              rw [List.getElem?_drop, show e0.vars.length + (j - e0.vars.length) = j by omega]; exact hw
            exact hna (Eq.refl _) (hwn ▸ ht w this)
        refine Gd.args (e0 := e0) (v := v + 1) (g1.push fun hc => ?_) ((st.trans (s1.trans (.push _ _))).mono (by omega) (by omega)) h' (fun hc r hr => ?_) hn' (fun w hw => ?_)
        · obtain ⟨j, hj⟩ := fq hc
          exact (st.trans s1).found ⟨j, hj⟩
        · have hc0 : ((e.use q).1.same (e.use q).2 p.ty).code = 0 := hc
          rcases List.mem_append.1 hr with hr | hr
          · exact hL (s1.code0 hc0) r hr
          · simp at hr; subst hr; exact fq hc0
        · simp only [En.push] at hw
          rw [List.drop_append] at hw
          rcases List.mem_append.1 hw with hw | hw
          · exact key _ sh w hw
          · have := List.mem_of_mem_drop hw
            simp at this; subst this; rfl
      | @own x hx =>
        rw [if_neg (by simp)]
        have s1 : Step e ((e.expr x).1.same (e.expr x).2 p.ty) 0 0 := (Step.expr hx).trans (.same _ _ _)
        exact Gd.args (e0 := e0) (v := v) ((he.expr hx).same _ _) ((st.trans s1).mono (by omega) (by omega)) h' (fun hc q hq => hL (s1.code0 hc) q hq) hn' (key _ (by rw [same_vars]; exact expr_shape hx))
    · exact ⟨he.fail _, by simp⟩
theorem plOk_name {p : Pl} (h : plOk p = true) : p.name ≠ [] := by
  intro hn
  simp [plOk, nameOk, hn] at h
theorem Gd.call {e : En} {n f : Bs} {ar : List Ar} (he : Gd e) (h : ∀ a ∈ ar, ArF a) (hf : ∀ g ∈ e.fns, tyOk 4 g.ty = true) : Gd (e.call n f ar) := by
  unfold En.call
  split
  · exact he.fail _
  · split
    · exact he
    · rename_i fd hfd
      split
      · have hn : ∀ a ∈ ar, a.lent = true → a.pl.name ≠ [] := fun a ha hl => by
          cases h a ha with
          | lent hq => exact plOk_name hq
          | own => cases hl
        obtain ⟨h1, h2⟩ := Gd.args (ps := fd.params) (L := []) (e0 := e) (v := 0) he .rfl h (by simp) hn (by simp)
        obtain ⟨s1, _, s3⟩ := Step.args (ps := fd.params) (e := e) (L := []) h
        split
        · rename_i e1 heq
          rw [heq] at h1
          exact h1
        · rename_i e1 L heq
          rw [heq] at h1 h2 s1 s3
          have h2 := h2 L (Eq.refl _)
          dsimp only at h1 h2 s1
          rw [En.call2]
          have hc : e1.code ≠ 0 → (bif anyDead e1.vars e.vars.length then failc e1.code 4 else e1.code) ≠ 0 := fun hc => by
            cases anyDead e1.vars e.vars.length with
            | true => exact failc_ne' hc
            | false => exact hc
          refine Gd.add (h1.cut hc _) (hf fd (List.mem_of_getElem? hfd)) (fun h0 q hq => ?_)
          have hL : q ∈ L := by
            dsimp only at hq
            cases hl : fd.lent with
            | true => rw [hl] at hq; exact hq
            | false => rw [hl] at hq; simp at hq
          obtain ⟨j, hj⟩ := h2 (Classical.byContradiction fun hn => hc hn h0) q hL
          have := (s1.cut (c := e1.code) id).found ⟨j, hj⟩
          exact this
      · exact he.fail _
theorem Gd.pick {e : En} {s : St} (he : Gd e) (hx : XpF 4 s.ex) (hp : plOk s.pl = true) (hq : plOk s.other = true) : Gd (e.pick s) := by
  unfold En.pick
  have h0 : Gd (e.pick0 s).1 := ((he.expr hx).num _).use _
  have f0 : (e.pick0 s).1.code = 0 → ∃ j, findV (e.pick0 s).1.vars s.pl.name = some j := fun hc => found_shape (use_shape _ _) (use_found hc)
  have t0 : tyOk 4 (e.pick0 s).2 = true := En.use_ty _ _
  generalize e.pick0 s = r at *
  obtain ⟨e0, t⟩ := r
  dsimp only at *
  have g1 : Gd (e0.pick1 t s) := ((h0.push f0).use _).same _ _
  have s1 : Step e0 (e0.pick1 t s) 1 0 := ((Step.push e0 s.pl).trans (.use _ _)).trans (.same _ _ _)
  have f1 : (e0.pick1 t s).code = 0 → ∃ j, findV e0.vars s.other.name = some j := fun hc => by
    obtain ⟨j, hj⟩ := use_found ((Step.same _ _ _).code0 hc)
    have hj : findV (e0.vars ++ [tmpV s.pl]) s.other.name = some j := hj
    by_cases hjl : j < e0.vars.length
    · have := findV_cut hj hjl
      rw [List.take_left] at this
      exact ⟨j, this⟩
    · exfalso
      have : ∀ {vs : List Vr} {i : Nat}, findV (vs ++ [tmpV s.pl]) s.other.name = some i → i < vs.length := by
        intro vs
        induction vs with
        | nil =>
          intro i h
          have hne := plOk_name hq
          simp [findV, tmpV, Ne.symm hne] at h
        | cons v vs ih =>
          intro i h
          simp only [findV, List.cons_append] at h
          split at h
          · simp at h; subst h; simp
          · simp only [Option.map_eq_some_iff] at h
            obtain ⟨k, hk, rfl⟩ := h
            have := ih hk
            simp; omega
      exact hjl (this hj)
  generalize e0.pick1 t s = e1 at *
  rw [En.pick2]
  have hc : e1.code ≠ 0 → (bif deadAt e1.vars e0.vars.length then failc e1.code 4 else e1.code) ≠ 0 := fun hc => by
    cases deadAt e1.vars e0.vars.length with
    | true => exact failc_ne' hc
    | false => exact hc
  refine Gd.add (g1.cut hc _) t0 (fun h2 q hq' => ?_)
  have hc1 : e1.code = 0 := Classical.byContradiction fun hn => hc hn h2
  have up : ∀ {k : Bs}, (∃ j, findV e0.vars k = some j) → ∃ j, findV (e1.vars.take e0.vars.length) k = some j := fun h => (s1.cut (c := e1.code) id).found h
  simp at hq'
  rcases hq' with rfl | rfl
  · exact up (f0 (s1.code0 hc1))
  · exact up (f1 hc1)
theorem Gd.fork {f : En → List St → En} {e : En} {t l : List St} (he : Gd e) : Gd (e.fork f t l) := by
  unfold En.fork
  dsimp only
  refine Gd.fail0 (Gd.fail0 ?_ _) _
  exact ⟨he.ty.shape (joinV_shape _ _ _).symm, fun hc => (he.acy hc).shape (joinV_shape _ _ _).symm⟩
theorem expr_ty {n : Nat} {e : En} {x : Xp} (h : XpF n x) : tyOk 4 (e.expr x).2 = true := by
  cases h with
  | num h1 h2 => rw [expr_1]; rfl
  | read h => rw [expr_2]; exact En.use_ty _ _
  | @two n k a b h1 h2 ha hb =>
    rw [expr_b _ _ _ _ _ _ _ (by omega) (by omega)]
    split
    · cases h : tyOk 4 (.mk [(e.expr a).2, ((e.expr a).1.expr b).2]) with
      | true => exact h
      | false => rfl
    · rfl
theorem Gd.stmt {d : Nat} {e : En} {s : St} (he : Gd e) (hf : ∀ g ∈ e.fns, tyOk 4 g.ty = true) (hs : StF d s) : Gd (e.stmtD d s) := by
  cases hs with
  | let_ h1 h2 => rw [stmt_let]; exact (he.expr h2).add (expr_ty h2) (by simp)
  | lend h1 h2 =>
    rw [stmt_lend]
    exact (he.use _).add (En.use_ty _ _) (fun hc q hq => by simp at hq; subst hq; exact found_shape (use_shape _ _) (use_found hc))
  | set h1 h2 => rw [stmt_set]; exact ((he.expr h2).use _).same _ _
  | call h1 h2 h3 h4 => rw [stmt_call]; exact he.call h4 hf
  | pick h1 h2 h3 h4 => rw [stmt_pick]; exact Gd.pick (s := .mk 6 _ _ _ _ [] [] [] []) he h4 h2 h3
  | ifs h1 => rw [stmt_if]; exact ((he.expr h1).num _).fork

/-! ### of outside -/
def outB (vars : List Vr) : Nat → Pl → Bool
  | 0, _ => false
  | n + 1, p => match findV vars p.name with
    | none => false
    | some i => match vars[i]? with
      | none => false
      | some v => v.lent && (v.param || v.loans.all (outB vars n))
/-- (*l3Env).outside -/
def S_s_l3Env_outside (n : Nat) : Spec := fun args O Q => ∃ (e : En) (p : Pl) (m : Nat), args = [.ptr 0 0, aPl p] ∧ O = oEn e ∧ EnOk e ∧ Acy e.vars ∧ m < n ∧ (∀ i, findV e.vars p.name = some i → i < m) ∧ Q (bv (outB e.vars m p)) (oEn e)
theorem v_s_l3Env_outside {B : World} : ∀ n, Valid PG B s_l3Env_outside (S_s_l3Env_outside n) := by
  refine valid_lt (fun args O Q ⟨e, p, m, _, _, _, _, h1, _⟩ => by omega) fun n ih => ?_
  refine valid_of (Γ := [(s_l3Env_find, ⟨[], S_s_l3Env_find⟩), (s_l3Env_outside, ⟨[], S_s_l3Env_outside n⟩)]) wide tok ((AllValid.nil.cons ih).cons v_s_l3Env_find) g_s_l3Env_outside rfl rfl ?_
  rintro _ _ Q ⟨e, p, m, rfl, rfl, he, ha, hm, hi, hQ⟩
  have hv := he.vars
  refine wG ?_
  refine ⟨_, _, WkL.rfl, WkOs.rfl, e, p.name, rfl, rfl, by omega, ?_⟩
  refine goG1 ?_
  cases hf : findV e.vars p.name with
  | none =>
    have e1 : findI e.vars p.name = -1 := by rw [findI, hf]
    have e2 : outB e.vars m p = false := by cases m <;> simp [outB, hf]
    rw [e2] at hQ
    rw [e1]
    refine Br.yes (by rfl) ?_
    refine wG ?_
    refine endK ⟨[], ⟨rfl, rfl⟩, ?_⟩
    refine wG ?_
    exact ⟨_, _, Wk.rfl, WkOs.rfl, hQ⟩
  | some i =>
    have hlt := findV_lt hf
    have him := hi i hf
    obtain ⟨m, rfl⟩ : ∃ k, m = k + 1 := ⟨m - 1, by omega⟩
    have e1 : findI e.vars p.name = i := by rw [findI, hf]
    obtain ⟨v, hvi⟩ : ∃ v, e.vars[i]? = some v := ⟨_, List.getElem?_eq_getElem hlt⟩
    have e2 : outB e.vars (m + 1) p = (v.lent && (v.param || v.loans.all (outB e.vars m))) := by simp only [outB, hf, hvi]
    rw [e2] at hQ
    have hvm := List.mem_of_getElem? hvi
    have hlo := he.loans v hvm
    have hpa := he.paths v hvm
    have hac := ha i v hvi
    rw [e1]
    have hget : (e.vars.map dVr)[((i : Nat) : Int).toNat]? = some (dVr v) := by simp [hvi]
    have hbb : (i : Int) < ((e.vars.map dVr).length : Int) := by simp; exact hlt
    refine Br.no (by simp) ?_
    refine wG ?_
    refine ⟨⟨Int.natCast_nonneg _, hbb⟩, ?_⟩
    refine wG ?_
    refine ⟨dVr v, hget, ?_⟩
    refine wG ?_
    refine ⟨fun h2 => ?_, fun h2 => ?_⟩
    · have h2 : v.lent = false := of_not_t h2
      rw [h2, Bool.false_and] at hQ
      refine wG ?_
      refine endK ⟨[], ⟨rfl, rfl⟩, ?_⟩
      refine wG ?_
      exact ⟨_, _, Wk.rfl, WkOs.rfl, hQ⟩
    have h2 : v.lent = true := of_not_f h2
    rw [h2, Bool.true_and] at hQ
    refine wG ?_
    refine ⟨⟨Int.natCast_nonneg _, hbb⟩, ?_⟩
    refine wG ?_
    refine ⟨dVr v, hget, ?_⟩
    refine wG ?_
    refine ⟨fun h3 => ?_, fun h3 => ?_⟩
    · have h3 : v.param = true := h3
      rw [h3, Bool.true_or] at hQ
      refine wG ?_
      refine endK ⟨[], ⟨rfl, rfl⟩, ?_⟩
      refine wG ?_
      exact ⟨_, _, Wk.rfl, WkOs.rfl, hQ⟩
    have h3 : v.param = false := h3
    rw [h3, Bool.false_or] at hQ
    have fin : ∀ b, v.loans.all (outB e.vars m) = b → wkQ Q (bv b) (oEn e) := fun b h => ⟨_, _, Wk.rfl, WkOs.rfl, by subst h; exact hQ⟩
    refine wG ?_
    refine ⟨[], Int, fun k => 0 ≤ k ∧ k ≤ v.loans.length ∧ (v.loans.take k.toNat).all (outB e.vars m) = true, fun k => (v.loans.length - k).toNat, fun k => [(6, iv k)], fun _ => oEn e ++ [bPl p], 0, ⟨by omega, by omega, by simp⟩, ?_⟩
    refine wG ?_
    refine ⟨Meet.mk rfl rfl WkOs.rfl ⟨Wk.rfl, trivial⟩ rfl, ?_⟩
    rintro k ⟨k0, k1, k2⟩
    refine wG ?_
    refine ⟨⟨Int.natCast_nonneg _, hbb⟩, ?_⟩
    refine wG ?_
    refine ⟨dVr v, hget, ?_⟩
    refine wG ?_
    refine brG1 (fun h4 => ?_) (fun h4 => ?_)
    · have hk : k.toNat < v.loans.length := by omega
      have e3 : (k + 1).toNat = k.toNat + 1 := by omega
      have hqm := List.getElem_mem hk
      refine ⟨⟨Int.natCast_nonneg _, hbb⟩, ?_⟩
      refine wG ?_
      refine ⟨dVr v, hget, ?_⟩
      refine wG ?_
      first | refine idx_map (f := dPl) (by omega) (by (try simp only [List.length_append, List.length_cons, List.length_nil, List.length_map, List.length_take, List.length_drop, maxRow, byteRows_len, Ty.kids, Ty.kids_mk]); omega) ?_ | refine idx_map' (f := dPl) (by (try simp only [List.length_append, List.length_cons, List.length_nil, List.length_map, List.length_take, List.length_drop, maxRow, byteRows_len, Ty.kids, Ty.kids_mk]); omega) ?_
      refine wG ?_
      obtain ⟨j, hj, hfj⟩ := hac _ hqm
      refine ⟨_, _, WkL.rfl, WkOs.rfl, e, v.loans[k.toNat], m, rfl, rfl, he, ha, by omega, (fun i' h => by rw [hfj] at h; simp at h; omega), ?_⟩
      refine goG1 ?_
      refine ⟨fun h5 => ?_, fun h5 => ?_⟩
      · have h5 : outB e.vars m v.loans[k.toNat] = false := of_not_t h5
        refine wG ?_
        refine endK ⟨[], ⟨rfl, rfl⟩, ?_⟩
        refine wG ?_
        refine fin _ ?_
        exact List.all_eq_false.2 ⟨_, hqm, by rw [h5]; simp⟩
      · have h5 : outB e.vars m v.loans[k.toNat] = true := of_not_f h5
        refine wG ?_
        refine goG1 ?_
        refine ⟨k + 1, ⟨by omega, by omega, e3 ▸ take_all hk k2 h5⟩, by dsimp only; omega, [], Meet.mk rfl rfl WkOs.rfl ⟨Wk.rfl, trivial⟩ rfl⟩
    · refine endK ⟨[], ⟨rfl, rfl⟩, ?_⟩
      refine wG ?_
      refine fin _ ?_
      rw [List.take_of_length_le (by omega)] at k2
      exact k2
end Ab

/- The reference's checker, seventeenth part: the beginning of a function. -/
namespace Ab
open Go Go.Proofs
set_option maxRecDepth 10000
set_option maxHeartbeats 4000000
set_option linter.all false

def pmV (x : Pm) : Vr := ⟨x.name, x.lent, true, x.ty, [], false⟩
def En.startP (p : Pr) (fn : Int) (ps : List Pm) : En := ps.foldl (fun e x => e.add (pmV x)) ⟨p, fn, [], [], 0⟩
theorem startP_snoc (p : Pr) (fn : Int) (ps : List Pm) (x : Pm) : En.startP p fn (ps ++ [x]) = (En.startP p fn ps).add (pmV x) := by simp [En.startP]
theorem fold_sizes : ∀ (ps : List Pm) (e : En), (ps.foldl (fun e x => e.add (pmV x)) e).vars = e.vars ++ ps.map pmV ∧ (ps.foldl (fun e x => e.add (pmV x)) e).names.length = e.names.length + ps.length ∧ (ps.foldl (fun e x => e.add (pmV x)) e).fns = e.fns ∧ (ps.foldl (fun e x => e.add (pmV x)) e).fn = e.fn
  | [], e => by simp
  | x :: ps, e => by
    obtain ⟨h1, h2, h3, h4⟩ := fold_sizes ps (e.add (pmV x))
    simp only [List.foldl_cons]
    refine ⟨by rw [h1]; simp [En.add], by rw [h2]; simp [En.add]; omega, h3, h4⟩
theorem startP_sizes (p : Pr) (fn : Int) (ps : List Pm) : (En.startP p fn ps).vars = ps.map pmV ∧ (En.startP p fn ps).names.length = ps.length ∧ (En.startP p fn ps).fns = p ∧ (En.startP p fn ps).fn = fn := by
  have := fold_sizes ps ⟨p, fn, [], [], 0⟩
  simpa [En.startP] using this
theorem EnOk.start {p : Pr} {fn : Int} {ps : List Pm} (h : ps.length ≤ 1000) : EnOk (En.startP p fn ps) := by
  obtain ⟨h1, h2, h3, h4⟩ := startP_sizes p fn ps
  refine ⟨by rw [h1]; simp; omega, by omega, fun v hv => ?_, fun v hv q hq => ?_⟩
  · rw [h1] at hv
    obtain ⟨x, _, rfl⟩ := List.mem_map.1 hv
    simp [pmV]
  · rw [h1] at hv
    obtain ⟨x, _, rfl⟩ := List.mem_map.1 hv
    simp [pmV] at hq
theorem Gd.start {p : Pr} {fn : Int} {ps : List Pm} (h : ∀ x ∈ ps, tyOk 4 x.ty = true) : Gd (En.startP p fn ps) := by
  obtain ⟨h1, h2, h3, h4⟩ := startP_sizes p fn ps
  refine ⟨fun v hv => ?_, fun _ i v hv q hq => ?_⟩
  · rw [h1] at hv
    obtain ⟨x, hx, rfl⟩ := List.mem_map.1 hv
    exact h x hx
  · rw [h1] at hv
    obtain ⟨x, _, rfl⟩ := List.mem_map.1 (List.mem_of_getElem? hv)
    simp [pmV] at hq
/-- l3Start -/
def S_s_l3Start : Spec := fun args O Q => ∃ (p : Pr) (k : Nat) (f : Fd), args = [aPr p, iv k] ∧ O = [] ∧ p[k]? = some f ∧ f.params.length ≤ 1000 ∧ Q (.ptr 2 0) (oCp (En.startP p k f.params) 0)
theorem v_s_l3Start {B : World} : Valid PG B s_l3Start S_s_l3Start := by
  refine valid_of (Γ := [(s_l3Env_add, ⟨[], S_s_l3Env_add⟩)]) wide tok (AllValid.nil.cons v_s_l3Env_add) g_s_l3Start rfl rfl ?_
  rintro _ _ Q ⟨p, k, f, rfl, rfl, hk, hf, hQ⟩
  have hx : (p.map dFd)[((k : Nat) : Int).toNat]? = some (dFd f) := by simp [hk]
  refine wG ?_
  refine ⟨[.cell 1 2 6, .cell 1 3 1], En × Int, fun x => 0 ≤ x.2 ∧ x.2 ≤ f.params.length ∧ x.1 = En.startP p k (f.params.take x.2.toNat), fun x => (f.params.length - x.2).toNat, fun x => [(6, iv x.2)], fun x => [.cells [.d (.sl 12 (p.map dFd))], .cells [.d (.sl 12 (x.1.fns.map dFd)), iv x.1.fn, .row 2 1, .row 3 1, iv x.1.code], .row 1 true 6 (x.1.vars.map dVr), .row 1 true 1 (x.1.names.map dS)], (⟨p, k, [], [], 0⟩, 0), ⟨by dsimp only; omega, by dsimp only; omega, rfl⟩, ?_⟩
  refine wG ?_
  refine ⟨Meet.mk rfl rfl WkOs.rfl ⟨Wk.rfl, trivial⟩ rfl, ?_⟩
  rintro ⟨e, i⟩ ⟨i0, i1, h1⟩
  dsimp only at i0 i1 h1
  refine wG ?_
  refine Req.mk (Int.natCast_nonneg _) ?_
  refine ⟨_, hx, ?_⟩
  rw [dFd_eq]
  refine wG ?_
  obtain ⟨z1, z2, z3, z4⟩ := startP_sizes p k (f.params.take i.toNat)
  rw [← h1] at z1 z2 z3 z4
  have zl : e.vars.length ≤ 1000 := by rw [z1]; simp; omega
  have zn : e.names.length ≤ 1000 := by rw [z2]; simp; omega
  refine brG1 (fun h => ?_) (fun h => ?_)
  · have hi : i.toNat < f.params.length := by
      have h : i < (f.params.length : Int) := by simpa using h
      omega
    have e3 : (i + 1).toNat = i.toNat + 1 := by omega
    have hpx : (f.params.map dPm)[i.toNat]? = some (dPm f.params[i.toNat]) := by simp [hi]
    have hs : e.add (pmV f.params[i.toNat]) = En.startP p k (f.params.take (i + 1).toNat) := by
      rw [e3, List.take_succ_eq_append_getElem hi, startP_snoc, ← h1]
    generalize f.params[i.toNat] = x at *
    refine Req.mk (Int.natCast_nonneg _) ?_
    refine ⟨_, hx, ?_⟩
    rw [dFd_eq]
    refine wG ?_
    refine Req.mk i0 ?_
    refine ⟨_, hpx, ?_⟩
    rw [dPm_eq]
    refine wG ?_
    refine ⟨_, _, WkL.cons Wk.rfl (WkL.cons (Wk.agg (WkL.cons Wk.rfl (WkL.cons Wk.rfl (WkL.cons Wk.tt (WkL.cons Wk.rfl (WkL.cons (Wk.nil 2) (WkL.cons Wk.rfl WkL.nil))))))) WkL.nil), WkOs.rfl, e, pmV x, rfl, rfl, by omega, by omega, ?_⟩
    generalize e.add (pmV x) = r at *
    refine goG1 ?_
    refine ⟨(r, i + 1), ⟨by dsimp only; omega, by dsimp only; omega, hs⟩, by dsimp only; omega, [], Meet.mk rfl rfl WkOs.rfl ⟨Wk.rfl, trivial⟩ rfl⟩
  · have hi : ¬ i < (f.params.length : Int) := by simpa using h
    rw [List.take_of_length_le (by omega)] at h1
    rw [← h1] at hQ
    refine endK ⟨[2, 3, 1], ⟨rfl, rfl⟩, ?_⟩
    refine wG ?_
    exact ⟨_, _, Wk.rfl, WkOs.rfl, hQ⟩
end Ab
