/- The draws, first part: states that are written no more, paths and places. -/
import Derived.Test.YtcajihigkjcgeaaGreatDoorSyn
import Derived.Test.YtcajihigkjcgeaaGreatDoorL3O
set_option linter.all false
namespace Ab
open Go Go.Proofs
set_option maxRecDepth 10000
set_option maxHeartbeats 4000000
set_option linter.all false

/-- a state that is written no more -/
abbrev cEn (e : En) : List DV := [.sl 12 (e.fns.map dFd), .i .i64 e.fn, .sl 6 (e.vars.map dVr), .sl 1 (e.names.map dS), .i .i64 e.code]
/-- (*l3Env).copy, of what is written no more -/
def S_copyD : Spec := fun args O Q => ∃ (e : En), args = [.da (cEn e)] ∧ O = [] ∧ EnOk e ∧ Q (.ptr 2 0) (oCp e 0)
def S_copyF : Spec := fun args O Q => ∃ (e : En), args = [.da (cEn e)] ∧ O = [] ∧ EnOk e ∧ Q (.da (cEn e)) []
theorem v_copyD {B : World} : Valid PG B s_l3Env_copy S_copyD := by
  refine valid_of (Γ := []) wide tok AllValid.nil g_s_l3Env_copy rfl rfl ?_
  rintro _ _ Q ⟨⟨fns, fn, vars, names, code⟩, rfl, rfl, he, hQ⟩
  have h1 := he.vars
  have h2 := he.names
  dsimp only at h1 h2
  refine wG ?_
  refine goG1 ?_
  refine ⟨⟨.inl rfl, by simp [maxRow]; omega⟩, ?_⟩
  refine wG ?_
  refine goG1 ?_
  refine ⟨⟨.inl rfl, by simp [maxRow]; omega⟩, ?_⟩
  refine wG ?_
  refine goG1 ?_
  refine endK ⟨[0, 1, 2], ⟨rfl, rfl⟩, ?_⟩
  refine wG ?_
  exact ⟨_, _, Wk.rfl, WkOs.rfl, hQ⟩
theorem v_copyF {B : World} : Valid PG B s_l3Env_copy S_copyF := by
  refine valid_of (Γ := []) wide tok AllValid.nil g_s_l3Env_copy rfl rfl ?_
  rintro _ _ Q ⟨⟨fns, fn, vars, names, code⟩, rfl, rfl, he, hQ⟩
  have h1 := he.vars
  have h2 := he.names
  dsimp only at h1 h2
  refine wG ?_
  refine goG1 ?_
  refine ⟨⟨.inl rfl, by simp [maxRow]; omega⟩, ?_⟩
  refine wG ?_
  refine goG1 ?_
  refine ⟨⟨.inl rfl, by simp [maxRow]; omega⟩, ?_⟩
  refine wG ?_
  refine goG1 ?_
  refine ⟨[.frz 2], ?_⟩
  refine wG ?_
  refine ⟨[], ⟨rfl, rfl⟩, ?_⟩
  refine wG ?_
  exact ⟨_, _, Wk.rfl, WkOs.rfl, hQ⟩
/-- l3Start, what it makes is written no more -/
def S_startF : Spec := fun args O Q => ∃ (p : Pr) (k : Nat) (f : Fd), args = [aPr p, iv k] ∧ O = [] ∧ p[k]? = some f ∧ f.params.length ≤ 1000 ∧ Q (.da (cEn (En.startP p k f.params))) []
theorem v_startF {B : World} : Valid PG B s_l3Start S_startF := by
  refine valid_of (Γ := [(s_l3Env_add, ⟨[], S_s_l3Env_add⟩)]) wide tok (AllValid.nil.cons v_s_l3Env_add) g_s_l3Start rfl rfl ?_
  rintro _ _ Q ⟨p, k, f, rfl, rfl, hk, hf, hQ⟩
  have hx : (p.map dFd)[((k : Nat) : Int).toNat]? = some (dFd f) := by simp [hk]
  refine wG ?_
  refine ⟨[.cell 1 2 6, .cell 1 3 1], En × Int, fun x => 0 ≤ x.2 ∧ x.2 ≤ f.params.length ∧ x.1 = En.startP p k (f.params.take x.2.toNat), fun x => (f.params.length - x.2).toNat, fun x => [(6, iv x.2)], fun x => [.cells [.d (.sl 12 (p.map dFd))], .cells [.d (.sl 12 (x.1.fns.map dFd)), iv x.1.fn, .row 2 1, .row 3 1, iv x.1.code], .row 1 true 6 (x.1.vars.map dVr), .row 1 true 1 (x.1.names.map dS)], (⟨p, k, [], [], 0⟩, 0), ⟨by dsimp only; omega, by dsimp only; omega, rfl⟩, ?_⟩
  refine wG ?_
  refine ⟨Meet.mk rfl rfl WkOs.rfl ⟨Wk.rfl, trivial⟩ rfl, ?_⟩
  rintro ⟨e, i⟩ ⟨i0, i1, h1⟩
  dsimp only at i0 i1 h1
  refine wG ?_
  refine Req.mk (Int.natCast_nonneg _) ?_
  refine ⟨_, hx, ?_⟩
  rw [dFd_eq]
  refine wG ?_
  obtain ⟨z1, z2, z3, z4⟩ := startP_sizes p k (f.params.take i.toNat)
  rw [← h1] at z1 z2 z3 z4
  have zl : e.vars.length ≤ 1000 := by rw [z1]; simp; omega
  have zn : e.names.length ≤ 1000 := by rw [z2]; simp; omega
  refine brG1 (fun h => ?_) (fun h => ?_)
  · have hi : i.toNat < f.params.length := by
      have h : i < (f.params.length : Int) := by simpa using h
      omega
    have e3 : (i + 1).toNat = i.toNat + 1 := by omega
    have hpx : (f.params.map dPm)[i.toNat]? = some (dPm f.params[i.toNat]) := by simp [hi]
    have hs : e.add (pmV f.params[i.toNat]) = En.startP p k (f.params.take (i + 1).toNat) := by
      rw [e3, List.take_succ_eq_append_getElem hi, startP_snoc, ← h1]
    generalize f.params[i.toNat] = x at *
    refine Req.mk (Int.natCast_nonneg _) ?_
    refine ⟨_, hx, ?_⟩
    rw [dFd_eq]
    refine wG ?_
    refine Req.mk i0 ?_
    refine ⟨_, hpx, ?_⟩
    rw [dPm_eq]
    refine wG ?_
    refine ⟨_, _, WkL.cons Wk.rfl (WkL.cons (Wk.agg (WkL.cons Wk.rfl (WkL.cons Wk.rfl (WkL.cons Wk.tt (WkL.cons Wk.rfl (WkL.cons (Wk.nil 2) (WkL.cons Wk.rfl WkL.nil))))))) WkL.nil), WkOs.rfl, e, pmV x, rfl, rfl, by omega, by omega, ?_⟩
    generalize e.add (pmV x) = r at *
    refine goG1 ?_
    refine ⟨(r, i + 1), ⟨by dsimp only; omega, by dsimp only; omega, hs⟩, by dsimp only; omega, [], Meet.mk rfl rfl WkOs.rfl ⟨Wk.rfl, trivial⟩ rfl⟩
  · have hi : ¬ i < (f.params.length : Int) := by simpa using h
    rw [List.take_of_length_le (by omega)] at h1
    rw [← h1] at hQ
    refine ⟨[.frz 1], ?_⟩
    refine wG ?_
    refine ⟨[], ⟨rfl, rfl⟩, ?_⟩
    refine wG ?_
    exact ⟨_, _, Wk.rfl, WkOs.rfl, hQ⟩

/-! ### paths and places -/
/-- l71Path -/
def S_s_l71Path : Spec := fun args O Q => ∃ (l : List UInt8) (p : Int) (t : Ty), args = [.ptr 0 0, aTy t] ∧ O = [oRd l p] ∧ l.length ≤ 2000 ∧ 0 ≤ p ∧ p + 100 ≤ 1000000000 ∧ tyOk 4 t = true ∧
  ∀ (q : List Int) (u : Ty) (p' : Int), q.length ≤ 4 → tyOk 4 u = true → p ≤ p' → p' ≤ p + 10 → Q (.tup [.d (.sl 1 (q.map dI)), aTy u]) [oRd l p']
theorem v_s_l71Path {B : World} : Valid PG B s_l71Path S_s_l71Path := by
  refine valid_of (Γ := [(s_l6Rd_pick, ⟨[], S_s_l6Rd_pick⟩)]) wide tok (AllValid.nil.cons v_s_l6Rd_pick) g_s_l71Path rfl rfl ?_
  rintro _ _ Q ⟨l, p, t, rfl, rfl, hl, hp0, hp1, ht, hQ⟩
  refine wG ?_
  right
  refine wG ?_
  refine goG1 ?_
  refine ⟨[], List Int × Ty × Int × Nat, fun x => tyOk x.2.2.2 x.2.1 = true ∧ x.1.length + x.2.2.2 ≤ 4 ∧ p ≤ x.2.2.1 ∧ x.2.2.1 ≤ p + 2 * x.1.length, fun x => x.2.2.2, fun x => [(6, .row 3 1)], fun x => [oRd l x.2.2.1, .cells [.d (.sl 1 (x.2.1.kids.map dTy))], .cells [.d (.v (.slice none 0 0))], .row 1 true 1 (x.1.map dI)], ([], t, p, 4), ⟨ht, by simp, by simp, by simp⟩, ?_⟩
  refine wG ?_
  refine ⟨Meet.mk rfl rfl WkOs.rfl ⟨Wk.rfl, trivial⟩ rfl, ?_⟩
  rintro ⟨q, ⟨ks⟩, p', m⟩ ⟨h1, h2, h3, h4⟩
  dsimp only at h1 h2 h3 h4
  have h5 : tyOk 4 (.mk ks) = true := tyOk_mono (by omega) h1
  obtain ⟨j, rfl, hlen, hks⟩ := tyOk_kids h1
  refine wG ?_
  refine brG1 (fun h6 => ?_) (fun h6 => ?_)
  · refine ⟨_, _, WkL.rfl, WkOs.rfl, l, p', 3, hl, by omega, by omega, by omega, rfl, rfl, ?_⟩
    intro k _ hk
    obtain ⟨hk0, hk1⟩ := hk (by omega)
    refine goG1 ?_
    refine brG1 (fun h7 => ?_) (fun h7 => ?_)
    · refine ⟨_, _, WkL.rfl, WkOs.rfl, l, p' + 1, ((ks.map dTy).length : Int), hl, by omega, by omega, by simp; omega, rfl, rfl, ?_⟩
      intro k2 _ hk2
      have h6 : 0 < ks.length := by simp at h6; omega
      obtain ⟨hk20, hk21⟩ := hk2 (by simp; omega)
      rw [List.length_map] at hk21
      refine goG1 ?_
      left
      refine wG ?_
      refine goG1 ?_
      have hi : k2.toNat < ks.length := by omega
      first | refine idx_map (f := dTy) (by omega) (by (try simp only [List.length_append, List.length_cons, List.length_nil, List.length_map, List.length_take, List.length_drop, maxRow, byteRows_len, Ty.kids, Ty.kids_mk]); omega) ?_ | refine idx_map' (f := dTy) (by (try simp only [List.length_append, List.length_cons, List.length_nil, List.length_map, List.length_take, List.length_drop, maxRow, byteRows_len, Ty.kids, Ty.kids_mk]); omega) ?_
      rw [dTy_eq]
      refine wG ?_
      have hm := hks _ (List.getElem_mem hi)
      refine ⟨(q ++ [k2], ks[k2.toNat], p' + 1 + 1, j), ⟨hm, by simp; omega, by dsimp only; omega, by simp; omega⟩, by dsimp only; omega, [], Meet.mk rfl rfl ?_ ⟨Wk.rfl, trivial⟩ rfl⟩
      exact ⟨WkO.rfl, WkO.rfl, WkO.rfl, .inr ⟨rfl, rfl, rfl, rows_app rfl DWL.rfl⟩, trivial⟩
    · refine goG1 ?_
      refine endK ⟨[], ⟨rfl, rfl⟩, ?_⟩
      refine wG ?_
      exact ⟨_, _, Wk.rfl, WkOs.rfl, hQ q (.mk ks) (p' + 1) (by omega) h5 (by omega) (by omega)⟩
  · refine goG1 ?_
    refine endK ⟨[], ⟨rfl, rfl⟩, ?_⟩
    refine wG ?_
    exact ⟨_, _, Wk.rfl, WkOs.rfl, hQ q (.mk ks) (p') (by omega) h5 (by omega) (by omega)⟩
end Ab

/- The draws, second part: names and places. -/
namespace Ab
open Go Go.Proofs
set_option maxRecDepth 10000
set_option maxHeartbeats 4000000
set_option linter.all false

/-- who draws a function: the code's reader, and what is so by now -/
abbrev oMk (l : List UInt8) (p : Int) (e : En) (last : Int) : List Obj := [.cells [.ptr 1 0, .da (cEn e), iv last], oRd l p]
/-- (*l71Mk).name -/
def S_s_l71Mk_name : Spec := fun args O Q => ∃ (l : List UInt8) (p last : Int) (e : En), args = [.ptr 0 0] ∧ O = oMk l p e last ∧ 0 ≤ last ∧ last < 4100 ∧ ∀ s : Bs, Q (sv s) (oMk l p e (last + 1))
theorem v_s_l71Mk_name {B : World} : Valid PG B s_l71Mk_name S_s_l71Mk_name := by
  refine valid_of (Γ := []) wide tok AllValid.nil g_s_l71Mk_name rfl rfl ?_
  rintro _ _ Q ⟨l, p, last, e, rfl, rfl, h0, h1, hQ⟩
  have hd := tdiv_in (a := last + 1) (b := 26) (by omega) (by omega)
  have hm := tmod_in (a := last + 1) (b := 26) (by omega) (by omega)
  have hk : (last + 1).tdiv 26 ≤ 157 := by
    rw [Int.tdiv_eq_ediv_of_nonneg (by omega)]; omega
  refine wG ?_
  refine goG1 ?_
  left
  refine wG ?_
  refine goG1 ?_
  refine endK ⟨[], ⟨rfl, rfl⟩, ?_⟩
  refine wG ?_
  exact ⟨_, _, Wk.rfl, WkOs.rfl, hQ _⟩

/-- (*l71Mk).place -/
def S_s_l71Mk_place : Spec := fun args O Q => ∃ (l : List UInt8) (p last : Int) (e : En), args = [.ptr 0 0] ∧ O = oMk l p e last ∧ l.length ≤ 2000 ∧ 0 ≤ p ∧ p + 200 ≤ 1000000000 ∧ EnOk e ∧ TyV e.vars ∧
  ∀ (q : Pl) (t : Ty) (p' : Int), q.path.length ≤ 4 → tyOk 4 t = true → p ≤ p' → p' ≤ p + 20 → Q (.tup [aPl q, aTy t]) (oMk l p' e last)
theorem v_s_l71Mk_place {B : World} : Valid PG B s_l71Mk_place S_s_l71Mk_place := by
  refine valid_of (Γ := [(s_l6Rd_pick, ⟨[], S_s_l6Rd_pick⟩), (s_l71Path, ⟨[], S_s_l71Path⟩)]) wide tok ((AllValid.nil.cons v_s_l71Path).cons v_s_l6Rd_pick) g_s_l71Mk_place rfl rfl ?_
  rintro _ _ Q ⟨l, p, last, e, rfl, rfl, hl, h0, h1, he, ht, hQ⟩
  have hv := he.vars
  refine wG ?_
  right
  refine wG ?_
  refine goG1 ?_
  refine ⟨[], List Int × Int, fun x => 0 ≤ x.2 ∧ x.2 ≤ e.vars.length ∧ x.1.length ≤ x.2 ∧ ∀ i ∈ x.1, 0 ≤ i ∧ i < e.vars.length, fun x => (e.vars.length - x.2).toNat, fun x => [(4, .row 4 1), (5, iv x.2)], fun x => oMk l p e last ++ [.cells [.d (.s []), .d (.v (.slice none 0 0))], .cells [.d (.v (.slice none 0 0))], .row 1 true 1 (x.1.map dI)], ([], 0), ⟨by dsimp only; omega, by dsimp only; omega, by simp, by simp⟩, ?_⟩
  refine wG ?_
  refine ⟨Meet.mk rfl rfl WkOs.rfl ⟨Wk.rfl, Wk.rfl, trivial⟩ rfl, ?_⟩
  rintro ⟨L, i⟩ ⟨i0, i1, i2, i3⟩
  dsimp only at i0 i1 i2 i3
  refine wG ?_
  refine brG1 (fun h => ?_) (fun h => ?_)
  · have hi : i.toNat < e.vars.length := by
      have h : i < (e.vars.length : Int) := by simpa using h
      omega
    first | refine idx_map (f := dVr) (by omega) (by (try simp only [List.length_append, List.length_cons, List.length_nil, List.length_map, List.length_take, List.length_drop, maxRow, byteRows_len, Ty.kids, Ty.kids_mk]); omega) ?_ | refine idx_map' (f := dVr) (by (try simp only [List.length_append, List.length_cons, List.length_nil, List.length_map, List.length_take, List.length_drop, maxRow, byteRows_len, Ty.kids, Ty.kids_mk]); omega) ?_
    rw [dVr_eq]
    refine wG ?_
    refine brG1 (fun h2 => ?_) (fun h2 => ?_)
    · left
      refine wG ?_
      refine goG1 ?_
      refine ⟨(L ++ [i], i + 1), ⟨by dsimp only; omega, by dsimp only; omega, by simp; omega, ?_⟩, by dsimp only; omega, [], Meet.mk rfl rfl ?_ ⟨Wk.rfl, Wk.rfl, trivial⟩ rfl⟩
      · intro j hj
        rcases List.mem_append.1 hj with hj | hj
        · exact i3 j hj
        · simp at hj; omega
      · exact ⟨WkO.rfl, WkO.rfl, WkO.rfl, WkO.rfl, .inr ⟨rfl, rfl, rfl, rows_app rfl DWL.rfl⟩, trivial⟩
    · refine goG1 ?_
      refine ⟨(L, i + 1), ⟨by dsimp only; omega, by dsimp only; omega, by simp; omega, i3⟩, by dsimp only; omega, [], Meet.mk rfl rfl WkOs.rfl ⟨Wk.rfl, Wk.rfl, trivial⟩ rfl⟩
  · refine brG1 (fun h2 => ?_) (fun h2 => ?_)
    · refine goG1 ?_
      refine endK ⟨[], ⟨rfl, rfl⟩, ?_⟩
      refine wG ?_
      refine ⟨_, _, ?_, WkOs.rfl, hQ ⟨[110, 111, 110, 101], []⟩ (.mk []) p (by simp) rfl (by omega) (by omega)⟩
      exact Wk.tup (WkL.cons (Wk.agg (WkL.cons Wk.rfl (WkL.cons (Wk.nil 1) WkL.nil))) (WkL.cons (Wk.agg (WkL.cons (Wk.nil 1) WkL.nil)) WkL.nil))
    · have hL : 0 < L.length := by simp at h2; exact List.length_pos_iff.2 h2
      refine goG1 ?_
      refine ⟨_, _, WkL.rfl, WkOs.rfl, l, p, ((L.map dI).length : Int), hl, h0, by omega, by simp; omega, rfl, rfl, ?_⟩
      intro k _ hk
      obtain ⟨hk0, hk1⟩ := hk (by simp; omega)
      rw [List.length_map] at hk1
      have hkl : k.toNat < L.length := by omega
      refine goG1 ?_
      obtain ⟨x0, x1⟩ := i3 _ (List.getElem_mem hkl)
      have xl : L[k.toNat].toNat < e.vars.length := by omega
      refine idx_map' (f := dI) hkl ?_
      refine wG ?_
      refine Req.mk x0 ?_
      refine idx_map' (f := dVr) xl ?_
      rw [dVr_eq]
      refine wG ?_
      have hLx : (L.map dI)[k.toNat]? = some (dI L[k.toNat]) := by simp [hkl]
      have hVx : (e.vars.map dVr)[L[k.toNat].toNat]? = some (dVr e.vars[L[k.toNat].toNat]) := by simp [xl]
      have hT := ht _ (List.getElem_mem xl)
      generalize e.vars[L[k.toNat].toNat] = v at *
      generalize L[k.toNat] = x at *
      refine agG1 ?_
      refine ⟨_, _, WkL.rfl, WkOs.rfl, l, p + 1, 3, hl, by omega, by omega, by omega, rfl, rfl, ?_⟩
      intro k3 _ hk3
      obtain ⟨hk30, hk31⟩ := hk3 (by omega)
      refine goG1 ?_
      refine brG1 (fun h3 => ?_) (fun h3 => ?_)
      · have hk2 : L.length - 1 < L.length := by omega
        obtain ⟨y0, y1⟩ := i3 _ (List.getElem_mem hk2)
        have yl : L[L.length - 1].toNat < e.vars.length := by omega
        have hLy : (L.map dI)[L.length - 1]? = some (dI L[L.length - 1]) := by simp [hk2]
        have hVy : (e.vars.map dVr)[L[L.length - 1].toNat]? = some (dVr e.vars[L[L.length - 1].toNat]) := by simp [yl]
        have hTy := ht _ (List.getElem_mem yl)
        generalize e.vars[L[L.length - 1].toNat] = v2 at *
        generalize L[L.length - 1] = y at *
        have en : (((L.map dI).length : Int) - 1).toNat = L.length - 1 := by simp <;> omega
        rw [← en] at hLy
        refine goG1 ?_
        refine ⟨_, hLy, ?_⟩
        refine wG ?_
        refine Req.mk y0 ?_
        refine ⟨_, hVy, ?_⟩
        rw [dVr_eq]
        refine wG ?_
        refine agG1 ?_
        refine ⟨_, _, WkL.rfl, WkOs.rfl, l, p + 1 + 1, v2.ty, rfl, rfl, hl, by omega, by omega, hTy, ?_⟩
        intro q u p' hq hu hp1 hp2
        refine goG1 ?_
        refine endK ⟨[], ⟨rfl, rfl⟩, ?_⟩
        refine wG ?_
        exact ⟨_, _, Wk.rfl, WkOs.rfl, hQ ⟨v2.name, q⟩ u p' hq hu (by omega) (by omega)⟩
      · refine goG1 ?_
        refine ⟨_, _, WkL.rfl, WkOs.rfl, l, p + 1 + 1, v.ty, rfl, rfl, hl, by omega, by omega, hT, ?_⟩
        intro q u p' hq hu hp1 hp2
        refine goG1 ?_
        refine endK ⟨[], ⟨rfl, rfl⟩, ?_⟩
        refine wG ?_
        exact ⟨_, _, Wk.rfl, WkOs.rfl, hQ ⟨v.name, q⟩ u p' hq hu (by omega) (by omega)⟩
end Ab
