/- The reference's checker, fifth part: what is used. -/
import Derived.Test.YtcajihigkjcgeaaGreatDoorSyn
import Derived.Test.YtcajihigkjcgeaaGreatDoorL3C
set_option linter.all false
namespace Ab
open Go Go.Proofs
set_option maxRecDepth 10000
set_option maxHeartbeats 4000000
set_option linter.all false

def failc (code c : Int) : Int := if code = 0 then c else code
theorem fail_eq (e : En) (c : Int) : e.fail c = { e with code := failc e.code c } := rfl
def Vr.kill (v : Vr) : Vr := { v with dead := true }
def setDead (vars : List Vr) (i : Nat) : List Vr := vars.modify i Vr.kill
def killV (vars : List Vr) (L : List Int) : List Vr := L.foldl (fun vs x => setDead vs x.toNat) vars
theorem killV_len (vars : List Vr) (L : List Int) : (killV vars L).length = vars.length := by
  induction L generalizing vars with
  | nil => rfl
  | cons x L ih => simp only [killV, List.foldl_cons] at ih ⊢; rw [ih]; simp [setDead]
theorem killV_get (vars : List Vr) (L : List Int) (i : Nat) (v : Vr) (h : (killV vars L)[i]? = some v) : ∃ w, vars[i]? = some w ∧ (v = w ∨ v = w.kill) := by
  induction L generalizing vars with
  | nil => exact ⟨v, h, .inl rfl⟩
  | cons x L ih =>
    simp only [killV, List.foldl_cons] at ih h
    obtain ⟨w, hw, h2⟩ := ih _ h
    simp only [setDead, List.getElem?_modify] at hw
    cases hv : vars[i]? with
    | none => rw [hv] at hw; simp at hw
    | some u =>
      rw [hv] at hw
      refine ⟨u, rfl, ?_⟩
      split at hw
      · simp at hw; subst hw
        rcases h2 with rfl | rfl
        · exact .inr rfl
        · exact .inr rfl
      · simp at hw; subst hw; exact h2
theorem setDead_eq (l : List Vr) (i : Nat) (x : Vr) (h : l[i]? = some x) : setDead l i = l.set i x.kill := by
  apply List.ext_getElem?
  intro k
  obtain ⟨hl, _⟩ := List.getElem?_eq_some_iff.1 h
  rw [setDead, List.getElem?_modify, List.getElem?_set]
  by_cases hk : i = k
  · subst hk
    rw [h]
    simp [hl]
  · simp [hk]
theorem killV_snoc (vars : List Vr) (L : List Int) (n : Nat) (x : Vr) (hn : n < L.length) (hx : (killV vars (L.take n))[(L[n]).toNat]? = some x) :
    killV vars (L.take (n + 1)) = (killV vars (L.take n)).set (L[n]).toNat x.kill := by
  rw [← setDead_eq _ _ _ hx, List.take_succ, List.getElem?_eq_getElem hn]
  simp only [Option.toList_some, killV, List.foldl_append, List.foldl_cons, List.foldl_nil]
theorem map_set_kill (vars : List Vr) (i : Nat) (x : Vr) : (vars.set i x.kill).map dVr = (vars.map dVr).set i (dVr x.kill) := by rw [List.map_set]
def useV (v : Vr) (code : Int) (p : Pl) : Int := bif (typeAt v.ty p.path).isSome then (bif v.dead then failc code 4 else code) else failc (bif v.dead then failc code 4 else code) 3
noncomputable def En.use (e : En) (p : Pl) : En × Ty :=
  match findV e.vars p.name with
  | none => ({ e with code := failc e.code 2 }, .mk [])
  | some i => match e.vars[i]? with
    | none => (e, .mk [])
    | some v => ({ e with code := useV v e.code p, vars := killV e.vars (endsI e.vars p) }, (typeAt v.ty p.path).getD (.mk []))

theorem EnOk.kill {e : En} (h : EnOk e) (L : List Int) (c : Int) : EnOk { e with code := c, vars := killV e.vars L } := by
  have key : ∀ v ∈ killV e.vars L, ∃ w ∈ e.vars, v.loans = w.loans := by
    intro v hv
    obtain ⟨i, hi, rfl⟩ := List.getElem_of_mem hv
    obtain ⟨w, hw, h2⟩ := killV_get e.vars L i _ (List.getElem?_eq_getElem hi)
    refine ⟨w, List.mem_of_getElem? hw, ?_⟩
    rcases h2 with h2 | h2 <;> rw [h2]; rfl
  refine ⟨by dsimp only; rw [killV_len]; exact h.vars, h.names, fun v hv => ?_, fun v hv => ?_⟩
  · obtain ⟨w, hw, e2⟩ := key v hv; rw [e2]; exact h.loans w hw
  · obtain ⟨w, hw, e2⟩ := key v hv; rw [e2]; exact h.paths w hw
theorem EnOk.code {e : En} (h : EnOk e) (c : Int) : EnOk { e with code := c } := ⟨h.vars, h.names, h.loans, h.paths⟩
theorem EnOk.use {e : En} (h : EnOk e) (p : Pl) : EnOk (e.use p).1 := by
  unfold En.use
  split
  · exact h.code _
  · split
    · exact h
    · exact h.kill _ _

theorem endsI_mem {vars : List Vr} {p : Pl} {x : Int} (h : x ∈ endsI vars p) : 0 ≤ x ∧ x < vars.length := by
  simp only [endsI, desc, List.mem_map, List.mem_filter, List.mem_reverse, List.mem_range] at h
  obtain ⟨i, ⟨h1, _⟩, rfl⟩ := h
  exact ⟨Int.natCast_nonneg _, by simpa using h1⟩
theorem endsI_len (vars : List Vr) (p : Pl) : (endsI vars p).length ≤ vars.length := by
  simp only [endsI, desc, List.length_map]
  refine Nat.le_trans (List.length_filter_le _ _) ?_
  simp

theorem findV_lt : ∀ {vs : List Vr} {n : Bs} {i : Nat}, findV vs n = some i → i < vs.length
  | [], n, i, h => by simp [findV] at h
  | v :: vs, n, i, h => by
    simp only [findV] at h
    split at h
    · simp at h; subst h; simp
    · simp only [Option.map_eq_some_iff] at h
      obtain ⟨j, hj, rfl⟩ := h
      have := findV_lt hj
      simp; omega

/-- (*l3Env).use -/
def S_s_l3Env_use : Spec := fun args O Q => ∃ (e : En) (p : Pl), args = [.ptr 0 0, aPl p] ∧ O = oEn e ∧ EnOk e ∧ p.path.length ≤ 1000 ∧ Q (aTy (e.use p).2) (oEn (e.use p).1)
theorem v_s_l3Env_use {B : World} : Valid PG B s_l3Env_use S_s_l3Env_use := by
  refine valid_of (Γ := [(s_l3Env_find, ⟨[], S_s_l3Env_find⟩), (s_l3Env_fail, ⟨[], S_s_l3Env_fail⟩), (s_TypeAt, ⟨[], S_s_TypeAt⟩), (s_l3Env_ends, ⟨[], S_s_l3Env_ends⟩)]) wide tok
    ((((AllValid.nil.cons v_s_l3Env_ends).cons v_s_TypeAt).cons v_s_l3Env_fail).cons v_s_l3Env_find) g_s_l3Env_use rfl rfl ?_
  rintro _ _ Q ⟨⟨fns, fn, vars, names, code⟩, p, rfl, rfl, hok, hp, hQ⟩
  have hv := hok.vars
  dsimp only at hv
  refine wG ?_
  refine ⟨_, _, WkL.rfl, WkOs.rfl, ⟨fns, fn, vars, names, code⟩, p.name, rfl, rfl, by dsimp only; omega, ?_⟩
  cases hf : findV vars p.name with
  | none =>
    have e1 : findI vars p.name = -1 := by rw [findI, hf]
    have e2 : En.use ⟨fns, fn, vars, names, code⟩ p = (⟨fns, fn, vars, names, failc code 2⟩, .mk []) := by simp only [En.use, hf]
    rw [e2] at hQ
    rw [e1]
    refine goG1 ?_
    refine Br.yes (by rfl) ?_
    refine wG ?_
    refine ⟨_, _, WkL.rfl, WkOs.rfl, ⟨fns, fn, vars, names, code⟩, 2, rfl, rfl, ?_⟩
    refine goG1 ?_
    refine endK ⟨[], ⟨rfl, rfl⟩, ?_⟩
    refine wG ?_
    refine ⟨_, _, ?_, WkOs.rfl, hQ⟩
    repeat' (first
      | exact Wk.rfl
      | exact WkL.rfl
      | exact WkOs.rfl
      | exact DWRows.rfl
      | exact Wk.nil _
      | exact DWL.rfl
      | exact DW.rfl
      | exact DW.nil _
      | exact DW.nilf _
      | exact DW.sf
      | refine Wk.agg ?_
      | refine Wk.tup ?_
      | refine WkL.cons ?_ ?_
      | refine Wk.d ?_
      | refine DWL.cons ?_ ?_
      | refine DW.sf.trans (DW.sl ?_)
      | refine DW.sl ?_
      | refine DW.sff ?_
      | exact WkL.nil
      | exact trivial
      | exact DWRows.rfl_of (by simp [Function.comp_def, Ty.kids, Ty.kids_mk])
      )
  | some i =>
    have hlt := findV_lt hf
    have e1 : findI vars p.name = i := by rw [findI, hf]
    obtain ⟨v, hvi⟩ : ∃ v, vars[i]? = some v := ⟨_, List.getElem?_eq_getElem hlt⟩
    have e2 : En.use ⟨fns, fn, vars, names, code⟩ p = (⟨fns, fn, killV vars (endsI vars p), names, useV v code p⟩, (typeAt v.ty p.path).getD (.mk [])) := by
      simp only [En.use, hf, hvi]
    rw [e2] at hQ
    rw [e1]
    have hget : (vars.map dVr)[((i : Nat) : Int).toNat]? = some (dVr v) := by simp [hvi]
    refine goG1 ?_
    refine Br.no (by simp) ?_
    refine wG ?_
    try (refine row_map (by omega) (by (try simp only [List.length_append, List.length_cons, List.length_nil, List.length_map, List.length_take, List.length_drop, maxRow, byteRows_len, Ty.kids, Ty.kids_mk]); omega) ?_; refine wG ?_)
    refine ⟨dVr v, hget, ?_⟩
    refine wG ?_
    refine ⟨fun hd => ?_, fun hd => ?_⟩
    · have hd : v.dead = true := hd
      refine wG ?_
      refine ⟨_, _, WkL.rfl, WkOs.rfl, ⟨fns, fn, vars, names, code⟩, 4, rfl, rfl, ?_⟩
      refine goG1 ?_
      have hbb : (i : Int) < ((vars.map dVr).length : Int) := by simp; exact hlt
      refine ⟨⟨Int.natCast_nonneg _, hbb⟩, ?_⟩
      refine wG ?_
      refine ⟨dVr v, hget, ?_⟩
      refine wG ?_
      refine ⟨_, _, WkL.rfl, WkOs.rfl, v.ty, p.path, rfl, rfl, by omega, ?_⟩
      refine agG1 ?_
      refine ⟨fun h3 => ?_, fun h3 => ?_⟩
      · have h3 : (typeAt v.ty p.path).isSome = false := of_not_t h3
        have ec : useV v code p = failc (failc code 4) 3 := by simp only [useV, h3, hd, cond_false, cond_true]
        rw [ec] at hQ
        refine wG ?_
        refine ⟨_, _, WkL.rfl, WkOs.rfl, ⟨fns, fn, vars, names, (failc code 4)⟩, 3, rfl, rfl, ?_⟩
        refine goG1 ?_
        refine ⟨_, _, WkL.rfl, WkOs.rfl, ⟨fns, fn, vars, names, failc (failc code 4) 3⟩, p, rfl, rfl, hok.code _, hp, ?_⟩
        have hlen := endsI_len vars p
        generalize hL : endsI vars p = L at *
        have hmem : ∀ x ∈ L, 0 ≤ x ∧ x < vars.length := fun x hx => endsI_mem (by rw [hL]; exact hx)
        refine goG1 ?_
        refine ⟨[], Int, fun j => 0 ≤ j ∧ j ≤ L.length, fun j => (L.length - j).toNat, fun j => [(9, iv j)], fun j => oEn ⟨fns, fn, killV vars (L.take j.toNat), names, failc (failc code 4) 3⟩ ++ [bPl p, .cells [.d (.v (.slice none 0 0))], .cells [.d (.sl 1 (((typeAt v.ty p.path).getD (.mk [])).kids.map dTy))]], 0, ⟨by omega, by omega⟩, ?_⟩
        refine wG ?_
        refine ⟨Meet.mk rfl rfl WkOs.rfl ⟨Wk.rfl, trivial⟩ rfl, ?_⟩
        rintro j ⟨hj0, hj1⟩
        refine wG ?_
        refine brG1 (fun h5 => ?_) (fun h5 => ?_)
        · have hjl : j.toNat < L.length := by omega
          obtain ⟨hx0, hx1⟩ := hmem _ (List.getElem_mem hjl)
          have e : (j + 1).toNat = j.toNat + 1 := by omega
          have ek := killV_len vars (L.take j.toNat)
          first | refine idx_map (f := dI) (by omega) (by (try simp only [List.length_append, List.length_cons, List.length_nil, List.length_map, List.length_take, List.length_drop, maxRow, byteRows_len, Ty.kids, Ty.kids_mk]); omega) ?_ | refine idx_map' (f := dI) (by (try simp only [List.length_append, List.length_cons, List.length_nil, List.length_map, List.length_take, List.length_drop, maxRow, byteRows_len, Ty.kids, Ty.kids_mk]); omega) ?_
          refine wG ?_
          have hyb : (L[j.toNat]).toNat < (killV vars (L.take j.toNat)).length := by rw [ek]; omega
          obtain ⟨x, hx⟩ : ∃ x, (killV vars (L.take j.toNat))[(L[j.toNat]).toNat]? = some x := ⟨_, List.getElem?_eq_getElem hyb⟩
          have eks := killV_snoc vars L j.toNat x hjl hx
          have hxx : ((killV vars (L.take j.toNat)).map dVr)[(L[j.toNat]).toNat]? = some (dVr x) := by simp [hx]
          refine ⟨⟨hx0, (by rw [List.length_map, ek]; exact hx1 : L[j.toNat] < (((killV vars (L.take j.toNat)).map dVr).length : Int))⟩, ?_⟩
          refine wG ?_
          refine ⟨dVr x, hxx, ?_⟩
          refine wG ?_
          refine rng_i64 (by omega) (by omega) ?_
          refine wG ?_
          refine ⟨j + 1, ⟨by omega, by omega⟩, by dsimp only; omega, [], Meet.mk rfl rfl (WkOs.of_eq ?_) ⟨Wk.rfl, trivial⟩ rfl⟩
          dsimp only
          rw [e, eks]
          simp only [oEn, map_set_kill]
          rfl
        · refine endK ⟨[], ⟨rfl, rfl⟩, ?_⟩
          refine wG ?_
          rw [List.take_of_length_le (by omega)]
          exact ⟨_, _, Wk.rfl, WkOs.rfl, hQ⟩
      · have h3 : (typeAt v.ty p.path).isSome = true := of_not_f h3
        have ec : useV v code p = (failc code 4) := by simp only [useV, h3, hd, cond_false, cond_true]
        rw [ec] at hQ
        refine wG ?_
        refine ⟨_, _, WkL.rfl, WkOs.rfl, ⟨fns, fn, vars, names, (failc code 4)⟩, p, rfl, rfl, hok.code _, hp, ?_⟩
        have hlen := endsI_len vars p
        generalize hL : endsI vars p = L at *
        have hmem : ∀ x ∈ L, 0 ≤ x ∧ x < vars.length := fun x hx => endsI_mem (by rw [hL]; exact hx)
        refine goG1 ?_
        refine ⟨[], Int, fun j => 0 ≤ j ∧ j ≤ L.length, fun j => (L.length - j).toNat, fun j => [(9, iv j)], fun j => oEn ⟨fns, fn, killV vars (L.take j.toNat), names, (failc code 4)⟩ ++ [bPl p, .cells [.d (.v (.slice none 0 0))], .cells [.d (.sl 1 (((typeAt v.ty p.path).getD (.mk [])).kids.map dTy))]], 0, ⟨by omega, by omega⟩, ?_⟩
        refine wG ?_
        refine ⟨Meet.mk rfl rfl WkOs.rfl ⟨Wk.rfl, trivial⟩ rfl, ?_⟩
        rintro j ⟨hj0, hj1⟩
        refine wG ?_
        refine brG1 (fun h5 => ?_) (fun h5 => ?_)
        · have hjl : j.toNat < L.length := by omega
          obtain ⟨hx0, hx1⟩ := hmem _ (List.getElem_mem hjl)
          have e : (j + 1).toNat = j.toNat + 1 := by omega
          have ek := killV_len vars (L.take j.toNat)
          first | refine idx_map (f := dI) (by omega) (by (try simp only [List.length_append, List.length_cons, List.length_nil, List.length_map, List.length_take, List.length_drop, maxRow, byteRows_len, Ty.kids, Ty.kids_mk]); omega) ?_ | refine idx_map' (f := dI) (by (try simp only [List.length_append, List.length_cons, List.length_nil, List.length_map, List.length_take, List.length_drop, maxRow, byteRows_len, Ty.kids, Ty.kids_mk]); omega) ?_
          refine wG ?_
          have hyb : (L[j.toNat]).toNat < (killV vars (L.take j.toNat)).length := by rw [ek]; omega
          obtain ⟨x, hx⟩ : ∃ x, (killV vars (L.take j.toNat))[(L[j.toNat]).toNat]? = some x := ⟨_, List.getElem?_eq_getElem hyb⟩
          have eks := killV_snoc vars L j.toNat x hjl hx
          have hxx : ((killV vars (L.take j.toNat)).map dVr)[(L[j.toNat]).toNat]? = some (dVr x) := by simp [hx]
          refine ⟨⟨hx0, (by rw [List.length_map, ek]; exact hx1 : L[j.toNat] < (((killV vars (L.take j.toNat)).map dVr).length : Int))⟩, ?_⟩
          refine wG ?_
          refine ⟨dVr x, hxx, ?_⟩
          refine wG ?_
          refine rng_i64 (by omega) (by omega) ?_
          refine wG ?_
          refine ⟨j + 1, ⟨by omega, by omega⟩, by dsimp only; omega, [], Meet.mk rfl rfl (WkOs.of_eq ?_) ⟨Wk.rfl, trivial⟩ rfl⟩
          dsimp only
          rw [e, eks]
          simp only [oEn, map_set_kill]
          rfl
        · refine endK ⟨[], ⟨rfl, rfl⟩, ?_⟩
          refine wG ?_
          rw [List.take_of_length_le (by omega)]
          exact ⟨_, _, Wk.rfl, WkOs.rfl, hQ⟩
    · have hd : v.dead = false := hd
      refine wG ?_
      have hbb : (i : Int) < ((vars.map dVr).length : Int) := by simp; exact hlt
      refine ⟨⟨Int.natCast_nonneg _, hbb⟩, ?_⟩
      refine wG ?_
      refine ⟨dVr v, hget, ?_⟩
      refine wG ?_
      refine ⟨_, _, WkL.rfl, WkOs.rfl, v.ty, p.path, rfl, rfl, by omega, ?_⟩
      refine agG1 ?_
      refine ⟨fun h3 => ?_, fun h3 => ?_⟩
      · have h3 : (typeAt v.ty p.path).isSome = false := of_not_t h3
        have ec : useV v code p = failc code 3 := by simp only [useV, h3, hd, cond_false, cond_true]
        rw [ec] at hQ
        refine wG ?_
        refine ⟨_, _, WkL.rfl, WkOs.rfl, ⟨fns, fn, vars, names, code⟩, 3, rfl, rfl, ?_⟩
        refine goG1 ?_
        refine ⟨_, _, WkL.rfl, WkOs.rfl, ⟨fns, fn, vars, names, failc code 3⟩, p, rfl, rfl, hok.code _, hp, ?_⟩
        have hlen := endsI_len vars p
        generalize hL : endsI vars p = L at *
        have hmem : ∀ x ∈ L, 0 ≤ x ∧ x < vars.length := fun x hx => endsI_mem (by rw [hL]; exact hx)
        refine goG1 ?_
        refine ⟨[], Int, fun j => 0 ≤ j ∧ j ≤ L.length, fun j => (L.length - j).toNat, fun j => [(9, iv j)], fun j => oEn ⟨fns, fn, killV vars (L.take j.toNat), names, failc code 3⟩ ++ [bPl p, .cells [.d (.v (.slice none 0 0))], .cells [.d (.sl 1 (((typeAt v.ty p.path).getD (.mk [])).kids.map dTy))]], 0, ⟨by omega, by omega⟩, ?_⟩
        refine wG ?_
        refine ⟨Meet.mk rfl rfl WkOs.rfl ⟨Wk.rfl, trivial⟩ rfl, ?_⟩
        rintro j ⟨hj0, hj1⟩
        refine wG ?_
        refine brG1 (fun h5 => ?_) (fun h5 => ?_)
        · have hjl : j.toNat < L.length := by omega
          obtain ⟨hx0, hx1⟩ := hmem _ (List.getElem_mem hjl)
          have e : (j + 1).toNat = j.toNat + 1 := by omega
          have ek := killV_len vars (L.take j.toNat)
          first | refine idx_map (f := dI) (by omega) (by (try simp only [List.length_append, List.length_cons, List.length_nil, List.length_map, List.length_take, List.length_drop, maxRow, byteRows_len, Ty.kids, Ty.kids_mk]); omega) ?_ | refine idx_map' (f := dI) (by (try simp only [List.length_append, List.length_cons, List.length_nil, List.length_map, List.length_take, List.length_drop, maxRow, byteRows_len, Ty.kids, Ty.kids_mk]); omega) ?_
          refine wG ?_
          have hyb : (L[j.toNat]).toNat < (killV vars (L.take j.toNat)).length := by rw [ek]; omega
          obtain ⟨x, hx⟩ : ∃ x, (killV vars (L.take j.toNat))[(L[j.toNat]).toNat]? = some x := ⟨_, List.getElem?_eq_getElem hyb⟩
          have eks := killV_snoc vars L j.toNat x hjl hx
          have hxx : ((killV vars (L.take j.toNat)).map dVr)[(L[j.toNat]).toNat]? = some (dVr x) := by simp [hx]
          refine ⟨⟨hx0, (by rw [List.length_map, ek]; exact hx1 : L[j.toNat] < (((killV vars (L.take j.toNat)).map dVr).length : Int))⟩, ?_⟩
          refine wG ?_
          refine ⟨dVr x, hxx, ?_⟩
          refine wG ?_
          refine rng_i64 (by omega) (by omega) ?_
          refine wG ?_
          refine ⟨j + 1, ⟨by omega, by omega⟩, by dsimp only; omega, [], Meet.mk rfl rfl (WkOs.of_eq ?_) ⟨Wk.rfl, trivial⟩ rfl⟩
          dsimp only
          rw [e, eks]
          simp only [oEn, map_set_kill]
          rfl
        · refine endK ⟨[], ⟨rfl, rfl⟩, ?_⟩
          refine wG ?_
          rw [List.take_of_length_le (by omega)]
          exact ⟨_, _, Wk.rfl, WkOs.rfl, hQ⟩
      · have h3 : (typeAt v.ty p.path).isSome = true := of_not_f h3
        have ec : useV v code p = code := by simp only [useV, h3, hd, cond_false, cond_true]
        rw [ec] at hQ
        refine wG ?_
        refine ⟨_, _, WkL.rfl, WkOs.rfl, ⟨fns, fn, vars, names, code⟩, p, rfl, rfl, hok.code _, hp, ?_⟩
        have hlen := endsI_len vars p
        generalize hL : endsI vars p = L at *
        have hmem : ∀ x ∈ L, 0 ≤ x ∧ x < vars.length := fun x hx => endsI_mem (by rw [hL]; exact hx)
        refine goG1 ?_
        refine ⟨[], Int, fun j => 0 ≤ j ∧ j ≤ L.length, fun j => (L.length - j).toNat, fun j => [(9, iv j)], fun j => oEn ⟨fns, fn, killV vars (L.take j.toNat), names, code⟩ ++ [bPl p, .cells [.d (.v (.slice none 0 0))], .cells [.d (.sl 1 (((typeAt v.ty p.path).getD (.mk [])).kids.map dTy))]], 0, ⟨by omega, by omega⟩, ?_⟩
        refine wG ?_
        refine ⟨Meet.mk rfl rfl WkOs.rfl ⟨Wk.rfl, trivial⟩ rfl, ?_⟩
        rintro j ⟨hj0, hj1⟩
        refine wG ?_
        refine brG1 (fun h5 => ?_) (fun h5 => ?_)
        · have hjl : j.toNat < L.length := by omega
          obtain ⟨hx0, hx1⟩ := hmem _ (List.getElem_mem hjl)
          have e : (j + 1).toNat = j.toNat + 1 := by omega
          have ek := killV_len vars (L.take j.toNat)
          first | refine idx_map (f := dI) (by omega) (by (try simp only [List.length_append, List.length_cons, List.length_nil, List.length_map, List.length_take, List.length_drop, maxRow, byteRows_len, Ty.kids, Ty.kids_mk]); omega) ?_ | refine idx_map' (f := dI) (by (try simp only [List.length_append, List.length_cons, List.length_nil, List.length_map, List.length_take, List.length_drop, maxRow, byteRows_len, Ty.kids, Ty.kids_mk]); omega) ?_
          refine wG ?_
          have hyb : (L[j.toNat]).toNat < (killV vars (L.take j.toNat)).length := by rw [ek]; omega
          obtain ⟨x, hx⟩ : ∃ x, (killV vars (L.take j.toNat))[(L[j.toNat]).toNat]? = some x := ⟨_, List.getElem?_eq_getElem hyb⟩
          have eks := killV_snoc vars L j.toNat x hjl hx
          have hxx : ((killV vars (L.take j.toNat)).map dVr)[(L[j.toNat]).toNat]? = some (dVr x) := by simp [hx]
          refine ⟨⟨hx0, (by rw [List.length_map, ek]; exact hx1 : L[j.toNat] < (((killV vars (L.take j.toNat)).map dVr).length : Int))⟩, ?_⟩
          refine wG ?_
          refine ⟨dVr x, hxx, ?_⟩
          refine wG ?_
          refine rng_i64 (by omega) (by omega) ?_
          refine wG ?_
          refine ⟨j + 1, ⟨by omega, by omega⟩, by dsimp only; omega, [], Meet.mk rfl rfl (WkOs.of_eq ?_) ⟨Wk.rfl, trivial⟩ rfl⟩
          dsimp only
          rw [e, eks]
          simp only [oEn, map_set_kill]
          rfl
        · refine endK ⟨[], ⟨rfl, rfl⟩, ?_⟩
          refine wG ?_
          rw [List.take_of_length_le (by omega)]
          exact ⟨_, _, Wk.rfl, WkOs.rfl, hQ⟩
end Ab

/- The reference's checker, sixth part: expressions. -/
namespace Ab
open Go Go.Proofs
set_option maxRecDepth 10000
set_option maxHeartbeats 4000000
set_option linter.all false

theorem typeAt_ok {t : Ty} {p : List Int} : tyOk 4 ((typeAt t p).getD (.mk [])) = true := by
  cases h : typeAt t p with
  | none => rfl
  | some u =>
    simp only [typeAt] at h
    split at h
    · rename_i ht; exact tyAt0_ok ht h
    · cases h
theorem En.use_ty (e : En) (p : Pl) : tyOk 4 (e.use p).2 = true := by
  unfold En.use
  split
  · rfl
  · split
    · rfl
    · exact typeAt_ok

def En.num (e : En) (t : Ty) : En := if t.kids = [] then e else e.fail 3
/-- (*l3Env).num -/
def S_s_l3Env_num : Spec := fun args O Q => ∃ (e : En) (t : Ty), args = [.ptr 0 0, aTy t] ∧ O = oEn e ∧ Q (.tup []) (oEn (e.num t))
theorem v_s_l3Env_num {B : World} : Valid PG B s_l3Env_num S_s_l3Env_num := by
  refine valid_of (Γ := [(s_l3Env_fail, ⟨[], S_s_l3Env_fail⟩)]) wide tok (AllValid.nil.cons v_s_l3Env_fail) g_s_l3Env_num rfl rfl ?_
  rintro _ _ Q ⟨⟨fns, fn, vars, names, code⟩, ⟨ks⟩, rfl, rfl, hQ⟩
  refine wG ?_
  refine brG1 (fun h => ?_) (fun h => ?_)
  · have e : En.num ⟨fns, fn, vars, names, code⟩ (.mk ks) = (En.fail ⟨fns, fn, vars, names, code⟩ 3) := by
      rw [En.num, if_neg]
      rintro hk
      simp only [Ty.kids] at hk
      simp [hk] at h
    rw [e] at hQ
    refine ⟨_, _, WkL.rfl, WkOs.rfl, ⟨fns, fn, vars, names, code⟩, 3, rfl, rfl, ?_⟩
    refine goG1 ?_
    refine endK ⟨[], ⟨rfl, rfl⟩, ?_⟩
    refine wG ?_
    exact ⟨_, _, Wk.rfl, WkOs.rfl, hQ⟩
  · have e : En.num ⟨fns, fn, vars, names, code⟩ (.mk ks) = ⟨fns, fn, vars, names, code⟩ := by
      rw [En.num, if_pos]
      simp only [Ty.kids]
      exact List.eq_nil_of_length_eq_zero (by omega)
    rw [e] at hQ
    refine endK ⟨[], ⟨rfl, rfl⟩, ?_⟩
    refine wG ?_
    exact ⟨_, _, Wk.rfl, WkOs.rfl, hQ⟩

def En.same (e : En) (a b : Ty) : En := bif sameTy a b then e else e.fail 3
/-- (*l3Env).same -/
def S_s_l3Env_same : Spec := fun args O Q => ∃ (e : En) (a b : Ty), args = [.ptr 0 0, aTy a, aTy b] ∧ O = oEn e ∧ tyOk 4 a = true ∧ Q (.tup []) (oEn (e.same a b))
theorem v_s_l3Env_same {B : World} : Valid PG B s_l3Env_same S_s_l3Env_same := by
  refine valid_of (Γ := [(s_l3Env_fail, ⟨[], S_s_l3Env_fail⟩), (s_l1Same, ⟨[], S_s_l1Same 5⟩)]) wide tok ((AllValid.nil.cons (v_s_l1Same 5)).cons v_s_l3Env_fail) g_s_l3Env_same rfl rfl ?_
  rintro _ _ Q ⟨⟨fns, fn, vars, names, code⟩, a, b, rfl, rfl, ha, hQ⟩
  refine wG ?_
  refine ⟨_, _, WkL.rfl, WkOs.rfl, a, b, 4, rfl, rfl, by omega, ha, ?_⟩
  refine goG1 ?_
  refine ⟨fun h => ?_, fun h => ?_⟩
  · have h : sameTy a b = false := of_not_t h
    rw [En.same, h, cond_false] at hQ
    refine wG ?_
    refine ⟨_, _, WkL.rfl, WkOs.rfl, ⟨fns, fn, vars, names, code⟩, 3, rfl, rfl, ?_⟩
    refine goG1 ?_
    refine endK ⟨[], ⟨rfl, rfl⟩, ?_⟩
    refine wG ?_
    exact ⟨_, _, Wk.rfl, WkOs.rfl, hQ⟩
  · have h : sameTy a b = true := of_not_f h
    rw [En.same, h, cond_true] at hQ
    refine wG ?_
    refine endK ⟨[], ⟨rfl, rfl⟩, ?_⟩
    refine wG ?_
    exact ⟨_, _, Wk.rfl, WkOs.rfl, hQ⟩
end Ab

/- The reference's checker, seventh part: the type of an expression. -/
namespace Ab
open Go Go.Proofs
set_option maxRecDepth 10000
set_option maxHeartbeats 4000000
set_option linter.all false

noncomputable def En.expr : En → Xp → En × Ty
  | e, .mk k _ p (a :: b :: _) => if k = 1 then (e, .mk []) else if k = 2 then e.use p else
      if k = 6 then (bif tyOk 4 (.mk [(e.expr a).2, ((e.expr a).1.expr b).2]) then (((e.expr a).1.expr b).1, .mk [(e.expr a).2, ((e.expr a).1.expr b).2]) else (((e.expr a).1.expr b).1.fail 3, .mk []))
      else ((((e.expr a).1.expr b).1.num (e.expr a).2).num ((e.expr a).1.expr b).2, .mk [])
  | e, .mk k _ p _ => if k = 2 then e.use p else (e, .mk [])
termination_by _ x => sizeOf x
decreasing_by all_goals (simp; omega)

def xpOk : Nat → Xp → Prop
  | 0, _ => False
  | n + 1, .mk k _ p ks => p.path.length ≤ 1000 ∧ (k = 1 ∨ k = 2 ∨ (k ≠ 1 ∧ k ≠ 2 ∧ ∃ a b r, ks = a :: b :: r ∧ xpOk n a ∧ xpOk n b))

theorem expr_1 (e : En) (n : Int) (p : Pl) (ks : List Xp) : e.expr (.mk 1 n p ks) = (e, .mk []) := by
  rcases ks with _ | ⟨a, _ | ⟨b, r⟩⟩ <;> simp [En.expr]
theorem expr_2 (e : En) (n : Int) (p : Pl) (ks : List Xp) : e.expr (.mk 2 n p ks) = e.use p := by
  rcases ks with _ | ⟨a, _ | ⟨b, r⟩⟩ <;> simp [En.expr]
theorem expr_b (e : En) (k n : Int) (p : Pl) (a b : Xp) (r : List Xp) (h1 : k ≠ 1) (h2 : k ≠ 2) : e.expr (.mk k n p (a :: b :: r)) =
    if k = 6 then (bif tyOk 4 (.mk [(e.expr a).2, ((e.expr a).1.expr b).2]) then (((e.expr a).1.expr b).1, .mk [(e.expr a).2, ((e.expr a).1.expr b).2]) else (((e.expr a).1.expr b).1.fail 3, .mk []))
      else ((((e.expr a).1.expr b).1.num (e.expr a).2).num ((e.expr a).1.expr b).2, .mk []) := by
  rw [En.expr, if_neg h1, if_neg h2]

theorem EnOk.fail {e : En} (h : EnOk e) (c : Int) : EnOk (e.fail c) := h.code _
theorem EnOk.num {e : En} (h : EnOk e) (t : Ty) : EnOk (e.num t) := by unfold En.num; split; exact h; exact h.fail 3
theorem EnOk.same {e : En} (h : EnOk e) (a b : Ty) : EnOk (e.same a b) := by unfold En.same; cases sameTy a b; exact h.fail 3; exact h
theorem EnOk.expr : ∀ {n : Nat} {e : En} {x : Xp}, EnOk e → xpOk n x → EnOk (e.expr x).1 ∧ tyOk 4 (e.expr x).2 = true
  | 0, _, _, _, h => h.elim
  | n + 1, e, .mk k m p ks, he, ⟨hp, h⟩ => by
    by_cases h1 : k = 1
    · subst h1; rw [expr_1]; exact ⟨he, rfl⟩
    by_cases h2 : k = 2
    · subst h2; rw [expr_2]; exact ⟨he.use p, e.use_ty p⟩
    · obtain ⟨_, _, a, b, r, rfl, ha, hb⟩ := (h.resolve_left h1).resolve_left h2
      rw [expr_b _ _ _ _ _ _ _ h1 h2]
      obtain ⟨a1, a2⟩ := EnOk.expr he ha
      obtain ⟨b1, b2⟩ := EnOk.expr a1 hb
      split
      · cases h : tyOk 4 (.mk [(e.expr a).2, ((e.expr a).1.expr b).2]) with
        | true => exact ⟨b1, h⟩
        | false => exact ⟨b1.fail 3, rfl⟩
      · exact ⟨(b1.num _).num _, rfl⟩

/-- (*l3Env).expr -/
def S_s_l3Env_expr (n : Nat) : Spec := fun args O Q => ∃ (e : En) (x : Xp) (m : Nat), args = [.ptr 0 0, aXp x] ∧ O = oEn e ∧ EnOk e ∧ m < n ∧ xpOk m x ∧ Q (aTy (e.expr x).2) (oEn (e.expr x).1)
theorem v_s_l3Env_expr {B : World} : ∀ n, Valid PG B s_l3Env_expr (S_s_l3Env_expr n) := by
  refine valid_lt (fun args O Q ⟨e, x, m, _, _, _, h1, _⟩ => by omega) fun n ih => ?_
  refine valid_of (Γ := [(s_l3Env_expr, ⟨[], S_s_l3Env_expr n⟩), (s_l3Env_use, ⟨[], S_s_l3Env_use⟩), (s_TypeOk, ⟨[], STypeOk⟩), (s_l3Env_num, ⟨[], S_s_l3Env_num⟩), (s_l3Env_fail, ⟨[], S_s_l3Env_fail⟩)]) wide tok
    (((((AllValid.nil.cons v_s_l3Env_fail).cons v_s_l3Env_num).cons v_s_TypeOk).cons v_s_l3Env_use).cons ih) g_s_l3Env_expr rfl rfl ?_
  rintro _ _ Q ⟨e, ⟨k, num, p, ks⟩, m, rfl, rfl, he, hm, hx, hQ⟩
  cases m with
  | zero => exact hx.elim
  | succ m =>
  obtain ⟨hp, hx⟩ := hx
  refine wG ?_
  refine brG1 (fun h1 => ?_) (fun h1 => ?_)
  · have h1 : k = 1 := h1
    subst h1
    rw [expr_1] at hQ
    refine endK ⟨[], ⟨rfl, rfl⟩, ?_⟩
    refine wG ?_
    refine ⟨_, _, ?_, WkOs.rfl, hQ⟩
    repeat' (first
      | exact Wk.rfl
      | exact WkL.rfl
      | exact WkOs.rfl
      | exact DWRows.rfl
      | exact Wk.nil _
      | exact DWL.rfl
      | exact DW.rfl
      | exact DW.nil _
      | exact DW.nilf _
      | exact DW.sf
      | refine Wk.agg ?_
      | refine Wk.tup ?_
      | refine WkL.cons ?_ ?_
      | refine Wk.d ?_
      | refine DWL.cons ?_ ?_
      | refine DW.sf.trans (DW.sl ?_)
      | refine DW.sl ?_
      | refine DW.sff ?_
      | exact WkL.nil
      | exact trivial
      | exact DWRows.rfl_of (by simp [Function.comp_def, Ty.kids, Ty.kids_mk])
      )
  refine brG1 (fun h2 => ?_) (fun h2 => ?_)
  · have h2 : k = 2 := h2
    subst h2
    rw [expr_2] at hQ
    refine ⟨_, _, WkL.rfl, WkOs.rfl, e, p, rfl, rfl, he, hp, ?_⟩
    refine goG1 ?_
    refine endK ⟨[], ⟨rfl, rfl⟩, ?_⟩
    refine wG ?_
    exact ⟨_, _, Wk.rfl, WkOs.rfl, hQ⟩
  have h1 : k ≠ 1 := h1
  have h2 : k ≠ 2 := h2
  obtain ⟨_, _, a, b, r, rfl, ha, hb⟩ := (hx.resolve_left h1).resolve_left h2
  rw [expr_b e k num p a b r h1 h2] at hQ
  obtain ⟨a1, a2⟩ := EnOk.expr he ha
  obtain ⟨b1, b2⟩ := EnOk.expr a1 hb
  refine Req.mk (by omega) ?_
  refine ⟨dXp a, by simp [Xp.kids], ?_⟩
  rw [dXp_eq]
  refine wG ?_
  refine ⟨_, _, WkL.rfl, WkOs.rfl, e, a, m, rfl, rfl, he, by omega, ha, ?_⟩
  refine goG1 ?_
  refine ⟨dXp b, by simp [Xp.kids], ?_⟩
  rw [dXp_eq]
  refine wG ?_
  refine ⟨_, _, WkL.rfl, WkOs.rfl, (e.expr a).1, b, m, rfl, rfl, a1, by omega, hb, ?_⟩
  refine goG1 ?_
  generalize hra : e.expr a = ra at *
  obtain ⟨ea, ta⟩ := ra
  dsimp only at *
  generalize hrb : ea.expr b = rb at *
  obtain ⟨eb, tb⟩ := rb
  dsimp only at *
  refine brG1 (fun h6 => ?_) (fun h6 => ?_)
  · have h6 : k = 6 := h6
    rw [if_pos h6] at hQ
    have ek : [[DV.sl 1 (ta.kids.map dTy)], [DV.sl 1 (tb.kids.map dTy)]] = (Ty.mk [ta, tb]).kids.map dTy := by simp [Ty.kids, dTy_eq]
    left
    refine wG ?_
    refine goG1 ?_
    refine ⟨_, _, (WkL.cons (Wk.agg (WkL.cons (Wk.d (by rw [← ek]; exact DW.sf)) WkL.nil)) WkL.nil), WkOs.rfl, .mk [ta, tb], rfl, rfl, ?_⟩
    refine goG1 ?_
    refine ⟨fun h => ?_, fun h => ?_⟩
    · have h : tyOk 4 (.mk [ta, tb]) = false := of_not_t h
      rw [h, cond_false] at hQ
      refine wG ?_
      refine ⟨_, _, WkL.rfl, WkOs.rfl, eb, 3, rfl, rfl, ?_⟩
      refine goG1 ?_
      refine endK ⟨[], ⟨rfl, rfl⟩, ?_⟩
      refine wG ?_
      refine ⟨_, _, ?_, WkOs.rfl, hQ⟩
      repeat' (first
        | exact Wk.rfl
        | exact WkL.rfl
        | exact WkOs.rfl
        | exact DWRows.rfl
        | exact Wk.nil _
        | exact DWL.rfl
        | exact DW.rfl
        | exact DW.nil _
        | exact DW.nilf _
        | exact DW.sf
        | refine Wk.agg ?_
        | refine Wk.tup ?_
        | refine WkL.cons ?_ ?_
        | refine Wk.d ?_
        | refine DWL.cons ?_ ?_
        | refine DW.sf.trans (DW.sl ?_)
        | refine DW.sl ?_
        | refine DW.sff ?_
        | exact WkL.nil
        | exact trivial
        | exact DWRows.rfl_of (by simp [Function.comp_def, Ty.kids, Ty.kids_mk])
        )
    · have h : tyOk 4 (.mk [ta, tb]) = true := of_not_f h
      rw [h, cond_true] at hQ
      refine wG ?_
      refine endK ⟨[], ⟨rfl, rfl⟩, ?_⟩
      refine wG ?_
      refine ⟨_, _, ?_, WkOs.rfl, hQ⟩
      exact Wk.agg (WkL.cons (Wk.d (by rw [← ek]; exact DW.sf)) WkL.nil)
  · have h6 : k ≠ 6 := h6
    rw [if_neg h6] at hQ
    refine ⟨_, _, WkL.rfl, WkOs.rfl, eb, ta, rfl, rfl, ?_⟩
    refine goG1 ?_
    refine ⟨_, _, WkL.rfl, WkOs.rfl, (eb.num ta), tb, rfl, rfl, ?_⟩
    refine goG1 ?_
    refine endK ⟨[], ⟨rfl, rfl⟩, ?_⟩
    refine wG ?_
    refine ⟨_, _, ?_, WkOs.rfl, hQ⟩
    repeat' (first
      | exact Wk.rfl
      | exact WkL.rfl
      | exact WkOs.rfl
      | exact DWRows.rfl
      | exact Wk.nil _
      | exact DWL.rfl
      | exact DW.rfl
      | exact DW.nil _
      | exact DW.nilf _
      | exact DW.sf
      | refine Wk.agg ?_
      | refine Wk.tup ?_
      | refine WkL.cons ?_ ?_
      | refine Wk.d ?_
      | refine DWL.cons ?_ ?_
      | refine DW.sf.trans (DW.sl ?_)
      | refine DW.sl ?_
      | refine DW.sff ?_
      | exact WkL.nil
      | exact trivial
      | exact DWRows.rfl_of (by simp [Function.comp_def, Ty.kids, Ty.kids_mk])
      )
end Ab
