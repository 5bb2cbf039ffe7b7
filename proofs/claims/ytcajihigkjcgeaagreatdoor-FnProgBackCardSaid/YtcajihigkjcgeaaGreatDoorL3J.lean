/- The reference's checker, tenth part: copies. -/
import Derived.Test.YtcajihigkjcgeaaGreatDoorSyn
import Derived.Test.YtcajihigkjcgeaaGreatDoorL3H
set_option linter.all false
namespace Ab
open Go Go.Proofs
set_option maxRecDepth 10000
set_option maxHeartbeats 4000000
set_option linter.all false

/-- a copy's objects, behind k others -/
abbrev oCp (e : En) (k : Nat) : List Obj := [.row 0 true 6 (e.vars.map dVr), .row 0 true 1 (e.names.map dS), .cells [.d (.sl 12 (e.fns.map dFd)), iv e.fn, .row k 0, .row (k + 1) 0, iv e.code]]
/-- (*l3Env).copy -/
def S_s_l3Env_copy : Spec := fun args O Q => ∃ (e : En), args = [.ptr 0 0] ∧ O = oEn e ∧ EnOk e ∧ Q (.ptr 5 0) (oEn e ++ oCp e 3)
theorem v_s_l3Env_copy {B : World} : Valid PG B s_l3Env_copy S_s_l3Env_copy := by
  refine valid_of (Γ := []) wide tok AllValid.nil g_s_l3Env_copy rfl rfl ?_
  rintro _ _ Q ⟨⟨fns, fn, vars, names, code⟩, rfl, rfl, he, hQ⟩
  have h1 := he.vars
  have h2 := he.names
  dsimp only at h1 h2
  refine wG ?_
  refine goG1 ?_
  refine ⟨⟨.inl rfl, by simp [maxRow]; omega⟩, ?_⟩
  refine wG ?_
  refine goG1 ?_
  refine ⟨⟨.inl rfl, by simp [maxRow]; omega⟩, ?_⟩
  refine wG ?_
  refine goG1 ?_
  refine endK ⟨[3, 4, 5], ⟨rfl, rfl⟩, ?_⟩
  refine wG ?_
  exact ⟨_, _, Wk.rfl, WkOs.rfl, hQ⟩
end Ab

/- The reference's checker, eleventh part: calls of functions. -/
namespace Ab
open Go Go.Proofs
set_option maxRecDepth 10000
set_option maxHeartbeats 4000000
set_option linter.all false

def En.push (e : En) (p : Pl) : En := { e with vars := e.vars ++ [tmpV p] }
/-- the arguments of a call, one behind the other -/
noncomputable def En.args : En → List Ar → List Pm → List Pl → En × Option (List Pl)
  | e, a :: ar, p :: ps, L =>
    if a.lent = p.lent then
      if a.lent = true then En.args (((e.use a.pl).1.same (e.use a.pl).2 p.ty).push a.pl) ar ps (L ++ [a.pl])
      else En.args ((e.expr a.ex).1.same (e.expr a.ex).2 p.ty) ar ps L
    else (e.fail 3, none)
  | e, _, _, L => (e, some L)
theorem args_nil (e : En) (ps : List Pm) (L : List Pl) : En.args e [] ps L = (e, some L) := by cases ps <;> simp [En.args]
def anyDead (vars : List Vr) (n : Nat) : Bool := (vars.drop n).any (·.dead)
def En.call2 (e : En) (L : List Pl) (n : Nat) (f : Fd) (name : Bs) : En :=
  En.add { e with code := bif anyDead e.vars n then failc e.code 4 else e.code, vars := e.vars.take n } ⟨name, f.lent, false, f.ty, bif f.lent then L else [], false⟩
noncomputable def En.call (e : En) (name fn : Bs) (ar : List Ar) : En :=
  match fnIdx e.fns fn e.fn with
  | none => e.fail 2
  | some k => match e.fns[k]? with
    | none => e
    | some f => if f.params.length = ar.length then
        match En.args e ar f.params [] with
        | (e1, none) => e1
        | (e1, some L) => e1.call2 L e.vars.length f name
      else e.fail 3
abbrev callSt (name fn : Bs) (ar : List Ar) : St := .mk 4 name pl0 pl0 xp0 fn ar [] []
theorem fnIdx_lt {fns : Pr} {name : Bs} {most : Int} {i : Nat} (h : fnIdx fns name most = some i) : i < fns.length := by
  rw [fnIdx, List.findIdx?_eq_some_iff_getElem] at h
  have := h.1
  simp at this; omega

structure ArgI (e0 : En) (ar : List Ar) (ps : List Pm) (e : En) (L : List Pl) (i : Int) : Prop where
  i0 : 0 ≤ i
  i1 : i ≤ ar.length
  ok : EnOk e
  v1 : (e.vars.length : Int) ≤ e0.vars.length + i
  v0 : e0.vars.length ≤ e.vars.length
  l1 : (L.length : Int) ≤ i
  pa : ∀ q ∈ L, q.path.length ≤ 1000
  eq : e0.args ar ps [] = e.args (ar.drop i.toNat) (ps.drop i.toNat) L
theorem failc_two (c a : Int) : failc (failc c a) a = failc c a := by unfold failc; split <;> (try split) <;> simp_all
theorem any_step (vars : List Vr) (n j : Nat) (x : Vr) (hn : n ≤ j) (hx : vars[j]? = some x) : ((vars.take (j + 1)).drop n).any (·.dead) = (((vars.take j).drop n).any (·.dead) || x.dead) := by
  have hj := (List.getElem?_eq_some_iff.1 hx).1
  rw [List.take_add_one, hx, List.drop_append, List.any_append]
  have : n - (vars.take j).length = 0 := by simp; omega
  rw [this]
  simp
abbrev bSt (s : St) : Obj := .cells ((cSt s).map .d)
abbrev bFd (f : Fd) : Obj := .cells ((cFd f).map .d)
theorem Ty.eta' (t : Ty) : Ty.mk t.kids = t := by cases t; rfl

/-- (*l3Env).call -/
def S_s_l3Env_call : Spec := fun args O Q => ∃ (e : En) (n fn : Bs) (ar : List Ar), args = [.ptr 0 0, aSt (callSt n fn ar)] ∧ O = oEn e ∧ EnOk e ∧ e.vars.length + 10 ≤ 10000 ∧ e.fns.length ≤ 100 ∧ ar.length ≤ 4 ∧ (∀ a ∈ ar, ArF a) ∧
  Q (.tup []) (oEn1 (e.call n fn ar))
theorem v_s_l3Env_call {B : World} : Valid PG B s_l3Env_call S_s_l3Env_call := by
  refine valid_of (Γ := [(s_l3Fn, ⟨[], S_s_l3Fn⟩), (s_l3Env_expr, ⟨[], S_s_l3Env_expr 100⟩), (s_l3Env_use, ⟨[], S_s_l3Env_use⟩), (s_l3Env_fail, ⟨[], S_fail'⟩), (s_l3Env_same, ⟨[], S_s_l3Env_same⟩), (s_l3Env_add, ⟨[], S_s_l3Env_add⟩), (s_l3Loans, ⟨[], S_s_l3Loans⟩)]) wide tok
    (((((((AllValid.nil.cons v_s_l3Loans).cons v_s_l3Env_add).cons v_s_l3Env_same).cons v_fail').cons v_s_l3Env_use).cons (v_s_l3Env_expr 100)).cons v_s_l3Fn) g_s_l3Env_call rfl rfl ?_
  rintro _ _ Q ⟨⟨fns, fn, vars, names, code⟩, n, f, ar, rfl, rfl, he, hl, hf, ha, har, hQ⟩
  dsimp only at hl hf
  refine wG ?_
  refine ⟨_, _, WkL.rfl, WkOs.rfl, fns, f, fn, rfl, rfl, by omega, ?_⟩
  refine goG1 ?_
  cases hk : fnIdx fns f fn with
  | none =>
    have e1 : fnI fns f fn = -1 := by rw [fnI, hk]
    rw [e1]
    refine Br.yes (by rfl) ?_
    refine wG ?_
    refine ⟨_, _, WkL.rfl, WkOs.rfl, fns, fn, vars, names, code, 2, rfl, rfl, ?_⟩
    refine goG1 ?_
    have e2 : En.call ⟨fns, fn, vars, names, code⟩ n f ar = ⟨fns, fn, vars, names, failc code 2⟩ := by simp only [En.call, hk]; rfl
    rw [e2] at hQ
    refine ⟨[.bump 1, .bump 2], ?_⟩
    refine wG ?_
    refine ⟨[], ⟨rfl, rfl⟩, ?_⟩
    refine wG ?_
    exact ⟨_, _, Wk.rfl, WkOs.rfl, hQ⟩
  | some k =>
    have hlt := fnIdx_lt hk
    have e1 : fnI fns f fn = k := by rw [fnI, hk]
    rw [e1]
    refine Br.no (by simp) ?_
    refine wG ?_
    obtain ⟨fd, hfd⟩ : ∃ fd, fns[k]? = some fd := ⟨_, List.getElem?_eq_getElem hlt⟩
    refine Req.mk (Int.natCast_nonneg _) ?_
    refine ⟨dFd fd, by simp [hfd], ?_⟩
    rw [dFd_eq]
    refine wG ?_
    refine brG1 (fun h => ?_) (fun h => ?_)
    · refine ⟨_, _, WkL.rfl, WkOs.rfl, fns, fn, vars, names, code, 3, rfl, rfl, ?_⟩
      refine goG1 ?_
      have h : fd.params.length ≠ ar.length := fun e => h (by rw [e]; rfl)
      have e2 : En.call ⟨fns, fn, vars, names, code⟩ n f ar = ⟨fns, fn, vars, names, failc code 3⟩ := by simp only [En.call, hk, hfd, if_neg h]; rfl
      rw [e2] at hQ
      refine ⟨[.bump 1, .bump 2], ?_⟩
      refine wG ?_
      refine ⟨[], ⟨rfl, rfl⟩, ?_⟩
      refine wG ?_
      exact ⟨_, _, Wk.rfl, WkOs.rfl, hQ⟩
    have h : fd.params.length = ar.length := by
      have h : (fd.params.length : Int) = ar.length := h
      omega
    have e2 : En.call ⟨fns, fn, vars, names, code⟩ n f ar = (match En.args ⟨fns, fn, vars, names, code⟩ ar fd.params [] with
        | (e1, none) => e1
        | (e1, some L) => e1.call2 L vars.length fd n) := by simp only [En.call, hk, hfd, if_pos h]
    rw [e2] at hQ
    clear e2
    right
    refine wG ?_
    refine goG1 ?_
    refine ⟨[], En × List Pl × Int, fun x => ArgI ⟨fns, fn, vars, names, code⟩ ar fd.params x.1 x.2.1 x.2.2, fun x => (ar.length - x.2.2).toNat, fun x => [(7, .row 5 1), (8, iv x.2.2)], fun x => oEv x.1.fns x.1.fn x.1.vars x.1.names x.1.code 1 0 ++ [bSt (callSt n f ar), bFd fd, .row 1 true 2 (x.2.1.map dPl)], (⟨fns, fn, vars, names, code⟩, [], 0), ⟨by dsimp only; omega, by dsimp only; omega, he, by dsimp only; omega, by dsimp only; omega, by simp, by simp, by simp⟩, ?_⟩
    refine wG ?_
    refine ⟨Meet.mk rfl rfl WkOs.rfl ⟨Wk.rfl, Wk.rfl, trivial⟩ rfl, ?_⟩
    rintro ⟨⟨fns1, fn1, vars1, names1, code1⟩, L, i⟩ ⟨i0, i1, ok, v1, v0, l1, pa, eq⟩
    dsimp only at i0 i1 ok v1 v0 l1 pa eq
    refine wG ?_
    refine brG1 (fun h1 => ?_) (fun h1 => ?_)
    · have hi : i.toNat < ar.length := by
        have h1 : i < (ar.length : Int) := h1
        omega
      have hi2 : i.toNat < fd.params.length := by omega
      have e3 : (i + 1).toNat = i.toNat + 1 := by omega
      rw [List.drop_eq_getElem_cons hi, List.drop_eq_getElem_cons hi2] at eq
      have hA := har _ (List.getElem_mem hi)
      have hax : (ar.map dAr)[i.toNat]? = some (dAr ar[i.toNat]) := by simp [hi]
      have hpx : (fd.params.map dPm)[i.toNat]? = some (dPm fd.params[i.toNat]) := by simp [hi2]
      generalize hga : ar[i.toNat] = a at *
      generalize hgp : fd.params[i.toNat] = p at *
      try refine Req.mk i0 ?_
      refine ⟨_, hax, ?_⟩
      rw [dAr_eq]
      refine wG ?_
      try refine Req.mk i0 ?_
      refine ⟨_, hpx, ?_⟩
      rw [dPm_eq]
      refine wG ?_
      refine ⟨fun h2 => ?_, fun h2 => ?_⟩
      · have h2 : a.lent ≠ p.lent := by simpa using h2
        rw [En.args, if_neg h2] at eq
        rw [eq] at hQ
        refine wG ?_
        refine ⟨_, _, WkL.rfl, WkOs.rfl, fns1, fn1, vars1, names1, code1, 3, rfl, rfl, ?_⟩
        refine goG1 ?_
        refine ⟨[.bump 1, .bump 2], ?_⟩
        refine wG ?_
        refine ⟨[], ⟨rfl, rfl⟩, ?_⟩
        refine wG ?_
        exact ⟨_, _, Wk.rfl, WkOs.rfl, hQ⟩
      have h2 : a.lent = p.lent := by simpa using h2
      rw [En.args, if_pos h2] at eq
      refine wG ?_
      try refine Req.mk i0 ?_
      refine ⟨_, hax, ?_⟩
      rw [dAr_eq]
      refine wG ?_
      cases hA with
      | @lent q hq =>
        rw [if_pos rfl] at eq
        have hq1 := plOk_len hq
        refine Br.no (by rfl) ?_
        refine wG ?_
        try refine Req.mk i0 ?_
        refine ⟨_, hax, ?_⟩
        rw [dAr_eq]
        refine wG ?_
        try refine Req.mk i0 ?_
        refine ⟨_, hpx, ?_⟩
        rw [dPm_eq]
        refine wG ?_
        refine ⟨_, _, WkL.rfl, WkOs.rfl, ⟨fns1, fn1, vars1, names1, code1⟩, q, rfl, rfl, ok, by omega, ?_⟩
        refine agG1 ?_
        dsimp only at eq
        have ok2 := (ok.use q).same (En.use ⟨fns1, fn1, vars1, names1, code1⟩ q).2 p.ty
        have len2 : ((En.use ⟨fns1, fn1, vars1, names1, code1⟩ q).1.same (En.use ⟨fns1, fn1, vars1, names1, code1⟩ q).2 p.ty).vars.length = vars1.length := by rw [same_len, use_len]
        refine ⟨_, _, WkL.rfl, WkOs.rfl, (En.use ⟨fns1, fn1, vars1, names1, code1⟩ q).1, (En.use ⟨fns1, fn1, vars1, names1, code1⟩ q).2, p.ty, rfl, rfl, En.use_ty _ _, ?_⟩
        refine agG1 ?_
        generalize En.same (En.use ⟨fns1, fn1, vars1, names1, code1⟩ q).1 (En.use ⟨fns1, fn1, vars1, names1, code1⟩ q).2 p.ty = e2 at *
        obtain ⟨fns2, fn2, vars2, names2, code2⟩ := e2
        dsimp only at len2
        refine wG ?_
        try refine Req.mk i0 ?_
        refine ⟨_, hax, ?_⟩
        rw [dAr_eq]
        refine wG ?_
        left
        refine wG ?_
        refine agG1 ?_
        left
        refine wG ?_
        refine agG1 ?_
        try refine Req.mk i0 ?_
        refine ⟨_, hax, ?_⟩
        rw [dAr_eq]
        refine wG ?_
        left
        refine wG ?_
        refine goG1 ?_
        refine ⟨(⟨fns2, fn2, vars2 ++ [tmpV q], names2, code2⟩, L ++ [q], i + 1), ⟨by dsimp only; omega, by dsimp only; omega, EnOk.push ok2 (by dsimp only; omega) (by simp [tmpV]) (by simp [tmpV]; omega), by simp; omega, by simp; omega, by simp; omega, ?_, by dsimp only; rw [e3]; exact eq⟩, by dsimp only; omega, [], Meet.mk rfl rfl ?_ ⟨Wk.rfl, Wk.rfl, trivial⟩ rfl⟩
        · intro r hr
          rcases List.mem_append.1 hr with hr | hr
          · exact pa r hr
          · simp at hr; subst hr; omega
        · refine ⟨WkO.rfl, .inr ⟨rfl, rfl, rfl, rows_app rfl ?_⟩, WkO.rfl, WkO.rfl, WkO.rfl, .inr ⟨rfl, rfl, rfl, rows_app rfl DWL.rfl⟩, trivial⟩
          exact DWL.cons DW.rfl (DWL.cons DW.rfl (DWL.cons DW.rfl (DWL.cons (DW.nil 1) (DWL.cons DW.sf (DWL.cons DW.rfl DWL.nil)))))
      | @own x hx =>
        rw [if_neg (by simp)] at eq
        refine Br.yes (by rfl) ?_
        refine wG ?_
        try refine Req.mk i0 ?_
        refine ⟨_, hax, ?_⟩
        rw [dAr_eq]
        refine wG ?_
        try refine Req.mk i0 ?_
        refine ⟨_, hpx, ?_⟩
        rw [dPm_eq]
        refine wG ?_
        refine ⟨_, _, WkL.rfl, WkOs.rfl, ⟨fns1, fn1, vars1, names1, code1⟩, x, 4, rfl, rfl, ok, by omega, hx.ok, ?_⟩
        refine agG1 ?_
        dsimp only at eq
        have ok2 := (EnOk.expr ok hx.ok).1.same (En.expr ⟨fns1, fn1, vars1, names1, code1⟩ x).2 p.ty
        have len2 : ((En.expr ⟨fns1, fn1, vars1, names1, code1⟩ x).1.same (En.expr ⟨fns1, fn1, vars1, names1, code1⟩ x).2 p.ty).vars.length = vars1.length := by rw [same_len, expr_len hx.ok]
        refine ⟨_, _, WkL.rfl, WkOs.rfl, (En.expr ⟨fns1, fn1, vars1, names1, code1⟩ x).1, (En.expr ⟨fns1, fn1, vars1, names1, code1⟩ x).2, p.ty, rfl, rfl, (EnOk.expr ok hx.ok).2, ?_⟩
        refine agG1 ?_
        generalize En.same (En.expr ⟨fns1, fn1, vars1, names1, code1⟩ x).1 (En.expr ⟨fns1, fn1, vars1, names1, code1⟩ x).2 p.ty = e2 at *
        obtain ⟨fns2, fn2, vars2, names2, code2⟩ := e2
        dsimp only at len2
        refine ⟨(⟨fns2, fn2, vars2, names2, code2⟩, L, i + 1), ⟨by dsimp only; omega, by dsimp only; omega, ok2, by dsimp only; omega, by dsimp only; omega, by dsimp only; omega, pa, by dsimp only; rw [e3]; exact eq⟩, by dsimp only; omega, [], Meet.mk rfl rfl WkOs.rfl ⟨Wk.rfl, Wk.rfl, trivial⟩ rfl⟩
    · have h1 : ¬ i < (ar.length : Int) := h1
      rw [List.drop_of_length_le (by omega), List.drop_of_length_le (by omega), args_nil] at eq
      rw [eq] at hQ
      dsimp only at hQ
      clear eq
      refine ⟨[], Int × Int, fun x => vars.length ≤ x.1 ∧ x.1 ≤ vars1.length ∧ x.2 = bif ((vars1.take x.1.toNat).drop vars.length).any (·.dead) then failc code1 4 else code1, fun x => (vars1.length - x.1).toNat, fun x => [(7, .row 5 1), (9, iv x.1)], fun x => oEv fns1 fn1 vars1 names1 x.2 1 0 ++ [bSt (callSt n f ar), bFd fd, .row 1 true 2 (L.map dPl)], ((vars.length : Int), code1), ⟨by dsimp only; omega, by dsimp only; omega, by dsimp only; rw [List.drop_of_length_le (by simp; omega)]; rfl⟩, ?_⟩
      refine wG ?_
      refine ⟨Meet.mk rfl rfl WkOs.rfl ⟨Wk.rfl, Wk.of_eq (by show AV.d (DV.i .i64 ((vars.map dVr).length : Int)) = _; rw [List.length_map]), trivial⟩ rfl, ?_⟩
      rintro ⟨j, c⟩ ⟨j0, j1, hc⟩
      dsimp only at j0 j1 hc
      refine wG ?_
      refine brG1 (fun h2 => ?_) (fun h2 => ?_)
      · obtain ⟨x, hx⟩ : ∃ x, vars1[j.toNat]? = some x := ⟨_, List.getElem?_eq_getElem (by omega)⟩
        have hxx : (vars1.map dVr)[j.toNat]? = some (dVr x) := by simp [hx]
        have e3 : (j + 1).toNat = j.toNat + 1 := by omega
        have es := any_step vars1 vars.length j.toNat x (by omega) hx
        try (refine row_map (by omega) (by (try simp only [List.length_append, List.length_cons, List.length_nil, List.length_map, List.length_take, List.length_drop, maxRow, byteRows_len, Ty.kids, Ty.kids_mk]); omega) ?_; refine wG ?_)
        refine ⟨_, hxx, ?_⟩
        refine wG ?_
        refine ⟨fun hd => ?_, fun hd => ?_⟩
        · have hd : x.dead = true := hd
          refine wG ?_
          refine ⟨_, _, WkL.rfl, WkOs.rfl, fns1, fn1, vars1, names1, c, 4, rfl, rfl, ?_⟩
          refine goG1 ?_
          refine ⟨(j + 1, failc c 4), ⟨by dsimp only; omega, by dsimp only; omega, ?_⟩, by dsimp only; omega, [], Meet.mk rfl rfl WkOs.rfl ⟨Wk.rfl, Wk.rfl, trivial⟩ rfl⟩
          dsimp only
          rw [e3, es, hd, Bool.or_true, cond_true, hc]
          cases ((vars1.take j.toNat).drop vars.length).any (·.dead) with
          | true => exact failc_two _ _
          | false => rfl
        · have hd : x.dead = false := hd
          refine wG ?_
          refine goG1 ?_
          refine ⟨(j + 1, c), ⟨by dsimp only; omega, by dsimp only; omega, ?_⟩, by dsimp only; omega, [], Meet.mk rfl rfl WkOs.rfl ⟨Wk.rfl, Wk.rfl, trivial⟩ rfl⟩
          dsimp only
          rw [e3, es, hd, Bool.or_false, hc]
      · rw [List.take_of_length_le (by omega)] at hc
        rw [En.call2] at hQ
        dsimp only [anyDead] at hQ
        rw [← hc] at hQ
        have hle : ((vars.map dVr).length : Int) ≤ ((vars1.map dVr).length : Int) := by simp; omega
        have et : (vars1.map dVr).take ((vars.map dVr).length : Int).toNat = (vars1.take vars.length).map dVr := by simp [List.map_take]
        refine ⟨⟨Int.natCast_nonneg _, hle⟩, ?_⟩
        refine wG ?_
        right
        refine wG ?_
        refine goG1 ?_
        refine ⟨_, _, WkL.rfl, WkOs.rfl, fd.lent, L, rfl, rfl, ?_⟩
        refine goG1 ?_
        refine ⟨_, _, WkL.rfl, ?_, ⟨fns1, fn1, vars1.take vars.length, names1, c⟩, ⟨n, fd.lent, false, fd.ty, bif fd.lent then L else [], false⟩, rfl, rfl, ?_, ?_, ?_⟩
        · ((conv => (whnf)); (try (refine AnyG.skip ?_; (conv => (whnf)))))
          refine ⟨WkO.rfl, WkO.of_eq (by rw [← et]), WkO.rfl, trivial⟩
        · dsimp only; simp; omega
        · exact Nat.le_trans ok.names (by omega)
        refine goG1 ?_
        refine endK ⟨[], ⟨rfl, rfl⟩, ?_⟩
        refine wG ?_
        refine ⟨_, _, Wk.rfl, ?_, hQ⟩
        exact WkOs.rfl
end Ab
