/- The reference's checker, eighth part: calls. -/
import Derived.Test.YtcajihigkjcgeaaGreatDoorSyn
import Derived.Test.YtcajihigkjcgeaaGreatDoorL3E
set_option linter.all false
namespace Ab
open Go Go.Proofs
set_option maxRecDepth 10000
set_option maxHeartbeats 4000000
set_option linter.all false

/-! ### the place of a function -/
def fnIdx (fns : Pr) (name : Bs) (most : Int) : Option Nat := (fns.take most.toNat).findIdx? (fun f => f.name == name)
def fnI (fns : Pr) (name : Bs) (most : Int) : Int := match fnIdx fns name most with | some i => i | none => -1
theorem fnI_none {fns : Pr} {name : Bs} {most : Int} (h : ∀ f ∈ fns.take most.toNat, (f.name == name) = false) : fnI fns name most = -1 := by
  rw [fnI, fnIdx, List.findIdx?_eq_none_iff.2 h]
theorem fnI_some {fns : Pr} {name : Bs} {most : Int} {i : Nat} (hi : i < fns.length) (him : i < most.toNat) (h : ∀ f ∈ fns.take i, (f.name == name) = false) (hn : (fns[i].name == name) = true) : fnI fns name most = i := by
  have : (fns.take most.toNat).findIdx? (fun f => f.name == name) = some i := by
    rw [List.findIdx?_eq_some_iff_getElem]
    refine ⟨by simp; omega, by simpa using hn, fun j hj => ?_⟩
    have := h fns[j] (List.mem_take_iff_getElem.2 ⟨j, by omega, rfl⟩)
    simpa using this
  rw [fnI, fnIdx, this]
/-- l3Fn -/
def S_s_l3Fn : Spec := fun args O Q => ∃ (p : Pr) (name : Bs) (most : Int), args = [aPr p, sv name, iv most] ∧ O = [] ∧ p.length ≤ 100000 ∧ Q (iv (fnI p name most)) []
theorem v_s_l3Fn {B : World} : Valid PG B s_l3Fn S_s_l3Fn := by
  refine valid_of (Γ := []) wide tok AllValid.nil g_s_l3Fn rfl rfl ?_
  rintro _ _ Q ⟨p, name, most, rfl, rfl, hp, hQ⟩
  refine wG ?_
  refine ⟨[], Int, fun i => 0 ≤ i ∧ i ≤ p.length ∧ (0 ≤ most → i ≤ most) ∧ ∀ f ∈ p.take i.toNat, (f.name == name) = false, fun i => (p.length - i).toNat, fun i => [(7, iv i)], fun _ => [.cells [.d (.sl 12 (p.map dFd))]], 0, ⟨by omega, by omega, by omega, by simp⟩, ?_⟩
  refine wG ?_
  refine ⟨Meet.mk rfl rfl WkOs.rfl ⟨Wk.rfl, trivial⟩ rfl, ?_⟩
  rintro i ⟨hi0, hi1, him, hi2⟩
  refine wG ?_
  refine brG1 (fun h => ?_) (fun h => ?_)
  · refine brG1 (fun h2 => ?_) (fun h2 => ?_)
    · have hip : i.toNat < p.length := by omega
      first | refine idx_map (f := dFd) (by omega) (by (try simp only [List.length_append, List.length_cons, List.length_nil, List.length_map, List.length_take, List.length_drop, maxRow, byteRows_len, Ty.kids, Ty.kids_mk]); omega) ?_ | refine idx_map' (f := dFd) (by (try simp only [List.length_append, List.length_cons, List.length_nil, List.length_map, List.length_take, List.length_drop, maxRow, byteRows_len, Ty.kids, Ty.kids_mk]); omega) ?_
      rw [dFd_eq]
      refine wG ?_
      refine ⟨fun h3 => ?_, fun h3 => ?_⟩
      · have h3 : (p[i.toNat].name == name) = true := h3
        have e : fnI p name most = i := by rw [fnI_some hip (by omega) hi2 h3]; omega
        rw [e] at hQ
        refine wG ?_
        refine endK ⟨[], ⟨rfl, rfl⟩, ?_⟩
        refine wG ?_
        exact ⟨_, _, Wk.rfl, WkOs.rfl, hQ⟩
      · have h3 : (p[i.toNat].name == name) = false := h3
        refine wG ?_
        refine goG1 ?_
        refine ⟨i + 1, ⟨by omega, by omega, by omega, fun f hf => ?_⟩, by dsimp only; omega, [], Meet.mk rfl rfl WkOs.rfl ⟨Wk.rfl, trivial⟩ rfl⟩
        have e : (i + 1).toNat = i.toNat + 1 := by omega
        rw [e, List.take_add_one] at hf
        simp only [List.getElem?_eq_getElem hip, Option.toList_some, List.mem_append, List.mem_singleton] at hf
        rcases hf with hf | rfl
        · exact hi2 f hf
        · exact h3
    · have e : fnI p name most = -1 := fnI_none (fun f hf => hi2 f (by rw [List.take_of_length_le (by omega)]; exact List.mem_of_mem_take hf))
      rw [e] at hQ
      refine wG ?_
      refine endK ⟨[], ⟨rfl, rfl⟩, ?_⟩
      refine wG ?_
      exact ⟨_, _, Wk.rfl, WkOs.rfl, hQ⟩
  · have e : fnI p name most = -1 := fnI_none (fun f hf => hi2 f (by
      have : most.toNat ≤ i.toNat := by omega
      obtain ⟨j, hj, rfl⟩ := List.mem_take_iff_getElem.1 hf
      exact List.mem_take_iff_getElem.2 ⟨j, by omega, rfl⟩))
    rw [e] at hQ
    refine wG ?_
    refine endK ⟨[], ⟨rfl, rfl⟩, ?_⟩
    refine wG ?_
    exact ⟨_, _, Wk.rfl, WkOs.rfl, hQ⟩
end Ab

/- The reference's checker, ninth part: picks. -/
namespace Ab
open Go Go.Proofs
set_option maxRecDepth 10000
set_option maxHeartbeats 4000000
set_option linter.all false

theorem WkO.of_eq {o o' : Obj} (h : o = o') : WkO o o' := by subst h; exact WkO.rfl
/-- l3Loans -/
def S_s_l3Loans : Spec := fun args O Q => ∃ (b : Bool) (L : List Pl), args = [bv b, .d (.sl 2 (L.map dPl))] ∧ O = [] ∧ Q (.d (.sl 2 ((bif b then L else []).map dPl))) []
theorem v_s_l3Loans {B : World} : Valid PG B s_l3Loans S_s_l3Loans := by
  refine valid_of (Γ := []) wide tok AllValid.nil g_s_l3Loans rfl rfl ?_
  rintro _ _ Q ⟨b, L, rfl, rfl, hQ⟩
  refine wG ?_
  refine ⟨fun h => ?_, fun h => ?_⟩
  · have h : b = false := of_not_t h
    rw [h, cond_false] at hQ
    refine wG ?_
    refine endK ⟨[], ⟨rfl, rfl⟩, ?_⟩
    refine wG ?_
    refine ⟨_, _, Wk.nil _, WkOs.rfl, hQ⟩
  · have h : b = true := of_not_f h
    rw [h, cond_true] at hQ
    refine wG ?_
    refine endK ⟨[], ⟨rfl, rfl⟩, ?_⟩
    refine wG ?_
    exact ⟨_, _, Wk.rfl, WkOs.rfl, hQ⟩

/-- fail, its state's parts shown -/
def S_fail' : Spec := fun args O Q => ∃ (fns : Pr) (fn : Int) (vars : List Vr) (names : List Bs) (code c : Int), args = [.ptr 0 0, iv c] ∧ O = oEn ⟨fns, fn, vars, names, code⟩ ∧ Q (.tup []) (oEn ⟨fns, fn, vars, names, failc code c⟩)
theorem v_fail' {B : World} : Valid PG B s_l3Env_fail S_fail' := v_s_l3Env_fail.weak (fun _ _ _ ⟨fns, fn, vars, names, code, c, h1, h2, h3⟩ => ⟨⟨fns, fn, vars, names, code⟩, c, h1, h2, h3⟩)
def En.fail0 (e : En) (c : Int) : En := if c > 0 then e.fail c else e
/-- (*l3Env).fail0 -/
def S_s_l3Env_fail0 : Spec := fun args O Q => ∃ (e : En) (c : Int), args = [.ptr 0 0, iv c] ∧ O = oEn e ∧ Q (.tup []) (oEn (e.fail0 c))
theorem v_s_l3Env_fail0 {B : World} : Valid PG B s_l3Env_fail0 S_s_l3Env_fail0 := by
  refine valid_of (Γ := [(s_l3Env_fail, ⟨[], S_s_l3Env_fail⟩)]) wide tok (AllValid.nil.cons v_s_l3Env_fail) g_s_l3Env_fail0 rfl rfl ?_
  rintro _ _ Q ⟨e, c, rfl, rfl, hQ⟩
  refine wG ?_
  refine brG1 (fun h => ?_) (fun h => ?_)
  · rw [En.fail0, if_pos (by omega)] at hQ
    refine ⟨_, _, WkL.rfl, WkOs.rfl, e, c, rfl, rfl, ?_⟩
    refine goG1 ?_
    refine endK ⟨[], ⟨rfl, rfl⟩, ?_⟩
    refine wG ?_
    exact ⟨_, _, Wk.rfl, WkOs.rfl, hQ⟩
  · rw [En.fail0, if_neg (by omega)] at hQ
    refine endK ⟨[], ⟨rfl, rfl⟩, ?_⟩
    refine wG ?_
    exact ⟨_, _, Wk.rfl, WkOs.rfl, hQ⟩

theorem use_len (e : En) (p : Pl) : (e.use p).1.vars.length = e.vars.length := by
  unfold En.use
  split
  · rfl
  · split
    · rfl
    · exact killV_len _ _
theorem num_len (e : En) (t : Ty) : (e.num t).vars.length = e.vars.length := by unfold En.num; split <;> rfl
theorem same_len (e : En) (a b : Ty) : (e.same a b).vars.length = e.vars.length := by unfold En.same; cases sameTy a b <;> rfl
theorem expr_len : ∀ {n : Nat} {e : En} {x : Xp}, xpOk n x → (e.expr x).1.vars.length = e.vars.length
  | 0, _, _, h => h.elim
  | n + 1, e, .mk k m p ks, ⟨hp, h⟩ => by
    by_cases h1 : k = 1
    · subst h1; rw [expr_1]
    by_cases h2 : k = 2
    · subst h2; rw [expr_2]; exact use_len _ _
    · obtain ⟨_, _, a, b, r, rfl, ha, hb⟩ := (h.resolve_left h1).resolve_left h2
      rw [expr_b _ _ _ _ _ _ _ h1 h2]
      have e1 := expr_len (e := e) ha
      have e2 := expr_len (e := (e.expr a).1) hb
      split
      · cases h : tyOk 4 (.mk [(e.expr a).2, ((e.expr a).1.expr b).2]) with
        | true => exact e2.trans e1
        | false => exact e2.trans e1
      · dsimp only; rw [num_len, num_len]; exact e2.trans e1

/-- what is lent for the length of a call -/
def tmpV (p : Pl) : Vr := ⟨[], true, false, .mk [], [p], false⟩
theorem EnOk.push {e : En} (h : EnOk e) {v : Vr} (hv : e.vars.length < 10000) (h1 : v.loans.length ≤ 100) (h2 : ∀ q ∈ v.loans, q.path.length ≤ 1000) : EnOk { e with vars := e.vars ++ [v] } := by
  refine ⟨by simp; omega, h.names, fun w hw => ?_, fun w hw => ?_⟩
  · rcases List.mem_append.1 hw with hw | hw
    · exact h.loans w hw
    · simp at hw; subst hw; exact h1
  · rcases List.mem_append.1 hw with hw | hw
    · exact h.paths w hw
    · simp at hw; subst hw; exact h2
theorem EnOk.take {e : En} (h : EnOk e) (n : Nat) : EnOk { e with vars := e.vars.take n } :=
  ⟨by have := h.vars; simp; omega, h.names, fun w hw => h.loans w (List.mem_of_mem_take hw), fun w hw => h.paths w (List.mem_of_mem_take hw)⟩

/-- the state after the two uses, and the type -/
noncomputable def En.pick0 (e : En) (s : St) : En × Ty := ((e.expr s.ex).1.num (e.expr s.ex).2).use s.pl
noncomputable def En.pick1 (e : En) (t : Ty) (s : St) : En :=
  (({ e with vars := e.vars ++ [tmpV s.pl] } : En).use s.other).1.same (({ e with vars := e.vars ++ [tmpV s.pl] } : En).use s.other).2 t
def deadAt (vars : List Vr) (n : Nat) : Bool := match vars[n]? with | some v => v.dead | none => false
def En.pick2 (e : En) (t : Ty) (n : Nat) (s : St) : En :=
  En.add { e with code := bif deadAt e.vars n then failc e.code 4 else e.code, vars := e.vars.take n } ⟨s.name, true, false, t, [s.pl, s.other], false⟩
noncomputable def En.pick (e : En) (s : St) : En := ((e.pick0 s).1.pick1 (e.pick0 s).2 s).pick2 (e.pick0 s).2 (e.pick0 s).1.vars.length s

/-- (*l3Env).pick -/
def S_s_l3Env_pick : Spec := fun args O Q => ∃ (e : En) (s : St), args = [.ptr 0 0, aSt s] ∧ O = oEn e ∧ EnOk e ∧ e.vars.length + 2 ≤ 10000 ∧ xpOk 50 s.ex ∧ s.pl.path.length ≤ 1000 ∧ s.other.path.length ≤ 1000 ∧
  Q (.tup []) (oEn1 (e.pick s))
theorem v_s_l3Env_pick {B : World} : Valid PG B s_l3Env_pick S_s_l3Env_pick := by
  refine valid_of (Γ := [(s_l3Env_expr, ⟨[], S_s_l3Env_expr 100⟩), (s_l3Env_use, ⟨[], S_s_l3Env_use⟩), (s_l3Env_num, ⟨[], S_s_l3Env_num⟩), (s_l3Env_fail, ⟨[], S_fail'⟩), (s_l3Env_same, ⟨[], S_s_l3Env_same⟩), (s_l3Env_add, ⟨[], S_s_l3Env_add⟩)]) wide tok
    ((((((AllValid.nil.cons v_s_l3Env_add).cons v_s_l3Env_same).cons v_fail').cons v_s_l3Env_num).cons v_s_l3Env_use).cons (v_s_l3Env_expr 100)) g_s_l3Env_pick rfl rfl ?_
  rintro _ _ Q ⟨e, s, rfl, rfl, he, hl, hx, hp, ho, hQ⟩
  refine wG ?_
  refine ⟨_, _, WkL.rfl, WkOs.rfl, e, s.ex, 50, rfl, rfl, he, by omega, hx, ?_⟩
  refine goG1 ?_
  obtain ⟨x1, x2⟩ := EnOk.expr he hx
  refine ⟨_, _, WkL.rfl, WkOs.rfl, (e.expr s.ex).1, (e.expr s.ex).2, rfl, rfl, ?_⟩
  refine goG1 ?_
  refine ⟨_, _, WkL.rfl, WkOs.rfl, ((e.expr s.ex).1.num (e.expr s.ex).2), s.pl, rfl, rfl, x1.num _, hp, ?_⟩
  refine goG1 ?_
  have y1 : EnOk (e.pick0 s).1 := (x1.num _).use _
  have y2 : tyOk 4 (e.pick0 s).2 = true := En.use_ty _ _
  have yl : (e.pick0 s).1.vars.length = e.vars.length := by rw [En.pick0, use_len, num_len, expr_len hx]
  rw [En.pick] at hQ
  rw [show ((e.expr s.ex).1.num (e.expr s.ex).2).use s.pl = e.pick0 s from rfl]
  generalize e.pick0 s = r at *
  obtain ⟨⟨fns, fn, vars, names, code⟩, t⟩ := r
  dsimp only at *
  left
  refine wG ?_
  refine goG1 ?_
  left
  refine wG ?_
  refine goG1 ?_
  have z1 : EnOk ⟨fns, fn, vars ++ [tmpV s.pl], names, code⟩ := EnOk.push (e := ⟨fns, fn, vars, names, code⟩) y1 (by dsimp only; omega) (by simp [tmpV]) (by simp [tmpV]; exact hp)
  refine ⟨_, _, WkL.rfl, ?_, ⟨fns, fn, vars ++ [tmpV s.pl], names, code⟩, s.other, rfl, rfl, z1, ho, ?_⟩
  · ((conv => (whnf)); (try (refine AnyG.skip ?_; (conv => (whnf)))))
    refine ⟨WkO.rfl, .inr ⟨rfl, rfl, rfl, rows_app rfl ?_⟩, WkO.rfl, trivial⟩
    exact DWL.cons DW.rfl (DWL.cons DW.rfl (DWL.cons DW.rfl (DWL.cons (DW.nil 1) (DWL.cons DW.sf (DWL.cons DW.rfl DWL.nil)))))
  refine goG1 ?_
  refine ⟨_, _, WkL.rfl, WkOs.rfl, (En.use ⟨fns, fn, vars ++ [tmpV s.pl], names, code⟩ s.other).1, (En.use ⟨fns, fn, vars ++ [tmpV s.pl], names, code⟩ s.other).2, t, rfl, rfl, En.use_ty _ _, ?_⟩
  refine goG1 ?_
  have z2 : EnOk (En.pick1 ⟨fns, fn, vars, names, code⟩ t s) := (z1.use s.other).same _ _
  have z3 : (En.pick1 ⟨fns, fn, vars, names, code⟩ t s).vars.length = vars.length + 1 := by rw [En.pick1, same_len, use_len]; simp
  rw [show (En.use ⟨fns, fn, vars ++ [tmpV s.pl], names, code⟩ s.other).1.same (En.use ⟨fns, fn, vars ++ [tmpV s.pl], names, code⟩ s.other).2 t = En.pick1 ⟨fns, fn, vars, names, code⟩ t s from rfl]
  generalize En.pick1 ⟨fns, fn, vars, names, code⟩ t s = r1 at *
  obtain ⟨fns1, fn1, vars1, names1, code1⟩ := r1
  dsimp only at *
  refine wG ?_
  obtain ⟨x, hx1⟩ : ∃ x, vars1[vars.length]? = some x := ⟨_, List.getElem?_eq_getElem (by omega)⟩
  have hxx : (vars1.map dVr)[((vars.map dVr).length : Int).toNat]? = some (dVr x) := by simp [hx1]
  have hxb : ((vars.map dVr).length : Int) < ((vars1.map dVr).length : Int) := by simp; omega
  refine ⟨⟨Int.natCast_nonneg _, hxb⟩, ?_⟩
  refine wG ?_
  refine ⟨dVr x, hxx, ?_⟩
  refine wG ?_
  have hda : deadAt vars1 vars.length = x.dead := by rw [deadAt, hx1]
  rw [En.pick2] at hQ
  dsimp only at hQ
  rw [hda] at hQ
  have hle : ((vars.map dVr).length : Int) ≤ ((vars1.map dVr).length : Int) := by simp; omega
  have edp : [[DV.s s.pl.name, DV.sl 1 (s.pl.path.map dI)], [DV.s s.other.name, DV.sl 1 (s.other.path.map dI)]] = [s.pl, s.other].map dPl := rfl
  have et : (vars1.map dVr).take ((vars.map dVr).length : Int).toNat = (vars1.take vars.length).map dVr := by simp [List.map_take]
  refine ⟨fun hd => ?_, fun hd => ?_⟩
  · have hd : x.dead = true := hd
    rw [hd, cond_true] at hQ
    refine wG ?_
    refine ⟨_, _, WkL.rfl, WkOs.rfl, fns1, fn1, vars1, names1, code1, 4, rfl, rfl, ?_⟩
    refine goG1 ?_
    right
    refine wG ?_
    refine goG1 ?_
    left
    refine wG ?_
    refine goG1 ?_
    refine ⟨_, _, ?_, ?_, ⟨fns1, fn1, vars1.take vars.length, names1, failc code1 4⟩, ⟨s.name, true, false, t, [s.pl, s.other], false⟩, rfl, rfl, ?_, ?_, ?_⟩
    · exact WkL.cons Wk.rfl (WkL.cons (Wk.agg (WkL.cons Wk.rfl (WkL.cons (fun _ _ h => h) (WkL.cons Wk.rfl (WkL.cons Wk.rfl (WkL.cons (Wk.d (by rw [← edp]; exact DW.sf)) (WkL.cons Wk.rfl WkL.nil))))))) WkL.nil)
    · ((conv => (whnf)); (try (refine AnyG.skip ?_; (conv => (whnf)))))
      refine ⟨WkO.rfl, WkO.of_eq (by rw [← et]), WkO.rfl, trivial⟩
    · dsimp only; simp; omega
    · exact Nat.le_trans z2.names (by omega)
    refine goG1 ?_
    refine endK ⟨[], ⟨rfl, rfl⟩, ?_⟩
    refine wG ?_
    refine ⟨_, _, Wk.rfl, ?_, hQ⟩
    exact WkOs.rfl
  · have hd : x.dead = false := hd
    rw [hd, cond_false] at hQ
    refine wG ?_
    refine ⟨⟨Int.natCast_nonneg _, hle⟩, ?_⟩
    refine wG ?_
    right
    refine wG ?_
    refine goG1 ?_
    left
    refine wG ?_
    refine goG1 ?_
    refine ⟨_, _, ?_, ?_, ⟨fns1, fn1, vars1.take vars.length, names1, code1⟩, ⟨s.name, true, false, t, [s.pl, s.other], false⟩, rfl, rfl, ?_, ?_, ?_⟩
    · exact WkL.cons Wk.rfl (WkL.cons (Wk.agg (WkL.cons Wk.rfl (WkL.cons (fun _ _ h => h) (WkL.cons Wk.rfl (WkL.cons Wk.rfl (WkL.cons (Wk.d (by rw [← edp]; exact DW.sf)) (WkL.cons Wk.rfl WkL.nil))))))) WkL.nil)
    · ((conv => (whnf)); (try (refine AnyG.skip ?_; (conv => (whnf)))))
      refine ⟨WkO.rfl, WkO.of_eq (by rw [← et]), WkO.rfl, trivial⟩
    · dsimp only; simp; omega
    · exact Nat.le_trans z2.names (by omega)
    refine goG1 ?_
    refine endK ⟨[], ⟨rfl, rfl⟩, ?_⟩
    refine wG ?_
    refine ⟨_, _, Wk.rfl, ?_, hQ⟩
    exact WkOs.rfl
end Ab

/- Programs in form: plain words, and what they are then. -/
namespace Ab
open Go Go.Proofs
set_option maxRecDepth 10000
set_option maxHeartbeats 4000000
set_option linter.all false

def cIn (a b : Nat) (c : UInt8) : Bool := decide (a ≤ c.toNat) && decide (c.toNat ≤ b)
def nameOk (s : Bs) : Bool := decide (1 ≤ s.length) && decide (s.length ≤ 6) && s.all (cIn 97 122)
def stepOk (x : Int) : Bool := decide (0 ≤ x) && decide (x ≤ 1)
def pathOk (p : List Int) : Bool := decide (p.length ≤ 4) && p.all stepOk
def plOk (p : Pl) : Bool := nameOk p.name && pathOk p.path
def plNo (p : Pl) : Bool := p.name.isEmpty && p.path.isEmpty
def xpNo (x : Xp) : Bool := x.kind == 0 && x.num == 0 && plNo x.pl && x.kids.isEmpty
def xpFm : Nat → Xp → Bool
  | 0, _ => false
  | n + 1, .mk k m p ks => if k = 1 then decide (0 ≤ m) && decide (m ≤ 9999) && plNo p && ks.isEmpty
      else if k = 2 then m == 0 && plOk p && ks.isEmpty
      else decide (3 ≤ k) && decide (k ≤ 6) && m == 0 && plNo p && ks.length == 2 && ks.all (xpFm n)
def arFm (a : Ar) : Bool := bif a.lent then plOk a.pl && xpNo a.ex else plNo a.pl && xpFm 4 a.ex
def argsFm (l : List Ar) : Bool := decide (l.length ≤ 4) && l.all arFm
def stCom (s : St) : Bool :=
  bif s.kind == 1 then nameOk s.name && plNo s.pl && plNo s.other && xpFm 4 s.ex && s.fn.isEmpty && s.args.isEmpty
  else bif s.kind == 2 then nameOk s.name && plOk s.pl && plNo s.other && xpNo s.ex && s.fn.isEmpty && s.args.isEmpty
  else bif s.kind == 3 then s.name.isEmpty && plOk s.pl && plNo s.other && xpFm 4 s.ex && s.fn.isEmpty && s.args.isEmpty
  else bif s.kind == 4 then nameOk s.name && plNo s.pl && plNo s.other && xpNo s.ex && nameOk s.fn && argsFm s.args
  else bif s.kind == 5 then s.name.isEmpty && plNo s.pl && plNo s.other && xpFm 4 s.ex && s.fn.isEmpty && s.args.isEmpty
  else bif s.kind == 6 then nameOk s.name && plOk s.pl && plOk s.other && xpFm 4 s.ex && s.fn.isEmpty && s.args.isEmpty
  else false
/-- the reference's: a choice's rows are at least one deep less -/
def stFm : Nat → St → Bool
  | 0, _ => false
  | d + 1, s => stCom s && bif s.kind == 5 then decide (1 ≤ d) && decide (s.thn.length ≤ 40) && s.thn.all (stFm d) && decide (s.els.length ≤ 40) && s.els.all (stFm d) else s.thn.isEmpty && s.els.isEmpty
def bodyFm (d : Nat) (l : List St) : Bool := decide (1 ≤ d) && decide (l.length ≤ 40) && l.all (stFm d)

abbrev pl0 : Pl := ⟨[], []⟩
abbrev xp0 : Xp := .mk 0 0 pl0 []
theorem plNo_eq {p : Pl} (h : plNo p = true) : p = pl0 := by
  obtain ⟨n, q⟩ := p
  simp [plNo] at h
  simp [h]
theorem xpNo_eq {x : Xp} (h : xpNo x = true) : x = xp0 := by
  obtain ⟨k, m, p, ks⟩ := x
  simp [xpNo, Xp.kind, Xp.num, Xp.pl, Xp.kids] at h
  obtain ⟨⟨⟨rfl, rfl⟩, h⟩, rfl⟩ := h
  rw [plNo_eq h]

/-- an expression in form -/
inductive XpF : Nat → Xp → Prop where
  | num {n : Nat} {m : Int} : 0 ≤ m → m ≤ 9999 → XpF (n + 1) (.mk 1 m pl0 [])
  | read {n : Nat} {p : Pl} : plOk p = true → XpF (n + 1) (.mk 2 0 p [])
  | two {n : Nat} {k : Int} {a b : Xp} : 3 ≤ k → k ≤ 6 → XpF n a → XpF n b → XpF (n + 1) (.mk k 0 pl0 [a, b])
theorem xpFm_F : ∀ {n : Nat} {x : Xp}, xpFm n x = true → XpF n x
  | 0, _, h => by simp [xpFm] at h
  | n + 1, .mk k m p ks, h => by
    simp only [xpFm] at h
    split at h
    · rename_i hk
      subst hk
      simp only [Bool.and_eq_true, decide_eq_true_eq, List.isEmpty_iff] at h
      obtain ⟨⟨⟨h1, h2⟩, h3⟩, rfl⟩ := h
      rw [plNo_eq h3]; exact .num h1 h2
    · split at h
      · rename_i _ hk
        subst hk
        simp only [Bool.and_eq_true, beq_iff_eq, List.isEmpty_iff] at h
        obtain ⟨⟨rfl, h3⟩, rfl⟩ := h
        exact .read h3
      · simp only [Bool.and_eq_true, decide_eq_true_eq, beq_iff_eq] at h
        obtain ⟨⟨⟨⟨⟨h1, h2⟩, rfl⟩, h3⟩, h4⟩, h5⟩ := h
        obtain ⟨a, b, rfl⟩ : ∃ a b, ks = [a, b] := by
          match ks, h4 with
          | [a, b], _ => exact ⟨a, b, rfl⟩
        simp only [List.all_cons, List.all_nil, Bool.and_true, Bool.and_eq_true] at h5
        rw [plNo_eq h3]; exact .two h1 h2 (xpFm_F h5.1) (xpFm_F h5.2)
theorem plNo_0 : plNo pl0 = true := rfl
theorem xpNo_0 : xpNo xp0 = true := rfl
theorem F_xpFm {n : Nat} {x : Xp} (h : XpF n x) : xpFm n x = true := by
  induction h with
  | num h1 h2 => simp [xpFm, h1, h2, plNo_0]
  | read h => simp [xpFm, h]
  | two h1 h2 _ _ ia ib =>
    rw [xpFm, if_neg (by omega), if_neg (by omega)]
    simp [h1, h2, plNo_0, ia, ib]
theorem xpFm_iff {n : Nat} {x : Xp} : xpFm n x = true ↔ XpF n x := ⟨xpFm_F, F_xpFm⟩
theorem XpF.mono {m n : Nat} {x : Xp} (h : XpF m x) (hn : m ≤ n) : XpF n x := by
  induction h generalizing n with
  | num h1 h2 => obtain ⟨k, rfl⟩ : ∃ k, n = k + 1 := ⟨n - 1, by omega⟩; exact .num h1 h2
  | read h => obtain ⟨k, rfl⟩ : ∃ k, n = k + 1 := ⟨n - 1, by omega⟩; exact .read h
  | two h1 h2 _ _ ia ib => obtain ⟨k, rfl⟩ : ∃ k, n = k + 1 := ⟨n - 1, by omega⟩; exact .two h1 h2 (ia (by omega)) (ib (by omega))
theorem plOk_len {p : Pl} (h : plOk p = true) : p.path.length ≤ 4 := by
  simp only [plOk, pathOk, Bool.and_eq_true, decide_eq_true_eq] at h; exact h.2.1
theorem XpF.ok {n : Nat} {x : Xp} (h : XpF n x) : xpOk n x := by
  induction h with
  | num h1 h2 => exact ⟨Nat.zero_le _, .inl rfl⟩
  | read h => exact ⟨Nat.le_trans (plOk_len h) (by omega), .inr (.inl rfl)⟩
  | two h1 h2 _ _ ia ib => exact ⟨Nat.zero_le _, .inr (.inr ⟨by omega, by omega, _, _, [], rfl, ia, ib⟩)⟩

/-- an argument in form -/
inductive ArF : Ar → Prop where
  | lent {p : Pl} : plOk p = true → ArF ⟨true, p, xp0⟩
  | own {x : Xp} : XpF 4 x → ArF ⟨false, pl0, x⟩
theorem arFm_F {a : Ar} (h : arFm a = true) : ArF a := by
  obtain ⟨b, p, x⟩ := a
  cases b with
  | true =>
    simp only [arFm, cond_true, Bool.and_eq_true] at h
    rw [xpNo_eq h.2]; exact .lent h.1
  | false =>
    simp only [arFm, cond_false, Bool.and_eq_true] at h
    rw [plNo_eq h.1]; exact .own (xpFm_F h.2)
theorem F_arFm {a : Ar} (h : ArF a) : arFm a = true := by
  cases h with
  | lent h => simp [arFm, h, xpNo_0]
  | own h => simp [arFm, plNo_0, F_xpFm h]

/-- a statement in form -/
inductive StF : Nat → St → Prop where
  | let_ {d : Nat} {n : Bs} {x : Xp} : nameOk n = true → XpF 4 x → StF (d + 1) (.mk 1 n pl0 pl0 x [] [] [] [])
  | lend {d : Nat} {n : Bs} {p : Pl} : nameOk n = true → plOk p = true → StF (d + 1) (.mk 2 n p pl0 xp0 [] [] [] [])
  | set {d : Nat} {p : Pl} {x : Xp} : plOk p = true → XpF 4 x → StF (d + 1) (.mk 3 [] p pl0 x [] [] [] [])
  | call {d : Nat} {n f : Bs} {ar : List Ar} : nameOk n = true → nameOk f = true → ar.length ≤ 4 → (∀ a ∈ ar, ArF a) → StF (d + 1) (.mk 4 n pl0 pl0 xp0 f ar [] [])
  | ifs {d : Nat} {x : Xp} {t e : List St} : XpF 4 x → 1 ≤ d → t.length ≤ 40 → (∀ s ∈ t, StF d s) → e.length ≤ 40 → (∀ s ∈ e, StF d s) → StF (d + 1) (.mk 5 [] pl0 pl0 x [] [] t e)
  | pick {d : Nat} {n : Bs} {p q : Pl} {x : Xp} : nameOk n = true → plOk p = true → plOk q = true → XpF 4 x → StF (d + 1) (.mk 6 n p q x [] [] [] [])

theorem stFm_F : ∀ {d : Nat} {s : St}, stFm d s = true → StF d s
  | 0, _, h => by simp [stFm] at h
  | d + 1, .mk k n p o x f ar t e, h => by
    simp only [stFm, stCom, St.kind, St.name, St.pl, St.other, St.ex, St.fn, St.args, St.thn, St.els] at h
    rw [Bool.and_eq_true] at h
    obtain ⟨h, h2⟩ := h
    by_cases hk : k = 1
    · subst hk; rw [show ((1 : Int) == 1) = true from rfl, cond_true] at h
      simp only [Bool.and_eq_true, List.isEmpty_iff] at h h2
      obtain ⟨⟨⟨⟨⟨a1, a2⟩, a3⟩, a4⟩, rfl⟩, rfl⟩ := h
      simp at h2
      obtain ⟨rfl, rfl⟩ := h2
      rw [plNo_eq a2, plNo_eq a3]
      exact .let_ a1 (xpFm_F a4)
    rw [show (k == 1) = false from by simpa using hk, cond_false] at h
    by_cases hk : k = 2
    · subst hk; rw [show ((2 : Int) == 2) = true from rfl, cond_true] at h
      simp only [Bool.and_eq_true, List.isEmpty_iff] at h
      obtain ⟨⟨⟨⟨⟨a1, a2⟩, a3⟩, a4⟩, rfl⟩, rfl⟩ := h
      simp at h2
      obtain ⟨rfl, rfl⟩ := h2
      rw [plNo_eq a3, xpNo_eq a4]
      exact .lend a1 a2
    rw [show (k == 2) = false from by simpa using hk, cond_false] at h
    by_cases hk : k = 3
    · subst hk; rw [show ((3 : Int) == 3) = true from rfl, cond_true] at h
      simp only [Bool.and_eq_true, List.isEmpty_iff] at h
      obtain ⟨⟨⟨⟨⟨rfl, a2⟩, a3⟩, a4⟩, rfl⟩, rfl⟩ := h
      simp at h2
      obtain ⟨rfl, rfl⟩ := h2
      rw [plNo_eq a3]
      exact .set a2 (xpFm_F a4)
    rw [show (k == 3) = false from by simpa using hk, cond_false] at h
    by_cases hk : k = 4
    · subst hk; rw [show ((4 : Int) == 4) = true from rfl, cond_true] at h
      simp only [Bool.and_eq_true, argsFm, decide_eq_true_eq, List.all_eq_true] at h
      obtain ⟨⟨⟨⟨⟨a1, a2⟩, a3⟩, a4⟩, a5⟩, a6, a7⟩ := h
      simp at h2
      obtain ⟨rfl, rfl⟩ := h2
      rw [plNo_eq a2, plNo_eq a3, xpNo_eq a4]
      exact .call a1 a5 a6 (fun a ha => arFm_F (a7 a ha))
    rw [show (k == 4) = false from by simpa using hk, cond_false] at h
    by_cases hk : k = 5
    · subst hk; rw [show ((5 : Int) == 5) = true from rfl, cond_true] at h
      simp only [Bool.and_eq_true, List.isEmpty_iff] at h
      obtain ⟨⟨⟨⟨⟨rfl, a2⟩, a3⟩, a4⟩, rfl⟩, rfl⟩ := h
      simp only [beq_self_eq_true, cond_true, Bool.and_eq_true, decide_eq_true_eq, List.all_eq_true] at h2
      obtain ⟨⟨⟨⟨b1, b2⟩, b3⟩, b4⟩, b5⟩ := h2
      rw [plNo_eq a2, plNo_eq a3]
      exact .ifs (xpFm_F a4) b1 (of_decide_eq_true b2) (fun s hs => stFm_F (b3 s hs)) (of_decide_eq_true b4) (fun s hs => stFm_F (b5 s hs))
    rw [show (k == 5) = false from by simpa using hk, cond_false] at h
    by_cases hk : k = 6
    · subst hk; rw [show ((6 : Int) == 6) = true from rfl, cond_true] at h
      simp only [Bool.and_eq_true, List.isEmpty_iff] at h
      obtain ⟨⟨⟨⟨⟨a1, a2⟩, a3⟩, a4⟩, rfl⟩, rfl⟩ := h
      simp at h2
      obtain ⟨rfl, rfl⟩ := h2
      exact .pick a1 a2 a3 (xpFm_F a4)
    rw [show (k == 6) = false from by simpa using hk, cond_false] at h
    cases h
theorem F_stFm {d : Nat} {s : St} (h : StF d s) : stFm d s = true := by
  induction h with
  | let_ h1 h2 => simp [stFm, stCom, St.kind, St.name, St.pl, St.other, St.ex, St.fn, St.args, St.thn, St.els, h1, F_xpFm h2, plNo_0]
  | lend h1 h2 => simp [stFm, stCom, St.kind, St.name, St.pl, St.other, St.ex, St.fn, St.args, St.thn, St.els, h1, h2, plNo_0, xpNo_0]
  | set h1 h2 => simp [stFm, stCom, St.kind, St.name, St.pl, St.other, St.ex, St.fn, St.args, St.thn, St.els, h1, F_xpFm h2, plNo_0]
  | call h1 h2 h3 h4 =>
    simp [stFm, stCom, St.kind, St.name, St.pl, St.other, St.ex, St.fn, St.args, St.thn, St.els, h1, h2, plNo_0, xpNo_0, argsFm, h3]
    exact fun a ha => F_arFm (h4 a ha)
  | ifs h1 h2 h3 _ h5 _ i1 i2 =>
    simp [stFm, stCom, St.kind, St.name, St.pl, St.other, St.ex, St.fn, St.args, St.thn, St.els, F_xpFm h1, plNo_0, h2, h3, h5]
    exact ⟨i1, i2⟩
  | pick h1 h2 h3 h4 => simp [stFm, stCom, St.kind, St.name, St.pl, St.other, St.ex, St.fn, St.args, St.thn, St.els, h1, h2, h3, F_xpFm h4]
theorem stFm_iff {d : Nat} {s : St} : stFm d s = true ↔ StF d s := ⟨stFm_F, F_stFm⟩

/-- how many statements there are -/
def cntS : St → Nat
  | .mk _ _ _ _ _ _ _ t e => 1 + (t.map cntS).sum + (e.map cntS).sum
def cntB (l : List St) : Nat := (l.map cntS).sum
theorem cntS_eq (s : St) : cntS s = 1 + cntB s.thn + cntB s.els := by cases s; simp [cntS, cntB, St.thn, St.els]
theorem cntS_pos (s : St) : 1 ≤ cntS s := by rw [cntS_eq]; omega
theorem cntB_len : ∀ l : List St, l.length ≤ cntB l
  | [] => Nat.le_refl _
  | s :: l => by have := cntB_len l; have := cntS_pos s; simp [cntB] at *; omega

/-- a function in form -/
def pmFm (p : Pm) : Bool := nameOk p.name && tyOk 4 p.ty
def fnFm (f : Fd) : Bool := nameOk f.name && decide (f.params.length ≤ 4) && tyOk 4 f.ty && bodyFm 4 f.body && decide (cntB f.body ≤ 40) && f.params.all pmFm &&
  bif f.lent then plOk f.gives && xpNo f.says else plNo f.gives && xpFm 4 f.says
def prFm (p : Pr) : Bool := decide (p.length ≤ 5) && p.all fnFm
end Ab
