/- The reference's checker, twelfth part: statements, in plain words. -/
import Derived.Test.YtcajihigkjcgeaaGreatDoorL3J
import Derived.Test.YtcajihigkjcgeaaGreatDoorSyn
set_option linter.all false
namespace Ab
open Go Go.Proofs
set_option maxRecDepth 10000
set_option maxHeartbeats 4000000
set_option linter.all false

def Vr.shape (v : Vr) : Vr := { v with dead := false }
def joinV (vars a b : List Vr) : List Vr := vars.mapIdx fun i v => { v with dead := deadAt a i || deadAt b i }
noncomputable def En.fork (f : En → List St → En) (e : En) (t l : List St) : En :=
  let a := f e t
  let b := f { e with names := a.names } l
  En.fail0 (En.fail0 { e with vars := joinV e.vars a.vars b.vars, names := b.names } a.code) b.code
noncomputable def En.stmtD : Nat → En → St → En
  | 0, e, _ => e
  | d + 1, e, s =>
    if s.kind = 1 then (e.expr s.ex).1.add ⟨s.name, false, false, (e.expr s.ex).2, [], false⟩
    else if s.kind = 2 then (e.use s.pl).1.add ⟨s.name, true, false, (e.use s.pl).2, [s.pl], false⟩
    else if s.kind = 3 then ((e.expr s.ex).1.use s.pl).1.same ((e.expr s.ex).1.use s.pl).2 (e.expr s.ex).2
    else if s.kind = 4 then e.call s.name s.fn s.args
    else if s.kind = 6 then e.pick s
    else ((e.expr s.ex).1.num (e.expr s.ex).2).fork (fun e l => l.foldl (fun e s => if e.code = 0 then En.stmtD d e s else e) e) s.thn s.els
noncomputable def En.bodyD (d : Nat) (e : En) (l : List St) : En := l.foldl (fun e s => if e.code = 0 then En.stmtD d e s else e) e
theorem bodyD_snoc (d : Nat) (e : En) (l : List St) (s : St) : e.bodyD d (l ++ [s]) = if (e.bodyD d l).code = 0 then (e.bodyD d l).stmtD d s else e.bodyD d l := by rw [En.bodyD, List.foldl_append]; rfl
theorem bodyD_cons (d : Nat) (e : En) (l : List St) (s : St) : e.bodyD d (s :: l) = (if e.code = 0 then e.stmtD d s else e).bodyD d l := rfl
theorem bodyD_stuck (d : Nat) (e : En) (h : e.code ≠ 0) : ∀ l : List St, e.bodyD d l = e
  | [] => rfl
  | s :: l => by rw [bodyD_cons, if_neg h, bodyD_stuck d e h l]
theorem stmt_let (d : Nat) (e : En) (n : Bs) (x : Xp) : e.stmtD (d + 1) (.mk 1 n pl0 pl0 x [] [] [] []) = (e.expr x).1.add ⟨n, false, false, (e.expr x).2, [], false⟩ := by
  rw [En.stmtD]; rfl
theorem stmt_lend (d : Nat) (e : En) (n : Bs) (p : Pl) : e.stmtD (d + 1) (.mk 2 n p pl0 xp0 [] [] [] []) = (e.use p).1.add ⟨n, true, false, (e.use p).2, [p], false⟩ := by
  rw [En.stmtD]; rfl
theorem stmt_set (d : Nat) (e : En) (p : Pl) (x : Xp) : e.stmtD (d + 1) (.mk 3 [] p pl0 x [] [] [] []) = ((e.expr x).1.use p).1.same ((e.expr x).1.use p).2 (e.expr x).2 := by
  rw [En.stmtD]; rfl
theorem stmt_call (d : Nat) (e : En) (n f : Bs) (ar : List Ar) : e.stmtD (d + 1) (callSt n f ar) = e.call n f ar := by
  rw [En.stmtD]; rfl
theorem stmt_pick (d : Nat) (e : En) (n : Bs) (p q : Pl) (x : Xp) : e.stmtD (d + 1) (.mk 6 n p q x [] [] [] []) = e.pick (.mk 6 n p q x [] [] [] []) := by
  rw [En.stmtD]; rfl
theorem stmt_if (d : Nat) (e : En) (x : Xp) (t l : List St) : e.stmtD (d + 1) (.mk 5 [] pl0 pl0 x [] [] t l) = ((e.expr x).1.num (e.expr x).2).fork (En.bodyD d) t l := by
  rw [En.stmtD]; rfl

/-- what a step leaves: sizes, and all that was given, but for what has ended -/
structure Step (e e' : En) (v n : Nat) : Prop where
  fns : e'.fns = e.fns
  fn : e'.fn = e.fn
  pre : e.vars.map Vr.shape <+: e'.vars.map Vr.shape
  v1 : e'.vars.length ≤ e.vars.length + v
  n0 : e.names.length ≤ e'.names.length
  n1 : e'.names.length ≤ e.names.length + n
  code : e.code ≠ 0 → e'.code ≠ 0
theorem Step.rfl {e : En} {v n : Nat} : Step e e v n := ⟨.refl _, .refl _, List.prefix_rfl, by omega, by omega, by omega, id⟩
theorem Step.trans {a b c : En} {v n v' n' : Nat} (h : Step a b v n) (k : Step b c v' n') : Step a c (v + v') (n + n') :=
  ⟨k.fns.trans h.fns, k.fn.trans h.fn, h.pre.trans k.pre, by have := h.v1; have := k.v1; omega, by have := h.n0; have := k.n0; omega, by have := h.n1; have := k.n1; omega, fun x => k.code (h.code x)⟩
theorem Step.mono {a b : En} {v n v' n' : Nat} (h : Step a b v n) (hv : v ≤ v') (hn : n ≤ n') : Step a b v' n' :=
  ⟨h.fns, h.fn, h.pre, by have := h.v1; omega, h.n0, by have := h.n1; omega, h.code⟩
theorem Step.v0 {a b : En} {v n : Nat} (h : Step a b v n) : a.vars.length ≤ b.vars.length := by
  have := h.pre.length_le; simpa using this
theorem failc_ne {c a : Int} (ha : a ≠ 0) : failc c a ≠ 0 := by unfold failc; split <;> simp_all
theorem failc_ne' {c a : Int} (h : c ≠ 0) : failc c a ≠ 0 := by unfold failc; split <;> simp_all
theorem Step.fail (e : En) (c : Int) : Step e (e.fail c) 0 0 := ⟨.refl _, .refl _, List.prefix_rfl, by simp [En.fail], by simp [En.fail], by simp [En.fail], fun h => failc_ne' h⟩
theorem shape_set (vars : List Vr) (i : Nat) : (setDead vars i).map Vr.shape = vars.map Vr.shape := by
  apply List.ext_getElem?
  intro k
  simp only [setDead, List.getElem?_map, List.getElem?_modify]
  cases vars[k]? with
  | none => rfl
  | some v => by_cases h : i = k <;> simp [h, Vr.shape, Vr.kill]
theorem shape_kill (vars : List Vr) (L : List Int) : (killV vars L).map Vr.shape = vars.map Vr.shape := by
  induction L generalizing vars with
  | nil => rfl
  | cons x L ih => simp only [killV, List.foldl_cons] at ih ⊢; rw [ih, shape_set]
theorem useV_ne {v : Vr} {c : Int} {p : Pl} (h : c ≠ 0) : useV v c p ≠ 0 := by
  unfold useV
  cases (typeAt v.ty p.path).isSome <;> cases v.dead <;> simp only [cond_true, cond_false]
  · exact failc_ne' h
  · exact failc_ne' (failc_ne' h)
  · exact h
  · exact failc_ne' h
theorem Step.use (e : En) (p : Pl) : Step e (e.use p).1 0 0 := by
  unfold En.use
  split
  · exact ⟨.refl _, .refl _, List.prefix_rfl, by simp, by simp, by simp, fun h => failc_ne' h⟩
  · split
    · exact .rfl
    · exact ⟨.refl _, .refl _, by dsimp only; rw [shape_kill]; exact List.prefix_rfl, by simp [killV_len], by simp, by simp, fun h => useV_ne h⟩
theorem Step.num (e : En) (t : Ty) : Step e (e.num t) 0 0 := by unfold En.num; split; exact .rfl; exact .fail _ _
theorem Step.same (e : En) (a b : Ty) : Step e (e.same a b) 0 0 := by unfold En.same; cases sameTy a b; exact .fail _ _; exact .rfl
theorem Step.fail0 (e : En) (c : Int) : Step e (e.fail0 c) 0 0 := by unfold En.fail0; split; exact .fail _ _; exact .rfl
theorem Step.expr : ∀ {n : Nat} {e : En} {x : Xp}, XpF n x → Step e (e.expr x).1 0 0
  | _, e, _, .num h1 h2 => by rw [expr_1]; exact .rfl
  | _, e, _, .read h => by rw [expr_2]; exact .use _ _
  | _, e, _, .two (k := k) (a := a) (b := b) h1 h2 ha hb => by
    rw [expr_b _ _ _ _ _ _ _ (by omega) (by omega)]
    have s1 := Step.expr (e := e) ha
    have s2 := s1.trans (Step.expr (e := (e.expr a).1) hb)
    split
    · cases h : tyOk 4 (.mk [(e.expr a).2, ((e.expr a).1.expr b).2]) with
      | true => exact s2
      | false => exact (s2.trans (.fail _ _))
    · exact (s2.trans (.num _ _)).trans (.num _ _)
theorem Step.add (e : En) (v : Vr) : Step e (e.add v) 1 1 := by
  refine ⟨.refl _, .refl _, ?_, by simp [En.add], by simp [En.add], by simp [En.add], fun h => ?_⟩
  · simp only [En.add, List.map_append]; exact List.prefix_append _ _
  · simp only [En.add]
    split
    · exact failc_ne' h
    · exact h
theorem EnOk.add {e : En} (h : EnOk e) {v : Vr} (h1 : e.vars.length < 10000) (h2 : e.names.length < 100000) (h3 : v.loans.length ≤ 100) (h4 : ∀ q ∈ v.loans, q.path.length ≤ 1000) : EnOk (e.add v) := by
  refine ⟨by simp [En.add]; omega, by simp [En.add]; omega, fun w hw => ?_, fun w hw => ?_⟩
  · rcases List.mem_append.1 hw with hw | hw
    · exact h.loans w hw
    · simp at hw; subst hw; exact h3
  · rcases List.mem_append.1 hw with hw | hw
    · exact h.paths w hw
    · simp at hw; subst hw; exact h4
/-- a cut of what was given behind is no loss -/
theorem Step.cut {e e1 : En} {v n : Nat} (h : Step e e1 v n) {c : Int} (hc : e1.code ≠ 0 → c ≠ 0) : Step e { e1 with code := c, vars := e1.vars.take e.vars.length } 0 n := by
  refine ⟨h.fns, h.fn, ?_, by simp; omega, h.n0, h.n1, fun x => hc (h.code x)⟩
  have hp := h.pre
  have := List.prefix_iff_eq_take.1 hp
  simp only [List.map_take]
  rw [List.length_map] at this
  rw [← this]; exact List.prefix_rfl
theorem Step.push (e : En) (p : Pl) : Step e (e.push p) 1 0 :=
  ⟨.refl _, .refl _, by simp only [En.push, List.map_append]; exact List.prefix_append _ _, by simp [En.push], by simp [En.push], by simp [En.push], id⟩
theorem Step.args : ∀ {ar : List Ar} {ps : List Pm} {e : En} {L : List Pl}, (∀ a ∈ ar, ArF a) → Step e (e.args ar ps L).1 ar.length 0 ∧ ((e.args ar ps L).2 = none → (e.args ar ps L).1.code ≠ 0) ∧ ∀ L', (e.args ar ps L).2 = some L' → L'.length ≤ L.length + ar.length
  | [], ps, e, L, _ => by rw [args_nil]; exact ⟨.rfl, by simp, by simp⟩
  | a :: ar, [], e, L, _ => by simp only [En.args]; exact ⟨.rfl, by simp, by simp⟩
  | a :: ar, p :: ps, e, L, h => by
    have ha := h a (by simp)
    have h' : ∀ b ∈ ar, ArF b := fun b hb => h b (List.mem_cons_of_mem _ hb)
    rw [En.args]
    split
    · cases ha with
      | @lent q hq =>
        rw [if_pos (Eq.refl _)]
        obtain ⟨h1, h2, h3⟩ := Step.args (ps := ps) (e := ((e.use q).1.same (e.use q).2 p.ty).push q) (L := L ++ [q]) h'
        refine ⟨((((Step.use e q).trans (.same _ _ _)).trans (.push _ _)).trans h1).mono (by simp; omega) (by omega), h2, fun L' hL => ?_⟩
        have := h3 L' hL
        simp at this ⊢; omega
      | @own x hx =>
        rw [if_neg (by simp)]
        obtain ⟨h1, h2, h3⟩ := Step.args (ps := ps) (e := (e.expr x).1.same (e.expr x).2 p.ty) (L := L) h'
        refine ⟨(((Step.expr hx).trans (.same _ _ _)).trans h1).mono (by simp) (by omega), h2, fun L' hL => ?_⟩
        have := h3 L' hL
        simp at this ⊢; omega
    · refine ⟨(Step.fail e 3).mono (by omega) (by omega), fun _ => ?_, by simp⟩
      exact failc_ne (by omega)
theorem Step.call {e : En} {n f : Bs} {ar : List Ar} (h : ∀ a ∈ ar, ArF a) (hl : ar.length ≤ 4) : Step e (e.call n f ar) 4 1 := by
  unfold En.call
  split
  · exact (Step.fail _ _).mono (by omega) (by omega)
  · split
    · exact .rfl
    · rename_i fd _
      split
      · obtain ⟨h1, h2, h3⟩ := Step.args (ps := fd.params) (e := e) (L := []) h
        split
        · rename_i e1 heq
          rw [heq] at h1
          exact h1.mono (by omega) (by omega)
        · rename_i e1 L heq
          rw [heq] at h1
          rw [En.call2]
          refine ((h1.cut ?_).trans (.add _ _)).mono (by omega) (by omega)
          intro hc
          cases anyDead e1.vars e.vars.length with
          | true => exact failc_ne' hc
          | false => exact hc
      · exact (Step.fail _ _).mono (by omega) (by omega)
theorem Step.pick {e : En} {s : St} (hx : XpF 4 s.ex) : Step e (e.pick s) 1 1 := by
  unfold En.pick
  have h0 : Step e (e.pick0 s).1 0 0 := ((Step.expr hx).trans (.num _ _)).trans (.use _ _)
  generalize e.pick0 s = r at *
  obtain ⟨e0, t⟩ := r
  dsimp only at *
  have h1 : Step e0 (e0.pick1 t s) 1 0 := ((Step.push e0 s.pl).trans (.use _ _)).trans (.same _ _ _)
  generalize e0.pick1 t s = e1 at *
  rw [En.pick2]
  refine (h0.trans ((h1.cut ?_).trans (.add _ _))).mono (by omega) (by omega)
  intro hc
  cases deadAt e1.vars e0.vars.length with
  | true => exact failc_ne' hc
  | false => exact hc
theorem joinV_len (vars a b : List Vr) : (joinV vars a b).length = vars.length := by simp [joinV]
theorem joinV_shape (vars a b : List Vr) : (joinV vars a b).map Vr.shape = vars.map Vr.shape := by
  apply List.ext_getElem?
  intro k
  simp only [joinV, List.getElem?_map, List.getElem?_mapIdx]
  cases vars[k]? <;> simp [Vr.shape]
theorem Step.fork {f : En → List St → En} {e : En} {t l : List St} {v : Nat} (h1 : Step e (f e t) v (cntB t)) (h2 : Step { e with names := (f e t).names } (f { e with names := (f e t).names } l) v (cntB l)) : Step e (e.fork f t l) 0 (cntB t + cntB l) := by
  unfold En.fork
  dsimp only
  refine (Step.mono (Step.trans (Step.trans (b := { e with vars := joinV e.vars (f e t).vars (f { e with names := (f e t).names } l).vars, names := (f { e with names := (f e t).names } l).names }) (v := 0) (n := cntB t + cntB l) ?_ (.fail0 _ _)) (.fail0 _ _)) (by omega) (by omega))
  have a1 := h1.n0; have a2 := h1.n1; have b1 := h2.n0; have b2 := h2.n1
  dsimp only at b1 b2
  exact ⟨.refl _, .refl _, by dsimp only; rw [joinV_shape]; exact List.prefix_rfl, by dsimp only; rw [joinV_len]; omega, by dsimp only; omega, by dsimp only; omega, id⟩

theorem Step.body {d : Nat} (hs : ∀ {e : En} {s : St}, StF d s → Step e (e.stmtD d s) 4 (cntS s)) : ∀ {l : List St} {e : En}, (∀ s ∈ l, StF d s) → Step e (e.bodyD d l) (4 * l.length) (cntB l)
  | [], e, _ => .rfl
  | s :: l, e, h => by
    rw [bodyD_cons]
    have h1 : Step e (if e.code = 0 then e.stmtD d s else e) 4 (cntS s) := by
      split
      · exact hs (h s (by simp))
      · exact .rfl
    have h2 := Step.body hs (e := if e.code = 0 then e.stmtD d s else e) (fun s' hs' => h s' (List.mem_cons_of_mem _ hs'))
    refine (h1.trans h2).mono (by simp; omega) (by simp [cntB])
theorem Step.stmt : ∀ {d : Nat} {e : En} {s : St}, StF d s → Step e (e.stmtD d s) 4 (cntS s)
  | _, e, _, .let_ h1 h2 => by
    rw [stmt_let]; exact ((Step.expr h2).trans (.add _ _)).mono (by omega) (by rw [cntS_eq]; omega)
  | _, e, _, .lend h1 h2 => by
    rw [stmt_lend]; exact ((Step.use _ _).trans (.add _ _)).mono (by omega) (by rw [cntS_eq]; omega)
  | _, e, _, .set h1 h2 => by
    rw [stmt_set]; exact (((Step.expr h2).trans (.use _ _)).trans (.same _ _ _)).mono (by omega) (by omega)
  | _, e, _, .call h1 h2 h3 h4 => by
    rw [stmt_call]; exact (Step.call h4 h3).mono (by omega) (by rw [cntS_eq]; omega)
  | _, e, _, .pick h1 h2 h3 h4 => by
    rw [stmt_pick]; exact (Step.pick (s := .mk 6 _ _ _ _ [] [] [] []) h4).mono (by omega) (by rw [cntS_eq]; omega)
  | d + 1, e, _, .ifs (t := t) (e := l) h1 h2 h3 h4 h5 h6 => by
    rw [stmt_if]
    refine ((((Step.expr h1).trans (.num _ _)).trans (Step.fork (v := 160) ?_ ?_))).mono (by omega) (by rw [cntS_eq]; simp only [St.thn, St.els]; omega)
    · exact (Step.body Step.stmt h4).mono (by omega) (by omega)
    · exact (Step.body Step.stmt h6).mono (by omega) (by omega)
theorem Step.bodyD {d : Nat} {l : List St} {e : En} (h : ∀ s ∈ l, StF d s) : Step e (e.bodyD d l) (4 * l.length) (cntB l) := Step.body Step.stmt h
end Ab

/- The reference's checker, thirteenth part: the sizes that statements keep. -/
namespace Ab
open Go Go.Proofs
set_option maxRecDepth 10000
set_option maxHeartbeats 4000000
set_option linter.all false

theorem EnOk.push' {e : En} (h : EnOk e) {p : Pl} (hv : e.vars.length < 10000) (hp : p.path.length ≤ 1000) : EnOk (e.push p) :=
  EnOk.push h hv (by simp [tmpV]) (by simp [tmpV]; exact hp)
theorem EnOk.args : ∀ {ar : List Ar} {ps : List Pm} {e : En} {L : List Pl}, EnOk e → e.vars.length + ar.length ≤ 10000 → (∀ a ∈ ar, ArF a) → (∀ q ∈ L, q.path.length ≤ 1000) →
    EnOk (e.args ar ps L).1 ∧ ∀ L', (e.args ar ps L).2 = some L' → ∀ q ∈ L', q.path.length ≤ 1000
  | [], ps, e, L, he, _, _, hL => by rw [args_nil]; exact ⟨he, by simp; exact hL⟩
  | a :: ar, [], e, L, he, _, _, hL => by simp only [En.args]; exact ⟨he, by simp; exact hL⟩
  | a :: ar, p :: ps, e, L, he, hv, h, hL => by
    have ha := h a (by simp)
    have h' : ∀ b ∈ ar, ArF b := fun b hb => h b (List.mem_cons_of_mem _ hb)
    simp only [List.length_cons] at hv
    rw [En.args]
    split
    · cases ha with
      | @lent q hq =>
        rw [if_pos (Eq.refl _)]
        have hq1 := plOk_len hq
        have hl : ((e.use q).1.same (e.use q).2 p.ty).vars.length = e.vars.length := by rw [same_len, use_len]
        dsimp only
        refine EnOk.args (EnOk.push' ((he.use q).same _ _) (by omega) (by omega)) (by simp [En.push]; omega) h' (fun r hr => ?_)
        rcases List.mem_append.1 hr with hr | hr
        · exact hL r hr
        · simp at hr; subst hr; omega
      | @own x hx =>
        rw [if_neg (by simp)]
        have hl : ((e.expr x).1.same (e.expr x).2 p.ty).vars.length = e.vars.length := by rw [same_len, expr_len hx.ok]
        exact EnOk.args ((EnOk.expr he hx.ok).1.same _ _) (by dsimp only; omega) h' hL
    · exact ⟨he.fail _, by simp⟩
theorem EnOk.call {e : En} {n f : Bs} {ar : List Ar} (he : EnOk e) (h : ∀ a ∈ ar, ArF a) (hl : ar.length ≤ 4) (hv : e.vars.length + 10 ≤ 10000) (hn : e.names.length < 100000) : EnOk (e.call n f ar) := by
  unfold En.call
  split
  · exact he.fail _
  · split
    · exact he
    · rename_i fd _
      split
      · obtain ⟨h1, h2⟩ := EnOk.args (ps := fd.params) (L := []) he (by omega) h (by simp)
        obtain ⟨s1, _, s3⟩ := Step.args (ps := fd.params) (e := e) (L := []) h
        split
        · rename_i e1 heq
          rw [heq] at h1
          exact h1
        · rename_i e1 L heq
          rw [heq] at h1 h2 s1 s3
          have hL := s3 L (Eq.refl _)
          have hp := h2 L (Eq.refl _)
          have n1 := s1.n1
          dsimp only at n1 hL
          simp only [List.length_nil] at hL
          rw [En.call2]
          refine EnOk.add ((h1.take e.vars.length).code _) (by simp; omega) (by dsimp only; omega) ?_ ?_
          · cases fd.lent with
            | true => simp only [cond_true]; omega
            | false => simp
          · cases fd.lent with
            | true => exact hp
            | false => simp
      · exact he.fail _
theorem EnOk.pick {e : En} {s : St} (he : EnOk e) (hx : XpF 4 s.ex) (hp : s.pl.path.length ≤ 1000) (hq : s.other.path.length ≤ 1000) (hv : e.vars.length + 2 ≤ 10000) (hn : e.names.length < 100000) : EnOk (e.pick s) := by
  unfold En.pick
  have h0 : EnOk (e.pick0 s).1 := ((EnOk.expr he hx.ok).1.num _).use _
  have l0 : (e.pick0 s).1.vars.length = e.vars.length := by rw [En.pick0, use_len, num_len, expr_len hx.ok]
  have s0 : Step e (e.pick0 s).1 0 0 := ((Step.expr hx).trans (.num _ _)).trans (.use _ _)
  generalize e.pick0 s = r at *
  obtain ⟨e0, t⟩ := r
  dsimp only at *
  have h1 : EnOk (e0.pick1 t s) := ((h0.push' (by omega) hp).use _).same _ _
  have s1 : Step e0 (e0.pick1 t s) 1 0 := ((Step.push e0 s.pl).trans (.use _ _)).trans (.same _ _ _)
  generalize e0.pick1 t s = e1 at *
  rw [En.pick2]
  have a1 := s0.n1
  have a2 := s1.n1
  refine EnOk.add ((h1.take e0.vars.length).code _) (by simp; omega) (by dsimp only; omega) (by simp) (fun q hq' => ?_)
  simp at hq'
  rcases hq' with rfl | rfl
  · exact hp
  · exact hq
theorem mem_joinV {vars a b : List Vr} {v : Vr} (h : v ∈ joinV vars a b) : ∃ w ∈ vars, v.loans = w.loans := by
  obtain ⟨i, hi, rfl⟩ := List.getElem_of_mem h
  have hi' : i < vars.length := by rw [joinV_len] at hi; exact hi
  exact ⟨vars[i], List.getElem_mem hi', by simp [joinV]⟩
theorem EnOk.fork {f : En → List St → En} {e : En} {t l : List St} (he : EnOk e) (hb : EnOk (f { e with names := (f e t).names } l)) : EnOk (e.fork f t l) := by
  unfold En.fork
  dsimp only
  have : ∀ c, EnOk { e with vars := joinV e.vars (f e t).vars (f { e with names := (f e t).names } l).vars, names := (f { e with names := (f e t).names } l).names, code := c } := fun c => by
    refine ⟨by dsimp only; rw [joinV_len]; exact he.vars, hb.names, fun v hv => ?_, fun v hv => ?_⟩
    · obtain ⟨w, hw, e2⟩ := mem_joinV hv; rw [e2]; exact he.loans w hw
    · obtain ⟨w, hw, e2⟩ := mem_joinV hv; rw [e2]; exact he.paths w hw
  unfold En.fail0
  split <;> split <;> exact this _
theorem EnOk.body {d : Nat} (hs : ∀ {e : En} {s : St}, EnOk e → StF d s → e.vars.length + 500 * (d - 1) + 10 ≤ 10000 → e.names.length + cntS s ≤ 100000 → EnOk (e.stmtD d s)) :
    ∀ {l : List St} {e : En} (k : Nat), EnOk e → (∀ s ∈ l, StF d s) → k + l.length ≤ 40 → e.vars.length + 500 * d ≤ 10000 + 4 * k → e.names.length + cntB l ≤ 100000 → EnOk (e.bodyD d l)
  | [], e, _, he, _, _, _, _ => he
  | s :: l, e, k, he, h, hk, hv, hn => by
    rw [bodyD_cons]
    have hd : 1 ≤ d := by cases h s (by simp) <;> omega
    simp only [List.length_cons, cntB, List.map_cons, List.sum_cons] at hk hn
    have h1 : EnOk (if e.code = 0 then e.stmtD d s else e) ∧ Step e (if e.code = 0 then e.stmtD d s else e) 4 (cntS s) := by
      split
      · exact ⟨hs he (h s (by simp)) (by omega) (by omega), Step.stmt (h s (by simp))⟩
      · exact ⟨he, .rfl⟩
    have a1 := h1.2.v1
    have a2 := h1.2.n1
    exact EnOk.body hs (k + 1) h1.1 (fun s' hs' => h s' (List.mem_cons_of_mem _ hs')) (by omega) (by omega) (by simp only [cntB]; omega)
theorem EnOk.stmt : ∀ {d : Nat} {e : En} {s : St}, EnOk e → StF d s → e.vars.length + 500 * (d - 1) + 10 ≤ 10000 → e.names.length + cntS s ≤ 100000 → EnOk (e.stmtD d s)
  | _, e, _, he, .let_ (n := n) (x := x) h1 h2, hv, hn => by
    rw [stmt_let]
    have a1 := Step.expr (e := e) h2
    have a2 := a1.v1; have a3 := a1.n1
    have a4 := cntS_pos (.mk 1 n pl0 pl0 x [] [] [] [])
    exact EnOk.add (EnOk.expr he h2.ok).1 (by omega) (by omega) (by simp) (by simp)
  | _, e, _, he, .lend (n := n) (p := p) h1 h2, hv, hn => by
    rw [stmt_lend]
    have a1 := Step.use e p
    have a2 := a1.v1; have a3 := a1.n1
    have a4 := cntS_pos (.mk 2 n p pl0 xp0 [] [] [] [])
    have a5 := plOk_len h2
    exact EnOk.add (he.use _) (by omega) (by omega) (by simp) (by simp; omega)
  | _, e, _, he, .set h1 h2, hv, hn => by
    rw [stmt_set]; exact ((EnOk.expr he h2.ok).1.use _).same _ _
  | _, e, _, he, .call (n := n) (f := f) (ar := ar) h1 h2 h3 h4, hv, hn => by
    have a4 := cntS_pos (.mk 4 n pl0 pl0 xp0 f ar [] [])
    rw [stmt_call]; exact EnOk.call he h4 h3 (by omega) (by omega)
  | _, e, _, he, .pick (n := n) (p := p) (q := q) (x := x) h1 h2 h3 h4, hv, hn => by
    have a4 := cntS_pos (.mk 6 n p q x [] [] [] [])
    have a5 := plOk_len h2
    have a6 := plOk_len h3
    rw [stmt_pick]; exact EnOk.pick (s := .mk 6 n p q x [] [] [] []) he h4 (by simp only [St.pl]; omega) (by simp only [St.other]; omega) (by omega) (by omega)
  | d + 1, e, _, he, .ifs (x := x) (t := t) (e := l) h1 h2 h3 h4 h5 h6, hv, hn => by
    rw [cntS_eq] at hn
    simp only [St.thn, St.els] at hn
    rw [stmt_if]
    have a1 : Step e ((e.expr x).1.num (e.expr x).2) 0 0 := (Step.expr h1).trans (.num _ _)
    have k0 : EnOk ((e.expr x).1.num (e.expr x).2) := (EnOk.expr he h1.ok).1.num _
    generalize (e.expr x).1.num (e.expr x).2 = e0 at *
    have a2 := a1.v1; have a3 := a1.n1
    have s1 : Step e0 (e0.bodyD d t) (4 * t.length) (cntB t) := Step.bodyD h4
    have b1 := s1.n1
    refine EnOk.fork k0 (EnOk.body EnOk.stmt 0 ⟨k0.vars, ?_, k0.loans, k0.paths⟩ h6 (by omega) (by dsimp only; omega) (by dsimp only; omega))
    dsimp only; omega
theorem EnOk.bodyD {d : Nat} {l : List St} {e : En} (he : EnOk e) (h : ∀ s ∈ l, StF d s) (hl : l.length ≤ 40) (hv : e.vars.length + 500 * d ≤ 10000) (hn : e.names.length + cntB l ≤ 100000) : EnOk (e.bodyD d l) :=
  EnOk.body EnOk.stmt 0 he h (by omega) (by omega) hn
end Ab

/- The reference's checker, fourteenth part: choices. -/
namespace Ab
open Go Go.Proofs
set_option maxRecDepth 10000
set_option maxHeartbeats 4000000
set_option linter.all false

def joinT (vars a b : List Vr) (i : Nat) : List Vr := (joinV vars a b).take i ++ vars.drop i
theorem joinT_len (vars a b : List Vr) (i : Nat) : (joinT vars a b i).length = vars.length := by simp [joinT, joinV_len]; omega
theorem joinT_get (vars a b : List Vr) (i : Nat) (v : Vr) (h : vars[i]? = some v) : (joinT vars a b i)[i]? = some v := by
  have := (List.getElem?_eq_some_iff.1 h).1
  rw [joinT, List.getElem?_append_right (by simp [joinV_len]; omega)]
  have e : ((joinV vars a b).take i).length = i := by simp [joinV_len]; omega
  rw [e]; simp [h]
theorem joinT_step (vars a b : List Vr) (i : Nat) (v : Vr) (h : vars[i]? = some v) : joinT vars a b (i + 1) = (joinT vars a b i).set i { v with dead := deadAt a i || deadAt b i } := by
  obtain ⟨hl, rfl⟩ := List.getElem?_eq_some_iff.1 h
  have e : ((joinV vars a b).take i).length = i := by simp [joinV_len]; omega
  have hj : i < (joinV vars a b).length := by rw [joinV_len]; exact hl
  rw [joinT, joinT, List.set_append, if_neg (by omega), e, Nat.sub_self, List.drop_eq_getElem_cons hl, List.set_cons_zero, List.take_succ_eq_append_getElem hj]
  simp [joinV]
theorem joinT_all (vars a b : List Vr) {i : Nat} (h : vars.length ≤ i) : joinT vars a b i = joinV vars a b := by
  rw [joinT, List.drop_of_length_le h, List.take_of_length_le (by rw [joinV_len]; exact h), List.append_nil]
/-- (*l3Env).body -/
def S_s_l3Env_body (d : Nat) : Spec := fun args O Q => ∃ (e : En) (l : List St), args = [.ptr 0 0, .d (.sl 15 (l.map dSt))] ∧ O = oEn e ∧ EnOk e ∧ (∀ s ∈ l, StF d s) ∧ l.length ≤ 40 ∧ e.fns.length ≤ 100 ∧ e.vars.length + 500 * d ≤ 10000 ∧ e.names.length + cntB l ≤ 100000 ∧
  Q (.tup []) (oEn1 (e.bodyD d l))
/-- (*l3Env).fork -/
def S_s_l3Env_fork (d : Nat) : Spec := fun args O Q => ∃ (e : En) (x : Xp) (t l : List St), args = [.ptr 0 0, aSt (.mk 5 [] pl0 pl0 x [] [] t l)] ∧ O = oEn e ∧ EnOk e ∧ (∀ s ∈ t, StF d s) ∧ t.length ≤ 40 ∧ (∀ s ∈ l, StF d s) ∧ l.length ≤ 40 ∧ e.fns.length ≤ 100 ∧ e.vars.length + 500 * d ≤ 10000 ∧ e.names.length + (cntB t + cntB l) ≤ 100000 ∧
  Q (.tup []) (oEn1 (e.fork (En.bodyD d) t l))
theorem v_s_l3Env_fork {B : World} {d : Nat} (hb : Valid PG B s_l3Env_body (S_s_l3Env_body d)) : Valid PG B s_l3Env_fork (S_s_l3Env_fork d) := by
  refine valid_of (Γ := [(s_l3Env_copy, ⟨[], S_s_l3Env_copy⟩), (s_l3Env_body, ⟨[], S_s_l3Env_body d⟩), (s_l3Env_fail, ⟨[], S_fail'⟩), (s_l3Env_fail0, ⟨[], S_s_l3Env_fail0⟩)]) wide tok
    ((((AllValid.nil.cons v_s_l3Env_fail0).cons v_fail').cons hb).cons v_s_l3Env_copy) g_s_l3Env_fork rfl rfl ?_
  rintro _ _ Q ⟨⟨fns, fn, vars, names, code⟩, x, t, l, rfl, rfl, he, ht, htl, hls, hll, hf, hv, hn, hQ⟩
  dsimp only at hf hv hn
  rw [En.fork] at hQ
  dsimp only at hQ
  refine wG ?_
  refine ⟨_, _, WkL.rfl, WkOs.rfl, ⟨fns, fn, vars, names, code⟩, rfl, rfl, he, ?_⟩
  refine goG1 ?_
  refine ⟨_, _, WkL.rfl, WkOs.rfl, ⟨fns, fn, vars, names, code⟩, t, rfl, rfl, he, ht, htl, hf, by omega, by dsimp only; omega, ?_⟩
  have sa : Step ⟨fns, fn, vars, names, code⟩ (En.bodyD d ⟨fns, fn, vars, names, code⟩ t) (4 * t.length) (cntB t) := Step.bodyD ht
  have ka : EnOk (En.bodyD d ⟨fns, fn, vars, names, code⟩ t) := EnOk.bodyD he ht htl (by dsimp only; omega) (by dsimp only; omega)
  generalize En.bodyD d ⟨fns, fn, vars, names, code⟩ t = a at *
  obtain ⟨fnsa, fna, varsa, namesa, codea⟩ := a
  have a1 := sa.v0
  have a2 := sa.n1
  have a3 := ka.names
  dsimp only at a1 a2 a3
  refine goG1 ?_
  refine ⟨_, _, WkL.rfl, WkOs.rfl, ⟨fns, fn, vars, names, code⟩, rfl, rfl, he, ?_⟩
  refine goG1 ?_
  left
  refine wG ?_
  refine ⟨⟨.inl rfl, by simp [maxRow]; omega⟩, ?_⟩
  refine wG ?_
  refine goG1 ?_
  refine ⟨_, _, WkL.rfl, WkOs.rfl, ⟨fns, fn, vars, namesa, code⟩, l, rfl, rfl, ⟨he.vars, a3, he.loans, he.paths⟩, hls, hll, hf, by omega, by dsimp only; omega, ?_⟩
  have sb : Step ⟨fns, fn, vars, namesa, code⟩ (En.bodyD d ⟨fns, fn, vars, namesa, code⟩ l) (4 * l.length) (cntB l) := Step.bodyD hls
  dsimp only at hQ
  generalize En.bodyD d ⟨fns, fn, vars, namesa, code⟩ l = b at *
  obtain ⟨fnsb, fnb, varsb, namesb, codeb⟩ := b
  have b1 := sb.v0
  dsimp only at b1 hQ
  refine goG1 ?_
  refine ⟨[], Int, fun i => 0 ≤ i ∧ i ≤ vars.length, fun i => (vars.length - i).toNat, fun i => [(6, iv i)], fun i => oEv fns fn (joinT vars varsa varsb i.toNat) names code 0 0 ++ [bSt (.mk 5 [] pl0 pl0 x [] [] t l), .row 1 true 6 (varsa.map dVr), .row 1 true 1 (namesa.map dS), .cells [.d (.sl 12 (fnsa.map dFd)), iv fna, .row 4 1, .row 5 1, iv codea], .row 1 true 6 (varsb.map dVr), .row 0 true 1 (names.map dS), .cells [.d (.sl 12 (fnsb.map dFd)), iv fnb, .row 7 1, .row 10 1, iv codeb], .row 1 true 1 (namesb.map dS)], 0, ⟨by omega, by omega⟩, ?_⟩
  refine wG ?_
  refine ⟨Meet.mk rfl rfl WkOs.rfl ⟨Wk.rfl, trivial⟩ rfl, ?_⟩
  rintro i ⟨i0, i1⟩
  have jl := joinT_len vars varsa varsb i.toNat
  refine wG ?_
  refine brG1 (fun h => ?_) (fun h => ?_)
  · have h : i < (vars.length : Int) := by simp only [List.length_map, jl] at h; exact h
    have hi : i.toNat < vars.length := by omega
    have e3 : (i + 1).toNat = i.toNat + 1 := by omega
    obtain ⟨v, hv1⟩ : ∃ v, vars[i.toNat]? = some v := ⟨_, List.getElem?_eq_getElem hi⟩
    obtain ⟨va, hva⟩ : ∃ v, varsa[i.toNat]? = some v := ⟨_, List.getElem?_eq_getElem (by omega)⟩
    obtain ⟨vb, hvb⟩ : ∃ v, varsb[i.toNat]? = some v := ⟨_, List.getElem?_eq_getElem (by omega)⟩
    have jg := joinT_get vars varsa varsb i.toNat v hv1
    have js := joinT_step vars varsa varsb i.toNat v hv1
    have da : deadAt varsa i.toNat = va.dead := by rw [deadAt, hva]
    have db : deadAt varsb i.toNat = vb.dead := by rw [deadAt, hvb]
    rw [da, db] at js
    have xg : ((joinT vars varsa varsb i.toNat).map dVr)[i.toNat]? = some (dVr v) := by simp [jg]
    have xa : (varsa.map dVr)[i.toNat]? = some (dVr va) := by simp [hva]
    have xb : (varsb.map dVr)[i.toNat]? = some (dVr vb) := by simp [hvb]
    have la : i < ((varsa.map dVr).length : Int) := by simp; omega
    have lb : i < ((varsb.map dVr).length : Int) := by simp; omega
    have lj : i < (((joinT vars varsa varsb i.toNat).map dVr).length : Int) := by rw [List.length_map, jl]; exact h
    refine ⟨⟨i0, la⟩, ?_⟩
    refine wG ?_
    refine ⟨_, xa, ?_⟩
    refine wG ?_
    refine ⟨fun hd => ?_, fun hd => ?_⟩
    · have hd : va.dead = true := hd
      rw [hd, Bool.true_or] at js
      refine wG ?_
      refine ⟨⟨i0, lj⟩, ?_⟩
      refine wG ?_
      refine ⟨_, xg, ?_⟩
      refine wG ?_
      refine goG1 ?_
      refine ⟨i + 1, ⟨by omega, by omega⟩, by dsimp only; omega, [], Meet.mk rfl rfl (WkOs.of_eq ?_) ⟨Wk.rfl, trivial⟩ rfl⟩
      dsimp only
      rw [e3, js]
      simp only [oEv, List.map_set]
      rfl
    · have hd : va.dead = false := hd
      rw [hd, Bool.false_or] at js
      refine wG ?_
      refine ⟨⟨i0, lb⟩, ?_⟩
      refine wG ?_
      refine ⟨_, xb, ?_⟩
      refine wG ?_
      refine ⟨⟨i0, lj⟩, ?_⟩
      refine wG ?_
      refine ⟨_, xg, ?_⟩
      refine wG ?_
      refine goG1 ?_
      refine ⟨i + 1, ⟨by omega, by omega⟩, by dsimp only; omega, [], Meet.mk rfl rfl (WkOs.of_eq ?_) ⟨Wk.rfl, trivial⟩ rfl⟩
      dsimp only
      rw [e3, js]
      simp only [oEv, List.map_set]
      rfl
  · have h : ¬ i < (vars.length : Int) := by simp only [List.length_map, jl] at h; exact h
    rw [joinT_all _ _ _ (show vars.length ≤ i.toNat by omega)]
    refine ⟨fun h2 => ?_, fun h2 => ?_⟩
    · have h2 : codea > 0 := of_decide_eq_true h2
      have ex : En.fail0 ⟨fns, fn, joinV vars varsa varsb, namesb, code⟩ codea = ⟨fns, fn, joinV vars varsa varsb, namesb, failc code codea⟩ := by rw [En.fail0, if_pos h2]; rfl
      refine wG ?_
      refine ⟨_, _, WkL.rfl, WkOs.rfl, fns, fn, joinV vars varsa varsb, namesb, code, codea, rfl, rfl, ?_⟩
      refine goG1 ?_
      rw [ex] at hQ
      refine ⟨_, _, WkL.rfl, WkOs.rfl, ⟨fns, fn, joinV vars varsa varsb, namesb, failc code codea⟩, codeb, rfl, rfl, ?_⟩
      generalize En.fail0 ⟨fns, fn, joinV vars varsa varsb, namesb, failc code codea⟩ codeb = r at *
      obtain ⟨fnsr, fnr, varsr, namesr, coder⟩ := r
      refine goG1 ?_
      refine ⟨[.mv 10 2, .bump 1], ?_⟩
      refine wG ?_
      refine ⟨[], ⟨rfl, rfl⟩, ?_⟩
      refine wG ?_
      exact ⟨_, _, Wk.rfl, WkOs.rfl, hQ⟩
    · have h2 : ¬ codea > 0 := of_decide_eq_false h2
      have ex : En.fail0 ⟨fns, fn, joinV vars varsa varsb, namesb, code⟩ codea = ⟨fns, fn, joinV vars varsa varsb, namesb, code⟩ := by rw [En.fail0, if_neg h2]
      refine wG ?_
      rw [ex] at hQ
      refine ⟨_, _, WkL.rfl, WkOs.rfl, ⟨fns, fn, joinV vars varsa varsb, namesb, code⟩, codeb, rfl, rfl, ?_⟩
      generalize En.fail0 ⟨fns, fn, joinV vars varsa varsb, namesb, code⟩ codeb = r at *
      obtain ⟨fnsr, fnr, varsr, namesr, coder⟩ := r
      refine goG1 ?_
      refine ⟨[.mv 10 2, .bump 1], ?_⟩
      refine wG ?_
      refine ⟨[], ⟨rfl, rfl⟩, ?_⟩
      refine wG ?_
      exact ⟨_, _, Wk.rfl, WkOs.rfl, hQ⟩
end Ab
