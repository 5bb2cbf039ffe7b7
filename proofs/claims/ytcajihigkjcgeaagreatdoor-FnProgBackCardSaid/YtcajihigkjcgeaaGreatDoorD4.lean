/- The draws, fourth part: calls and picks. -/
import Derived.Test.YtcajihigkjcgeaaGreatDoorSyn
import Derived.Test.YtcajihigkjcgeaaGreatDoorD3
import Derived.Test.YtcajihigkjcgeaaGreatDoorFrmK7
set_option linter.all false
namespace Ab
open Go Go.Proofs
set_option maxRecDepth 10000
set_option maxHeartbeats 4000000
set_option linter.all false

theorem StB_nil (m : Nat) (k : Int) (n : Bs) (p o : Pl) (x : Xp) (f : Bs) (ar : List Ar) : StB m (.mk k n p o x f ar [] []) := by
  cases m <;> simp [StB]
structure FdOk (f : Fd) : Prop where
  params : f.params.length ≤ 4
  types : ∀ x ∈ f.params, tyOk 4 x.ty = true
  ty : tyOk 4 f.ty = true
def FnsOk (fns : Pr) : Prop := ∀ f ∈ fns, FdOk f
abbrev nilS : AV := .d (.v (.slice none 0 0))
/-- a statement's cells, all nothing -/
abbrev bSt0 : Obj := .cells [iv 0, sv [], sv [], nilS, sv [], nilS, iv 0, iv 0, sv [], nilS, nilS, sv [], nilS, nilS, nilS]
/-- (*l71Mk).call -/
def S_s_l71Mk_call : Spec := fun args O Q => ∃ (l : List UInt8) (p last : Int) (e : En), args = [.ptr 0 0] ∧ O = oMk l p e last ∧ l.length ≤ 2000 ∧ 0 ≤ p ∧ p + 10000 ≤ 1000000000 ∧ 0 ≤ last ∧ last < 4100 ∧ EnOk e ∧ TyV e.vars ∧ FnsOk e.fns ∧ 0 ≤ e.fn ∧ e.fn ≤ e.fns.length ∧ e.fns.length ≤ 100 ∧
  ∀ (s : St) (p' : Int), ((∀ m, StB m s) ∧ cntS s ≤ 1) → p ≤ p' → p' ≤ p + 5000 → Q (aSt s) (oMk l p' e (last + 1))
theorem v_s_l71Mk_call {B : World} : Valid PG B s_l71Mk_call S_s_l71Mk_call := by
  refine valid_of (Γ := [(s_l71Mk_name, ⟨[], S_s_l71Mk_name⟩), (s_l71Mk_place, ⟨[], S_s_l71Mk_place⟩), (s_l1Same, ⟨[], S_s_l1Same 5⟩), (s_l71Mk_expr, ⟨[], S_s_l71Mk_expr 5⟩), (s_l6Rd_pick, ⟨[], S_s_l6Rd_pick⟩)]) wide tok (((((AllValid.nil.cons v_s_l6Rd_pick).cons (v_s_l71Mk_expr 5)).cons (v_s_l1Same 5)).cons v_s_l71Mk_place).cons v_s_l71Mk_name) g_s_l71Mk_call rfl rfl ?_
  rintro _ _ Q ⟨l, p, last, e, rfl, rfl, hl, h0, hp, hl0, hl1, he, ht, hf, hfn0, hfn1, hfl, hQ⟩
  refine wG ?_
  refine ⟨_, _, WkL.rfl, WkOs.rfl, l, p, last, e, rfl, rfl, hl0, hl1, ?_⟩
  intro nm
  refine goG1 ?_
  refine brG1 (fun h1 => ?_) (fun h1 => ?_)
  · refine goG1 ?_
    refine endK ⟨[], ⟨rfl, rfl⟩, ?_⟩
    refine wG ?_
    refine ⟨_, _, ?_, WkOs.rfl, hQ (.mk 4 nm pl0 pl0 xp0 [] [] [] []) p ⟨fun m => StB_nil m _ _ _ _ _ _ _, by simp [cntS]⟩ (by omega) (by omega)⟩
    repeat' (first
      | exact Wk.rfl
      | exact WkL.rfl
      | exact WkOs.rfl
      | exact DWRows.rfl
      | exact Wk.nil _
      | exact DWL.rfl
      | exact DW.rfl
      | exact DW.nil _
      | exact DW.nilf _
      | exact DW.sf
      | refine Wk.agg ?_
      | refine Wk.tup ?_
      | refine WkL.cons ?_ ?_
      | refine Wk.d ?_
      | refine DWL.cons ?_ ?_
      | refine DW.sf.trans (DW.sl ?_)
      | refine DW.sl ?_
      | refine DW.sff ?_
      | exact WkL.nil
      | exact trivial
      | exact DWRows.rfl_of (by simp [Function.comp_def, Ty.kids, Ty.kids_mk])
      )
  · refine ⟨_, _, WkL.rfl, WkOs.rfl, l, p, e.fn, hl, h0, by omega, by omega, rfl, rfl, ?_⟩
    intro k _ hk
    obtain ⟨hk0, hk1⟩ := hk (by omega)
    have hkl : k.toNat < e.fns.length := by omega
    have hx : (e.fns.map dFd)[k.toNat]? = some (dFd e.fns[k.toNat]) := by simp [hkl]
    have hF := hf _ (List.getElem_mem hkl)
    generalize e.fns[k.toNat] = f at *
    refine goG1 ?_
    refine ⟨_, hx, ?_⟩
    rw [dFd_eq]
    refine wG ?_
    refine agG1 ?_
    refine ⟨[.cell 3 12 8], List Ar × Int × Int, fun x => 0 ≤ x.2.2 ∧ x.2.2 ≤ f.params.length ∧ (x.1.length : Int) = x.2.2 ∧ p + 1 ≤ x.2.1 ∧ x.2.1 ≤ p + 1 + 1000 * x.2.2, fun x => (f.params.length - x.2.2).toNat, fun x => [(5, iv x.2.2)], fun x => oMk l x.2.1 e (last + 1) ++ [bSt0, .cells [iv 4, sv nm, sv [], nilS, sv [], nilS, iv 0, iv 0, sv [], nilS, nilS, sv f.name, .row 5 1, nilS, nilS], bFd f, .row 1 true 8 (x.1.map dAr)], ([], p + 1, 0), ⟨by dsimp only; omega, by dsimp only; omega, by simp, by dsimp only; omega, by dsimp only; omega⟩, ?_⟩
    refine wG ?_
    refine ⟨Meet.mk rfl rfl WkOs.rfl ⟨Wk.rfl, trivial⟩ rfl, ?_⟩
    rintro ⟨L, p1, i⟩ ⟨i0, i1, i2, i3, i4⟩
    dsimp only at i0 i1 i2 i3 i4
    have hfp := hF.params
    refine wG ?_
    refine brG1 (fun h2 => ?_) (fun h2 => ?_)
    · have hi : i.toNat < f.params.length := by
        have h : i < (f.params.length : Int) := by simpa using h2
        omega
      have hpx : (f.params.map dPm)[i.toNat]? = some (dPm f.params[i.toNat]) := by simp [hi]
      have hT := hF.types _ (List.getElem_mem hi)
      generalize f.params[i.toNat] = pm at *
      (try (refine Req.mk i0 ?_; ((conv => (whnf)); (try (refine AnyG.skip ?_; (conv => (whnf)))))))
      refine ⟨_, hpx, ?_⟩
      rw [dPm_eq]
      refine wG ?_
      refine ⟨fun h3 => ?_, fun h3 => ?_⟩
      · refine wG ?_
        (try (refine Req.mk i0 ?_; ((conv => (whnf)); (try (refine AnyG.skip ?_; (conv => (whnf)))))))
        refine ⟨_, hpx, ?_⟩
        rw [dPm_eq]
        refine wG ?_
        refine ⟨_, _, WkL.rfl, WkOs.rfl, l, p1, last + 1, e, pm.ty, 2, rfl, rfl, hl, by omega, by omega, by omega, by omega, by show p1 + 200 * 4 + 400 ≤ (1000000000 : Int); omega, he, ht, hT, ?_⟩
        intro x p2 _ g1 g2
        have g2 : p2 ≤ p1 + 200 * 4 - 100 := g2
        refine agG1 ?_
        left
        refine wG ?_
        refine agG1 ?_
        refine ⟨(L ++ [⟨false, pl0, x⟩], p2, i + 1), ⟨by dsimp only; omega, by dsimp only; omega, by simp; omega, by dsimp only; omega, by dsimp only; omega⟩, by dsimp only; omega, [], Meet.mk rfl rfl ?_ ⟨Wk.rfl, trivial⟩ rfl⟩
        refine ⟨WkO.rfl, WkO.rfl, WkO.rfl, WkO.rfl, WkO.rfl, .inr ⟨rfl, rfl, rfl, rows_app rfl ?_⟩, trivial⟩
        exact DWL.cons DW.rfl (DWL.cons DW.rfl (DWL.cons (DW.nil 1) DWL.rfl))
      · refine wG ?_
        refine ⟨[], Pl × Int × Int, fun x => 0 ≤ x.2.2 ∧ x.2.2 ≤ 6 ∧ p1 ≤ x.2.1 ∧ x.2.1 ≤ p1 + 20 * x.2.2, fun x => (6 - x.2.2).toNat, fun x => [(7, iv x.2.2)], fun x => oMk l x.2.1 e (last + 1) ++ [bSt0, .cells [iv 4, sv nm, sv [], nilS, sv [], nilS, iv 0, iv 0, sv [], nilS, nilS, sv f.name, .row 5 1, nilS, nilS], bFd f, .row 1 true 8 (L.map dAr), bPl x.1], (⟨[110, 111, 110, 101], []⟩, p1, 0), ⟨by dsimp only; omega, by dsimp only; omega, by dsimp only; omega, by dsimp only; omega⟩, ?_⟩
        refine wG ?_
        refine ⟨Meet.mk rfl rfl (⟨WkO.rfl, WkO.rfl, WkO.rfl, WkO.rfl, WkO.rfl, WkO.rfl, .inr (WkL.cons Wk.rfl (WkL.cons (Wk.nil 1) WkL.nil)), trivial⟩) ⟨Wk.rfl, trivial⟩ rfl, ?_⟩
        rintro ⟨q, p2, j⟩ ⟨j0, j1, j2, j3⟩
        dsimp only at j0 j1 j2 j3
        refine wG ?_
        refine brG1 (fun h4 => ?_) (fun h4 => ?_)
        · refine ⟨_, _, WkL.rfl, WkOs.rfl, l, p2, last + 1, e, rfl, rfl, hl, by omega, by omega, he, ht, ?_⟩
          intro q2 u p3 hq hu g1 g2
          refine goG1 ?_
          (try (refine Req.mk i0 ?_; ((conv => (whnf)); (try (refine AnyG.skip ?_; (conv => (whnf)))))))
          refine ⟨_, hpx, ?_⟩
          rw [dPm_eq]
          refine wG ?_
          refine ⟨_, _, WkL.rfl, WkOs.rfl, u, pm.ty, 4, rfl, rfl, by omega, hu, ?_⟩
          refine agG1 ?_
          refine brG1 (fun h5 => ?_) (fun h5 => ?_)
          · refine goG1 ?_
            refine ⟨(q2, p3, j + 1), ⟨by dsimp only; omega, by dsimp only; omega, by dsimp only; omega, by dsimp only; omega⟩, by dsimp only; omega, [], Meet.mk rfl rfl WkOs.rfl ⟨Wk.rfl, trivial⟩ rfl⟩
          · refine goG1 ?_
            refine ⟨(q, p3, j + 1), ⟨by dsimp only; omega, by dsimp only; omega, by dsimp only; omega, by dsimp only; omega⟩, by dsimp only; omega, [], Meet.mk rfl rfl WkOs.rfl ⟨Wk.rfl, trivial⟩ rfl⟩
        · refine goG1 ?_
          left
          refine wG ?_
          refine goG1 ?_
          refine ⟨(L ++ [⟨true, q, xp0⟩], p2, i + 1), ⟨by dsimp only; omega, by dsimp only; omega, by simp; omega, by dsimp only; omega, by dsimp only; omega⟩, by dsimp only; omega, [], Meet.mk rfl rfl ?_ ⟨Wk.rfl, trivial⟩ rfl⟩
          refine ⟨WkO.rfl, WkO.rfl, WkO.rfl, WkO.rfl, WkO.rfl, .inr ⟨rfl, rfl, rfl, rows_app rfl ?_⟩, trivial⟩
          exact DWL.cons DW.rfl (DWL.cons DW.rfl (DWL.cons DW.rfl (DWL.cons DW.rfl (DWL.cons DW.rfl (DWL.cons DW.rfl (DWL.cons (DW.nil 1) (DWL.cons (DW.nil 5) DWL.nil)))))))
    · refine goG1 ?_
      refine endK ⟨[], ⟨rfl, rfl⟩, ?_⟩
      refine wG ?_
      refine ⟨_, _, ?_, WkOs.rfl, hQ (.mk 4 nm pl0 pl0 xp0 f.name L [] []) p1 ⟨fun m => StB_nil m _ _ _ _ _ _ _, by simp [cntS]⟩ (by omega) (by omega)⟩
      repeat' (first
        | exact Wk.rfl
        | exact WkL.rfl
        | exact WkOs.rfl
        | exact DWRows.rfl
        | exact Wk.nil _
        | exact DWL.rfl
        | exact DW.rfl
        | exact DW.nil _
        | exact DW.nilf _
        | exact DW.sf
        | refine Wk.agg ?_
        | refine Wk.tup ?_
        | refine WkL.cons ?_ ?_
        | refine Wk.d ?_
        | refine DWL.cons ?_ ?_
        | refine DW.sf.trans (DW.sl ?_)
        | refine DW.sl ?_
        | refine DW.sff ?_
        | exact WkL.nil
        | exact trivial
        | exact DWRows.rfl_of (by simp [Function.comp_def, Ty.kids, Ty.kids_mk])
        )

/-- (*l71Mk).pick -/
def S_s_l71Mk_pick : Spec := fun args O Q => ∃ (l : List UInt8) (p last : Int) (e : En), args = [.ptr 0 0] ∧ O = oMk l p e last ∧ l.length ≤ 2000 ∧ 0 ≤ p ∧ p + 10000 ≤ 1000000000 ∧ 0 ≤ last ∧ last < 4100 ∧ EnOk e ∧ TyV e.vars ∧
  ∀ (s : St) (p' : Int), ((∀ m, StB m s) ∧ cntS s ≤ 1) → p ≤ p' → p' ≤ p + 5000 → Q (aSt s) (oMk l p' e (last + 1))
theorem v_s_l71Mk_pick {B : World} : Valid PG B s_l71Mk_pick S_s_l71Mk_pick := by
  refine valid_of (Γ := [(s_l71Mk_name, ⟨[], S_s_l71Mk_name⟩), (s_l71Mk_place, ⟨[], S_s_l71Mk_place⟩), (s_l1Same, ⟨[], S_s_l1Same 5⟩), (s_l71Mk_expr, ⟨[], S_s_l71Mk_expr 5⟩), (s_l3Meet, ⟨[], S_s_l3Meet⟩)]) wide tok (((((AllValid.nil.cons v_s_l3Meet).cons (v_s_l71Mk_expr 5)).cons (v_s_l1Same 5)).cons v_s_l71Mk_place).cons v_s_l71Mk_name) g_s_l71Mk_pick rfl rfl ?_
  rintro _ _ Q ⟨l, p, last, e, rfl, rfl, hl, h0, hp, hl0, hl1, he, ht, hQ⟩
  refine wG ?_
  refine ⟨_, _, WkL.rfl, WkOs.rfl, l, p, last, e, rfl, rfl, hl0, hl1, ?_⟩
  intro nm
  refine goG1 ?_
  refine ⟨_, _, (WkL.cons Wk.rfl (WkL.cons (Wk.agg (WkL.cons (Wk.nil 1) WkL.nil)) (WkL.cons Wk.rfl WkL.nil))), WkOs.rfl, l, p, last + 1, e, .mk [], 2, rfl, rfl, hl, by omega, by omega, by omega, by omega, by show p + 200 * 4 + 400 ≤ (1000000000 : Int); omega, he, ht, rfl, ?_⟩
  intro x p1 _ g1 g2
  have g2 : p1 ≤ p + 200 * 4 - 100 := g2
  refine goG1 ?_
  refine ⟨_, _, WkL.rfl, WkOs.rfl, l, p1, last + 1, e, rfl, rfl, hl, by omega, by omega, he, ht, ?_⟩
  intro a t p2 ha hta g3 g4
  refine goG1 ?_
  refine ⟨[], Pl × Int × Int, fun x => 0 ≤ x.2.2 ∧ x.2.2 ≤ 8 ∧ p2 ≤ x.2.1 ∧ x.2.1 ≤ p2 + 20 * x.2.2, fun x => (8 - x.2.2).toNat, fun x => [(6, iv x.2.2)], fun y => oMk l y.2.1 e (last + 1) ++ [bSt0, .cells [iv 6, sv nm, sv a.name, .d (.sl 1 (a.path.map dI)), sv y.1.name, .d (.sl 1 (y.1.path.map dI)), iv x.kind, iv x.num, sv x.pl.name, .d (.sl 1 (x.pl.path.map dI)), .d (.sl 5 (x.kids.map dXp)), sv [], nilS, nilS, nilS], bPl a, bTy t], (a, p2, 0), ⟨by dsimp only; omega, by dsimp only; omega, by dsimp only; omega, by dsimp only; omega⟩, ?_⟩
  refine wG ?_
  refine ⟨Meet.mk rfl rfl WkOs.rfl ⟨Wk.rfl, trivial⟩ rfl, ?_⟩
  rintro ⟨q, p3, j⟩ ⟨j0, j1, j2, j3⟩
  dsimp only at j0 j1 j2 j3
  refine wG ?_
  refine brG1 (fun h4 => ?_) (fun h4 => ?_)
  · refine ⟨_, _, WkL.rfl, WkOs.rfl, l, p3, last + 1, e, rfl, rfl, hl, by omega, by omega, he, ht, ?_⟩
    intro b u p4 hb hu g5 g6
    refine goG1 ?_
    refine ⟨_, _, WkL.rfl, WkOs.rfl, t, u, 4, rfl, rfl, by omega, hta, ?_⟩
    refine goG1 ?_
    refine brG1 (fun h5 => ?_) (fun h5 => ?_)
    · refine ⟨_, _, WkL.rfl, WkOs.rfl, a, b, rfl, rfl, by omega, ?_⟩
      refine goG1 ?_
      refine ⟨fun h6 => ?_, fun h6 => ?_⟩
      · refine wG ?_
        refine goG1 ?_
        refine ⟨(b, p4, j + 1), ⟨by dsimp only; omega, by dsimp only; omega, by dsimp only; omega, by dsimp only; omega⟩, by dsimp only; omega, [], Meet.mk rfl rfl WkOs.rfl ⟨Wk.rfl, trivial⟩ rfl⟩
      · refine wG ?_
        refine goG1 ?_
        refine ⟨(q, p4, j + 1), ⟨by dsimp only; omega, by dsimp only; omega, by dsimp only; omega, by dsimp only; omega⟩, by dsimp only; omega, [], Meet.mk rfl rfl WkOs.rfl ⟨Wk.rfl, trivial⟩ rfl⟩
    · refine goG1 ?_
      refine ⟨(q, p4, j + 1), ⟨by dsimp only; omega, by dsimp only; omega, by dsimp only; omega, by dsimp only; omega⟩, by dsimp only; omega, [], Meet.mk rfl rfl WkOs.rfl ⟨Wk.rfl, trivial⟩ rfl⟩
  · refine goG1 ?_
    refine endK ⟨[], ⟨rfl, rfl⟩, ?_⟩
    refine wG ?_
    refine ⟨_, _, ?_, WkOs.rfl, hQ (.mk 6 nm a q x [] [] [] []) p3 ⟨fun m => StB_nil m _ _ _ _ _ _ _, by simp [cntS]⟩ (by omega) (by omega)⟩
    repeat' (first
      | exact Wk.rfl
      | exact WkL.rfl
      | exact WkOs.rfl
      | exact DWRows.rfl
      | exact Wk.nil _
      | exact DWL.rfl
      | exact DW.rfl
      | exact DW.nil _
      | exact DW.nilf _
      | exact DW.sf
      | refine Wk.agg ?_
      | refine Wk.tup ?_
      | refine WkL.cons ?_ ?_
      | refine Wk.d ?_
      | refine DWL.cons ?_ ?_
      | refine DW.sf.trans (DW.sl ?_)
      | refine DW.sl ?_
      | refine DW.sff ?_
      | exact WkL.nil
      | exact trivial
      | exact DWRows.rfl_of (by simp [Function.comp_def, Ty.kids, Ty.kids_mk])
      )
end Ab
