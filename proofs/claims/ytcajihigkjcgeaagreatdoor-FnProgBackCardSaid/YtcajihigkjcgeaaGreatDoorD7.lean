/- The draws, seventh part: functions. -/
import Derived.Test.YtcajihigkjcgeaaGreatDoorSyn
import Derived.Test.YtcajihigkjcgeaaGreatDoorD6
set_option linter.all false
namespace Ab
open Go Go.Proofs
set_option maxRecDepth 10000
set_option maxHeartbeats 4000000
set_option linter.all false

theorem fold_code : ∀ (ps : List Pm) (e : En), e.code = 0 → (e.names ++ ps.map Pm.name).Nodup → (ps.foldl (fun e x => e.add (pmV x)) e).code = 0
  | [], e, h, _ => h
  | x :: ps, e, h, hn => by
    simp only [List.foldl_cons]
    have hx : x.name ∉ e.names := by
      intro hm
      rw [List.map_cons, List.nodup_append] at hn
      exact hn.2.2 _ hm _ (by simp) rfl
    refine fold_code ps _ ?_ ?_
    · show (if e.names.contains (pmV x).name = true then (e.fail 2).code else e.code) = 0
      rw [if_neg (by simpa [pmV] using hx)]
      exact h
    · simpa [En.add, pmV] using hn
theorem startP_code {p : Pr} {fn : Int} {ps : List Pm} (h : (ps.map Pm.name).Nodup) : (En.startP p fn ps).code = 0 := fold_code ps _ rfl (by simpa using h)
def lit4 : List Bs := [[112], [113], [114], [115]]
structure FdG (f : Fd) : Prop where
  ok : FdOk f
  body : ∀ s ∈ f.body, StF 3 s
  len : f.body.length ≤ 6
/-- a function's cells, all nothing -/
abbrev bFd0 : Obj := .cells [sv [], nilS, bv false, nilS, nilS, iv 0, iv 0, sv [], nilS, nilS, sv [], nilS]
abbrev fd0 (nm : Bs) (ps : List Pm) : Fd := ⟨nm, ps, false, .mk [], [], xp0, pl0⟩
/-- l71Fn -/
def S_s_l71Fn : Spec := fun args O Q => ∃ (l : List UInt8) (p : Int) (P : Pr), args = [.ptr 0 0, aPr P] ∧ O = [oRd l p] ∧ l.length ≤ 2000 ∧ 0 ≤ p ∧ p + 40000000 ≤ 1000000000 ∧ P.length ≤ 4 ∧ (∀ f ∈ P, FdG f) ∧
  ∀ (f : Fd) (p' : Int), FdG f → p ≤ p' → p' ≤ p + 40000000 → Q (aFd f) [oRd l p']
theorem v_s_l71Fn {B : World} : Valid PG B s_l71Fn S_s_l71Fn := by
  refine valid_of (Γ := [(s_l6Rd_pick, ⟨[], S_s_l6Rd_pick⟩), (s_l71Type, ⟨[], S_s_l71Type 4⟩), (s_l3Start, ⟨[], S_startF⟩), (s_l71Mk_body, ⟨[], S_s_l71Mk_body 4⟩), (s_l71Mk_place, ⟨[], S_s_l71Mk_place⟩), (s_l3Env_copy, ⟨[], S_copyD⟩), (s_l3Env_use, ⟨[], S_s_l3Env_use⟩), (s_l3Env_outside, ⟨[], S_s_l3Env_outside 20000⟩), (s_l71Mk_expr, ⟨[], S_s_l71Mk_expr 5⟩), (s_l3Env_expr, ⟨[], S_s_l3Env_expr 100⟩), (s_l3Env_same, ⟨[], S_s_l3Env_same⟩)]) wide tok
    (((((((((((AllValid.nil.cons v_s_l3Env_same).cons (v_s_l3Env_expr 100)).cons (v_s_l71Mk_expr 5)).cons (v_s_l3Env_outside 20000)).cons v_s_l3Env_use).cons v_copyD).cons v_s_l71Mk_place).cons (v_draws 4).2).cons v_startF).cons (v_s_l71Type 4)).cons v_s_l6Rd_pick) g_s_l71Fn rfl rfl ?_
  rintro _ _ Q ⟨l, p, P, rfl, rfl, hl, h0, hp, hPl, hP, hQ⟩
  have hx5 : ∀ {k : Int}, 0 ≤ k → k < 5 → ∃ n : Bs, (([([102, 97] : Bs), [102, 98], [102, 99], [102, 100], [102, 101]]).map fun s => [DV.s s])[k.toNat]? = some [.s n] := fun {k} h0 h1 => by
    have : k.toNat < 5 := by omega
    match h : k.toNat, this with
    | 0, _ => exact ⟨_, rfl⟩
    | 1, _ => exact ⟨_, rfl⟩
    | 2, _ => exact ⟨_, rfl⟩
    | 3, _ => exact ⟨_, rfl⟩
    | 4, _ => exact ⟨_, rfl⟩
  have hx4 : ∀ {k : Int}, 0 ≤ k → k < 4 → ∃ n : Bs, (lit4.map fun s => [DV.s s])[k.toNat]? = some [.s n] ∧ lit4[k.toNat]? = some n := fun {k} h0 h1 => by
    have : k.toNat < 4 := by omega
    match h : k.toNat, this with
    | 0, _ => exact ⟨_, rfl, rfl⟩
    | 1, _ => exact ⟨_, rfl, rfl⟩
    | 2, _ => exact ⟨_, rfl, rfl⟩
    | 3, _ => exact ⟨_, rfl, rfl⟩
  obtain ⟨nm, hnm⟩ := hx5 (k := ((P.map dFd).length : Int)) (by omega) (by simp; omega)
  have hB4 : Bd 4 = 31 := by decide
  refine wG ?_
  left
  refine wG ?_
  refine goG1 ?_
  refine ⟨_, hnm, ?_⟩
  refine wG ?_
  refine goG1 ?_
  refine ⟨_, _, WkL.rfl, WkOs.rfl, l, p, 3, hl, h0, by omega, by omega, rfl, rfl, ?_⟩
  intro k _ hk
  obtain ⟨hk0, hk1⟩ := hk (by omega)
  refine goG1 ?_
  refine ⟨[.cell 3 1 3], List Pm × Int × Int, fun x => 0 ≤ x.2.2 ∧ x.2.2 ≤ 1 + k ∧ (x.1.length : Int) = x.2.2 ∧ (∀ y ∈ x.1, tyOk 4 y.ty = true) ∧ x.1.map Pm.name = lit4.take x.2.2.toNat ∧ p + 1 ≤ x.2.1 ∧ x.2.1 ≤ p + 1 + 32 * x.2.2, fun x => (1 + k - x.2.2).toNat, fun x => [(8, iv x.2.2)], fun x => [oRd l x.2.1, .cells [.d (.sl 12 (P.map dFd))], bFd0, .cells [sv nm, .row 4 1, bv false, nilS, nilS, iv 0, iv 0, sv [], nilS, nilS, sv [], nilS], .row 1 true 3 (x.1.map dPm)], ([], p + 1, 0), ⟨by dsimp only; omega, by dsimp only; omega, by simp, by simp, rfl, by dsimp only; omega, by dsimp only; omega⟩, ?_⟩
  refine wG ?_
  refine ⟨Meet.mk rfl rfl WkOs.rfl ⟨Wk.rfl, trivial⟩ rfl, ?_⟩
  rintro ⟨ps, p1, i⟩ ⟨i0, i1, i2, i3, i6, i4, i5⟩
  dsimp only at i0 i1 i2 i3 i4 i5 i6
  refine wG ?_
  refine br_dec (fun h1 => ?_) (fun h1 => ?_)
  · have h1 : i < 1 + k := h1
    obtain ⟨pn, hpn, hpl⟩ := hx4 (k := i) (by omega) (by omega)
    refine wG ?_
    refine goG1 ?_
    refine ⟨_, hpn, ?_⟩
    refine wG ?_
    refine goG1 ?_
    refine ⟨_, _, WkL.rfl, WkOs.rfl, l, p1, 3, hl, by omega, by omega, by omega, rfl, rfl, ?_⟩
    intro k2 _ hk2
    refine agG1 ?_
    refine ⟨_, _, WkL.rfl, WkOs.rfl, l, p1 + 1, 3, hl, by omega, (by rw [hB4]; omega), by omega, by omega, by omega, rfl, rfl, ?_⟩
    intro t p2 htt g1 g2
    rw [hB4] at g2
    have htt : tyOk 4 t = true := tyOk_mono (by decide) htt
    refine agG1 ?_
    have e3 : (i + 1).toNat = i.toNat + 1 := by omega
    refine ⟨(ps ++ [⟨pn, decide (k2 > 0), t⟩], p2, i + 1), ⟨by dsimp only; omega, by dsimp only; omega, by simp; omega, ?_, ?_, by dsimp only; omega, by dsimp only; omega⟩, by dsimp only; omega, [], Meet.mk rfl rfl ?_ ⟨Wk.rfl, trivial⟩ rfl⟩
    · intro y hy
      rcases List.mem_append.1 hy with hy | hy
      · exact i3 y hy
      · simp at hy; subst hy; exact htt
    · dsimp only
      rw [List.map_append, i6, e3, List.take_add_one, hpl]; rfl
    · refine ⟨WkO.rfl, WkO.rfl, WkO.rfl, WkO.rfl, .inr ⟨rfl, rfl, rfl, rows_app rfl ?_⟩, trivial⟩
      exact DWL.cons DW.rfl (DWL.cons DW.rfl (DWL.cons DW.sf DWL.nil))
  · conv => (whnf)
    refine AnyG.mk [.data 4] ?_
    refine wG ?_
    have hpsl : ps.length ≤ 3 := by omega
    have hnd : (ps.map Pm.name).Nodup := by
      rw [i6]
      have : lit4.Nodup := by decide
      exact this.sublist (List.take_sublist _ _)
    refine ⟨⟨.inl rfl, by simp [maxRow]; omega⟩, ?_⟩
    refine wG ?_
    refine goG1 ?_
    have fok : FdOk (fd0 nm ps) := ⟨by dsimp only; omega, i3, rfl⟩
    have fns : FnsOk (P ++ [fd0 nm ps]) := fun g hg => by
      rcases List.mem_append.1 hg with hg | hg
      · exact (hP g hg).ok
      · simp at hg; subst hg; exact fok
    refine ⟨_, _, WkL.cons (Wk.agg (WkL.cons (Wk.d (DW.sl (ys := (P ++ [fd0 nm ps]).map dFd) ?_)) WkL.nil)) (WkL.cons (Wk.of_eq (y := iv (P.length : Nat)) (by show AV.d (DV.i .i64 ((P.map dFd).length : Int)) = _; rw [List.length_map])) WkL.nil), WkOs.rfl, P ++ [fd0 nm ps], P.length, (fd0 nm ps), rfl, rfl, by simp, by dsimp only; omega, ?_⟩
    · exact rows_app rfl (DWL.cons DW.rfl (DWL.cons DW.rfl (DWL.cons DW.rfl (DWL.cons (DW.nil 1) (DWL.cons (DW.nil 15) (DWL.cons DW.rfl (DWL.cons DW.rfl (DWL.cons DW.rfl (DWL.cons (DW.nil 1) (DWL.cons (DW.nil 5) (DWL.cons DW.rfl (DWL.cons (DW.nil 1) DWL.nil))))))))))))
    obtain ⟨z1, z2, z3, z4⟩ := startP_sizes (P ++ [fd0 nm ps]) P.length ps
    have mk0 : MkOk (En.startP (P ++ [fd0 nm ps]) P.length ps) 3 0 :=
      ⟨EnOk.start (by omega), Gd.start i3, startP_code hnd, by rw [z3]; exact fns, by rw [z4]; omega, by rw [z4, z3]; simp; omega, by rw [z3]; simp; omega, by rw [z1]; simp; omega, by rw [z2]; omega⟩
    dsimp only
    generalize En.startP (P ++ [fd0 nm ps]) P.length ps = e0 at *
    refine goG1 ?_
    refine ⟨_, _, WkL.rfl, WkOs.rfl, l, p1, 6, hl, by omega, by omega, by omega, rfl, rfl, ?_⟩
    intro k3 _ hk3
    obtain ⟨hk30, hk31⟩ := hk3 (by omega)
    have m1 : 3 * (1 + k3) * (6400 * 16 ^ 2) ≤ 18 * (6400 * 16 ^ 2) := Int.mul_le_mul_of_nonneg_right (by omega) (by omega)
    have m2 : 3 * (1 + k3) * 15 ^ 2 ≤ 18 * 15 ^ 2 := Int.mul_le_mul_of_nonneg_right (by omega) (by omega)
    have x16 : (16 : Int) ^ 2 = 256 := by decide
    have x15 : (15 : Int) ^ 2 = 225 := by decide
    rw [x16] at m1
    rw [x15] at m2
    refine goG1 ?_
    refine ⟨_, _, WkL.rfl, WkOs.rfl, l, p1 + 1, 0, 1 + k3, 3, e0, 2, rfl, rfl, hl, by omega, rfl, by omega, by omega, by omega, by omega, by rw [x16]; omega, by omega, by rw [x15]; omega, mk0, ?_⟩
    intro L e1 p2 last hL1 hL2 hL3 mk1 q1 q2 g1 g2 g3 g4
    rw [x16] at g2
    rw [x15] at g4
    have hfn1 := mk1.fns
    have he1 := mk1.ok
    have ht1 := mk1.gd.ty
    have hc1 := mk1.code
    have hv1 := he1.vars
    clear mk0
    refine goG1 ?_
    refine ⟨_, _, WkL.rfl, WkOs.rfl, l, p2, 2, hl, by omega, by omega, by omega, rfl, rfl, ?_⟩
    intro k4 _ hk4
    refine goG1 ?_
    refine brG1 (fun h2 => ?_) (fun h2 => ?_)
    · refine ⟨[], Int × Int, fun x => 0 ≤ x.2 ∧ x.2 ≤ 8 ∧ p2 + 1 ≤ x.1 ∧ x.1 ≤ p2 + 1 + 20 * x.2, fun x => (8 - x.2).toNat, fun x => [(11, iv x.2)], fun x => [oRd l x.1, .cells [.d (.sl 12 (P.map dFd))], bFd0, .cells [sv nm, .d (.sl 3 (ps.map dPm)), bv false, nilS, .d (.sl 15 (L.map dSt)), iv 0, iv 0, sv [], nilS, nilS, sv [], nilS], .row 1 false 3 (ps.map dPm), .row 1 false 12 (P.map dFd ++ [[.s nm, .sl 3 (ps.map dPm), .b false, .v (.slice none 0 0), .v (.slice none 0 0), .i .i64 0, .i .i64 0, .s [], .v (.slice none 0 0), .v (.slice none 0 0), .s [], .v (.slice none 0 0)]]), .cells [.row 5 1], .cells [.ptr 0 0, .da (cEn e1), iv last]], (p2 + 1, 0), ⟨by dsimp only; omega, by dsimp only; omega, by dsimp only; omega, by dsimp only; omega⟩, ?_⟩
      refine wG ?_
      refine ⟨Meet.mk rfl rfl WkOs.rfl ⟨Wk.rfl, trivial⟩ rfl, ?_⟩
      rintro ⟨p3, j⟩ ⟨j0, j1, j2, j3⟩
      dsimp only at j0 j1 j2 j3
      refine wG ?_
      refine brG1 (fun h3 => ?_) (fun h3 => ?_)
      · refine ⟨_, _, WkL.rfl, WkOs.rfl, l, p3, last, e1, rfl, rfl, hl, by omega, by omega, he1, ht1, ?_⟩
        intro q u p4 hq hu g5 g6
        refine goG1 ?_
        refine ⟨_, _, WkL.rfl, WkOs.rfl, e1, rfl, rfl, he1, ?_⟩
        refine goG1 ?_
        refine ⟨_, _, WkL.rfl, WkOs.rfl, e1, q, rfl, rfl, he1, by omega, ?_⟩
        have u1 := he1.use q
        have u2 := mk1.gd.use q
        generalize (e1.use q).1 = e2 at *
        refine goG1 ?_
        refine brG1 (fun h4 => ?_) (fun h4 => ?_)
        · have h4 : e2.code = 0 := h4
          have u3 := u1.vars
          refine ⟨_, _, WkL.rfl, WkOs.rfl, e2, q, e2.vars.length, rfl, rfl, u1, u2.acy h4, by omega, fun i h => findV_lt h, ?_⟩
          refine goG1 ?_
          refine ⟨fun h5 => ?_, fun h5 => ?_⟩
          · refine wG ?_
            refine goG1 ?_
            refine endK ⟨[], ⟨rfl, rfl⟩, ?_⟩
            refine wG ?_
            refine ⟨_, _, ?_, WkOs.rfl, hQ ⟨nm, ps, true, u, L, xp0, q⟩ p4 ⟨⟨by dsimp only; omega, i3, hu⟩, hL1, by dsimp only; omega⟩ (by omega) (by omega)⟩
            repeat' (first
              | exact Wk.rfl
              | exact WkL.rfl
              | exact WkOs.rfl
              | exact DWRows.rfl
              | exact Wk.nil _
              | exact DWL.rfl
              | exact DW.rfl
              | exact DW.nil _
              | exact DW.nilf _
              | exact DW.sf
              | refine Wk.agg ?_
              | refine Wk.tup ?_
              | refine WkL.cons ?_ ?_
              | refine Wk.d ?_
              | refine DWL.cons ?_ ?_
              | refine DW.sf.trans (DW.sl ?_)
              | refine DW.sl ?_
              | refine DW.sff ?_
              | exact WkL.nil
              | exact trivial
              | exact DWRows.rfl_of (by simp [Function.comp_def, Ty.kids, Ty.kids_mk])
              )
          · refine wG ?_
            refine goG1 ?_
            refine ⟨(p4, j + 1), ⟨by dsimp only; omega, by dsimp only; omega, by dsimp only; omega, by dsimp only; omega⟩, by dsimp only; omega, [], Meet.mk rfl rfl WkOs.rfl ⟨Wk.rfl, trivial⟩ rfl⟩
        · refine goG1 ?_
          refine ⟨(p4, j + 1), ⟨by dsimp only; omega, by dsimp only; omega, by dsimp only; omega, by dsimp only; omega⟩, by dsimp only; omega, [], Meet.mk rfl rfl WkOs.rfl ⟨Wk.rfl, trivial⟩ rfl⟩
      · refine ⟨[], Ty × Xp × Int × Int, fun x => 0 ≤ x.2.2.2 ∧ x.2.2.2 ≤ 6 ∧ p3 ≤ x.2.2.1 ∧ x.2.2.1 ≤ p3 + 2000 * x.2.2.2, fun x => (6 - x.2.2.2).toNat, fun x => [(15, iv x.2.2.2)], fun x => [oRd l x.2.2.1, .cells [.d (.sl 12 (P.map dFd))], bFd0, .cells [sv nm, .d (.sl 3 (ps.map dPm)), bv false, .d (.sl 1 (x.1.kids.map dTy)), .d (.sl 15 (L.map dSt)), iv x.2.1.kind, iv x.2.1.num, sv x.2.1.pl.name, .d (.sl 1 (x.2.1.pl.path.map dI)), .d (.sl 5 (x.2.1.kids.map dXp)), sv [], nilS], .row 1 false 3 (ps.map dPm), .row 1 false 12 (P.map dFd ++ [[.s nm, .sl 3 (ps.map dPm), .b false, .v (.slice none 0 0), .v (.slice none 0 0), .i .i64 0, .i .i64 0, .s [], .v (.slice none 0 0), .v (.slice none 0 0), .s [], .v (.slice none 0 0)]]), .cells [.row 5 1], .cells [.ptr 0 0, .da (cEn e1), iv last]], (.mk [], xp0, p3, 0), ⟨by dsimp only; omega, by dsimp only; omega, by dsimp only; omega, by dsimp only; omega⟩, ?_⟩
        refine wG ?_
        refine ⟨Meet.mk rfl rfl (⟨WkO.rfl, WkO.rfl, WkO.rfl, .inr (WkL.cons Wk.rfl (WkL.cons Wk.rfl (WkL.cons Wk.rfl (WkL.cons (Wk.nil 1) (WkL.cons Wk.rfl (WkL.cons Wk.rfl (WkL.cons Wk.rfl (WkL.cons Wk.rfl (WkL.cons (Wk.nil 1) (WkL.cons (Wk.nil 5) WkL.rfl)))))))))), WkO.rfl, WkO.rfl, WkO.rfl, WkO.rfl, trivial⟩) ⟨Wk.rfl, trivial⟩ rfl, ?_⟩
        rintro ⟨T, X, p4, j⟩ ⟨j0, j1, j2, j3⟩
        dsimp only at j0 j1 j2 j3
        refine wG ?_
        refine brG1 (fun h6 => ?_) (fun h6 => ?_)
        · refine ⟨_, _, WkL.rfl, WkOs.rfl, l, p4, 3, hl, by omega, (by rw [hB4]; omega), by omega, by omega, by omega, rfl, rfl, ?_⟩
          intro T2 p5 hT2 g7 g8
          rw [hB4] at g8
          have hT2 : tyOk 4 T2 = true := tyOk_mono (by decide) hT2
          refine goG1 ?_
          refine ⟨_, _, (WkL.cons Wk.rfl (WkL.cons (Wk.agg (WkL.cons (Wk.d DW.sf) WkL.nil)) (WkL.cons Wk.rfl WkL.nil))), WkOs.rfl, l, p5, last, e1, T2, 3, rfl, rfl, hl, by omega, by omega, by omega, by omega, by show p5 + 200 * 8 + 400 ≤ (1000000000 : Int); omega, he1, ht1, hT2, ?_⟩
          intro X2 p6 hX2 g9 g10
          have g10 : p6 ≤ p5 + 200 * 8 - 100 := g10
          refine goG1 ?_
          refine ⟨_, _, WkL.rfl, WkOs.rfl, e1, rfl, rfl, he1, ?_⟩
          refine goG1 ?_
          refine ⟨_, _, WkL.rfl, WkOs.rfl, e1, X2, (3 : Int).toNat, rfl, rfl, he1, by decide, hX2, ?_⟩
          have v1 := EnOk.expr he1 hX2
          refine goG1 ?_
          refine ⟨_, _, (WkL.cons Wk.rfl (WkL.cons Wk.rfl (WkL.cons (Wk.agg (WkL.cons (Wk.d DW.sf) WkL.nil)) WkL.nil))), WkOs.rfl, (e1.expr X2).1, (e1.expr X2).2, T2, rfl, rfl, v1.2, ?_⟩
          generalize (e1.expr X2).1.same (e1.expr X2).2 T2 = e2 at *
          refine goG1 ?_
          refine brG1 (fun h7 => ?_) (fun h7 => ?_)
          · refine goG1 ?_
            refine endK ⟨[], ⟨rfl, rfl⟩, ?_⟩
            refine wG ?_
            refine ⟨_, _, ?_, WkOs.rfl, hQ ⟨nm, ps, false, T2, L, X2, pl0⟩ p6 ⟨⟨by dsimp only; omega, i3, hT2⟩, hL1, by dsimp only; omega⟩ (by omega) (by omega)⟩
            repeat' (first
              | exact Wk.rfl
              | exact WkL.rfl
              | exact WkOs.rfl
              | exact DWRows.rfl
              | exact Wk.nil _
              | exact DWL.rfl
              | exact DW.rfl
              | exact DW.nil _
              | exact DW.nilf _
              | exact DW.sf
              | refine Wk.agg ?_
              | refine Wk.tup ?_
              | refine WkL.cons ?_ ?_
              | refine Wk.d ?_
              | refine DWL.cons ?_ ?_
              | refine DW.sf.trans (DW.sl ?_)
              | refine DW.sl ?_
              | refine DW.sff ?_
              | exact WkL.nil
              | exact trivial
              | exact DWRows.rfl_of (by simp [Function.comp_def, Ty.kids, Ty.kids_mk])
              )
          · refine goG1 ?_
            refine ⟨(T2, X2, p6, j + 1), ⟨by dsimp only; omega, by dsimp only; omega, by dsimp only; omega, by dsimp only; omega⟩, by dsimp only; omega, [], Meet.mk rfl rfl ?_ ⟨Wk.rfl, trivial⟩ rfl⟩
            refine ⟨WkO.rfl, WkO.rfl, WkO.rfl, .inr (WkL.cons Wk.rfl (WkL.cons Wk.rfl (WkL.cons Wk.rfl (WkL.cons (Wk.d DW.sf) WkL.rfl)))), WkO.rfl, WkO.rfl, WkO.rfl, WkO.rfl, trivial⟩
        · refine goG1 ?_
          refine endK ⟨[], ⟨rfl, rfl⟩, ?_⟩
          refine wG ?_
          refine ⟨_, _, ?_, WkOs.rfl, hQ ⟨nm, ps, false, .mk [], L, .mk 1 7 pl0 [], pl0⟩ p4 ⟨⟨by dsimp only; omega, i3, rfl⟩, hL1, by dsimp only; omega⟩ (by omega) (by omega)⟩
          repeat' (first
            | exact Wk.rfl
            | exact WkL.rfl
            | exact WkOs.rfl
            | exact DWRows.rfl
            | exact Wk.nil _
            | exact DWL.rfl
            | exact DW.rfl
            | exact DW.nil _
            | exact DW.nilf _
            | exact DW.sf
            | refine Wk.agg ?_
            | refine Wk.tup ?_
            | refine WkL.cons ?_ ?_
            | refine Wk.d ?_
            | refine DWL.cons ?_ ?_
            | refine DW.sf.trans (DW.sl ?_)
            | refine DW.sl ?_
            | refine DW.sff ?_
            | exact WkL.nil
            | exact trivial
            | exact DWRows.rfl_of (by simp [Function.comp_def, Ty.kids, Ty.kids_mk])
            )
    · refine ⟨[], Ty × Xp × Int × Int, fun x => 0 ≤ x.2.2.2 ∧ x.2.2.2 ≤ 6 ∧ p2 + 1 ≤ x.2.2.1 ∧ x.2.2.1 ≤ p2 + 1 + 2000 * x.2.2.2, fun x => (6 - x.2.2.2).toNat, fun x => [(15, iv x.2.2.2)], fun x => [oRd l x.2.2.1, .cells [.d (.sl 12 (P.map dFd))], bFd0, .cells [sv nm, .d (.sl 3 (ps.map dPm)), bv false, .d (.sl 1 (x.1.kids.map dTy)), .d (.sl 15 (L.map dSt)), iv x.2.1.kind, iv x.2.1.num, sv x.2.1.pl.name, .d (.sl 1 (x.2.1.pl.path.map dI)), .d (.sl 5 (x.2.1.kids.map dXp)), sv [], nilS], .row 1 false 3 (ps.map dPm), .row 1 false 12 (P.map dFd ++ [[.s nm, .sl 3 (ps.map dPm), .b false, .v (.slice none 0 0), .v (.slice none 0 0), .i .i64 0, .i .i64 0, .s [], .v (.slice none 0 0), .v (.slice none 0 0), .s [], .v (.slice none 0 0)]]), .cells [.row 5 1], .cells [.ptr 0 0, .da (cEn e1), iv last]], (.mk [], xp0, p2 + 1, 0), ⟨by dsimp only; omega, by dsimp only; omega, by dsimp only; omega, by dsimp only; omega⟩, ?_⟩
      refine wG ?_
      refine ⟨Meet.mk rfl rfl (⟨WkO.rfl, WkO.rfl, WkO.rfl, .inr (WkL.cons Wk.rfl (WkL.cons Wk.rfl (WkL.cons Wk.rfl (WkL.cons (Wk.nil 1) (WkL.cons Wk.rfl (WkL.cons Wk.rfl (WkL.cons Wk.rfl (WkL.cons Wk.rfl (WkL.cons (Wk.nil 1) (WkL.cons (Wk.nil 5) WkL.rfl)))))))))), WkO.rfl, WkO.rfl, WkO.rfl, WkO.rfl, trivial⟩) ⟨Wk.rfl, trivial⟩ rfl, ?_⟩
      rintro ⟨T, X, p4, j⟩ ⟨j0, j1, j2, j3⟩
      dsimp only at j0 j1 j2 j3
      refine wG ?_
      refine brG1 (fun h6 => ?_) (fun h6 => ?_)
      · refine ⟨_, _, WkL.rfl, WkOs.rfl, l, p4, 3, hl, by omega, (by rw [hB4]; omega), by omega, by omega, by omega, rfl, rfl, ?_⟩
        intro T2 p5 hT2 g7 g8
        rw [hB4] at g8
        have hT2 : tyOk 4 T2 = true := tyOk_mono (by decide) hT2
        refine goG1 ?_
        refine ⟨_, _, (WkL.cons Wk.rfl (WkL.cons (Wk.agg (WkL.cons (Wk.d DW.sf) WkL.nil)) (WkL.cons Wk.rfl WkL.nil))), WkOs.rfl, l, p5, last, e1, T2, 3, rfl, rfl, hl, by omega, by omega, by omega, by omega, by show p5 + 200 * 8 + 400 ≤ (1000000000 : Int); omega, he1, ht1, hT2, ?_⟩
        intro X2 p6 hX2 g9 g10
        have g10 : p6 ≤ p5 + 200 * 8 - 100 := g10
        refine goG1 ?_
        refine ⟨_, _, WkL.rfl, WkOs.rfl, e1, rfl, rfl, he1, ?_⟩
        refine goG1 ?_
        refine ⟨_, _, WkL.rfl, WkOs.rfl, e1, X2, (3 : Int).toNat, rfl, rfl, he1, by decide, hX2, ?_⟩
        have v1 := EnOk.expr he1 hX2
        refine goG1 ?_
        refine ⟨_, _, (WkL.cons Wk.rfl (WkL.cons Wk.rfl (WkL.cons (Wk.agg (WkL.cons (Wk.d DW.sf) WkL.nil)) WkL.nil))), WkOs.rfl, (e1.expr X2).1, (e1.expr X2).2, T2, rfl, rfl, v1.2, ?_⟩
        generalize (e1.expr X2).1.same (e1.expr X2).2 T2 = e2 at *
        refine goG1 ?_
        refine brG1 (fun h7 => ?_) (fun h7 => ?_)
        · refine goG1 ?_
          refine endK ⟨[], ⟨rfl, rfl⟩, ?_⟩
          refine wG ?_
          refine ⟨_, _, ?_, WkOs.rfl, hQ ⟨nm, ps, false, T2, L, X2, pl0⟩ p6 ⟨⟨by dsimp only; omega, i3, hT2⟩, hL1, by dsimp only; omega⟩ (by omega) (by omega)⟩
          repeat' (first
            | exact Wk.rfl
            | exact WkL.rfl
            | exact WkOs.rfl
            | exact DWRows.rfl
            | exact Wk.nil _
            | exact DWL.rfl
            | exact DW.rfl
            | exact DW.nil _
            | exact DW.nilf _
            | exact DW.sf
            | refine Wk.agg ?_
            | refine Wk.tup ?_
            | refine WkL.cons ?_ ?_
            | refine Wk.d ?_
            | refine DWL.cons ?_ ?_
            | refine DW.sf.trans (DW.sl ?_)
            | refine DW.sl ?_
            | refine DW.sff ?_
            | exact WkL.nil
            | exact trivial
            | exact DWRows.rfl_of (by simp [Function.comp_def, Ty.kids, Ty.kids_mk])
            )
        · refine goG1 ?_
          refine ⟨(T2, X2, p6, j + 1), ⟨by dsimp only; omega, by dsimp only; omega, by dsimp only; omega, by dsimp only; omega⟩, by dsimp only; omega, [], Meet.mk rfl rfl ?_ ⟨Wk.rfl, trivial⟩ rfl⟩
          refine ⟨WkO.rfl, WkO.rfl, WkO.rfl, .inr (WkL.cons Wk.rfl (WkL.cons Wk.rfl (WkL.cons Wk.rfl (WkL.cons (Wk.d DW.sf) WkL.rfl)))), WkO.rfl, WkO.rfl, WkO.rfl, WkO.rfl, trivial⟩
      · refine goG1 ?_
        refine endK ⟨[], ⟨rfl, rfl⟩, ?_⟩
        refine wG ?_
        refine ⟨_, _, ?_, WkOs.rfl, hQ ⟨nm, ps, false, .mk [], L, .mk 1 7 pl0 [], pl0⟩ p4 ⟨⟨by dsimp only; omega, i3, rfl⟩, hL1, by dsimp only; omega⟩ (by omega) (by omega)⟩
        repeat' (first
          | exact Wk.rfl
          | exact WkL.rfl
          | exact WkOs.rfl
          | exact DWRows.rfl
          | exact Wk.nil _
          | exact DWL.rfl
          | exact DW.rfl
          | exact DW.nil _
          | exact DW.nilf _
          | exact DW.sf
          | refine Wk.agg ?_
          | refine Wk.tup ?_
          | refine WkL.cons ?_ ?_
          | refine Wk.d ?_
          | refine DWL.cons ?_ ?_
          | refine DW.sf.trans (DW.sl ?_)
          | refine DW.sl ?_
          | refine DW.sff ?_
          | exact WkL.nil
          | exact trivial
          | exact DWRows.rfl_of (by simp [Function.comp_def, Ty.kids, Ty.kids_mk])
          )
end Ab
