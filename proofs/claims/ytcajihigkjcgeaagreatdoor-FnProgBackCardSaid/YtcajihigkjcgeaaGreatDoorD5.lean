/- The draws, fifth part: statements. -/
import Derived.Test.YtcajihigkjcgeaaGreatDoorSyn
import Derived.Test.YtcajihigkjcgeaaGreatDoorD4
set_option linter.all false
namespace Ab
open Go Go.Proofs
set_option maxRecDepth 10000
set_option maxHeartbeats 4000000
set_option linter.all false

def cS : Nat → Nat
  | 0 => 0
  | n + 1 => 1 + 5 * cS n
theorem cS_mono : ∀ {m n : Nat}, m ≤ n → cS m ≤ cS n
  | 0, n, _ => Nat.zero_le _
  | m + 1, n + 1, h => by have := cS_mono (m := m) (n := n) (by omega); simp only [cS]; omega
/-- what a state is, as statements are drawn so deep -/
structure MkOk (e : En) (d : Nat) (k : Nat) : Prop where
  ok : EnOk e
  gd : Gd e
  code : e.code = 0
  fns : FnsOk e.fns
  fn0 : 0 ≤ e.fn
  fn1 : e.fn ≤ e.fns.length
  fnl : e.fns.length ≤ 100
  vars : e.vars.length + 1000 * d ≤ 8000 + k
  names : e.names.length + 1000 * d ≤ 8000 + k
theorem MkOk.down {e : En} {d d' k k' : Nat} (h : MkOk e d k) (hd : 1000 * d' + k ≤ 1000 * d + k') : MkOk e d' k' :=
  ⟨h.ok, h.gd, h.code, h.fns, h.fn0, h.fn1, h.fnl, by have := h.vars; omega, by have := h.names; omega⟩
/-- (*l71Mk).body -/
def S_s_l71Mk_body (N : Nat) : Spec := fun args O Q => ∃ (l : List UInt8) (p last n d : Int) (e : En) (D : Nat), args = [.ptr 0 0, iv n, iv d] ∧ O = oMk l p e last ∧ l.length ≤ 2000 ∧ 0 ≤ p ∧ d = D + 1 ∧ D < N ∧ D < 3 ∧ 0 ≤ n ∧ n ≤ 6 ∧ p + 3 * n * (6400 * 16 ^ D) + 20000 ≤ 1000000000 ∧ 0 ≤ last ∧ last + 3 * n * 15 ^ D ≤ 4080 ∧ MkOk e (D + 1) 0 ∧
  ∀ (L : List St) (e' : En) (p' last' : Int), (∀ s ∈ L, StF (D + 1) s) → L.length ≤ n → cntB L ≤ n * cS (D + 1) → MkOk e' (D + 1) (4 * L.length + cntB L) → e'.fns = e.fns → e'.fn = e.fn → p ≤ p' → p' ≤ p + 3 * n * (6400 * 16 ^ D) → last ≤ last' → last' ≤ last + 3 * n * 15 ^ D → Q (.d (.sl 15 (L.map dSt))) (oMk l p' e' last')
/-- (*l71Mk).stmt -/
def S_s_l71Mk_stmt (N : Nat) : Spec := fun args O Q => ∃ (l : List UInt8) (p last d : Int) (e : En) (D : Nat), args = [.ptr 0 0, iv d] ∧ O = oMk l p e last ∧ l.length ≤ 2000 ∧ 0 ≤ p ∧ d = D + 1 ∧ D < N ∧ D < 3 ∧ p + 6400 * 16 ^ D + 20000 ≤ 1000000000 ∧ 0 ≤ last ∧ last + 15 ^ D ≤ 4080 ∧ MkOk e D 0 ∧
  ∀ (s : St) (p' last' : Int), (∀ m, StB m s) → cntS s ≤ cS (D + 1) → p ≤ p' → p' ≤ p + 6400 * 16 ^ D → last ≤ last' → last' ≤ last + 15 ^ D → Q (aSt s) (oMk l p' e last')
theorem v_l71Mk_stmt {B : World} {N : Nat} (hb : Valid PG B s_l71Mk_body (S_s_l71Mk_body N)) : Valid PG B s_l71Mk_stmt (S_s_l71Mk_stmt (N + 1)) := by
  refine valid_of (Γ := [(s_l6Rd_pick, ⟨[], S_s_l6Rd_pick⟩), (s_l71Mk_pick, ⟨[], S_s_l71Mk_pick⟩), (s_l71Mk_name, ⟨[], S_s_l71Mk_name⟩), (s_l71Type, ⟨[], S_s_l71Type 4⟩), (s_l71Mk_expr, ⟨[], S_s_l71Mk_expr 5⟩), (s_l71Mk_place, ⟨[], S_s_l71Mk_place⟩), (s_l71Mk_call, ⟨[], S_s_l71Mk_call⟩), (s_l3Env_copy, ⟨[], S_copyF⟩), (s_l71Mk_body, ⟨[], S_s_l71Mk_body N⟩)]) wide tok
    (((((((((AllValid.nil.cons hb).cons v_copyF).cons v_s_l71Mk_call).cons v_s_l71Mk_place).cons (v_s_l71Mk_expr 5)).cons (v_s_l71Type 4)).cons v_s_l71Mk_name).cons v_s_l71Mk_pick).cons v_s_l6Rd_pick) g_s_l71Mk_stmt rfl rfl ?_
  rintro _ _ Q ⟨l, p, last, d, e, D, rfl, rfl, hl, h0, rfl, hDN, hD3, hp, hl0, hl1, hm, hQ⟩
  have hX : (1 : Int) ≤ 16 ^ D := by
    have : 1 ≤ 16 ^ D := Nat.one_le_pow _ _ (by omega)
    exact_mod_cast this
  have hY : (1 : Int) ≤ 15 ^ D := by
    have : 1 ≤ 15 ^ D := Nat.one_le_pow _ _ (by omega)
    exact_mod_cast this
  have hc1 : 1 ≤ cS (D + 1) := by simp only [cS]; omega
  have he := hm.ok
  have ht := hm.gd.ty
  refine wG ?_
  refine ⟨_, _, WkL.rfl, WkOs.rfl, l, p, 5, hl, h0, by omega, by omega, rfl, rfl, ?_⟩
  intro k _ hk
  obtain ⟨hk0, hk1⟩ := hk (by omega)
  refine goG1 ?_
  refine brG1 (fun h1 => ?_) (fun h1 => ?_)
  · refine ⟨_, _, WkL.rfl, WkOs.rfl, l, p + 1, last, e, rfl, rfl, hl, by omega, by omega, hl0, by omega, he, ht, ?_⟩
    intro s p1 hs g1 g2
    refine goG1 ?_
    refine endK ⟨[], ⟨rfl, rfl⟩, ?_⟩
    refine wG ?_
    exact ⟨_, _, Wk.rfl, WkOs.rfl, hQ s p1 (last + 1) hs.1 (by omega) (by omega) (by omega) (by omega) (by omega)⟩
  refine ⟨_, _, WkL.rfl, WkOs.rfl, l, p + 1, 12, hl, by omega, by omega, by omega, rfl, rfl, ?_⟩
  intro k2 _ hk2
  obtain ⟨hk20, hk21⟩ := hk2 (by omega)
  refine goG1 ?_
  refine brG1 (fun h2 => ?_) (fun h2 => ?_)
  · refine ⟨_, _, WkL.rfl, WkOs.rfl, l, p + 1 + 1, last, e, rfl, rfl, hl0, by omega, ?_⟩
    intro nm
    refine goG1 ?_
    refine ⟨_, _, WkL.rfl, WkOs.rfl, l, p + 1 + 1, 3, hl, by omega, (by show p + 1 + 1 + 31 ≤ (1000000000 : Int); omega), by omega, by omega, by omega, rfl, rfl, ?_⟩
    intro t p1 htt g1 g2
    have g2 : p1 ≤ p + 1 + 1 + 31 := g2
    have htt : tyOk 4 t = true := tyOk_mono (by decide) htt
    refine goG1 ?_
    refine ⟨_, _, (WkL.cons Wk.rfl (WkL.cons (Wk.agg (WkL.cons (Wk.d DW.sf) WkL.nil)) (WkL.cons Wk.rfl WkL.nil))), WkOs.rfl, l, p1, last + 1, e, t, 3, rfl, rfl, hl, by omega, by omega, by omega, by omega, by show p1 + 200 * 8 + 400 ≤ (1000000000 : Int); omega, he, ht, htt, ?_⟩
    intro x p2 _ g3 g4
    have g4 : p2 ≤ p1 + 200 * 8 - 100 := g4
    refine goG1 ?_
    refine endK ⟨[], ⟨rfl, rfl⟩, ?_⟩
    refine wG ?_
    refine ⟨_, _, ?_, WkOs.rfl, hQ (.mk 1 nm pl0 pl0 x [] [] [] []) p2 (last + 1) (fun m => StB_nil m _ _ _ _ _ _ _) (by simp [cntS]; omega) (by omega) (by omega) (by omega) (by omega)⟩
    repeat' (first
      | exact Wk.rfl
      | exact WkL.rfl
      | exact WkOs.rfl
      | exact DWRows.rfl
      | exact Wk.nil _
      | exact DWL.rfl
      | exact DW.rfl
      | exact DW.nil _
      | exact DW.nilf _
      | exact DW.sf
      | refine Wk.agg ?_
      | refine Wk.tup ?_
      | refine WkL.cons ?_ ?_
      | refine Wk.d ?_
      | refine DWL.cons ?_ ?_
      | refine DW.sf.trans (DW.sl ?_)
      | refine DW.sl ?_
      | refine DW.sff ?_
      | exact WkL.nil
      | exact trivial
      | exact DWRows.rfl_of (by simp [Function.comp_def, Ty.kids, Ty.kids_mk])
      )
  refine brG1 (fun h3 => ?_) (fun h3 => ?_)
  · refine ⟨_, _, WkL.rfl, WkOs.rfl, l, p + 1 + 1, last, e, rfl, rfl, hl, by omega, by omega, he, ht, ?_⟩
    intro q u p1 hq hu g1 g2
    refine goG1 ?_
    refine ⟨_, _, WkL.rfl, WkOs.rfl, l, p1, last, e, rfl, rfl, hl0, by omega, ?_⟩
    intro nm
    refine goG1 ?_
    refine endK ⟨[], ⟨rfl, rfl⟩, ?_⟩
    refine wG ?_
    refine ⟨_, _, ?_, WkOs.rfl, hQ (.mk 2 nm q pl0 xp0 [] [] [] []) p1 (last + 1) (fun m => StB_nil m _ _ _ _ _ _ _) (by simp [cntS]; omega) (by omega) (by omega) (by omega) (by omega)⟩
    repeat' (first
      | exact Wk.rfl
      | exact WkL.rfl
      | exact WkOs.rfl
      | exact DWRows.rfl
      | exact Wk.nil _
      | exact DWL.rfl
      | exact DW.rfl
      | exact DW.nil _
      | exact DW.nilf _
      | exact DW.sf
      | refine Wk.agg ?_
      | refine Wk.tup ?_
      | refine WkL.cons ?_ ?_
      | refine Wk.d ?_
      | refine DWL.cons ?_ ?_
      | refine DW.sf.trans (DW.sl ?_)
      | refine DW.sl ?_
      | refine DW.sff ?_
      | exact WkL.nil
      | exact trivial
      | exact DWRows.rfl_of (by simp [Function.comp_def, Ty.kids, Ty.kids_mk])
      )
  refine brG1 (fun h4 => ?_) (fun h4 => ?_)
  · refine ⟨_, _, WkL.rfl, WkOs.rfl, l, p + 1 + 1, last, e, rfl, rfl, hl, by omega, by omega, he, ht, ?_⟩
    intro q u p1 hq hu g1 g2
    refine goG1 ?_
    refine ⟨_, _, WkL.rfl, WkOs.rfl, l, p1, last, e, rfl, rfl, hl0, by omega, ?_⟩
    intro nm
    refine goG1 ?_
    refine endK ⟨[], ⟨rfl, rfl⟩, ?_⟩
    refine wG ?_
    refine ⟨_, _, ?_, WkOs.rfl, hQ (.mk 2 nm q pl0 xp0 [] [] [] []) p1 (last + 1) (fun m => StB_nil m _ _ _ _ _ _ _) (by simp [cntS]; omega) (by omega) (by omega) (by omega) (by omega)⟩
    repeat' (first
      | exact Wk.rfl
      | exact WkL.rfl
      | exact WkOs.rfl
      | exact DWRows.rfl
      | exact Wk.nil _
      | exact DWL.rfl
      | exact DW.rfl
      | exact DW.nil _
      | exact DW.nilf _
      | exact DW.sf
      | refine Wk.agg ?_
      | refine Wk.tup ?_
      | refine WkL.cons ?_ ?_
      | refine Wk.d ?_
      | refine DWL.cons ?_ ?_
      | refine DW.sf.trans (DW.sl ?_)
      | refine DW.sl ?_
      | refine DW.sff ?_
      | exact WkL.nil
      | exact trivial
      | exact DWRows.rfl_of (by simp [Function.comp_def, Ty.kids, Ty.kids_mk])
      )
  refine brG1 (fun h5 => ?_) (fun h5 => ?_)
  · refine ⟨_, _, WkL.rfl, WkOs.rfl, l, p + 1 + 1, last, e, rfl, rfl, hl, by omega, by omega, he, ht, ?_⟩
    intro q u p1 hq hu g1 g2
    refine goG1 ?_
    refine ⟨_, _, WkL.rfl, WkOs.rfl, l, p1, last, e, rfl, rfl, hl0, by omega, ?_⟩
    intro nm
    refine goG1 ?_
    refine endK ⟨[], ⟨rfl, rfl⟩, ?_⟩
    refine wG ?_
    refine ⟨_, _, ?_, WkOs.rfl, hQ (.mk 2 nm q pl0 xp0 [] [] [] []) p1 (last + 1) (fun m => StB_nil m _ _ _ _ _ _ _) (by simp [cntS]; omega) (by omega) (by omega) (by omega) (by omega)⟩
    repeat' (first
      | exact Wk.rfl
      | exact WkL.rfl
      | exact WkOs.rfl
      | exact DWRows.rfl
      | exact Wk.nil _
      | exact DWL.rfl
      | exact DW.rfl
      | exact DW.nil _
      | exact DW.nilf _
      | exact DW.sf
      | refine Wk.agg ?_
      | refine Wk.tup ?_
      | refine WkL.cons ?_ ?_
      | refine Wk.d ?_
      | refine DWL.cons ?_ ?_
      | refine DW.sf.trans (DW.sl ?_)
      | refine DW.sl ?_
      | refine DW.sff ?_
      | exact WkL.nil
      | exact trivial
      | exact DWRows.rfl_of (by simp [Function.comp_def, Ty.kids, Ty.kids_mk])
      )
  refine brG1 (fun h6 => ?_) (fun h6 => ?_)
  · refine ⟨_, _, WkL.rfl, WkOs.rfl, l, p + 1 + 1, last, e, rfl, rfl, hl, by omega, by omega, he, ht, ?_⟩
    intro q u p1 hq hu g1 g2
    refine goG1 ?_
    refine ⟨_, _, WkL.rfl, WkOs.rfl, l, p1, last, e, u, 3, rfl, rfl, hl, by omega, by omega, by omega, by omega, by show p1 + 200 * 8 + 400 ≤ (1000000000 : Int); omega, he, ht, hu, ?_⟩
    intro x p2 _ g3 g4
    have g4 : p2 ≤ p1 + 200 * 8 - 100 := g4
    refine goG1 ?_
    refine endK ⟨[], ⟨rfl, rfl⟩, ?_⟩
    refine wG ?_
    refine ⟨_, _, ?_, WkOs.rfl, hQ (.mk 3 [] q pl0 x [] [] [] []) p2 last (fun m => StB_nil m _ _ _ _ _ _ _) (by simp [cntS]; omega) (by omega) (by omega) (by omega) (by omega)⟩
    repeat' (first
      | exact Wk.rfl
      | exact WkL.rfl
      | exact WkOs.rfl
      | exact DWRows.rfl
      | exact Wk.nil _
      | exact DWL.rfl
      | exact DW.rfl
      | exact DW.nil _
      | exact DW.nilf _
      | exact DW.sf
      | refine Wk.agg ?_
      | refine Wk.tup ?_
      | refine WkL.cons ?_ ?_
      | refine Wk.d ?_
      | refine DWL.cons ?_ ?_
      | refine DW.sf.trans (DW.sl ?_)
      | refine DW.sl ?_
      | refine DW.sff ?_
      | exact WkL.nil
      | exact trivial
      | exact DWRows.rfl_of (by simp [Function.comp_def, Ty.kids, Ty.kids_mk])
      )
  refine brG1 (fun h7 => ?_) (fun h7 => ?_)
  · refine ⟨_, _, WkL.rfl, WkOs.rfl, l, p + 1 + 1, last, e, rfl, rfl, hl, by omega, by omega, he, ht, ?_⟩
    intro q u p1 hq hu g1 g2
    refine goG1 ?_
    refine ⟨_, _, WkL.rfl, WkOs.rfl, l, p1, last, e, u, 3, rfl, rfl, hl, by omega, by omega, by omega, by omega, by show p1 + 200 * 8 + 400 ≤ (1000000000 : Int); omega, he, ht, hu, ?_⟩
    intro x p2 _ g3 g4
    have g4 : p2 ≤ p1 + 200 * 8 - 100 := g4
    refine goG1 ?_
    refine endK ⟨[], ⟨rfl, rfl⟩, ?_⟩
    refine wG ?_
    refine ⟨_, _, ?_, WkOs.rfl, hQ (.mk 3 [] q pl0 x [] [] [] []) p2 last (fun m => StB_nil m _ _ _ _ _ _ _) (by simp [cntS]; omega) (by omega) (by omega) (by omega) (by omega)⟩
    repeat' (first
      | exact Wk.rfl
      | exact WkL.rfl
      | exact WkOs.rfl
      | exact DWRows.rfl
      | exact Wk.nil _
      | exact DWL.rfl
      | exact DW.rfl
      | exact DW.nil _
      | exact DW.nilf _
      | exact DW.sf
      | refine Wk.agg ?_
      | refine Wk.tup ?_
      | refine WkL.cons ?_ ?_
      | refine Wk.d ?_
      | refine DWL.cons ?_ ?_
      | refine DW.sf.trans (DW.sl ?_)
      | refine DW.sl ?_
      | refine DW.sff ?_
      | exact WkL.nil
      | exact trivial
      | exact DWRows.rfl_of (by simp [Function.comp_def, Ty.kids, Ty.kids_mk])
      )
  refine brG1 (fun h8 => ?_) (fun h8 => ?_)
  · refine ⟨_, _, WkL.rfl, WkOs.rfl, l, p + 1 + 1, last, e, rfl, rfl, hl, by omega, by omega, he, ht, ?_⟩
    intro q u p1 hq hu g1 g2
    refine goG1 ?_
    refine ⟨_, _, WkL.rfl, WkOs.rfl, l, p1, last, e, u, 3, rfl, rfl, hl, by omega, by omega, by omega, by omega, by show p1 + 200 * 8 + 400 ≤ (1000000000 : Int); omega, he, ht, hu, ?_⟩
    intro x p2 _ g3 g4
    have g4 : p2 ≤ p1 + 200 * 8 - 100 := g4
    refine goG1 ?_
    refine endK ⟨[], ⟨rfl, rfl⟩, ?_⟩
    refine wG ?_
    refine ⟨_, _, ?_, WkOs.rfl, hQ (.mk 3 [] q pl0 x [] [] [] []) p2 last (fun m => StB_nil m _ _ _ _ _ _ _) (by simp [cntS]; omega) (by omega) (by omega) (by omega) (by omega)⟩
    repeat' (first
      | exact Wk.rfl
      | exact WkL.rfl
      | exact WkOs.rfl
      | exact DWRows.rfl
      | exact Wk.nil _
      | exact DWL.rfl
      | exact DW.rfl
      | exact DW.nil _
      | exact DW.nilf _
      | exact DW.sf
      | refine Wk.agg ?_
      | refine Wk.tup ?_
      | refine WkL.cons ?_ ?_
      | refine Wk.d ?_
      | refine DWL.cons ?_ ?_
      | refine DW.sf.trans (DW.sl ?_)
      | refine DW.sl ?_
      | refine DW.sff ?_
      | exact WkL.nil
      | exact trivial
      | exact DWRows.rfl_of (by simp [Function.comp_def, Ty.kids, Ty.kids_mk])
      )
  refine brG1 (fun h9 => ?_) (fun h9 => ?_)
  · refine ⟨_, _, WkL.rfl, WkOs.rfl, l, p + 1 + 1, last, e, rfl, rfl, hl, by omega, by omega, hl0, by omega, he, ht, hm.fns, hm.fn0, hm.fn1, hm.fnl, ?_⟩
    intro s p1 hs g1 g2
    refine goG1 ?_
    refine endK ⟨[], ⟨rfl, rfl⟩, ?_⟩
    refine wG ?_
    exact ⟨_, _, Wk.rfl, WkOs.rfl, hQ s p1 (last + 1) hs.1 (by omega) (by omega) (by omega) (by omega) (by omega)⟩
  refine brG1 (fun h10 => ?_) (fun h10 => ?_)
  · refine ⟨_, _, WkL.rfl, WkOs.rfl, l, p + 1 + 1, last, e, rfl, rfl, hl, by omega, by omega, hl0, by omega, he, ht, hm.fns, hm.fn0, hm.fn1, hm.fnl, ?_⟩
    intro s p1 hs g1 g2
    refine goG1 ?_
    refine endK ⟨[], ⟨rfl, rfl⟩, ?_⟩
    refine wG ?_
    exact ⟨_, _, Wk.rfl, WkOs.rfl, hQ s p1 (last + 1) hs.1 (by omega) (by omega) (by omega) (by omega) (by omega)⟩
  refine brG1 (fun h11 => ?_) (fun h11 => ?_)
  · refine ⟨_, _, WkL.rfl, WkOs.rfl, l, p + 1 + 1, last, e, rfl, rfl, hl, by omega, by omega, hl0, by omega, he, ht, hm.fns, hm.fn0, hm.fn1, hm.fnl, ?_⟩
    intro s p1 hs g1 g2
    refine goG1 ?_
    refine endK ⟨[], ⟨rfl, rfl⟩, ?_⟩
    refine wG ?_
    exact ⟨_, _, Wk.rfl, WkOs.rfl, hQ s p1 (last + 1) hs.1 (by omega) (by omega) (by omega) (by omega) (by omega)⟩
  refine brG1 (fun h12 => ?_) (fun h12 => ?_)
  · refine ⟨_, _, WkL.rfl, WkOs.rfl, l, p + 1 + 1, last, e, rfl, rfl, hl, by omega, by omega, he, ht, ?_⟩
    intro q u p1 hq hu g1 g2
    refine goG1 ?_
    refine ⟨_, _, WkL.rfl, WkOs.rfl, l, p1, last, e, u, 2, rfl, rfl, hl, by omega, by omega, by omega, by omega, by show p1 + 200 * 4 + 400 ≤ (1000000000 : Int); omega, he, ht, hu, ?_⟩
    intro x p2 _ g3 g4
    have g4 : p2 ≤ p1 + 200 * 4 - 100 := g4
    refine goG1 ?_
    refine endK ⟨[], ⟨rfl, rfl⟩, ?_⟩
    refine wG ?_
    refine ⟨_, _, ?_, WkOs.rfl, hQ (.mk 3 [] q pl0 x [] [] [] []) p2 last (fun m => StB_nil m _ _ _ _ _ _ _) (by simp [cntS]; omega) (by omega) (by omega) (by omega) (by omega)⟩
    repeat' (first
      | exact Wk.rfl
      | exact WkL.rfl
      | exact WkOs.rfl
      | exact DWRows.rfl
      | exact Wk.nil _
      | exact DWL.rfl
      | exact DW.rfl
      | exact DW.nil _
      | exact DW.nilf _
      | exact DW.sf
      | refine Wk.agg ?_
      | refine Wk.tup ?_
      | refine WkL.cons ?_ ?_
      | refine Wk.d ?_
      | refine DWL.cons ?_ ?_
      | refine DW.sf.trans (DW.sl ?_)
      | refine DW.sl ?_
      | refine DW.sff ?_
      | exact WkL.nil
      | exact trivial
      | exact DWRows.rfl_of (by simp [Function.comp_def, Ty.kids, Ty.kids_mk])
      )
  have hD : ¬ ((D : Int) + 1 < 2) := h12
  obtain ⟨D', rfl⟩ : ∃ k, D = k + 1 := ⟨D - 1, by omega⟩
  rw [Int.pow_succ] at hp hl1 hQ
  rw [Int.pow_succ] at hQ
  clear hX hY
  have hX : (1 : Int) ≤ 16 ^ D' := by
    have : 1 ≤ 16 ^ D' := Nat.one_le_pow _ _ (by omega)
    exact_mod_cast this
  have hY : (1 : Int) ≤ 15 ^ D' := by
    have : 1 ≤ 15 ^ D' := Nat.one_le_pow _ _ (by omega)
    exact_mod_cast this
  generalize hXX : (16 : Int) ^ D' = X at *
  generalize hYY : (15 : Int) ^ D' = Y at *
  have hcS : cS (D' + 1 + 1) = 1 + 5 * cS (D' + 1) := rfl
  refine ⟨_, _, (WkL.cons Wk.rfl (WkL.cons (Wk.agg (WkL.cons (Wk.nil 1) WkL.nil)) (WkL.cons Wk.rfl WkL.nil))), WkOs.rfl, l, p + 1 + 1, last, e, .mk [], 3, rfl, rfl, hl, by omega, by omega, by omega, by omega, by show p + 1 + 1 + 200 * 8 + 400 ≤ (1000000000 : Int); omega, he, ht, rfl, ?_⟩
  intro x p1 _ g1 g2
  have g2 : p1 ≤ p + 1 + 1 + 200 * 8 - 100 := g2
  refine goG1 ?_
  refine ⟨_, _, WkL.rfl, WkOs.rfl, e, rfl, rfl, he, ?_⟩
  refine goG1 ?_
  refine ⟨_, _, WkL.rfl, WkOs.rfl, l, p1, 3, hl, by omega, by omega, by omega, rfl, rfl, ?_⟩
  intro k3 _ hk3
  obtain ⟨hk30, hk31⟩ := hk3 (by omega)
  have m1 : 3 * (1 + k3) * (6400 * X) ≤ 9 * (6400 * X) := Int.mul_le_mul_of_nonneg_right (by omega) (by omega)
  have m2 : 3 * (1 + k3) * Y ≤ 9 * Y := Int.mul_le_mul_of_nonneg_right (by omega) (by omega)
  refine goG1 ?_
  refine ⟨_, _, WkL.rfl, WkOs.rfl, l, p1 + 1, last, 1 + k3, (((D' + 1 : Nat) : Int) + 1 - 1), e, D', rfl, rfl, hl, by omega, by omega, by omega, by omega, by omega, by omega, by rw [hXX]; omega, hl0, by rw [hYY]; omega, hm, ?_⟩
  intro L e1 p2 last2 hL1 hL2 hL3 _ _ _ g3 g4 g5 g6
  rw [hXX] at g4
  rw [hYY] at g6
  have m3 : (1 + k3) * (cS (D' + 1) : Int) ≤ 3 * (cS (D' + 1) : Int) := Int.mul_le_mul_of_nonneg_right (by omega) (by omega)
  refine goG1 ?_
  refine ⟨_, _, WkL.rfl, WkOs.rfl, e, rfl, rfl, he, ?_⟩
  refine goG1 ?_
  refine ⟨_, _, WkL.rfl, WkOs.rfl, l, p2, 3, hl, by omega, by omega, by omega, rfl, rfl, ?_⟩
  intro k4 _ hk4
  obtain ⟨hk40, hk41⟩ := hk4 (by omega)
  have m4 : 3 * k4 * (6400 * X) ≤ 6 * (6400 * X) := Int.mul_le_mul_of_nonneg_right (by omega) (by omega)
  have m5 : 3 * k4 * Y ≤ 6 * Y := Int.mul_le_mul_of_nonneg_right (by omega) (by omega)
  refine goG1 ?_
  refine ⟨_, _, WkL.rfl, WkOs.rfl, l, p2 + 1, last2, k4, (((D' + 1 : Nat) : Int) + 1 - 1), e, D', rfl, rfl, hl, by omega, by omega, by omega, by omega, by omega, by omega, by rw [hXX]; omega, by omega, by rw [hYY]; omega, hm, ?_⟩
  intro M e2 p3 last3 hM1 hM2 hM3 _ _ _ g7 g8 g9 g10
  rw [hXX] at g8
  rw [hYY] at g10
  have m6 : k4 * (cS (D' + 1) : Int) ≤ 2 * (cS (D' + 1) : Int) := Int.mul_le_mul_of_nonneg_right (by omega) (by omega)
  refine goG1 ?_
  refine endK ⟨[], ⟨rfl, rfl⟩, ?_⟩
  refine wG ?_
  refine ⟨_, _, ?_, WkOs.rfl, hQ (.mk 5 [] pl0 pl0 x [] [] L M) p3 last3 (fun m => ?_) ?_ (by omega) (by omega) (by omega) (by omega)⟩
  · repeat' (first
      | exact Wk.rfl
      | exact WkL.rfl
      | exact WkOs.rfl
      | exact DWRows.rfl
      | exact Wk.nil _
      | exact DWL.rfl
      | exact DW.rfl
      | exact DW.nil _
      | exact DW.nilf _
      | exact DW.sf
      | refine Wk.agg ?_
      | refine Wk.tup ?_
      | refine WkL.cons ?_ ?_
      | refine Wk.d ?_
      | refine DWL.cons ?_ ?_
      | refine DW.sf.trans (DW.sl ?_)
      | refine DW.sl ?_
      | refine DW.sff ?_
      | exact WkL.nil
      | exact trivial
      | exact DWRows.rfl_of (by simp [Function.comp_def, Ty.kids, Ty.kids_mk])
      )
  · cases m with
    | zero => trivial
    | succ m => exact ⟨by omega, by omega, fun s hs => (hL1 s hs).b, fun s hs => (hM1 s hs).b⟩
  · rw [cntS_eq, hcS]
    simp only [St.thn, St.els]
    omega
end Ab
