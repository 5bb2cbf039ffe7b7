/- The draws, sixth part: bodies. -/
import Derived.Test.YtcajihigkjcgeaaGreatDoorSyn
import Derived.Test.YtcajihigkjcgeaaGreatDoorD5
set_option linter.all false
namespace Ab
open Go Go.Proofs
set_option maxRecDepth 10000
set_option maxHeartbeats 4000000
set_option linter.all false

theorem MkOk.step {e : En} {d k : Nat} {s : St} (h : MkOk e (d + 1) k) (hk : k ≤ 1000) (hs : StF (d + 1) s) (hc : cntS s ≤ 500) (h0 : (e.stmtD (d + 1) s).code = 0) (hd : d < 3) : MkOk (e.stmtD (d + 1) s) (d + 1) (k + 4 + cntS s) := by
  have st := Step.stmt (e := e) hs
  have a1 := st.v1; have a2 := st.n1; have a3 := h.vars; have a4 := h.names
  exact ⟨EnOk.stmt h.ok hs (by omega) (by omega), h.gd.stmt (fun g hg => (h.fns g hg).ty) hs, h0, by rw [st.fns]; exact h.fns, by rw [st.fn]; exact h.fn0, by rw [st.fn, st.fns]; exact h.fn1, by rw [st.fns]; exact h.fnl, by omega, by omega⟩
theorem StF.mono {d d' : Nat} {s : St} (h : StF d s) (hd : d ≤ d') : StF d' s := by
  induction h generalizing d' with
  | let_ h1 h2 => obtain ⟨k, rfl⟩ : ∃ k, d' = k + 1 := ⟨d' - 1, by omega⟩; exact .let_ h1 h2
  | lend h1 h2 => obtain ⟨k, rfl⟩ : ∃ k, d' = k + 1 := ⟨d' - 1, by omega⟩; exact .lend h1 h2
  | set h1 h2 => obtain ⟨k, rfl⟩ : ∃ k, d' = k + 1 := ⟨d' - 1, by omega⟩; exact .set h1 h2
  | call h1 h2 h3 h4 => obtain ⟨k, rfl⟩ : ∃ k, d' = k + 1 := ⟨d' - 1, by omega⟩; exact .call h1 h2 h3 h4
  | pick h1 h2 h3 h4 => obtain ⟨k, rfl⟩ : ∃ k, d' = k + 1 := ⟨d' - 1, by omega⟩; exact .pick h1 h2 h3 h4
  | ifs h1 h2 h3 _ h5 _ i1 i2 =>
    obtain ⟨k, rfl⟩ : ∃ k, d' = k + 1 := ⟨d' - 1, by omega⟩
    exact .ifs h1 (by omega) h3 (fun s hs => i1 s hs (by omega)) h5 (fun s hs => i2 s hs (by omega))
theorem bodyD_congr {d d' : Nat} : ∀ {l : List St} (e : En), (∀ s ∈ l, ∀ e : En, e.stmtD d' s = e.stmtD d s) → e.bodyD d' l = e.bodyD d l
  | [], _, _ => rfl
  | s :: l, e, h => by
    rw [bodyD_cons, bodyD_cons, h s (by simp)]
    exact bodyD_congr _ (fun s' hs' => h s' (List.mem_cons_of_mem _ hs'))
theorem stmtD_mono {d d' : Nat} {s : St} (h : StF d s) (hd : d ≤ d') (e : En) : e.stmtD d' s = e.stmtD d s := by
  induction h generalizing d' e with
  | let_ h1 h2 => obtain ⟨k, rfl⟩ : ∃ k, d' = k + 1 := ⟨d' - 1, by omega⟩; rw [stmt_let, stmt_let]
  | lend h1 h2 => obtain ⟨k, rfl⟩ : ∃ k, d' = k + 1 := ⟨d' - 1, by omega⟩; rw [stmt_lend, stmt_lend]
  | set h1 h2 => obtain ⟨k, rfl⟩ : ∃ k, d' = k + 1 := ⟨d' - 1, by omega⟩; rw [stmt_set, stmt_set]
  | call h1 h2 h3 h4 => obtain ⟨k, rfl⟩ : ∃ k, d' = k + 1 := ⟨d' - 1, by omega⟩; rw [stmt_call, stmt_call]
  | pick h1 h2 h3 h4 => obtain ⟨k, rfl⟩ : ∃ k, d' = k + 1 := ⟨d' - 1, by omega⟩; rw [stmt_pick, stmt_pick]
  | ifs h1 h2 h3 _ h5 _ i1 i2 =>
    obtain ⟨k, rfl⟩ : ∃ k, d' = k + 1 := ⟨d' - 1, by omega⟩
    rw [stmt_if, stmt_if]
    unfold En.fork
    dsimp only
    rw [bodyD_congr _ (fun s hs e => i1 s hs (show _ ≤ k by omega) e), bodyD_congr _ (fun s hs e => i2 s hs (show _ ≤ k by omega) e)]
theorem cS_3 : cS 3 = 31 := rfl
theorem v_l71Mk_body {B : World} {N : Nat} (hs : Valid PG B s_l71Mk_stmt (S_s_l71Mk_stmt N)) : Valid PG B s_l71Mk_body (S_s_l71Mk_body N) := by
  refine valid_of (Γ := [(s_l71Mk_stmt, ⟨[], S_s_l71Mk_stmt N⟩), (s_l2Stmt, ⟨[], S_s_l2Stmt 10⟩), (s_l3Env_copy, ⟨[], S_copyD⟩), (s_l3Env_stmt, ⟨[], S_s_l3Env_stmt 4⟩)]) wide tok
    ((((AllValid.nil.cons (v_stmts 4).1).cons v_copyD).cons (v_forms 10).1).cons hs) g_s_l71Mk_body rfl rfl ?_
  rintro _ _ Q ⟨l, p, last, n, d, e, D, rfl, rfl, hl, h0, rfl, hDN, hD3, hn0, hn6, hp, hl0, hl1, hm, hQ⟩
  have hX : (1 : Int) ≤ 16 ^ D := by
    have : 1 ≤ 16 ^ D := Nat.one_le_pow _ _ (by omega)
    exact_mod_cast this
  have hY : (1 : Int) ≤ 15 ^ D := by
    have : 1 ≤ 15 ^ D := Nat.one_le_pow _ _ (by omega)
    exact_mod_cast this
  have hc31 : cS (D + 1) ≤ 31 := Nat.le_trans (cS_mono (show D + 1 ≤ 3 by omega)) (by rw [cS_3]; omega)
  generalize hXX : (16 : Int) ^ D = X at *
  generalize hYY : (15 : Int) ^ D = Y at *
  refine wG ?_
  right
  refine wG ?_
  refine goG1 ?_
  refine ⟨[], List St × En × Int × Int × Int, fun x => 0 ≤ x.2.2.2.2 ∧ x.2.2.2.2 ≤ 3 * n ∧ (∀ s ∈ x.1, StF (D + 1) s) ∧ x.1.length ≤ n ∧ (cntB x.1 : Int) ≤ x.1.length * cS (D + 1) ∧ MkOk x.2.1 (D + 1) (4 * x.1.length + cntB x.1) ∧ x.2.1.fns = e.fns ∧ x.2.1.fn = e.fn ∧ p ≤ x.2.2.1 ∧ x.2.2.1 ≤ p + x.2.2.2.2 * (6400 * X) ∧ last ≤ x.2.2.2.1 ∧ x.2.2.2.1 ≤ last + x.2.2.2.2 * Y, fun x => (3 * n - x.2.2.2.2).toNat, fun x => [(7, .row 2 1), (8, iv x.2.2.2.2)], fun x => oMk l x.2.2.1 x.2.1 x.2.2.2.1 ++ [.row 1 true 15 (x.1.map dSt)], ([], e, p, last, 0), ⟨by dsimp only; omega, by dsimp only; omega, by simp, by simp; omega, by simp [cntB], by simpa [cntB] using hm, rfl, rfl, by dsimp only; omega, by dsimp only; omega, by dsimp only; omega, by dsimp only; omega⟩, ?_⟩
  refine wG ?_
  refine ⟨Meet.mk rfl rfl WkOs.rfl ⟨Wk.rfl, Wk.rfl, trivial⟩ rfl, ?_⟩
  rintro ⟨L, e1, p1, last1, i⟩ ⟨i0, i1, i2, i3, i4, i5, i6, i7, i8, i9, i10, i11⟩
  dsimp only at i0 i1 i2 i3 i4 i5 i6 i7 i8 i9 i10 i11
  have fin : cntB L ≤ n * cS (D + 1) := by
    have : (L.length : Int) * (cS (D + 1) : Int) ≤ n * (cS (D + 1) : Int) := Int.mul_le_mul_of_nonneg_right i3 (by omega)
    omega
  have mI : i * (6400 * X) ≤ 3 * n * (6400 * X) := Int.mul_le_mul_of_nonneg_right i1 (by omega)
  have mJ : i * Y ≤ 3 * n * Y := Int.mul_le_mul_of_nonneg_right i1 (by omega)
  refine wG ?_
  refine goG1 ?_
  refine brG1 (fun h1 => ?_) (fun h1 => ?_)
  · refine brG1 (fun h2 => ?_) (fun h2 => ?_)
    · have h2 : (L.length : Int) < n := by simpa using h2
      have mI2 : (i + 1) * (6400 * X) ≤ 3 * n * (6400 * X) := Int.mul_le_mul_of_nonneg_right (by omega) (by omega)
      have mJ2 : (i + 1) * Y ≤ 3 * n * Y := Int.mul_le_mul_of_nonneg_right (by omega) (by omega)
      have eI : (i + 1) * (6400 * X) = i * (6400 * X) + 6400 * X := by rw [Int.add_mul, Int.one_mul]
      have eJ : (i + 1) * Y = i * Y + Y := by rw [Int.add_mul, Int.one_mul]
      have hk : 4 * L.length + cntB L ≤ 1000 := by
        have : n * (cS (D + 1) : Int) ≤ 6 * (cS (D + 1) : Int) := Int.mul_le_mul_of_nonneg_right hn6 (by omega)
        omega
      refine ⟨_, _, WkL.rfl, WkOs.rfl, l, p1, last1, (D : Int) + 1, e1, D, rfl, rfl, hl, by omega, rfl, by omega, hD3, by rw [hXX]; omega, by omega, by rw [hYY]; omega, i5.down (by omega), ?_⟩
      intro s p2 last2 hsB hsc g1 g2 g3 g4
      rw [hXX] at g2
      rw [hYY] at g4
      refine goG1 ?_
      refine ⟨_, _, WkL.rfl, WkOs.rfl, s, (D : Int) + 1, rfl, rfl, by omega, by omega, by omega, hsB _, ?_⟩
      refine goG1 ?_
      refine ⟨fun h3 => ?_, fun h3 => ?_⟩
      · refine wG ?_
        refine goG1 ?_
        refine ⟨(L, e1, p2, last2, i + 1), ⟨by dsimp only; omega, by dsimp only; omega, i2, i3, i4, i5, i6, i7, by dsimp only; omega, by dsimp only; omega, by dsimp only; omega, by dsimp only; omega⟩, by dsimp only; omega, [], Meet.mk rfl rfl WkOs.rfl ⟨Wk.rfl, Wk.rfl, trivial⟩ rfl⟩
      · have h3 : stFm ((D : Int) + 1).toNat s = true := of_not_f h3
        have hF : StF (D + 1) s := by
          have := stFm_F h3
          rwa [show ((D : Int) + 1).toNat = D + 1 by omega] at this
        have hv := i5.vars
        have hnm := i5.names
        refine wG ?_
        refine goG1 ?_
        refine ⟨_, _, WkL.rfl, WkOs.rfl, e1, rfl, rfl, i5.ok, ?_⟩
        refine goG1 ?_
        refine ⟨_, _, WkL.rfl, WkOs.rfl, e1, s, rfl, rfl, i5.ok, hF.mono (by omega), i5.fnl, by omega, by omega, ?_⟩
        rw [stmtD_mono hF (show D + 1 ≤ 4 by omega)]
        have hst := i5.step (s := s) hk hF (by omega)
        have hStep := Step.stmt (e := e1) hF
        have z1 := hStep.fns
        have z2 := hStep.fn
        generalize e1.stmtD (D + 1) s = e2 at *
        obtain ⟨fns2, fn2, vars2, names2, code2⟩ := e2
        refine goG1 ?_
        refine brG1 (fun h5 => ?_) (fun h5 => ?_)
        · have h5 : code2 = 0 := h5
          subst h5
          have hst := hst rfl hD3
          have cc : cntB (L ++ [s]) = cntB L + cntS s := by simp [cntB]
          have c4 : (((L ++ [s]).length : Nat) : Int) * (cS (D + 1) : Int) = L.length * cS (D + 1) + cS (D + 1) := by
            rw [List.length_append, List.length_singleton, Int.natCast_add, Int.natCast_one, Int.add_mul, Int.one_mul]
          refine goG1 ?_
          left
          refine wG ?_
          refine goG1 ?_
          refine ⟨(L ++ [s], ⟨fns2, fn2, vars2, names2, 0⟩, p2, last2, i + 1), ⟨by dsimp only; omega, by dsimp only; omega, ?_, by simp; omega, by dsimp only; rw [cc, c4]; omega, ?_, z1.trans i6, z2.trans i7, by dsimp only; omega, by dsimp only; omega, by dsimp only; omega, by dsimp only; omega⟩, by dsimp only; omega, [.frz 6], Meet.mk rfl rfl ?_ ⟨Wk.rfl, Wk.rfl, trivial⟩ rfl⟩
          · intro s' hs'
            rcases List.mem_append.1 hs' with hs' | hs'
            · exact i2 s' hs'
            · simp at hs'; subst hs'; exact hF
          · refine hst.down ?_
            dsimp only
            rw [cc, List.length_append, List.length_singleton]
            try omega
          · exact ⟨WkO.rfl, WkO.rfl, .inr ⟨rfl, rfl, rfl, rows_app (by rw [dSt_eq]) (by rw [dSt_eq]; exact DWL.rfl)⟩, trivial⟩
        · refine goG1 ?_
          refine ⟨(L, e1, p2, last2, i + 1), ⟨by dsimp only; omega, by dsimp only; omega, i2, i3, i4, i5, i6, i7, by dsimp only; omega, by dsimp only; omega, by dsimp only; omega, by dsimp only; omega⟩, by dsimp only; omega, [], Meet.mk rfl rfl WkOs.rfl ⟨Wk.rfl, Wk.rfl, trivial⟩ rfl⟩
    · refine goG1 ?_
      refine endK ⟨[], ⟨rfl, rfl⟩, ?_⟩
      refine wG ?_
      exact ⟨_, _, Wk.rfl, WkOs.rfl, hQ L e1 p1 last1 i2 i3 fin i5 i6 i7 i8 (by omega) i10 (by omega)⟩
  · refine goG1 ?_
    refine endK ⟨[], ⟨rfl, rfl⟩, ?_⟩
    refine wG ?_
    exact ⟨_, _, Wk.rfl, WkOs.rfl, hQ L e1 p1 last1 i2 i3 fin i5 i6 i7 i8 (by omega) i10 (by omega)⟩
theorem v_draws {B : World} : ∀ N, Valid PG B s_l71Mk_stmt (S_s_l71Mk_stmt N) ∧ Valid PG B s_l71Mk_body (S_s_l71Mk_body N)
  | 0 => by
    have h : Valid PG B s_l71Mk_stmt (S_s_l71Mk_stmt 0) := fun w g O args us Q _ _ _ _ ⟨_, _, _, _, _, D, _, _, _, _, _, h, _⟩ => by omega
    exact ⟨h, v_l71Mk_body h⟩
  | N + 1 => by
    have h := v_l71Mk_stmt (B := B) (v_draws N).2
    exact ⟨h, v_l71Mk_body h⟩
end Ab
