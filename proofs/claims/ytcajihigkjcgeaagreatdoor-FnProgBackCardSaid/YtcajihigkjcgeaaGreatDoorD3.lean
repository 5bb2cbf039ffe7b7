/- The draws, third part: expressions. -/
import Derived.Test.YtcajihigkjcgeaaGreatDoorSyn
import Derived.Test.YtcajihigkjcgeaaGreatDoorD1
set_option linter.all false
namespace Ab
open Go Go.Proofs
set_option maxRecDepth 10000
set_option maxHeartbeats 4000000
set_option linter.all false

theorem tyOk_two {m : Nat} {t : Ty} (h : tyOk m t = true) : t = .mk [] ∨ ∃ j a b, m = j + 1 ∧ t = .mk [a, b] ∧ tyOk j a = true ∧ tyOk j b = true := by
  obtain ⟨ks⟩ := t
  cases m with
  | zero => simp [tyOk] at h
  | succ j =>
    simp only [tyOk, Bool.and_eq_true, Bool.or_eq_true, beq_iff_eq, List.all_eq_true] at h
    rcases h.1 with h1 | h1
    · left; rw [List.eq_nil_of_length_eq_zero h1]
    · right
      match ks, h1 with
      | [a, b], _ => exact ⟨j, a, b, rfl, rfl, h.2 a (by simp), h.2 b (by simp)⟩
/-- an expression whose last part is nothing -/
theorem wk_xp0 {k m : Int} {p : Pl} : Wk (.agg [.d (.i .i64 k), .d (.i .i64 m), .d (.s p.name), .d (.sl 1 (p.path.map dI)), .d (.v (.slice none 0 0))]) (aXp (.mk k m p [])) :=
  Wk.agg (WkL.cons Wk.rfl (WkL.cons Wk.rfl (WkL.cons Wk.rfl (WkL.cons Wk.rfl (WkL.cons (Wk.nil 5) WkL.nil)))))
theorem wk_xp1 {k m : Int} {n : Bs} : Wk (.agg [.d (.i .i64 k), .d (.i .i64 m), .d (.s n), .d (.v (.slice none 0 0)), .d (.v (.slice none 0 0))]) (aXp (.mk k m ⟨n, []⟩ [])) :=
  Wk.agg (WkL.cons Wk.rfl (WkL.cons Wk.rfl (WkL.cons Wk.rfl (WkL.cons (Wk.nil 1) (WkL.cons (Wk.nil 5) WkL.nil)))))
theorem wk_xp2 {k m : Int} {n : Bs} {a b : Xp} : Wk (.agg [.d (.i .i64 k), .d (.i .i64 m), .d (.s n), .d (.v (.slice none 0 0)), .d (.sf 5 [cXp a, cXp b])]) (aXp (.mk k m ⟨n, []⟩ [a, b])) := by
  have e : [cXp a, cXp b] = [a, b].map dXp := by simp [dXp_eq]
  exact Wk.agg (WkL.cons Wk.rfl (WkL.cons Wk.rfl (WkL.cons Wk.rfl (WkL.cons (Wk.nil 1) (WkL.cons (Wk.d (by rw [e]; exact DW.sf)) WkL.nil)))))
abbrev bTy (t : Ty) : Obj := .cells [.d (.sl 1 (t.kids.map dTy))]
/-- an expression's cells, all nothing -/
abbrev bXp0 : Obj := .cells [.d (.i .i64 0), .d (.i .i64 0), .d (.s []), .d (.v (.slice none 0 0)), .d (.v (.slice none 0 0))]

/-- (*l71Mk).expr -/
def S_s_l71Mk_expr (n : Nat) : Spec := fun args O Q => ∃ (l : List UInt8) (p last : Int) (e : En) (t : Ty) (d : Int), args = [.ptr 0 0, aTy t, iv d] ∧ O = oMk l p e last ∧ l.length ≤ 2000 ∧ 0 ≤ p ∧ 1 ≤ d ∧ d < n ∧ n ≤ 10 ∧ p + 200 * 2 ^ d.toNat + 400 ≤ 1000000000 ∧ EnOk e ∧ TyV e.vars ∧ tyOk 4 t = true ∧
  ∀ (x : Xp) (p' : Int), xpOk d.toNat x → p ≤ p' → p' ≤ p + 200 * 2 ^ d.toNat - 100 → Q (aXp x) (oMk l p' e last)
theorem v_s_l71Mk_expr {B : World} : ∀ n, Valid PG B s_l71Mk_expr (S_s_l71Mk_expr n) := by
  refine valid_lt (fun args O Q ⟨l, p, last, e, t, d, _, _, _, _, h1, h2, _⟩ => by omega) fun n ih => ?_
  refine valid_of (Γ := [(s_l71Mk_place, ⟨[], S_s_l71Mk_place⟩), (s_l1Same, ⟨[], S_s_l1Same 5⟩), (s_l71Mk_expr, ⟨[], S_s_l71Mk_expr n⟩), (s_l6Rd_pick, ⟨[], S_s_l6Rd_pick⟩)]) wide tok ((((AllValid.nil.cons v_s_l6Rd_pick).cons ih).cons (v_s_l1Same 5)).cons v_s_l71Mk_place) g_s_l71Mk_expr rfl rfl ?_
  rintro _ _ Q ⟨l, p, last, e, t, d, rfl, rfl, hl, h0, hd1, hdn, hn, hp, he, ht, htt, hQ⟩
  obtain ⟨D, hD⟩ : ∃ D, d.toNat = D + 1 := ⟨d.toNat - 1, by omega⟩
  have hD1 : (d - 1).toNat = D := by omega
  have h2 : (1 : Int) ≤ 2 ^ D := by
    have : 1 ≤ 2 ^ D := Nat.one_le_two_pow
    exact_mod_cast this
  rw [hD] at hp hQ
  rw [Int.pow_succ] at hp hQ
  generalize hX : (2 : Int) ^ D = X at *
  rcases tyOk_two htt with rfl | ⟨j, a, b, hj, rfl, ha, hb⟩
  · refine wG ?_
    refine Br.no (by rfl) ?_
    refine wG ?_
    refine ⟨_, _, WkL.rfl, WkOs.rfl, l, p, 6, hl, h0, by omega, by omega, rfl, rfl, ?_⟩
    intro k _ hk
    obtain ⟨hk0, hk1⟩ := hk (by omega)
    refine goG1 ?_
    refine brG1 (fun h3 => ?_) (fun h3 => ?_)
    · refine goG1 ?_
      left
      refine wG ?_
      refine goG1 ?_
      refine ⟨_, _, WkL.rfl, WkOs.rfl, l, p + 1, 6, hl, by omega, by omega, by omega, rfl, rfl, ?_⟩
      intro k2 _ hk2
      obtain ⟨hk20, hk21⟩ := hk2 (by omega)
      obtain ⟨c, _, hc⟩ := pick_lit [0, 1, 1, 2, 5, 90] hk20 hk21
      refine goG1 ?_
      refine ⟨_, hc, ?_⟩
      refine wG ?_
      refine endK ⟨[], ⟨rfl, rfl⟩, ?_⟩
      refine wG ?_
      exact ⟨_, _, wk_xp1, WkOs.rfl, hQ (.mk 1 (c) ⟨[], []⟩ []) (p + 1 + 1) ⟨by simp, .inl rfl⟩ (by omega) (by omega)⟩
    refine brG1 (fun h4 => ?_) (fun h4 => ?_)
    · refine brG1 (fun h5 => ?_) (fun h5 => ?_)
      · refine goG1 ?_
        left
        refine wG ?_
        refine goG1 ?_
        refine ⟨_, _, WkL.rfl, WkOs.rfl, l, p + 1, 6, hl, by omega, by omega, by omega, rfl, rfl, ?_⟩
        intro k2 _ hk2
        obtain ⟨hk20, hk21⟩ := hk2 (by omega)
        obtain ⟨c, _, hc⟩ := pick_lit [0, 1, 1, 2, 5, 90] hk20 hk21
        refine goG1 ?_
        refine ⟨_, hc, ?_⟩
        refine wG ?_
        refine endK ⟨[], ⟨rfl, rfl⟩, ?_⟩
        refine wG ?_
        exact ⟨_, _, wk_xp1, WkOs.rfl, hQ (.mk 1 (c) ⟨[], []⟩ []) (p + 1 + 1) ⟨by simp, .inl rfl⟩ (by omega) (by omega)⟩
      refine brG1 (fun h6 => ?_) (fun h6 => ?_)
      · refine goG1 ?_
        refine ⟨[], Int × Int, fun x => 0 ≤ x.2 ∧ x.2 ≤ 4 ∧ p + 1 ≤ x.1 ∧ x.1 ≤ p + 1 + 20 * x.2, fun x => (4 - x.2).toNat, fun x => [(11, iv x.2)], fun x => oMk l x.1 e last ++ [bTy (.mk []), bXp0], (p + 1, 0), ⟨by dsimp only; omega, by dsimp only; omega, by dsimp only; omega, by dsimp only; omega⟩, ?_⟩
        refine wG ?_
        refine ⟨Meet.mk rfl rfl WkOs.rfl ⟨Wk.rfl, trivial⟩ rfl, ?_⟩
        rintro ⟨p1, i⟩ ⟨i0, i1, i2, i3⟩
        dsimp only at i0 i1 i2 i3
        refine wG ?_
        refine brG1 (fun h7 => ?_) (fun h7 => ?_)
        · refine ⟨_, _, WkL.rfl, WkOs.rfl, l, p1, last, e, rfl, rfl, hl, by omega, by omega, he, ht, ?_⟩
          intro q u p2 hq hu g1 g2
          refine goG1 ?_
          refine brG1 (fun h8 => ?_) (fun h8 => ?_)
          · refine goG1 ?_
            refine ⟨fun h9 => ?_, fun h9 => ?_⟩
            · refine wG ?_
              refine goG1 ?_
              refine endK ⟨[], ⟨rfl, rfl⟩, ?_⟩
              refine wG ?_
              exact ⟨_, _, wk_xp0, WkOs.rfl, hQ (.mk 2 0 q []) p2 ⟨by omega, .inr (.inl rfl)⟩ (by omega) (by omega)⟩
            · refine wG ?_
              refine goG1 ?_
              refine ⟨(p2, i + 1), ⟨by dsimp only; omega, by dsimp only; omega, by dsimp only; omega, by dsimp only; omega⟩, by dsimp only; omega, [], Meet.mk rfl rfl WkOs.rfl ⟨Wk.rfl, trivial⟩ rfl⟩
          · refine goG1 ?_
            refine ⟨(p2, i + 1), ⟨by dsimp only; omega, by dsimp only; omega, by dsimp only; omega, by dsimp only; omega⟩, by dsimp only; omega, [], Meet.mk rfl rfl WkOs.rfl ⟨Wk.rfl, trivial⟩ rfl⟩
        · refine goG1 ?_
          refine endK ⟨[], ⟨rfl, rfl⟩, ?_⟩
          refine wG ?_
          exact ⟨_, _, wk_xp1, WkOs.rfl, hQ (.mk 1 (1) ⟨[], []⟩ []) (p1) ⟨by simp, .inl rfl⟩ (by omega) (by omega)⟩
      · omega
    · refine brG1 (fun h6 => ?_) (fun h6 => ?_)
      · refine goG1 ?_
        refine ⟨[], Int × Int, fun x => 0 ≤ x.2 ∧ x.2 ≤ 4 ∧ p + 1 ≤ x.1 ∧ x.1 ≤ p + 1 + 20 * x.2, fun x => (4 - x.2).toNat, fun x => [(11, iv x.2)], fun x => oMk l x.1 e last ++ [bTy (.mk []), bXp0], (p + 1, 0), ⟨by dsimp only; omega, by dsimp only; omega, by dsimp only; omega, by dsimp only; omega⟩, ?_⟩
        refine wG ?_
        refine ⟨Meet.mk rfl rfl WkOs.rfl ⟨Wk.rfl, trivial⟩ rfl, ?_⟩
        rintro ⟨p1, i⟩ ⟨i0, i1, i2, i3⟩
        dsimp only at i0 i1 i2 i3
        refine wG ?_
        refine brG1 (fun h7 => ?_) (fun h7 => ?_)
        · refine ⟨_, _, WkL.rfl, WkOs.rfl, l, p1, last, e, rfl, rfl, hl, by omega, by omega, he, ht, ?_⟩
          intro q u p2 hq hu g1 g2
          refine goG1 ?_
          refine brG1 (fun h8 => ?_) (fun h8 => ?_)
          · refine goG1 ?_
            refine ⟨fun h9 => ?_, fun h9 => ?_⟩
            · refine wG ?_
              refine goG1 ?_
              refine endK ⟨[], ⟨rfl, rfl⟩, ?_⟩
              refine wG ?_
              exact ⟨_, _, wk_xp0, WkOs.rfl, hQ (.mk 2 0 q []) p2 ⟨by omega, .inr (.inl rfl)⟩ (by omega) (by omega)⟩
            · refine wG ?_
              refine goG1 ?_
              refine ⟨(p2, i + 1), ⟨by dsimp only; omega, by dsimp only; omega, by dsimp only; omega, by dsimp only; omega⟩, by dsimp only; omega, [], Meet.mk rfl rfl WkOs.rfl ⟨Wk.rfl, trivial⟩ rfl⟩
          · refine goG1 ?_
            refine ⟨(p2, i + 1), ⟨by dsimp only; omega, by dsimp only; omega, by dsimp only; omega, by dsimp only; omega⟩, by dsimp only; omega, [], Meet.mk rfl rfl WkOs.rfl ⟨Wk.rfl, trivial⟩ rfl⟩
        · refine goG1 ?_
          refine endK ⟨[], ⟨rfl, rfl⟩, ?_⟩
          refine wG ?_
          exact ⟨_, _, wk_xp1, WkOs.rfl, hQ (.mk 1 (1) ⟨[], []⟩ []) (p1) ⟨by simp, .inl rfl⟩ (by omega) (by omega)⟩
      · left
        refine wG ?_
        refine goG1 ?_
        refine ⟨_, _, WkL.rfl, WkOs.rfl, l, p + 1, 5, hl, by omega, by omega, by omega, rfl, rfl, ?_⟩
        intro k2 _ hk2
        obtain ⟨hk20, hk21⟩ := hk2 (by omega)
        obtain ⟨c, hcm, hc⟩ := pick_lit [3, 3, 3, 5, 4] hk20 hk21
        have hc1 : c ≠ 1 := by rintro rfl; simp at hcm
        have hc2 : c ≠ 2 := by rintro rfl; simp at hcm
        refine goG1 ?_
        refine ⟨_, hc, ?_⟩
        refine wG ?_
        refine goG1 ?_
        refine ⟨_, _, WkL.rfl, WkOs.rfl, l, p + 1 + 1, last, e, .mk [], d - 1, rfl, rfl, hl, by omega, by omega, by omega, by omega, by rw [hD1, hX]; omega, he, ht, rfl, ?_⟩
        rw [hD1, hX]
        intro x p2 hx g1 g2
        refine goG1 ?_
        refine ⟨_, _, WkL.rfl, WkOs.rfl, l, p2, last, e, .mk [], d - 1, rfl, rfl, hl, by omega, by omega, by omega, by omega, by rw [hD1, hX]; omega, he, ht, rfl, ?_⟩
        rw [hD1, hX]
        intro y p3 hy g3 g4
        refine goG1 ?_
        left
        refine wG ?_
        refine goG1 ?_
        refine endK ⟨[], ⟨rfl, rfl⟩, ?_⟩
        refine wG ?_
        exact ⟨_, _, wk_xp2, WkOs.rfl, hQ (.mk c 0 ⟨[], []⟩ [x, y]) p3 ⟨by simp, .inr (.inr ⟨hc1, hc2, x, y, [], rfl, hx, hy⟩)⟩ (by omega) (by omega)⟩
  · refine wG ?_
    refine Br.yes (by rfl) ?_
    refine wG ?_
    refine ⟨[], Int × Int, fun x => 0 ≤ x.2 ∧ x.2 ≤ 3 ∧ p ≤ x.1 ∧ x.1 ≤ p + 20 * x.2, fun x => (3 - x.2).toNat, fun x => [(7, iv x.2)], fun x => oMk l x.1 e last ++ [bTy (.mk [a, b]), bXp0], (p, 0), ⟨by dsimp only; omega, by dsimp only; omega, by dsimp only; omega, by dsimp only; omega⟩, ?_⟩
    refine wG ?_
    refine ⟨Meet.mk rfl rfl WkOs.rfl ⟨Wk.rfl, trivial⟩ rfl, ?_⟩
    rintro ⟨p1, i⟩ ⟨i0, i1, i2, i3⟩
    dsimp only at i0 i1 i2 i3
    refine wG ?_
    refine brG1 (fun h4 => ?_) (fun h4 => ?_)
    · refine ⟨_, _, WkL.rfl, WkOs.rfl, l, p1, last, e, rfl, rfl, hl, by omega, by omega, he, ht, ?_⟩
      intro q u p2 hq hu g1 g2
      refine goG1 ?_
      refine ⟨_, _, WkL.rfl, WkOs.rfl, u, .mk [a, b], 4, rfl, rfl, by omega, hu, ?_⟩
      refine goG1 ?_
      refine brG1 (fun h5 => ?_) (fun h5 => ?_)
      · refine goG1 ?_
        refine endK ⟨[], ⟨rfl, rfl⟩, ?_⟩
        refine wG ?_
        exact ⟨_, _, wk_xp0, WkOs.rfl, hQ (.mk 2 0 q []) p2 ⟨by omega, .inr (.inl rfl)⟩ (by omega) (by omega)⟩
      · refine goG1 ?_
        refine ⟨(p2, i + 1), ⟨by dsimp only; omega, by dsimp only; omega, by dsimp only; omega, by dsimp only; omega⟩, by dsimp only; omega, [], Meet.mk rfl rfl WkOs.rfl ⟨Wk.rfl, trivial⟩ rfl⟩
    · refine brG1 (fun h5 => ?_) (fun h5 => ?_)
      · refine goG1 ?_
        refine endK ⟨[], ⟨rfl, rfl⟩, ?_⟩
        refine wG ?_
        exact ⟨_, _, wk_xp1, WkOs.rfl, hQ (.mk 2 0 ⟨[110, 111, 110, 101], []⟩ []) p1 ⟨by simp, .inr (.inl rfl)⟩ (by omega) (by omega)⟩
      · have hak : [a, b].map dTy = [dTy a, dTy b] := rfl
        refine goG1 ?_
        refine ⟨dTy a, rfl, ?_⟩
        rw [dTy_eq]
        refine wG ?_
        refine goG1 ?_
        refine ⟨dTy b, rfl, ?_⟩
        rw [dTy_eq]
        refine wG ?_
        refine goG1 ?_
        refine ⟨_, _, WkL.rfl, WkOs.rfl, l, p1, last, e, a, d - 1, rfl, rfl, hl, by omega, by omega, by omega, by omega, by rw [hD1, hX]; omega, he, ht, tyOk_mono (by omega) ha, ?_⟩
        rw [hD1, hX]
        intro x p2 hx g1 g2
        repeat (first | (refine Req.mk (by (((conv => (whnf)); (try (refine AnyG.skip ?_; (conv => (whnf)))))); refine ⟨dTy a, rfl, ?_⟩; rw [dTy_eq]; (((conv => (whnf)); (try (refine AnyG.skip ?_; (conv => (whnf)))))); exact Wk.rfl) ?_; ((conv => (whnf)); (try (refine AnyG.skip ?_; (conv => (whnf)))))) | (refine Req.mk (by (((conv => (whnf)); (try (refine AnyG.skip ?_; (conv => (whnf)))))); refine Req.mk (by omega) ?_; refine ⟨dTy b, rfl, ?_⟩; rw [dTy_eq]; (((conv => (whnf)); (try (refine AnyG.skip ?_; (conv => (whnf)))))); exact Wk.rfl) ?_; ((conv => (whnf)); (try (refine AnyG.skip ?_; (conv => (whnf)))))) | (refine Req.mk (by omega) ?_; ((conv => (whnf)); (try (refine AnyG.skip ?_; (conv => (whnf)))))) | (refine Req.mk (Nat.le_of_ble_eq_true rfl) ?_; ((conv => (whnf)); (try (refine AnyG.skip ?_; (conv => (whnf)))))) | (refine Req.mk (by (((conv => (whnf)); (try (refine AnyG.skip ?_; (conv => (whnf)))))); (try (refine rng_i64 (by omega) (by omega) ?_; ((conv => (whnf)); (try (refine AnyG.skip ?_; (conv => (whnf))))))); exact Wk.rfl) ?_; ((conv => (whnf)); (try (refine AnyG.skip ?_; (conv => (whnf)))))))
        refine ⟨_, _, WkL.rfl, WkOs.rfl, l, p2, last, e, b, d - 1, rfl, rfl, hl, by omega, by omega, by omega, by omega, by rw [hD1, hX]; omega, he, ht, tyOk_mono (by omega) hb, ?_⟩
        rw [hD1, hX]
        intro y p3 hy g3 g4
        repeat (first | (refine Req.mk (by (((conv => (whnf)); (try (refine AnyG.skip ?_; (conv => (whnf)))))); refine ⟨dTy a, rfl, ?_⟩; rw [dTy_eq]; (((conv => (whnf)); (try (refine AnyG.skip ?_; (conv => (whnf)))))); exact Wk.rfl) ?_; ((conv => (whnf)); (try (refine AnyG.skip ?_; (conv => (whnf)))))) | (refine Req.mk (by (((conv => (whnf)); (try (refine AnyG.skip ?_; (conv => (whnf)))))); refine Req.mk (by omega) ?_; refine ⟨dTy b, rfl, ?_⟩; rw [dTy_eq]; (((conv => (whnf)); (try (refine AnyG.skip ?_; (conv => (whnf)))))); exact Wk.rfl) ?_; ((conv => (whnf)); (try (refine AnyG.skip ?_; (conv => (whnf)))))) | (refine Req.mk (by omega) ?_; ((conv => (whnf)); (try (refine AnyG.skip ?_; (conv => (whnf)))))) | (refine Req.mk (Nat.le_of_ble_eq_true rfl) ?_; ((conv => (whnf)); (try (refine AnyG.skip ?_; (conv => (whnf)))))) | (refine Req.mk (by (((conv => (whnf)); (try (refine AnyG.skip ?_; (conv => (whnf)))))); (try (refine rng_i64 (by omega) (by omega) ?_; ((conv => (whnf)); (try (refine AnyG.skip ?_; (conv => (whnf))))))); exact Wk.rfl) ?_; ((conv => (whnf)); (try (refine AnyG.skip ?_; (conv => (whnf)))))))
        left
        refine wG ?_
        repeat (first | (refine Req.mk (by (((conv => (whnf)); (try (refine AnyG.skip ?_; (conv => (whnf)))))); refine ⟨dTy a, rfl, ?_⟩; rw [dTy_eq]; (((conv => (whnf)); (try (refine AnyG.skip ?_; (conv => (whnf)))))); exact Wk.rfl) ?_; ((conv => (whnf)); (try (refine AnyG.skip ?_; (conv => (whnf)))))) | (refine Req.mk (by (((conv => (whnf)); (try (refine AnyG.skip ?_; (conv => (whnf)))))); refine Req.mk (by omega) ?_; refine ⟨dTy b, rfl, ?_⟩; rw [dTy_eq]; (((conv => (whnf)); (try (refine AnyG.skip ?_; (conv => (whnf)))))); exact Wk.rfl) ?_; ((conv => (whnf)); (try (refine AnyG.skip ?_; (conv => (whnf)))))) | (refine Req.mk (by omega) ?_; ((conv => (whnf)); (try (refine AnyG.skip ?_; (conv => (whnf)))))) | (refine Req.mk (Nat.le_of_ble_eq_true rfl) ?_; ((conv => (whnf)); (try (refine AnyG.skip ?_; (conv => (whnf)))))) | (refine Req.mk (by (((conv => (whnf)); (try (refine AnyG.skip ?_; (conv => (whnf)))))); (try (refine rng_i64 (by omega) (by omega) ?_; ((conv => (whnf)); (try (refine AnyG.skip ?_; (conv => (whnf))))))); exact Wk.rfl) ?_; ((conv => (whnf)); (try (refine AnyG.skip ?_; (conv => (whnf)))))))
        refine endK ⟨[], ⟨rfl, rfl⟩, ?_⟩
        refine wG ?_
        exact ⟨_, _, wk_xp2, WkOs.rfl, hQ (.mk 6 0 ⟨[], []⟩ [x, y]) p3 ⟨by simp, .inr (.inr ⟨by omega, by omega, x, y, [], rfl, hx, hy⟩)⟩ (by omega) (by omega)⟩
end Ab
