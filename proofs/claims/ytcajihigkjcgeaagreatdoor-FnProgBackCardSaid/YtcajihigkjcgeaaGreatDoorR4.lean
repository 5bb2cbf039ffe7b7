/- The program's reader, third part: expressions. -/
import Derived.Test.YtcajihigkjcgeaaGreatDoorSyn
import Derived.Test.YtcajihigkjcgeaaGreatDoorR2
import Derived.Lib.AtoiAllCases
set_option linter.all false
namespace Ab
open Go Go.Proofs
set_option maxRecDepth 10000
set_option maxHeartbeats 4000000
set_option linter.all false

theorem num_app : ∀ (l : List UInt8) (acc v k : Nat), k < 10 → v < 1844674407370955161 → Lib.parseUint10 acc l = .ok v → Lib.parseUint10 acc (l ++ [UInt8.ofNat (48 + k)]) = .ok (v * 10 + k)
  | [], acc, v, k, hk, hv, h => by
    simp only [Lib.parseUint10] at h
    injection h with h
    subst h
    have hd := digit_val k hk
    simp only [List.nil_append, Lib.parseUint10, hd]
    rw [if_pos (by omega), if_neg (by omega), if_neg (by omega)]
    congr 1; omega
  | c :: r, acc, v, k, hk, hv, h => by
    simp only [List.cons_append, Lib.parseUint10] at h ⊢
    split at h
    · rename_i hc
      rw [if_pos hc]
      split at h
      · cases h
      · rename_i h2
        rw [if_neg h2]
        split at h
        · cases h
        · rename_i h3
          rw [if_neg h3]
          exact num_app r _ v k hk hv h
    · cases h

theorem num_dec : ∀ (n u : Nat), u < n → u < 1000000 → Lib.parseUint10 0 (Lib.decDigits u) = .ok u
  | 0, u, h, _ => by omega
  | n + 1, u, h, h' => by
    rw [Lib.decDigits]
    split
    · rename_i hu
      have := num_app [] 0 0 u hu (by omega) rfl
      simpa using this
    · rename_i hu
      have ih := num_dec n (u / 10) (by omega) (by omega)
      have := num_app _ 0 _ (u % 10) (Nat.mod_lt _ (by omega)) (by omega) ih
      rw [this]
      congr 1; omega

theorem num_atoi (u : Nat) (h : u < 1000000) : Lib.atoiAll (Lib.decDigits u) = .ok (u : Int) := by
  have hp := num_dec (u + 1) u (by omega) h
  have hd := dig_dec u
  cases hl : Lib.decDigits u with
  | nil => exact absurd hl (dec_ne u)
  | cons c r =>
    rw [hl] at hp hd
    have hc := hd c (by simp)
    rw [Lib.atoiAll_plain c r (by omega) (by omega)]
    have : Lib.parseMag (c :: r) = .ok u := by
      unfold Lib.parseMag
      rw [if_neg (by simp)]; exact hp
    rw [this]
    unfold Lib.signless
    simp only
    first | rw [if_neg (by omega)] | (split <;> first | omega | rfl)
theorem dec_not (v : Int) (c : UInt8) (h : c.toNat < 48 ∨ 57 < c.toNat) : (dec v == [c]) = false := by
  rw [beq_eq_false_iff_ne]
  intro e
  have := dig_dec v.toNat c (by rw [show Lib.decDigits v.toNat = [c] from e]; simp)
  omega
theorem dec_at (v : Int) : Lib.hasPrefix (dec v) [64] = false := by
  cases hl : dec v with
  | nil => simp [Lib.hasPrefix, List.isPrefixOf]
  | cons c r =>
    have := dig_dec v.toNat c (by rw [show Lib.decDigits v.toNat = c :: r from hl]; simp)
    have : (64 : UInt8) ≠ c := fun e => by subst e; simp at this
    simp [Lib.hasPrefix, List.isPrefixOf, this]
theorem wSay_len : ∀ {n : Nat} {x : Xp}, XpF n x → (wSay n x).length + 1 ≤ 2 ^ n := by
  intro n x h
  induction h with
  | @num n _ _ _ => rw [wSay_1]; have := Nat.one_le_two_pow (n := n); rw [Nat.pow_succ]; simp; omega
  | @read n _ _ => rw [wSay_2]; have := Nat.one_le_two_pow (n := n); rw [Nat.pow_succ]; simp; omega
  | two h1 _ _ _ ia ib => rw [wSay_3 _ _ _ _ _ h1, Nat.pow_succ]; simp; omega
/-- what reads an expression -/
def S_i_expr (n : Nat) : Spec := fun args O Q => ∃ (wl : List (List Bs)) (i : Nat) (x : Xp) (m : Nat) (rest : List Bs) (d : Int), args = [.ptr 0 0, .d (.sl 1 ((wSay m x ++ rest).map dS)), iv d] ∧ O = [rdO wl i] ∧ m < n ∧ m ≤ d ∧ d ≤ 100 ∧ XpF m x ∧ rest.length + 2 ^ m ≤ 100000 ∧ Q (.tup [aXp x, .d (.sl 1 (rest.map dS))]) [rdO wl i]
theorem v_i_expr {B : World} (hB : TabM B) : ∀ n, Valid PG B i_progReader_expr (S_i_expr n) := by
  refine valid_lt (fun args O Q ⟨_, _, x, m, _, _, _, _, h, _⟩ => by omega) fun n ih => ?_
  refine valid_of (Γ := [(i_progReader_expr, ⟨[], S_i_expr n⟩), (i_progReader_place, ⟨[], S_i_place⟩), (x_strings_CutPrefix, ⟨[], S_x_strings_CutPrefix⟩), (x_strconv_Atoi, ⟨[], S_x_strconv_Atoi⟩)]) wide tok ((((AllValid.nil.cons (v_x_strconv_Atoi hB.1)).cons v_x_strings_CutPrefix).cons (v_i_place hB)).cons ih) g_i_progReader_expr rfl rfl ?_
  rintro _ _ Q ⟨wl, i, x, m, rest, d, rfl, rfl, hm, hd, hd1, hx, hr, hQ⟩
  have hlen := wSay_len hx
  cases hx with
  | @num m v h1 h2 =>
    rw [wSay_1] at hlen ⊢
    refine wG ?_
    refine goG2 ?_
    refine Br.no (by (simp; omega)) ?_
    refine wG ?_
    refine goG2 ?_
    refine Br.no (by (simp; omega)) ?_
    refine wG ?_
    refine goG2 ?_
    refine ⟨dS (dec v), rfl, ?_⟩
    rw [dS_eq]
    refine wG ?_
    refine agG2 ?_
    refine Br.no (by exact dec_not v 43 (by decide)) ?_
    refine wG ?_
    refine goG2 ?_
    refine Br.no (by exact dec_not v 45 (by decide)) ?_
    refine wG ?_
    refine goG2 ?_
    refine Br.no (by exact dec_not v 60 (by decide)) ?_
    refine wG ?_
    refine goG2 ?_
    refine Br.no (by exact dec_not v 44 (by decide)) ?_
    refine wG ?_
    refine goG2 ?_
    refine Br.no (by rfl) ?_
    refine wG ?_
    refine goG2 ?_
    refine ⟨_, _, WkL.rfl, WkOs.rfl, dec v, [64], rfl, ?_⟩
    refine goG2 ?_
    refine Br.no (by exact dec_at v) ?_
    refine wG ?_
    refine goG2 ?_
    have hv : Lib.atoiAll (dec v) = .ok v := by
      have := num_atoi v.toNat (by omega)
      rw [dec, this]; congr 1; omega
    have hdl := dec_len 5 v.toNat (by omega)
    have hdl : (dec v).length ≤ 6 := hdl
    refine ⟨_, _, WkL.rfl, WkOs.rfl, dec v, by omega, rfl, (fun u hu => ?_), (fun hn => absurd hv (hn _))⟩
    rw [hv] at hu
    injection hu with hu
    subst hu
    refine goG2 ?_
    refine endK ⟨[], ⟨rfl, rfl⟩, ?_⟩
    refine wG ?_
    refine ⟨_, _, Wk.tup (WkL.cons (Wk.agg (WkL.cons Wk.rfl (WkL.cons Wk.rfl (WkL.cons Wk.rfl (WkL.cons (Wk.nil _) (WkL.cons (Wk.nil _) WkL.nil)))))) (WkL.cons (Wk.d (DW.sl (DWRows.rfl_of (by rw [List.take_length]; simp)))) WkL.nil)), WkOs.rfl, hQ⟩
  | @read m p h =>
    rw [wSay_2] at hlen ⊢
    refine wG ?_
    refine goG2 ?_
    refine Br.no (by (simp; omega)) ?_
    refine wG ?_
    refine goG2 ?_
    refine Br.no (by (simp; omega)) ?_
    refine wG ?_
    refine goG2 ?_
    refine ⟨dS (64 :: atS p), rfl, ?_⟩
    rw [dS_eq]
    refine wG ?_
    refine agG2 ?_
    refine Br.no (by simp) ?_
    refine wG ?_
    refine goG2 ?_
    refine Br.no (by simp) ?_
    refine wG ?_
    refine goG2 ?_
    refine Br.no (by simp) ?_
    refine wG ?_
    refine goG2 ?_
    refine Br.no (by simp) ?_
    refine wG ?_
    refine goG2 ?_
    refine Br.no (by rfl) ?_
    refine wG ?_
    refine goG2 ?_
    refine ⟨_, _, WkL.rfl, WkOs.rfl, 64 :: atS p, [64], rfl, ?_⟩
    refine goG2 ?_
    refine Br.yes (by simp [Lib.hasPrefix, List.isPrefixOf]) ?_
    refine wG ?_
    refine goG2 ?_
    have tp : Lib.trimPrefix (64 :: atS p) [64] = atS p := by simp [Lib.trimPrefix, Lib.hasPrefix, List.isPrefixOf]
    refine ⟨_, _, (WkL.cons Wk.rfl (WkL.cons (Wk.of_eq (by rw [tp])) WkL.nil)), WkOs.rfl, wl, i, p, rfl, rfl, h, ?_⟩
    refine goG2 ?_
    refine endK ⟨[], ⟨rfl, rfl⟩, ?_⟩
    refine wG ?_
    refine ⟨_, _, Wk.tup (WkL.cons (Wk.agg (WkL.cons Wk.rfl (WkL.cons Wk.rfl (WkL.cons Wk.rfl (WkL.cons Wk.rfl (WkL.cons (Wk.nil _) WkL.nil)))))) (WkL.cons (Wk.d (DW.sl (DWRows.rfl_of (by rw [List.take_length]; simp)))) WkL.nil)), WkOs.rfl, hQ⟩
  | @two m k a b h1 h2 ha hb =>
    rw [wSay_3 _ _ _ _ _ h1] at hlen ⊢
    have la := wSay_len ha
    have lb := wSay_len hb
    rw [Nat.pow_succ] at hr hlen
    refine wG ?_
    refine goG2 ?_
    refine Br.no (by (simp; omega)) ?_
    refine wG ?_
    refine goG2 ?_
    refine Br.no (by (simp; omega)) ?_
    refine wG ?_
    refine goG2 ?_
    refine ⟨dS (sign k), rfl, ?_⟩
    rw [dS_eq]
    refine wG ?_
    refine agG2 ?_
    have fin : sign k = [43] ∧ k = 3 ∨ sign k = [45] ∧ k = 4 ∨ sign k = [60] ∧ k = 5 ∨ sign k = [44] ∧ k = 6 := by
      have : k = 3 ∨ k = 4 ∨ k = 5 ∨ k = 6 := by omega
      rcases this with rfl | rfl | rfl | rfl <;> simp [sign]
    rcases fin with ⟨hs, rfl⟩ | ⟨hs, rfl⟩ | ⟨hs, rfl⟩ | ⟨hs, rfl⟩
    · refine Br.yes (by (rw [hs]; rfl)) ?_
      refine wG ?_
      refine goG2 ?_
      refine Br.yes (by rfl) ?_
      refine wG ?_
      refine goG2 ?_
      refine ⟨_, _, (WkL.cons Wk.rfl (WkL.cons (Wk.d (DW.sl (DWRows.rfl_of (by rw [List.take_length]; simp)))) WkL.rfl)), WkOs.rfl, wl, i, a, m, wSay m b ++ rest, d - 1, rfl, rfl, by omega, by omega, by omega, ha, by simp only [List.length_append]; omega, ?_⟩
      refine goG2 ?_
      refine ⟨_, _, WkL.rfl, WkOs.rfl, wl, i, b, m, rest, d - 1, rfl, rfl, by omega, by omega, by omega, hb, by omega, ?_⟩
      refine goG2 ?_
      left
      refine wG ?_
      refine goG2 ?_
      refine endK ⟨[], ⟨rfl, rfl⟩, ?_⟩
      refine wG ?_
      refine ⟨_, _, Wk.tup (WkL.cons (Wk.agg (WkL.cons Wk.rfl (WkL.cons Wk.rfl (WkL.cons Wk.rfl (WkL.cons (Wk.nil _) (WkL.cons (Wk.d (DW.sf.trans (DW.sl (DWRows.rfl_of ?_)))) WkL.nil)))))) WkL.rfl), WkOs.rfl, hQ⟩
      simp [dXp_eq, Xp.kids]
    · refine Br.no (by (rw [hs]; rfl)) ?_
      refine wG ?_
      refine goG2 ?_
      refine Br.yes (by (rw [hs]; rfl)) ?_
      refine wG ?_
      refine goG2 ?_
      refine Br.yes (by rfl) ?_
      refine wG ?_
      refine goG2 ?_
      refine ⟨_, _, (WkL.cons Wk.rfl (WkL.cons (Wk.d (DW.sl (DWRows.rfl_of (by rw [List.take_length]; simp)))) WkL.rfl)), WkOs.rfl, wl, i, a, m, wSay m b ++ rest, d - 1, rfl, rfl, by omega, by omega, by omega, ha, by simp only [List.length_append]; omega, ?_⟩
      refine goG2 ?_
      refine ⟨_, _, WkL.rfl, WkOs.rfl, wl, i, b, m, rest, d - 1, rfl, rfl, by omega, by omega, by omega, hb, by omega, ?_⟩
      refine goG2 ?_
      left
      refine wG ?_
      refine goG2 ?_
      refine endK ⟨[], ⟨rfl, rfl⟩, ?_⟩
      refine wG ?_
      refine ⟨_, _, Wk.tup (WkL.cons (Wk.agg (WkL.cons Wk.rfl (WkL.cons Wk.rfl (WkL.cons Wk.rfl (WkL.cons (Wk.nil _) (WkL.cons (Wk.d (DW.sf.trans (DW.sl (DWRows.rfl_of ?_)))) WkL.nil)))))) WkL.rfl), WkOs.rfl, hQ⟩
      simp [dXp_eq, Xp.kids]
    · refine Br.no (by (rw [hs]; rfl)) ?_
      refine wG ?_
      refine goG2 ?_
      refine Br.no (by (rw [hs]; rfl)) ?_
      refine wG ?_
      refine goG2 ?_
      refine Br.yes (by (rw [hs]; rfl)) ?_
      refine wG ?_
      refine goG2 ?_
      refine Br.yes (by rfl) ?_
      refine wG ?_
      refine goG2 ?_
      refine ⟨_, _, (WkL.cons Wk.rfl (WkL.cons (Wk.d (DW.sl (DWRows.rfl_of (by rw [List.take_length]; simp)))) WkL.rfl)), WkOs.rfl, wl, i, a, m, wSay m b ++ rest, d - 1, rfl, rfl, by omega, by omega, by omega, ha, by simp only [List.length_append]; omega, ?_⟩
      refine goG2 ?_
      refine ⟨_, _, WkL.rfl, WkOs.rfl, wl, i, b, m, rest, d - 1, rfl, rfl, by omega, by omega, by omega, hb, by omega, ?_⟩
      refine goG2 ?_
      left
      refine wG ?_
      refine goG2 ?_
      refine endK ⟨[], ⟨rfl, rfl⟩, ?_⟩
      refine wG ?_
      refine ⟨_, _, Wk.tup (WkL.cons (Wk.agg (WkL.cons Wk.rfl (WkL.cons Wk.rfl (WkL.cons Wk.rfl (WkL.cons (Wk.nil _) (WkL.cons (Wk.d (DW.sf.trans (DW.sl (DWRows.rfl_of ?_)))) WkL.nil)))))) WkL.rfl), WkOs.rfl, hQ⟩
      simp [dXp_eq, Xp.kids]
    · refine Br.no (by (rw [hs]; rfl)) ?_
      refine wG ?_
      refine goG2 ?_
      refine Br.no (by (rw [hs]; rfl)) ?_
      refine wG ?_
      refine goG2 ?_
      refine Br.no (by (rw [hs]; rfl)) ?_
      refine wG ?_
      refine goG2 ?_
      refine Br.yes (by (rw [hs]; rfl)) ?_
      refine wG ?_
      refine goG2 ?_
      refine Br.yes (by rfl) ?_
      refine wG ?_
      refine goG2 ?_
      refine ⟨_, _, (WkL.cons Wk.rfl (WkL.cons (Wk.d (DW.sl (DWRows.rfl_of (by rw [List.take_length]; simp)))) WkL.rfl)), WkOs.rfl, wl, i, a, m, wSay m b ++ rest, d - 1, rfl, rfl, by omega, by omega, by omega, ha, by simp only [List.length_append]; omega, ?_⟩
      refine goG2 ?_
      refine ⟨_, _, WkL.rfl, WkOs.rfl, wl, i, b, m, rest, d - 1, rfl, rfl, by omega, by omega, by omega, hb, by omega, ?_⟩
      refine goG2 ?_
      left
      refine wG ?_
      refine goG2 ?_
      refine endK ⟨[], ⟨rfl, rfl⟩, ?_⟩
      refine wG ?_
      refine ⟨_, _, Wk.tup (WkL.cons (Wk.agg (WkL.cons Wk.rfl (WkL.cons Wk.rfl (WkL.cons Wk.rfl (WkL.cons (Wk.nil _) (WkL.cons (Wk.d (DW.sf.trans (DW.sl (DWRows.rfl_of ?_)))) WkL.nil)))))) WkL.rfl), WkOs.rfl, hQ⟩
      simp [dXp_eq, Xp.kids]
end Ab

/- The program's reader, fourth part: whole, args. -/
namespace Ab
open Go Go.Proofs
set_option maxRecDepth 10000
set_option maxHeartbeats 4000000
set_option linter.all false

/-- whole -/
def S_i_whole : Spec := fun args O Q => ∃ (wl : List (List Bs)) (i : Nat) (x : Xp), args = [.ptr 0 0, .d (.sl 1 ((wSay 4 x).map dS))] ∧ O = [rdO wl i] ∧ XpF 4 x ∧ Q (aXp x) [rdO wl i]
theorem v_i_whole {B : World} (hB : TabM B) : Valid PG B i_progReader_whole S_i_whole := by
  refine valid_of (Γ := [(i_progReader_expr, ⟨[], S_i_expr 5⟩)]) wide tok (AllValid.nil.cons (v_i_expr hB 5)) g_i_progReader_whole rfl rfl ?_
  rintro _ _ Q ⟨wl, i, x, rfl, rfl, hx, hQ⟩
  refine wG ?_
  refine ⟨_, _, (WkL.cons Wk.rfl (WkL.cons (Wk.of_eq (by rw [List.append_nil])) WkL.rfl)), WkOs.rfl, wl, i, x, 4, [], 4, rfl, rfl, by omega, by omega, by omega, hx, by simp, ?_⟩
  refine goG2 ?_
  refine Br.no (by rfl) ?_
  refine wG ?_
  refine goG2 ?_
  refine endK ⟨[], ⟨rfl, rfl⟩, ?_⟩
  refine wG ?_
  exact ⟨_, _, Wk.rfl, WkOs.rfl, hQ⟩
theorem wArgs_cons (a : Ar) (l : List Ar) : wArgs (a :: l) = wArg a ++ wArgs l := by simp [wArgs]
theorem wArgs_len : ∀ {l : List Ar}, (∀ a ∈ l, ArF a) → (wArgs l).length ≤ 20 * l.length
  | [], _ => by simp [wArgs]
  | a :: l, h => by
    have h1 := wArgs_len (l := l) (fun b hb => h b (List.mem_cons_of_mem _ hb))
    have h2 : (wArg a).length ≤ 20 := by
      cases h a (by simp) with
      | lent _ => simp [wArg]
      | own hx => have := wSay_len hx; simp [wArg]; omega
    rw [wArgs_cons, List.length_append, List.length_cons]; omega
/-- args -/
def S_i_args : Spec := fun args O Q => ∃ (wl : List (List Bs)) (i : Nat) (l : List Ar), args = [.ptr 0 0, .d (.sl 1 ((wArgs l).map dS))] ∧ O = [rdO wl i] ∧ l.length ≤ 40 ∧ (∀ a ∈ l, ArF a) ∧ Q (.d (.sl 8 (l.map dAr))) [rdO wl i]
theorem v_i_args {B : World} (hB : TabM B) : Valid PG B i_progReader_args S_i_args := by
  refine valid_of (Γ := [(i_progReader_expr, ⟨[], S_i_expr 5⟩), (i_progReader_place, ⟨[], S_i_place⟩)]) wide tok ((AllValid.nil.cons (v_i_place hB)).cons (v_i_expr hB 5)) g_i_progReader_args rfl rfl ?_
  rintro _ _ Q ⟨wl, i, l, rfl, rfl, hl, hF, hQ⟩
  refine wG ?_
  refine ⟨[.slot 5 8], Nat, fun j => j ≤ l.length, fun j => l.length - j, fun j => [(1, .d (.sl 1 ((wArgs (l.drop j)).map dS))), (5, .row 1 1)], fun j => [rdO wl i, .row 1 true 8 ((l.take j).map dAr)], 0, Nat.zero_le _, ?_⟩
  refine wG ?_
  refine ⟨Meet.mk rfl rfl WkOs.rfl ⟨Wk.rfl, Wk.rfl, trivial⟩ rfl, ?_⟩
  intro j hj
  have hdl := wArgs_len (l := l.drop j) (fun a ha => hF a (List.mem_of_mem_drop ha))
  have hdl2 : (l.drop j).length = l.length - j := List.length_drop
  rcases hq : l.drop j with _ | ⟨a, q⟩
  · have e1 : l.take j = l := List.take_of_length_le (List.drop_eq_nil_iff.1 hq)
    have hW : wArgs (l.drop j) = [] := by rw [hq]; rfl
    refine wG ?_
    rw [hW]
    refine Br.no (by rfl) ?_
    refine wG ?_
    refine Br.no (by rfl) ?_
    refine wG ?_
    refine endK ⟨[], ⟨rfl, rfl⟩, ?_⟩
    refine wG ?_
    refine ⟨_, _, Wk.of_eq (by show AV.d (.sl 8 ((l.take j).map dAr)) = _; rw [e1]), WkOs.rfl, hQ⟩
  · have hq1 : l.drop (j + 1) = q := by rw [← List.drop_drop, hq]; rfl
    have ht1 : l.take (j + 1) = l.take j ++ [a] := by rw [List.take_add, hq]; rfl
    have hjl : j < l.length := by
      rcases Nat.lt_or_ge j l.length with h | h
      · exact h
      · rw [List.drop_eq_nil_of_le h] at hq; cases hq
    have ha : ArF a := hF a (List.mem_of_mem_drop (i := j) (by rw [hq]; simp))
    have hW : wArgs (l.drop j) = wArg a ++ wArgs q := by rw [hq, wArgs_cons]
    have hdl3 : (wArgs q).length ≤ 800 := by
      rw [hW, List.length_append] at hdl; omega
    refine wG ?_
    rw [hW]
    cases ha with
    | @lent p hp =>
      have hA : wArg ⟨true, p, xp0⟩ = [[116, 111], atS p] := rfl
      rw [hA]
      refine Br.yes (by simp; omega) ?_
      refine wG ?_
      refine goG2 ?_
      refine Br.yes (by rfl) ?_
      refine wG ?_
      refine goG2 ?_
      refine ⟨dS [116, 111], rfl, ?_⟩
      rw [dS_eq]
      refine wG ?_
      refine goG2 ?_
      refine Br.yes (by rfl) ?_
      refine wG ?_
      refine goG2 ?_
      refine ⟨dS (atS p), rfl, ?_⟩
      rw [dS_eq]
      refine wG ?_
      refine ⟨_, _, WkL.rfl, WkOs.rfl, wl, i, p, rfl, rfl, hp, ?_⟩
      refine goG2 ?_
      left
      refine wG ?_
      refine goG2 ?_
      refine ⟨j + 1, by dsimp only; omega, by dsimp only; omega, [], Meet.mk rfl rfl ⟨WkO.rfl, .inr ⟨rfl, rfl, rfl, ?_⟩, trivial⟩ ⟨Wk.d (DW.sl (DWRows.rfl_of ?_)), Wk.rfl, trivial⟩ rfl⟩
      · rw [ht1]
        exact rows_app rfl (DWL.cons DW.rfl (DWL.cons DW.rfl (DWL.cons DW.rfl (DWL.cons DW.rfl (DWL.cons DW.rfl (DWL.cons DW.rfl (DWL.cons (DW.nil 1) (DWL.cons (DW.nil 5) DWL.rfl))))))))
      · rw [hq1, List.take_length]; simp
    | @own x hx =>
      have hA : wArg ⟨false, pl0, x⟩ = [111, 102] :: wSay 4 x := rfl
      rw [hA]
      have hx1 := (wSay_ok hx).1.1
      refine Br.yes (by (have := List.length_pos_iff.2 hx1; simp; omega)) ?_
      refine wG ?_
      refine goG2 ?_
      refine Br.yes (by rfl) ?_
      refine wG ?_
      refine goG2 ?_
      refine ⟨dS [111, 102], rfl, ?_⟩
      rw [dS_eq]
      refine wG ?_
      refine goG2 ?_
      refine Br.no (by rfl) ?_
      refine wG ?_
      refine goG2 ?_
      refine Br.no (by rfl) ?_
      refine wG ?_
      refine goG2 ?_
      refine ⟨dS [111, 102], rfl, ?_⟩
      rw [dS_eq]
      refine wG ?_
      refine goG2 ?_
      refine ⟨_, _, (WkL.cons Wk.rfl (WkL.cons (Wk.d (DW.sl (DWRows.rfl_of (by rw [List.take_length]; simp)))) WkL.rfl)), WkOs.rfl, wl, i, x, 4, wArgs q, 4, rfl, rfl, by omega, by omega, by omega, hx, by omega, ?_⟩
      refine goG2 ?_
      left
      refine wG ?_
      refine goG2 ?_
      refine ⟨j + 1, by dsimp only; omega, by dsimp only; omega, [], Meet.mk rfl rfl ⟨WkO.rfl, .inr ⟨rfl, rfl, rfl, ?_⟩, trivial⟩ ⟨Wk.d (DW.sl (DWRows.rfl_of ?_)), Wk.rfl, trivial⟩ rfl⟩
      · rw [ht1]
        exact rows_app rfl (DWL.cons DW.rfl (DWL.cons DW.rfl (DWL.cons (DW.nil 1) (DWL.cons DW.rfl (DWL.cons DW.rfl (DWL.cons DW.rfl (DWL.cons DW.rfl (DWL.cons DW.rfl DWL.rfl))))))))
      · rw [hq1]
end Ab
