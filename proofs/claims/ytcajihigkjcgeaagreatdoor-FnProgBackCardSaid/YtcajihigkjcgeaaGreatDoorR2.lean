/- The program's reader, first part: lines, types, places. -/
import Derived.Test.YtcajihigkjcgeaaGreatDoorSyn
import Derived.Test.YtcajihigkjcgeaaGreatDoorR1
import Derived.Test.YtcajihigkjcgeaaGreatDoorB4
import Derived.Test.YtcajihigkjcgeaaGreatDoorJ3
set_option linter.all false
namespace Ab
open Go Go.Proofs
set_option maxRecDepth 10000
set_option maxHeartbeats 4000000
set_option linter.all false

abbrev rdO (wl : List (List Bs)) (i : Nat) : Obj := .cells [.d (.sl 1 (wl.map fun ws => dS (lineT ws))), iv (i : Int), bv false]
structure Gwl (wl : List (List Bs)) : Prop where
  ok : ∀ ws ∈ wl, goodL ws ∧ (lineT ws).length ≤ 1000000
  len : wl.length ≤ 100000
/-- first -/
def S_i_first : Spec := fun args O Q => ∃ (wl : List (List Bs)) (i : Nat), args = [.ptr 0 0] ∧ O = [rdO wl i] ∧ Gwl wl ∧ (wl.length ≤ i → Q (sv []) [rdO wl i]) ∧ (∀ w ws, wl[i]? = some (w :: ws) → Q (sv w) [rdO wl i])
theorem v_i_first {B : World} (hB : TabM B) : Valid PG B i_progReader_first S_i_first := by
  refine valid_of (Γ := [(x_strings_Cut, ⟨[], S_x_strings_Cut⟩)]) wide tok (AllValid.nil.cons (v_x_strings_Cut hB)) g_i_progReader_first rfl rfl ?_
  rintro _ _ Q ⟨wl, i, rfl, rfl, hG, hQ1, hQ2⟩
  have hl := hG.len
  refine wG ?_
  refine goG2 ?_
  refine brG2 (fun h => ?_) (fun h => ?_)
  · refine goG2 ?_
    refine endK ⟨[], ⟨rfl, rfl⟩, ?_⟩
    refine wG ?_
    exact ⟨_, _, Wk.rfl, WkOs.rfl, hQ1 (by simpa using h)⟩
  · have h : i < wl.length := by simpa using h
    have hx : (wl.map fun ws => dS (lineT ws))[i]? = some (dS (lineT wl[i])) := by simp [h]
    obtain ⟨hg, hgl⟩ := hG.ok _ (List.getElem_mem h)
    have hQ2 := fun w ws e => hQ2 w ws ((List.getElem?_eq_getElem h).trans (congrArg some e))
    generalize wl[i] = ws at *
    match ws, hg with
    | w :: ws, hg =>
    have hc := first_cut (ws := ws) (hg.2 w (by simp))
    have hQ2 := hQ2 w ws rfl
    rw [← hc] at hQ2
    refine Req.mk (by omega) ?_
    refine ⟨_, hx, ?_⟩
    rw [dS_eq]
    refine wG ?_
    refine ⟨_, _, WkL.rfl, WkOs.rfl, lineT (w :: ws), [32], rfl, by omega, ?_⟩
    refine goG2 ?_
    refine endK ⟨[], ⟨rfl, rfl⟩, ?_⟩
    refine wG ?_
    exact ⟨_, _, Wk.rfl, WkOs.rfl, hQ2⟩
/-- take -/
def S_i_take : Spec := fun args O Q => ∃ (wl : List (List Bs)) (i : Nat) (ws : List Bs) (k : Int), args = [.ptr 0 0, iv k] ∧ O = [rdO wl i] ∧ Gwl wl ∧ wl[i]? = some ws ∧ k ≤ ws.length ∧ Q (.d (.sl 1 (ws.map dS))) [rdO wl (i + 1)]
theorem v_i_take {B : World} (hB : TabM B) : Valid PG B i_progReader_take S_i_take := by
  refine valid_of (Γ := [(x_strings_Split, ⟨[], S_x_strings_Split⟩)]) wide tok (AllValid.nil.cons (v_x_strings_Split hB)) g_i_progReader_take rfl rfl ?_
  rintro _ _ Q ⟨wl, i, ws, k, rfl, rfl, hG, hx, hk, hQ⟩
  have hl := hG.len
  obtain ⟨h, he⟩ := List.getElem?_eq_some_iff.1 hx
  obtain ⟨hg, hgl⟩ := hG.ok ws (List.mem_of_getElem? hx)
  have hx : (wl.map fun ws => dS (lineT ws))[i]? = some (dS (lineT ws)) := by simp [hx]
  have hsp := hg.split
  refine wG ?_
  refine goG2 ?_
  refine Br.yes (by simp [h]) ?_
  refine wG ?_
  refine goG2 ?_
  refine ⟨_, hx, ?_⟩
  rw [dS_eq]
  refine wG ?_
  refine ⟨_, _, WkL.rfl, WkOs.rfl, lineT ws, 32, rfl, by omega, by rw [hsp.1]; exact hsp.2.symm, ?_⟩
  rw [hsp.1]
  refine goG2 ?_
  refine Br.yes (by simpa using hk) ?_
  refine wG ?_
  refine goG2 ?_
  refine endK ⟨[], ⟨rfl, rfl⟩, ?_⟩
  refine wG ?_
  exact ⟨_, _, Wk.rfl, WkOs.rfl, hQ⟩
end Ab

/- The program's reader, second part: types, places. -/
namespace Ab
open Go Go.Proofs
set_option maxRecDepth 10000
set_option maxHeartbeats 4000000
set_option linter.all false

theorem sl1 (c : UInt8) (l : Bs) : List.drop (Int.toNat 1) (List.take (c :: l).length (c :: l)) = l := by simp
/-- typeRead -/
def S_i_typeRead (n : Nat) : Spec := fun args O Q => ∃ (t : Ty) (m : Nat) (r : Bs) (d : Int), args = [sv (tyS m t ++ r), iv d] ∧ O = [] ∧ m < n ∧ m ≤ d ∧ d ≤ 100 ∧ tyOk m t = true ∧ m ≤ 10 ∧ r.length + 4 * 2 ^ m ≤ 1000000 ∧ Q (.tup [aTy t, sv r, bv true]) []
theorem v_i_typeRead {B : World} : ∀ n, Valid PG B i_typeRead (S_i_typeRead n) := by
  refine valid_lt (fun args O Q ⟨t, m, r, d, _, _, h, _⟩ => by omega) fun n ih => ?_
  refine valid_of (Γ := [(x_strings_HasPrefix, ⟨[], S_x_strings_HasPrefix⟩), (i_typeRead, ⟨[], S_i_typeRead n⟩)]) wide tok ((AllValid.nil.cons ih).cons v_x_strings_HasPrefix) g_i_typeRead rfl rfl ?_
  rintro _ _ Q ⟨⟨ks⟩, m, r, d, rfl, rfl, hm, hd, hd1, ht, hm1, hr, hQ⟩
  cases m with
  | zero => simp [tyOk] at ht
  | succ m =>
  simp only [tyOk, Bool.and_eq_true, Bool.or_eq_true, beq_iff_eq, List.all_eq_true] at ht
  rcases ht.1 with h1 | h1
  · obtain rfl := List.eq_nil_of_length_eq_zero h1
    have e : tyS (m + 1) (.mk []) ++ r = 105 :: r := by simp [tyS]
    rw [e]
    refine wG ?_
    refine ⟨_, _, WkL.rfl, WkOs.rfl, 105 :: r, [105], rfl, ?_⟩
    refine goG2 ?_
    refine Br.yes (by simp [Lib.hasPrefix, List.isPrefixOf]) ?_
    refine wG ?_
    refine goG2 ?_
    refine endK ⟨[], ⟨rfl, rfl⟩, ?_⟩
    refine wG ?_
    exact ⟨_, _, Wk.tup (WkL.cons (Wk.agg (WkL.cons (Wk.nil _) WkL.nil)) (WkL.cons (Wk.of_eq (by rw [sl1])) WkL.rfl)), WkOs.rfl, hQ⟩
  · obtain ⟨a, b, rfl⟩ : ∃ a b, ks = [a, b] := by
      match ks, h1 with
      | [a, b], _ => exact ⟨a, b, rfl⟩
    have ha := ht.2 a (by simp)
    have hb := ht.2 b (by simp)
    have la := tyS_len (n := m) (t := a)
    have lb := tyS_len (n := m) (t := b)
    have hp : 2 ^ m ≤ 2 ^ 9 := Nat.pow_le_pow_right (by omega) (by omega)
    rw [Nat.pow_succ] at hr
    have h0m : 1 ≤ m := by
      cases m with
      | zero => simp [tyOk] at ha
      | succ m => omega
    have e : tyS (m + 1) (.mk [a, b]) ++ r = 40 :: (tyS m a ++ (44 :: (tyS m b ++ 41 :: r))) := by simp [tyS]
    rw [e]
    refine wG ?_
    refine ⟨_, _, WkL.rfl, WkOs.rfl, _, [105], rfl, ?_⟩
    refine goG2 ?_
    refine Br.no (by simp [Lib.hasPrefix, List.isPrefixOf]) ?_
    refine wG ?_
    refine goG2 ?_
    refine Br.no (by (simp; omega)) ?_
    refine wG ?_
    refine goG2 ?_
    refine ⟨_, _, WkL.rfl, WkOs.rfl, _, [40], rfl, ?_⟩
    refine goG2 ?_
    refine Br.no (by simp [Lib.hasPrefix, List.isPrefixOf]) ?_
    refine wG ?_
    refine goG2 ?_
    refine ⟨_, _, (WkL.cons (Wk.of_eq (by rw [sl1])) WkL.rfl), WkOs.rfl, a, m, (44 :: (tyS m b ++ 41 :: r)), d - 1, rfl, rfl, by omega, by omega, by omega, ha, by omega, by simp only [List.length_append, List.length_cons]; omega, ?_⟩
    refine goG2 ?_
    refine Br.no (by rfl) ?_
    refine wG ?_
    refine goG2 ?_
    refine ⟨_, _, WkL.rfl, WkOs.rfl, _, [44], rfl, ?_⟩
    refine goG2 ?_
    refine Br.no (by simp [Lib.hasPrefix, List.isPrefixOf]) ?_
    refine wG ?_
    refine goG2 ?_
    refine ⟨_, _, (WkL.cons (Wk.of_eq (by rw [sl1])) WkL.rfl), WkOs.rfl, b, m, (41 :: r), d - 1, rfl, rfl, by omega, by omega, by omega, hb, by omega, by simp only [List.length_append, List.length_cons]; omega, ?_⟩
    refine goG2 ?_
    refine Br.no (by rfl) ?_
    refine wG ?_
    refine goG2 ?_
    refine ⟨_, _, WkL.rfl, WkOs.rfl, _, [41], rfl, ?_⟩
    refine goG2 ?_
    refine Br.no (by simp [Lib.hasPrefix, List.isPrefixOf]) ?_
    refine wG ?_
    refine goG2 ?_
    left
    refine wG ?_
    refine goG2 ?_
    refine endK ⟨[], ⟨rfl, rfl⟩, ?_⟩
    refine wG ?_
    refine ⟨_, _, Wk.tup (WkL.cons (Wk.agg (WkL.cons (Wk.d (DW.sf.trans (DW.sl (DWRows.rfl_of ?_)))) WkL.nil)) (WkL.cons (Wk.of_eq (by rw [sl1])) WkL.rfl)), WkOs.rfl, hQ⟩
    simp [Ty.kids, dTy_eq]
/-- typ -/
def S_i_typ : Spec := fun args O Q => ∃ (wl : List (List Bs)) (i : Nat) (t : Ty), args = [.ptr 0 0, sv (tyS 4 t)] ∧ O = [rdO wl i] ∧ tyOk 4 t = true ∧ Q (aTy t) [rdO wl i]
theorem v_i_typ {B : World} : Valid PG B i_progReader_typ S_i_typ := by
  refine valid_of (Γ := [(i_typeRead, ⟨[], S_i_typeRead 10⟩)]) wide tok (AllValid.nil.cons (v_i_typeRead 10)) g_i_progReader_typ rfl rfl ?_
  rintro _ _ Q ⟨wl, i, t, rfl, rfl, ht, hQ⟩
  refine wG ?_
  refine ⟨_, _, (WkL.cons (Wk.of_eq (by rw [List.append_nil])) WkL.rfl), WkOs.rfl, t, 4, [], 4, rfl, rfl, by omega, by omega, by omega, ht, by omega, by simp, ?_⟩
  refine goG2 ?_
  refine Br.no (by rfl) ?_
  refine wG ?_
  refine goG2 ?_
  refine Br.no (by rfl) ?_
  refine wG ?_
  refine goG2 ?_
  refine endK ⟨[], ⟨rfl, rfl⟩, ?_⟩
  refine wG ?_
  exact ⟨_, _, Wk.rfl, WkOs.rfl, hQ⟩
/-- place -/
def S_i_place : Spec := fun args O Q => ∃ (wl : List (List Bs)) (i : Nat) (p : Pl), args = [.ptr 0 0, sv (atS p)] ∧ O = [rdO wl i] ∧ plOk p = true ∧ Q (aPl p) [rdO wl i]
def dotS : List Int → Bs
  | [] => []
  | x :: p => dec x ++ pathS p
theorem v_i_place {B : World} (hB : TabM B) : Valid PG B i_progReader_place S_i_place := by
  refine valid_of (Γ := [(x_strings_Cut, ⟨[], S_x_strings_Cut⟩)]) wide tok (AllValid.nil.cons (v_x_strings_Cut hB)) g_i_progReader_place rfl rfl ?_
  rintro _ _ Q ⟨wl, i, p, rfl, rfl, hp, hQ⟩
  have h1 := plOk_nlen hp; have h2 := plOk_len hp; have h3 := plOk_path hp; have h5 := atS_len hp
  have hdot := dot_name (plOk_nm hp)
  have cut0 : ∀ (x : Bs) (q : List Int), (46 : UInt8) ∉ x → Lib.cut (x ++ pathS q) [46] = (x, dotS q, !q.isEmpty) := by
    intro x q hx
    cases q with
    | nil => rw [show pathS [] = [] from rfl, List.append_nil, cut_miss hx]; rfl
    | cons y q =>
      have : x ++ pathS (y :: q) = x ++ 46 :: (dec y ++ pathS q) := by simp [pathS]
      rw [this, cut_hit hx]; rfl
  refine wG ?_
  refine ⟨_, _, WkL.rfl, WkOs.rfl, atS p, [46], rfl, by omega, ?_⟩
  rw [show atS p = p.name ++ pathS p.path from rfl, cut0 _ _ hdot]
  refine goG2 ?_
  have d0 : dec 0 = [48] := by rw [dec, Lib.decDigits, dif_pos (by decide)]; rfl
  have d1 : dec 1 = [49] := by rw [dec, Lib.decDigits, dif_pos (by decide)]; rfl
  refine ⟨[.cell 2 1 1], Nat, fun j => j ≤ p.path.length, fun j => p.path.length - j, fun j => [(6, sv (dotS (p.path.drop j))), (7, bv (!(p.path.drop j).isEmpty))], fun j => [rdO wl i, .cells [sv [], nilS], .cells [sv p.name, .row 3 1], .row 1 true 1 ((p.path.take j).map dI)], 0, Nat.zero_le _, ?_⟩
  refine wG ?_
  refine ⟨Meet.mk rfl rfl WkOs.rfl ⟨Wk.rfl, Wk.rfl, trivial⟩ rfl, ?_⟩
  intro j hj
  rcases hq : p.path.drop j with _ | ⟨x, q⟩
  · have e1 : p.path.take j = p.path := by
      have := List.drop_eq_nil_iff.1 hq
      exact List.take_of_length_le this
    refine wG ?_
    refine Br.no (by (rw [hq]; rfl)) ?_
    refine wG ?_
    refine endK ⟨[], ⟨rfl, rfl⟩, ?_⟩
    refine wG ?_
    refine ⟨_, _, Wk.agg (WkL.cons Wk.rfl (WkL.cons (Wk.of_eq (by rw [e1])) WkL.nil)), WkOs.rfl, hQ⟩
  · have hq1 : p.path.drop (j + 1) = q := by rw [← List.drop_drop, hq]; rfl
    have ht1 : p.path.take (j + 1) = p.path.take j ++ [x] := by rw [List.take_add, hq]; rfl
    have hjl : j < p.path.length := by
      rcases Nat.lt_or_ge j p.path.length with h | h
      · exact h
      · rw [List.drop_eq_nil_of_le h] at hq; cases hq
    have hx : stepOk x = true := by
      have hm : x ∈ p.path.drop j := by rw [hq]; simp
      exact List.all_eq_true.1 h3 x (List.mem_of_mem_drop hm)
    refine wG ?_
    refine Br.yes (by (rw [hq]; rfl)) ?_
    refine wG ?_
    refine goG2 ?_
    have hdl : (dotS (p.path.drop j)).length ≤ 100 := by
      have hqa : q.all stepOk = true := List.all_eq_true.2 fun y hy => List.all_eq_true.1 h3 y (List.mem_of_mem_drop (i := j) (by rw [hq]; simp [hy]))
      have hql : (p.path.drop j).length = q.length + 1 := by rw [hq]; rfl
      rw [List.length_drop] at hql
      have := pathS_len hqa
      have := dec1_len hx
      rw [hq]; simp only [dotS, List.length_append]; omega
    refine ⟨_, _, WkL.rfl, WkOs.rfl, _, [46], rfl, by omega, ?_⟩
    rw [hq, show dotS (x :: q) = dec x ++ pathS q from rfl, cut0 _ _ (dot_dec x)]
    refine goG2 ?_
    have hx01 : x = 0 ∨ x = 1 := by simp [stepOk] at hx; omega
    rcases hx01 with rfl | rfl
    · rw [d0]
      refine goG2 ?_
      refine Br.yes (by rfl) ?_
      refine wG ?_
      refine goG2 ?_
      left
      refine wG ?_
      refine goG2 ?_
      refine ⟨j + 1, by dsimp only; omega, by dsimp only; omega, [], Meet.mk rfl rfl ⟨WkO.rfl, WkO.rfl, WkO.rfl, .inr ⟨rfl, rfl, rfl, DWRows.rfl_of (by rw [ht1]; simp [dI])⟩, trivial⟩ ⟨Wk.of_eq (by show AV.d (.s (dotS q)) = AV.d (.s (dotS (p.path.drop (j + 1)))); rw [hq1]), Wk.of_eq (by show AV.d (.b (!q.isEmpty)) = AV.d (.b (!(p.path.drop (j + 1)).isEmpty)); rw [hq1]), trivial⟩ rfl⟩
    · rw [d1]
      refine goG2 ?_
      refine Br.no (by rfl) ?_
      refine wG ?_
      refine goG2 ?_
      refine Br.yes (by rfl) ?_
      refine wG ?_
      refine goG2 ?_
      left
      refine wG ?_
      refine goG2 ?_
      refine ⟨j + 1, by dsimp only; omega, by dsimp only; omega, [], Meet.mk rfl rfl ⟨WkO.rfl, WkO.rfl, WkO.rfl, .inr ⟨rfl, rfl, rfl, DWRows.rfl_of (by rw [ht1]; simp [dI])⟩, trivial⟩ ⟨Wk.of_eq (by show AV.d (.s (dotS q)) = AV.d (.s (dotS (p.path.drop (j + 1)))); rw [hq1]), Wk.of_eq (by show AV.d (.b (!q.isEmpty)) = AV.d (.b (!(p.path.drop (j + 1)).isEmpty)); rw [hq1]), trivial⟩ rfl⟩
end Ab
