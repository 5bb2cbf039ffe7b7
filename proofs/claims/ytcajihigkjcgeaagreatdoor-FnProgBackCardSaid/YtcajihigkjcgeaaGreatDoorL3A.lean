/- The reference's checker, first part: contracts. -/
import Derived.Test.YtcajihigkjcgeaaGreatDoorSyn
set_option linter.all false
namespace Ab
open Go Go.Proofs
set_option maxRecDepth 10000
set_option maxHeartbeats 4000000
set_option linter.all false

/-! ### fail -/
def En.fail (e : En) (c : Int) : En := { e with code := if e.code = 0 then c else e.code }
abbrev oEv (fns : Pr) (fn : Int) (vars : List Vr) (names : List Bs) (code : Int) (a b : Nat) : List Obj := [.cells [.d (.sl 12 (fns.map dFd)), iv fn, .row 1 a, .row 2 b, iv code], .row a true 6 (vars.map dVr), .row b true 1 (names.map dS)]
/-- (*l3Env).fail: the rows are as they were -/
def S_s_l3Env_fail : Spec := fun args O Q => ∃ (e : En) (c : Int), args = [.ptr 0 0, iv c] ∧ O = oEn e ∧ Q (.tup []) (oEn (e.fail c))
theorem v_s_l3Env_fail {B : World} : Valid PG B s_l3Env_fail S_s_l3Env_fail := by
  refine valid_of (Γ := []) wide tok AllValid.nil g_s_l3Env_fail rfl rfl ?_
  rintro _ _ Q ⟨⟨fns, fn, vars, names, code⟩, c, rfl, rfl, hQ⟩
  refine wG ?_
  refine brG1 (fun h => ?_) (fun h => ?_)
  · have e : En.fail ⟨fns, fn, vars, names, code⟩ c = ⟨fns, fn, vars, names, c⟩ := by simp [En.fail, h]
    rw [e] at hQ
    refine endK ⟨[], ⟨rfl, rfl⟩, ?_⟩
    refine wG ?_
    exact ⟨_, _, Wk.rfl, WkOs.rfl, hQ⟩
  · have e : En.fail ⟨fns, fn, vars, names, code⟩ c = ⟨fns, fn, vars, names, code⟩ := by simp [En.fail, h]
    rw [e] at hQ
    refine endK ⟨[], ⟨rfl, rfl⟩, ?_⟩
    refine wG ?_
    exact ⟨_, _, Wk.rfl, WkOs.rfl, hQ⟩

/-! ### find -/
def findV : List Vr → Bs → Option Nat
  | [], _ => none
  | v :: vs, n => if v.name = n then some 0 else (findV vs n).map (· + 1)
def findI (vs : List Vr) (n : Bs) : Int := match findV vs n with | some i => i | none => -1
theorem findV_none : ∀ {vs : List Vr} {n : Bs}, (∀ v ∈ vs, v.name ≠ n) → findV vs n = none
  | [], _, _ => rfl
  | v :: vs, n, h => by
    have h1 := h v (by simp)
    simp [findV, h1, findV_none (fun w hw => h w (List.mem_cons_of_mem _ hw))]
theorem findV_some : ∀ {vs : List Vr} {n : Bs} {i : Nat} (h : i < vs.length), (∀ v ∈ vs.take i, v.name ≠ n) → vs[i].name = n → findV vs n = some i
  | v :: vs, n, 0, h, _, hn => by simp at hn; simp [findV, hn]
  | v :: vs, n, i + 1, h, h1, hn => by
    have h2 := h1 v (by simp)
    have := findV_some (vs := vs) (n := n) (i := i) (by simpa using h) (fun w hw => h1 w (by simp [hw])) (by simpa using hn)
    simp [findV, h2, this]

/-- (*l3Env).find -/
def S_s_l3Env_find : Spec := fun args O Q => ∃ (e : En) (n : Bs), args = [.ptr 0 0, sv n] ∧ O = oEn e ∧ e.vars.length ≤ 1000000 ∧ Q (iv (findI e.vars n)) (oEn e)
theorem v_s_l3Env_find {B : World} : Valid PG B s_l3Env_find S_s_l3Env_find := by
  refine valid_of (Γ := []) wide tok AllValid.nil g_s_l3Env_find rfl rfl ?_
  rintro _ _ Q ⟨⟨fns, fn, vars, names, code⟩, n, rfl, rfl, hl, hQ⟩
  dsimp only at hl hQ
  refine wG ?_
  refine ⟨[], Int, fun i => 0 ≤ i ∧ i ≤ vars.length ∧ ∀ v ∈ vars.take i.toNat, v.name ≠ n, fun i => (vars.length - i).toNat, fun i => [(5, iv i)],
    fun _ => oEn ⟨fns, fn, vars, names, code⟩, 0, ⟨by omega, by omega, by simp⟩, ?_⟩
  refine wG ?_
  refine ⟨⟨rfl, rfl, WkOs.rfl, ⟨Wk.rfl, trivial⟩, rfl⟩, ?_⟩
  rintro i ⟨hi0, hi1, hi2⟩
  refine wG ?_
  refine brG1 (fun h => ?_) (fun h => ?_)
  · have hlt : i.toNat < vars.length := by omega
    try (refine row_map (by omega) (by (try simp only [List.length_append, List.length_cons, List.length_nil, List.length_map, List.length_take, List.length_drop, maxRow, byteRows_len, Ty.kids, Ty.kids_mk]); omega) ?_; refine wG ?_)
    refine idx_map' (f := dVr) (by (try simp only [List.length_append, List.length_cons, List.length_nil, List.length_map, List.length_take, List.length_drop, maxRow, byteRows_len, Ty.kids, Ty.kids_mk]); omega) ?_
    refine wG ?_
    refine ⟨fun h2 => ?_, fun h2 => ?_⟩
    · have h2 : vars[i.toNat].name = n := by simpa using h2
      have hf := findV_some hlt hi2 h2
      have e : findI vars n = i := by rw [findI, hf]; dsimp only; omega
      rw [e] at hQ
      refine wG ?_
      refine endK ⟨[], ⟨rfl, rfl⟩, ?_⟩
      refine wG ?_
      exact ⟨_, _, Wk.rfl, WkOs.rfl, hQ⟩
    · have h2 : vars[i.toNat].name ≠ n := by simpa using h2
      refine wG ?_
      refine goG1 ?_
      refine ⟨i + 1, ⟨by omega, by omega, fun v hv => ?_⟩, by dsimp only; omega, [], Meet.mk rfl rfl WkOs.rfl ⟨Wk.rfl, trivial⟩ rfl⟩
      have e : (i + 1).toNat = i.toNat + 1 := by omega
      rw [e, List.take_add_one] at hv
      simp only [List.getElem?_eq_getElem hlt, Option.toList_some, List.mem_append, List.mem_singleton] at hv
      rcases hv with hv | rfl
      · exact hi2 v hv
      · exact h2
  · have hi : vars.take i.toNat = vars := List.take_of_length_le (by omega)
    rw [hi] at hi2
    have e : findI vars n = -1 := by rw [findI, findV_none hi2]
    rw [e] at hQ
    refine endK ⟨[], ⟨rfl, rfl⟩, ?_⟩
    refine wG ?_
    exact ⟨_, _, Wk.rfl, WkOs.rfl, hQ⟩

/-! ### add -/
def En.add (e : En) (v : Vr) : En := { e with code := if e.names.contains v.name then (e.fail 2).code else e.code, names := e.names ++ [v.name], vars := e.vars ++ [v] }
/-- (*l3Env).add -/
def S_s_l3Env_add : Spec := fun args O Q => ∃ (e : En) (v : Vr), args = [.ptr 0 0, aVr v] ∧ O = oEn e ∧ e.vars.length ≤ 1000000 ∧ e.names.length ≤ 1000000 ∧ Q (.tup []) (oEn1 (e.add v))
theorem v_s_l3Env_add {B : World} : Valid PG B s_l3Env_add S_s_l3Env_add := by
  refine valid_of (Γ := [(s_l3Env_fail, ⟨[], S_s_l3Env_fail⟩)]) wide tok (AllValid.nil.cons v_s_l3Env_fail) g_s_l3Env_add rfl rfl ?_
  rintro _ _ Q ⟨⟨fns, fn, vars, names, code⟩, v, rfl, rfl, hl, hn, hQ⟩
  dsimp only at hl hn hQ
  refine wG ?_
  refine ⟨[], Int × Int, fun x => 0 ≤ x.1 ∧ x.1 ≤ names.length ∧ x.2 = (if (names.take x.1.toNat).contains v.name then (if code = 0 then 2 else code) else code), fun x => (names.length - x.1).toNat, fun x => [(4, iv x.1)], fun x => oEn ⟨fns, fn, vars, names, x.2⟩ ++ [.cells [sv v.name, .d (.b v.lent), .d (.b v.param), .d (.sl 1 (v.ty.kids.map dTy)), .d (.sl 2 (v.loans.map dPl)), .d (.b v.dead)]], (0, code), ⟨by dsimp only; omega, by dsimp only; omega, by simp⟩, ?_⟩
  refine wG ?_
  refine ⟨Meet.mk rfl rfl WkOs.rfl ⟨Wk.rfl, trivial⟩ rfl, ?_⟩
  rintro ⟨i, c⟩ ⟨hi0, hi1, hi2⟩
  dsimp only at hi0 hi1 hi2
  refine wG ?_
  refine brG1 (fun h => ?_) (fun h => ?_)
  · have hlt : i.toNat < names.length := by omega
    have e : (i + 1).toNat = i.toNat + 1 := by omega
    have ec : (names.take (i.toNat + 1)).contains v.name = ((names.take i.toNat).contains v.name || names[i.toNat] == v.name) := by
      rw [List.take_add_one, List.contains_append]
      simp only [List.getElem?_eq_getElem hlt, Option.toList_some, List.contains_cons, List.contains_nil, Bool.or_false]
      congr 1
      rw [Bool.eq_iff_iff, beq_iff_eq, beq_iff_eq]; exact eq_comm
    try (refine row_map (by omega) (by (try simp only [List.length_append, List.length_cons, List.length_nil, List.length_map, List.length_take, List.length_drop, maxRow, byteRows_len, Ty.kids, Ty.kids_mk]); omega) ?_; refine wG ?_)
    refine idx_map' (f := dS) (by (try simp only [List.length_append, List.length_cons, List.length_nil, List.length_map, List.length_take, List.length_drop, maxRow, byteRows_len, Ty.kids, Ty.kids_mk]); omega) ?_
    refine wG ?_
    refine ⟨fun h2 => ?_, fun h2 => ?_⟩
    · have h2 : (names[i.toNat] == v.name) = true := h2
      refine wG ?_
      refine ⟨_, _, WkL.rfl, WkOs.rfl, ⟨fns, fn, vars, names, c⟩, 2, rfl, rfl, ?_⟩
      refine goG1 ?_
      refine ⟨(i + 1, if c = 0 then 2 else c), ⟨?_, ?_, ?_⟩, ?_, [], Meet.mk rfl rfl WkOs.rfl ⟨Wk.rfl, trivial⟩ rfl⟩
      · dsimp only; omega
      · dsimp only; omega
      · dsimp only
        rw [e, ec, h2, Bool.or_true, if_pos rfl, hi2]
        split
        · by_cases hc : code = 0
          · rw [if_pos hc, if_neg (by omega)]
          · rw [if_neg hc, if_neg hc]
        · rfl
      · dsimp only; omega
    · have h2 : (names[i.toNat] == v.name) = false := h2
      refine wG ?_
      refine goG1 ?_
      refine ⟨(i + 1, c), ⟨?_, ?_, ?_⟩, ?_, [], Meet.mk rfl rfl WkOs.rfl ⟨Wk.rfl, trivial⟩ rfl⟩
      · dsimp only; omega
      · dsimp only; omega
      · dsimp only
        rw [e, ec, h2, Bool.or_false]; exact hi2
      · dsimp only; omega
  · have hi : names.take i.toNat = names := List.take_of_length_le (by omega)
    rw [hi] at hi2
    left
    refine wG ?_
    refine goG1 ?_
    left
    refine wG ?_
    refine goG1 ?_
    refine endK ⟨[], ⟨rfl, rfl⟩, ?_⟩
    refine wG ?_
    subst hi2
    refine ⟨_, _, Wk.rfl, ?_, hQ⟩
    exact ⟨WkO.rfl, .inr ⟨rfl, rfl, rfl, rows_app rfl DWL.rfl⟩, .inr ⟨rfl, rfl, rfl, rows_app rfl DWL.rfl⟩, trivial⟩

/-! ### places that meet -/
def meetP : List Int → List Int → Bool
  | a :: xs, b :: ys => a == b && meetP xs ys
  | _, _ => true
def meet (a b : Pl) : Bool := a.name == b.name && meetP a.path b.path
theorem meetP_no : ∀ {a b : List Int} (i : Nat) (h1 : i < a.length) (h2 : i < b.length), a[i] ≠ b[i] → meetP a b = false
  | a :: xs, b :: ys, 0, _, _, h => by simp at h; simp [meetP, h]
  | a :: xs, b :: ys, i + 1, h1, h2, h => by simp [meetP, meetP_no (a := xs) (b := ys) i (by simpa using h1) (by simpa using h2) (by simpa using h)]
theorem meetP_step : ∀ {a b : List Int} (i : Nat) (h1 : i < a.length) (h2 : i < b.length), meetP (a.take i) (b.take i) = true → a[i] = b[i] → meetP (a.take (i + 1)) (b.take (i + 1)) = true
  | a :: xs, b :: ys, 0, _, _, _, h => by simp at h; simp [meetP, h]
  | a :: xs, b :: ys, i + 1, h1, h2, h, h' => by
    simp only [List.take_succ_cons, meetP, Bool.and_eq_true] at h ⊢
    exact ⟨h.1, meetP_step i (by simpa using h1) (by simpa using h2) h.2 (by simpa using h')⟩
theorem meetP_end : ∀ {a b : List Int} (i : Nat), (a.length ≤ i ∨ b.length ≤ i) → meetP (a.take i) (b.take i) = true → meetP a b = true
  | [], b, _, _, _ => by cases b <;> rfl
  | a :: xs, [], _, _, _ => rfl
  | a :: xs, b :: ys, 0, h, _ => by simp at h
  | a :: xs, b :: ys, i + 1, h, h' => by
    simp only [List.take_succ_cons, meetP, Bool.and_eq_true] at h' ⊢
    exact ⟨h'.1, meetP_end i (by simpa using h) h'.2⟩

/-- l3Meet -/
def S_s_l3Meet : Spec := fun args O Q => ∃ (a b : Pl), args = [aPl a, aPl b] ∧ O = [] ∧ a.path.length ≤ 1000000 ∧ Q (bv (meet a b)) []
theorem v_s_l3Meet {B : World} : Valid PG B s_l3Meet S_s_l3Meet := by
  refine valid_of (Γ := []) wide tok AllValid.nil g_s_l3Meet rfl rfl ?_
  rintro _ _ Q ⟨⟨na, pa⟩, ⟨nb, pb⟩, rfl, rfl, hl, hQ⟩
  dsimp only at hl
  have fin : ∀ b : Bool, meet ⟨na, pa⟩ ⟨nb, pb⟩ = b → wkQ Q (bv b) [] := fun b h => ⟨_, _, Wk.rfl, WkOs.rfl, by subst h; exact hQ⟩
  refine wG ?_
  refine ⟨fun h => ?_, fun h => ?_⟩
  · have h : (na == nb) = false := by simpa using h
    refine wG ?_
    refine endK ⟨[], ⟨rfl, rfl⟩, ?_⟩
    refine wG ?_
    exact fin _ (by simp only [meet, h, Bool.false_and])
  have h : (na == nb) = true := by simpa using h
  have hm : meet ⟨na, pa⟩ ⟨nb, pb⟩ = meetP pa pb := by simp only [meet, h, Bool.true_and]
  rw [hm] at fin
  refine wG ?_
  refine ⟨[], Int, fun i => 0 ≤ i ∧ i ≤ pa.length ∧ meetP (pa.take i.toNat) (pb.take i.toNat) = true, fun i => (pa.length - i).toNat, fun i => [(5, iv i)], fun _ => [.cells [sv na, .d (.sl 1 (pa.map dI))], .cells [sv nb, .d (.sl 1 (pb.map dI))]], 0, ⟨by omega, by omega, by simp [meetP]⟩, ?_⟩
  refine wG ?_
  refine ⟨Meet.mk rfl rfl WkOs.rfl ⟨Wk.rfl, trivial⟩ rfl, ?_⟩
  rintro i ⟨hi0, hi1, hi2⟩
  refine wG ?_
  refine brG1 (fun h2 => ?_) (fun h2 => ?_)
  refine brG1 (fun h3 => ?_) (fun h3 => ?_)
  · have h1 : i.toNat < pa.length := by omega
    have h4 : i.toNat < pb.length := by omega
    first | refine idx_map (f := dI) (by omega) (by (try simp only [List.length_append, List.length_cons, List.length_nil, List.length_map, List.length_take, List.length_drop, maxRow, byteRows_len, Ty.kids, Ty.kids_mk]); omega) ?_ | refine idx_map' (f := dI) (by (try simp only [List.length_append, List.length_cons, List.length_nil, List.length_map, List.length_take, List.length_drop, maxRow, byteRows_len, Ty.kids, Ty.kids_mk]); omega) ?_
    refine wG ?_
    first | refine idx_map (f := dI) (by omega) (by (try simp only [List.length_append, List.length_cons, List.length_nil, List.length_map, List.length_take, List.length_drop, maxRow, byteRows_len, Ty.kids, Ty.kids_mk]); omega) ?_ | refine idx_map' (f := dI) (by (try simp only [List.length_append, List.length_cons, List.length_nil, List.length_map, List.length_take, List.length_drop, maxRow, byteRows_len, Ty.kids, Ty.kids_mk]); omega) ?_
    refine wG ?_
    refine brG1 (fun h5 => ?_) (fun h5 => ?_)
    · refine endK ⟨[], ⟨rfl, rfl⟩, ?_⟩
      refine wG ?_
      exact fin _ (meetP_no i.toNat h1 h4 h5)
    · refine goG1 ?_
      have e : (i + 1).toNat = i.toNat + 1 := by omega
      refine ⟨i + 1, ⟨by omega, by omega, e ▸ meetP_step i.toNat h1 h4 hi2 h5⟩, by dsimp only; omega, [], Meet.mk rfl rfl WkOs.rfl ⟨Wk.rfl, trivial⟩ rfl⟩
  · refine endK ⟨[], ⟨rfl, rfl⟩, ?_⟩
    refine wG ?_
    exact fin _ (meetP_end i.toNat (.inr (by omega)) hi2)
  · refine endK ⟨[], ⟨rfl, rfl⟩, ?_⟩
    refine wG ?_
    exact fin _ (meetP_end i.toNat (.inl (by omega)) hi2)

/-- l3Among -/
def S_s_l3Among : Spec := fun args O Q => ∃ (l : List Int) (n : Int), args = [.d (.sl 1 (l.map dI)), iv n] ∧ O = [] ∧ l.length ≤ 1000000000 ∧ Q (bv (l.contains n)) []
theorem v_s_l3Among {B : World} : Valid PG B s_l3Among S_s_l3Among := by
  refine valid_of (Γ := []) wide tok AllValid.nil g_s_l3Among rfl rfl ?_
  rintro _ _ Q ⟨l, n, rfl, rfl, hl, hQ⟩
  have fin : ∀ b : Bool, l.contains n = b → wkQ Q (bv b) [] := fun b h => ⟨_, _, Wk.rfl, WkOs.rfl, by subst h; exact hQ⟩
  refine wG ?_
  refine ⟨[], Int, fun i => 0 ≤ i ∧ i ≤ l.length ∧ n ∉ l.take i.toNat, fun i => (l.length - i).toNat, fun i => [(5, iv i)], fun _ => [], 0, ⟨by omega, by omega, by simp⟩, ?_⟩
  refine wG ?_
  refine ⟨Meet.mk rfl rfl WkOs.rfl ⟨Wk.rfl, trivial⟩ rfl, ?_⟩
  rintro i ⟨hi0, hi1, hi2⟩
  refine wG ?_
  refine brG1 (fun h => ?_) (fun h => ?_)
  · have h1 : i.toNat < l.length := by omega
    first | refine idx_map (f := dI) (by omega) (by (try simp only [List.length_append, List.length_cons, List.length_nil, List.length_map, List.length_take, List.length_drop, maxRow, byteRows_len, Ty.kids, Ty.kids_mk]); omega) ?_ | refine idx_map' (f := dI) (by (try simp only [List.length_append, List.length_cons, List.length_nil, List.length_map, List.length_take, List.length_drop, maxRow, byteRows_len, Ty.kids, Ty.kids_mk]); omega) ?_
    refine wG ?_
    refine brG1 (fun h5 => ?_) (fun h5 => ?_)
    · refine endK ⟨[], ⟨rfl, rfl⟩, ?_⟩
      refine wG ?_
      refine fin _ ?_
      rw [List.contains_iff_mem, ← h5]; exact List.getElem_mem h1
    · refine goG1 ?_
      have e : (i + 1).toNat = i.toNat + 1 := by omega
      refine ⟨i + 1, ⟨by omega, by omega, fun hm => ?_⟩, by dsimp only; omega, [], Meet.mk rfl rfl WkOs.rfl ⟨Wk.rfl, trivial⟩ rfl⟩
      rw [e, List.take_add_one] at hm
      simp only [List.getElem?_eq_getElem h1, Option.toList_some, List.mem_append, List.mem_singleton] at hm
      rcases hm with hm | hm
      · exact hi2 hm
      · exact h5 hm.symm
  · refine endK ⟨[], ⟨rfl, rfl⟩, ?_⟩
    refine wG ?_
    refine fin _ ?_
    rw [List.take_of_length_le (by omega)] at hi2
    simpa using hi2
end Ab

/- The reference's checker, second part: what ends. -/
namespace Ab
open Go Go.Proofs
set_option maxRecDepth 10000
set_option maxHeartbeats 4000000
set_option linter.all false

inductive Clo (vars : List Vr) (base : Nat → Prop) : Nat → Prop where
  | base {i : Nat} : base i → Clo vars base i
  | step {i j : Nat} {v w : Vr} {q : Pl} : vars[i]? = some v → v.dead = false → v.lent = true → q ∈ v.loans → Clo vars base j → vars[j]? = some w → w.name = q.name → Clo vars base i
open Classical in
/-- the numbers below n with a property, the last first -/
noncomputable def desc (n : Nat) (P : Nat → Prop) : List Int := ((List.range n).reverse.filter fun i => decide (P i)).map Int.ofNat
theorem desc_congr {n : Nat} {P Q : Nat → Prop} (h : ∀ i, i < n → (P i ↔ Q i)) : desc n P = desc n Q := by
  unfold desc
  congr 1
  refine List.filter_congr (fun i hi => ?_)
  have : i < n := by simpa using hi
  simp [h i this]

/-- a list of numbers of names that is made so far -/
structure Sofar (vars : List Vr) (base : Nat → Prop) (L0 L : List Int) : Prop where
  nodup : L.Nodup
  mem : ∀ x ∈ L, 0 ≤ x ∧ x < vars.length ∧ Clo vars base x.toNat
  sub : ∀ x ∈ L0, x ∈ L
  len : L0.length ≤ L.length
/-- of what a name is of nothing is in the list -/
def shut (vars : List Vr) (L : List Int) (q : Pl) : Prop := ∀ x ∈ L, ∀ w, vars[x.toNat]? = some w → w.name ≠ q.name
def shutI (vars : List Vr) (L : List Int) (i : Nat) : Prop := ∀ v, vars[i]? = some v → v.dead = false → v.lent = true → (i : Int) ∉ L → ∀ q ∈ v.loans, shut vars L q

theorem Sofar.length {vars : List Vr} {base : Nat → Prop} {L0 L : List Int} (h : Sofar vars base L0 L) : L.length ≤ vars.length := by
  have h1 : (L.map Int.toNat).Nodup := by
    rw [List.Nodup, List.pairwise_map]
    refine List.Pairwise.imp_of_mem ?_ h.nodup
    intro a b ha hb hne e
    have := (h.mem a ha).1
    have := (h.mem b hb).1
    exact hne (by omega)
  have h2 : ∀ x ∈ L.map Int.toNat, x ∈ List.range vars.length := by
    intro x hx
    obtain ⟨y, hy, rfl⟩ := List.mem_map.1 hx
    have := h.mem y hy
    simp; omega
  have := (List.subset_def.2 (fun {x} hx => h2 x hx) : (L.map Int.toNat) ⊆ List.range vars.length)
  have h3 := List.Nodup.length_le_of_subset h1 this
  simpa using h3
theorem Sofar.clo {vars : List Vr} {base : Nat → Prop} {L : List Int} (h : ∀ i : Nat, i < vars.length → shutI vars L i) (hb : ∀ i, base i → (i : Int) ∈ L) : ∀ i, i < vars.length → Clo vars base i → (i : Int) ∈ L := by
  intro i hi hc
  induction hc with
  | base hb' => exact hb _ hb'
  | @step i j v w q h1 h2 h3 h4 h5 h6 h7 ih =>
    apply Classical.byContradiction
    intro hn
    have hj : j < vars.length := (List.getElem?_eq_some_iff.1 h6).1
    exact h i hi v h1 h2 h3 hn q h4 j (ih hj) w (by simpa using h6) h7

/-- one more -/
theorem Sofar.more {vars : List Vr} {base : Nat → Prop} {L0 L : List Int} (h : Sofar vars base L0 L) {i : Nat} (hi : i < vars.length) (hn : (i : Int) ∉ L) (hc : Clo vars base i) : Sofar vars base L0 (L ++ [(i : Int)]) := by
  refine ⟨List.nodup_append.2 ⟨h.nodup, by simp, fun a ha b hb e => ?_⟩, fun x hx => ?_, fun x hx => by simp [h.sub x hx], by have := h.len; simp; omega⟩
  · simp at hb; subst hb; subst e; exact hn ha
  · rcases List.mem_append.1 hx with hx | hx
    · exact h.mem x hx
    · simp at hx; subst hx; exact ⟨by omega, by omega, by simpa using hc⟩

/-- those of a list from a number on, the last first -/
def pickDown (n : Nat) (L : List Int) (i : Nat) : List Int := (((List.range n).drop i).reverse.filter fun (j : Nat) => decide ((j : Int) ∈ L)).map Int.ofNat
theorem pickDown_end (n : Nat) (L : List Int) : pickDown n L n = [] := by
  have : (List.range n).drop n = [] := List.drop_eq_nil_of_le (by simp)
  simp [pickDown, this]
theorem pickDown_step {n : Nat} {L : List Int} {i : Nat} (h : i < n) : pickDown n L i = pickDown n L (i + 1) ++ (if (i : Int) ∈ L then [(i : Int)] else []) := by
  have e : (List.range n).drop i = i :: (List.range n).drop (i + 1) := by
    rw [List.drop_eq_getElem_cons (by simpa using h)]; simp
  unfold pickDown
  rw [e, List.reverse_cons, List.filter_append, List.map_append]
  congr 1
  by_cases hm : (i : Int) ∈ L <;> simp [hm]
theorem pickDown_desc (n : Nat) (L : List Int) : pickDown n L 0 = desc n (fun i => (i : Int) ∈ L) := by
  unfold pickDown desc
  rw [List.drop_zero]
  congr 1
  exact List.filter_congr (fun i _ => by simp)

theorem pickDown_len (n : Nat) (L : List Int) (i : Nat) : (pickDown n L i).length ≤ n := by
  unfold pickDown
  rw [List.length_map]
  refine Nat.le_trans (List.length_filter_le _ _) ?_
  simp

abbrev oVs (vars : List Vr) : Obj := .row 0 true 6 (vars.map dVr)
/-- l3Order -/
def S_s_l3Order : Spec := fun args O Q => ∃ (vars : List Vr) (base : Nat → Prop) (L : List Int), args = [.row 0 0, .row 1 0] ∧ O = [oVs vars, .row 0 true 1 (L.map dI)] ∧ vars.length ≤ 100000 ∧ (∀ v ∈ vars, v.loans.length ≤ 1000) ∧ Sofar vars base L L ∧ (∀ i, base i → (i : Int) ∈ L) ∧
  ∀ L', Q (.d (.sl 1 ((desc vars.length (Clo vars base)).map dI))) [oVs vars, .row 1 false 1 L']
theorem v_s_l3Order {B : World} : Valid PG B s_l3Order S_s_l3Order := by
  refine valid_of (Γ := [(s_l3Among, ⟨[], S_s_l3Among⟩)]) wide tok (AllValid.nil.cons v_s_l3Among) g_s_l3Order rfl rfl ?_
  rintro _ _ Q ⟨vars, base, L0, rfl, rfl, hl, hln, hJ0, hb0, hQ⟩
  refine wG ?_
  refine ⟨[], List Int × Bool, fun x => Sofar vars base L0 x.1 ∧ (x.2 = false → ∀ i : Nat, i < vars.length → shutI vars x.1 i), fun x => 2 * (vars.length - x.1.length) + (bif x.2 then 1 else 0), fun x => [(1, .row 1 1), (5, bv x.2)], fun x => [oVs vars, .row 1 false 1 (x.1.map dI)], (L0, true), ⟨hJ0, fun h => by cases h⟩, ?_⟩
  refine wG ?_
  refine ⟨Meet.mk rfl rfl WkOs.rfl ⟨Wk.rfl, Wk.rfl, trivial⟩ rfl, ?_⟩
  rintro ⟨L, ag⟩ ⟨hJ, hcl⟩
  dsimp only at hJ hcl
  refine wG ?_
  refine ⟨fun h => ?_, fun h => ?_⟩
  · have h : ag = true := h
    subst h
    have hlenL := hJ.length
    refine wG ?_
    refine ⟨[], List Int × Bool × Int, fun x => Sofar vars base L0 x.1 ∧ 0 ≤ x.2.2 ∧ x.2.2 ≤ vars.length ∧ (x.2.1 = false → x.1 = L ∧ ∀ i : Nat, i < x.2.2 → shutI vars L i) ∧ (x.2.1 = true → L.length < x.1.length), fun x => (vars.length - x.2.2).toNat, fun x => [(1, .row 1 1), (5, bv x.2.1), (6, iv x.2.2)], fun x => [oVs vars, .row 1 false 1 (x.1.map dI)], (L, false, 0), ⟨hJ, by dsimp only; omega, by dsimp only; omega, fun _ => ⟨rfl, fun i hi => by dsimp only at hi; omega⟩, fun h => by cases h⟩, ?_⟩
    refine wG ?_
    refine ⟨Meet.mk rfl rfl WkOs.rfl ⟨Wk.rfl, Wk.rfl, Wk.rfl, trivial⟩ rfl, ?_⟩
    rintro ⟨L2, ag2, i⟩ ⟨hJ2, hi0, hi1, hf2, ht2⟩
    dsimp only at hJ2 hi0 hi1 hf2 ht2
    have hlen2 := hJ2.length
    refine wG ?_
    refine brG1 (fun h => ?_) (fun h => ?_)
    · have hlt : i.toNat < vars.length := by omega
      have next : ∀ (L3 : List Int) (ag3 : Bool), (ag3 = false → ag2 = false ∧ L3 = L2 ∧ shutI vars L i.toNat) → ∀ j : Nat, ag3 = false → j < i + 1 → L3 = L ∧ shutI vars L j := by
        intro L3 ag3 h1 j hj1 hj2
        obtain ⟨k1, k2, k3⟩ := h1 hj1
        obtain ⟨k4, k5⟩ := hf2 k1
        refine ⟨by rw [k2, k4], ?_⟩
        rcases Nat.lt_or_ge j i.toNat with h | h
        · exact k5 j (by omega)
        · have : j = i.toNat := by omega
          rw [this]; exact k3
      have edge : ∀ (h : ag2 = false → shutI vars L i.toNat), (fun x : List Int × Bool × Int => Sofar vars base L0 x.1 ∧ 0 ≤ x.2.2 ∧ x.2.2 ≤ vars.length ∧ (x.2.1 = false → x.1 = L ∧ ∀ i : Nat, i < x.2.2 → shutI vars L i) ∧ (x.2.1 = true → L.length < x.1.length)) (L2, ag2, i + 1) := by
        intro h
        refine ⟨hJ2, by dsimp only; omega, by dsimp only; omega, fun ha => ⟨(hf2 ha).1, fun j hj => ?_⟩, ht2⟩
        exact (next L2 ag2 (fun ha => ⟨ha, rfl, h ha⟩) j ha hj).2
      try (refine row_map (by omega) (by (try simp only [List.length_append, List.length_cons, List.length_nil, List.length_map, List.length_take, List.length_drop, maxRow, byteRows_len, Ty.kids, Ty.kids_mk]); omega) ?_; refine wG ?_)
      refine idx_map' (f := dVr) (by (try simp only [List.length_append, List.length_cons, List.length_nil, List.length_map, List.length_take, List.length_drop, maxRow, byteRows_len, Ty.kids, Ty.kids_mk]); omega) ?_
      refine wG ?_
      refine ⟨fun h2 => ?_, fun h2 => ?_⟩
      · have h2 : vars[i.toNat].dead = true := h2
        refine wG ?_
        refine goG1 ?_
        refine ⟨(L2, ag2, i + 1), edge (fun _ v hv hd => ?_), by dsimp only; omega, [], Meet.mk rfl rfl WkOs.rfl ⟨Wk.rfl, Wk.rfl, Wk.rfl, trivial⟩ rfl⟩
        rw [List.getElem?_eq_getElem hlt] at hv
        simp at hv; subst hv; rw [h2] at hd; cases hd
      have h2 : vars[i.toNat].dead = false := h2
      refine wG ?_
      try (refine row_map (by omega) (by (try simp only [List.length_append, List.length_cons, List.length_nil, List.length_map, List.length_take, List.length_drop, maxRow, byteRows_len, Ty.kids, Ty.kids_mk]); omega) ?_; refine wG ?_)
      refine idx_map' (f := dVr) (by (try simp only [List.length_append, List.length_cons, List.length_nil, List.length_map, List.length_take, List.length_drop, maxRow, byteRows_len, Ty.kids, Ty.kids_mk]); omega) ?_
      refine wG ?_
      refine ⟨fun h3 => ?_, fun h3 => ?_⟩
      · have h3 : vars[i.toNat].lent = false := by simpa using h3
        refine wG ?_
        refine goG1 ?_
        refine ⟨(L2, ag2, i + 1), edge (fun _ v hv hd hl => ?_), by dsimp only; omega, [], Meet.mk rfl rfl WkOs.rfl ⟨Wk.rfl, Wk.rfl, Wk.rfl, trivial⟩ rfl⟩
        rw [List.getElem?_eq_getElem hlt] at hv
        simp at hv; subst hv; rw [h3] at hl; cases hl
      have h3 : vars[i.toNat].lent = true := by simpa using h3
      refine wG ?_
      refine ⟨_, _, WkL.rfl, WkOs.rfl, L2, i, rfl, rfl, by omega, ?_⟩
      refine goG1 ?_
      refine ⟨fun h4 => ?_, fun h4 => ?_⟩
      · have h4 : i ∈ L2 := by simpa using h4
        refine wG ?_
        refine goG1 ?_
        refine ⟨(L2, ag2, i + 1), edge (fun ha v hv hd hl hn => ?_), by dsimp only; omega, [], Meet.mk rfl rfl WkOs.rfl ⟨Wk.rfl, Wk.rfl, Wk.rfl, trivial⟩ rfl⟩
        rw [(hf2 ha).1] at h4
        exact absurd (by have e : ((i.toNat : Nat) : Int) = i := by omega
                         rw [e]; exact h4) hn
      have h4 : i ∉ L2 := by simpa using h4
      refine wG ?_
      have hlo := hln _ (List.getElem_mem hlt)
      have hvi : vars[i.toNat]? = some vars[i.toNat] := List.getElem?_eq_getElem hlt
      have ei : ((i.toNat : Nat) : Int) = i := by omega
      refine ⟨[], List Int × Bool × Int, fun x => Sofar vars base L0 x.1 ∧ L2.length ≤ x.1.length ∧ 0 ≤ x.2.2 ∧ x.2.2 ≤ vars[i.toNat].loans.length ∧ (x.2.1 = false → ag2 = false ∧ x.1 = L2 ∧ ∀ k : Nat, k < x.2.2 → ∀ q, vars[i.toNat].loans[k]? = some q → shut vars L2 q) ∧ (x.2.1 = true → ag2 = true ∨ L2.length < x.1.length), fun x => (vars[i.toNat].loans.length - x.2.2).toNat, fun x => [(1, .row 1 1), (5, bv x.2.1), (7, iv x.2.2)], fun x => [oVs vars, .row 1 false 1 (x.1.map dI)], (L2, ag2, 0), ⟨hJ2, Nat.le_refl _, by dsimp only; omega, by dsimp only; omega, fun h => ⟨h, rfl, fun k hk => by dsimp only at hk; omega⟩, fun h => .inl h⟩, ?_⟩
      refine wG ?_
      refine ⟨Meet.mk rfl rfl WkOs.rfl ⟨Wk.rfl, Wk.rfl, Wk.rfl, trivial⟩ rfl, ?_⟩
      rintro ⟨L3, ag3, k⟩ ⟨hJ3, hle3, hk0, hk1, hf3, ht3⟩
      dsimp only at hJ3 hle3 hk0 hk1 hf3 ht3
      have hlen3 := hJ3.length
      refine wG ?_
      try (refine row_map (by omega) (by (try simp only [List.length_append, List.length_cons, List.length_nil, List.length_map, List.length_take, List.length_drop, maxRow, byteRows_len, Ty.kids, Ty.kids_mk]); omega) ?_; refine wG ?_)
      refine idx_map' (f := dVr) (by (try simp only [List.length_append, List.length_cons, List.length_nil, List.length_map, List.length_take, List.length_drop, maxRow, byteRows_len, Ty.kids, Ty.kids_mk]); omega) ?_
      refine wG ?_
      refine brG1 (fun h5 => ?_) (fun h5 => ?_)
      · have hkl : k.toNat < vars[i.toNat].loans.length := by omega
        refine ⟨[], List Int × Bool × Int, fun x => Sofar vars base L0 x.1 ∧ L3.length ≤ x.1.length ∧ 0 ≤ x.2.2 ∧ x.2.2 ≤ x.1.length ∧ (x.2.1 = false → ag3 = false ∧ x.1 = L3 ∧ ∀ j : Nat, j < x.2.2 → ∀ y, L3[j]? = some y → ∀ w, vars[y.toNat]? = some w → w.name ≠ vars[i.toNat].loans[k.toNat].name) ∧ (x.2.1 = true → ag3 = true ∨ L3.length < x.1.length), fun x => 2 * (vars.length - x.1.length) + (x.1.length - x.2.2).toNat, fun x => [(1, .row 1 1), (5, bv x.2.1), (8, iv x.2.2)], fun x => [oVs vars, .row 1 false 1 (x.1.map dI)], (L3, ag3, 0), ⟨hJ3, Nat.le_refl _, by dsimp only; omega, by dsimp only; omega, fun h => ⟨h, rfl, fun k hk => by dsimp only at hk; omega⟩, fun h => .inl h⟩, ?_⟩
        refine wG ?_
        refine ⟨Meet.mk rfl rfl WkOs.rfl ⟨Wk.rfl, Wk.rfl, Wk.rfl, trivial⟩ rfl, ?_⟩
        rintro ⟨L4, ag4, n⟩ ⟨hJ4, hle4, hn0, hn1, hf4, ht4⟩
        dsimp only at hJ4 hle4 hn0 hn1 hf4 ht4
        have hlen4 := hJ4.length
        refine wG ?_
        refine brG1 (fun h6 => ?_) (fun h6 => ?_)
        · have hnl : n.toNat < L4.length := by omega
          obtain ⟨hx0, hx1, hx2⟩ := hJ4.mem _ (List.getElem_mem hnl)
          have hxl : L4[n.toNat].toNat < vars.length := by omega
          try (refine row_map (by omega) (by (try simp only [List.length_append, List.length_cons, List.length_nil, List.length_map, List.length_take, List.length_drop, maxRow, byteRows_len, Ty.kids, Ty.kids_mk]); omega) ?_; refine wG ?_)
          refine idx_map' (f := dI) (by (try simp only [List.length_append, List.length_cons, List.length_nil, List.length_map, List.length_take, List.length_drop, maxRow, byteRows_len, Ty.kids, Ty.kids_mk]); omega) ?_
          refine wG ?_
          try (refine row_map (by omega) (by (try simp only [List.length_append, List.length_cons, List.length_nil, List.length_map, List.length_take, List.length_drop, maxRow, byteRows_len, Ty.kids, Ty.kids_mk]); omega) ?_; refine wG ?_)
          refine idx_map' (f := dVr) (by (try simp only [List.length_append, List.length_cons, List.length_nil, List.length_map, List.length_take, List.length_drop, maxRow, byteRows_len, Ty.kids, Ty.kids_mk]); omega) ?_
          refine wG ?_
          try (refine row_map (by omega) (by (try simp only [List.length_append, List.length_cons, List.length_nil, List.length_map, List.length_take, List.length_drop, maxRow, byteRows_len, Ty.kids, Ty.kids_mk]); omega) ?_; refine wG ?_)
          refine idx_map' (f := dVr) (by (try simp only [List.length_append, List.length_cons, List.length_nil, List.length_map, List.length_take, List.length_drop, maxRow, byteRows_len, Ty.kids, Ty.kids_mk]); omega) ?_
          refine wG ?_
          first | refine idx_map (f := dPl) (by omega) (by (try simp only [List.length_append, List.length_cons, List.length_nil, List.length_map, List.length_take, List.length_drop, maxRow, byteRows_len, Ty.kids, Ty.kids_mk]); omega) ?_ | refine idx_map' (f := dPl) (by (try simp only [List.length_append, List.length_cons, List.length_nil, List.length_map, List.length_take, List.length_drop, maxRow, byteRows_len, Ty.kids, Ty.kids_mk]); omega) ?_
          refine wG ?_
          have keep : (ag4 = false → vars[L4[n.toNat].toNat].name ≠ vars[i.toNat].loans[k.toNat].name) → ∀ (h : ag4 = false), ag3 = false ∧ L4 = L3 ∧ ∀ j : Nat, (j : Int) < n + 1 → ∀ y, L3[j]? = some y → ∀ w, vars[y.toNat]? = some w → w.name ≠ vars[i.toNat].loans[k.toNat].name := by
            intro h7 ha
            obtain ⟨q1, q2, q3⟩ := hf4 ha
            refine ⟨q1, q2, fun j hj y hy w hw => ?_⟩
            rcases Nat.lt_or_ge j n.toNat with h | h
            · exact q3 j (by omega) y hy w hw
            · have : j = n.toNat := by omega
              subst this
              have hy2 : L4[n.toNat]? = some y := by rw [q2]; exact hy
              rw [List.getElem?_eq_getElem hnl] at hy2
              simp at hy2
              rw [← hy2, List.getElem?_eq_getElem hxl] at hw
              simp at hw
              rw [← hw]; exact h7 ha
          refine ⟨fun h7 => ?_, fun h7 => ?_⟩
          · have h7 : vars[L4[n.toNat].toNat].name = vars[i.toNat].loans[k.toNat].name := by simpa using h7
            refine wG ?_
            refine ⟨_, _, WkL.rfl, WkOs.rfl, L4, i, rfl, rfl, by omega, ?_⟩
            refine goG1 ?_
            refine ⟨fun h8 => ?_, fun h8 => ?_⟩
            · have h8 : i ∉ L4 := by simpa using h8
              refine wG ?_
              left
              refine wG ?_
              refine goG1 ?_
              have hc : Clo vars base i.toNat := .step hvi h2 h3 (List.getElem_mem hkl) hx2 (List.getElem?_eq_getElem hxl) h7
              have hm := hJ4.more hlt (by rw [ei]; exact h8) hc
              rw [ei] at hm
              have hml := hm.length
              simp only [List.length_append, List.length_cons, List.length_nil] at hml
              refine ⟨(L4 ++ [i], true, n + 1), ⟨hm, ?_, ?_, ?_, fun h => (by cases h), fun _ => .inr ?_⟩, ?_, [], Meet.mk rfl rfl ?_ ⟨Wk.rfl, Wk.rfl, Wk.rfl, trivial⟩ rfl⟩
              · simp; omega
              · dsimp only; omega
              · simp; omega
              · simp; omega
              · simp; omega
              · exact ⟨WkO.rfl, .inr ⟨rfl, rfl, rfl, rows_app rfl DWL.rfl⟩, trivial⟩
            · have h8 : i ∈ L4 := by simpa using h8
              refine wG ?_
              refine goG1 ?_
              refine ⟨(L4, ag4, n + 1), ⟨hJ4, hle4, by dsimp only; omega, by dsimp only; omega, keep (fun ha => ?_), ht4⟩, by dsimp only; omega, [], Meet.mk rfl rfl WkOs.rfl ⟨Wk.rfl, Wk.rfl, Wk.rfl, trivial⟩ rfl⟩
              obtain ⟨q1, q2, _⟩ := hf4 ha
              obtain ⟨q3, q4, _⟩ := hf3 q1
              rw [q2, q4] at h8
              exact absurd h8 h4
          · have h7 : vars[L4[n.toNat].toNat].name ≠ vars[i.toNat].loans[k.toNat].name := by simpa using h7
            refine wG ?_
            refine goG1 ?_
            refine ⟨(L4, ag4, n + 1), ⟨hJ4, hle4, by dsimp only; omega, by dsimp only; omega, keep (fun _ => h7), ht4⟩, by dsimp only; omega, [], Meet.mk rfl rfl WkOs.rfl ⟨Wk.rfl, Wk.rfl, Wk.rfl, trivial⟩ rfl⟩
        · refine goG1 ?_
          refine ⟨(L4, ag4, k + 1), ⟨hJ4, ?_, ?_, ?_, fun ha => ?_, fun ha => ?_⟩, ?_, [], Meet.mk rfl rfl WkOs.rfl ⟨Wk.rfl, Wk.rfl, Wk.rfl, trivial⟩ rfl⟩
          · dsimp only; omega
          · dsimp only; omega
          · dsimp only; omega
          · dsimp only at ha ⊢
            obtain ⟨q1, q2, q3⟩ := hf4 ha
            obtain ⟨q4, q5, q6⟩ := hf3 q1
            refine ⟨q4, by rw [q2, q5], fun j hj q hq => ?_⟩
            rcases Nat.lt_or_ge j k.toNat with h | h
            · exact q6 j (by omega) q hq
            · have : j = k.toNat := by omega
              subst this
              rw [List.getElem?_eq_getElem hkl] at hq
              simp at hq
              intro y hy w hw
              rw [← q5] at hy
              obtain ⟨j2, hj2, rfl⟩ := List.getElem_of_mem hy
              rw [← hq]
              exact q3 j2 (by rw [q2] at h6; omega) _ (List.getElem?_eq_getElem hj2) w hw
          · dsimp only at ha ⊢
            rcases ht4 ha with h | h
            · rcases ht3 h with h | h
              · exact .inl h
              · exact .inr (by omega)
            · exact .inr (by omega)
          · dsimp only; omega
      · refine goG1 ?_
        refine ⟨(L3, ag3, i + 1), ⟨hJ3, ?_, ?_, fun ha => ?_, fun ha => ?_⟩, ?_, [], Meet.mk rfl rfl WkOs.rfl ⟨Wk.rfl, Wk.rfl, Wk.rfl, trivial⟩ rfl⟩
        · dsimp only; omega
        · dsimp only; omega
        · dsimp only at ha ⊢
          have hn : ∀ j : Nat, (j : Int) < i + 1 → L3 = L ∧ shutI vars L j := fun j hj => next L3 ag3 (fun ha => by
            obtain ⟨q4, q5, q6⟩ := hf3 ha
            refine ⟨q4, q5, fun v hv hd hle hn q hq => ?_⟩
            rw [hvi] at hv
            simp at hv; subst hv
            obtain ⟨j2, hj2, rfl⟩ := List.getElem_of_mem hq
            rw [← (hf2 q4).1]
            exact q6 j2 (by omega) _ (List.getElem?_eq_getElem hj2)) j ha hj
          exact ⟨(hn 0 (by omega)).1, fun j hj => (hn j hj).2⟩
        · dsimp only at ha ⊢
          have : L.length ≤ L2.length := by
            cases hag : ag2 with
            | false => rw [(hf2 hag).1]; exact Nat.le_refl _
            | true => exact Nat.le_of_lt (ht2 hag)
          rcases ht3 ha with h | h
          · have := ht2 h; omega
          · omega
        · dsimp only; omega
    · refine ⟨(L2, ag2), ⟨hJ2, fun ha j hj => ?_⟩, ?_, [], Meet.mk rfl rfl WkOs.rfl ⟨Wk.rfl, Wk.rfl, trivial⟩ rfl⟩
      · dsimp only at ha ⊢
        obtain ⟨q1, q2⟩ := hf2 ha
        rw [q1]; exact q2 j (by omega)
      · dsimp only
        cases hag : ag2 with
        | false => rw [(hf2 hag).1]; simp
        | true =>
          have := ht2 hag
          simp only [cond_true]; omega
  · have h : ag = false := h
    subst h
    have hcl := hcl rfl
    have hlenL := hJ.length
    have hin : ∀ i, i < vars.length → ((i : Int) ∈ L ↔ Clo vars base i) := fun i hi => ⟨fun hm => by simpa using (hJ.mem _ hm).2.2, Sofar.clo hcl (fun i hb => hJ.sub _ (hb0 i hb)) i hi⟩
    refine wG ?_
    right
    refine wG ?_
    refine goG1 ?_
    refine ⟨[], Int, fun i : Int => -1 ≤ i ∧ i < vars.length, fun i => (i + 1).toNat, fun i => [(1, .row 1 1), (9, .row 2 1), (10, iv i)], fun i : Int => [oVs vars, .row 1 false 1 (L.map dI), .row 1 true 1 ((pickDown vars.length L (i + 1).toNat).map dI)], (vars.length - 1), ⟨by omega, by omega⟩, ?_⟩
    refine wG ?_
    refine ⟨Meet.mk rfl rfl ⟨WkO.rfl, WkO.rfl, .inr ⟨rfl, rfl, rfl, DWRows.rfl_of ?_⟩, trivial⟩ ⟨Wk.rfl, Wk.rfl, Wk.of_eq (by show AV.d (DV.i .i64 (((vars.map dVr).length : Int) - 1)) = _; rw [List.length_map]), trivial⟩ rfl, ?_⟩
    · have e : ((vars.length : Int) - 1 + 1).toNat = vars.length := by omega
      rw [e, pickDown_end]; rfl
    rintro i ⟨hi0, hi1⟩
    refine wG ?_
    refine brG1 (fun h => ?_) (fun h => ?_)
    · have hlt : i.toNat < vars.length := by omega
      have ei : ((i.toNat : Nat) : Int) = i := by omega
      have e1 : (i + 1).toNat = i.toNat + 1 := by omega
      have e2 : (i - 1 + 1).toNat = i.toNat := by omega
      have st := pickDown_step (L := L) hlt
      have hpl := pickDown_len vars.length L (i + 1).toNat
      rw [ei] at st
      refine ⟨_, _, WkL.rfl, WkOs.rfl, L, i, rfl, rfl, by omega, ?_⟩
      refine goG1 ?_
      refine ⟨fun h2 => ?_, fun h2 => ?_⟩
      · have h2 : i ∈ L := by simpa using h2
        rw [if_pos h2] at st
        refine wG ?_
        left
        refine wG ?_
        refine goG1 ?_
        refine ⟨i - 1, ⟨by omega, by omega⟩, by dsimp only; omega, [], Meet.mk rfl rfl ⟨WkO.rfl, WkO.rfl, .inr ⟨rfl, rfl, rfl, ?_⟩, trivial⟩ ⟨Wk.rfl, Wk.rfl, Wk.rfl, trivial⟩ rfl⟩
        rw [e1, e2, st]
        exact rows_app rfl DWL.rfl
      · have h2 : i ∉ L := by simpa using h2
        rw [if_neg h2, List.append_nil] at st
        refine wG ?_
        refine goG1 ?_
        refine ⟨i - 1, ⟨by omega, by omega⟩, by dsimp only; omega, [], Meet.mk rfl rfl ⟨WkO.rfl, WkO.rfl, .inr ⟨rfl, rfl, rfl, DWRows.rfl_of ?_⟩, trivial⟩ ⟨Wk.rfl, Wk.rfl, Wk.rfl, trivial⟩ rfl⟩
        rw [e1, e2, st]
    · have e : (i + 1).toNat = 0 := by omega
      refine endK ⟨[], ⟨rfl, rfl⟩, ?_⟩
      refine wG ?_
      refine ⟨_, _, Wk.of_eq ?_, WkOs.rfl, hQ (L.map dI)⟩
      rw [e, pickDown_desc, desc_congr hin]
end Ab
