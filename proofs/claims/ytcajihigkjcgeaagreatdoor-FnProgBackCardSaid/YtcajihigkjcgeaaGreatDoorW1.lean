/- The reference's words that write: places, expressions, types. -/
import Derived.Test.YtcajihigkjcgeaaGreatDoorSyn
import Derived.Test.YtcajihigkjcgeaaGreatDoorL3H
set_option linter.all false
namespace Ab
open Go Go.Proofs
set_option maxRecDepth 10000
set_option maxHeartbeats 4000000
set_option linter.all false

abbrev dec (n : Int) : Bs := Lib.decDigits n.toNat
def pathS (p : List Int) : Bs := (p.map fun x => 46 :: dec x).flatten
def atS (p : Pl) : Bs := p.name ++ pathS p.path
theorem dec1_len {x : Int} (h : stepOk x = true) : (dec x).length = 1 := by
  simp only [stepOk, Bool.and_eq_true, decide_eq_true_eq] at h
  obtain ⟨h1, h2⟩ := h
  have : x.toNat < 10 := by omega
  rw [dec, Lib.decDigits, dif_pos this]; rfl
theorem pathS_len : ∀ {p : List Int}, p.all stepOk = true → (pathS p).length = 2 * p.length
  | [], _ => rfl
  | x :: p, h => by
    simp only [List.all_cons, Bool.and_eq_true] at h
    have := pathS_len h.2
    simp only [pathS, List.map_cons, List.flatten_cons, List.length_append, List.length_cons, dec1_len h.1] at this ⊢
    omega
theorem plOk_path {p : Pl} (h : plOk p = true) : p.path.all stepOk = true := by
  simp only [plOk, pathOk, Bool.and_eq_true] at h; exact h.2.2
theorem plOk_nlen {p : Pl} (h : plOk p = true) : p.name.length ≤ 6 := by
  simp only [plOk, nameOk, Bool.and_eq_true, decide_eq_true_eq] at h; exact h.1.1.2
theorem atS_len {p : Pl} (h : plOk p = true) : (atS p).length ≤ 14 := by
  have h1 := plOk_nlen h; have h2 := plOk_len h
  rw [atS, List.length_append, pathS_len (plOk_path h)]; omega
theorem pathS_snoc (p : List Int) (x : Int) : pathS (p ++ [x]) = pathS p ++ 46 :: dec x := by simp [pathS]

/-- l2At -/
def S_s_l2At : Spec := fun args O Q => ∃ (p : Pl), args = [aPl p] ∧ O = [] ∧ plOk p = true ∧ Q (.d (.s (atS p))) []
theorem v_s_l2At {B : World} : Valid PG B s_l2At S_s_l2At := by
  refine valid_of (Γ := [(s_l6Dec, ⟨[], S_s_l6Dec 100⟩)]) wide tok (AllValid.nil.cons (v_s_l6Dec 100)) g_s_l2At rfl rfl ?_
  rintro _ _ Q ⟨⟨n, p⟩, rfl, rfl, hp, hQ⟩
  have h1 := plOk_nlen hp; have h2 := plOk_len hp; have h3 := plOk_path hp
  dsimp only at h1 h2 h3
  refine wG ?_
  refine ⟨[], Int, fun i => 0 ≤ i ∧ i ≤ p.length, fun i => (p.length - i).toNat, fun i => [(3, .d (.s (n ++ pathS (p.take i.toNat)))), (4, iv i)], fun i => [bPl ⟨n, p⟩], 0, ⟨by omega, by omega⟩, ?_⟩
  refine wG ?_
  refine ⟨Meet.mk rfl rfl (WkOs.rfl) ⟨Wk.of_eq (by show AV.d (DV.s n) = AV.d (DV.s (n ++ pathS [])); simp [pathS]), Wk.rfl, trivial⟩ rfl, ?_⟩
  rintro i ⟨i0, i1⟩
  refine wG ?_
  refine brG1 (fun h => ?_) (fun h => ?_)
  · have hi : i.toNat < p.length := by
      have h : i < (p.length : Int) := by simpa using h
      omega
    have hst := List.all_eq_true.1 h3 _ (List.getElem_mem hi)
    have hd := dec1_len hst
    have e3 : (i + 1).toNat = i.toNat + 1 := by omega
    have hs : n ++ pathS (p.take i.toNat) ++ [46] ++ dec p[i.toNat] = n ++ pathS (p.take (i + 1).toNat) := by
      rw [e3, List.take_succ_eq_append_getElem hi, pathS_snoc]; simp
    have hl : (n ++ pathS (p.take i.toNat)).length ≤ 100 := by
      have : (p.take i.toNat).all stepOk = true := List.all_eq_true.2 fun x hx => List.all_eq_true.1 h3 x (List.mem_of_mem_take hx)
      rw [List.length_append, pathS_len this]; simp; omega
    have hs01 : 0 ≤ p[i.toNat] ∧ p[i.toNat] ≤ 1 := by simpa [stepOk] using hst
    generalize hS : n ++ pathS (p.take i.toNat) = S at *
    refine goG1 ?_
    first | refine idx_map (f := dI) (by omega) (by (try simp only [List.length_append, List.length_cons, List.length_nil, List.length_map, List.length_take, List.length_drop, maxRow, byteRows_len, Ty.kids, Ty.kids_mk]); omega) ?_ | refine idx_map' (f := dI) (by (try simp only [List.length_append, List.length_cons, List.length_nil, List.length_map, List.length_take, List.length_drop, maxRow, byteRows_len, Ty.kids, Ty.kids_mk]); omega) ?_
    refine wG ?_
    generalize p[i.toNat] = x at *
    refine ⟨_, _, WkL.rfl, WkOs.rfl, x, rfl, rfl, hs01.1, by omega, by omega, ?_⟩
    refine goG1 ?_
    refine Req.mk (by rw [List.length_append]; show S.length + 1 + (dec x).length ≤ _; omega) ?_
    refine wG ?_
    refine goG1 ?_
    refine ⟨i + 1, ⟨by omega, by omega⟩, by dsimp only; omega, [], Meet.mk rfl rfl WkOs.rfl ⟨Wk.of_eq ?_, Wk.rfl, trivial⟩ rfl⟩
    dsimp only
    rw [← hs]; rfl
  · have hi : i.toNat = p.length := by
      have h : ¬ i < (p.length : Int) := by simpa using h
      omega
    rw [hi, List.take_length]
    refine goG1 ?_
    refine endK ⟨[], ⟨rfl, rfl⟩, ?_⟩
    refine wG ?_
    exact ⟨_, _, Wk.rfl, WkOs.rfl, hQ⟩
/-- l2Signs -/
def signs : List Bs := [[], [], [], [43], [45], [60], [44]]
def S_s_l2Signs : Spec := fun args O Q => args = [] ∧ O = [] ∧ Q (.d (.sl 1 (signs.map dS))) []
theorem v_s_l2Signs {B : World} : Valid PG B s_l2Signs S_s_l2Signs := by
  refine valid_of (Γ := []) wide tok AllValid.nil g_s_l2Signs rfl rfl ?_
  rintro _ _ Q ⟨rfl, rfl, hQ⟩
  refine wG ?_
  left
  refine wG ?_
  refine endK ⟨[], ⟨rfl, rfl⟩, ?_⟩
  refine wG ?_
  exact ⟨_, _, Wk.d DW.sf, WkOs.rfl, hQ⟩

def sign (k : Int) : Bs := if k = 3 then [43] else if k = 4 then [45] else if k = 5 then [60] else [44]
def sayS : Nat → Xp → Bs
  | 0, _ => []
  | n + 1, .mk k m p ks => if k = 1 then dec m else if k = 2 then 64 :: atS p else match ks with
    | [a, b] => sign k ++ [32] ++ sayS n a ++ [32] ++ sayS n b
    | _ => []
theorem sayS_1 (n : Nat) (m : Int) (p : Pl) (ks : List Xp) : sayS (n + 1) (.mk 1 m p ks) = dec m := by simp [sayS]
theorem sayS_2 (n : Nat) (m : Int) (p : Pl) (ks : List Xp) : sayS (n + 1) (.mk 2 m p ks) = 64 :: atS p := by simp [sayS]
theorem sayS_3 (n : Nat) {k : Int} (m : Int) (p : Pl) (a b : Xp) (h1 : 3 ≤ k) : sayS (n + 1) (.mk k m p [a, b]) = sign k ++ [32] ++ sayS n a ++ [32] ++ sayS n b := by
  rw [sayS, if_neg (by omega), if_neg (by omega)]
theorem sign_len (k : Int) : (sign k).length = 1 := by unfold sign; (repeat' split) <;> rfl
theorem sayS_len : ∀ {n : Nat} {x : Xp}, XpF n x → (sayS n x).length + 5 ≤ 20 * 2 ^ n
  | n + 1, _, .num (m := m) h1 h2 => by
    rw [sayS_1]
    have := dec_len 3 m.toNat (by omega)
    have h2 : 1 ≤ 2 ^ n := Nat.one_le_two_pow
    rw [Nat.pow_succ]
    simp only [dec]
    omega
  | n + 1, _, .read h => by
    rw [sayS_2]
    have h1 := atS_len h
    have h2 : 1 ≤ 2 ^ n := Nat.one_le_two_pow
    rw [Nat.pow_succ, List.length_cons]
    omega
  | n + 1, _, .two (a := a) (b := b) h1 h2 ha hb => by
    rw [sayS_3 _ _ _ _ _ h1]
    have e1 := sayS_len ha
    have e2 := sayS_len hb
    simp only [List.length_append, sign_len, List.length_cons, List.length_nil]
    rw [Nat.pow_succ]; omega
/-- l2Say -/
def S_s_l2Say (n : Nat) : Spec := fun args O Q => ∃ (x : Xp) (m : Nat), args = [aXp x] ∧ O = [] ∧ m < n ∧ n ≤ 10 ∧ XpF m x ∧ Q (.d (.s (sayS m x))) []
theorem v_s_l2Say {B : World} : ∀ n, Valid PG B s_l2Say (S_s_l2Say n) := by
  refine valid_lt (fun args O Q ⟨x, m, _, _, h1, _⟩ => by omega) fun n ih => ?_
  refine valid_of (Γ := [(s_l6Dec, ⟨[], S_s_l6Dec 10000⟩), (s_l2At, ⟨[], S_s_l2At⟩), (s_l2Signs, ⟨[], S_s_l2Signs⟩), (s_l2Say, ⟨[], S_s_l2Say n⟩)]) wide tok ((((AllValid.nil.cons ih).cons v_s_l2Signs).cons v_s_l2At).cons (v_s_l6Dec 10000)) g_s_l2Say rfl rfl ?_
  rintro _ _ Q ⟨x, m, rfl, rfl, hm, hn, hx, hQ⟩
  have hlen := sayS_len hx
  cases hx with
  | @num m v h1 h2 =>
    rw [sayS_1] at hQ
    refine wG ?_
    refine Br.yes (by rfl) ?_
    refine wG ?_
    refine ⟨_, _, WkL.rfl, WkOs.rfl, v, rfl, rfl, h1, by omega, by omega, ?_⟩
    refine goG1 ?_
    refine endK ⟨[], ⟨rfl, rfl⟩, ?_⟩
    refine wG ?_
    exact ⟨_, _, Wk.rfl, WkOs.rfl, hQ⟩
  | @read m p h =>
    rw [sayS_2] at hQ
    have h1 := atS_len h
    refine wG ?_
    refine Br.no (by rfl) ?_
    refine wG ?_
    refine Br.yes (by rfl) ?_
    refine wG ?_
    refine ⟨_, _, WkL.rfl, WkOs.rfl, p, rfl, rfl, h, ?_⟩
    refine goG1 ?_
    refine endK ⟨[], ⟨rfl, rfl⟩, ?_⟩
    refine wG ?_
    exact ⟨_, _, Wk.rfl, WkOs.rfl, hQ⟩
  | @two m k a b h1 h2 ha hb =>
    have ea := sayS_len ha
    have eb := sayS_len hb
    have hp : 2 ^ m ≤ 2 ^ 9 := Nat.pow_le_pow_right (by omega) (by omega)
    have hsg : (signs.map dS)[k.toNat]? = some [.s (sign k)] := by
      have : k = 3 ∨ k = 4 ∨ k = 5 ∨ k = 6 := by omega
      rcases this with rfl | rfl | rfl | rfl <;> rfl
    have hsl := sign_len k
    rw [sayS_3 _ _ _ _ _ h1] at hQ
    refine wG ?_
    refine Br.no (by show (k == 1) = false; simp; omega) ?_
    refine wG ?_
    refine Br.no (by show (k == 2) = false; simp; omega) ?_
    refine wG ?_
    refine Req.mk (by omega) ?_
    refine ⟨dXp a, rfl, ?_⟩
    rw [dXp_eq]
    refine wG ?_
    refine Req.mk (by omega) ?_
    refine ⟨dXp b, rfl, ?_⟩
    rw [dXp_eq]
    refine wG ?_
    refine ⟨_, _, WkL.rfl, WkOs.rfl, rfl, rfl, ?_⟩
    refine wG ?_
    repeat (first | (refine Req.mk (by (((conv => (whnf)); (try (refine AnyG.skip ?_; (conv => (whnf)))))); refine Req.mk (by omega) ?_; refine ⟨dXp a, rfl, ?_⟩; rw [dXp_eq]; (((conv => (whnf)); (try (refine AnyG.skip ?_; (conv => (whnf)))))); exact Wk.rfl) ?_; ((conv => (whnf)); (try (refine AnyG.skip ?_; (conv => (whnf)))))) | (refine Req.mk (by (((conv => (whnf)); (try (refine AnyG.skip ?_; (conv => (whnf)))))); refine Req.mk (by omega) ?_; refine ⟨dXp b, rfl, ?_⟩; rw [dXp_eq]; (((conv => (whnf)); (try (refine AnyG.skip ?_; (conv => (whnf)))))); exact Wk.rfl) ?_; ((conv => (whnf)); (try (refine AnyG.skip ?_; (conv => (whnf)))))) | (refine Req.mk (by (((conv => (whnf)); (try (refine AnyG.skip ?_; (conv => (whnf)))))); refine Req.mk (show 0 ≤ k by omega) ?_; refine ⟨_, hsg, ?_⟩; (((conv => (whnf)); (try (refine AnyG.skip ?_; (conv => (whnf)))))); exact Wk.rfl) ?_; ((conv => (whnf)); (try (refine AnyG.skip ?_; (conv => (whnf)))))) | (refine Req.mk (by omega) ?_; ((conv => (whnf)); (try (refine AnyG.skip ?_; (conv => (whnf)))))) | (refine Req.mk (Nat.le_of_ble_eq_true rfl) ?_; ((conv => (whnf)); (try (refine AnyG.skip ?_; (conv => (whnf)))))) | (refine Req.mk (by (((conv => (whnf)); (try (refine AnyG.skip ?_; (conv => (whnf)))))); exact Wk.rfl) ?_; ((conv => (whnf)); (try (refine AnyG.skip ?_; (conv => (whnf)))))))
    refine Req.mk (by show 0 ≤ k; omega) ?_
    refine ⟨_, hsg, ?_⟩
    refine wG ?_
    refine Req.mk (by show (sign k).length + 1 ≤ 9223372036854775807; omega) ?_
    refine wG ?_
    refine ⟨_, _, WkL.rfl, WkOs.rfl, a, m, rfl, rfl, by omega, by omega, ha, ?_⟩
    refine wG ?_
    repeat (first | (refine Req.mk (by (((conv => (whnf)); (try (refine AnyG.skip ?_; (conv => (whnf)))))); refine Req.mk (by omega) ?_; refine ⟨dXp a, rfl, ?_⟩; rw [dXp_eq]; (((conv => (whnf)); (try (refine AnyG.skip ?_; (conv => (whnf)))))); exact Wk.rfl) ?_; ((conv => (whnf)); (try (refine AnyG.skip ?_; (conv => (whnf)))))) | (refine Req.mk (by (((conv => (whnf)); (try (refine AnyG.skip ?_; (conv => (whnf)))))); refine Req.mk (by omega) ?_; refine ⟨dXp b, rfl, ?_⟩; rw [dXp_eq]; (((conv => (whnf)); (try (refine AnyG.skip ?_; (conv => (whnf)))))); exact Wk.rfl) ?_; ((conv => (whnf)); (try (refine AnyG.skip ?_; (conv => (whnf)))))) | (refine Req.mk (by (((conv => (whnf)); (try (refine AnyG.skip ?_; (conv => (whnf)))))); refine Req.mk (show 0 ≤ k by omega) ?_; refine ⟨_, hsg, ?_⟩; (((conv => (whnf)); (try (refine AnyG.skip ?_; (conv => (whnf)))))); exact Wk.rfl) ?_; ((conv => (whnf)); (try (refine AnyG.skip ?_; (conv => (whnf)))))) | (refine Req.mk (by omega) ?_; ((conv => (whnf)); (try (refine AnyG.skip ?_; (conv => (whnf)))))) | (refine Req.mk (Nat.le_of_ble_eq_true rfl) ?_; ((conv => (whnf)); (try (refine AnyG.skip ?_; (conv => (whnf)))))) | (refine Req.mk (by (((conv => (whnf)); (try (refine AnyG.skip ?_; (conv => (whnf)))))); exact Wk.rfl) ?_; ((conv => (whnf)); (try (refine AnyG.skip ?_; (conv => (whnf)))))))
    refine Req.mk (by show (sign k ++ [32]).length + (sayS m a).length ≤ 9223372036854775807; rw [List.length_append, hsl]; simp; omega) ?_
    refine wG ?_
    refine Req.mk (by show (sign k ++ [32] ++ sayS m a).length + 1 ≤ 9223372036854775807; rw [List.length_append, List.length_append, hsl]; simp; omega) ?_
    refine wG ?_
    refine ⟨_, _, WkL.rfl, WkOs.rfl, b, m, rfl, rfl, by omega, by omega, hb, ?_⟩
    refine wG ?_
    repeat (first | (refine Req.mk (by (((conv => (whnf)); (try (refine AnyG.skip ?_; (conv => (whnf)))))); refine Req.mk (by omega) ?_; refine ⟨dXp a, rfl, ?_⟩; rw [dXp_eq]; (((conv => (whnf)); (try (refine AnyG.skip ?_; (conv => (whnf)))))); exact Wk.rfl) ?_; ((conv => (whnf)); (try (refine AnyG.skip ?_; (conv => (whnf)))))) | (refine Req.mk (by (((conv => (whnf)); (try (refine AnyG.skip ?_; (conv => (whnf)))))); refine Req.mk (by omega) ?_; refine ⟨dXp b, rfl, ?_⟩; rw [dXp_eq]; (((conv => (whnf)); (try (refine AnyG.skip ?_; (conv => (whnf)))))); exact Wk.rfl) ?_; ((conv => (whnf)); (try (refine AnyG.skip ?_; (conv => (whnf)))))) | (refine Req.mk (by (((conv => (whnf)); (try (refine AnyG.skip ?_; (conv => (whnf)))))); refine Req.mk (show 0 ≤ k by omega) ?_; refine ⟨_, hsg, ?_⟩; (((conv => (whnf)); (try (refine AnyG.skip ?_; (conv => (whnf)))))); exact Wk.rfl) ?_; ((conv => (whnf)); (try (refine AnyG.skip ?_; (conv => (whnf)))))) | (refine Req.mk (by omega) ?_; ((conv => (whnf)); (try (refine AnyG.skip ?_; (conv => (whnf)))))) | (refine Req.mk (Nat.le_of_ble_eq_true rfl) ?_; ((conv => (whnf)); (try (refine AnyG.skip ?_; (conv => (whnf)))))) | (refine Req.mk (by (((conv => (whnf)); (try (refine AnyG.skip ?_; (conv => (whnf)))))); exact Wk.rfl) ?_; ((conv => (whnf)); (try (refine AnyG.skip ?_; (conv => (whnf)))))))
    refine Req.mk (by show (sign k ++ [32] ++ sayS m a ++ [32]).length + (sayS m b).length ≤ 9223372036854775807; rw [List.length_append, List.length_append, List.length_append, hsl]; simp; omega) ?_
    refine wG ?_
    repeat (first | (refine Req.mk (by (((conv => (whnf)); (try (refine AnyG.skip ?_; (conv => (whnf)))))); refine Req.mk (by omega) ?_; refine ⟨dXp a, rfl, ?_⟩; rw [dXp_eq]; (((conv => (whnf)); (try (refine AnyG.skip ?_; (conv => (whnf)))))); exact Wk.rfl) ?_; ((conv => (whnf)); (try (refine AnyG.skip ?_; (conv => (whnf)))))) | (refine Req.mk (by (((conv => (whnf)); (try (refine AnyG.skip ?_; (conv => (whnf)))))); refine Req.mk (by omega) ?_; refine ⟨dXp b, rfl, ?_⟩; rw [dXp_eq]; (((conv => (whnf)); (try (refine AnyG.skip ?_; (conv => (whnf)))))); exact Wk.rfl) ?_; ((conv => (whnf)); (try (refine AnyG.skip ?_; (conv => (whnf)))))) | (refine Req.mk (by (((conv => (whnf)); (try (refine AnyG.skip ?_; (conv => (whnf)))))); refine Req.mk (show 0 ≤ k by omega) ?_; refine ⟨_, hsg, ?_⟩; (((conv => (whnf)); (try (refine AnyG.skip ?_; (conv => (whnf)))))); exact Wk.rfl) ?_; ((conv => (whnf)); (try (refine AnyG.skip ?_; (conv => (whnf)))))) | (refine Req.mk (by omega) ?_; ((conv => (whnf)); (try (refine AnyG.skip ?_; (conv => (whnf)))))) | (refine Req.mk (Nat.le_of_ble_eq_true rfl) ?_; ((conv => (whnf)); (try (refine AnyG.skip ?_; (conv => (whnf)))))) | (refine Req.mk (by (((conv => (whnf)); (try (refine AnyG.skip ?_; (conv => (whnf)))))); exact Wk.rfl) ?_; ((conv => (whnf)); (try (refine AnyG.skip ?_; (conv => (whnf)))))))
    refine endK ⟨[], ⟨rfl, rfl⟩, ?_⟩
    refine wG ?_
    exact ⟨_, _, Wk.rfl, WkOs.rfl, hQ⟩
end Ab

/- The reference's words that write, second part: types, statements. -/
namespace Ab
open Go Go.Proofs
set_option maxRecDepth 10000
set_option maxHeartbeats 4000000
set_option linter.all false

def tyS : Nat → Ty → Bs
  | 0, _ => []
  | n + 1, .mk ks => match ks with
    | [a, b] => [40] ++ tyS n a ++ [44] ++ tyS n b ++ [41]
    | _ => [105]
theorem tyS_len : ∀ {n : Nat} {t : Ty}, (tyS n t).length + 3 ≤ 4 * 2 ^ n
  | 0, _ => by simp [tyS]
  | n + 1, .mk ks => by
    have h2 : 1 ≤ 2 ^ n := Nat.one_le_two_pow
    rw [Nat.pow_succ]
    rw [tyS.eq_def]
    dsimp only
    split
    · rename_i a b
      have e1 := tyS_len (n := n) (t := a)
      have e2 := tyS_len (n := n) (t := b)
      simp only [List.length_append, List.length_cons, List.length_nil]
      omega
    · simp; omega
/-- l1Say -/
def S_s_l1Say (n : Nat) : Spec := fun args O Q => ∃ (t : Ty) (m : Nat), args = [aTy t] ∧ O = [] ∧ m < n ∧ n ≤ 10 ∧ tyOk m t = true ∧ Q (.d (.s (tyS m t))) []
theorem v_s_l1Say {B : World} : ∀ n, Valid PG B s_l1Say (S_s_l1Say n) := by
  refine valid_lt (fun args O Q ⟨x, m, _, _, h1, _⟩ => by omega) fun n ih => ?_
  refine valid_of (Γ := [(s_l1Say, ⟨[], S_s_l1Say n⟩)]) wide tok (AllValid.nil.cons ih) g_s_l1Say rfl rfl ?_
  rintro _ _ Q ⟨⟨ks⟩, m, rfl, rfl, hm, hn, ht, hQ⟩
  have hl := tyOk_len ht
  cases m with
  | zero => simp [tyOk] at ht
  | succ m =>
  simp only [tyOk, Bool.and_eq_true, Bool.or_eq_true, beq_iff_eq, List.all_eq_true] at ht
  rcases ht.1 with h1 | h1
  · obtain rfl := List.eq_nil_of_length_eq_zero h1
    refine wG ?_
    refine Br.yes (by rfl) ?_
    refine wG ?_
    refine endK ⟨[], ⟨rfl, rfl⟩, ?_⟩
    refine wG ?_
    exact ⟨_, _, Wk.rfl, WkOs.rfl, hQ⟩
  · obtain ⟨a, b, rfl⟩ : ∃ a b, ks = [a, b] := by
      match ks, h1 with
      | [a, b], _ => exact ⟨a, b, rfl⟩
    have ha := ht.2 a (by simp)
    have hb := ht.2 b (by simp)
    have la := tyS_len (n := m) (t := a)
    have lb := tyS_len (n := m) (t := b)
    have hp : 2 ^ m ≤ 2 ^ 9 := Nat.pow_le_pow_right (by omega) (by omega)
    refine wG ?_
    refine Br.no (by rfl) ?_
    refine wG ?_
    refine Req.mk (by omega) ?_
    refine ⟨dTy a, rfl, ?_⟩
    rw [dTy_eq]
    refine wG ?_
    refine goG2 ?_
    refine ⟨dTy b, rfl, ?_⟩
    rw [dTy_eq]
    refine wG ?_
    refine goG2 ?_
    refine ⟨_, _, WkL.rfl, WkOs.rfl, a, m, rfl, rfl, by omega, by omega, ha, ?_⟩
    repeat (first | (refine Req.mk (by (((conv => (whnf)); (try (refine AnyG.skip ?_; (conv => (whnf)))))); refine ⟨dTy a, rfl, ?_⟩; rw [dTy_eq]; (((conv => (whnf)); (try (refine AnyG.skip ?_; (conv => (whnf)))))); exact Wk.rfl) ?_; ((conv => (whnf)); (try (refine AnyG.skip ?_; (conv => (whnf)))))) | (refine Req.mk (by (((conv => (whnf)); (try (refine AnyG.skip ?_; (conv => (whnf)))))); refine Req.mk (by omega) ?_; refine ⟨dTy a, rfl, ?_⟩; rw [dTy_eq]; (((conv => (whnf)); (try (refine AnyG.skip ?_; (conv => (whnf)))))); exact Wk.rfl) ?_; ((conv => (whnf)); (try (refine AnyG.skip ?_; (conv => (whnf)))))) | (refine Req.mk (by (((conv => (whnf)); (try (refine AnyG.skip ?_; (conv => (whnf)))))); refine Req.mk (by omega) ?_; refine ⟨dTy b, rfl, ?_⟩; rw [dTy_eq]; (((conv => (whnf)); (try (refine AnyG.skip ?_; (conv => (whnf)))))); exact Wk.rfl) ?_; ((conv => (whnf)); (try (refine AnyG.skip ?_; (conv => (whnf)))))) | (refine Req.mk (by simp only [mkS, List.length_append, List.length_cons, List.length_nil]; omega) ?_; ((conv => (whnf)); (try (refine AnyG.skip ?_; (conv => (whnf)))))) | (refine Req.mk (by omega) ?_; ((conv => (whnf)); (try (refine AnyG.skip ?_; (conv => (whnf)))))) | (refine Req.mk (Nat.le_of_ble_eq_true rfl) ?_; ((conv => (whnf)); (try (refine AnyG.skip ?_; (conv => (whnf)))))) | (refine Req.mk (by (((conv => (whnf)); (try (refine AnyG.skip ?_; (conv => (whnf)))))); exact Wk.rfl) ?_; ((conv => (whnf)); (try (refine AnyG.skip ?_; (conv => (whnf)))))))
    refine ⟨_, _, WkL.rfl, WkOs.rfl, b, m, rfl, rfl, by omega, by omega, hb, ?_⟩
    repeat (first | (refine Req.mk (by (((conv => (whnf)); (try (refine AnyG.skip ?_; (conv => (whnf)))))); refine ⟨dTy a, rfl, ?_⟩; rw [dTy_eq]; (((conv => (whnf)); (try (refine AnyG.skip ?_; (conv => (whnf)))))); exact Wk.rfl) ?_; ((conv => (whnf)); (try (refine AnyG.skip ?_; (conv => (whnf)))))) | (refine Req.mk (by (((conv => (whnf)); (try (refine AnyG.skip ?_; (conv => (whnf)))))); refine Req.mk (by omega) ?_; refine ⟨dTy a, rfl, ?_⟩; rw [dTy_eq]; (((conv => (whnf)); (try (refine AnyG.skip ?_; (conv => (whnf)))))); exact Wk.rfl) ?_; ((conv => (whnf)); (try (refine AnyG.skip ?_; (conv => (whnf)))))) | (refine Req.mk (by (((conv => (whnf)); (try (refine AnyG.skip ?_; (conv => (whnf)))))); refine Req.mk (by omega) ?_; refine ⟨dTy b, rfl, ?_⟩; rw [dTy_eq]; (((conv => (whnf)); (try (refine AnyG.skip ?_; (conv => (whnf)))))); exact Wk.rfl) ?_; ((conv => (whnf)); (try (refine AnyG.skip ?_; (conv => (whnf)))))) | (refine Req.mk (by simp only [mkS, List.length_append, List.length_cons, List.length_nil]; omega) ?_; ((conv => (whnf)); (try (refine AnyG.skip ?_; (conv => (whnf)))))) | (refine Req.mk (by omega) ?_; ((conv => (whnf)); (try (refine AnyG.skip ?_; (conv => (whnf)))))) | (refine Req.mk (Nat.le_of_ble_eq_true rfl) ?_; ((conv => (whnf)); (try (refine AnyG.skip ?_; (conv => (whnf)))))) | (refine Req.mk (by (((conv => (whnf)); (try (refine AnyG.skip ?_; (conv => (whnf)))))); exact Wk.rfl) ?_; ((conv => (whnf)); (try (refine AnyG.skip ?_; (conv => (whnf)))))))
    refine endK ⟨[], ⟨rfl, rfl⟩, ?_⟩
    refine wG ?_
    exact ⟨_, _, Wk.rfl, WkOs.rfl, hQ⟩
end Ab
