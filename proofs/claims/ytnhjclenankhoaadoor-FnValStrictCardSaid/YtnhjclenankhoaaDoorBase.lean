/- Small laws of the frame's stops: what a script of a contract says again and again. -/
import Derived.Test.YtnhjclenankhoaaDoorIds
set_option linter.all false
namespace Ab
open Go Go.Proofs
set_option maxRecDepth 10000
set_option maxHeartbeats 4000000
set_option linter.all false

theorem rng_i64 {n : Int} {p : Prop} (h1 : -9223372036854775808 ≤ n) (h2 : n ≤ 9223372036854775807) (hp : p) : Rng .i64 n p :=
  ⟨by have : IntKind.i64.min = -9223372036854775808 := by decide
      omega, by have : IntKind.i64.max = 9223372036854775807 := by decide
                omega, hp⟩
theorem rng_u8 {n : Int} {p : Prop} (h1 : 0 ≤ n) (h2 : n ≤ 255) (hp : p) : Rng .u8 n p :=
  ⟨by have : IntKind.u8.min = 0 := by decide
      omega, by have : IntKind.u8.max = 255 := by decide
                omega, hp⟩
theorem br_dec {c : Prop} [Decidable c] {p q : Prop} (h1 : c → p) (h2 : ¬c → q) : Br (decide c) p q := ⟨fun h => h1 (of_decide_eq_true h), fun h => h2 (of_decide_eq_false h)⟩
theorem br_eq {a b : Int} {p q : Prop} (h1 : a = b → p) (h2 : a ≠ b → q) : Br (a == b) p q := ⟨fun h => h1 (by simpa using h), fun h => h2 (by simpa using h)⟩
theorem br_ne {a b : Int} {p q : Prop} (h1 : a ≠ b → p) (h2 : a = b → q) : Br (a != b) p q := ⟨fun h => h1 (by simpa using h), fun h => h2 (by simpa using h)⟩
theorem br_neq {a b : Int} {p q : Prop} (h1 : a ≠ b → p) (h2 : a = b → q) : Br (!(a == b)) p q := ⟨fun h => h1 (by simpa using h), fun h => h2 (by simpa using h)⟩
theorem br_not {b : Bool} {p q : Prop} (h1 : b = false → p) (h2 : b = true → q) : Br (!b) p q := ⟨fun h => h1 (by simpa using h), fun h => h2 (by simpa using h)⟩
theorem Br.yes {b : Bool} {p q : Prop} (h : b = true) (hp : p) : Br b p q := ⟨fun _ => hp, fun h' => by rw [h] at h'; cases h'⟩
theorem Br.no {b : Bool} {p q : Prop} (h : b = false) (hq : q) : Br b p q := ⟨fun h' => (by rw [h] at h'; cases h'), fun _ => hq⟩
theorem byteRows_len : ∀ (l : List UInt8), (byteRows l).length = l.length
  | [] => rfl
  | c :: l => by simp [byteRows, byteRows_len l]

/-- an element of data that is a list's image -/
theorem idx_map {α : Type} {f : α → List DV} {l : List α} {n : Int} {K : List DV → Prop} (h0 : 0 ≤ n) (h : n.toNat < l.length) (hk : K (f l[n.toNat])) : Req (0 ≤ n) (∃ r, (l.map f)[n.toNat]? = some r ∧ K r) :=
  ⟨h0, _, by simp [h], hk⟩
theorem idx_map' {α : Type} {f : α → List DV} {l : List α} {n : Int} {K : List DV → Prop} (h : n.toNat < l.length) (hk : K (f l[n.toNat])) : ∃ r, (l.map f)[n.toNat]? = some r ∧ K r :=
  ⟨_, by simp [h], hk⟩
/-- a byte of a text -/
theorem str_at {s : List UInt8} {n : Int} {K : UInt8 → Prop} (h0 : 0 ≤ n) (h : n.toNat < s.length) (hk : K s[n.toNat]) : Req (0 ≤ n) (∃ c, s[n.toNat]? = some c ∧ K c) :=
  ⟨h0, _, by simp [h], hk⟩
theorem str_at' {s : List UInt8} {n : Int} {K : UInt8 → Prop} (h : n.toNat < s.length) (hk : K s[n.toNat]) : ∃ c, s[n.toNat]? = some c ∧ K c :=
  ⟨_, by simp [h], hk⟩
theorem take_all {α : Type} {p : α → Bool} {l : List α} {i : Nat} (h : i < l.length) (h1 : (l.take i).all p = true) (h2 : p l[i] = true) : (l.take (i + 1)).all p = true := by
  rw [List.take_add_one, List.all_append, h1]
  simp only [List.getElem?_eq_getElem h]
  simpa using h2
theorem DWRows.app : ∀ {xs ys xs' ys' : List (List DV)}, DWRows xs xs' → DWRows ys ys' → DWRows (xs ++ ys) (xs' ++ ys')
  | [], _, [], _, _, h => h
  | _ :: _, _, _ :: _, _, ⟨h1, h2, h3⟩, h => ⟨h1, h2, DWRows.app h3 h⟩
/-- one more element -/
theorem rows_snoc {α : Type} {f : α → List DV} {l : List α} {i j : Nat} (h : i < l.length) (hj : j = i + 1) {r : List DV} (hr : r.length = (f l[i]).length) (hw : DWL r (f l[i])) : DWRows ((l.take i).map f ++ [r]) ((l.take j).map f) := by
  subst hj
  rw [List.take_add_one, List.map_append]
  simp only [List.getElem?_eq_getElem h]
  exact DWRows.app DWRows.rfl ⟨hr, hw, trivial⟩
theorem DWRows.rfl_of {xs ys : List (List DV)} (h : xs = ys) : DWRows xs ys := h ▸ DWRows.rfl

theorem wide : PG.follows .mixedOrders = true := by kernel_rfl

/-- A function's own code as its contract: for small ones. -/
def inlS (Γ : Ctx) (fn : Func) : Spec := fun args O Q => match fn.body with
  | some c => runK tau Γ c fn.results.toList fn.ntmps args O (wkQ Q)
  | none => False
theorem valid_inl {B : World} {Γ : Ctx} (hΓ : AllValid PG B Γ) {f : Nat} {fn : Func} (hfn : PG.funcs[f]? = some fn) (hb : fn.body.isSome = true) (hname : (fn.name == "runtime.NumGoroutine") = false) : Valid PG B f (inlS Γ fn) := by
  obtain ⟨c, hc⟩ := Option.isSome_iff_exists.1 hb
  refine valid_of wide tok hΓ hfn hc hname fun args O Q h => ?_
  unfold inlS at h
  rw [hc] at h
  exact h
end Ab

namespace Ab
open Go Go.Proofs
set_option maxRecDepth 10000
set_option maxHeartbeats 4000000
set_option linter.unusedSimpArgs false
set_option linter.unusedVariables false


inductive Ty where | mk (kids : List Ty)
def Ty.kids : Ty → List Ty | .mk k => k
theorem Ty.eta (t : Ty) : t = .mk t.kids := by cases t; rfl
def dTy : Ty → List DV | .mk ks => [.sl 1 (ks.map dTy)]
theorem dTy_eq (t : Ty) : dTy t = [.sl 1 (t.kids.map dTy)] := by cases t; simp [dTy, Ty.kids]
abbrev aTy (t : Ty) : AV := .agg [.d (.sl 1 (t.kids.map dTy))]
abbrev fTy (t : Ty) : AV := .agg [.d (.sf 1 (t.kids.map dTy))]
abbrev iv (n : Int) : AV := .d (.i .i64 n)
abbrev bv (b : Bool) : AV := .d (.b b)

theorem lo64 {n : Int} (h : -9223372036854775808 ≤ n) : IntKind.i64.min ≤ n := by
  have : IntKind.i64.min = -9223372036854775808 := by decide
  omega
theorem hi64 {n : Int} (h : n ≤ 9223372036854775807) : n ≤ IntKind.i64.max := by
  have : IntKind.i64.max = 9223372036854775807 := by decide
  omega

def tyOk : Nat → Ty → Bool
  | 0, _ => false
  | n+1, .mk ks => (ks.length == 0 || ks.length == 2) && ks.all (tyOk n)

theorem valid_lt {P : Program} {B : World} {f : Nat} {S : Nat → Spec} (h0 : ∀ args O Q, ¬ S 0 args O Q) (h : ∀ n, Valid P B f (S n) → Valid P B f (S (n+1))) : ∀ n, Valid P B f (S n)
  | 0 => fun w g O args us Q _ _ _ _ hs => absurd hs (h0 _ _ _)
  | n+1 => h n (valid_lt h0 h n)
theorem Valid.weak {P : Program} {B : World} {f : Nat} {S S' : Spec} (h : Valid P B f S) (hs : ∀ args O Q, S' args O Q → S args O Q) : Valid P B f S' :=
  fun w g O args us Q i a b c d => h w g O args us Q i a b c (hs _ _ _ d)

/-- impl.typeFits -/
def S_i_typeFits (n : Nat) : Spec := fun args O Q => ∃ (t : Ty) (d : Int), 0 ≤ d ∧ d < n ∧ n ≤ 100 ∧ args = [aTy t, iv d] ∧ O = [] ∧ Q (bv (tyOk d.toNat t)) []

theorem tyOk_neg {d : Int} (h : d < 1) (t : Ty) : tyOk d.toNat t = false := by
  have : d.toNat = 0 := by omega
  rw [this]; cases t; rfl
theorem tyOk_pos {d : Int} (h : ¬ d < 1) (ks : List Ty) : tyOk d.toNat (.mk ks) = ((ks.length == 0 || ks.length == 2) && ks.all (tyOk (d - 1).toNat)) := by
  obtain ⟨n, hn⟩ : ∃ n, d.toNat = n + 1 := ⟨d.toNat - 1, by omega⟩
  have : (d - 1).toNat = n := by omega
  rw [hn, this]; simp [tyOk]

theorem v_i_typeFits {B : World} : ∀ n, Valid PG B i_typeFits (S_i_typeFits n) := by
  refine valid_lt (fun args O Q ⟨t, d, h1, h2, _⟩ => by omega) fun n ih => ?_
  refine valid_of (Γ := [(i_typeFits, ⟨[], S_i_typeFits n⟩)]) wide tok (AllValid.nil.cons ih) g_i_typeFits rfl rfl ?_
  rintro _ _ Q ⟨⟨ks⟩, d, hd, hd', hn, rfl, rfl, hQ⟩
  have fin : ∀ (b : Bool), tyOk d.toNat (.mk ks) = b → Q (bv b) [] := fun b hb => hb ▸ hQ
  conv => whnf
  refine ⟨fun h => ?_, fun h => ?_⟩
  · conv => whnf
    refine ⟨[], ⟨rfl, rfl⟩, ?_⟩
    conv => whnf
    exact ⟨_, _, Wk.rfl, WkOs.rfl, fin _ (tyOk_neg (by simpa using h) _)⟩
  · have hd1 : ¬ d < 1 := by simpa using h
    rw [tyOk_pos hd1] at fin
    conv => whnf
    refine ⟨fun h2 => ?_, fun h2 => ?_⟩
    · conv => whnf
      refine ⟨[], ⟨rfl, rfl⟩, ?_⟩
      conv => whnf
      refine ⟨_, _, Wk.rfl, WkOs.rfl, fin _ ?_⟩
      have : ks = [] := by
        cases ks with
        | nil => rfl
        | cons k ks => simp [Ty.kids] at h2; omega
      subst this
      rfl
    · have hk0 : ks ≠ [] := by rintro rfl; simp [Ty.kids] at h2
      conv => whnf
      refine ⟨fun h3 => ?_, fun h3 => ?_⟩
      · obtain ⟨t1, t2, rfl⟩ : ∃ t1 t2, ks = [t1, t2] := by
          match ks, h3 with
          | [], h3 => simp [Ty.kids] at h3
          | [_], h3 => simp [Ty.kids] at h3
          | [t1, t2], _ => exact ⟨t1, t2, rfl⟩
          | _ :: _ :: _ :: _, h3 => simp [Ty.kids] at h3; omega
        conv => whnf
        refine ⟨by omega, dTy t1, rfl, ?_⟩
        rw [dTy_eq]
        conv => whnf
        refine ⟨lo64 (by omega), hi64 (by omega), ?_⟩
        conv => whnf
        refine ⟨_, _, WkL.rfl, WkOs.rfl, t1, d - 1, by omega, by omega, by omega, rfl, rfl, ?_⟩
        conv => whnf
        refine ⟨by decide, ?_⟩
        conv => whnf
        refine ⟨fun h5 => ?_, fun h5 => ?_⟩
        · conv => whnf
          refine ⟨by omega, dTy t2, rfl, ?_⟩
          rw [dTy_eq]
          conv => whnf
          refine ⟨lo64 (by omega), hi64 (by omega), ?_⟩
          conv => whnf
          refine ⟨_, _, WkL.rfl, WkOs.rfl, t2, d - 1, by omega, by omega, by omega, rfl, rfl, ?_⟩
          conv => whnf
          refine ⟨by decide, ?_⟩
          conv => whnf
          refine ⟨[], ⟨rfl, rfl⟩, ?_⟩
          conv => whnf
          refine ⟨_, _, Wk.rfl, WkOs.rfl, fin _ ?_⟩
          show (tyOk (d - 1).toNat t1 && (tyOk (d - 1).toNat t2 && true)) = _
          rw [h5, Bool.and_true]; rfl
        · conv => whnf
          refine ⟨[], ⟨rfl, rfl⟩, ?_⟩
          conv => whnf
          refine ⟨_, _, Wk.rfl, WkOs.rfl, fin _ ?_⟩
          show (tyOk (d - 1).toNat t1 && (tyOk (d - 1).toNat t2 && true)) = _
          rw [h5]; rfl
      · conv => whnf
        refine ⟨[], ⟨rfl, rfl⟩, ?_⟩
        conv => whnf
        refine ⟨_, _, Wk.rfl, WkOs.rfl, fin _ ?_⟩
        have : (ks.length == 0 || ks.length == 2) = false := by
          simp [Ty.kids] at h3 ⊢
          exact ⟨hk0, by omega⟩
        rw [this]; rfl

/-- spec.l1Deep -/
theorem v_s_l1Deep {B : World} : ∀ n, Valid PG B s_l1Deep (S_i_typeFits n) := by
  refine valid_lt (fun args O Q ⟨t, d, h1, h2, _⟩ => by omega) fun n ih => ?_
  refine valid_of (Γ := [(s_l1Deep, ⟨[], S_i_typeFits n⟩)]) wide tok (AllValid.nil.cons ih) g_s_l1Deep rfl rfl ?_
  rintro _ _ Q ⟨⟨ks⟩, d, hd, hd', hn, rfl, rfl, hQ⟩
  have fin : ∀ (b : Bool), tyOk d.toNat (.mk ks) = b → Q (bv b) [] := fun b hb => hb ▸ hQ
  conv => whnf
  refine ⟨fun h => ?_, fun h => ?_⟩
  · conv => whnf
    refine ⟨[], ⟨rfl, rfl⟩, ?_⟩
    conv => whnf
    exact ⟨_, _, Wk.rfl, WkOs.rfl, fin _ (tyOk_neg (by simpa using h) _)⟩
  · have hd1 : ¬ d < 1 := by simpa using h
    rw [tyOk_pos hd1] at fin
    conv => whnf
    have hlen : (ks.length == 0 || ks.length == 2) = true → ks.length ≤ 2 := fun h => by simp at h; rcases h with h | h <;> simp [h]
    refine ⟨fun h2 => ?_, fun h2 => ?_⟩
    conv => whnf
    refine ⟨fun h3 => ?_, fun h3 => ?_⟩
    · conv => whnf
      refine ⟨[], ⟨rfl, rfl⟩, ?_⟩
      conv => whnf
      refine ⟨_, _, Wk.rfl, WkOs.rfl, fin _ ?_⟩
      have : (ks.length == 0 || ks.length == 2) = false := by
        simp [Ty.kids] at h2 h3 ⊢
        exact ⟨h2, by omega⟩
      rw [this]; rfl
    have hk : (ks.length == 0 || ks.length == 2) = true := by
      simp [Ty.kids] at h3 ⊢
      omega
    rotate_left
    have hk : (ks.length == 0 || ks.length == 2) = true := by
      simp [Ty.kids] at h2 ⊢
      exact .inl h2
    all_goals
      rw [hk, Bool.true_and] at fin
      conv => whnf
      refine ⟨[], Int, fun i => 0 ≤ i ∧ i ≤ ks.length ∧ (ks.take i.toNat).all (tyOk (d - 1).toNat) = true, fun i => (ks.length - i).toNat, fun i => [(5, iv i)],
        fun _ => [.cells [.d (.sl 1 (ks.map dTy))]], 0, ⟨by omega, by omega, by simp⟩, ?_⟩
      conv => whnf
      refine ⟨⟨rfl, rfl, WkOs.rfl, ⟨Wk.rfl, trivial⟩, rfl⟩, ?_⟩
      intro i ⟨hi0, hi1, hi2⟩
      conv => whnf
      refine ⟨fun h4 => ?_, fun h4 => ?_⟩
      · simp [Ty.kids] at h4
        have hlt : i.toNat < ks.length := by omega
        conv => whnf
        refine ⟨hi0, dTy ks[i.toNat], by simp [Ty.kids, hlt], ?_⟩
        rw [dTy_eq]
        conv => whnf
        refine ⟨lo64 (by omega), hi64 (by omega), ?_⟩
        conv => whnf
        refine ⟨_, _, WkL.rfl, WkOs.rfl, ks[i.toNat], d - 1, by omega, by omega, by omega, rfl, rfl, ?_⟩
        conv => whnf
        refine ⟨by decide, ?_⟩
        conv => whnf
        refine ⟨fun h5 => ?_, fun h5 => ?_⟩
        · conv => whnf
          refine ⟨[], ⟨rfl, rfl⟩, ?_⟩
          conv => whnf
          refine ⟨_, _, Wk.rfl, WkOs.rfl, fin _ ?_⟩
          rw [List.all_eq_false]
          exact ⟨ks[i.toNat], List.getElem_mem _, by simpa using h5⟩
        · conv => whnf
          refine ⟨lo64 (by omega), hi64 (by have := hlen hk; omega), ?_⟩
          conv => whnf
          refine ⟨i + 1, ⟨by omega, by omega, ?_⟩, by dsimp only; omega, rfl, rfl, WkOs.rfl, ⟨Wk.rfl, trivial⟩, rfl⟩
          have e : (i + 1).toNat = i.toNat + 1 := by omega
          rw [e, List.take_add_one, List.all_append, hi2]
          simp only [List.getElem?_eq_getElem hlt]
          simpa using h5
      · conv => whnf
        refine ⟨[], ⟨rfl, rfl⟩, ?_⟩
        conv => whnf
        refine ⟨_, _, Wk.rfl, WkOs.rfl, fin _ ?_⟩
        have : i.toNat = ks.length := by simp [Ty.kids] at h4; omega
        rw [this, List.take_length] at hi2
        exact hi2
end Ab

namespace Ab
open Go Go.Proofs
set_option maxRecDepth 10000
set_option maxHeartbeats 4000000
set_option linter.unusedSimpArgs false
set_option linter.unusedVariables false

/-- TypeOk, both -/
def STypeOk : Spec := fun args O Q => ∃ (t : Ty), args = [aTy t] ∧ O = [] ∧ Q (bv (tyOk 4 t)) []

theorem v_i_TypeOk {B : World} : Valid PG B i_TypeOk STypeOk := by
  refine valid_of (Γ := [(i_typeFits, ⟨[], S_i_typeFits 10⟩)]) wide tok (AllValid.nil.cons (v_i_typeFits 10)) g_i_TypeOk rfl rfl ?_
  rintro _ _ Q ⟨t, rfl, rfl, hQ⟩
  conv => whnf
  refine ⟨_, _, WkL.rfl, WkOs.rfl, t, 4, by omega, by omega, by omega, rfl, rfl, ?_⟩
  conv => whnf
  refine ⟨by decide, ?_⟩
  conv => whnf
  refine ⟨[], ⟨rfl, rfl⟩, ?_⟩
  conv => whnf
  exact ⟨_, _, Wk.rfl, WkOs.rfl, hQ⟩

theorem v_s_TypeOk {B : World} : Valid PG B s_TypeOk STypeOk := by
  refine valid_of (Γ := [(s_l1Deep, ⟨[], S_i_typeFits 10⟩)]) wide tok (AllValid.nil.cons (v_s_l1Deep 10)) g_s_TypeOk rfl rfl ?_
  rintro _ _ Q ⟨t, rfl, rfl, hQ⟩
  conv => whnf
  refine ⟨_, _, WkL.rfl, WkOs.rfl, t, 4, by omega, by omega, by omega, rfl, rfl, ?_⟩
  conv => whnf
  refine ⟨by decide, ?_⟩
  conv => whnf
  refine ⟨[], ⟨rfl, rfl⟩, ?_⟩
  conv => whnf
  exact ⟨_, _, Wk.rfl, WkOs.rfl, hQ⟩

/-! ### The drawing of inputs -/
def aBs (l : List UInt8) : DV := .sl 1 (byteRows l)
def oRd (l : List UInt8) (p : Int) : Obj := .cells [.d (.sl 1 (byteRows l)), iv p]

theorem byteRows_get : ∀ (l : List UInt8) (i : Nat), (byteRows l)[i]? = (l[i]?).map fun c => [.i .u8 c.toNat]
  | [], i => by simp [byteRows]
  | c :: l, 0 => by simp [byteRows]
  | c :: l, i + 1 => by simpa [byteRows] using byteRows_get l i
theorem byteRows_take : ∀ (l : List UInt8) (n : Nat), (byteRows l).take n = byteRows (l.take n)
  | [], n => by simp [byteRows]
  | c :: l, 0 => by simp [byteRows]
  | c :: l, n + 1 => by simp [byteRows, byteRows_take l n]

def SOpen : Spec := fun args O Q => ∃ (l : List UInt8), args = [.d (.sl 1 (byteRows l))] ∧ O = [] ∧ Q (.ptr 0 0) [oRd (l.take 2000) 0]

theorem v_s_l6Open {B : World} : Valid PG B s_l6Open SOpen := by
  refine valid_of (Γ := []) wide tok AllValid.nil g_s_l6Open rfl rfl ?_
  rintro _ _ Q ⟨l, rfl, rfl, hQ⟩
  conv => whnf
  refine ⟨fun h => ?_, fun h => ?_⟩
  · simp [byteRows_len] at h
    conv => whnf
    refine ⟨by simp [byteRows_len]; omega, ?_⟩
    conv => whnf
    refine ⟨[0], ⟨rfl, rfl⟩, ?_⟩
    conv => whnf
    refine ⟨_, _, Wk.rfl, WkOs.of_eq ?_, hQ⟩
    have e : ((byteRows l).take (Int.toNat 2000)).drop 0 = byteRows (l.take 2000) := by
      rw [List.drop_zero]; exact byteRows_take l 2000
    rw [e]; rfl
  · simp [byteRows_len] at h
    conv => whnf
    refine ⟨[0], ⟨rfl, rfl⟩, ?_⟩
    conv => whnf
    refine ⟨_, _, Wk.rfl, WkOs.rfl, ?_⟩
    rw [List.take_of_length_le (by omega)] at hQ
    exact hQ

theorem byte_at (l : List UInt8) (i : Int) (h0 : 0 ≤ i) (h : i < l.length) : ∃ c : Nat, c < 256 ∧ (byteRows l)[i.toNat]? = some [.i .u8 (c : Int)] := by
  have hlt : i.toNat < l.length := by omega
  exact ⟨(l[i.toNat]).toNat, (l[i.toNat]).toNat_lt, by simp [byteRows_get, hlt]⟩

theorem tmod_in {a b : Int} (ha : 0 ≤ a) (hb : 0 < b) : 0 ≤ a.tmod b ∧ a.tmod b < b := ⟨Int.tmod_nonneg _ ha, Int.tmod_lt_of_pos _ hb⟩
theorem tdiv_in {a b : Int} (ha : 0 ≤ a) (hb : 0 < b) : 0 ≤ a.tdiv b ∧ a.tdiv b ≤ a := by
  rw [Int.tdiv_eq_ediv_of_nonneg ha]
  exact ⟨Int.ediv_nonneg ha (by omega), Int.ediv_le_self _ ha⟩
theorem xor_in {a b : Int} (ha : 0 ≤ a) (hb : 0 ≤ b) (ha' : a < 9223372036854775808) (hb' : b < 9223372036854775808) : 0 ≤ bitsOp .xor .i64 a b := by
  have key : ∀ x : Int, 0 ≤ x → x < 9223372036854775808 → (BitVec.ofInt IntKind.i64.bits x).toNat < 2 ^ 63 := by
    intro x h0 h1
    have : IntKind.i64.bits = 64 := rfl
    rw [this, BitVec.toNat_ofInt]
    have : x % (2 ^ 64 : Nat) = x := Int.emod_eq_of_lt h0 (by omega)
    rw [this]; omega
  have h := Nat.xor_lt_two_pow (key a ha ha') (key b hb hb')
  simp only [bitsOp]
  have e : ((BitVec.ofInt IntKind.i64.bits a) ^^^ (BitVec.ofInt IntKind.i64.bits b)).toNat = (BitVec.ofInt IntKind.i64.bits a).toNat ^^^ (BitVec.ofInt IntKind.i64.bits b).toNat := BitVec.toNat_xor _ _
  rw [e]
  generalize (BitVec.ofInt IntKind.i64.bits a).toNat ^^^ (BitVec.ofInt IntKind.i64.bits b).toNat = n at h
  rw [wrap_in (lo64 (by omega)) (hi64 (by omega))]
  omega

/-- (*l6Rd).pick -/
def S_s_l6Rd_pick : Spec := fun args O Q => ∃ (l : List UInt8) (p n : Int), l.length ≤ 2000 ∧ 0 ≤ p ∧ p ≤ 1000000000 ∧ n ≤ 1000000000 ∧ args = [.ptr 0 0, iv n] ∧ O = [oRd l p] ∧
  ∀ k : Int, (n < 1 → k = 0) → (1 ≤ n → 0 ≤ k ∧ k < n) → Q (iv k) [oRd l (p + 1)]

theorem v_s_l6Rd_pick {B : World} : Valid PG B s_l6Rd_pick S_s_l6Rd_pick := by
  refine valid_of (Γ := []) wide tok AllValid.nil g_s_l6Rd_pick rfl rfl ?_
  rintro _ _ Q ⟨l, p, n, hl, hp0, hp1, hn, rfl, rfl, hQ⟩
  conv => whnf
  refine ⟨lo64 (by omega), hi64 (by omega), ?_⟩
  conv => whnf
  refine ⟨fun h => ?_, fun h => ?_⟩
  · conv => whnf
    refine ⟨[], ⟨rfl, rfl⟩, ?_⟩
    conv => whnf
    exact ⟨_, _, Wk.rfl, WkOs.rfl, hQ 0 (fun _ => rfl) (fun h' => by simp at h; omega)⟩
  · have hn1 : 1 ≤ n := by simpa using h
    conv => whnf
    refine ⟨fun h2 => ?_, fun h2 => ?_⟩
    · conv => whnf
      refine ⟨[], ⟨rfl, rfl⟩, ?_⟩
      conv => whnf
      exact ⟨_, _, Wk.rfl, WkOs.rfl, hQ 0 (fun _ => rfl) (fun _ => ⟨by omega, by omega⟩)⟩
    · have hl1 : l ≠ [] := by rintro rfl; simp [byteRows] at h2
      have hlen : 0 < l.length := List.length_pos_iff.2 hl1
      conv => whnf
      refine ⟨lo64 (by omega), hi64 (by omega), ?_⟩
      conv => whnf
      have hpp : p + 1 - 1 = p := by omega
      rw [hpp]
      have fin : ∀ k : Int, 0 ≤ k → k < n → Q (iv k) [oRd l (p + 1)] := fun k h1 h2 => hQ k (fun h => by omega) (fun _ => ⟨h1, h2⟩)
      refine ⟨fun h3 => ?_, fun h3 => ?_⟩
      · have hlt : p.toNat < l.length := by
          simp [byteRows_len] at h3; omega
        conv => whnf
        refine ⟨hp0, [.i .u8 (l[p.toNat]).toNat], by simp [byteRows_get, hlt], ?_⟩
        have hc := (l[p.toNat]).toNat_lt
        generalize (l[p.toNat]).toNat = c at hc
        conv => whnf
        refine ⟨lo64 (by omega), hi64 (by omega), ?_⟩
        conv => whnf
        refine ⟨by omega, ?_⟩
        conv => whnf
        refine ⟨[], ⟨rfl, rfl⟩, ?_⟩
        conv => whnf
        exact ⟨_, _, Wk.rfl, WkOs.rfl, fin _ (Int.tmod_nonneg _ (by omega)) (Int.tmod_lt_of_pos _ (by omega))⟩
      · have hbl : ((byteRows l).length : Int) = l.length := by rw [byteRows_len]
        conv => whnf
        rw [hbl]
        obtain ⟨a1, a2⟩ := tmod_in (a := p) (b := l.length) hp0 (by omega)
        generalize p.tmod l.length = k1 at a1 a2
        refine ⟨by omega, ?_⟩
        conv => whnf
        obtain ⟨c1, b1, b2⟩ := byte_at l k1 a1 a2
        refine ⟨a1, _, b2, ?_⟩
        conv => whnf
        refine ⟨lo64 (by omega), hi64 (by omega), ?_⟩
        conv => whnf
        refine ⟨lo64 (by omega), hi64 (by omega), ?_⟩
        conv => whnf
        refine ⟨lo64 (by omega), hi64 (by omega), ?_⟩
        conv => whnf
        refine ⟨lo64 (by omega), hi64 (by omega), ?_⟩
        conv => whnf
        rw [hbl]
        obtain ⟨a3, a4⟩ := tmod_in (a := p * 7 + 3) (b := l.length) (by omega) (by omega)
        generalize (p * 7 + 3).tmod l.length = k2 at a3 a4
        refine ⟨by omega, ?_⟩
        conv => whnf
        obtain ⟨c2, b3, b4⟩ := byte_at l k2 a3 a4
        refine ⟨a3, _, b4, ?_⟩
        conv => whnf
        refine ⟨lo64 (by omega), hi64 (by omega), ?_⟩
        conv => whnf
        refine ⟨lo64 (by omega), hi64 (by omega), ?_⟩
        conv => whnf
        refine ⟨lo64 (by omega), hi64 (by omega), ?_⟩
        conv => whnf
        refine ⟨lo64 (by omega), hi64 (by omega), ?_⟩
        conv => whnf
        refine ⟨lo64 (by omega), hi64 (by omega), ?_⟩
        conv => whnf
        rw [hbl]
        obtain ⟨a5, a6⟩ := tdiv_in (a := p) (b := l.length) hp0 (by omega)
        generalize p.tdiv l.length = k3 at a5 a6
        refine ⟨by omega, lo64 (by omega), hi64 (by omega), ?_⟩
        conv => whnf
        refine ⟨lo64 (by omega), hi64 (by omega), ?_⟩
        conv => whnf
        refine ⟨lo64 (by omega), hi64 (by omega), ?_⟩
        conv => whnf
        have hx0 : 0 ≤ (c1 : Int) * 131 + (c2 : Int) * 1117 + p * 29 + k3 * 53 := by omega
        have hx1 : (c1 : Int) * 131 + (c2 : Int) * 1117 + p * 29 + k3 * 53 < 1000000000000 := by omega
        generalize (c1 : Int) * 131 + (c2 : Int) * 1117 + p * 29 + k3 * 53 = x at hx0 hx1
        obtain ⟨a7, a8⟩ := tdiv_in (a := x) (b := 64) hx0 (by omega)
        refine ⟨by omega, lo64 (by omega), hi64 (by omega), ?_⟩
        conv => whnf
        have hz := xor_in hx0 a7 (by omega) (by omega)
        generalize bitsOp .xor .i64 x (x.tdiv 64) = z at hz
        refine ⟨by omega, ?_⟩
        conv => whnf
        refine ⟨[], ⟨rfl, rfl⟩, ?_⟩
        conv => whnf
        obtain ⟨q1, q2⟩ := tmod_in (a := z) (b := n) hz (by omega)
        exact ⟨_, _, Wk.rfl, WkOs.rfl, fin _ q1 q2⟩
end Ab

namespace Ab
open Go Go.Proofs
set_option maxRecDepth 10000
set_option maxHeartbeats 4000000
set_option linter.unusedSimpArgs false
set_option linter.unusedVariables false

def Bd : Nat → Int
  | 0 => 1
  | n + 1 => 2 * Bd n + 1
theorem Bd_pos : ∀ n, 1 ≤ Bd n
  | 0 => by simp [Bd]
  | n + 1 => by have := Bd_pos n; simp only [Bd]; omega

theorem wk_fTy (t : Ty) : DWL [.sf 1 (t.kids.map dTy)] (dTy t) := by
  rw [dTy_eq]; exact DWL.cons DW.sf DWL.nil

theorem wk_nil : DWL [.v (.slice none 0 0)] (dTy (.mk [])) := by
  rw [dTy_eq]; exact DWL.cons (DW.nil 1) DWL.nil
theorem Ty.kids_mk (ks : List Ty) : (Ty.mk ks).kids = ks := rfl

/-- spec.l71Type -/
def S_s_l71Type (n : Nat) : Spec := fun args O Q => ∃ (l : List UInt8) (p d : Int), l.length ≤ 2000 ∧ 0 ≤ p ∧ p + Bd n ≤ 1000000000 ∧ 1 ≤ d ∧ d < n ∧ n ≤ 20 ∧ args = [.ptr 0 0, iv d] ∧ O = [oRd l p] ∧
  ∀ (t : Ty) (p' : Int), tyOk d.toNat t = true → p ≤ p' → p' ≤ p + Bd n → Q (fTy t) [oRd l p']

theorem v_s_l71Type {B : World} : ∀ n, Valid PG B s_l71Type (S_s_l71Type n) := by
  refine valid_lt (fun args O Q ⟨l, p, d, _, _, _, h1, h2, _⟩ => by omega) fun n ih => ?_
  refine valid_of (Γ := [(s_l71Type, ⟨[], S_s_l71Type n⟩), (s_l6Rd_pick, ⟨[], S_s_l6Rd_pick⟩)]) wide tok ((AllValid.nil.cons v_s_l6Rd_pick).cons ih) g_s_l71Type rfl rfl ?_
  rintro _ _ Q ⟨l, p, d, hl, hp, hB, hd, hd', hn, rfl, rfl, hQ⟩
  have hb := Bd_pos n
  have hb1 : Bd (n + 1) = 2 * Bd n + 1 := rfl
  have nil : tyOk d.toNat (.mk []) = true := by
    obtain ⟨m, hm⟩ : ∃ m, d.toNat = m + 1 := ⟨d.toNat - 1, by omega⟩
    rw [hm]; simp [tyOk]
  conv => whnf
  refine ⟨fun h => ?_, fun h => ?_⟩
  · conv => whnf
    refine ⟨[], ⟨rfl, rfl⟩, ?_⟩
    conv => whnf
    refine ⟨_, _, Wk.agg (WkL.cons (Wk.d (DW.nilf 1)) WkL.nil), WkOs.rfl, hQ (.mk []) p nil (by omega) (by omega)⟩
  · have hd2 : ¬ d < 2 := by simpa using h
    conv => whnf
    refine ⟨_, _, WkL.rfl, WkOs.rfl, l, p, 3, hl, hp, by omega, by omega, rfl, rfl, ?_⟩
    intro k hk1 hk2
    obtain ⟨hk3, hk4⟩ := hk2 (by omega)
    conv => whnf
    refine ⟨Nat.le_of_ble_eq_true rfl, ?_⟩
    conv => whnf
    refine ⟨fun h2 => ?_, fun h2 => ?_⟩
    · conv => whnf
      refine ⟨[], ⟨rfl, rfl⟩, ?_⟩
      conv => whnf
      refine ⟨_, _, Wk.agg (WkL.cons (Wk.d (DW.nilf 1)) WkL.nil), WkOs.rfl, hQ (.mk []) (p + 1) nil (by omega) (by omega)⟩
    · conv => whnf
      refine ⟨lo64 (by omega), hi64 (by omega), ?_⟩
      conv => whnf
      refine ⟨_, _, WkL.rfl, WkOs.rfl, l, p + 1, d - 1, hl, by omega, by omega, by omega, by omega, by omega, rfl, rfl, ?_⟩
      intro t1 p1 e1 e2 e3
      conv => whnf
      refine ⟨Nat.le_of_ble_eq_true rfl, ?_⟩
      conv => whnf
      refine ⟨lo64 (by omega), hi64 (by omega), ?_⟩
      conv => whnf
      refine ⟨_, _, WkL.rfl, WkOs.rfl, l, p1, d - 1, hl, by omega, by omega, by omega, by omega, by omega, rfl, rfl, ?_⟩
      intro t2 p2 e4 e5 e6
      conv => whnf
      refine ⟨Nat.le_of_ble_eq_true rfl, ?_⟩
      conv => whnf
      left
      conv => whnf
      refine ⟨[], ⟨rfl, rfl⟩, ?_⟩
      conv => whnf
      have e : d.toNat = (d - 1).toNat + 1 := by omega
      refine ⟨_, _, Wk.agg (WkL.cons (Wk.d (DW.sff ?_)) WkL.nil), WkOs.rfl, hQ (.mk [t1, t2]) p2 (by rw [e]; simp only [tyOk, List.all_cons, List.all_nil, e1, e4]; rfl) (by omega) (by omega)⟩
      exact ⟨by rw [dTy_eq]; rfl, wk_fTy t1, by rw [dTy_eq]; rfl, wk_fTy t2, trivial⟩

theorem tyOk_len {m : Nat} {t : Ty} (h : tyOk m t = true) : t.kids.length ≤ 2 := by
  cases t with
  | mk ks =>
    cases m with
    | zero => simp [tyOk] at h
    | succ m =>
      simp only [tyOk, Bool.and_eq_true, Bool.or_eq_true, beq_iff_eq] at h
      simp only [Ty.kids]
      rcases h.1 with h | h <;> omega

/-- spec.l71Deep -/
def S_s_l71Deep : Spec := fun args O Q => ∃ (l : List UInt8), l.length ≤ 2000 ∧ args = [.ptr 0 0] ∧ O = [oRd l 0] ∧
  ∀ (t : Ty) (p' : Int), t.kids.length ≤ 3 → Q (aTy t) [oRd l p']

theorem v_s_l71Deep {B : World} : Valid PG B s_l71Deep S_s_l71Deep := by
  refine valid_of (Γ := [(s_l71Type, ⟨[], S_s_l71Type 10⟩), (s_l6Rd_pick, ⟨[], S_s_l6Rd_pick⟩)]) wide tok ((AllValid.nil.cons v_s_l6Rd_pick).cons (v_s_l71Type 10)) g_s_l71Deep rfl rfl ?_
  rintro _ _ Q ⟨l, hl, rfl, rfl, hQ⟩
  have hB : Bd 10 = 2047 := by decide
  conv => whnf
  refine ⟨_, _, WkL.rfl, WkOs.rfl, l, 0, 4, hl, by omega, by omega, by omega, rfl, rfl, ?_⟩
  intro k _ hk
  obtain ⟨hk1, hk2⟩ := hk (by omega)
  conv => whnf
  refine ⟨Nat.le_of_ble_eq_true rfl, ?_⟩
  conv => whnf
  refine ⟨lo64 (by omega), hi64 (by omega), ?_⟩
  conv => whnf
  refine ⟨_, _, WkL.rfl, WkOs.rfl, l, 1, 1 + k, hl, by omega, by omega, by omega, by omega, by omega, rfl, rfl, ?_⟩
  intro t p1 ht0 e1 e2
  have ht := tyOk_len ht0
  conv => whnf
  refine ⟨Nat.le_of_ble_eq_true rfl, ?_⟩
  conv => whnf
  refine ⟨_, _, WkL.rfl, WkOs.rfl, l, p1, 12, hl, by omega, by omega, by omega, rfl, rfl, ?_⟩
  intro k2 _ hk2
  conv => whnf
  refine ⟨Nat.le_of_ble_eq_true rfl, ?_⟩
  conv => whnf
  refine ⟨fun h => ?_, fun h => ?_⟩
  · conv => whnf
    refine ⟨[], Ty × Int, fun x => 0 ≤ x.2 ∧ x.2 ≤ 5 ∧ x.1.kids.length ≤ 2, fun x => (5 - x.2).toNat, fun x => [(4, iv x.2)],
      fun x => [oRd l (p1 + 1), .cells [.d (.v (.slice none 0 0))], .cells [.d (.sf 1 (x.1.kids.map dTy))]], (t, 0), ⟨by dsimp only; omega, by dsimp only; omega, ht⟩, ?_⟩
    conv => whnf
    refine ⟨⟨rfl, rfl, WkOs.rfl, ⟨Wk.rfl, trivial⟩, rfl⟩, ?_⟩
    rintro ⟨t, i⟩ ⟨hi0, hi1, ht⟩
    conv => whnf
    refine ⟨fun h4 => ?_, fun h4 => ?_⟩
    · conv => whnf
      left
      conv => whnf
      refine ⟨lo64 (by dsimp only at hi0; omega), hi64 (by dsimp only at hi1; omega), ?_⟩
      conv => whnf
      refine ⟨(.mk [t, .mk []], i + 1), ⟨?_, ?_, by simp [Ty.kids]⟩, ?_, rfl, rfl, ?_, ⟨Wk.rfl, trivial⟩, rfl⟩
      · dsimp only at hi0 ⊢; omega
      · simp at h4 ⊢; omega
      · simp at h4 ⊢; omega
      · refine ⟨WkO.rfl, WkO.rfl, .inr (WkL.cons (Wk.d (DW.sff ?_)) WkL.nil), trivial⟩
        exact ⟨by rw [dTy_eq]; rfl, wk_fTy t, by rw [dTy_eq]; rfl, wk_nil, trivial⟩
    · conv => whnf
      refine ⟨[], ⟨rfl, rfl⟩, ?_⟩
      conv => whnf
      exact ⟨_, _, Wk.agg (WkL.cons (Wk.d DW.sf) WkL.nil), WkOs.rfl, hQ t (p1 + 1) (by dsimp only at ht; omega)⟩
  · conv => whnf
    refine ⟨fun h => ?_, fun h => ?_⟩
    · conv => whnf
      left
      conv => whnf
      refine ⟨⟨by decide, ?_⟩, ?_⟩
      · simp [maxRow]; omega
      conv => whnf
      refine ⟨[], ⟨rfl, rfl⟩, ?_⟩
      conv => whnf
      refine ⟨_, _, Wk.agg (WkL.cons (Wk.d (DW.sl ?_)) WkL.nil), WkOs.rfl, hQ (.mk (t.kids ++ [.mk []])) (p1 + 1) (by rw [Ty.kids_mk]; simp; omega)⟩
      rw [Ty.kids_mk, List.map_append]
      exact DWRows.app DWRows.rfl ⟨by rw [dTy_eq]; rfl, wk_nil, trivial⟩
    · conv => whnf
      refine ⟨[], ⟨rfl, rfl⟩, ?_⟩
      conv => whnf
      exact ⟨_, _, Wk.agg (WkL.cons (Wk.d DW.sf) WkL.nil), WkOs.rfl, hQ t (p1 + 1) (by omega)⟩

/-- spec.DrawTypeOk -/
def S_s_DrawTypeOk : Spec := fun args O Q => ∃ (l : List UInt8), args = [.d (.sl 1 (byteRows l))] ∧ O = [] ∧ ∀ (t : Ty), t.kids.length ≤ 3 → Q (aTy t) []
theorem v_s_DrawTypeOk {B : World} : Valid PG B s_DrawTypeOk S_s_DrawTypeOk := by
  refine valid_of (Γ := [(s_l71Deep, ⟨[], S_s_l71Deep⟩), (s_l6Open, ⟨[], SOpen⟩)]) wide tok ((AllValid.nil.cons v_s_l6Open).cons v_s_l71Deep) g_s_DrawTypeOk rfl rfl ?_
  rintro _ _ Q ⟨l, rfl, rfl, hQ⟩
  conv => whnf
  refine ⟨_, _, WkL.rfl, WkOs.rfl, l, rfl, rfl, ?_⟩
  conv => whnf
  refine ⟨Nat.le_of_ble_eq_true rfl, ?_⟩
  conv => whnf
  refine ⟨_, _, WkL.rfl, WkOs.rfl, l.take 2000, by simp; omega, rfl, rfl, ?_⟩
  intro t p' ht
  conv => whnf
  refine ⟨Nat.le_of_ble_eq_true rfl, ?_⟩
  conv => whnf
  refine ⟨[], ⟨rfl, rfl⟩, ?_⟩
  conv => whnf
  exact ⟨_, _, Wk.rfl, WkOs.rfl, hQ t ht⟩
end Ab

namespace Ab
open Go Go.Proofs
set_option maxRecDepth 10000
set_option maxHeartbeats 4000000
set_option linter.unusedSimpArgs false
set_option linter.unusedVariables false

inductive Vl where | mk (n : Int) (kids : List Vl)
def Vl.num : Vl → Int | .mk n _ => n
def Vl.kids : Vl → List Vl | .mk _ k => k
def dVl : Vl → List DV | .mk n ks => [.i .i64 n, .sl 2 (ks.map dVl)]
theorem dVl_eq (v : Vl) : dVl v = [.i .i64 v.num, .sl 2 (v.kids.map dVl)] := by cases v; simp [dVl, Vl.num, Vl.kids]
abbrev aVl (v : Vl) : AV := .agg [.d (.i .i64 v.num), .d (.sl 2 (v.kids.map dVl))]
abbrev fVl (v : Vl) : AV := .agg [.d (.i .i64 v.num), .d (.sf 2 (v.kids.map dVl))]

/-- the type of a value, and whether it is of one -/
def vt : Nat → Vl → Ty × Bool
  | 0, _ => (.mk [], false)
  | d + 1, .mk n [] => (.mk [], decide (0 ≤ n) && decide (n ≤ 9999))
  | d + 1, .mk n [a, b] => if n = 0 then (if (vt d a).2 && (vt d b).2 then (.mk [(vt d a).1, (vt d b).1], true) else (.mk [], false)) else (.mk [], false)
  | d + 1, .mk n _ => (.mk [], false)

/-- impl.valType -/
def S_i_valType (n : Nat) : Spec := fun args O Q => ∃ (v : Vl) (d : Int), 0 ≤ d ∧ d < n ∧ n ≤ 100 ∧ args = [aVl v, iv d] ∧ O = [] ∧ Q (.tup [aTy (vt d.toNat v).1, bv (vt d.toNat v).2]) []

theorem wk_t0 : Wk (.agg [.d (.v (.slice none 0 0))]) (aTy (.mk [])) := Wk.agg (WkL.cons (Wk.nil 1) WkL.nil)

theorem v_i_valType {B : World} : ∀ n, Valid PG B i_valType (S_i_valType n) := by
  refine valid_lt (fun args O Q ⟨t, d, h1, h2, _⟩ => by omega) fun n ih => ?_
  refine valid_of (Γ := [(i_valType, ⟨[], S_i_valType n⟩)]) wide tok (AllValid.nil.cons ih) g_i_valType rfl rfl ?_
  rintro _ _ Q ⟨⟨k, ks⟩, d, hd, hd', hn, rfl, rfl, hQ⟩
  have fin : ∀ (x : AV) (t : Ty) (b : Bool), vt d.toNat (.mk k ks) = (t, b) → Wk x (.tup [aTy t, bv b]) → wkQ Q x [] := fun x t b hb hx => ⟨_, _, hx, WkOs.rfl, by rw [hb] at hQ; exact hQ⟩
  conv => whnf
  refine ⟨fun h => ?_, fun h => ?_⟩
  · conv => whnf
    refine ⟨[], ⟨rfl, rfl⟩, ?_⟩
    have h0 : d.toNat = 0 := by simp at h; omega
    exact fin _ (.mk []) false (by rw [h0]; rfl) (Wk.tup (WkL.cons wk_t0 (WkL.cons Wk.rfl WkL.nil)))
  · have hd1 : ¬ d < 1 := by simpa using h
    obtain ⟨m, hm⟩ : ∃ m, d.toNat = m + 1 := ⟨d.toNat - 1, by omega⟩
    have hm1 : (d - 1).toNat = m := by omega
    rw [hm] at fin
    conv => whnf
    refine ⟨fun h2 => ?_, fun h2 => ?_⟩
    · have : ks = [] := by
        cases ks with
        | nil => rfl
        | cons k ks => simp [Vl.kids] at h2; omega
      subst this
      conv => whnf
      refine ⟨fun h3 => ?_, fun h3 => ?_⟩
      · conv => whnf
        refine ⟨?_, ?_⟩
        · conv => whnf
          exact Wk.rfl
        conv => whnf
        refine ⟨[], ⟨rfl, rfl⟩, ?_⟩
        refine fin _ (.mk []) (decide (k ≤ 9999)) ?_ ?_
        · simp [Vl.num] at h3; simp [vt, h3]
        exact Wk.tup (WkL.cons wk_t0 (WkL.cons Wk.rfl WkL.nil))
      · conv => whnf
        refine ⟨?_, ?_⟩
        · conv => whnf
          rfl
        conv => whnf
        refine ⟨[], ⟨rfl, rfl⟩, ?_⟩
        refine fin _ (.mk []) false ?_ ?_
        · simp [Vl.num] at h3; simp [vt]; omega
        exact Wk.tup (WkL.cons wk_t0 (WkL.cons Wk.rfl WkL.nil))
    · have hk0 : ks ≠ [] := by rintro rfl; simp [Vl.kids] at h2
      conv => whnf
      refine ⟨fun h3 => ?_, fun h3 => ?_⟩
      · have hv : vt (m + 1) (.mk k ks) = (.mk [], false) := by
          match ks, h3, hk0 with
          | [], _, h => exact absurd rfl h
          | [_], _, _ => rfl
          | [_, _], h3, _ => simp [Vl.kids] at h3
          | _ :: _ :: _ :: _, _, _ => rfl
        conv => whnf
        refine ⟨[], ⟨rfl, rfl⟩, ?_⟩
        exact fin _ (.mk []) false hv (Wk.tup (WkL.cons wk_t0 (WkL.cons Wk.rfl WkL.nil)))
      · obtain ⟨a, b, rfl⟩ : ∃ a b, ks = [a, b] := by
          match ks, h3 with
          | [], h3 => simp [Vl.kids] at h3
          | [_], h3 => simp [Vl.kids] at h3
          | [a, b], _ => exact ⟨a, b, rfl⟩
          | _ :: _ :: _ :: _, h3 => simp [Vl.kids] at h3; omega
        conv => whnf
        refine ⟨fun h4 => ?_, fun h4 => ?_⟩
        · have hv : vt (m + 1) (.mk k [a, b]) = (.mk [], false) := by
            simp [Vl.num] at h4
            simp [vt, h4]
          conv => whnf
          refine ⟨[], ⟨rfl, rfl⟩, ?_⟩
          exact fin _ (.mk []) false hv (Wk.tup (WkL.cons wk_t0 (WkL.cons Wk.rfl WkL.nil)))
        · have hk : k = 0 := by simpa [Vl.num] using h4
          subst hk
          conv => whnf
          refine ⟨by omega, dVl a, rfl, ?_⟩
          rw [dVl_eq]
          conv => whnf
          refine ⟨lo64 (by omega), hi64 (by omega), ?_⟩
          conv => whnf
          refine ⟨_, _, WkL.rfl, WkOs.rfl, a, d - 1, by omega, by omega, by omega, rfl, rfl, ?_⟩
          conv => whnf
          refine ⟨Nat.le_of_ble_eq_true rfl, ?_⟩
          conv => whnf
          refine ⟨by omega, dVl b, rfl, ?_⟩
          rw [dVl_eq]
          conv => whnf
          refine ⟨lo64 (by omega), hi64 (by omega), ?_⟩
          conv => whnf
          refine ⟨_, _, WkL.rfl, WkOs.rfl, b, d - 1, by omega, by omega, by omega, rfl, rfl, ?_⟩
          conv => whnf
          refine ⟨Nat.le_of_ble_eq_true rfl, ?_⟩
          conv => whnf
          rw [hm1]
          refine ⟨fun h5 => ?_, fun h5 => ?_⟩
          · have hv : vt (m + 1) (.mk 0 [a, b]) = (.mk [], false) := by
              simp at h5; simp [vt, h5]
            conv => whnf
            refine ⟨[], ⟨rfl, rfl⟩, ?_⟩
            exact fin _ (.mk []) false hv (Wk.tup (WkL.cons wk_t0 (WkL.cons Wk.rfl WkL.nil)))
          · conv => whnf
            refine ⟨fun h6 => ?_, fun h6 => ?_⟩
            · have hv : vt (m + 1) (.mk 0 [a, b]) = (.mk [], false) := by
                simp at h6; simp [vt, h6]
              conv => whnf
              refine ⟨[], ⟨rfl, rfl⟩, ?_⟩
              exact fin _ (.mk []) false hv (Wk.tup (WkL.cons wk_t0 (WkL.cons Wk.rfl WkL.nil)))
            · have hv : vt (m + 1) (.mk 0 [a, b]) = (.mk [(vt m a).1, (vt m b).1], true) := by
                simp at h5 h6; simp [vt, h5, h6]
              conv => whnf
              left
              conv => whnf
              refine ⟨[], ⟨rfl, rfl⟩, ?_⟩
              refine fin _ _ true hv (Wk.tup (WkL.cons (Wk.agg (WkL.cons (Wk.d (DW.sf.trans (DW.sl ?_))) WkL.nil)) (WkL.cons Wk.rfl WkL.nil)))
              exact ⟨by rw [dTy_eq], by rw [dTy_eq]; exact DWL.rfl, by rw [dTy_eq], by rw [dTy_eq]; exact DWL.rfl, trivial⟩

/-- impl.valTyped -/
def S_i_valTyped : Spec := fun args O Q => ∃ (v : Vl), args = [aVl v] ∧ O = [] ∧ Q (.tup [aTy (vt 4 v).1, bv (vt 4 v).2]) []
theorem v_i_valTyped {B : World} : Valid PG B i_valTyped S_i_valTyped := by
  refine valid_of (Γ := [(i_valType, ⟨[], S_i_valType 10⟩)]) wide tok (AllValid.nil.cons (v_i_valType 10)) g_i_valTyped rfl rfl ?_
  rintro _ _ Q ⟨v, rfl, rfl, hQ⟩
  conv => whnf
  refine ⟨_, _, WkL.rfl, WkOs.rfl, v, 4, by omega, by omega, by omega, rfl, rfl, ?_⟩
  conv => whnf
  refine ⟨Nat.le_of_ble_eq_true rfl, ?_⟩
  conv => whnf
  refine ⟨[], ⟨rfl, rfl⟩, ?_⟩
  conv => whnf
  exact ⟨_, _, Wk.rfl, WkOs.rfl, hQ⟩
end Ab

namespace Ab
open Go Go.Proofs
set_option maxRecDepth 10000
set_option maxHeartbeats 4000000
set_option linter.unusedSimpArgs false
set_option linter.unusedVariables false

mutual
def sameTy : Ty → Ty → Bool
  | .mk xs, .mk ys => sameTys xs ys
def sameTys : List Ty → List Ty → Bool
  | [], [] => true
  | a :: xs, b :: ys => sameTy a b && sameTys xs ys
  | _, _ => false
end
theorem sameTy_mk (xs ys : List Ty) : sameTy (.mk xs) (.mk ys) = sameTys xs ys := by simp [sameTy]
theorem sameTys_len : ∀ {xs ys : List Ty}, sameTys xs ys = true → xs.length = ys.length
  | [], [], _ => rfl
  | a :: xs, b :: ys, h => by simp [sameTys] at h; simp [sameTys_len h.2]
  | [], _ :: _, h => by simp [sameTys] at h
  | _ :: _, [], h => by simp [sameTys] at h
theorem sameTys_get : ∀ {xs ys : List Ty} (i : Nat) (h1 : i < xs.length) (h2 : i < ys.length), sameTys xs ys = true → sameTy xs[i] ys[i] = true
  | a :: xs, b :: ys, 0, _, _, h => by simp [sameTys] at h; exact h.1
  | a :: xs, b :: ys, i + 1, h1, h2, h => by simp [sameTys] at h; exact sameTys_get i (by simpa using h1) (by simpa using h2) h.2
theorem sameTys_step : ∀ {xs ys : List Ty} (i : Nat) (h1 : i < xs.length) (h2 : i < ys.length), sameTys (xs.take i) (ys.take i) = true → sameTy xs[i] ys[i] = true → sameTys (xs.take (i + 1)) (ys.take (i + 1)) = true
  | a :: xs, b :: ys, 0, _, _, _, h => by simpa [sameTys] using h
  | a :: xs, b :: ys, i + 1, h1, h2, h, h' => by
    simp [sameTys] at h ⊢
    exact ⟨h.1, sameTys_step i (by simpa using h1) (by simpa using h2) h.2 h'⟩

/-- impl.typeSame -/
def S_i_typeSame (n : Nat) : Spec := fun args O Q => ∃ (m : Nat) (a b : Ty), m < n ∧ tyOk m a = true ∧ args = [aTy a, aTy b] ∧ O = [] ∧ Q (bv (sameTy a b)) []

theorem tyOk_kids {m : Nat} {ks : List Ty} (h : tyOk m (.mk ks) = true) : ∃ j, m = j + 1 ∧ ks.length ≤ 2 ∧ ∀ k ∈ ks, tyOk j k = true := by
  cases m with
  | zero => simp [tyOk] at h
  | succ j =>
    simp only [tyOk, Bool.and_eq_true, List.all_eq_true] at h
    refine ⟨j, rfl, ?_, h.2⟩
    have := h.1
    simp at this
    rcases this with h | h <;> simp [h]

theorem v_i_typeSame {B : World} : ∀ n, Valid PG B i_typeSame (S_i_typeSame n) := by
  refine valid_lt (fun args O Q ⟨m, a, b, h1, _⟩ => by omega) fun n ih => ?_
  refine valid_of (Γ := [(i_typeSame, ⟨[], S_i_typeSame n⟩)]) wide tok (AllValid.nil.cons ih) g_i_typeSame rfl rfl ?_
  rintro _ _ Q ⟨m, ⟨xs⟩, ⟨ys⟩, hm, hok, rfl, rfl, hQ⟩
  obtain ⟨j, rfl, hlen, hks⟩ := tyOk_kids hok
  rw [sameTy_mk] at hQ
  have fin : ∀ (b : Bool), sameTys xs ys = b → wkQ Q (bv b) [] := fun b hb => ⟨_, _, Wk.rfl, WkOs.rfl, hb ▸ hQ⟩
  conv => whnf
  refine ⟨fun h => ?_, fun h => ?_⟩
  · conv => whnf
    refine ⟨[], ⟨rfl, rfl⟩, ?_⟩
    refine fin _ ?_
    cases hs : sameTys xs ys with
    | false => rfl
    | true => have := sameTys_len hs; simp [Ty.kids, this] at h
  · have hl : xs.length = ys.length := by simp [Ty.kids] at h; omega
    conv => whnf
    refine ⟨[], Int, fun i => 0 ≤ i ∧ i ≤ xs.length ∧ sameTys (xs.take i.toNat) (ys.take i.toNat) = true, fun i => (xs.length - i).toNat, fun i => [(16, iv i)],
      fun _ => [.cells [.d (.sl 1 (xs.map dTy))], .cells [.d (.sl 1 (ys.map dTy))]], 0, ⟨by omega, by omega, by simp [sameTys]⟩, ?_⟩
    conv => whnf
    refine ⟨⟨rfl, rfl, WkOs.rfl, ⟨Wk.rfl, trivial⟩, rfl⟩, ?_⟩
    intro i ⟨hi0, hi1, hi2⟩
    conv => whnf
    refine ⟨fun h4 => ?_, fun h4 => ?_⟩
    · simp [Ty.kids] at h4
      have hlt : i.toNat < xs.length := by omega
      have hlt2 : i.toNat < ys.length := by omega
      conv => whnf
      refine ⟨hi0, dTy xs[i.toNat], by simp [Ty.kids, hlt], ?_⟩
      rw [dTy_eq]
      conv => whnf
      refine ⟨hi0, dTy ys[i.toNat], by simp [Ty.kids, hlt2], ?_⟩
      rw [dTy_eq]
      conv => whnf
      refine ⟨_, _, WkL.rfl, WkOs.rfl, j, xs[i.toNat], ys[i.toNat], by omega, hks _ (List.getElem_mem _), rfl, rfl, ?_⟩
      conv => whnf
      refine ⟨Nat.le_of_ble_eq_true rfl, ?_⟩
      conv => whnf
      refine ⟨fun h5 => ?_, fun h5 => ?_⟩
      · conv => whnf
        refine ⟨[], ⟨rfl, rfl⟩, ?_⟩
        refine fin _ ?_
        cases hs : sameTys xs ys with
        | false => rfl
        | true => rw [sameTys_get _ hlt hlt2 hs] at h5; cases h5
      · conv => whnf
        refine ⟨lo64 (by omega), hi64 (by omega), ?_⟩
        conv => whnf
        refine ⟨i + 1, ⟨by omega, by omega, ?_⟩, by dsimp only; omega, rfl, rfl, WkOs.rfl, ⟨Wk.rfl, trivial⟩, rfl⟩
        have e : (i + 1).toNat = i.toNat + 1 := by omega
        rw [e]
        exact sameTys_step _ hlt hlt2 hi2 (by simpa using h5)
    · conv => whnf
      refine ⟨[], ⟨rfl, rfl⟩, ?_⟩
      refine fin _ ?_
      have : i.toNat = xs.length := by simp [Ty.kids] at h4; omega
      rw [this, List.take_length, hl, List.take_length] at hi2
      exact hi2

theorem vt_ok : ∀ (d : Nat) (v : Vl), (vt d v).2 = true → tyOk d (vt d v).1 = true
  | 0, v, h => by simp [vt] at h
  | d + 1, .mk n [], h => by simp [vt, tyOk]
  | d + 1, .mk n [a, b], h => by
    by_cases hn : n = 0
    · simp only [vt, hn, if_true] at h ⊢
      split at h
      · rename_i hc
        rw [if_pos hc]
        simp only [Bool.and_eq_true] at hc
        simp [tyOk, vt_ok d a hc.1, vt_ok d b hc.2]
      · cases h
    · simp [vt, hn] at h
  | d + 1, .mk n [_], h => by simp [vt] at h
  | d + 1, .mk n (_ :: _ :: _ :: _), h => by simp [vt] at h

def valOk (t : Ty) (v : Vl) : Bool := tyOk 4 t && ((vt 4 v).2 && sameTy (vt 4 v).1 t)
/-- impl.ValOk -/
def S_i_ValOk : Spec := fun args O Q => ∃ (t : Ty) (v : Vl), args = [aTy t, aVl v] ∧ O = [] ∧ Q (bv (valOk t v)) []
theorem v_i_ValOk {B : World} : Valid PG B i_ValOk S_i_ValOk := by
  refine valid_of (Γ := [(i_TypeOk, ⟨[], STypeOk⟩), (i_valTyped, ⟨[], S_i_valTyped⟩), (i_typeSame, ⟨[], S_i_typeSame 10⟩)]) wide tok (((AllValid.nil.cons (v_i_typeSame 10)).cons v_i_valTyped).cons v_i_TypeOk) g_i_ValOk rfl rfl ?_
  rintro _ _ Q ⟨t, v, rfl, rfl, hQ⟩
  have fin : ∀ (b : Bool), valOk t v = b → wkQ Q (bv b) [] := fun b hb => ⟨_, _, Wk.rfl, WkOs.rfl, hb ▸ hQ⟩
  conv => whnf
  refine ⟨_, _, WkL.rfl, WkOs.rfl, t, rfl, rfl, ?_⟩
  conv => whnf
  refine ⟨Nat.le_of_ble_eq_true rfl, ?_⟩
  conv => whnf
  refine ⟨fun h => ?_, fun h => ?_⟩
  · conv => whnf
    refine ⟨[], ⟨rfl, rfl⟩, ?_⟩
    refine fin _ ?_
    simp at h; simp [valOk, h]
  · simp at h
    conv => whnf
    refine ⟨_, _, WkL.rfl, WkOs.rfl, v, rfl, rfl, ?_⟩
    conv => whnf
    refine ⟨Nat.le_of_ble_eq_true rfl, ?_⟩
    conv => whnf
    refine ⟨fun h2 => ?_, fun h2 => ?_⟩
    · conv => whnf
      refine ⟨_, _, WkL.rfl, WkOs.rfl, 4, (vt 4 v).1, t, by omega, vt_ok 4 v h2, rfl, rfl, ?_⟩
      conv => whnf
      refine ⟨Nat.le_of_ble_eq_true rfl, ?_⟩
      conv => whnf
      refine ⟨[], ⟨rfl, rfl⟩, ?_⟩
      refine fin _ ?_
      simp [valOk, h, h2]
    · conv => whnf
      refine ⟨[], ⟨rfl, rfl⟩, ?_⟩
      refine fin _ ?_
      simp [valOk, h, h2]

mutual
def sameVl : Vl → Vl → Bool
  | .mk m xs, .mk n ys => m == n && sameVls xs ys
def sameVls : List Vl → List Vl → Bool
  | [], [] => true
  | a :: xs, b :: ys => sameVl a b && sameVls xs ys
  | _, _ => false
end
theorem sameVl_mk (m n : Int) (xs ys : List Vl) : sameVl (.mk m xs) (.mk n ys) = (m == n && sameVls xs ys) := by simp [sameVl]
theorem sameVls_len : ∀ {xs ys : List Vl}, sameVls xs ys = true → xs.length = ys.length
  | [], [], _ => rfl
  | a :: xs, b :: ys, h => by simp [sameVls] at h; simp [sameVls_len h.2]
  | [], _ :: _, h => by simp [sameVls] at h
  | _ :: _, [], h => by simp [sameVls] at h
theorem sameVls_get : ∀ {xs ys : List Vl} (i : Nat) (h1 : i < xs.length) (h2 : i < ys.length), sameVls xs ys = true → sameVl xs[i] ys[i] = true
  | a :: xs, b :: ys, 0, _, _, h => by simp [sameVls] at h; exact h.1
  | a :: xs, b :: ys, i + 1, h1, h2, h => by simp [sameVls] at h; exact sameVls_get i (by simpa using h1) (by simpa using h2) h.2
theorem sameVls_step : ∀ {xs ys : List Vl} (i : Nat) (h1 : i < xs.length) (h2 : i < ys.length), sameVls (xs.take i) (ys.take i) = true → sameVl xs[i] ys[i] = true → sameVls (xs.take (i + 1)) (ys.take (i + 1)) = true
  | a :: xs, b :: ys, 0, _, _, _, h => by simpa [sameVls] using h
  | a :: xs, b :: ys, i + 1, h1, h2, h, h' => by
    simp [sameVls] at h ⊢
    exact ⟨h.1, sameVls_step i (by simpa using h1) (by simpa using h2) h.2 h'⟩

/-- no node has more than so many kids, and it is at most so deep -/
def vlB : Nat → Vl → Prop
  | 0, _ => False
  | d + 1, .mk _ ks => ks.length ≤ 1000000 ∧ ∀ k ∈ ks, vlB d k

/-- laws.lhVal -/
def S_l_lhVal (n : Nat) : Spec := fun args O Q => ∃ (m : Nat) (a b : Vl), m < n ∧ vlB m a ∧ args = [aVl a, aVl b] ∧ O = [] ∧ Q (bv (sameVl a b)) []
theorem v_l_lhVal {B : World} : ∀ n, Valid PG B l_lhVal (S_l_lhVal n) := by
  refine valid_lt (fun args O Q ⟨m, a, b, h1, _⟩ => by omega) fun n ih => ?_
  refine valid_of (Γ := [(l_lhVal, ⟨[], S_l_lhVal n⟩)]) wide tok (AllValid.nil.cons ih) g_l_lhVal rfl rfl ?_
  rintro _ _ Q ⟨m, ⟨k, xs⟩, ⟨l, ys⟩, hm, hok, rfl, rfl, hQ⟩
  obtain ⟨j, rfl⟩ : ∃ j, m = j + 1 := by
    cases m with
    | zero => exact hok.elim
    | succ j => exact ⟨j, rfl⟩
  obtain ⟨hlen, hks⟩ := hok
  rw [sameVl_mk] at hQ
  have fin : ∀ (b : Bool), (k == l && sameVls xs ys) = b → wkQ Q (bv b) [] := fun b hb => ⟨_, _, Wk.rfl, WkOs.rfl, hb ▸ hQ⟩
  conv => whnf
  refine ⟨fun h => ?_, fun h => ?_⟩
  · conv => whnf
    refine ⟨[], ⟨rfl, rfl⟩, ?_⟩
    refine fin _ ?_
    simp [Vl.num] at h; simp [h]
  · have hk : k = l := by simpa [Vl.num] using h
    conv => whnf
    refine ⟨fun h2 => ?_, fun h2 => ?_⟩
    · conv => whnf
      refine ⟨[], ⟨rfl, rfl⟩, ?_⟩
      refine fin _ ?_
      cases hs : sameVls xs ys with
      | false => simp
      | true => have := sameVls_len hs; simp [Vl.kids, this] at h2
    · have hl : xs.length = ys.length := by simp [Vl.kids] at h2; omega
      conv => whnf
      refine ⟨[], Int, fun i => 0 ≤ i ∧ i ≤ xs.length ∧ sameVls (xs.take i.toNat) (ys.take i.toNat) = true, fun i => (xs.length - i).toNat, fun i => [(5, iv i)],
        fun _ => [.cells [iv k, .d (.sl 2 (xs.map dVl))], .cells [iv l, .d (.sl 2 (ys.map dVl))]], 0, ⟨by omega, by omega, by simp [sameVls]⟩, ?_⟩
      conv => whnf
      refine ⟨⟨rfl, rfl, WkOs.rfl, ⟨Wk.rfl, trivial⟩, rfl⟩, ?_⟩
      intro i ⟨hi0, hi1, hi2⟩
      conv => whnf
      refine ⟨fun h4 => ?_, fun h4 => ?_⟩
      · simp [Vl.kids] at h4
        have hlt : i.toNat < xs.length := by omega
        have hlt2 : i.toNat < ys.length := by omega
        conv => whnf
        refine ⟨hi0, dVl xs[i.toNat], by simp [Vl.kids, hlt], ?_⟩
        rw [dVl_eq]
        conv => whnf
        refine ⟨hi0, dVl ys[i.toNat], by simp [Vl.kids, hlt2], ?_⟩
        rw [dVl_eq]
        conv => whnf
        refine ⟨_, _, WkL.rfl, WkOs.rfl, j, xs[i.toNat], ys[i.toNat], by omega, hks _ (List.getElem_mem _), rfl, rfl, ?_⟩
        conv => whnf
        refine ⟨Nat.le_of_ble_eq_true rfl, ?_⟩
        conv => whnf
        refine ⟨fun h5 => ?_, fun h5 => ?_⟩
        · conv => whnf
          refine ⟨[], ⟨rfl, rfl⟩, ?_⟩
          refine fin _ ?_
          cases hs : sameVls xs ys with
          | false => simp
          | true => rw [sameVls_get _ hlt hlt2 hs] at h5; cases h5
        · conv => whnf
          refine ⟨lo64 (by omega), hi64 (by omega), ?_⟩
          conv => whnf
          refine ⟨i + 1, ⟨by omega, by omega, ?_⟩, by dsimp only; omega, rfl, rfl, WkOs.rfl, ⟨Wk.rfl, trivial⟩, rfl⟩
          have e : (i + 1).toNat = i.toNat + 1 := by omega
          rw [e]
          exact sameVls_step _ hlt hlt2 hi2 (by simpa using h5)
      · conv => whnf
        refine ⟨[], ⟨rfl, rfl⟩, ?_⟩
        refine fin _ ?_
        have : i.toNat = xs.length := by simp [Vl.kids] at h4; omega
        rw [this, List.take_length, hl, List.take_length] at hi2
        simp [hk, hi2]
end Ab

namespace Ab
open Go Go.Proofs
set_option maxRecDepth 10000
set_option maxHeartbeats 4000000
set_option linter.unusedSimpArgs false
set_option linter.unusedVariables false

def nought : Ty → Vl
  | .mk ks => .mk 0 (ks.map nought)
theorem nought_mk (ks : List Ty) : nought (.mk ks) = .mk 0 (ks.map nought) := by simp [nought]

/-- laws.lhNought -/
def S_l_lhNought (n : Nat) : Spec := fun args O Q => ∃ (m : Nat) (t : Ty), m < n ∧ tyOk m t = true ∧ args = [aTy t] ∧ O = [] ∧ Q (aVl (nought t)) []
theorem v_l_lhNought {B : World} : ∀ n, Valid PG B l_lhNought (S_l_lhNought n) := by
  refine valid_lt (fun args O Q ⟨m, t, h1, _⟩ => by omega) fun n ih => ?_
  refine valid_of (Γ := [(l_lhNought, ⟨[], S_l_lhNought n⟩)]) wide tok (AllValid.nil.cons ih) g_l_lhNought rfl rfl ?_
  rintro _ _ Q ⟨m, ⟨ks⟩, hm, hok, rfl, rfl, hQ⟩
  obtain ⟨j, rfl, hlen, hks⟩ := tyOk_kids hok
  rw [nought_mk] at hQ
  conv => whnf
  refine ⟨[.cell 2 1 2], Int, fun i => 0 ≤ i ∧ i ≤ ks.length, fun i => (ks.length - i).toNat, fun i => [(4, iv i)],
    fun i => [.cells [.d (.sl 1 (ks.map dTy))], .cells [iv 0, .d (.v (.slice none 0 0))], .cells [iv 0, .row 3 1], .row 1 true 2 ((ks.take i.toNat).map fun k => dVl (nought k))], 0, ⟨by omega, by omega⟩, ?_⟩
  conv => whnf
  refine ⟨⟨rfl, rfl, WkOs.rfl, ⟨Wk.rfl, trivial⟩, rfl⟩, ?_⟩
  intro i ⟨hi0, hi1⟩
  conv => whnf
  refine ⟨fun h4 => ?_, fun h4 => ?_⟩
  · simp [Ty.kids] at h4
    have hlt : i.toNat < ks.length := by omega
    conv => whnf
    refine ⟨hi0, dTy ks[i.toNat], by simp [Ty.kids, hlt], ?_⟩
    rw [dTy_eq]
    conv => whnf
    refine ⟨_, _, WkL.rfl, WkOs.rfl, j, ks[i.toNat], by omega, hks _ (List.getElem_mem _), rfl, rfl, ?_⟩
    conv => whnf
    refine ⟨Nat.le_of_ble_eq_true rfl, ?_⟩
    conv => whnf
    refine ⟨by conv => whnf
               exact Wk.rfl, ?_⟩
    conv => whnf
    left
    conv => whnf
    refine ⟨by conv => whnf
               exact Wk.rfl, ?_⟩
    conv => whnf
    refine ⟨by simp [maxRow]; omega, ?_⟩
    conv => whnf
    refine ⟨lo64 (by omega), hi64 (by omega), ?_⟩
    conv => whnf
    refine ⟨i + 1, ⟨by omega, by omega⟩, by dsimp only; omega, rfl, rfl, ⟨WkO.rfl, WkO.rfl, WkO.rfl, .inr ⟨rfl, rfl, rfl, ?_⟩, trivial⟩, ⟨Wk.rfl, trivial⟩, rfl⟩
    have e : (i + 1).toNat = i.toNat + 1 := by omega
    rw [e, List.take_add_one, List.map_append]
    simp only [List.getElem?_eq_getElem hlt]
    exact DWRows.app DWRows.rfl ⟨by dsimp only; rw [dVl_eq], by dsimp only; rw [dVl_eq]; exact DWL.rfl, trivial⟩
  · conv => whnf
    refine ⟨[], ⟨rfl, rfl⟩, ?_⟩
    conv => whnf
    refine ⟨_, _, Wk.of_eq ?_, WkOs.rfl, hQ⟩
    have e : i.toNat = ks.length := by simp [Ty.kids] at h4; omega
    rw [e, List.take_length]
    simp [Vl.num, Vl.kids, Function.comp_def]
end Ab
