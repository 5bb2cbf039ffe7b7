/- Small laws of the frame's stops: what a script of a contract says again and again. -/
import Derived.Test.YtnhjclenankhoaaDoorIds
set_option linter.all false
namespace Ab
open Go Go.Proofs
set_option maxRecDepth 10000
set_option maxHeartbeats 4000000
set_option linter.all false

theorem rng_i64 {n : Int} {p : Prop} (h1 : -9223372036854775808 ≤ n) (h2 : n ≤ 9223372036854775807) (hp : p) : Rng .i64 n p :=
  ⟨by have : IntKind.i64.min = -9223372036854775808 := by decide
      omega, by have : IntKind.i64.max = 9223372036854775807 := by decide
                omega, hp⟩
theorem rng_u8 {n : Int} {p : Prop} (h1 : 0 ≤ n) (h2 : n ≤ 255) (hp : p) : Rng .u8 n p :=
  ⟨by have : IntKind.u8.min = 0 := by decide
      omega, by have : IntKind.u8.max = 255 := by decide
                omega, hp⟩
theorem br_dec {c : Prop} [Decidable c] {p q : Prop} (h1 : c → p) (h2 : ¬c → q) : Br (decide c) p q := ⟨fun h => h1 (of_decide_eq_true h), fun h => h2 (of_decide_eq_false h)⟩
theorem br_eq {a b : Int} {p q : Prop} (h1 : a = b → p) (h2 : a ≠ b → q) : Br (a == b) p q := ⟨fun h => h1 (by simpa using h), fun h => h2 (by simpa using h)⟩
theorem br_ne {a b : Int} {p q : Prop} (h1 : a ≠ b → p) (h2 : a = b → q) : Br (a != b) p q := ⟨fun h => h1 (by simpa using h), fun h => h2 (by simpa using h)⟩
theorem br_neq {a b : Int} {p q : Prop} (h1 : a ≠ b → p) (h2 : a = b → q) : Br (!(a == b)) p q := ⟨fun h => h1 (by simpa using h), fun h => h2 (by simpa using h)⟩
theorem br_not {b : Bool} {p q : Prop} (h1 : b = false → p) (h2 : b = true → q) : Br (!b) p q := ⟨fun h => h1 (by simpa using h), fun h => h2 (by simpa using h)⟩
theorem Br.yes {b : Bool} {p q : Prop} (h : b = true) (hp : p) : Br b p q := ⟨fun _ => hp, fun h' => by rw [h] at h'; cases h'⟩
theorem Br.no {b : Bool} {p q : Prop} (h : b = false) (hq : q) : Br b p q := ⟨fun h' => (by rw [h] at h'; cases h'), fun _ => hq⟩
theorem byteRows_len : ∀ (l : List UInt8), (byteRows l).length = l.length
  | [] => rfl
  | c :: l => by simp [byteRows, byteRows_len l]

/-- an element of data that is a list's image -/
theorem idx_map {α : Type} {f : α → List DV} {l : List α} {n : Int} {K : List DV → Prop} (h0 : 0 ≤ n) (h : n.toNat < l.length) (hk : K (f l[n.toNat])) : Req (0 ≤ n) (∃ r, (l.map f)[n.toNat]? = some r ∧ K r) :=
  ⟨h0, _, by simp [h], hk⟩
theorem idx_map' {α : Type} {f : α → List DV} {l : List α} {n : Int} {K : List DV → Prop} (h : n.toNat < l.length) (hk : K (f l[n.toNat])) : ∃ r, (l.map f)[n.toNat]? = some r ∧ K r :=
  ⟨_, by simp [h], hk⟩
/-- an element of a row -/
theorem row_map {α : Type} {f : α → List DV} {l : List α} {n : Int} {K : Prop} (h0 : 0 ≤ n) (h : n.toNat < l.length) (hk : K) : Req (0 ≤ n ∧ n < (l.map f).length) K :=
  ⟨⟨h0, by simp; omega⟩, hk⟩

/-- a byte of a text -/
theorem str_at {s : List UInt8} {n : Int} {K : UInt8 → Prop} (h0 : 0 ≤ n) (h : n.toNat < s.length) (hk : K s[n.toNat]) : Req (0 ≤ n) (∃ c, s[n.toNat]? = some c ∧ K c) :=
  ⟨h0, _, by simp [h], hk⟩
theorem str_at' {s : List UInt8} {n : Int} {K : UInt8 → Prop} (h : n.toNat < s.length) (hk : K s[n.toNat]) : ∃ c, s[n.toNat]? = some c ∧ K c :=
  ⟨_, by simp [h], hk⟩
theorem take_all {α : Type} {p : α → Bool} {l : List α} {i : Nat} (h : i < l.length) (h1 : (l.take i).all p = true) (h2 : p l[i] = true) : (l.take (i + 1)).all p = true := by
  rw [List.take_add_one, List.all_append, h1]
  simp only [List.getElem?_eq_getElem h]
  simpa using h2
theorem DWRows.app : ∀ {xs ys xs' ys' : List (List DV)}, DWRows xs xs' → DWRows ys ys' → DWRows (xs ++ ys) (xs' ++ ys')
  | [], _, [], _, _, h => h
  | _ :: _, _, _ :: _, _, ⟨h1, h2, h3⟩, h => ⟨h1, h2, DWRows.app h3 h⟩
/-- one more element -/
theorem rows_snoc {α : Type} {f : α → List DV} {l : List α} {i j : Nat} (h : i < l.length) (hj : j = i + 1) {r : List DV} (hr : r.length = (f l[i]).length) (hw : DWL r (f l[i])) : DWRows ((l.take i).map f ++ [r]) ((l.take j).map f) := by
  subst hj
  rw [List.take_add_one, List.map_append]
  simp only [List.getElem?_eq_getElem h]
  exact DWRows.app DWRows.rfl ⟨hr, hw, trivial⟩
theorem rows_app {α : Type} {f : α → List DV} {l : List α} {x : α} {r : List DV} (hr : r.length = (f x).length) (hw : DWL r (f x)) : DWRows (l.map f ++ [r]) ((l ++ [x]).map f) := by
  rw [List.map_append]; exact DWRows.app DWRows.rfl ⟨hr, hw, trivial⟩
theorem DWRows.rfl_of {xs ys : List (List DV)} (h : xs = ys) : DWRows xs ys := h ▸ DWRows.rfl

theorem wide : PG.follows .mixedOrders = true := by kernel_rfl

/-- A function's own code as its contract: for small ones. -/
def inlS (Γ : Ctx) (fn : Func) : Spec := fun args O Q => match fn.body with
  | some c => runK tau Γ c fn.results.toList fn.ntmps args O (wkQ Q)
  | none => False
theorem valid_inl {B : World} {Γ : Ctx} (hΓ : AllValid PG B Γ) {f : Nat} {fn : Func} (hfn : PG.funcs[f]? = some fn) (hb : fn.body.isSome = true) (hname : (fn.name == "runtime.NumGoroutine") = false) : Valid PG B f (inlS Γ fn) := by
  obtain ⟨c, hc⟩ := Option.isSome_iff_exists.1 hb
  refine valid_of wide tok hΓ hfn hc hname fun args O Q h => ?_
  unfold inlS at h
  rw [hc] at h
  exact h
end Ab

/- Steps of a contract's script, as laws whose last premise is found by the steps themselves. -/
namespace Ab
open Go Go.Proofs
set_option maxRecDepth 10000
set_option maxHeartbeats 4000000
set_option linter.all false
/-- what is found later -/
structure Bx (q : Prop) : Prop where
  out : q
theorem wG {p q : Prop} (k : q) (h : Bx q → p := by intro hq; ((conv => (whnf)); (try (refine AnyG.skip ?_; (conv => (whnf))))); exact hq.out) : p := h ⟨k⟩
theorem stG0 {p q : Prop} (k : q) (h : Bx q → p := by
    intro hq
    first
      | (refine rng_i64 (by omega) (by omega) ?_; ((conv => (whnf)); (try (refine AnyG.skip ?_; (conv => (whnf))))))
      | (refine rng_i64 (by dsimp only; omega) (by dsimp only; omega) ?_; ((conv => (whnf)); (try (refine AnyG.skip ?_; (conv => (whnf))))))
      | (refine rng_i64 (by (try simp only [List.length_append, List.length_cons, List.length_nil, List.length_map, List.length_take, List.length_drop, maxRow, byteRows_len]); omega) (by (try simp only [List.length_append, List.length_cons, List.length_nil, List.length_map, List.length_take, List.length_drop, maxRow, byteRows_len]); omega) ?_; ((conv => (whnf)); (try (refine AnyG.skip ?_; (conv => (whnf))))))
      | (refine Req.mk (Nat.le_of_ble_eq_true rfl) ?_; ((conv => (whnf)); (try (refine AnyG.skip ?_; (conv => (whnf))))))
      | (refine Req.mk (by omega) ?_; ((conv => (whnf)); (try (refine AnyG.skip ?_; (conv => (whnf))))))
      | (refine Req.mk (by (try simp only [List.length_append, List.length_cons, List.length_nil, List.length_map, List.length_take, List.length_drop, maxRow, byteRows_len]); omega) ?_; ((conv => (whnf)); (try (refine AnyG.skip ?_; (conv => (whnf))))))
      | (refine rng_u8 (by omega) (by omega) ?_; ((conv => (whnf)); (try (refine AnyG.skip ?_; (conv => (whnf))))))
      | (refine Req.mk (by (((conv => (whnf)); (try (refine AnyG.skip ?_; (conv => (whnf)))))); (repeat (first | (refine rng_i64 (by omega) (by omega) ?_; ((conv => (whnf)); (try (refine AnyG.skip ?_; (conv => (whnf)))))) | (refine rng_i64 (by dsimp only; omega) (by dsimp only; omega) ?_; ((conv => (whnf)); (try (refine AnyG.skip ?_; (conv => (whnf)))))) | (refine rng_i64 (by (try simp only [List.length_append, List.length_cons, List.length_nil, List.length_map, List.length_take, List.length_drop, maxRow, byteRows_len]); omega) (by (try simp only [List.length_append, List.length_cons, List.length_nil, List.length_map, List.length_take, List.length_drop, maxRow, byteRows_len]); omega) ?_; ((conv => (whnf)); (try (refine AnyG.skip ?_; (conv => (whnf)))))) | (refine Req.mk (Nat.le_of_ble_eq_true rfl) ?_; ((conv => (whnf)); (try (refine AnyG.skip ?_; (conv => (whnf)))))) | (refine Req.mk (by omega) ?_; ((conv => (whnf)); (try (refine AnyG.skip ?_; (conv => (whnf)))))) | (refine Req.mk (by (try simp only [List.length_append, List.length_cons, List.length_nil, List.length_map, List.length_take, List.length_drop, maxRow, byteRows_len]); omega) ?_; ((conv => (whnf)); (try (refine AnyG.skip ?_; (conv => (whnf)))))) | (refine rng_u8 (by omega) (by omega) ?_; ((conv => (whnf)); (try (refine AnyG.skip ?_; (conv => (whnf)))))))); exact Wk.rfl) ?_; ((conv => (whnf)); (try (refine AnyG.skip ?_; (conv => (whnf))))))
    exact hq.out) : p := h ⟨k⟩
theorem goG0 {p q : Prop} (k : q) (h : Bx q → p := by
    intro hq
    repeat (first
      | (refine rng_i64 (by omega) (by omega) ?_; ((conv => (whnf)); (try (refine AnyG.skip ?_; (conv => (whnf))))))
      | (refine rng_i64 (by dsimp only; omega) (by dsimp only; omega) ?_; ((conv => (whnf)); (try (refine AnyG.skip ?_; (conv => (whnf))))))
      | (refine rng_i64 (by (try simp only [List.length_append, List.length_cons, List.length_nil, List.length_map, List.length_take, List.length_drop, maxRow, byteRows_len]); omega) (by (try simp only [List.length_append, List.length_cons, List.length_nil, List.length_map, List.length_take, List.length_drop, maxRow, byteRows_len]); omega) ?_; ((conv => (whnf)); (try (refine AnyG.skip ?_; (conv => (whnf))))))
      | (refine Req.mk (Nat.le_of_ble_eq_true rfl) ?_; ((conv => (whnf)); (try (refine AnyG.skip ?_; (conv => (whnf))))))
      | (refine Req.mk (by omega) ?_; ((conv => (whnf)); (try (refine AnyG.skip ?_; (conv => (whnf))))))
      | (refine Req.mk (by (try simp only [List.length_append, List.length_cons, List.length_nil, List.length_map, List.length_take, List.length_drop, maxRow, byteRows_len]); omega) ?_; ((conv => (whnf)); (try (refine AnyG.skip ?_; (conv => (whnf))))))
      | (refine rng_u8 (by omega) (by omega) ?_; ((conv => (whnf)); (try (refine AnyG.skip ?_; (conv => (whnf))))))
      | (refine Req.mk (by (((conv => (whnf)); (try (refine AnyG.skip ?_; (conv => (whnf)))))); (repeat (first | (refine rng_i64 (by omega) (by omega) ?_; ((conv => (whnf)); (try (refine AnyG.skip ?_; (conv => (whnf)))))) | (refine rng_i64 (by dsimp only; omega) (by dsimp only; omega) ?_; ((conv => (whnf)); (try (refine AnyG.skip ?_; (conv => (whnf)))))) | (refine rng_i64 (by (try simp only [List.length_append, List.length_cons, List.length_nil, List.length_map, List.length_take, List.length_drop, maxRow, byteRows_len]); omega) (by (try simp only [List.length_append, List.length_cons, List.length_nil, List.length_map, List.length_take, List.length_drop, maxRow, byteRows_len]); omega) ?_; ((conv => (whnf)); (try (refine AnyG.skip ?_; (conv => (whnf)))))) | (refine Req.mk (Nat.le_of_ble_eq_true rfl) ?_; ((conv => (whnf)); (try (refine AnyG.skip ?_; (conv => (whnf)))))) | (refine Req.mk (by omega) ?_; ((conv => (whnf)); (try (refine AnyG.skip ?_; (conv => (whnf)))))) | (refine Req.mk (by (try simp only [List.length_append, List.length_cons, List.length_nil, List.length_map, List.length_take, List.length_drop, maxRow, byteRows_len]); omega) ?_; ((conv => (whnf)); (try (refine AnyG.skip ?_; (conv => (whnf)))))) | (refine rng_u8 (by omega) (by omega) ?_; ((conv => (whnf)); (try (refine AnyG.skip ?_; (conv => (whnf)))))))); exact Wk.rfl) ?_; ((conv => (whnf)); (try (refine AnyG.skip ?_; (conv => (whnf))))))
      )
    exact hq.out) : p := h ⟨k⟩
theorem agG0 {p q : Prop} (k : q) (h : Bx q → p := by
    intro hq
    repeat (first
      | (refine rng_i64 (by omega) (by omega) ?_; ((conv => (whnf)); (try (refine AnyG.skip ?_; (conv => (whnf))))))
      | (refine rng_i64 (by dsimp only; omega) (by dsimp only; omega) ?_; ((conv => (whnf)); (try (refine AnyG.skip ?_; (conv => (whnf))))))
      | (refine rng_i64 (by (try simp only [List.length_append, List.length_cons, List.length_nil, List.length_map, List.length_take, List.length_drop, maxRow, byteRows_len]); omega) (by (try simp only [List.length_append, List.length_cons, List.length_nil, List.length_map, List.length_take, List.length_drop, maxRow, byteRows_len]); omega) ?_; ((conv => (whnf)); (try (refine AnyG.skip ?_; (conv => (whnf))))))
      | (refine Req.mk (Nat.le_of_ble_eq_true rfl) ?_; ((conv => (whnf)); (try (refine AnyG.skip ?_; (conv => (whnf))))))
      | (refine Req.mk (by omega) ?_; ((conv => (whnf)); (try (refine AnyG.skip ?_; (conv => (whnf))))))
      | (refine Req.mk (by (try simp only [List.length_append, List.length_cons, List.length_nil, List.length_map, List.length_take, List.length_drop, maxRow, byteRows_len]); omega) ?_; ((conv => (whnf)); (try (refine AnyG.skip ?_; (conv => (whnf))))))
      | (refine rng_u8 (by omega) (by omega) ?_; ((conv => (whnf)); (try (refine AnyG.skip ?_; (conv => (whnf))))))
      | (refine Req.mk (by (((conv => (whnf)); (try (refine AnyG.skip ?_; (conv => (whnf)))))); (repeat (first | (refine rng_i64 (by omega) (by omega) ?_; ((conv => (whnf)); (try (refine AnyG.skip ?_; (conv => (whnf)))))) | (refine rng_i64 (by dsimp only; omega) (by dsimp only; omega) ?_; ((conv => (whnf)); (try (refine AnyG.skip ?_; (conv => (whnf)))))) | (refine rng_i64 (by (try simp only [List.length_append, List.length_cons, List.length_nil, List.length_map, List.length_take, List.length_drop, maxRow, byteRows_len]); omega) (by (try simp only [List.length_append, List.length_cons, List.length_nil, List.length_map, List.length_take, List.length_drop, maxRow, byteRows_len]); omega) ?_; ((conv => (whnf)); (try (refine AnyG.skip ?_; (conv => (whnf)))))) | (refine Req.mk (Nat.le_of_ble_eq_true rfl) ?_; ((conv => (whnf)); (try (refine AnyG.skip ?_; (conv => (whnf)))))) | (refine Req.mk (by omega) ?_; ((conv => (whnf)); (try (refine AnyG.skip ?_; (conv => (whnf)))))) | (refine Req.mk (by (try simp only [List.length_append, List.length_cons, List.length_nil, List.length_map, List.length_take, List.length_drop, maxRow, byteRows_len]); omega) ?_; ((conv => (whnf)); (try (refine AnyG.skip ?_; (conv => (whnf)))))) | (refine rng_u8 (by omega) (by omega) ?_; ((conv => (whnf)); (try (refine AnyG.skip ?_; (conv => (whnf)))))))); exact Wk.rfl) ?_; ((conv => (whnf)); (try (refine AnyG.skip ?_; (conv => (whnf))))))
      | (refine Req.mk (by (((conv => (whnf)); (try (refine AnyG.skip ?_; (conv => (whnf)))))); (try (refine Req.mk (by first | omega | assumption | exact ⟨.inl rfl, by simp [maxRow]; omega⟩ | exact ⟨Int.natCast_nonneg _, by assumption⟩) ?_; (((conv => (whnf)); (try (refine AnyG.skip ?_; (conv => (whnf)))))))); (try (refine ⟨_, (by first | assumption | rfl), ?_⟩; (((conv => (whnf)); (try (refine AnyG.skip ?_; (conv => (whnf)))))))); exact Wk.rfl) ?_; ((conv => (whnf)); (try (refine AnyG.skip ?_; (conv => (whnf))))))
      )
    exact hq.out) : p := h ⟨k⟩
theorem brG0 {p c1 c2 q1 q2 : Prop} (k1 : c1 → q1) (k2 : c2 → q2) (h : Bx (c1 → q1) → Bx (c2 → q2) → p := by
    intro f1 f2
    first
      | refine br_dec (fun hb => ?_) (fun hb => ?_)
      | refine br_eq (fun hb => ?_) (fun hb => ?_)
      | refine br_ne (fun hb => ?_) (fun hb => ?_)
      | refine br_neq (fun hb => ?_) (fun hb => ?_)
      | refine br_not (fun hb => ?_) (fun hb => ?_)
      | refine Br.mk (fun hb => ?_) (fun hb => ?_)
    · (try simp only [List.length_append, List.length_cons, List.length_nil, List.length_map, List.length_take, List.length_drop, maxRow, byteRows_len] at hb)
      ((conv => (whnf)); (try (refine AnyG.skip ?_; (conv => (whnf)))))
      exact f1.out hb
    · (try simp only [List.length_append, List.length_cons, List.length_nil, List.length_map, List.length_take, List.length_drop, maxRow, byteRows_len] at hb)
      ((conv => (whnf)); (try (refine AnyG.skip ?_; (conv => (whnf)))))
      exact f2.out hb) : p := h ⟨k1⟩ ⟨k2⟩
end Ab

namespace Ab
open Go Go.Proofs
set_option maxRecDepth 10000
set_option maxHeartbeats 4000000
set_option linter.unusedSimpArgs false
set_option linter.unusedVariables false


inductive Ty where | mk (kids : List Ty)
def Ty.kids : Ty → List Ty | .mk k => k
theorem Ty.eta (t : Ty) : t = .mk t.kids := by cases t; rfl
def dTy : Ty → List DV | .mk ks => [.sl 1 (ks.map dTy)]
theorem dTy_eq (t : Ty) : dTy t = [.sl 1 (t.kids.map dTy)] := by cases t; simp [dTy, Ty.kids]
abbrev aTy (t : Ty) : AV := .agg [.d (.sl 1 (t.kids.map dTy))]
abbrev fTy (t : Ty) : AV := .agg [.d (.sf 1 (t.kids.map dTy))]
abbrev iv (n : Int) : AV := .d (.i .i64 n)
abbrev bv (b : Bool) : AV := .d (.b b)

theorem lo64 {n : Int} (h : -9223372036854775808 ≤ n) : IntKind.i64.min ≤ n := by
  have : IntKind.i64.min = -9223372036854775808 := by decide
  omega
theorem hi64 {n : Int} (h : n ≤ 9223372036854775807) : n ≤ IntKind.i64.max := by
  have : IntKind.i64.max = 9223372036854775807 := by decide
  omega

def tyOk : Nat → Ty → Bool
  | 0, _ => false
  | n+1, .mk ks => (ks.length == 0 || ks.length == 2) && ks.all (tyOk n)

theorem valid_lt {P : Program} {B : World} {f : Nat} {S : Nat → Spec} (h0 : ∀ args O Q, ¬ S 0 args O Q) (h : ∀ n, Valid P B f (S n) → Valid P B f (S (n+1))) : ∀ n, Valid P B f (S n)
  | 0 => fun w g O args us Q _ _ _ _ hs => absurd hs (h0 _ _ _)
  | n+1 => h n (valid_lt h0 h n)
theorem Valid.weak {P : Program} {B : World} {f : Nat} {S S' : Spec} (h : Valid P B f S) (hs : ∀ args O Q, S' args O Q → S args O Q) : Valid P B f S' :=
  fun w g O args us Q i a b c d => h w g O args us Q i a b c (hs _ _ _ d)

/-- impl.typeFits -/
def S_i_typeFits (n : Nat) : Spec := fun args O Q => ∃ (t : Ty) (d : Int), 0 ≤ d ∧ d < n ∧ n ≤ 100 ∧ args = [aTy t, iv d] ∧ O = [] ∧ Q (bv (tyOk d.toNat t)) []

theorem tyOk_neg {d : Int} (h : d < 1) (t : Ty) : tyOk d.toNat t = false := by
  have : d.toNat = 0 := by omega
  rw [this]; cases t; rfl
theorem tyOk_pos {d : Int} (h : ¬ d < 1) (ks : List Ty) : tyOk d.toNat (.mk ks) = ((ks.length == 0 || ks.length == 2) && ks.all (tyOk (d - 1).toNat)) := by
  obtain ⟨n, hn⟩ : ∃ n, d.toNat = n + 1 := ⟨d.toNat - 1, by omega⟩
  have : (d - 1).toNat = n := by omega
  rw [hn, this]; simp [tyOk]

theorem v_i_typeFits {B : World} : ∀ n, Valid PG B i_typeFits (S_i_typeFits n) := by
  refine valid_lt (fun args O Q ⟨t, d, h1, h2, _⟩ => by omega) fun n ih => ?_
  refine valid_of (Γ := [(i_typeFits, ⟨[], S_i_typeFits n⟩)]) wide tok (AllValid.nil.cons ih) g_i_typeFits rfl rfl ?_
  rintro _ _ Q ⟨⟨ks⟩, d, hd, hd', hn, rfl, rfl, hQ⟩
  have fin : ∀ (b : Bool), tyOk d.toNat (.mk ks) = b → Q (bv b) [] := fun b hb => hb ▸ hQ
  ((conv => (whnf)); (try (refine AnyG.skip ?_; (conv => (whnf)))))
  refine ⟨fun h => ?_, fun h => ?_⟩
  · ((conv => (whnf)); (try (refine AnyG.skip ?_; (conv => (whnf)))))
    refine endK ⟨[], ⟨rfl, rfl⟩, ?_⟩
    ((conv => (whnf)); (try (refine AnyG.skip ?_; (conv => (whnf)))))
    exact ⟨_, _, Wk.rfl, WkOs.rfl, fin _ (tyOk_neg (by simpa using h) _)⟩
  · have hd1 : ¬ d < 1 := by simpa using h
    rw [tyOk_pos hd1] at fin
    ((conv => (whnf)); (try (refine AnyG.skip ?_; (conv => (whnf)))))
    refine ⟨fun h2 => ?_, fun h2 => ?_⟩
    · ((conv => (whnf)); (try (refine AnyG.skip ?_; (conv => (whnf)))))
      refine endK ⟨[], ⟨rfl, rfl⟩, ?_⟩
      ((conv => (whnf)); (try (refine AnyG.skip ?_; (conv => (whnf)))))
      refine ⟨_, _, Wk.rfl, WkOs.rfl, fin _ ?_⟩
      have : ks = [] := by
        cases ks with
        | nil => rfl
        | cons k ks => simp [Ty.kids] at h2; omega
      subst this
      rfl
    · have hk0 : ks ≠ [] := by rintro rfl; simp [Ty.kids] at h2
      ((conv => (whnf)); (try (refine AnyG.skip ?_; (conv => (whnf)))))
      refine ⟨fun h3 => ?_, fun h3 => ?_⟩
      · obtain ⟨t1, t2, rfl⟩ : ∃ t1 t2, ks = [t1, t2] := by
          match ks, h3 with
          | [], h3 => simp [Ty.kids] at h3
          | [_], h3 => simp [Ty.kids] at h3
          | [t1, t2], _ => exact ⟨t1, t2, rfl⟩
          | _ :: _ :: _ :: _, h3 => simp [Ty.kids] at h3; omega
        ((conv => (whnf)); (try (refine AnyG.skip ?_; (conv => (whnf)))))
        refine ⟨by omega, dTy t1, rfl, ?_⟩
        rw [dTy_eq]
        ((conv => (whnf)); (try (refine AnyG.skip ?_; (conv => (whnf)))))
        refine ⟨lo64 (by omega), hi64 (by omega), ?_⟩
        ((conv => (whnf)); (try (refine AnyG.skip ?_; (conv => (whnf)))))
        refine ⟨_, _, WkL.rfl, WkOs.rfl, t1, d - 1, by omega, by omega, by omega, rfl, rfl, ?_⟩
        ((conv => (whnf)); (try (refine AnyG.skip ?_; (conv => (whnf)))))
        refine ⟨by decide, ?_⟩
        ((conv => (whnf)); (try (refine AnyG.skip ?_; (conv => (whnf)))))
        refine ⟨fun h5 => ?_, fun h5 => ?_⟩
        · ((conv => (whnf)); (try (refine AnyG.skip ?_; (conv => (whnf)))))
          refine ⟨by omega, dTy t2, rfl, ?_⟩
          rw [dTy_eq]
          ((conv => (whnf)); (try (refine AnyG.skip ?_; (conv => (whnf)))))
          refine ⟨lo64 (by omega), hi64 (by omega), ?_⟩
          ((conv => (whnf)); (try (refine AnyG.skip ?_; (conv => (whnf)))))
          refine ⟨_, _, WkL.rfl, WkOs.rfl, t2, d - 1, by omega, by omega, by omega, rfl, rfl, ?_⟩
          ((conv => (whnf)); (try (refine AnyG.skip ?_; (conv => (whnf)))))
          refine ⟨by decide, ?_⟩
          ((conv => (whnf)); (try (refine AnyG.skip ?_; (conv => (whnf)))))
          refine endK ⟨[], ⟨rfl, rfl⟩, ?_⟩
          ((conv => (whnf)); (try (refine AnyG.skip ?_; (conv => (whnf)))))
          refine ⟨_, _, Wk.rfl, WkOs.rfl, fin _ ?_⟩
          show (tyOk (d - 1).toNat t1 && (tyOk (d - 1).toNat t2 && true)) = _
          rw [h5, Bool.and_true]; rfl
        · ((conv => (whnf)); (try (refine AnyG.skip ?_; (conv => (whnf)))))
          refine endK ⟨[], ⟨rfl, rfl⟩, ?_⟩
          ((conv => (whnf)); (try (refine AnyG.skip ?_; (conv => (whnf)))))
          refine ⟨_, _, Wk.rfl, WkOs.rfl, fin _ ?_⟩
          show (tyOk (d - 1).toNat t1 && (tyOk (d - 1).toNat t2 && true)) = _
          rw [h5]; rfl
      · ((conv => (whnf)); (try (refine AnyG.skip ?_; (conv => (whnf)))))
        refine endK ⟨[], ⟨rfl, rfl⟩, ?_⟩
        ((conv => (whnf)); (try (refine AnyG.skip ?_; (conv => (whnf)))))
        refine ⟨_, _, Wk.rfl, WkOs.rfl, fin _ ?_⟩
        have : (ks.length == 0 || ks.length == 2) = false := by
          simp [Ty.kids] at h3 ⊢
          exact ⟨hk0, by omega⟩
        rw [this]; rfl

/-- spec.l1Deep -/
theorem v_s_l1Deep {B : World} : ∀ n, Valid PG B s_l1Deep (S_i_typeFits n) := by
  refine valid_lt (fun args O Q ⟨t, d, h1, h2, _⟩ => by omega) fun n ih => ?_
  refine valid_of (Γ := [(s_l1Deep, ⟨[], S_i_typeFits n⟩)]) wide tok (AllValid.nil.cons ih) g_s_l1Deep rfl rfl ?_
  rintro _ _ Q ⟨⟨ks⟩, d, hd, hd', hn, rfl, rfl, hQ⟩
  have fin : ∀ (b : Bool), tyOk d.toNat (.mk ks) = b → Q (bv b) [] := fun b hb => hb ▸ hQ
  ((conv => (whnf)); (try (refine AnyG.skip ?_; (conv => (whnf)))))
  refine ⟨fun h => ?_, fun h => ?_⟩
  · ((conv => (whnf)); (try (refine AnyG.skip ?_; (conv => (whnf)))))
    refine endK ⟨[], ⟨rfl, rfl⟩, ?_⟩
    ((conv => (whnf)); (try (refine AnyG.skip ?_; (conv => (whnf)))))
    exact ⟨_, _, Wk.rfl, WkOs.rfl, fin _ (tyOk_neg (by simpa using h) _)⟩
  · have hd1 : ¬ d < 1 := by simpa using h
    rw [tyOk_pos hd1] at fin
    ((conv => (whnf)); (try (refine AnyG.skip ?_; (conv => (whnf)))))
    have hlen : (ks.length == 0 || ks.length == 2) = true → ks.length ≤ 2 := fun h => by simp at h; rcases h with h | h <;> simp [h]
    refine ⟨fun h2 => ?_, fun h2 => ?_⟩
    ((conv => (whnf)); (try (refine AnyG.skip ?_; (conv => (whnf)))))
    refine ⟨fun h3 => ?_, fun h3 => ?_⟩
    · ((conv => (whnf)); (try (refine AnyG.skip ?_; (conv => (whnf)))))
      refine endK ⟨[], ⟨rfl, rfl⟩, ?_⟩
      ((conv => (whnf)); (try (refine AnyG.skip ?_; (conv => (whnf)))))
      refine ⟨_, _, Wk.rfl, WkOs.rfl, fin _ ?_⟩
      have : (ks.length == 0 || ks.length == 2) = false := by
        simp [Ty.kids] at h2 h3 ⊢
        exact ⟨h2, by omega⟩
      rw [this]; rfl
    have hk : (ks.length == 0 || ks.length == 2) = true := by
      simp [Ty.kids] at h3 ⊢
      omega
    rotate_left
    have hk : (ks.length == 0 || ks.length == 2) = true := by
      simp [Ty.kids] at h2 ⊢
      exact .inl h2
    all_goals
      rw [hk, Bool.true_and] at fin
      ((conv => (whnf)); (try (refine AnyG.skip ?_; (conv => (whnf)))))
      refine ⟨[], Int, fun i => 0 ≤ i ∧ i ≤ ks.length ∧ (ks.take i.toNat).all (tyOk (d - 1).toNat) = true, fun i => (ks.length - i).toNat, fun i => [(5, iv i)],
        fun _ => [.cells [.d (.sl 1 (ks.map dTy))]], 0, ⟨by omega, by omega, by simp⟩, ?_⟩
      ((conv => (whnf)); (try (refine AnyG.skip ?_; (conv => (whnf)))))
      refine ⟨⟨rfl, rfl, WkOs.rfl, ⟨Wk.rfl, trivial⟩, rfl⟩, ?_⟩
      intro i ⟨hi0, hi1, hi2⟩
      ((conv => (whnf)); (try (refine AnyG.skip ?_; (conv => (whnf)))))
      refine ⟨fun h4 => ?_, fun h4 => ?_⟩
      · simp [Ty.kids] at h4
        have hlt : i.toNat < ks.length := by omega
        ((conv => (whnf)); (try (refine AnyG.skip ?_; (conv => (whnf)))))
        refine ⟨hi0, dTy ks[i.toNat], by simp [Ty.kids, hlt], ?_⟩
        rw [dTy_eq]
        ((conv => (whnf)); (try (refine AnyG.skip ?_; (conv => (whnf)))))
        refine ⟨lo64 (by omega), hi64 (by omega), ?_⟩
        ((conv => (whnf)); (try (refine AnyG.skip ?_; (conv => (whnf)))))
        refine ⟨_, _, WkL.rfl, WkOs.rfl, ks[i.toNat], d - 1, by omega, by omega, by omega, rfl, rfl, ?_⟩
        ((conv => (whnf)); (try (refine AnyG.skip ?_; (conv => (whnf)))))
        refine ⟨by decide, ?_⟩
        ((conv => (whnf)); (try (refine AnyG.skip ?_; (conv => (whnf)))))
        refine ⟨fun h5 => ?_, fun h5 => ?_⟩
        · ((conv => (whnf)); (try (refine AnyG.skip ?_; (conv => (whnf)))))
          refine endK ⟨[], ⟨rfl, rfl⟩, ?_⟩
          ((conv => (whnf)); (try (refine AnyG.skip ?_; (conv => (whnf)))))
          refine ⟨_, _, Wk.rfl, WkOs.rfl, fin _ ?_⟩
          rw [List.all_eq_false]
          exact ⟨ks[i.toNat], List.getElem_mem _, by simpa using h5⟩
        · ((conv => (whnf)); (try (refine AnyG.skip ?_; (conv => (whnf)))))
          refine ⟨lo64 (by omega), hi64 (by have := hlen hk; omega), ?_⟩
          ((conv => (whnf)); (try (refine AnyG.skip ?_; (conv => (whnf)))))
          refine ⟨i + 1, ⟨by omega, by omega, ?_⟩, by dsimp only; omega, [], Meet.mk rfl rfl WkOs.rfl ⟨Wk.rfl, trivial⟩ rfl⟩
          have e : (i + 1).toNat = i.toNat + 1 := by omega
          rw [e, List.take_add_one, List.all_append, hi2]
          simp only [List.getElem?_eq_getElem hlt]
          simpa using h5
      · ((conv => (whnf)); (try (refine AnyG.skip ?_; (conv => (whnf)))))
        refine endK ⟨[], ⟨rfl, rfl⟩, ?_⟩
        ((conv => (whnf)); (try (refine AnyG.skip ?_; (conv => (whnf)))))
        refine ⟨_, _, Wk.rfl, WkOs.rfl, fin _ ?_⟩
        have : i.toNat = ks.length := by simp [Ty.kids] at h4; omega
        rw [this, List.take_length] at hi2
        exact hi2
end Ab
