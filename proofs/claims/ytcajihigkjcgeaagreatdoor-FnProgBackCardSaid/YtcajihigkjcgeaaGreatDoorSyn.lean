/- Programs as plain data, and how they stand in memory. -/
import Derived.Test.YtcajihigkjcgeaaGreatDoorFrB
import Derived.Test.YtcajihigkjcgeaaGreatDoorBase
set_option linter.all false
namespace Ab
open Go Go.Proofs
set_option maxRecDepth 10000
set_option maxHeartbeats 4000000
set_option linter.all false

abbrev Bs := List UInt8
abbrev sv (s : Bs) : AV := .d (.s s)
def dI (n : Int) : List DV := [.i .i64 n]
def dS (s : Bs) : List DV := [.s s]
theorem dI_eq (n : Int) : dI n = [.i .i64 n] := rfl
theorem dS_eq (s : Bs) : dS s = [.s s] := rfl

structure Pl where
  name : Bs
  path : List Int
abbrev cPl (p : Pl) : List DV := [.s p.name, .sl 1 (p.path.map dI)]
def dPl (p : Pl) : List DV := cPl p
theorem dPl_eq (p : Pl) : dPl p = cPl p := rfl
abbrev aPl (p : Pl) : AV := .agg [.d (.s p.name), .d (.sl 1 (p.path.map dI))]

inductive Xp where | mk (kind num : Int) (pl : Pl) (kids : List Xp)
def Xp.kind : Xp → Int | .mk k _ _ _ => k
def Xp.num : Xp → Int | .mk _ n _ _ => n
def Xp.pl : Xp → Pl | .mk _ _ p _ => p
def Xp.kids : Xp → List Xp | .mk _ _ _ ks => ks
def dXp : Xp → List DV | .mk k n p ks => [.i .i64 k, .i .i64 n, .s p.name, .sl 1 (p.path.map dI), .sl 5 (ks.map dXp)]
abbrev cXp (e : Xp) : List DV := [.i .i64 e.kind, .i .i64 e.num, .s e.pl.name, .sl 1 (e.pl.path.map dI), .sl 5 (e.kids.map dXp)]
theorem dXp_eq (e : Xp) : dXp e = cXp e := by cases e; simp [dXp, Xp.kind, Xp.num, Xp.pl, Xp.kids]
abbrev aXp (e : Xp) : AV := .agg [.d (.i .i64 e.kind), .d (.i .i64 e.num), .d (.s e.pl.name), .d (.sl 1 (e.pl.path.map dI)), .d (.sl 5 (e.kids.map dXp))]

structure Ar where
  lent : Bool
  pl : Pl
  ex : Xp
abbrev cAr (a : Ar) : List DV := [.b a.lent, .s a.pl.name, .sl 1 (a.pl.path.map dI), .i .i64 a.ex.kind, .i .i64 a.ex.num, .s a.ex.pl.name, .sl 1 (a.ex.pl.path.map dI), .sl 5 (a.ex.kids.map dXp)]
def dAr (a : Ar) : List DV := cAr a
theorem dAr_eq (a : Ar) : dAr a = cAr a := rfl
abbrev aAr (a : Ar) : AV := .agg [.d (.b a.lent), .d (.s a.pl.name), .d (.sl 1 (a.pl.path.map dI)), .d (.i .i64 a.ex.kind), .d (.i .i64 a.ex.num), .d (.s a.ex.pl.name), .d (.sl 1 (a.ex.pl.path.map dI)), .d (.sl 5 (a.ex.kids.map dXp))]

inductive St where | mk (kind : Int) (name : Bs) (pl other : Pl) (ex : Xp) (fn : Bs) (args : List Ar) (thn els : List St)
def St.kind : St → Int | .mk k _ _ _ _ _ _ _ _ => k
def St.name : St → Bs | .mk _ n _ _ _ _ _ _ _ => n
def St.pl : St → Pl | .mk _ _ p _ _ _ _ _ _ => p
def St.other : St → Pl | .mk _ _ _ o _ _ _ _ _ => o
def St.ex : St → Xp | .mk _ _ _ _ e _ _ _ _ => e
def St.fn : St → Bs | .mk _ _ _ _ _ f _ _ _ => f
def St.args : St → List Ar | .mk _ _ _ _ _ _ a _ _ => a
def St.thn : St → List St | .mk _ _ _ _ _ _ _ t _ => t
def St.els : St → List St | .mk _ _ _ _ _ _ _ _ e => e
def dSt : St → List DV | .mk k n p o e f a t l => [.i .i64 k, .s n, .s p.name, .sl 1 (p.path.map dI), .s o.name, .sl 1 (o.path.map dI),
  .i .i64 e.kind, .i .i64 e.num, .s e.pl.name, .sl 1 (e.pl.path.map dI), .sl 5 (e.kids.map dXp), .s f, .sl 8 (a.map dAr), .sl 15 (t.map dSt), .sl 15 (l.map dSt)]
abbrev cSt (s : St) : List DV := [.i .i64 s.kind, .s s.name, .s s.pl.name, .sl 1 (s.pl.path.map dI), .s s.other.name, .sl 1 (s.other.path.map dI),
  .i .i64 s.ex.kind, .i .i64 s.ex.num, .s s.ex.pl.name, .sl 1 (s.ex.pl.path.map dI), .sl 5 (s.ex.kids.map dXp), .s s.fn, .sl 8 (s.args.map dAr), .sl 15 (s.thn.map dSt), .sl 15 (s.els.map dSt)]
theorem dSt_eq (s : St) : dSt s = cSt s := by cases s; simp [dSt, St.kind, St.name, St.pl, St.other, St.ex, St.fn, St.args, St.thn, St.els]
abbrev aSt (s : St) : AV := .agg [.d (.i .i64 s.kind), .d (.s s.name), .d (.s s.pl.name), .d (.sl 1 (s.pl.path.map dI)), .d (.s s.other.name), .d (.sl 1 (s.other.path.map dI)),
  .d (.i .i64 s.ex.kind), .d (.i .i64 s.ex.num), .d (.s s.ex.pl.name), .d (.sl 1 (s.ex.pl.path.map dI)), .d (.sl 5 (s.ex.kids.map dXp)), .d (.s s.fn), .d (.sl 8 (s.args.map dAr)), .d (.sl 15 (s.thn.map dSt)), .d (.sl 15 (s.els.map dSt))]

structure Pm where
  name : Bs
  lent : Bool
  ty : Ty
abbrev cPm (p : Pm) : List DV := [.s p.name, .b p.lent, .sl 1 (p.ty.kids.map dTy)]
def dPm (p : Pm) : List DV := cPm p
theorem dPm_eq (p : Pm) : dPm p = cPm p := rfl
abbrev aPm (p : Pm) : AV := .agg [.d (.s p.name), .d (.b p.lent), .d (.sl 1 (p.ty.kids.map dTy))]

structure Fd where
  name : Bs
  params : List Pm
  lent : Bool
  ty : Ty
  body : List St
  says : Xp
  gives : Pl
abbrev cFd (f : Fd) : List DV := [.s f.name, .sl 3 (f.params.map dPm), .b f.lent, .sl 1 (f.ty.kids.map dTy), .sl 15 (f.body.map dSt),
  .i .i64 f.says.kind, .i .i64 f.says.num, .s f.says.pl.name, .sl 1 (f.says.pl.path.map dI), .sl 5 (f.says.kids.map dXp), .s f.gives.name, .sl 1 (f.gives.path.map dI)]
def dFd (f : Fd) : List DV := cFd f
theorem dFd_eq (f : Fd) : dFd f = cFd f := rfl
abbrev aFd (f : Fd) : AV := .agg [.d (.s f.name), .d (.sl 3 (f.params.map dPm)), .d (.b f.lent), .d (.sl 1 (f.ty.kids.map dTy)), .d (.sl 15 (f.body.map dSt)),
  .d (.i .i64 f.says.kind), .d (.i .i64 f.says.num), .d (.s f.says.pl.name), .d (.sl 1 (f.says.pl.path.map dI)), .d (.sl 5 (f.says.kids.map dXp)), .d (.s f.gives.name), .d (.sl 1 (f.gives.path.map dI))]
/-- a program -/
abbrev Pr := List Fd
abbrev aPr (p : Pr) : AV := .agg [.d (.sl 12 (p.map dFd))]

/-! ### The reference's checker: its state -/
structure Vr where
  name : Bs
  lent : Bool
  param : Bool
  ty : Ty
  loans : List Pl
  dead : Bool
abbrev cVr (v : Vr) : List DV := [.s v.name, .b v.lent, .b v.param, .sl 1 (v.ty.kids.map dTy), .sl 2 (v.loans.map dPl), .b v.dead]
def dVr (v : Vr) : List DV := cVr v
theorem dVr_eq (v : Vr) : dVr v = cVr v := rfl
abbrev aVr (v : Vr) : AV := .agg [.d (.s v.name), .d (.b v.lent), .d (.b v.param), .d (.sl 1 (v.ty.kids.map dTy)), .d (.sl 2 (v.loans.map dPl)), .d (.b v.dead)]
structure En where
  fns : Pr
  fn : Int
  vars : List Vr
  names : List Bs
  code : Int
/-- the state's objects, when it is handed in -/
abbrev oEn (e : En) : List Obj := [.cells [.d (.sl 12 (e.fns.map dFd)), iv e.fn, .row 1 0, .row 2 0, iv e.code], .row 0 true 6 (e.vars.map dVr), .row 0 true 1 (e.names.map dS)]
/-- and when it is handed back -/
abbrev oEn1 (e : En) : List Obj := [.cells [.d (.sl 12 (e.fns.map dFd)), iv e.fn, .row 1 1, .row 2 1, iv e.code], .row 1 true 6 (e.vars.map dVr), .row 1 true 1 (e.names.map dS)]
end Ab

/- Steps of a contract's script, as laws whose last premise is found by the steps themselves. -/
namespace Ab
open Go Go.Proofs
set_option maxRecDepth 10000
set_option maxHeartbeats 4000000
set_option linter.all false
theorem mkS (l : List UInt8) : ({ data := l.toArray } : ByteArray).data.toList = l := by simp
theorem stG1 {p q : Prop} (k : q) (h : Bx q → p := by
    intro hq
    first
      | (refine rng_i64 (by omega) (by omega) ?_; ((conv => (whnf)); (try (refine AnyG.skip ?_; (conv => (whnf))))))
      | (refine rng_i64 (by dsimp only; omega) (by dsimp only; omega) ?_; ((conv => (whnf)); (try (refine AnyG.skip ?_; (conv => (whnf))))))
      | (refine rng_i64 (by (try simp only [List.length_append, List.length_cons, List.length_nil, List.length_map, List.length_take, List.length_drop, maxRow, byteRows_len, Ty.kids, Ty.kids_mk]); omega) (by (try simp only [List.length_append, List.length_cons, List.length_nil, List.length_map, List.length_take, List.length_drop, maxRow, byteRows_len, Ty.kids, Ty.kids_mk]); omega) ?_; ((conv => (whnf)); (try (refine AnyG.skip ?_; (conv => (whnf))))))
      | (refine Req.mk (Nat.le_of_ble_eq_true rfl) ?_; ((conv => (whnf)); (try (refine AnyG.skip ?_; (conv => (whnf))))))
      | (refine Req.mk (by omega) ?_; ((conv => (whnf)); (try (refine AnyG.skip ?_; (conv => (whnf))))))
      | (refine Req.mk (by (try simp only [List.length_append, List.length_cons, List.length_nil, List.length_map, List.length_take, List.length_drop, maxRow, byteRows_len, Ty.kids, Ty.kids_mk]); omega) ?_; ((conv => (whnf)); (try (refine AnyG.skip ?_; (conv => (whnf))))))
      | (refine rng_u8 (by omega) (by omega) ?_; ((conv => (whnf)); (try (refine AnyG.skip ?_; (conv => (whnf))))))
      | (refine Req.mk (by (((conv => (whnf)); (try (refine AnyG.skip ?_; (conv => (whnf)))))); (repeat (first | (refine rng_i64 (by omega) (by omega) ?_; ((conv => (whnf)); (try (refine AnyG.skip ?_; (conv => (whnf)))))) | (refine rng_i64 (by dsimp only; omega) (by dsimp only; omega) ?_; ((conv => (whnf)); (try (refine AnyG.skip ?_; (conv => (whnf)))))) | (refine rng_i64 (by (try simp only [List.length_append, List.length_cons, List.length_nil, List.length_map, List.length_take, List.length_drop, maxRow, byteRows_len, Ty.kids, Ty.kids_mk]); omega) (by (try simp only [List.length_append, List.length_cons, List.length_nil, List.length_map, List.length_take, List.length_drop, maxRow, byteRows_len, Ty.kids, Ty.kids_mk]); omega) ?_; ((conv => (whnf)); (try (refine AnyG.skip ?_; (conv => (whnf)))))) | (refine Req.mk (Nat.le_of_ble_eq_true rfl) ?_; ((conv => (whnf)); (try (refine AnyG.skip ?_; (conv => (whnf)))))) | (refine Req.mk (by omega) ?_; ((conv => (whnf)); (try (refine AnyG.skip ?_; (conv => (whnf)))))) | (refine Req.mk (by (try simp only [List.length_append, List.length_cons, List.length_nil, List.length_map, List.length_take, List.length_drop, maxRow, byteRows_len, Ty.kids, Ty.kids_mk]); omega) ?_; ((conv => (whnf)); (try (refine AnyG.skip ?_; (conv => (whnf)))))) | (refine rng_u8 (by omega) (by omega) ?_; ((conv => (whnf)); (try (refine AnyG.skip ?_; (conv => (whnf)))))))); exact Wk.rfl) ?_; ((conv => (whnf)); (try (refine AnyG.skip ?_; (conv => (whnf))))))
    exact hq.out) : p := h ⟨k⟩
theorem goG1 {p q : Prop} (k : q) (h : Bx q → p := by
    intro hq
    repeat (first
      | (refine rng_i64 (by omega) (by omega) ?_; ((conv => (whnf)); (try (refine AnyG.skip ?_; (conv => (whnf))))))
      | (refine rng_i64 (by dsimp only; omega) (by dsimp only; omega) ?_; ((conv => (whnf)); (try (refine AnyG.skip ?_; (conv => (whnf))))))
      | (refine rng_i64 (by (try simp only [List.length_append, List.length_cons, List.length_nil, List.length_map, List.length_take, List.length_drop, maxRow, byteRows_len, Ty.kids, Ty.kids_mk]); omega) (by (try simp only [List.length_append, List.length_cons, List.length_nil, List.length_map, List.length_take, List.length_drop, maxRow, byteRows_len, Ty.kids, Ty.kids_mk]); omega) ?_; ((conv => (whnf)); (try (refine AnyG.skip ?_; (conv => (whnf))))))
      | (refine Req.mk (Nat.le_of_ble_eq_true rfl) ?_; ((conv => (whnf)); (try (refine AnyG.skip ?_; (conv => (whnf))))))
      | (refine Req.mk (by omega) ?_; ((conv => (whnf)); (try (refine AnyG.skip ?_; (conv => (whnf))))))
      | (refine Req.mk (by (try simp only [List.length_append, List.length_cons, List.length_nil, List.length_map, List.length_take, List.length_drop, maxRow, byteRows_len, Ty.kids, Ty.kids_mk]); omega) ?_; ((conv => (whnf)); (try (refine AnyG.skip ?_; (conv => (whnf))))))
      | (refine rng_u8 (by omega) (by omega) ?_; ((conv => (whnf)); (try (refine AnyG.skip ?_; (conv => (whnf))))))
      | (refine Req.mk (by (((conv => (whnf)); (try (refine AnyG.skip ?_; (conv => (whnf)))))); (repeat (first | (refine rng_i64 (by omega) (by omega) ?_; ((conv => (whnf)); (try (refine AnyG.skip ?_; (conv => (whnf)))))) | (refine rng_i64 (by dsimp only; omega) (by dsimp only; omega) ?_; ((conv => (whnf)); (try (refine AnyG.skip ?_; (conv => (whnf)))))) | (refine rng_i64 (by (try simp only [List.length_append, List.length_cons, List.length_nil, List.length_map, List.length_take, List.length_drop, maxRow, byteRows_len, Ty.kids, Ty.kids_mk]); omega) (by (try simp only [List.length_append, List.length_cons, List.length_nil, List.length_map, List.length_take, List.length_drop, maxRow, byteRows_len, Ty.kids, Ty.kids_mk]); omega) ?_; ((conv => (whnf)); (try (refine AnyG.skip ?_; (conv => (whnf)))))) | (refine Req.mk (Nat.le_of_ble_eq_true rfl) ?_; ((conv => (whnf)); (try (refine AnyG.skip ?_; (conv => (whnf)))))) | (refine Req.mk (by omega) ?_; ((conv => (whnf)); (try (refine AnyG.skip ?_; (conv => (whnf)))))) | (refine Req.mk (by (try simp only [List.length_append, List.length_cons, List.length_nil, List.length_map, List.length_take, List.length_drop, maxRow, byteRows_len, Ty.kids, Ty.kids_mk]); omega) ?_; ((conv => (whnf)); (try (refine AnyG.skip ?_; (conv => (whnf)))))) | (refine rng_u8 (by omega) (by omega) ?_; ((conv => (whnf)); (try (refine AnyG.skip ?_; (conv => (whnf)))))))); exact Wk.rfl) ?_; ((conv => (whnf)); (try (refine AnyG.skip ?_; (conv => (whnf))))))
      )
    exact hq.out) : p := h ⟨k⟩
theorem agG1 {p q : Prop} (k : q) (h : Bx q → p := by
    intro hq
    repeat (first
      | (refine rng_i64 (by omega) (by omega) ?_; ((conv => (whnf)); (try (refine AnyG.skip ?_; (conv => (whnf))))))
      | (refine rng_i64 (by dsimp only; omega) (by dsimp only; omega) ?_; ((conv => (whnf)); (try (refine AnyG.skip ?_; (conv => (whnf))))))
      | (refine rng_i64 (by (try simp only [List.length_append, List.length_cons, List.length_nil, List.length_map, List.length_take, List.length_drop, maxRow, byteRows_len, Ty.kids, Ty.kids_mk]); omega) (by (try simp only [List.length_append, List.length_cons, List.length_nil, List.length_map, List.length_take, List.length_drop, maxRow, byteRows_len, Ty.kids, Ty.kids_mk]); omega) ?_; ((conv => (whnf)); (try (refine AnyG.skip ?_; (conv => (whnf))))))
      | (refine Req.mk (Nat.le_of_ble_eq_true rfl) ?_; ((conv => (whnf)); (try (refine AnyG.skip ?_; (conv => (whnf))))))
      | (refine Req.mk (by omega) ?_; ((conv => (whnf)); (try (refine AnyG.skip ?_; (conv => (whnf))))))
      | (refine Req.mk (by (try simp only [List.length_append, List.length_cons, List.length_nil, List.length_map, List.length_take, List.length_drop, maxRow, byteRows_len, Ty.kids, Ty.kids_mk]); omega) ?_; ((conv => (whnf)); (try (refine AnyG.skip ?_; (conv => (whnf))))))
      | (refine rng_u8 (by omega) (by omega) ?_; ((conv => (whnf)); (try (refine AnyG.skip ?_; (conv => (whnf))))))
      | (refine Req.mk (by (((conv => (whnf)); (try (refine AnyG.skip ?_; (conv => (whnf)))))); (repeat (first | (refine rng_i64 (by omega) (by omega) ?_; ((conv => (whnf)); (try (refine AnyG.skip ?_; (conv => (whnf)))))) | (refine rng_i64 (by dsimp only; omega) (by dsimp only; omega) ?_; ((conv => (whnf)); (try (refine AnyG.skip ?_; (conv => (whnf)))))) | (refine rng_i64 (by (try simp only [List.length_append, List.length_cons, List.length_nil, List.length_map, List.length_take, List.length_drop, maxRow, byteRows_len, Ty.kids, Ty.kids_mk]); omega) (by (try simp only [List.length_append, List.length_cons, List.length_nil, List.length_map, List.length_take, List.length_drop, maxRow, byteRows_len, Ty.kids, Ty.kids_mk]); omega) ?_; ((conv => (whnf)); (try (refine AnyG.skip ?_; (conv => (whnf)))))) | (refine Req.mk (Nat.le_of_ble_eq_true rfl) ?_; ((conv => (whnf)); (try (refine AnyG.skip ?_; (conv => (whnf)))))) | (refine Req.mk (by omega) ?_; ((conv => (whnf)); (try (refine AnyG.skip ?_; (conv => (whnf)))))) | (refine Req.mk (by (try simp only [List.length_append, List.length_cons, List.length_nil, List.length_map, List.length_take, List.length_drop, maxRow, byteRows_len, Ty.kids, Ty.kids_mk]); omega) ?_; ((conv => (whnf)); (try (refine AnyG.skip ?_; (conv => (whnf)))))) | (refine rng_u8 (by omega) (by omega) ?_; ((conv => (whnf)); (try (refine AnyG.skip ?_; (conv => (whnf)))))))); exact Wk.rfl) ?_; ((conv => (whnf)); (try (refine AnyG.skip ?_; (conv => (whnf))))))
      | (refine Req.mk (by (((conv => (whnf)); (try (refine AnyG.skip ?_; (conv => (whnf)))))); (try (refine Req.mk (by first | omega | assumption | exact ⟨.inl rfl, by simp [maxRow]; omega⟩ | exact ⟨Int.natCast_nonneg _, by assumption⟩) ?_; (((conv => (whnf)); (try (refine AnyG.skip ?_; (conv => (whnf)))))))); (try (refine ⟨_, (by first | assumption | rfl), ?_⟩; (((conv => (whnf)); (try (refine AnyG.skip ?_; (conv => (whnf)))))))); exact Wk.rfl) ?_; ((conv => (whnf)); (try (refine AnyG.skip ?_; (conv => (whnf))))))
      )
    exact hq.out) : p := h ⟨k⟩
theorem brG1 {p c1 c2 q1 q2 : Prop} (k1 : c1 → q1) (k2 : c2 → q2) (h : Bx (c1 → q1) → Bx (c2 → q2) → p := by
    intro f1 f2
    first
      | refine br_dec (fun hb => ?_) (fun hb => ?_)
      | refine br_eq (fun hb => ?_) (fun hb => ?_)
      | refine br_ne (fun hb => ?_) (fun hb => ?_)
      | refine br_neq (fun hb => ?_) (fun hb => ?_)
      | refine br_not (fun hb => ?_) (fun hb => ?_)
      | refine Br.mk (fun hb => ?_) (fun hb => ?_)
    · (try simp only [List.length_append, List.length_cons, List.length_nil, List.length_map, List.length_take, List.length_drop, maxRow, byteRows_len, Ty.kids, Ty.kids_mk] at hb)
      ((conv => (whnf)); (try (refine AnyG.skip ?_; (conv => (whnf)))))
      exact f1.out hb
    · (try simp only [List.length_append, List.length_cons, List.length_nil, List.length_map, List.length_take, List.length_drop, maxRow, byteRows_len, Ty.kids, Ty.kids_mk] at hb)
      ((conv => (whnf)); (try (refine AnyG.skip ?_; (conv => (whnf)))))
      exact f2.out hb) : p := h ⟨k1⟩ ⟨k2⟩
theorem stG2 {p q : Prop} (k : q) (h : Bx q → p := by
    intro hq
    first
      | (refine rng_i64 (by omega) (by omega) ?_; ((conv => (whnf)); (try (refine AnyG.skip ?_; (conv => (whnf))))))
      | (refine rng_i64 (by dsimp only; omega) (by dsimp only; omega) ?_; ((conv => (whnf)); (try (refine AnyG.skip ?_; (conv => (whnf))))))
      | (refine rng_i64 (by (try simp only [List.length_append, List.length_cons, List.length_nil, List.length_map, List.length_take, List.length_drop, maxRow, byteRows_len, Ty.kids, Ty.kids_mk, mkS]); omega) (by (try simp only [List.length_append, List.length_cons, List.length_nil, List.length_map, List.length_take, List.length_drop, maxRow, byteRows_len, Ty.kids, Ty.kids_mk, mkS]); omega) ?_; ((conv => (whnf)); (try (refine AnyG.skip ?_; (conv => (whnf))))))
      | (refine Req.mk (Nat.le_of_ble_eq_true rfl) ?_; ((conv => (whnf)); (try (refine AnyG.skip ?_; (conv => (whnf))))))
      | (refine Req.mk (by omega) ?_; ((conv => (whnf)); (try (refine AnyG.skip ?_; (conv => (whnf))))))
      | (refine Req.mk (by (try simp only [List.length_append, List.length_cons, List.length_nil, List.length_map, List.length_take, List.length_drop, maxRow, byteRows_len, Ty.kids, Ty.kids_mk, mkS]); omega) ?_; ((conv => (whnf)); (try (refine AnyG.skip ?_; (conv => (whnf))))))
      | (refine rng_u8 (by omega) (by omega) ?_; ((conv => (whnf)); (try (refine AnyG.skip ?_; (conv => (whnf))))))
      | (refine Req.mk (by (((conv => (whnf)); (try (refine AnyG.skip ?_; (conv => (whnf)))))); (repeat (first | (refine rng_i64 (by omega) (by omega) ?_; ((conv => (whnf)); (try (refine AnyG.skip ?_; (conv => (whnf)))))) | (refine rng_i64 (by dsimp only; omega) (by dsimp only; omega) ?_; ((conv => (whnf)); (try (refine AnyG.skip ?_; (conv => (whnf)))))) | (refine rng_i64 (by (try simp only [List.length_append, List.length_cons, List.length_nil, List.length_map, List.length_take, List.length_drop, maxRow, byteRows_len, Ty.kids, Ty.kids_mk, mkS]); omega) (by (try simp only [List.length_append, List.length_cons, List.length_nil, List.length_map, List.length_take, List.length_drop, maxRow, byteRows_len, Ty.kids, Ty.kids_mk, mkS]); omega) ?_; ((conv => (whnf)); (try (refine AnyG.skip ?_; (conv => (whnf)))))) | (refine Req.mk (Nat.le_of_ble_eq_true rfl) ?_; ((conv => (whnf)); (try (refine AnyG.skip ?_; (conv => (whnf)))))) | (refine Req.mk (by omega) ?_; ((conv => (whnf)); (try (refine AnyG.skip ?_; (conv => (whnf)))))) | (refine Req.mk (by (try simp only [List.length_append, List.length_cons, List.length_nil, List.length_map, List.length_take, List.length_drop, maxRow, byteRows_len, Ty.kids, Ty.kids_mk, mkS]); omega) ?_; ((conv => (whnf)); (try (refine AnyG.skip ?_; (conv => (whnf)))))) | (refine rng_u8 (by omega) (by omega) ?_; ((conv => (whnf)); (try (refine AnyG.skip ?_; (conv => (whnf)))))))); exact Wk.rfl) ?_; ((conv => (whnf)); (try (refine AnyG.skip ?_; (conv => (whnf))))))
    exact hq.out) : p := h ⟨k⟩
theorem goG2 {p q : Prop} (k : q) (h : Bx q → p := by
    intro hq
    repeat (first
      | (refine rng_i64 (by omega) (by omega) ?_; ((conv => (whnf)); (try (refine AnyG.skip ?_; (conv => (whnf))))))
      | (refine rng_i64 (by dsimp only; omega) (by dsimp only; omega) ?_; ((conv => (whnf)); (try (refine AnyG.skip ?_; (conv => (whnf))))))
      | (refine rng_i64 (by (try simp only [List.length_append, List.length_cons, List.length_nil, List.length_map, List.length_take, List.length_drop, maxRow, byteRows_len, Ty.kids, Ty.kids_mk, mkS]); omega) (by (try simp only [List.length_append, List.length_cons, List.length_nil, List.length_map, List.length_take, List.length_drop, maxRow, byteRows_len, Ty.kids, Ty.kids_mk, mkS]); omega) ?_; ((conv => (whnf)); (try (refine AnyG.skip ?_; (conv => (whnf))))))
      | (refine Req.mk (Nat.le_of_ble_eq_true rfl) ?_; ((conv => (whnf)); (try (refine AnyG.skip ?_; (conv => (whnf))))))
      | (refine Req.mk (by omega) ?_; ((conv => (whnf)); (try (refine AnyG.skip ?_; (conv => (whnf))))))
      | (refine Req.mk (by (try simp only [List.length_append, List.length_cons, List.length_nil, List.length_map, List.length_take, List.length_drop, maxRow, byteRows_len, Ty.kids, Ty.kids_mk, mkS]); omega) ?_; ((conv => (whnf)); (try (refine AnyG.skip ?_; (conv => (whnf))))))
      | (refine rng_u8 (by omega) (by omega) ?_; ((conv => (whnf)); (try (refine AnyG.skip ?_; (conv => (whnf))))))
      | (refine Req.mk (by (((conv => (whnf)); (try (refine AnyG.skip ?_; (conv => (whnf)))))); (repeat (first | (refine rng_i64 (by omega) (by omega) ?_; ((conv => (whnf)); (try (refine AnyG.skip ?_; (conv => (whnf)))))) | (refine rng_i64 (by dsimp only; omega) (by dsimp only; omega) ?_; ((conv => (whnf)); (try (refine AnyG.skip ?_; (conv => (whnf)))))) | (refine rng_i64 (by (try simp only [List.length_append, List.length_cons, List.length_nil, List.length_map, List.length_take, List.length_drop, maxRow, byteRows_len, Ty.kids, Ty.kids_mk, mkS]); omega) (by (try simp only [List.length_append, List.length_cons, List.length_nil, List.length_map, List.length_take, List.length_drop, maxRow, byteRows_len, Ty.kids, Ty.kids_mk, mkS]); omega) ?_; ((conv => (whnf)); (try (refine AnyG.skip ?_; (conv => (whnf)))))) | (refine Req.mk (Nat.le_of_ble_eq_true rfl) ?_; ((conv => (whnf)); (try (refine AnyG.skip ?_; (conv => (whnf)))))) | (refine Req.mk (by omega) ?_; ((conv => (whnf)); (try (refine AnyG.skip ?_; (conv => (whnf)))))) | (refine Req.mk (by (try simp only [List.length_append, List.length_cons, List.length_nil, List.length_map, List.length_take, List.length_drop, maxRow, byteRows_len, Ty.kids, Ty.kids_mk, mkS]); omega) ?_; ((conv => (whnf)); (try (refine AnyG.skip ?_; (conv => (whnf)))))) | (refine rng_u8 (by omega) (by omega) ?_; ((conv => (whnf)); (try (refine AnyG.skip ?_; (conv => (whnf)))))))); exact Wk.rfl) ?_; ((conv => (whnf)); (try (refine AnyG.skip ?_; (conv => (whnf))))))
      )
    exact hq.out) : p := h ⟨k⟩
theorem agG2 {p q : Prop} (k : q) (h : Bx q → p := by
    intro hq
    repeat (first
      | (refine rng_i64 (by omega) (by omega) ?_; ((conv => (whnf)); (try (refine AnyG.skip ?_; (conv => (whnf))))))
      | (refine rng_i64 (by dsimp only; omega) (by dsimp only; omega) ?_; ((conv => (whnf)); (try (refine AnyG.skip ?_; (conv => (whnf))))))
      | (refine rng_i64 (by (try simp only [List.length_append, List.length_cons, List.length_nil, List.length_map, List.length_take, List.length_drop, maxRow, byteRows_len, Ty.kids, Ty.kids_mk, mkS]); omega) (by (try simp only [List.length_append, List.length_cons, List.length_nil, List.length_map, List.length_take, List.length_drop, maxRow, byteRows_len, Ty.kids, Ty.kids_mk, mkS]); omega) ?_; ((conv => (whnf)); (try (refine AnyG.skip ?_; (conv => (whnf))))))
      | (refine Req.mk (Nat.le_of_ble_eq_true rfl) ?_; ((conv => (whnf)); (try (refine AnyG.skip ?_; (conv => (whnf))))))
      | (refine Req.mk (by omega) ?_; ((conv => (whnf)); (try (refine AnyG.skip ?_; (conv => (whnf))))))
      | (refine Req.mk (by (try simp only [List.length_append, List.length_cons, List.length_nil, List.length_map, List.length_take, List.length_drop, maxRow, byteRows_len, Ty.kids, Ty.kids_mk, mkS]); omega) ?_; ((conv => (whnf)); (try (refine AnyG.skip ?_; (conv => (whnf))))))
      | (refine rng_u8 (by omega) (by omega) ?_; ((conv => (whnf)); (try (refine AnyG.skip ?_; (conv => (whnf))))))
      | (refine Req.mk (by (((conv => (whnf)); (try (refine AnyG.skip ?_; (conv => (whnf)))))); (repeat (first | (refine rng_i64 (by omega) (by omega) ?_; ((conv => (whnf)); (try (refine AnyG.skip ?_; (conv => (whnf)))))) | (refine rng_i64 (by dsimp only; omega) (by dsimp only; omega) ?_; ((conv => (whnf)); (try (refine AnyG.skip ?_; (conv => (whnf)))))) | (refine rng_i64 (by (try simp only [List.length_append, List.length_cons, List.length_nil, List.length_map, List.length_take, List.length_drop, maxRow, byteRows_len, Ty.kids, Ty.kids_mk, mkS]); omega) (by (try simp only [List.length_append, List.length_cons, List.length_nil, List.length_map, List.length_take, List.length_drop, maxRow, byteRows_len, Ty.kids, Ty.kids_mk, mkS]); omega) ?_; ((conv => (whnf)); (try (refine AnyG.skip ?_; (conv => (whnf)))))) | (refine Req.mk (Nat.le_of_ble_eq_true rfl) ?_; ((conv => (whnf)); (try (refine AnyG.skip ?_; (conv => (whnf)))))) | (refine Req.mk (by omega) ?_; ((conv => (whnf)); (try (refine AnyG.skip ?_; (conv => (whnf)))))) | (refine Req.mk (by (try simp only [List.length_append, List.length_cons, List.length_nil, List.length_map, List.length_take, List.length_drop, maxRow, byteRows_len, Ty.kids, Ty.kids_mk, mkS]); omega) ?_; ((conv => (whnf)); (try (refine AnyG.skip ?_; (conv => (whnf)))))) | (refine rng_u8 (by omega) (by omega) ?_; ((conv => (whnf)); (try (refine AnyG.skip ?_; (conv => (whnf)))))))); exact Wk.rfl) ?_; ((conv => (whnf)); (try (refine AnyG.skip ?_; (conv => (whnf))))))
      | (refine Req.mk (by (((conv => (whnf)); (try (refine AnyG.skip ?_; (conv => (whnf)))))); (try (refine Req.mk (by first | omega | assumption | exact ⟨.inl rfl, by simp [maxRow]; omega⟩ | exact ⟨Int.natCast_nonneg _, by assumption⟩) ?_; (((conv => (whnf)); (try (refine AnyG.skip ?_; (conv => (whnf)))))))); (try (refine ⟨_, (by first | assumption | rfl), ?_⟩; (((conv => (whnf)); (try (refine AnyG.skip ?_; (conv => (whnf)))))))); exact Wk.rfl) ?_; ((conv => (whnf)); (try (refine AnyG.skip ?_; (conv => (whnf))))))
      )
    exact hq.out) : p := h ⟨k⟩
theorem brG2 {p c1 c2 q1 q2 : Prop} (k1 : c1 → q1) (k2 : c2 → q2) (h : Bx (c1 → q1) → Bx (c2 → q2) → p := by
    intro f1 f2
    first
      | refine br_dec (fun hb => ?_) (fun hb => ?_)
      | refine br_eq (fun hb => ?_) (fun hb => ?_)
      | refine br_ne (fun hb => ?_) (fun hb => ?_)
      | refine br_neq (fun hb => ?_) (fun hb => ?_)
      | refine br_not (fun hb => ?_) (fun hb => ?_)
      | refine Br.mk (fun hb => ?_) (fun hb => ?_)
    · (try simp only [List.length_append, List.length_cons, List.length_nil, List.length_map, List.length_take, List.length_drop, maxRow, byteRows_len, Ty.kids, Ty.kids_mk, mkS] at hb)
      ((conv => (whnf)); (try (refine AnyG.skip ?_; (conv => (whnf)))))
      exact f1.out hb
    · (try simp only [List.length_append, List.length_cons, List.length_nil, List.length_map, List.length_take, List.length_drop, maxRow, byteRows_len, Ty.kids, Ty.kids_mk, mkS] at hb)
      ((conv => (whnf)); (try (refine AnyG.skip ?_; (conv => (whnf)))))
      exact f2.out hb) : p := h ⟨k1⟩ ⟨k2⟩
theorem stG3 {p q : Prop} (k : q) (h : Bx q → p := by
    intro hq
    first
      | (refine rng_i64 (by omega) (by omega) ?_; ((conv => (whnf)); (try (refine AnyG.skip ?_; (conv => (whnf))))))
      | (refine rng_i64 (by dsimp only; omega) (by dsimp only; omega) ?_; ((conv => (whnf)); (try (refine AnyG.skip ?_; (conv => (whnf))))))
      | (refine rng_i64 (by (try simp only [List.length_append, List.length_cons, List.length_nil, List.length_map, List.length_take, List.length_drop, maxRow, byteRows_len, Ty.kids, Ty.kids_mk, mkS, St.name, St.fn, St.pl, St.other, St.ex, St.args]); omega) (by (try simp only [List.length_append, List.length_cons, List.length_nil, List.length_map, List.length_take, List.length_drop, maxRow, byteRows_len, Ty.kids, Ty.kids_mk, mkS, St.name, St.fn, St.pl, St.other, St.ex, St.args]); omega) ?_; ((conv => (whnf)); (try (refine AnyG.skip ?_; (conv => (whnf))))))
      | (refine Req.mk (Nat.le_of_ble_eq_true rfl) ?_; ((conv => (whnf)); (try (refine AnyG.skip ?_; (conv => (whnf))))))
      | (refine Req.mk (by omega) ?_; ((conv => (whnf)); (try (refine AnyG.skip ?_; (conv => (whnf))))))
      | (refine Req.mk (by (try simp only [List.length_append, List.length_cons, List.length_nil, List.length_map, List.length_take, List.length_drop, maxRow, byteRows_len, Ty.kids, Ty.kids_mk, mkS, St.name, St.fn, St.pl, St.other, St.ex, St.args]); omega) ?_; ((conv => (whnf)); (try (refine AnyG.skip ?_; (conv => (whnf))))))
      | (refine rng_u8 (by omega) (by omega) ?_; ((conv => (whnf)); (try (refine AnyG.skip ?_; (conv => (whnf))))))
      | (refine Req.mk (by (((conv => (whnf)); (try (refine AnyG.skip ?_; (conv => (whnf)))))); (repeat (first | (refine rng_i64 (by omega) (by omega) ?_; ((conv => (whnf)); (try (refine AnyG.skip ?_; (conv => (whnf)))))) | (refine rng_i64 (by dsimp only; omega) (by dsimp only; omega) ?_; ((conv => (whnf)); (try (refine AnyG.skip ?_; (conv => (whnf)))))) | (refine rng_i64 (by (try simp only [List.length_append, List.length_cons, List.length_nil, List.length_map, List.length_take, List.length_drop, maxRow, byteRows_len, Ty.kids, Ty.kids_mk, mkS, St.name, St.fn, St.pl, St.other, St.ex, St.args]); omega) (by (try simp only [List.length_append, List.length_cons, List.length_nil, List.length_map, List.length_take, List.length_drop, maxRow, byteRows_len, Ty.kids, Ty.kids_mk, mkS, St.name, St.fn, St.pl, St.other, St.ex, St.args]); omega) ?_; ((conv => (whnf)); (try (refine AnyG.skip ?_; (conv => (whnf)))))) | (refine Req.mk (Nat.le_of_ble_eq_true rfl) ?_; ((conv => (whnf)); (try (refine AnyG.skip ?_; (conv => (whnf)))))) | (refine Req.mk (by omega) ?_; ((conv => (whnf)); (try (refine AnyG.skip ?_; (conv => (whnf)))))) | (refine Req.mk (by (try simp only [List.length_append, List.length_cons, List.length_nil, List.length_map, List.length_take, List.length_drop, maxRow, byteRows_len, Ty.kids, Ty.kids_mk, mkS, St.name, St.fn, St.pl, St.other, St.ex, St.args]); omega) ?_; ((conv => (whnf)); (try (refine AnyG.skip ?_; (conv => (whnf)))))) | (refine rng_u8 (by omega) (by omega) ?_; ((conv => (whnf)); (try (refine AnyG.skip ?_; (conv => (whnf)))))))); exact Wk.rfl) ?_; ((conv => (whnf)); (try (refine AnyG.skip ?_; (conv => (whnf))))))
    exact hq.out) : p := h ⟨k⟩
theorem goG3 {p q : Prop} (k : q) (h : Bx q → p := by
    intro hq
    repeat (first
      | (refine rng_i64 (by omega) (by omega) ?_; ((conv => (whnf)); (try (refine AnyG.skip ?_; (conv => (whnf))))))
      | (refine rng_i64 (by dsimp only; omega) (by dsimp only; omega) ?_; ((conv => (whnf)); (try (refine AnyG.skip ?_; (conv => (whnf))))))
      | (refine rng_i64 (by (try simp only [List.length_append, List.length_cons, List.length_nil, List.length_map, List.length_take, List.length_drop, maxRow, byteRows_len, Ty.kids, Ty.kids_mk, mkS, St.name, St.fn, St.pl, St.other, St.ex, St.args]); omega) (by (try simp only [List.length_append, List.length_cons, List.length_nil, List.length_map, List.length_take, List.length_drop, maxRow, byteRows_len, Ty.kids, Ty.kids_mk, mkS, St.name, St.fn, St.pl, St.other, St.ex, St.args]); omega) ?_; ((conv => (whnf)); (try (refine AnyG.skip ?_; (conv => (whnf))))))
      | (refine Req.mk (Nat.le_of_ble_eq_true rfl) ?_; ((conv => (whnf)); (try (refine AnyG.skip ?_; (conv => (whnf))))))
      | (refine Req.mk (by omega) ?_; ((conv => (whnf)); (try (refine AnyG.skip ?_; (conv => (whnf))))))
      | (refine Req.mk (by (try simp only [List.length_append, List.length_cons, List.length_nil, List.length_map, List.length_take, List.length_drop, maxRow, byteRows_len, Ty.kids, Ty.kids_mk, mkS, St.name, St.fn, St.pl, St.other, St.ex, St.args]); omega) ?_; ((conv => (whnf)); (try (refine AnyG.skip ?_; (conv => (whnf))))))
      | (refine rng_u8 (by omega) (by omega) ?_; ((conv => (whnf)); (try (refine AnyG.skip ?_; (conv => (whnf))))))
      | (refine Req.mk (by (((conv => (whnf)); (try (refine AnyG.skip ?_; (conv => (whnf)))))); (repeat (first | (refine rng_i64 (by omega) (by omega) ?_; ((conv => (whnf)); (try (refine AnyG.skip ?_; (conv => (whnf)))))) | (refine rng_i64 (by dsimp only; omega) (by dsimp only; omega) ?_; ((conv => (whnf)); (try (refine AnyG.skip ?_; (conv => (whnf)))))) | (refine rng_i64 (by (try simp only [List.length_append, List.length_cons, List.length_nil, List.length_map, List.length_take, List.length_drop, maxRow, byteRows_len, Ty.kids, Ty.kids_mk, mkS, St.name, St.fn, St.pl, St.other, St.ex, St.args]); omega) (by (try simp only [List.length_append, List.length_cons, List.length_nil, List.length_map, List.length_take, List.length_drop, maxRow, byteRows_len, Ty.kids, Ty.kids_mk, mkS, St.name, St.fn, St.pl, St.other, St.ex, St.args]); omega) ?_; ((conv => (whnf)); (try (refine AnyG.skip ?_; (conv => (whnf)))))) | (refine Req.mk (Nat.le_of_ble_eq_true rfl) ?_; ((conv => (whnf)); (try (refine AnyG.skip ?_; (conv => (whnf)))))) | (refine Req.mk (by omega) ?_; ((conv => (whnf)); (try (refine AnyG.skip ?_; (conv => (whnf)))))) | (refine Req.mk (by (try simp only [List.length_append, List.length_cons, List.length_nil, List.length_map, List.length_take, List.length_drop, maxRow, byteRows_len, Ty.kids, Ty.kids_mk, mkS, St.name, St.fn, St.pl, St.other, St.ex, St.args]); omega) ?_; ((conv => (whnf)); (try (refine AnyG.skip ?_; (conv => (whnf)))))) | (refine rng_u8 (by omega) (by omega) ?_; ((conv => (whnf)); (try (refine AnyG.skip ?_; (conv => (whnf)))))))); exact Wk.rfl) ?_; ((conv => (whnf)); (try (refine AnyG.skip ?_; (conv => (whnf))))))
      )
    exact hq.out) : p := h ⟨k⟩
theorem agG3 {p q : Prop} (k : q) (h : Bx q → p := by
    intro hq
    repeat (first
      | (refine rng_i64 (by omega) (by omega) ?_; ((conv => (whnf)); (try (refine AnyG.skip ?_; (conv => (whnf))))))
      | (refine rng_i64 (by dsimp only; omega) (by dsimp only; omega) ?_; ((conv => (whnf)); (try (refine AnyG.skip ?_; (conv => (whnf))))))
      | (refine rng_i64 (by (try simp only [List.length_append, List.length_cons, List.length_nil, List.length_map, List.length_take, List.length_drop, maxRow, byteRows_len, Ty.kids, Ty.kids_mk, mkS, St.name, St.fn, St.pl, St.other, St.ex, St.args]); omega) (by (try simp only [List.length_append, List.length_cons, List.length_nil, List.length_map, List.length_take, List.length_drop, maxRow, byteRows_len, Ty.kids, Ty.kids_mk, mkS, St.name, St.fn, St.pl, St.other, St.ex, St.args]); omega) ?_; ((conv => (whnf)); (try (refine AnyG.skip ?_; (conv => (whnf))))))
      | (refine Req.mk (Nat.le_of_ble_eq_true rfl) ?_; ((conv => (whnf)); (try (refine AnyG.skip ?_; (conv => (whnf))))))
      | (refine Req.mk (by omega) ?_; ((conv => (whnf)); (try (refine AnyG.skip ?_; (conv => (whnf))))))
      | (refine Req.mk (by (try simp only [List.length_append, List.length_cons, List.length_nil, List.length_map, List.length_take, List.length_drop, maxRow, byteRows_len, Ty.kids, Ty.kids_mk, mkS, St.name, St.fn, St.pl, St.other, St.ex, St.args]); omega) ?_; ((conv => (whnf)); (try (refine AnyG.skip ?_; (conv => (whnf))))))
      | (refine rng_u8 (by omega) (by omega) ?_; ((conv => (whnf)); (try (refine AnyG.skip ?_; (conv => (whnf))))))
      | (refine Req.mk (by (((conv => (whnf)); (try (refine AnyG.skip ?_; (conv => (whnf)))))); (repeat (first | (refine rng_i64 (by omega) (by omega) ?_; ((conv => (whnf)); (try (refine AnyG.skip ?_; (conv => (whnf)))))) | (refine rng_i64 (by dsimp only; omega) (by dsimp only; omega) ?_; ((conv => (whnf)); (try (refine AnyG.skip ?_; (conv => (whnf)))))) | (refine rng_i64 (by (try simp only [List.length_append, List.length_cons, List.length_nil, List.length_map, List.length_take, List.length_drop, maxRow, byteRows_len, Ty.kids, Ty.kids_mk, mkS, St.name, St.fn, St.pl, St.other, St.ex, St.args]); omega) (by (try simp only [List.length_append, List.length_cons, List.length_nil, List.length_map, List.length_take, List.length_drop, maxRow, byteRows_len, Ty.kids, Ty.kids_mk, mkS, St.name, St.fn, St.pl, St.other, St.ex, St.args]); omega) ?_; ((conv => (whnf)); (try (refine AnyG.skip ?_; (conv => (whnf)))))) | (refine Req.mk (Nat.le_of_ble_eq_true rfl) ?_; ((conv => (whnf)); (try (refine AnyG.skip ?_; (conv => (whnf)))))) | (refine Req.mk (by omega) ?_; ((conv => (whnf)); (try (refine AnyG.skip ?_; (conv => (whnf)))))) | (refine Req.mk (by (try simp only [List.length_append, List.length_cons, List.length_nil, List.length_map, List.length_take, List.length_drop, maxRow, byteRows_len, Ty.kids, Ty.kids_mk, mkS, St.name, St.fn, St.pl, St.other, St.ex, St.args]); omega) ?_; ((conv => (whnf)); (try (refine AnyG.skip ?_; (conv => (whnf)))))) | (refine rng_u8 (by omega) (by omega) ?_; ((conv => (whnf)); (try (refine AnyG.skip ?_; (conv => (whnf)))))))); exact Wk.rfl) ?_; ((conv => (whnf)); (try (refine AnyG.skip ?_; (conv => (whnf))))))
      | (refine Req.mk (by (((conv => (whnf)); (try (refine AnyG.skip ?_; (conv => (whnf)))))); (try (refine Req.mk (by first | omega | assumption | exact ⟨.inl rfl, by simp [maxRow]; omega⟩ | exact ⟨Int.natCast_nonneg _, by assumption⟩) ?_; (((conv => (whnf)); (try (refine AnyG.skip ?_; (conv => (whnf)))))))); (try (refine ⟨_, (by first | assumption | rfl), ?_⟩; (((conv => (whnf)); (try (refine AnyG.skip ?_; (conv => (whnf)))))))); exact Wk.rfl) ?_; ((conv => (whnf)); (try (refine AnyG.skip ?_; (conv => (whnf))))))
      )
    exact hq.out) : p := h ⟨k⟩
theorem brG3 {p c1 c2 q1 q2 : Prop} (k1 : c1 → q1) (k2 : c2 → q2) (h : Bx (c1 → q1) → Bx (c2 → q2) → p := by
    intro f1 f2
    first
      | refine br_dec (fun hb => ?_) (fun hb => ?_)
      | refine br_eq (fun hb => ?_) (fun hb => ?_)
      | refine br_ne (fun hb => ?_) (fun hb => ?_)
      | refine br_neq (fun hb => ?_) (fun hb => ?_)
      | refine br_not (fun hb => ?_) (fun hb => ?_)
      | refine Br.mk (fun hb => ?_) (fun hb => ?_)
    · (try simp only [List.length_append, List.length_cons, List.length_nil, List.length_map, List.length_take, List.length_drop, maxRow, byteRows_len, Ty.kids, Ty.kids_mk, mkS, St.name, St.fn, St.pl, St.other, St.ex, St.args] at hb)
      ((conv => (whnf)); (try (refine AnyG.skip ?_; (conv => (whnf)))))
      exact f1.out hb
    · (try simp only [List.length_append, List.length_cons, List.length_nil, List.length_map, List.length_take, List.length_drop, maxRow, byteRows_len, Ty.kids, Ty.kids_mk, mkS, St.name, St.fn, St.pl, St.other, St.ex, St.args] at hb)
      ((conv => (whnf)); (try (refine AnyG.skip ?_; (conv => (whnf)))))
      exact f2.out hb) : p := h ⟨k1⟩ ⟨k2⟩
end Ab
