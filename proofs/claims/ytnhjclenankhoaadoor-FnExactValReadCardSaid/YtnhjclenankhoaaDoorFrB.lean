/- Contracts of functions of the program, by the frame 'Ab'. -/
import Derived.Test.YtnhjclenankhoaaDoorBase
import Derived.Lib.ItoaNum
set_option linter.all false
namespace Ab
open Go Go.Proofs
set_option maxRecDepth 10000
set_option maxHeartbeats 4000000
set_option linter.unusedSimpArgs false
set_option linter.unusedVariables false

/-- TypeOk, both -/
def STypeOk : Spec := fun args O Q => ∃ (t : Ty), args = [aTy t] ∧ O = [] ∧ Q (bv (tyOk 4 t)) []

theorem v_i_TypeOk {B : World} : Valid PG B i_TypeOk STypeOk := by
  refine valid_of (Γ := [(i_typeFits, ⟨[], S_i_typeFits 10⟩)]) wide tok (AllValid.nil.cons (v_i_typeFits 10)) g_i_TypeOk rfl rfl ?_
  rintro _ _ Q ⟨t, rfl, rfl, hQ⟩
  ((conv => (whnf)); (try (refine AnyG.skip ?_; (conv => (whnf)))))
  refine ⟨_, _, WkL.rfl, WkOs.rfl, t, 4, by omega, by omega, by omega, rfl, rfl, ?_⟩
  ((conv => (whnf)); (try (refine AnyG.skip ?_; (conv => (whnf)))))
  refine ⟨by decide, ?_⟩
  ((conv => (whnf)); (try (refine AnyG.skip ?_; (conv => (whnf)))))
  refine endK ⟨[], ⟨rfl, rfl⟩, ?_⟩
  ((conv => (whnf)); (try (refine AnyG.skip ?_; (conv => (whnf)))))
  exact ⟨_, _, Wk.rfl, WkOs.rfl, hQ⟩

theorem v_s_TypeOk {B : World} : Valid PG B s_TypeOk STypeOk := by
  refine valid_of (Γ := [(s_l1Deep, ⟨[], S_i_typeFits 10⟩)]) wide tok (AllValid.nil.cons (v_s_l1Deep 10)) g_s_TypeOk rfl rfl ?_
  rintro _ _ Q ⟨t, rfl, rfl, hQ⟩
  ((conv => (whnf)); (try (refine AnyG.skip ?_; (conv => (whnf)))))
  refine ⟨_, _, WkL.rfl, WkOs.rfl, t, 4, by omega, by omega, by omega, rfl, rfl, ?_⟩
  ((conv => (whnf)); (try (refine AnyG.skip ?_; (conv => (whnf)))))
  refine ⟨by decide, ?_⟩
  ((conv => (whnf)); (try (refine AnyG.skip ?_; (conv => (whnf)))))
  refine endK ⟨[], ⟨rfl, rfl⟩, ?_⟩
  ((conv => (whnf)); (try (refine AnyG.skip ?_; (conv => (whnf)))))
  exact ⟨_, _, Wk.rfl, WkOs.rfl, hQ⟩

/-! ### The drawing of inputs -/
def aBs (l : List UInt8) : DV := .sl 1 (byteRows l)
def oRd (l : List UInt8) (p : Int) : Obj := .cells [.d (.sl 1 (byteRows l)), iv p]

theorem byteRows_get : ∀ (l : List UInt8) (i : Nat), (byteRows l)[i]? = (l[i]?).map fun c => [.i .u8 c.toNat]
  | [], i => by simp [byteRows]
  | c :: l, 0 => by simp [byteRows]
  | c :: l, i + 1 => by simpa [byteRows] using byteRows_get l i
theorem byteRows_take : ∀ (l : List UInt8) (n : Nat), (byteRows l).take n = byteRows (l.take n)
  | [], n => by simp [byteRows]
  | c :: l, 0 => by simp [byteRows]
  | c :: l, n + 1 => by simp [byteRows, byteRows_take l n]

def SOpen : Spec := fun args O Q => ∃ (l : List UInt8), args = [.d (.sl 1 (byteRows l))] ∧ O = [] ∧ Q (.ptr 0 0) [oRd (l.take 2000) 0]

theorem v_s_l6Open {B : World} : Valid PG B s_l6Open SOpen := by
  refine valid_of (Γ := []) wide tok AllValid.nil g_s_l6Open rfl rfl ?_
  rintro _ _ Q ⟨l, rfl, rfl, hQ⟩
  ((conv => (whnf)); (try (refine AnyG.skip ?_; (conv => (whnf)))))
  refine ⟨fun h => ?_, fun h => ?_⟩
  · simp [byteRows_len] at h
    ((conv => (whnf)); (try (refine AnyG.skip ?_; (conv => (whnf)))))
    refine ⟨by simp [byteRows_len]; omega, ?_⟩
    ((conv => (whnf)); (try (refine AnyG.skip ?_; (conv => (whnf)))))
    refine endK ⟨[0], ⟨rfl, rfl⟩, ?_⟩
    ((conv => (whnf)); (try (refine AnyG.skip ?_; (conv => (whnf)))))
    refine ⟨_, _, Wk.rfl, WkOs.of_eq ?_, hQ⟩
    have e : ((byteRows l).take (Int.toNat 2000)).drop 0 = byteRows (l.take 2000) := by
      rw [List.drop_zero]; exact byteRows_take l 2000
    rw [e]; rfl
  · simp [byteRows_len] at h
    ((conv => (whnf)); (try (refine AnyG.skip ?_; (conv => (whnf)))))
    refine endK ⟨[0], ⟨rfl, rfl⟩, ?_⟩
    ((conv => (whnf)); (try (refine AnyG.skip ?_; (conv => (whnf)))))
    refine ⟨_, _, Wk.rfl, WkOs.rfl, ?_⟩
    rw [List.take_of_length_le (by omega)] at hQ
    exact hQ

theorem byte_at (l : List UInt8) (i : Int) (h0 : 0 ≤ i) (h : i < l.length) : ∃ c : Nat, c < 256 ∧ (byteRows l)[i.toNat]? = some [.i .u8 (c : Int)] := by
  have hlt : i.toNat < l.length := by omega
  exact ⟨(l[i.toNat]).toNat, (l[i.toNat]).toNat_lt, by simp [byteRows_get, hlt]⟩

theorem tmod_in {a b : Int} (ha : 0 ≤ a) (hb : 0 < b) : 0 ≤ a.tmod b ∧ a.tmod b < b := ⟨Int.tmod_nonneg _ ha, Int.tmod_lt_of_pos _ hb⟩
theorem tdiv_in {a b : Int} (ha : 0 ≤ a) (hb : 0 < b) : 0 ≤ a.tdiv b ∧ a.tdiv b ≤ a := by
  rw [Int.tdiv_eq_ediv_of_nonneg ha]
  exact ⟨Int.ediv_nonneg ha (by omega), Int.ediv_le_self _ ha⟩
theorem xor_in {a b : Int} (ha : 0 ≤ a) (hb : 0 ≤ b) (ha' : a < 9223372036854775808) (hb' : b < 9223372036854775808) : 0 ≤ bitsOp .xor .i64 a b := by
  have key : ∀ x : Int, 0 ≤ x → x < 9223372036854775808 → (BitVec.ofInt IntKind.i64.bits x).toNat < 2 ^ 63 := by
    intro x h0 h1
    have : IntKind.i64.bits = 64 := rfl
    rw [this, BitVec.toNat_ofInt]
    have : x % (2 ^ 64 : Nat) = x := Int.emod_eq_of_lt h0 (by omega)
    rw [this]; omega
  have h := Nat.xor_lt_two_pow (key a ha ha') (key b hb hb')
  simp only [bitsOp]
  have e : ((BitVec.ofInt IntKind.i64.bits a) ^^^ (BitVec.ofInt IntKind.i64.bits b)).toNat = (BitVec.ofInt IntKind.i64.bits a).toNat ^^^ (BitVec.ofInt IntKind.i64.bits b).toNat := BitVec.toNat_xor _ _
  rw [e]
  generalize (BitVec.ofInt IntKind.i64.bits a).toNat ^^^ (BitVec.ofInt IntKind.i64.bits b).toNat = n at h
  rw [wrap_in (lo64 (by omega)) (hi64 (by omega))]
  omega

/-- (*l6Rd).pick -/
def S_s_l6Rd_pick : Spec := fun args O Q => ∃ (l : List UInt8) (p n : Int), l.length ≤ 2000 ∧ 0 ≤ p ∧ p ≤ 1000000000 ∧ n ≤ 1000000000 ∧ args = [.ptr 0 0, iv n] ∧ O = [oRd l p] ∧
  ∀ k : Int, (n < 1 → k = 0) → (1 ≤ n → 0 ≤ k ∧ k < n) → Q (iv k) [oRd l (p + 1)]

theorem v_s_l6Rd_pick {B : World} : Valid PG B s_l6Rd_pick S_s_l6Rd_pick := by
  refine valid_of (Γ := []) wide tok AllValid.nil g_s_l6Rd_pick rfl rfl ?_
  rintro _ _ Q ⟨l, p, n, hl, hp0, hp1, hn, rfl, rfl, hQ⟩
  ((conv => (whnf)); (try (refine AnyG.skip ?_; (conv => (whnf)))))
  refine ⟨lo64 (by omega), hi64 (by omega), ?_⟩
  ((conv => (whnf)); (try (refine AnyG.skip ?_; (conv => (whnf)))))
  refine ⟨fun h => ?_, fun h => ?_⟩
  · ((conv => (whnf)); (try (refine AnyG.skip ?_; (conv => (whnf)))))
    refine endK ⟨[], ⟨rfl, rfl⟩, ?_⟩
    ((conv => (whnf)); (try (refine AnyG.skip ?_; (conv => (whnf)))))
    exact ⟨_, _, Wk.rfl, WkOs.rfl, hQ 0 (fun _ => rfl) (fun h' => by simp at h; omega)⟩
  · have hn1 : 1 ≤ n := by simpa using h
    ((conv => (whnf)); (try (refine AnyG.skip ?_; (conv => (whnf)))))
    refine ⟨fun h2 => ?_, fun h2 => ?_⟩
    · ((conv => (whnf)); (try (refine AnyG.skip ?_; (conv => (whnf)))))
      refine endK ⟨[], ⟨rfl, rfl⟩, ?_⟩
      ((conv => (whnf)); (try (refine AnyG.skip ?_; (conv => (whnf)))))
      exact ⟨_, _, Wk.rfl, WkOs.rfl, hQ 0 (fun _ => rfl) (fun _ => ⟨by omega, by omega⟩)⟩
    · have hl1 : l ≠ [] := by rintro rfl; simp [byteRows] at h2
      have hlen : 0 < l.length := List.length_pos_iff.2 hl1
      ((conv => (whnf)); (try (refine AnyG.skip ?_; (conv => (whnf)))))
      refine ⟨lo64 (by omega), hi64 (by omega), ?_⟩
      ((conv => (whnf)); (try (refine AnyG.skip ?_; (conv => (whnf)))))
      have hpp : p + 1 - 1 = p := by omega
      rw [hpp]
      have fin : ∀ k : Int, 0 ≤ k → k < n → Q (iv k) [oRd l (p + 1)] := fun k h1 h2 => hQ k (fun h => by omega) (fun _ => ⟨h1, h2⟩)
      refine ⟨fun h3 => ?_, fun h3 => ?_⟩
      · have hlt : p.toNat < l.length := by
          simp [byteRows_len] at h3; omega
        ((conv => (whnf)); (try (refine AnyG.skip ?_; (conv => (whnf)))))
        refine ⟨hp0, [.i .u8 (l[p.toNat]).toNat], by simp [byteRows_get, hlt], ?_⟩
        have hc := (l[p.toNat]).toNat_lt
        generalize (l[p.toNat]).toNat = c at hc
        ((conv => (whnf)); (try (refine AnyG.skip ?_; (conv => (whnf)))))
        refine ⟨lo64 (by omega), hi64 (by omega), ?_⟩
        ((conv => (whnf)); (try (refine AnyG.skip ?_; (conv => (whnf)))))
        refine ⟨by omega, ?_⟩
        ((conv => (whnf)); (try (refine AnyG.skip ?_; (conv => (whnf)))))
        refine endK ⟨[], ⟨rfl, rfl⟩, ?_⟩
        ((conv => (whnf)); (try (refine AnyG.skip ?_; (conv => (whnf)))))
        exact ⟨_, _, Wk.rfl, WkOs.rfl, fin _ (Int.tmod_nonneg _ (by omega)) (Int.tmod_lt_of_pos _ (by omega))⟩
      · have hbl : ((byteRows l).length : Int) = l.length := by rw [byteRows_len]
        ((conv => (whnf)); (try (refine AnyG.skip ?_; (conv => (whnf)))))
        rw [hbl]
        obtain ⟨a1, a2⟩ := tmod_in (a := p) (b := l.length) hp0 (by omega)
        generalize p.tmod l.length = k1 at a1 a2
        refine ⟨by omega, ?_⟩
        ((conv => (whnf)); (try (refine AnyG.skip ?_; (conv => (whnf)))))
        obtain ⟨c1, b1, b2⟩ := byte_at l k1 a1 a2
        refine ⟨a1, _, b2, ?_⟩
        ((conv => (whnf)); (try (refine AnyG.skip ?_; (conv => (whnf)))))
        refine ⟨lo64 (by omega), hi64 (by omega), ?_⟩
        ((conv => (whnf)); (try (refine AnyG.skip ?_; (conv => (whnf)))))
        refine ⟨lo64 (by omega), hi64 (by omega), ?_⟩
        ((conv => (whnf)); (try (refine AnyG.skip ?_; (conv => (whnf)))))
        refine ⟨lo64 (by omega), hi64 (by omega), ?_⟩
        ((conv => (whnf)); (try (refine AnyG.skip ?_; (conv => (whnf)))))
        refine ⟨lo64 (by omega), hi64 (by omega), ?_⟩
        ((conv => (whnf)); (try (refine AnyG.skip ?_; (conv => (whnf)))))
        rw [hbl]
        obtain ⟨a3, a4⟩ := tmod_in (a := p * 7 + 3) (b := l.length) (by omega) (by omega)
        generalize (p * 7 + 3).tmod l.length = k2 at a3 a4
        refine ⟨by omega, ?_⟩
        ((conv => (whnf)); (try (refine AnyG.skip ?_; (conv => (whnf)))))
        obtain ⟨c2, b3, b4⟩ := byte_at l k2 a3 a4
        refine ⟨a3, _, b4, ?_⟩
        ((conv => (whnf)); (try (refine AnyG.skip ?_; (conv => (whnf)))))
        refine ⟨lo64 (by omega), hi64 (by omega), ?_⟩
        ((conv => (whnf)); (try (refine AnyG.skip ?_; (conv => (whnf)))))
        refine ⟨lo64 (by omega), hi64 (by omega), ?_⟩
        ((conv => (whnf)); (try (refine AnyG.skip ?_; (conv => (whnf)))))
        refine ⟨lo64 (by omega), hi64 (by omega), ?_⟩
        ((conv => (whnf)); (try (refine AnyG.skip ?_; (conv => (whnf)))))
        refine ⟨lo64 (by omega), hi64 (by omega), ?_⟩
        ((conv => (whnf)); (try (refine AnyG.skip ?_; (conv => (whnf)))))
        refine ⟨lo64 (by omega), hi64 (by omega), ?_⟩
        ((conv => (whnf)); (try (refine AnyG.skip ?_; (conv => (whnf)))))
        rw [hbl]
        obtain ⟨a5, a6⟩ := tdiv_in (a := p) (b := l.length) hp0 (by omega)
        generalize p.tdiv l.length = k3 at a5 a6
        refine ⟨by omega, lo64 (by omega), hi64 (by omega), ?_⟩
        ((conv => (whnf)); (try (refine AnyG.skip ?_; (conv => (whnf)))))
        refine ⟨lo64 (by omega), hi64 (by omega), ?_⟩
        ((conv => (whnf)); (try (refine AnyG.skip ?_; (conv => (whnf)))))
        refine ⟨lo64 (by omega), hi64 (by omega), ?_⟩
        ((conv => (whnf)); (try (refine AnyG.skip ?_; (conv => (whnf)))))
        have hx0 : 0 ≤ (c1 : Int) * 131 + (c2 : Int) * 1117 + p * 29 + k3 * 53 := by omega
        have hx1 : (c1 : Int) * 131 + (c2 : Int) * 1117 + p * 29 + k3 * 53 < 1000000000000 := by omega
        generalize (c1 : Int) * 131 + (c2 : Int) * 1117 + p * 29 + k3 * 53 = x at hx0 hx1
        obtain ⟨a7, a8⟩ := tdiv_in (a := x) (b := 64) hx0 (by omega)
        refine ⟨by omega, lo64 (by omega), hi64 (by omega), ?_⟩
        ((conv => (whnf)); (try (refine AnyG.skip ?_; (conv => (whnf)))))
        have hz := xor_in hx0 a7 (by omega) (by omega)
        generalize bitsOp .xor .i64 x (x.tdiv 64) = z at hz
        refine ⟨by omega, ?_⟩
        ((conv => (whnf)); (try (refine AnyG.skip ?_; (conv => (whnf)))))
        refine endK ⟨[], ⟨rfl, rfl⟩, ?_⟩
        ((conv => (whnf)); (try (refine AnyG.skip ?_; (conv => (whnf)))))
        obtain ⟨q1, q2⟩ := tmod_in (a := z) (b := n) hz (by omega)
        exact ⟨_, _, Wk.rfl, WkOs.rfl, fin _ q1 q2⟩
end Ab

namespace Ab
open Go Go.Proofs
set_option maxRecDepth 10000
set_option maxHeartbeats 4000000
set_option linter.unusedSimpArgs false
set_option linter.unusedVariables false

def Bd : Nat → Int
  | 0 => 1
  | n + 1 => 2 * Bd n + 1
theorem Bd_pos : ∀ n, 1 ≤ Bd n
  | 0 => by simp [Bd]
  | n + 1 => by have := Bd_pos n; simp only [Bd]; omega

theorem wk_fTy (t : Ty) : DWL [.sf 1 (t.kids.map dTy)] (dTy t) := by
  rw [dTy_eq]; exact DWL.cons DW.sf DWL.nil

theorem wk_nil : DWL [.v (.slice none 0 0)] (dTy (.mk [])) := by
  rw [dTy_eq]; exact DWL.cons (DW.nil 1) DWL.nil
theorem Ty.kids_mk (ks : List Ty) : (Ty.mk ks).kids = ks := rfl

/-- spec.l71Type -/
def S_s_l71Type (n : Nat) : Spec := fun args O Q => ∃ (l : List UInt8) (p d : Int), l.length ≤ 2000 ∧ 0 ≤ p ∧ p + Bd n ≤ 1000000000 ∧ 1 ≤ d ∧ d < n ∧ n ≤ 20 ∧ args = [.ptr 0 0, iv d] ∧ O = [oRd l p] ∧
  ∀ (t : Ty) (p' : Int), tyOk d.toNat t = true → p ≤ p' → p' ≤ p + Bd n → Q (fTy t) [oRd l p']

theorem v_s_l71Type {B : World} : ∀ n, Valid PG B s_l71Type (S_s_l71Type n) := by
  refine valid_lt (fun args O Q ⟨l, p, d, _, _, _, h1, h2, _⟩ => by omega) fun n ih => ?_
  refine valid_of (Γ := [(s_l71Type, ⟨[], S_s_l71Type n⟩), (s_l6Rd_pick, ⟨[], S_s_l6Rd_pick⟩)]) wide tok ((AllValid.nil.cons v_s_l6Rd_pick).cons ih) g_s_l71Type rfl rfl ?_
  rintro _ _ Q ⟨l, p, d, hl, hp, hB, hd, hd', hn, rfl, rfl, hQ⟩
  have hb := Bd_pos n
  have hb1 : Bd (n + 1) = 2 * Bd n + 1 := rfl
  have nil : tyOk d.toNat (.mk []) = true := by
    obtain ⟨m, hm⟩ : ∃ m, d.toNat = m + 1 := ⟨d.toNat - 1, by omega⟩
    rw [hm]; simp [tyOk]
  ((conv => (whnf)); (try (refine AnyG.skip ?_; (conv => (whnf)))))
  refine ⟨fun h => ?_, fun h => ?_⟩
  · ((conv => (whnf)); (try (refine AnyG.skip ?_; (conv => (whnf)))))
    refine endK ⟨[], ⟨rfl, rfl⟩, ?_⟩
    ((conv => (whnf)); (try (refine AnyG.skip ?_; (conv => (whnf)))))
    refine ⟨_, _, Wk.agg (WkL.cons (Wk.d (DW.nilf 1)) WkL.nil), WkOs.rfl, hQ (.mk []) p nil (by omega) (by omega)⟩
  · have hd2 : ¬ d < 2 := by simpa using h
    ((conv => (whnf)); (try (refine AnyG.skip ?_; (conv => (whnf)))))
    refine ⟨_, _, WkL.rfl, WkOs.rfl, l, p, 3, hl, hp, by omega, by omega, rfl, rfl, ?_⟩
    intro k hk1 hk2
    obtain ⟨hk3, hk4⟩ := hk2 (by omega)
    ((conv => (whnf)); (try (refine AnyG.skip ?_; (conv => (whnf)))))
    refine ⟨Nat.le_of_ble_eq_true rfl, ?_⟩
    ((conv => (whnf)); (try (refine AnyG.skip ?_; (conv => (whnf)))))
    refine ⟨fun h2 => ?_, fun h2 => ?_⟩
    · ((conv => (whnf)); (try (refine AnyG.skip ?_; (conv => (whnf)))))
      refine endK ⟨[], ⟨rfl, rfl⟩, ?_⟩
      ((conv => (whnf)); (try (refine AnyG.skip ?_; (conv => (whnf)))))
      refine ⟨_, _, Wk.agg (WkL.cons (Wk.d (DW.nilf 1)) WkL.nil), WkOs.rfl, hQ (.mk []) (p + 1) nil (by omega) (by omega)⟩
    · ((conv => (whnf)); (try (refine AnyG.skip ?_; (conv => (whnf)))))
      refine ⟨lo64 (by omega), hi64 (by omega), ?_⟩
      ((conv => (whnf)); (try (refine AnyG.skip ?_; (conv => (whnf)))))
      refine ⟨_, _, WkL.rfl, WkOs.rfl, l, p + 1, d - 1, hl, by omega, by omega, by omega, by omega, by omega, rfl, rfl, ?_⟩
      intro t1 p1 e1 e2 e3
      ((conv => (whnf)); (try (refine AnyG.skip ?_; (conv => (whnf)))))
      refine ⟨Nat.le_of_ble_eq_true rfl, ?_⟩
      ((conv => (whnf)); (try (refine AnyG.skip ?_; (conv => (whnf)))))
      refine ⟨lo64 (by omega), hi64 (by omega), ?_⟩
      ((conv => (whnf)); (try (refine AnyG.skip ?_; (conv => (whnf)))))
      refine ⟨_, _, WkL.rfl, WkOs.rfl, l, p1, d - 1, hl, by omega, by omega, by omega, by omega, by omega, rfl, rfl, ?_⟩
      intro t2 p2 e4 e5 e6
      ((conv => (whnf)); (try (refine AnyG.skip ?_; (conv => (whnf)))))
      refine ⟨Nat.le_of_ble_eq_true rfl, ?_⟩
      ((conv => (whnf)); (try (refine AnyG.skip ?_; (conv => (whnf)))))
      left
      ((conv => (whnf)); (try (refine AnyG.skip ?_; (conv => (whnf)))))
      refine endK ⟨[], ⟨rfl, rfl⟩, ?_⟩
      ((conv => (whnf)); (try (refine AnyG.skip ?_; (conv => (whnf)))))
      have e : d.toNat = (d - 1).toNat + 1 := by omega
      refine ⟨_, _, Wk.agg (WkL.cons (Wk.d (DW.sff ?_)) WkL.nil), WkOs.rfl, hQ (.mk [t1, t2]) p2 (by rw [e]; simp only [tyOk, List.all_cons, List.all_nil, e1, e4]; rfl) (by omega) (by omega)⟩
      exact ⟨by rw [dTy_eq]; rfl, wk_fTy t1, by rw [dTy_eq]; rfl, wk_fTy t2, trivial⟩

theorem tyOk_len {m : Nat} {t : Ty} (h : tyOk m t = true) : t.kids.length ≤ 2 := by
  cases t with
  | mk ks =>
    cases m with
    | zero => simp [tyOk] at h
    | succ m =>
      simp only [tyOk, Bool.and_eq_true, Bool.or_eq_true, beq_iff_eq] at h
      simp only [Ty.kids]
      rcases h.1 with h | h <;> omega

/-- spec.l71Deep -/
def S_s_l71Deep : Spec := fun args O Q => ∃ (l : List UInt8), l.length ≤ 2000 ∧ args = [.ptr 0 0] ∧ O = [oRd l 0] ∧
  ∀ (t : Ty) (p' : Int), t.kids.length ≤ 3 → Q (aTy t) [oRd l p']

theorem v_s_l71Deep {B : World} : Valid PG B s_l71Deep S_s_l71Deep := by
  refine valid_of (Γ := [(s_l71Type, ⟨[], S_s_l71Type 10⟩), (s_l6Rd_pick, ⟨[], S_s_l6Rd_pick⟩)]) wide tok ((AllValid.nil.cons v_s_l6Rd_pick).cons (v_s_l71Type 10)) g_s_l71Deep rfl rfl ?_
  rintro _ _ Q ⟨l, hl, rfl, rfl, hQ⟩
  have hB : Bd 10 = 2047 := by decide
  ((conv => (whnf)); (try (refine AnyG.skip ?_; (conv => (whnf)))))
  refine ⟨_, _, WkL.rfl, WkOs.rfl, l, 0, 4, hl, by omega, by omega, by omega, rfl, rfl, ?_⟩
  intro k _ hk
  obtain ⟨hk1, hk2⟩ := hk (by omega)
  ((conv => (whnf)); (try (refine AnyG.skip ?_; (conv => (whnf)))))
  refine ⟨Nat.le_of_ble_eq_true rfl, ?_⟩
  ((conv => (whnf)); (try (refine AnyG.skip ?_; (conv => (whnf)))))
  refine ⟨lo64 (by omega), hi64 (by omega), ?_⟩
  ((conv => (whnf)); (try (refine AnyG.skip ?_; (conv => (whnf)))))
  refine ⟨_, _, WkL.rfl, WkOs.rfl, l, 1, 1 + k, hl, by omega, by omega, by omega, by omega, by omega, rfl, rfl, ?_⟩
  intro t p1 ht0 e1 e2
  have ht := tyOk_len ht0
  ((conv => (whnf)); (try (refine AnyG.skip ?_; (conv => (whnf)))))
  refine ⟨Nat.le_of_ble_eq_true rfl, ?_⟩
  ((conv => (whnf)); (try (refine AnyG.skip ?_; (conv => (whnf)))))
  refine ⟨_, _, WkL.rfl, WkOs.rfl, l, p1, 12, hl, by omega, by omega, by omega, rfl, rfl, ?_⟩
  intro k2 _ hk2
  ((conv => (whnf)); (try (refine AnyG.skip ?_; (conv => (whnf)))))
  refine ⟨Nat.le_of_ble_eq_true rfl, ?_⟩
  ((conv => (whnf)); (try (refine AnyG.skip ?_; (conv => (whnf)))))
  refine ⟨fun h => ?_, fun h => ?_⟩
  · ((conv => (whnf)); (try (refine AnyG.skip ?_; (conv => (whnf)))))
    refine ⟨[], Ty × Int, fun x => 0 ≤ x.2 ∧ x.2 ≤ 5 ∧ x.1.kids.length ≤ 2, fun x => (5 - x.2).toNat, fun x => [(4, iv x.2)],
      fun x => [oRd l (p1 + 1), .cells [.d (.v (.slice none 0 0))], .cells [.d (.sf 1 (x.1.kids.map dTy))]], (t, 0), ⟨by dsimp only; omega, by dsimp only; omega, ht⟩, ?_⟩
    ((conv => (whnf)); (try (refine AnyG.skip ?_; (conv => (whnf)))))
    refine ⟨⟨rfl, rfl, WkOs.rfl, ⟨Wk.rfl, trivial⟩, rfl⟩, ?_⟩
    rintro ⟨t, i⟩ ⟨hi0, hi1, ht⟩
    ((conv => (whnf)); (try (refine AnyG.skip ?_; (conv => (whnf)))))
    refine ⟨fun h4 => ?_, fun h4 => ?_⟩
    · ((conv => (whnf)); (try (refine AnyG.skip ?_; (conv => (whnf)))))
      left
      ((conv => (whnf)); (try (refine AnyG.skip ?_; (conv => (whnf)))))
      refine ⟨lo64 (by dsimp only at hi0; omega), hi64 (by dsimp only at hi1; omega), ?_⟩
      ((conv => (whnf)); (try (refine AnyG.skip ?_; (conv => (whnf)))))
      refine ⟨(.mk [t, .mk []], i + 1), ⟨?_, ?_, by simp [Ty.kids]⟩, ?_, [], Meet.mk rfl rfl ?_ ⟨Wk.rfl, trivial⟩ rfl⟩
      · dsimp only at hi0 ⊢; omega
      · simp at h4 ⊢; omega
      · simp at h4 ⊢; omega
      · refine ⟨WkO.rfl, WkO.rfl, .inr (WkL.cons (Wk.d (DW.sff ?_)) WkL.nil), trivial⟩
        exact ⟨by rw [dTy_eq]; rfl, wk_fTy t, by rw [dTy_eq]; rfl, wk_nil, trivial⟩
    · ((conv => (whnf)); (try (refine AnyG.skip ?_; (conv => (whnf)))))
      refine endK ⟨[], ⟨rfl, rfl⟩, ?_⟩
      ((conv => (whnf)); (try (refine AnyG.skip ?_; (conv => (whnf)))))
      exact ⟨_, _, Wk.agg (WkL.cons (Wk.d DW.sf) WkL.nil), WkOs.rfl, hQ t (p1 + 1) (by dsimp only at ht; omega)⟩
  · ((conv => (whnf)); (try (refine AnyG.skip ?_; (conv => (whnf)))))
    refine ⟨fun h => ?_, fun h => ?_⟩
    · ((conv => (whnf)); (try (refine AnyG.skip ?_; (conv => (whnf)))))
      left
      ((conv => (whnf)); (try (refine AnyG.skip ?_; (conv => (whnf)))))
      refine ⟨⟨.inr (by decide), ?_⟩, ?_⟩
      · simp [maxRow]; omega
      ((conv => (whnf)); (try (refine AnyG.skip ?_; (conv => (whnf)))))
      refine endK ⟨[], ⟨rfl, rfl⟩, ?_⟩
      ((conv => (whnf)); (try (refine AnyG.skip ?_; (conv => (whnf)))))
      refine ⟨_, _, Wk.agg (WkL.cons (Wk.d (DW.sl ?_)) WkL.nil), WkOs.rfl, hQ (.mk (t.kids ++ [.mk []])) (p1 + 1) (by rw [Ty.kids_mk]; simp; omega)⟩
      rw [Ty.kids_mk, List.map_append]
      exact DWRows.app DWRows.rfl ⟨by rw [dTy_eq]; rfl, wk_nil, trivial⟩
    · ((conv => (whnf)); (try (refine AnyG.skip ?_; (conv => (whnf)))))
      refine endK ⟨[], ⟨rfl, rfl⟩, ?_⟩
      ((conv => (whnf)); (try (refine AnyG.skip ?_; (conv => (whnf)))))
      exact ⟨_, _, Wk.agg (WkL.cons (Wk.d DW.sf) WkL.nil), WkOs.rfl, hQ t (p1 + 1) (by omega)⟩

end Ab

/- The reference's small words: contracts. -/
namespace Ab
open Go Go.Proofs
set_option maxRecDepth 10000
set_option maxHeartbeats 4000000
set_option linter.all false

theorem digit_val (k : Nat) (h : k < 10) : (UInt8.ofNat (48 + k)).toNat = 48 + k := by
  have : ∀ k, k < 10 → (UInt8.ofNat (48 + k)).toNat = 48 + k := by decide
  exact this k h
theorem dec_len : ∀ (k u : Nat), u < 10 ^ (k + 1) → (Lib.decDigits u).length ≤ k + 1
  | 0, u, h => by rw [Lib.decDigits, dif_pos (by simpa using h)]; simp
  | k + 1, u, h => by
    rw [Lib.decDigits]
    split
    · simp
    · have := dec_len k (u / 10) (by rw [Nat.pow_succ] at h; omega)
      simp; omega
theorem dec_ne (u : Nat) : Lib.decDigits u ≠ [] := by
  rw [Lib.decDigits]; split <;> simp

theorem itoa_nat {n : Int} (h0 : 0 ≤ n) : Lib.itoa n = Lib.decDigits n.toNat := by
  unfold Lib.itoa
  rw [if_neg (by omega)]

/-- spec.l6Dec -/
def S_s_l6Dec (n : Nat) : Spec := fun args O Q => ∃ (k : Int), args = [iv k] ∧ O = [] ∧ 0 ≤ k ∧ k < n ∧ n ≤ 1000000000 ∧ Q (.d (.s (Lib.decDigits k.toNat))) []
theorem v_s_l6Dec {B : World} : ∀ n, Valid PG B s_l6Dec (S_s_l6Dec n) := by
  refine valid_lt (fun args O Q ⟨k, _, _, h1, h2, _⟩ => by omega) fun n ih => ?_
  refine valid_of (Γ := [(s_l6Dec, ⟨[], S_s_l6Dec n⟩)]) wide tok (AllValid.nil.cons ih) g_s_l6Dec rfl rfl ?_
  rintro _ _ Q ⟨k, rfl, rfl, h0, h1, hn, hQ⟩
  have hlen : ∀ j : Int, 0 ≤ j → j < n → (Lib.decDigits j.toNat).length ≤ 100 := fun j h1 h2 => by
    have := dec_len 9 j.toNat (by omega)
    omega
  refine wG ?_
  refine brG0 (fun h => ?_) (fun h => ?_)
  · omega
  refine brG0 (fun h2 => ?_) (fun h2 => ?_)
  · omega
  refine brG0 (fun h3 => ?_) (fun h3 => ?_)
  · refine goG0 ?_
    left
    refine wG ?_
    refine endK ⟨[], ⟨rfl, rfl⟩, ?_⟩
    refine wG ?_
    refine ⟨_, _, Wk.of_eq ?_, WkOs.rfl, hQ⟩
    rw [Lib.decDigits, dif_pos (by omega)]
    have e : (48 + k).toNat = 48 + k.toNat := by omega
    rw [e]
  · have hd := tdiv_in (a := k) (b := 10) h0 (by omega)
    have hm := tmod_in (a := k) (b := 10) h0 (by omega)
    have hk : k.tdiv 10 < k := by
      rw [Int.tdiv_eq_ediv_of_nonneg h0]; omega
    refine goG0 ?_
    refine ⟨_, _, WkL.rfl, WkOs.rfl, _, rfl, rfl, hd.1, by omega, by omega, ?_⟩
    have h7 := hlen _ hd.1 (by omega)
    refine Req.mk (Nat.le_of_ble_eq_true rfl) ?_
    refine wG ?_
    refine goG0 ?_
    refine endK ⟨[], ⟨rfl, rfl⟩, ?_⟩
    refine wG ?_
    refine ⟨_, _, Wk.of_eq ?_, WkOs.rfl, hQ⟩
    rw [Lib.decDigits.eq_1 k.toNat, dif_neg (by omega)]
    have e1 : (k.tdiv 10).toNat = k.toNat / 10 := by
      rw [Int.tdiv_eq_ediv_of_nonneg h0]; omega
    have e2 : (48 + k.tmod 10).toNat = 48 + k.toNat % 10 := by
      rw [Int.tmod_eq_emod_of_nonneg h0]; omega
    rw [e1, e2]

/-- spec.l6In -/
def S_s_l6In : Spec := fun args O Q => ∃ (n a b : Int), args = [iv n, iv a, iv b] ∧ O = [] ∧ Q (bv (decide (a ≤ n) && decide (n ≤ b))) []
theorem v_s_l6In {B : World} : Valid PG B s_l6In S_s_l6In := by
  refine valid_of (Γ := []) wide tok AllValid.nil g_s_l6In rfl rfl ?_
  rintro _ _ Q ⟨n, a, b, rfl, rfl, hQ⟩
  refine wG ?_
  refine brG0 (fun h => ?_) (fun h => ?_)
  · refine goG0 ?_
    refine endK ⟨[], ⟨rfl, rfl⟩, ?_⟩
    refine wG ?_
    refine ⟨_, _, Wk.of_eq ?_, WkOs.rfl, hQ⟩
    simp; omega
  · refine goG0 ?_
    refine endK ⟨[], ⟨rfl, rfl⟩, ?_⟩
    refine wG ?_
    refine ⟨_, _, Wk.of_eq ?_, WkOs.rfl, hQ⟩
    simp; omega

def isDig (c : UInt8) : Bool := decide (48 ≤ c.toNat) && decide (c.toNat ≤ 57)
def decVal (s : List UInt8) : Nat := s.foldl (fun n c => n * 10 + (c.toNat - 48)) 0
def l2dec (s : List UInt8) : Int := if 1 ≤ s.length ∧ s.length ≤ 4 ∧ s.all isDig = true ∧ Lib.decDigits (decVal s) = s then decVal s else -1

theorem decVal_snoc (s : List UInt8) (c : UInt8) : decVal (s ++ [c]) = decVal s * 10 + (c.toNat - 48) := by simp [decVal]
theorem decVal_lt : ∀ (n : Nat) (s : List UInt8), s.length = n → s.all isDig = true → decVal s < 10 ^ n
  | 0, s, h, _ => by
    have : s = [] := List.eq_nil_of_length_eq_zero h
    subst this; simp [decVal]
  | n + 1, s, h, hd => by
    have hne : s ≠ [] := by rintro rfl; simp at h
    have e := List.dropLast_concat_getLast hne
    rw [← e] at hd ⊢
    rw [decVal_snoc]
    simp only [List.all_append, Bool.and_eq_true, List.all_cons, List.all_nil, Bool.and_true, isDig, decide_eq_true_eq] at hd
    have := decVal_lt n s.dropLast (by simp [h]) hd.1
    rw [Nat.pow_succ]; omega

/-- spec.l2Dec -/
def S_s_l2Dec : Spec := fun args O Q => ∃ (s : List UInt8), args = [.d (.s s)] ∧ O = [] ∧ Q (iv (l2dec s)) []
theorem v_s_l2Dec {B : World} : Valid PG B s_l2Dec S_s_l2Dec := by
  refine valid_of (Γ := [(s_l6Dec, ⟨[], S_s_l6Dec 100000⟩)]) wide tok (AllValid.nil.cons (v_s_l6Dec 100000)) g_s_l2Dec rfl rfl ?_
  rintro _ _ Q ⟨s, rfl, rfl, hQ⟩
  have fin : ∀ n : Int, l2dec s = n → wkQ Q (iv n) [] := fun n h => ⟨_, _, Wk.rfl, WkOs.rfl, by subst h; exact hQ⟩
  refine wG ?_
  refine brG0 (fun h => ?_) (fun h => ?_)
  · refine endK ⟨[], ⟨rfl, rfl⟩, ?_⟩
    refine wG ?_
    refine fin _ ?_
    rw [l2dec, if_neg (by omega)]
  refine brG0 (fun h2 => ?_) (fun h2 => ?_)
  · refine endK ⟨[], ⟨rfl, rfl⟩, ?_⟩
    refine wG ?_
    refine fin _ ?_
    rw [l2dec, if_neg (by omega)]
  refine ⟨[], Int, fun i => 0 ≤ i ∧ i ≤ s.length ∧ (s.take i.toNat).all isDig = true, fun i => (s.length - i).toNat, fun i => [(3, iv (decVal (s.take i.toNat))), (4, iv i)],
      fun i => [], 0, ⟨by omega, by omega, by simp⟩, ?_⟩
  ((conv => (whnf)); (try (refine AnyG.skip ?_; (conv => (whnf)))))
  refine ⟨⟨rfl, rfl, WkOs.rfl, ⟨Wk.rfl, Wk.rfl, trivial⟩, rfl⟩, ?_⟩
  intro i ⟨hi0, hi1, hi2⟩
  ((conv => (whnf)); (try (refine AnyG.skip ?_; (conv => (whnf)))))
  refine brG0 (fun h3 => ?_) (fun h3 => ?_)
  · have hlt : i.toNat < s.length := by omega
    have bad : isDig s[i.toNat] = false → l2dec s = -1 := fun hb => by
      have : s.all isDig = false := List.all_eq_false.2 ⟨_, List.getElem_mem hlt, by simp [hb]⟩
      rw [l2dec, if_neg (by simp [this])]
    have hc := (s[i.toNat]).toNat_lt
    first | refine str_at (by omega) (by (try simp only [List.length_append, List.length_cons, List.length_nil, List.length_map, List.length_take, List.length_drop, maxRow, byteRows_len]); omega) ?_ | refine str_at' (by (try simp only [List.length_append, List.length_cons, List.length_nil, List.length_map, List.length_take, List.length_drop, maxRow, byteRows_len]); omega) ?_
    refine wG ?_
    refine brG0 (fun h4 => ?_) (fun h4 => ?_)
    · refine endK ⟨[], ⟨rfl, rfl⟩, ?_⟩
      refine wG ?_
      refine fin _ (bad (by simp [isDig]; omega))
    first | refine str_at (by omega) (by (try simp only [List.length_append, List.length_cons, List.length_nil, List.length_map, List.length_take, List.length_drop, maxRow, byteRows_len]); omega) ?_ | refine str_at' (by (try simp only [List.length_append, List.length_cons, List.length_nil, List.length_map, List.length_take, List.length_drop, maxRow, byteRows_len]); omega) ?_
    refine wG ?_
    refine brG0 (fun h5 => ?_) (fun h5 => ?_)
    · refine endK ⟨[], ⟨rfl, rfl⟩, ?_⟩
      refine wG ?_
      refine fin _ (bad (by simp [isDig]; omega))
    have hb := decVal_lt _ (s.take i.toNat) rfl hi2
    have hb2 : 10 ^ (s.take i.toNat).length ≤ 10 ^ 4 := Nat.pow_le_pow_right (by omega) (by simp; omega)
    refine goG0 ?_
    first | refine str_at (by omega) (by (try simp only [List.length_append, List.length_cons, List.length_nil, List.length_map, List.length_take, List.length_drop, maxRow, byteRows_len]); omega) ?_ | refine str_at' (by (try simp only [List.length_append, List.length_cons, List.length_nil, List.length_map, List.length_take, List.length_drop, maxRow, byteRows_len]); omega) ?_
    refine wG ?_
    refine goG0 ?_
    have e : (i + 1).toNat = i.toNat + 1 := by omega
    have e2 : s.take (i.toNat + 1) = s.take i.toNat ++ [s[i.toNat]] := by rw [List.take_add_one]; simp [hlt]
    have e3 : ((decVal (s.take (i.toNat + 1)) : Nat) : Int) = (decVal (s.take i.toNat)) * 10 + ((s[i.toNat]).toNat - 48) := by
      rw [e2, decVal_snoc]; omega
    refine ⟨i + 1, ⟨by omega, by omega, e ▸ take_all hlt hi2 (by simp [isDig]; omega)⟩, by dsimp only; omega, [], Meet.mk rfl rfl WkOs.rfl ⟨Wk.of_eq ?_, Wk.rfl, trivial⟩ rfl⟩
    rw [e, e3]; rfl
  · have hi : i.toNat = s.length := by omega
    rw [hi, List.take_length] at hi2 ⊢
    have hb := decVal_lt _ s rfl hi2
    have hb2 : 10 ^ s.length ≤ 10 ^ 4 := Nat.pow_le_pow_right (by omega) (by omega)
    refine ⟨_, _, WkL.rfl, WkOs.rfl, decVal s, rfl, rfl, by omega, by omega, by omega, ?_⟩
    refine goG0 ?_
    have e : ((decVal s : Nat) : Int).toNat = decVal s := by omega
    rw [e]
    refine ⟨fun h4 => ?_, fun h4 => ?_⟩
    · refine wG ?_
      refine endK ⟨[], ⟨rfl, rfl⟩, ?_⟩
      refine wG ?_
      refine fin _ ?_
      simp at h4
      rw [l2dec, if_neg (by simp [h4])]
    · refine wG ?_
      refine endK ⟨[], ⟨rfl, rfl⟩, ?_⟩
      refine wG ?_
      refine fin _ ?_
      simp at h4
      rw [l2dec, if_pos ⟨by omega, by omega, hi2, h4⟩]

theorem decVal_dec : ∀ (n u : Nat), u < n → decVal (Lib.decDigits u) = u
  | 0, u, h => by omega
  | n + 1, u, h => by
    rw [Lib.decDigits]
    split
    · rename_i hu
      simp only [decVal, List.foldl_cons, List.foldl_nil, digit_val u hu]; omega
    · rename_i hu
      rw [decVal_snoc, decVal_dec n (u / 10) (by omega), digit_val _ (Nat.mod_lt _ (by omega))]; omega
theorem isDig_digit (k : Nat) (h : k < 10) : isDig (UInt8.ofNat (48 + k)) = true := by
  simp only [isDig, digit_val k h]; simp; omega
theorem dec_isDig : ∀ (n u : Nat), u < n → (Lib.decDigits u).all isDig = true
  | 0, u, h => by omega
  | n + 1, u, h => by
    rw [Lib.decDigits]
    split
    · rename_i hu
      rw [List.all_cons, isDig_digit u hu]; rfl
    · rename_i hu
      rw [List.all_append, dec_isDig n (u / 10) (by omega), List.all_cons, isDig_digit _ (Nat.mod_lt u (show 0 < 10 by omega))]; rfl
theorem l2dec_dec (u : Nat) (h : u ≤ 9999) : l2dec (Lib.decDigits u) = u := by
  have h1 := dec_len 3 u (by omega)
  have h2 := dec_ne u
  have h3 : 1 ≤ (Lib.decDigits u).length := by
    cases hl : Lib.decDigits u with
    | nil => exact absurd hl h2
    | cons => simp
  have h4 := decVal_dec (u + 1) u (by omega)
  rw [l2dec, if_pos ⟨h3, by omega, dec_isDig (u + 1) u (by omega), by rw [h4]⟩, h4]

/-- a number picked from a list of such -/
theorem pick_lit (xs : List Int) {k : Int} (h0 : 0 ≤ k) (h1 : k < xs.length) : ∃ c ∈ xs, (xs.map fun c => [DV.i .i64 c])[k.toNat]? = some [.i .i64 c] := by
  have h : k.toNat < xs.length := by omega
  exact ⟨xs[k.toNat], List.getElem_mem h, by simp [h]⟩

theorem idx_str {xs : List (List UInt8)} {n : Int} {K : List DV → Prop} (h : n.toNat < xs.length) (hk : K [.s xs[n.toNat]]) : ∃ r, (xs.map fun s => [DV.s s])[n.toNat]? = some r ∧ K r := ⟨_, by simp [h], hk⟩
/-- (*l6Rd).of -/
def S_s_l6Rd_of : Spec := fun args O Q => ∃ (l : List UInt8) (p : Int) (xs : List (List UInt8)), args = [.ptr 0 0, .d (.sl 1 (xs.map fun s => [DV.s s]))] ∧ O = [oRd l p] ∧ xs ≠ [] ∧ xs.length ≤ 1000 ∧ l.length ≤ 2000 ∧ 0 ≤ p ∧ p ≤ 1000000000 ∧
  ∀ s ∈ xs, Q (.d (.s s)) [oRd l (p + 1)]
theorem v_s_l6Rd_of {B : World} : Valid PG B s_l6Rd_of S_s_l6Rd_of := by
  refine valid_of (Γ := [(s_l6Rd_pick, ⟨[], S_s_l6Rd_pick⟩)]) wide tok (AllValid.nil.cons v_s_l6Rd_pick) g_s_l6Rd_of rfl rfl ?_
  rintro _ _ Q ⟨l, p, xs, rfl, rfl, hne, hxs, hl, hp, hp1, hQ⟩
  have hpos : 0 < xs.length := List.length_pos_iff.2 hne
  refine wG ?_
  refine ⟨_, _, WkL.rfl, WkOs.rfl, l, p, xs.length, hl, hp, hp1, by omega, by simp, rfl, ?_⟩
  intro k _ hk
  obtain ⟨hk0, hk1⟩ := hk (by omega)
  refine goG0 ?_
  have hlt : k.toNat < xs.length := by omega
  refine idx_str hlt ?_
  refine wG ?_
  refine endK ⟨[], ⟨rfl, rfl⟩, ?_⟩
  refine wG ?_
  exact ⟨_, _, Wk.rfl, WkOs.rfl, hQ _ (List.getElem_mem hlt)⟩

theorem tyOk_mono : ∀ {m n : Nat} {t : Ty}, m ≤ n → tyOk m t = true → tyOk n t = true
  | 0, _, _, _, h => by simp [tyOk] at h
  | m + 1, 0, _, h, _ => by omega
  | m + 1, n + 1, .mk ks, h, ht => by
    simp only [tyOk, Bool.and_eq_true, List.all_eq_true] at ht ⊢
    exact ⟨ht.1, fun x hx => tyOk_mono (by omega) (ht.2 x hx)⟩

mutual
def sameTy : Ty → Ty → Bool
  | .mk xs, .mk ys => sameTys xs ys
def sameTys : List Ty → List Ty → Bool
  | [], [] => true
  | a :: xs, b :: ys => sameTy a b && sameTys xs ys
  | _, _ => false
end
theorem sameTy_mk (xs ys : List Ty) : sameTy (.mk xs) (.mk ys) = sameTys xs ys := by simp [sameTy]
theorem sameTys_len : ∀ {xs ys : List Ty}, sameTys xs ys = true → xs.length = ys.length
  | [], [], _ => rfl
  | a :: xs, b :: ys, h => by simp [sameTys] at h; simp [sameTys_len h.2]
  | [], _ :: _, h => by simp [sameTys] at h
  | _ :: _, [], h => by simp [sameTys] at h
theorem sameTys_get : ∀ {xs ys : List Ty} (i : Nat) (h1 : i < xs.length) (h2 : i < ys.length), sameTys xs ys = true → sameTy xs[i] ys[i] = true
  | a :: xs, b :: ys, 0, _, _, h => by simp [sameTys] at h; exact h.1
  | a :: xs, b :: ys, i + 1, h1, h2, h => by simp [sameTys] at h; exact sameTys_get i (by simpa using h1) (by simpa using h2) h.2
theorem sameTys_step : ∀ {xs ys : List Ty} (i : Nat) (h1 : i < xs.length) (h2 : i < ys.length), sameTys (xs.take i) (ys.take i) = true → sameTy xs[i] ys[i] = true → sameTys (xs.take (i + 1)) (ys.take (i + 1)) = true
  | a :: xs, b :: ys, 0, _, _, _, h => by simpa [sameTys] using h
  | a :: xs, b :: ys, i + 1, h1, h2, h, h' => by
    simp [sameTys] at h ⊢
    exact ⟨h.1, sameTys_step i (by simpa using h1) (by simpa using h2) h.2 h'⟩

theorem tyOk_kids {m : Nat} {ks : List Ty} (h : tyOk m (.mk ks) = true) : ∃ j, m = j + 1 ∧ ks.length ≤ 2 ∧ ∀ k ∈ ks, tyOk j k = true := by
  cases m with
  | zero => simp [tyOk] at h
  | succ j =>
    simp only [tyOk, Bool.and_eq_true, List.all_eq_true] at h
    refine ⟨j, rfl, ?_, h.2⟩
    have := h.1
    simp at this
    rcases this with h | h <;> simp [h]

end Ab
