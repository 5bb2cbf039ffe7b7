/- YtnhjclenankhoaaDoorFrB: contracts of functions of the program, by the frame 'Ab'. -/
import Derived.Test.YtnhjclenankhoaaDoorFrA
set_option linter.all false
namespace Ab
open Go Go.Proofs
set_option maxRecDepth 10000
set_option maxHeartbeats 4000000
set_option linter.unusedSimpArgs false
set_option linter.unusedVariables false

/-- TypeOk, both -/
def STypeOk : Spec := fun args O Q => ∃ (t : Ty), args = [aTy t] ∧ O = [] ∧ Q (bv (tyOk 4 t)) []

theorem v8 {B : World} : Valid Tryd.prog B 8 STypeOk := by
  refine valid_of (Γ := [(24, ⟨[], S24 10⟩)]) wide tok (AllValid.nil.cons (v24 10)) Tryd.func8 rfl rfl ?_
  rintro _ _ Q ⟨t, rfl, rfl, hQ⟩
  conv => whnf
  refine ⟨_, _, WkL.rfl, WkOs.rfl, t, 4, by omega, by omega, by omega, rfl, rfl, ?_⟩
  conv => whnf
  refine ⟨by decide, ?_⟩
  conv => whnf
  refine ⟨[], ⟨rfl, rfl⟩, ?_⟩
  conv => whnf
  exact ⟨_, _, Wk.rfl, WkOs.rfl, hQ⟩

theorem v9 {B : World} : Valid Tryd.prog B 9 STypeOk := by
  refine valid_of (Γ := [(25, ⟨[], S24 10⟩)]) wide tok (AllValid.nil.cons (v25 10)) Tryd.func9 rfl rfl ?_
  rintro _ _ Q ⟨t, rfl, rfl, hQ⟩
  conv => whnf
  refine ⟨_, _, WkL.rfl, WkOs.rfl, t, 4, by omega, by omega, by omega, rfl, rfl, ?_⟩
  conv => whnf
  refine ⟨by decide, ?_⟩
  conv => whnf
  refine ⟨[], ⟨rfl, rfl⟩, ?_⟩
  conv => whnf
  exact ⟨_, _, Wk.rfl, WkOs.rfl, hQ⟩

/-! ### The drawing of inputs -/
def aBs (l : List UInt8) : DV := .sl 1 (byteRows l)
def oRd (l : List UInt8) (p : Int) : Obj := .cells [.d (.sl 1 (byteRows l)), iv p]

theorem byteRows_len : ∀ (l : List UInt8), (byteRows l).length = l.length
  | [] => rfl
  | c :: l => by simp [byteRows, byteRows_len l]
theorem byteRows_get : ∀ (l : List UInt8) (i : Nat), (byteRows l)[i]? = (l[i]?).map fun c => [.i .u8 c.toNat]
  | [], i => by simp [byteRows]
  | c :: l, 0 => by simp [byteRows]
  | c :: l, i + 1 => by simpa [byteRows] using byteRows_get l i
theorem byteRows_take : ∀ (l : List UInt8) (n : Nat), (byteRows l).take n = byteRows (l.take n)
  | [], n => by simp [byteRows]
  | c :: l, 0 => by simp [byteRows]
  | c :: l, n + 1 => by simp [byteRows, byteRows_take l n]

def SOpen : Spec := fun args O Q => ∃ (l : List UInt8), args = [.d (.sl 1 (byteRows l))] ∧ O = [] ∧ Q (.ptr 0 0) [oRd (l.take 2000) 0]

theorem v23 {B : World} : Valid Tryd.prog B 23 SOpen := by
  refine valid_of (Γ := []) wide tok AllValid.nil Tryd.func23 rfl rfl ?_
  rintro _ _ Q ⟨l, rfl, rfl, hQ⟩
  conv => whnf
  refine ⟨fun h => ?_, fun h => ?_⟩
  · simp [byteRows_len] at h
    conv => whnf
    refine ⟨by simp [byteRows_len]; omega, ?_⟩
    conv => whnf
    refine ⟨[0], ⟨rfl, rfl⟩, ?_⟩
    conv => whnf
    refine ⟨_, _, Wk.rfl, WkOs.of_eq ?_, hQ⟩
    have e : ((byteRows l).take (Int.toNat 2000)).drop 0 = byteRows (l.take 2000) := by
      rw [List.drop_zero]; exact byteRows_take l 2000
    rw [e]; rfl
  · simp [byteRows_len] at h
    conv => whnf
    refine ⟨[0], ⟨rfl, rfl⟩, ?_⟩
    conv => whnf
    refine ⟨_, _, Wk.rfl, WkOs.rfl, ?_⟩
    rw [List.take_of_length_le (by omega)] at hQ
    exact hQ

theorem byte_at (l : List UInt8) (i : Int) (h0 : 0 ≤ i) (h : i < l.length) : ∃ c : Nat, c < 256 ∧ (byteRows l)[i.toNat]? = some [.i .u8 (c : Int)] := by
  have hlt : i.toNat < l.length := by omega
  exact ⟨(l[i.toNat]).toNat, (l[i.toNat]).toNat_lt, by simp [byteRows_get, hlt]⟩

theorem tmod_in {a b : Int} (ha : 0 ≤ a) (hb : 0 < b) : 0 ≤ a.tmod b ∧ a.tmod b < b := ⟨Int.tmod_nonneg _ ha, Int.tmod_lt_of_pos _ hb⟩
theorem tdiv_in {a b : Int} (ha : 0 ≤ a) (hb : 0 < b) : 0 ≤ a.tdiv b ∧ a.tdiv b ≤ a := by
  rw [Int.tdiv_eq_ediv_of_nonneg ha]
  exact ⟨Int.ediv_nonneg ha (by omega), Int.ediv_le_self _ ha⟩
theorem xor_in {a b : Int} (ha : 0 ≤ a) (hb : 0 ≤ b) (ha' : a < 9223372036854775808) (hb' : b < 9223372036854775808) : 0 ≤ bitsOp .xor .i64 a b := by
  have key : ∀ x : Int, 0 ≤ x → x < 9223372036854775808 → (BitVec.ofInt IntKind.i64.bits x).toNat < 2 ^ 63 := by
    intro x h0 h1
    have : IntKind.i64.bits = 64 := rfl
    rw [this, BitVec.toNat_ofInt]
    have : x % (2 ^ 64 : Nat) = x := Int.emod_eq_of_lt h0 (by omega)
    rw [this]; omega
  have h := Nat.xor_lt_two_pow (key a ha ha') (key b hb hb')
  simp only [bitsOp]
  have e : ((BitVec.ofInt IntKind.i64.bits a) ^^^ (BitVec.ofInt IntKind.i64.bits b)).toNat = (BitVec.ofInt IntKind.i64.bits a).toNat ^^^ (BitVec.ofInt IntKind.i64.bits b).toNat := BitVec.toNat_xor _ _
  rw [e]
  generalize (BitVec.ofInt IntKind.i64.bits a).toNat ^^^ (BitVec.ofInt IntKind.i64.bits b).toNat = n at h
  rw [wrap_in (lo64 (by omega)) (hi64 (by omega))]
  omega

/-- (*l6Rd).pick -/
def S32 : Spec := fun args O Q => ∃ (l : List UInt8) (p n : Int), l.length ≤ 2000 ∧ 0 ≤ p ∧ p ≤ 1000000000 ∧ n ≤ 1000000000 ∧ args = [.ptr 0 0, iv n] ∧ O = [oRd l p] ∧
  ∀ k : Int, (n < 1 → k = 0) → (1 ≤ n → 0 ≤ k ∧ k < n) → Q (iv k) [oRd l (p + 1)]

theorem v32 {B : World} : Valid Tryd.prog B 32 S32 := by
  refine valid_of (Γ := []) wide tok AllValid.nil Tryd.func32 rfl rfl ?_
  rintro _ _ Q ⟨l, p, n, hl, hp0, hp1, hn, rfl, rfl, hQ⟩
  conv => whnf
  refine ⟨lo64 (by omega), hi64 (by omega), ?_⟩
  conv => whnf
  refine ⟨fun h => ?_, fun h => ?_⟩
  · conv => whnf
    refine ⟨[], ⟨rfl, rfl⟩, ?_⟩
    conv => whnf
    exact ⟨_, _, Wk.rfl, WkOs.rfl, hQ 0 (fun _ => rfl) (fun h' => by simp at h; omega)⟩
  · have hn1 : 1 ≤ n := by simpa using h
    conv => whnf
    refine ⟨fun h2 => ?_, fun h2 => ?_⟩
    · conv => whnf
      refine ⟨[], ⟨rfl, rfl⟩, ?_⟩
      conv => whnf
      exact ⟨_, _, Wk.rfl, WkOs.rfl, hQ 0 (fun _ => rfl) (fun _ => ⟨by omega, by omega⟩)⟩
    · have hl1 : l ≠ [] := by rintro rfl; simp [byteRows] at h2
      have hlen : 0 < l.length := List.length_pos_iff.2 hl1
      conv => whnf
      refine ⟨lo64 (by omega), hi64 (by omega), ?_⟩
      conv => whnf
      have hpp : p + 1 - 1 = p := by omega
      rw [hpp]
      have fin : ∀ k : Int, 0 ≤ k → k < n → Q (iv k) [oRd l (p + 1)] := fun k h1 h2 => hQ k (fun h => by omega) (fun _ => ⟨h1, h2⟩)
      refine ⟨fun h3 => ?_, fun h3 => ?_⟩
      · have hlt : p.toNat < l.length := by
          simp [byteRows_len] at h3; omega
        conv => whnf
        refine ⟨hp0, [.i .u8 (l[p.toNat]).toNat], by simp [byteRows_get, hlt], ?_⟩
        have hc := (l[p.toNat]).toNat_lt
        generalize (l[p.toNat]).toNat = c at hc
        conv => whnf
        refine ⟨lo64 (by omega), hi64 (by omega), ?_⟩
        conv => whnf
        refine ⟨by omega, ?_⟩
        conv => whnf
        refine ⟨[], ⟨rfl, rfl⟩, ?_⟩
        conv => whnf
        exact ⟨_, _, Wk.rfl, WkOs.rfl, fin _ (Int.tmod_nonneg _ (by omega)) (Int.tmod_lt_of_pos _ (by omega))⟩
      · have hbl : ((byteRows l).length : Int) = l.length := by rw [byteRows_len]
        conv => whnf
        rw [hbl]
        obtain ⟨a1, a2⟩ := tmod_in (a := p) (b := l.length) hp0 (by omega)
        generalize p.tmod l.length = k1 at a1 a2
        refine ⟨by omega, ?_⟩
        conv => whnf
        obtain ⟨c1, b1, b2⟩ := byte_at l k1 a1 a2
        refine ⟨a1, _, b2, ?_⟩
        conv => whnf
        refine ⟨lo64 (by omega), hi64 (by omega), ?_⟩
        conv => whnf
        refine ⟨lo64 (by omega), hi64 (by omega), ?_⟩
        conv => whnf
        refine ⟨lo64 (by omega), hi64 (by omega), ?_⟩
        conv => whnf
        refine ⟨lo64 (by omega), hi64 (by omega), ?_⟩
        conv => whnf
        rw [hbl]
        obtain ⟨a3, a4⟩ := tmod_in (a := p * 7 + 3) (b := l.length) (by omega) (by omega)
        generalize (p * 7 + 3).tmod l.length = k2 at a3 a4
        refine ⟨by omega, ?_⟩
        conv => whnf
        obtain ⟨c2, b3, b4⟩ := byte_at l k2 a3 a4
        refine ⟨a3, _, b4, ?_⟩
        conv => whnf
        refine ⟨lo64 (by omega), hi64 (by omega), ?_⟩
        conv => whnf
        refine ⟨lo64 (by omega), hi64 (by omega), ?_⟩
        conv => whnf
        refine ⟨lo64 (by omega), hi64 (by omega), ?_⟩
        conv => whnf
        refine ⟨lo64 (by omega), hi64 (by omega), ?_⟩
        conv => whnf
        refine ⟨lo64 (by omega), hi64 (by omega), ?_⟩
        conv => whnf
        rw [hbl]
        obtain ⟨a5, a6⟩ := tdiv_in (a := p) (b := l.length) hp0 (by omega)
        generalize p.tdiv l.length = k3 at a5 a6
        refine ⟨by omega, lo64 (by omega), hi64 (by omega), ?_⟩
        conv => whnf
        refine ⟨lo64 (by omega), hi64 (by omega), ?_⟩
        conv => whnf
        refine ⟨lo64 (by omega), hi64 (by omega), ?_⟩
        conv => whnf
        have hx0 : 0 ≤ (c1 : Int) * 131 + (c2 : Int) * 1117 + p * 29 + k3 * 53 := by omega
        have hx1 : (c1 : Int) * 131 + (c2 : Int) * 1117 + p * 29 + k3 * 53 < 1000000000000 := by omega
        generalize (c1 : Int) * 131 + (c2 : Int) * 1117 + p * 29 + k3 * 53 = x at hx0 hx1
        obtain ⟨a7, a8⟩ := tdiv_in (a := x) (b := 64) hx0 (by omega)
        refine ⟨by omega, lo64 (by omega), hi64 (by omega), ?_⟩
        conv => whnf
        have hz := xor_in hx0 a7 (by omega) (by omega)
        generalize bitsOp .xor .i64 x (x.tdiv 64) = z at hz
        refine ⟨by omega, ?_⟩
        conv => whnf
        refine ⟨[], ⟨rfl, rfl⟩, ?_⟩
        conv => whnf
        obtain ⟨q1, q2⟩ := tmod_in (a := z) (b := n) hz (by omega)
        exact ⟨_, _, Wk.rfl, WkOs.rfl, fin _ q1 q2⟩
end Ab
