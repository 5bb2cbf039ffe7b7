/- Contracts of functions of the program, by the frame 'Ab'. -/
import Derived.Test.YtnhjclenankhoaaDoorFrB
import Derived.Test.YtnhjclenankhoaaDoorShelf
import Derived.Ground.NamesProg
import Derived.Below
set_option linter.all false
namespace Ab
open Go Go.Proofs Go.RowKit Go.Shelf
set_option maxRecDepth 10000
set_option maxHeartbeats 4000000
set_option linter.unusedSimpArgs false
set_option linter.unusedVariables false

theorem Sat.below {w w' : World} {g : Gh} {O : List Obj} (hS : Sat w g O) (h : Below w.heap.size w w') : Sat w' g O := by
  refine ⟨hS.n, fun b ys hb => ?_, fun k o hk => ?_, fun b k hb => ?_⟩
  · obtain ⟨c, t, f, h1, h2⟩ := hS.imm b ys hb
    exact ⟨c, t, f, by rw [h.block b (hS.imm_lt hb)]; exact h1, h2⟩
  · have hkn : k < g.n := by rw [← hS.n]; exact (List.getElem?_eq_some_iff.1 hk).1
    exact SatO.keep (Gh.le_refl g) hkn rfl (fun b hb => ⟨h.block b (hS.own b k hb).1, hb, rfl⟩) (hS.obj k o hk)
  · have := hS.own b k hb
    exact ⟨Nat.lt_of_lt_of_le this.1 h.size, this.2⟩
theorem Fr.below {w w' : World} {g : Gh} (h : Below w.heap.size w w') : Fr w w' g g :=
  ⟨h.size, h.os, h.tape, h.output, fun b hb _ => h.block b hb, fun _ _ _ => rfl, fun _ _ ho => ho⟩

/-- A library function, by its contract: what it returns is plain, and new memory is all that it makes. -/
theorem valid_lib {P : Program} {B : World} {f : Nat} {S : Spec} (hent : ∀ args w, (callFunc f args).run P w = .ok (.enter f args) w)
    (h : ∀ (w : World) (g : Gh) (args : List AV) (us : List Value) (O : List Obj) (Q : AV → List Obj → Prop), GI B w g → ValL g args us → S args O Q →
      Calls P f us.toArray w (fun e w' => ∃ u r, e = .returned u ∧ (∀ g', Val g' r u) ∧ Q r O ∧ Below w.heap.size w w')) : Valid P B f S := by
  intro w g O args us Q hG hS h0 hv hs
  right
  refine ⟨hent _ _, (h w g args us O Q hG hv hs).mono ?_⟩
  rintro e w' ⟨u, r, rfl, h1, h2, h3⟩
  exact ⟨u, rfl, r, O, g, h2, h1 g, hS.below h3, Gh.le_refl g, Fr.below h3⟩

theorem below_same (w : World) : Below w.heap.size w w := Below.refl _ _

/-- strings.HasPrefix -/
def S_x_strings_HasPrefix : Spec := fun args O Q => ∃ (s p : List UInt8), args = [.d (.s s), .d (.s p)] ∧ Q (bv (Lib.hasPrefix s p)) O
theorem v_x_strings_HasPrefix {B : World} : Valid PG B x_strings_HasPrefix S_x_strings_HasPrefix := by
  refine valid_lib (fun args w => enters_of g_x_strings_HasPrefix (by kernel_rfl) rfl args w) ?_
  rintro w g _ us O Q hG hv ⟨s, p, rfl, hQ⟩
  match us, hv with
  | [u1, u2], ⟨h1, h2, _⟩ =>
    have h1 : u1 = .string ⟨s.toArray⟩ := h1
    have h2 : u2 = .string ⟨p.toArray⟩ := h2
    subst h1; subst h2
    refine (Tryd.strings_HasPrefix ⟨s.toArray⟩ ⟨p.toArray⟩ w).mono ?_
    rintro e w' ⟨rfl, rfl⟩
    exact ⟨_, bv (Lib.hasPrefix s p), rfl, fun _ => rfl, hQ, below_same _⟩

/-- strings.CutPrefix -/
def S_x_strings_CutPrefix : Spec := fun args O Q => ∃ (s p : List UInt8), args = [.d (.s s), .d (.s p)] ∧ Q (.tup [.d (.s (Lib.trimPrefix s p)), bv (Lib.hasPrefix s p)]) O
theorem v_x_strings_CutPrefix {B : World} : Valid PG B x_strings_CutPrefix S_x_strings_CutPrefix := by
  refine valid_lib (fun args w => enters_of g_x_strings_CutPrefix (by kernel_rfl) rfl args w) ?_
  rintro w g _ us O Q hG hv ⟨s, p, rfl, hQ⟩
  match us, hv with
  | [u1, u2], ⟨h1, h2, _⟩ =>
    have h1 : u1 = .string ⟨s.toArray⟩ := h1
    have h2 : u2 = .string ⟨p.toArray⟩ := h2
    subst h1; subst h2
    refine (Tryd.strings_CutPrefix ⟨s.toArray⟩ ⟨p.toArray⟩ w).mono ?_
    rintro e w' ⟨rfl, rfl⟩
    exact ⟨_, .tup [.d (.s (Lib.trimPrefix s p)), bv (Lib.hasPrefix s p)], rfl, fun _ => ⟨[_, _], rfl, rfl, rfl, trivial⟩, hQ, below_same _⟩

/-- strconv.Itoa -/
def Tabs (B : World) : Prop := Lib.TabIs PG B "internal/strconv.uint64pow10" .u64 Lib.pow10Tab ∧ (∃ tp p, B.var? PG "strconv.ErrSyntax" = some #[.iface tp p]) ∧ (∃ tp p, B.var? PG "strconv.ErrRange" = some #[.iface tp p])

theorem var_keep {P : Program} {B w : World} {g : Gh} (h : GI B w g) {name : String} {x : Array Value} (hv : B.var? P name = some x) : w.var? P name = some x := by
  unfold World.var? at hv ⊢
  simp only [Option.bind_eq_some_iff] at hv ⊢
  obtain ⟨k, hk, hv⟩ := hv
  refine ⟨k, hk, ?_⟩
  have hlt : k < B.heap.size := by
    rcases Nat.lt_or_ge k B.heap.size with h' | h'
    · exact h'
    · rw [Array.getElem?_eq_none h'] at hv; cases hv
  rw [h.heap k hlt]; exact hv

def S_x_strconv_Itoa : Spec := fun args O Q => ∃ (n : Int), -9223372036854775808 ≤ n ∧ n ≤ 9223372036854775807 ∧ args = [iv n] ∧ Q (.d (.s (Lib.itoa n))) O
theorem v_x_strconv_Itoa {B : World} (hB : Tabs B) : Valid PG B x_strconv_Itoa S_x_strconv_Itoa := by
  refine valid_lib (fun args w => enters_of g_x_strconv_Itoa (by kernel_rfl) rfl args w) ?_
  rintro w g _ us O Q hG hv ⟨n, h0, h1, rfl, hQ⟩
  match us, hv with
  | [u1], ⟨h2, _⟩ =>
    have h2 : u1 = .int .i64 n := h2
    subst h2
    refine (Tryd.strconv_Itoa n h0 h1 w (var_keep hG hB.1)).mono ?_
    rintro e w' ⟨rfl, k, os, rfl⟩
    refine ⟨_, .d (.s (Lib.itoa n)), rfl, fun _ => rfl, hQ, ⟨rfl, rfl, rfl, by show w.heap.size ≤ (w.heap ++ os).size; simp, fun i hi => ?_⟩⟩
    show (w.heap ++ os)[i]? = _
    rw [Array.getElem?_append_left hi]

/-- strconv.Atoi -/
def S_x_strconv_Atoi : Spec := fun args O Q => ∃ (s : List UInt8), s.length ≤ 100000000000 ∧ args = [.d (.s s)] ∧ (∀ v, Lib.atoiAll s = .ok v → Q (.tup [iv v, .d (.v .nilIface)]) O) ∧
  ((∀ v, Lib.atoiAll s ≠ .ok v) → ∀ (n : Int) (t : TypeId) (x : Value), Q (.tup [iv n, .d (.v (.iface t x))]) O)
theorem v_x_strconv_Atoi {B : World} (hB : Tabs B) : Valid PG B x_strconv_Atoi S_x_strconv_Atoi := by
  refine valid_lib (fun args w => enters_of g_x_strconv_Atoi (by kernel_rfl) rfl args w) ?_
  rintro w g _ us O Q hG hv ⟨s, hl, rfl, hQ, hE⟩
  match us, hv with
  | [u1], ⟨h2, _⟩ =>
    have h2 : u1 = .string ⟨s.toArray⟩ := h2
    subst h2
    have hsz : (⟨s.toArray⟩ : ByteArray).size = s.length := by rw [Lib.size_eq]
    obtain ⟨_, ⟨tp, p, hs⟩, ⟨tp2, p2, hr⟩⟩ := hB
    cases ha : Lib.atoiAll s with
    | ok v =>
      refine (Tryd.strconv_Atoi_ok ⟨s.toArray⟩ (by rw [hsz]; omega) v ha w).mono ?_
      rintro e w' ⟨rfl, hw⟩
      refine ⟨_, .tup [iv v, .d (.v .nilIface)], rfl, fun _ => ⟨[_, _], rfl, rfl, ⟨rfl, rfl⟩, trivial⟩, hQ v ha, ?_⟩
      rcases hw with rfl | ⟨t, rfl⟩
      · exact below_same _
      · exact ⟨rfl, rfl, rfl, by rw [Lib.bytesWorld_size]; omega, fun i hi => Lib.bytesWorld_at_old w 5 t i (by omega)⟩
    | range =>
      refine (Tryd.strconv_Atoi_range_var ⟨s.toArray⟩ (by rw [hsz]; omega) ha tp2 p2 w (var_keep hG hr)).mono ?_
      rintro e w' ⟨N, rfl, _, _, hw⟩
      exact ⟨_, .tup [iv (Lib.atoiSat s), .d (.v (.iface _ (.pointer (some ⟨N, 0, none⟩))))], rfl, fun _ => ⟨[_, _], rfl, rfl, ⟨rfl, rfl⟩, trivial⟩, hE (by rw [ha]; intro v e; cases e) _ _ _, hw⟩
    | _ =>
      refine (Tryd.strconv_Atoi_syntax_var ⟨s.toArray⟩ (by rw [hsz]; omega) (by rw [ha]; exact ⟨fun v e => (by cases e), fun e => (by cases e)⟩) tp p w (var_keep hG hs)).mono ?_
      rintro e w' ⟨N, rfl, _, _, hw⟩
      exact ⟨_, .tup [iv 0, .d (.v (.iface _ (.pointer (some ⟨N, 0, none⟩))))], rfl, fun _ => ⟨[_, _], rfl, rfl, ⟨rfl, rfl⟩, trivial⟩, hE (by rw [ha]; intro v e; cases e) _ _ _, hw⟩
end Ab
