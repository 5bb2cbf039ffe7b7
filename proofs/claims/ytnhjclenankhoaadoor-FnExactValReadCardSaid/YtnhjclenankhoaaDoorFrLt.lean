/- Contracts of functions of the program, by the frame 'Ab'. -/
import Derived.Test.YtnhjclenankhoaaDoorFrL
import Derived.Test.YtnhjclenankhoaaDoorFrE
import Derived.Shelf.Strings.SlTrimAscii
set_option linter.all false
namespace Ab
open Go Go.Proofs Go.RowKit Go.Shelf
set_option maxRecDepth 10000
set_option maxHeartbeats 4000000
set_option linter.all false

/-- strings.TrimLeft at an ASCII cutset -/
def S_x_strings_TrimLeft : Spec := fun args O Q => ∃ (s p : List UInt8), p.length < 1000 ∧ (∀ b ∈ p, b.toNat < 128) ∧ args = [.d (.s s), .d (.s p)] ∧ Q (.d (.s (Lib.trimLeftS s p))) O
theorem v_x_strings_TrimLeft {B : World} : Valid PG B x_strings_TrimLeft S_x_strings_TrimLeft := by
  refine valid_lib (fun args w => enters_of g_x_strings_TrimLeft (by kernel_rfl) rfl args w) ?_
  rintro w g _ us O Q hG hv ⟨s, p, hl, ha, rfl, hQ⟩
  match us, hv with
  | [u1, u2], ⟨h1, h2, _⟩ =>
    have h1 : u1 = .string ⟨s.toArray⟩ := h1
    have h2 : u2 = .string ⟨p.toArray⟩ := h2
    subst h1; subst h2
    have hc := Any.strings_TrimLeft_laid Tryd.lays161 (by kernel_rfl) ⟨s.toArray⟩ ⟨p.toArray⟩ w (by rw [Lib.size_eq]; simp; omega) (fun j b hb => ha b (List.mem_of_getElem? hb))
    refine Calls.mono (f := x_strings_TrimLeft) hc ?_
    rintro e w' ⟨rfl, hB⟩
    exact ⟨_, .d (.s (Lib.trimLeftS s p)), rfl, fun _ => rfl, hQ, hB⟩

end Ab
