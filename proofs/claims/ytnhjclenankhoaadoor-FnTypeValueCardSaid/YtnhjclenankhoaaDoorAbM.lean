/- The frame 'Ab': facts on types in the form in which the kernel reckons them. -/
import Derived.Test.YtnhjclenankhoaaDoorAbL
set_option linter.all false
namespace Ab
open Go

theorem tok_of {P : Program} {t : Nat} {i : TI}
    (h1 : (P.info? t).map (fun ti => (ti.size, ti.bytes)) = some (i.size, i.bytes))
    (h2 : ((P.info? t).bind (·.zero)).map (fun z => z.cells.toList.map vD) = some i.zero)
    (h3 : ((P.info? t).bind (·.zero)).map (fun z => z.cells.size) = some i.size)
    (h4 : ((P.info? t).bind (·.zero)) = ((P.info? t).bind (·.zero)).map (fun z => match i.agg with | true => .agg z.cells | false => z.cells.getD 0 undef))
    (h5 : ((P.info? t).bind (·.zero)).map (fun z => z.cells.toList.all oneV) = some true)
    (h6 : (P.underlying t).map (fun d => match d with | .struct _ | .array _ _ => true | _ => false) = some i.agg)
    (h7 : kindOk P t i) (h8 : i.bytes ≤ 1024) : Tok1 P t i := by
  cases hi : P.info? t with
  | none => rw [hi] at h1; cases h1
  | some ti =>
    rw [hi] at h1 h2 h3 h4 h5
    simp only [Option.bind_some] at h2 h3 h4 h5
    cases hz : ti.zero with
    | none => rw [hz] at h2; cases h2
    | some z =>
      rw [hz] at h2 h3 h4 h5
      simp only [Option.map_some, Option.some.injEq] at h1 h2 h3 h4 h5
      simp only [Prod.mk.injEq] at h1
      refine ⟨⟨ti, z, hi, h1.1, h1.2, hz, h2, h3, h4, h5⟩, ?_, h7, h8⟩
      cases hu : P.underlying t with
      | none => rw [hu] at h6; cases h6
      | some d =>
        rw [hu] at h6
        simp only [Option.map_some, Option.some.injEq] at h6
        exact ⟨d, rfl, h6⟩

theorem kind_struct {P : Program} {t : Nat} {i : TI} (h : i.kind = .struct)
    (h2 : ((P.underlying t).bind fun d => match d with | .struct fs => some (fs.toList.map (fun f => (f.offset, f.type)), fs.toList.all fun f => (P.info? f.type).isSome) | _ => none) = some (i.fs, true)) : kindOk P t i := by
  unfold kindOk
  rw [h]
  cases hu : P.underlying t with
  | none => rw [hu] at h2; cases h2
  | some d =>
    rw [hu] at h2
    cases d <;> simp only [Option.bind_some, Option.some.injEq, Prod.mk.injEq, reduceCtorEq] at h2
    exact ⟨_, rfl, h2.1, h2.2⟩
theorem kind_iface {P : Program} {t : Nat} {i : TI} (h : i.kind = .iface)
    (h2 : ((P.underlying t).map fun d => match d with | .interface _ => true | _ => false) = some true) : kindOk P t i := by
  unfold kindOk
  rw [h]
  cases hu : P.underlying t with
  | none => rw [hu] at h2; cases h2
  | some d =>
    rw [hu] at h2
    cases d <;> simp at h2
    exact ⟨_, rfl⟩
theorem kind_func {P : Program} {t : Nat} {i : TI} (h : i.kind = .func)
    (h2 : ((P.underlying t).map fun d => match d with | .func _ _ _ => true | _ => false) = some true) : kindOk P t i := by
  unfold kindOk
  rw [h]
  cases hu : P.underlying t with
  | none => rw [hu] at h2; cases h2
  | some d =>
    rw [hu] at h2
    cases d <;> simp at h2
    exact ⟨_, _, _, rfl⟩
end Ab
