/- The frame 'Ab' is sound, fourteenth part: what a reading operation yields, apart from what follows; the order of a region. -/
import Derived.Test.YtnhjclenankhoaaDoorAbH
set_option linter.all false
namespace Ab
open Go
set_option linter.unusedSimpArgs false
set_option linter.unusedVariables false

section
variable {P : Program} {τ : Tab} {O : List Obj} {e : Operand → AV} {K : AV → Prop}

/-- A continuation that is reached with one value. -/
def Inv1 (R : (AV → Prop) → Prop) : Prop := ∀ K, R K → ∃ v, K v ∧ ∀ K' : AV → Prop, K' v → R K'

theorem Inv1.k (v : AV) : Inv1 fun K => K v := fun K h => ⟨v, h, fun _ h' => h'⟩
theorem Inv1.no : Inv1 fun _ => False := fun K h => h.elim
theorem Inv1.rng {k : IntKind} {n : Int} {R : (AV → Prop) → Prop} (h : Inv1 R) : Inv1 fun K => Rng k n (R K) := fun K ⟨h1, h2, h3⟩ => by
  obtain ⟨v, h4, h5⟩ := h K h3
  exact ⟨v, h4, fun K' h' => ⟨h1, h2, h5 K' h'⟩⟩
theorem Inv1.req {c : Prop} {R : (AV → Prop) → Prop} (h : Inv1 R) : Inv1 fun K => Req c (R K) := fun K ⟨h1, h3⟩ => by
  obtain ⟨v, h4, h5⟩ := h K h3
  exact ⟨v, h4, fun K' h' => ⟨h1, h5 K' h'⟩⟩
theorem Inv1.ex {α : Type} {p : α → Prop} {R : α → (AV → Prop) → Prop} (h : ∀ x, Inv1 (R x)) : Inv1 fun K => ∃ x, p x ∧ R x K := fun K ⟨x, h1, h3⟩ => by
  obtain ⟨v, h4, h5⟩ := h x K h3
  exact ⟨v, h4, fun K' h' => ⟨x, h1, h5 K' h'⟩⟩
theorem Inv1.bnd {len : Nat} {lo hi : Option AV} {R : Nat → Nat → (AV → Prop) → Prop} (h : ∀ a b, Inv1 (R a b)) : Inv1 fun K => bndK len lo hi fun a b => R a b K := by
  unfold bndK
  split
  · exact h _ _
  · split
    · exact (h _ _).req
    · exact .no
  · split
    · exact (h _ _).req
    · exact .no
  · split
    · exact (h _ _).req
    · exact .no
theorem Inv1.fDs {r : List DV} {R : List DV → (AV → Prop) → Prop} (h : ∀ x, Inv1 (R x)) : Inv1 fun K => fDs r fun r' => R r' K := by
  simp only [fDs_eq]; exact h r
theorem Inv1.load {t : Nat} {cs : List AV} : Inv1 fun K => loadK τ t cs K := by
  unfold loadK
  dsimp only
  split
  · split
    · exact .k _
    · split
      · exact .k _
      · exact .no
  · exact .no
theorem Inv1.int {op : BinOp} {k : IntKind} {a b : Int} : Inv1 fun K => intK op k a b K := by
  cases op <;> unfold intK <;> first | exact .k _ | exact (Inv1.k _).rng | exact (Inv1.k _).rng.req | exact (Inv1.k _).req | exact .no
theorem Inv1.str {op : BinOp} {a b : List UInt8} : Inv1 fun K => strK op a b K := by
  cases op <;> unfold strK <;> first | exact .k _ | exact (Inv1.k _).req | exact .no

theorem evK_inv1 (o : Op) : Inv1 fun K => evK τ o e O K := by
  cases o <;> try exact .no
  all_goals unfold evK
  all_goals try exact .k _
  case binOp op t x y u =>
    dsimp only
    split
    · unfold nilK
      (repeat' split) <;> first | exact .k _ | exact .no
    · unfold binK
      split
      · split
        · exact .int
        · exact .no
      · exact .str
      · unfold boolK
        (repeat' split) <;> first | exact .k _ | exact .no
  all_goals dsimp only
  all_goals (repeat' split)
  all_goals first
    | exact .k _
    | exact .no
    | exact .load
    | exact (Inv1.k _).rng
    | exact (Inv1.k _).req
    | exact Inv1.ex fun _ => .load
    | exact (Inv1.ex fun _ => Inv1.k _).req
    | exact (Inv1.ex fun _ => Inv1.fDs fun _ => Inv1.k _).req
    | exact Inv1.bnd fun _ _ => Inv1.k _

theorem evK_nl {o : Op} (h : isLoad o = false) (O' : List Obj) (hk : evK τ o e O K) : evK τ o e O' K := by
  cases o <;> first | exact hk | cases h

/-! ### The order of a region -/
theorem uni_mem : ∀ {xs ys : List Nat} {n : Nat}, n ∈ uni xs ys ↔ n ∈ xs ∨ n ∈ ys
  | [], ys, n => by simp [uni]
  | x :: xs, ys, n => by
    unfold uni
    split
    · rename_i h
      rw [uni_mem]
      have := (hasN_iff _ _).1 h
      constructor
      · rintro (h | h)
        · exact .inl (List.mem_cons_of_mem _ h)
        · exact .inr h
      · rintro (h | h)
        · rcases List.mem_cons.1 h with rfl | h
          · exact .inr this
          · exact .inl h
        · exact .inr h
    · rw [uni_mem]; simp only [List.mem_cons]
      constructor
      · rintro (h | h | h) <;> simp [h]
      · rintro ((h | h) | h) <;> simp [h]

theorem close_mem {acc : List (List Nat)} : ∀ {js : List Nat} {n : Nat}, n ∈ close acc js ↔ ∃ j ∈ js, n = j ∨ n ∈ nth acc j []
  | [], n => by simp [close]
  | j :: js, n => by
    simp only [close, uni_mem, List.mem_cons, close_mem (js := js)]
    constructor
    · rintro ((h | h) | ⟨j', h1, h2⟩)
      · exact ⟨j, .inl rfl, .inl h⟩
      · exact ⟨j, .inl rfl, .inr h⟩
      · exact ⟨j', .inr h1, h2⟩
    · rintro ⟨j', rfl | h1, h2⟩
      · exact .inl h2
      · exact .inr ⟨j', h1, h2⟩

theorem nth_append_left {α : Type} {d : α} {l m : List α} {n : Nat} (h : n < l.length) : nth (l ++ m) n d = nth l n d := by
  simp only [nth_eq, List.getD_eq_getElem?_getD]
  rw [List.getElem?_append_left h]

theorem preds_prefix : ∀ (ops : List Oper) (acc : List (List Nat)), ∃ rest, preds ops acc = acc ++ rest ∧ rest.length = ops.length ∧
    ∀ i o, ops[i]? = some o → ∀ x, x ∈ nth (preds ops acc) (acc.length + i) [] ↔ ∃ j ∈ after1 o.after.toList, x = j ∨ (j < acc.length + i ∧ x ∈ nth (preds ops acc) j [])
  | [], acc => ⟨[], by simp [preds], rfl, fun i o h => by simp at h⟩
  | o :: ops, acc => by
    have hp : preds (o :: ops) acc = preds ops (acc ++ [close acc (after1 o.after.toList)]) := by simp [preds, ap_eq]
    obtain ⟨rest, h1, h2, h3⟩ := preds_prefix ops (acc ++ [close acc (after1 o.after.toList)])
    refine ⟨close acc (after1 o.after.toList) :: rest, by rw [hp, h1]; simp, by simp [h2], fun i o' hi x => ?_⟩
    cases i with
    | zero =>
      simp at hi; subst hi
      rw [hp, h1]
      have e1 : nth (acc ++ [close acc (after1 o.after.toList)] ++ rest) (acc.length + 0) [] = close acc (after1 o.after.toList) := by
        simp [nth_eq, List.getD_eq_getElem?_getD]
      rw [e1, close_mem]
      constructor
      · rintro ⟨j, hj, h | h⟩
        · exact ⟨j, hj, .inl h⟩
        · have hlt : j < acc.length := by
            rcases Nat.lt_or_ge j acc.length with h' | h'
            · exact h'
            · rw [nth_eq, List.getD_eq_getElem?_getD, List.getElem?_eq_none h'] at h; simp at h
          refine ⟨j, hj, .inr ⟨by omega, ?_⟩⟩
          rw [List.append_assoc, nth_append_left hlt]; exact h
      · rintro ⟨j, hj, h | ⟨h0, h⟩⟩
        · exact ⟨j, hj, .inl h⟩
        · rw [List.append_assoc, nth_append_left (by omega)] at h
          exact ⟨j, hj, .inr h⟩
    | succ i =>
      have := h3 i o' (by simpa using hi) x
      rw [hp]
      simp only [List.length_append, List.length_singleton] at this
      rw [show acc.length + (i + 1) = acc.length + 1 + i by omega]
      exact this

theorem mem_preds {ops : List Oper} {i : Nat} {o : Oper} (h : ops[i]? = some o) {x : Nat} :
    x ∈ nth (preds ops []) i [] ↔ ∃ j ∈ after1 o.after.toList, x = j ∨ (j < i ∧ x ∈ nth (preds ops []) j []) := by
  obtain ⟨rest, _, _, h3⟩ := preds_prefix ops []
  simpa using h3 i o h x

theorem mem_after1 : ∀ {es : List Edge} {j : Nat}, j ∈ after1 es ↔ ∃ e ∈ es, Region.binds .any e = true ∧ e.on = j
  | [], j => by simp [after1]
  | e :: es, j => by
    unfold after1
    split
    · rename_i h
      simp only [List.mem_cons, mem_after1 (es := es)]
      constructor
      · rintro (h' | ⟨e', h1, h2, h3⟩)
        · exact ⟨e, .inl rfl, h, h'.symm⟩
        · exact ⟨e', .inr h1, h2, h3⟩
      · rintro ⟨e', rfl | h1, h2, h3⟩
        · exact .inl h3.symm
        · exact .inr ⟨e', h1, h2, h3⟩
    · rename_i h
      simp only [mem_after1 (es := es), List.mem_cons]
      constructor
      · rintro ⟨e', h1, h2⟩
        exact ⟨e', .inr h1, h2⟩
      · rintro ⟨e', rfl | h1, h2, h3⟩
        · rw [h2] at h; cases h
        · exact ⟨e', h1, h2, h3⟩

theorem allIn_iff {D : List Nat} : ∀ {js : List Nat}, allIn D js = true ↔ ∀ j ∈ js, j ∈ D
  | [] => by simp [allIn]
  | j :: js => by
    unfold allIn
    split
    · rename_i h
      simp [allIn_iff (js := js), (hasN_iff _ _).1 h]
    · rename_i h
      simp only [Bool.false_eq_true, false_iff]
      intro h'
      have := (hasN_iff _ _).2 (h' j (by simp))
      rw [this] at h; cases h

theorem mem_upto : ∀ {n i k : Nat}, k ∈ upto n i ↔ i ≤ k ∧ k < i + n
  | 0, i, k => by simp [upto]
  | n + 1, i, k => by
    simp only [upto, List.mem_cons, mem_upto (n := n)]
    omega

theorem mem_outs : ∀ {ops : List Oper} {D : List Nat} {i0 t : Nat}, t ∈ outs ops D i0 ↔ ∃ (i : Nat) (o : Oper), ops[i]? = some o ∧ o.dst = some t ∧ i0 + i ∉ D
  | [], D, i0, t => by simp [outs]
  | o :: ops, D, i0, t => by
    have key : (∃ (i : Nat) (o' : Oper), (o :: ops)[i]? = some o' ∧ o'.dst = some t ∧ i0 + i ∉ D) ↔
        (o.dst = some t ∧ i0 ∉ D) ∨ ∃ (i : Nat) (o' : Oper), ops[i]? = some o' ∧ o'.dst = some t ∧ (i0 + 1) + i ∉ D := by
      constructor
      · rintro ⟨i, o', h1, h2, h3⟩
        cases i with
        | zero => simp at h1; subst h1; exact .inl ⟨h2, by simpa using h3⟩
        | succ i => exact .inr ⟨i, o', by simpa using h1, h2, by rw [show i0 + 1 + i = i0 + (i + 1) by omega]; exact h3⟩
      · rintro (⟨h1, h2⟩ | ⟨i, o', h1, h2, h3⟩)
        · exact ⟨0, o, by simp, h1, by simpa using h2⟩
        · exact ⟨i + 1, o', by simpa using h1, h2, by rw [show i0 + (i + 1) = i0 + 1 + i by omega]; exact h3⟩
    rw [key]
    unfold outs
    split
    · rename_i hd
      rw [mem_outs]; simp [hd]
    · rename_i d hd
      split
      · rename_i h
        have := (hasN_iff _ _).1 h
        rw [mem_outs]; simp [this]
      · rename_i h
        have : i0 ∉ D := fun h' => by rw [(hasN_iff _ _).2 h'] at h; cases h
        rw [List.mem_cons, mem_outs]; simp [hd, this, eq_comm]

theorem dstOk_spec {n : Nat} : ∀ {ops : List Oper} {T : List Nat}, dstOk n ops T = true →
    (∀ (i : Nat) (o : Oper) d, ops[i]? = some o → o.dst = some d → d < n ∧ d ∉ T) ∧
    (∀ (i j : Nat) (o o' : Oper) d, ops[i]? = some o → ops[j]? = some o' → o.dst = some d → o'.dst = some d → i = j)
  | [], T, _ => ⟨fun i o d h => by simp at h, fun i j o o' d h => by simp at h⟩
  | x :: ops, T, h => by
    unfold dstOk at h
    split at h
    · rename_i hx
      obtain ⟨h1, h2⟩ := dstOk_spec h
      refine ⟨fun i o d hi hd => ?_, fun i j o o' d hi hj hd hd' => ?_⟩
      · cases i with
        | zero => simp at hi; subst hi; rw [hx] at hd; cases hd
        | succ i => exact h1 i o d (by simpa using hi) hd
      · cases i with
        | zero => simp at hi; subst hi; rw [hx] at hd; cases hd
        | succ i =>
          cases j with
          | zero => simp at hj; subst hj; rw [hx] at hd'; cases hd'
          | succ j => rw [h2 i j o o' d (by simpa using hi) (by simpa using hj) hd hd']
    · rename_i d0 hx
      split at h
      · rename_i hlt hT
        have hlt := Nat.le_of_ble_eq_true hlt
        have hT : d0 ∉ T := fun h' => by rw [(hasN_iff _ _).2 h'] at hT; cases hT
        obtain ⟨h1, h2⟩ := dstOk_spec h
        refine ⟨fun i o d hi hd => ?_, fun i j o o' d hi hj hd hd' => ?_⟩
        · cases i with
          | zero => simp at hi; subst hi; rw [hx] at hd; simp at hd; subst hd; exact ⟨hlt, hT⟩
          | succ i =>
            obtain ⟨h3, h4⟩ := h1 i o d (by simpa using hi) hd
            exact ⟨h3, fun h' => h4 (List.mem_cons_of_mem _ h')⟩
        · cases i with
          | zero =>
            simp at hi; subst hi
            rw [hx] at hd; simp at hd; subst hd
            cases j with
            | zero => rfl
            | succ j => exact absurd (by simp) (h1 j o' d0 (by simpa using hj) hd').2
          | succ i =>
            cases j with
            | zero =>
              simp at hj; subst hj
              rw [hx] at hd'; simp at hd'; subst hd'
              exact absurd (by simp) (h1 i o d0 (by simpa using hi) hd).2
            | succ j => rw [h2 i j o o' d (by simpa using hi) (by simpa using hj) hd hd']
      · cases h
end
end Ab
