/- The frame 'Ab' is sound, fourth part: what reads, and nothing else, comes to what it is told. -/
import Derived.Test.YtnhjclenankhoaaDoorAb7
import Derived.Lib.Strings
import Derived.Lib.SmallJoins
set_option linter.all false
namespace Ab
open Go
set_option linter.unusedSimpArgs false
set_option linter.unusedVariables false

section
variable {P : Program} {τ : Tab} {w : World} {g : Gh} {O : List Obj}

theorem wrap_in {k : IntKind} {n : Int} (h1 : k.min ≤ n) (h2 : n ≤ k.max) : k.wrap n = n := by
  cases k <;> simp [IntKind.wrap, IntKind.min, IntKind.max, IntKind.bits, IntKind.signed] at * <;> omega

theorem boolOf_val {x : AV} {b : Bool} {u : Value} (h : boolOf x = some b) (hv : Val g x u) : u = .bool b := by
  unfold boolOf at h
  split at h <;> simp at h <;> subst h <;> simpa [Val, DVal] using hv

theorem intK_sound {op : BinOp} {k : IntKind} {a b : Int} {K : AV → Prop} (t : TypeId) (h : intK op k a b K) :
    ∃ v u, K v ∧ Val g v u ∧ (Go.binOp op t (.int k a) (.int k b)).run P w = .ok u w := by
  cases op <;> simp only [intK] at h
  case add => obtain ⟨h1, h2, h⟩ := h; exact ⟨_, _, h, rfl, by simp [Go.binOp, Op.intArith, wrap_in h1 h2]⟩
  case sub => obtain ⟨h1, h2, h⟩ := h; exact ⟨_, _, h, rfl, by simp [Go.binOp, Op.intArith, wrap_in h1 h2]⟩
  case mul => obtain ⟨h1, h2, h⟩ := h; exact ⟨_, _, h, rfl, by simp [Go.binOp, Op.intArith, wrap_in h1 h2]⟩
  case quo => obtain ⟨h0, h1, h2, h⟩ := h; exact ⟨_, _, h, rfl, by simp [Go.binOp, Op.intDiv, h0, wrap_in h1 h2]⟩
  case rem => obtain ⟨h0, h⟩ := h; exact ⟨_, _, h, rfl, by simp [Go.binOp, Op.intDiv, h0]⟩
  case and => exact ⟨_, _, h, rfl, by simp [Go.binOp, Op.intBits, bitsOp]⟩
  case or => exact ⟨_, _, h, rfl, by simp [Go.binOp, Op.intBits, bitsOp]⟩
  case xor => exact ⟨_, _, h, rfl, by simp [Go.binOp, Op.intBits, bitsOp]⟩
  case andNot => exact ⟨_, _, h, rfl, by simp [Go.binOp, Op.intBits, bitsOp]⟩
  case eql => exact ⟨_, _, h, rfl, by simp [Go.binOp, Op.intCmp]⟩
  case neq => exact ⟨_, _, h, rfl, by simp [Go.binOp, Op.intCmp]⟩
  case lss => exact ⟨_, _, h, rfl, by simp [Go.binOp, Op.intCmp]⟩
  case leq => exact ⟨_, _, h, rfl, by simp [Go.binOp, Op.intCmp]⟩
  case gtr => exact ⟨_, _, h, rfl, by simp [Go.binOp, Op.intCmp]⟩
  case geq => exact ⟨_, _, h, rfl, by simp [Go.binOp, Op.intCmp]⟩

theorem size_mk (l : List UInt8) : (⟨l.toArray⟩ : ByteArray).size = l.length := by simp [ByteArray.size]
theorem append_mk (a b : List UInt8) : (⟨a.toArray⟩ : ByteArray) ++ ⟨b.toArray⟩ = ⟨(a ++ b).toArray⟩ := by
  apply ByteArray.ext
  apply Array.ext'
  rw [Joins.data_append]

theorem toList_mk' (l : List UInt8) : (⟨l.toArray⟩ : ByteArray).toList = l := by rw [ByteArray.toList_eq]

theorem strK_sound {op : BinOp} {a b : List UInt8} {K : AV → Prop} (t : TypeId) (h : strK op a b K) :
    ∃ v u, K v ∧ Val g v u ∧ (Go.binOp op t (.string ⟨a.toArray⟩) (.string ⟨b.toArray⟩)).run P w = .ok u w := by
  cases op <;> simp only [strK] at h
  case add =>
    obtain ⟨h1, h⟩ := h
    refine ⟨_, _, h, rfl, ?_⟩
    have : ¬ ((((⟨a.toArray⟩ : ByteArray).size + (⟨b.toArray⟩ : ByteArray).size : Nat) : Int) > IntKind.i64.max) := by
      rw [size_mk, size_mk]; simp [IntKind.max, IntKind.signed, IntKind.bits]; omega
    simp only [Go.binOp, Op.stringOp]
    rw [if_neg this]
    simp [append_mk]
  case eql => exact ⟨_, _, h, rfl, by simp [Go.binOp, Op.stringOp, toList_mk']⟩
  case neq => exact ⟨_, _, h, rfl, by simp [Go.binOp, Op.stringOp, toList_mk']⟩
  all_goals exact h.elim

theorem guard_int (op : BinOp) (t : TypeId) (x y : Operand) (k k' : IntKind) (a b : Int) : (eqGuard op t x y (.int k a) (.int k' b)).run P w = .ok () w := by
  unfold eqGuard; split <;> simp
theorem guard_str (op : BinOp) (t : TypeId) (x y : Operand) (a b : ByteArray) : (eqGuard op t x y (.string a) (.string b)).run P w = .ok () w := by
  unfold eqGuard; split <;> simp
theorem guard_bool (op : BinOp) (t : TypeId) (x y : Operand) (a b : Bool) : (eqGuard op t x y (.bool a) (.bool b)).run P w = .ok () w := by
  unfold eqGuard; split <;> simp

theorem isNilI_val {x : AV} {b : Bool} {u : Value} (h : isNilI x = some b) (hv : Val g x u) :
    (b = true ∧ u = .nilIface) ∨ (b = false ∧ ∃ t y, u = .iface t y) := by
  unfold isNilI at h
  split at h <;> simp at h <;> subst h
  · left; exact ⟨rfl, hv.1⟩
  · right; exact ⟨rfl, ⟨_, _, hv.1⟩⟩
  · right; obtain ⟨us, hu, _⟩ := hv; exact ⟨rfl, ⟨_, _, hu⟩⟩
  · right; obtain ⟨us, hu, _⟩ := hv; exact ⟨rfl, ⟨_, _, hu⟩⟩
  · right; obtain ⟨us, hu, _⟩ := hv; exact ⟨rfl, ⟨_, _, hu⟩⟩
theorem isNilF_val {x : AV} {b : Bool} {u : Value} (h : isNilF x = some b) (hv : Val g x u) :
    (b = true ∧ u = .nilFunc) ∨ (b = false ∧ ∃ f a c, u = .func f a c) := by
  unfold isNilF at h
  split at h <;> simp at h <;> subst h
  · left; exact ⟨rfl, hv.1⟩
  · right; obtain ⟨us, hu, _⟩ := hv; exact ⟨rfl, ⟨_, _, _, hu⟩⟩

theorem equal_step {t : TypeId} {d : TypeDesc} {x y : Value} (hu : P.underlying t = some d) :
    (Op.equal t x y).run P w = (Op.equalIn (9999 + 1) t x y).run P w := rfl
theorem eq_nilI {t : TypeId} {ms} (hu : P.underlying t = some (.interface ms)) : (Op.equal t .nilIface .nilIface).run P w = .ok true w := by
  rw [equal_step hu, Op.equalIn, Sem.run_bind, run_underlying hu]; rfl
theorem eq_someI {t : TypeId} {ms} {a : TypeId} {b : Value} (hu : P.underlying t = some (.interface ms)) : (Op.equal t (.iface a b) .nilIface).run P w = .ok false w := by
  rw [equal_step hu, Op.equalIn, Sem.run_bind, run_underlying hu]; rfl
theorem eq_nilF {t : TypeId} {a b c} (hu : P.underlying t = some (.func a b c)) : (Op.equal t .nilFunc .nilFunc).run P w = .ok true w := by
  rw [equal_step hu, Op.equalIn, Sem.run_bind, run_underlying hu]; rfl
theorem eq_someF {t : TypeId} {a b c} {f : Fn} {x y : Array Value} (hu : P.underlying t = some (.func a b c)) : (Op.equal t (.func f x y) .nilFunc).run P w = .ok false w := by
  rw [equal_step hu, Op.equalIn, Sem.run_bind, run_underlying hu]; rfl
theorem eq_bool {t : TypeId} {a b : Bool} (hu : P.underlying t = some .bool) : (Op.equal t (.bool a) (.bool b)).run P w = .ok (a == b) w := by
  rw [equal_step hu, Op.equalIn, Sem.run_bind, run_underlying hu]; rfl

/-- '==' and '!=' where Go's own equality is asked -/
theorem eqop {t : TypeId} {x y : Operand} {a b : Value} {r : Bool} (hg : (eqGuard .eql t x y a b).run P w = .ok () w) (hq : (Op.equal t a b).run P w = .ok r w)
    (hb : Go.binOp .eql t a b = (do pure (.bool (← Op.equal t a b)))) : ((do eqGuard .eql t x y a b; Go.binOp .eql t a b) : Sem Value).run P w = .ok (.bool r) w := by
  rw [hb]; simp [hg, hq]
theorem neop {t : TypeId} {x y : Operand} {a b : Value} {r : Bool} (hg : (eqGuard .neq t x y a b).run P w = .ok () w) (hq : (Op.equal t a b).run P w = .ok r w)
    (hb : Go.binOp .neq t a b = (do pure (.bool (!(← Op.equal t a b))))) : ((do eqGuard .neq t x y a b; Go.binOp .neq t a b) : Sem Value).run P w = .ok (.bool (!r)) w := by
  rw [hb]; simp [hg, hq]

theorem bAV_val (b : Bool) : Val g (bAV b) (.bool b) := by cases b <;> rfl

theorem nilK_sound (hτ : Tok P τ) {e : Operand → AV} {ev : Operand → Value} (he : ∀ x, Val g (e x) (ev x)) {op : BinOp} {t : TypeId} {x y : Operand} {K : AV → Prop}
    (hc : constNil y = true) (h : nilK τ op t (e x) (e y) K) :
    ∃ v u, K v ∧ Val g v u ∧ ((do eqGuard op t x y (ev x) (ev y); Go.binOp op t (ev x) (ev y)) : Sem Value).run P w = .ok u w := by
  have hcy : ∃ c, y = .const c := by
    unfold constNil at hc; split at hc <;> first | exact ⟨_, rfl⟩ | cases hc
  obtain ⟨c, rfl⟩ := hcy
  unfold nilK at h
  split at h
  · rename_i hk hy
    have tk1 := hτ.of_kind (t := t) (by rw [hk]; simp)
    have hkd := tk1.kind
    rw [kindOk, hk] at hkd
    obtain ⟨ms, hu⟩ := hkd
    have hey : ev (.const c) = .nilIface := by have := he (.const c); rw [hy] at this; exact this.1
    split at h
    · rename_i b hb
      rw [hey]
      rcases isNilI_val hb (he x) with ⟨rfl, hx⟩ | ⟨rfl, t', y', hx⟩ <;> rw [hx]
      · split at h
        · exact ⟨_, _, h, bAV_val _, eqop (by simp [eqGuard]) (eq_nilI hu) rfl⟩
        · exact ⟨_, _, h, bAV_val _, neop (by simp [eqGuard]) (eq_nilI hu) rfl⟩
        · exact h.elim
      · split at h
        · exact ⟨_, _, h, bAV_val _, eqop (by simp [eqGuard]) (eq_someI hu) rfl⟩
        · exact ⟨_, _, h, bAV_val _, neop (by simp [eqGuard]) (eq_someI hu) rfl⟩
        · exact h.elim
    · exact h.elim
  · rename_i hk hy
    have tk1 := hτ.of_kind (t := t) (by rw [hk]; simp)
    have hkd := tk1.kind
    rw [kindOk, hk] at hkd
    obtain ⟨a, b, c', hu⟩ := hkd
    have hey : ev (.const c) = .nilFunc := by have := he (.const c); rw [hy] at this; exact this.1
    split at h
    · rename_i b hb
      rw [hey]
      rcases isNilF_val hb (he x) with ⟨rfl, hx⟩ | ⟨rfl, t', y', z', hx⟩ <;> rw [hx]
      · split at h
        · exact ⟨_, _, h, bAV_val _, eqop (by simp [eqGuard]) (eq_nilF hu) rfl⟩
        · exact ⟨_, _, h, bAV_val _, neop (by simp [eqGuard]) (eq_nilF hu) rfl⟩
        · exact h.elim
      · split at h
        · exact ⟨_, _, h, bAV_val _, eqop (by simp [eqGuard]) (eq_someF hu) rfl⟩
        · exact ⟨_, _, h, bAV_val _, neop (by simp [eqGuard]) (eq_someF hu) rfl⟩
        · exact h.elim
    · exact h.elim
  · exact h.elim

theorem binK_sound (hτ : Tok P τ) {e : Operand → AV} {ev : Operand → Value} (he : ∀ x, Val g (e x) (ev x)) {op : BinOp} {t : TypeId} {x y : Operand} {K : AV → Prop}
    (h : binK τ op t (e x) (e y) K) :
    ∃ v u, K v ∧ Val g v u ∧ ((do eqGuard op t x y (ev x) (ev y); Go.binOp op t (ev x) (ev y)) : Sem Value).run P w = .ok u w := by
  unfold binK at h
  split at h
  · rename_i k a k' b hx hy
    split at h
    · rename_i hk
      have := kq_eq hk; subst this
      have h1 : ev x = .int k a := by have := he x; rw [hx] at this; exact this
      have h2 : ev y = .int k b := by have := he y; rw [hy] at this; exact this
      obtain ⟨v, u, hK, hv, hr⟩ := intK_sound (P := P) (w := w) (g := g) t h
      exact ⟨v, u, hK, hv, by rw [h1, h2]; simp [guard_int, hr]⟩
    · exact h.elim
  · rename_i a b hx hy
    have h1 : ev x = .string ⟨a.toArray⟩ := by have := he x; rw [hx] at this; exact this
    have h2 : ev y = .string ⟨b.toArray⟩ := by have := he y; rw [hy] at this; exact this
    obtain ⟨v, u, hK, hv, hr⟩ := strK_sound (P := P) (w := w) (g := g) t h
    exact ⟨v, u, hK, hv, by rw [h1, h2]; simp [guard_str, hr]⟩
  · unfold boolK at h
    split at h
    · rename_i a b hk ha hb
      have h1 := boolOf_val ha (he x)
      have h2 := boolOf_val hb (he y)
      have tk1 := hτ.of_kind (t := t) (by rw [hk]; simp)
      have hu := tk1.kind
      rw [kindOk, hk] at hu
      dsimp only at hu
      rw [h1, h2]
      split at h
      · exact ⟨_, _, h, rfl, eqop (guard_bool _ _ _ _ _ _) (eq_bool hu) rfl⟩
      · exact ⟨_, _, h, rfl, neop (guard_bool _ _ _ _ _ _) (eq_bool hu) rfl⟩
      · exact h.elim
    · exact h.elim
end
end Ab
