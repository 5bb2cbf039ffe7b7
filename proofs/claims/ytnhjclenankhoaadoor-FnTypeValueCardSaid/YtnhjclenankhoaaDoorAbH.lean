/- The frame 'Ab' is sound, thirteenth part: one operation of a region; regions that draw no order. -/
import Derived.Test.YtnhjclenankhoaaDoorAbG
set_option linter.all false
namespace Ab
open Go
set_option linter.unusedSimpArgs false
set_option linter.unusedVariables false

section
variable {P : Program} {τ : Tab} {w : World} {g : Gh} {O : List Obj}

/-- A state of a function's frame. -/
structure Fst (a : Act) (w : World) (g : Gh) (s : List AV) (O : List Obj) : Prop where
  sat : Sat w g O
  val : ValL g s a.tmps.toList
  dfr : a.defers = []

theorem Val_cv (g : Gh) (v : Value) : Val g (cv v) v := by
  cases v <;> simp [cv, Val, DVal, oneV]
  · rename_i b; cases b <;> simp [Val]

theorem Fst.eval {a : Act} {s : List AV} (h : Fst a w g s O) (x : Operand) : Val g (evo s x) (a.eval x) := by
  cases x with
  | tmp t =>
    have := ValL_get h.val t
    simp only [evo, nth_eq, Act.eval]
    rw [show a.tmps.getD t undef = a.tmps.toList.getD t undef by simp [Array.getD_eq_getD_getElem?, List.getD_eq_getElem?_getD]]
    exact this
  | const v => exact Val_cv g v
  | global b => exact ⟨rfl, rfl⟩
  | func f => exact ⟨[], rfl, trivial⟩

theorem Fst.put {a : Act} {s : List AV} {w' : World} {g' : Gh} {O' : List Obj} (h : Fst a w g s O) (hS : Sat w' g' O') (hl : g.le g') {v : AV} {u : Value} (hv : Val g' v u) (d : Option Nat) {k : List AV → Prop}
    (hk : putK s d v k) : ∃ s', k s' ∧ Fst (a.put d u) w' g' s' O' := by
  cases d with
  | none => exact ⟨s, hk, hS, ValL_mono hl _ _ h.val, h.dfr⟩
  | some d =>
    simp only [putK, stK_eq] at hk
    refine ⟨_, hk, hS, ?_, h.dfr⟩
    simp only [Act.put, Array.toList_setIfInBounds]
    exact ValL_set (ValL_mono hl _ _ h.val) d hv

theorem args_vals {e : Operand → AV} {ev : Operand → Value} (he : ∀ x, Val g (e x) (ev x)) : ∀ (xs : List Operand), ValL g (xs.map e) (xs.map ev)
  | [] => trivial
  | x :: xs => ⟨he x, args_vals he xs⟩

/-- One operation, carried out. -/
theorem op_sound (hτ : Tok P τ) {B : World} {Γ : Ctx} (hΓ : AllValid P B Γ) (hG : GI B w g) (hS : Sat w g O) {a : Act} {e : Operand → AV} (he : ∀ x, Val g (e x) (a.eval x)) (o : Oper) {K : AV → List Obj → Prop}
    (h : opK τ Γ o.op e O K) {next : Act → World → Prop} {Q : Exit → Act → World → Prop}
    (hn : ∀ v u O' w' g', K v O' → Val g' v u → Sat w' g' O' → g.le g' → Fr w w' g g' → next (a.put o.dst u) w') : o.wp P a w next Q := by
  unfold opK at h
  split at h
  · rename_i heff
    by_cases hnc : notCall o.op = true
    · obtain ⟨v, O', u, w', g', hK, hv, hS', hl, hf, hr⟩ := eff_sound hτ hS he o hnc h
      rw [fA_eq] at hK
      unfold Oper.wp
      rcases hr with hr | ⟨hr, rfl⟩
      · rw [hr]; exact hn v u O' w' g' hK hv hS' hl hf
      · rw [hr]; exact hn v undef O' w' g' hK hv hS' hl hf
    · obtain ⟨dst, op, ty, pos, aft, gd⟩ := o
      dsimp only at h hnc heff ⊢
      cases op <;> try (exact absurd rfl hnc)
      rename_i c
      obtain ⟨callee, args, ats⟩ := c
      cases callee with
      | builtin b => exact absurd rfl hnc
      | invoke r m => exact absurd rfl hnc
      | value f =>
        simp only [effK] at h
        split at h
        · rename_i n caps hf
          have hfv := he f
          rw [hf] at hfv
          obtain ⟨us, hu, hus⟩ := hfv
          rw [ap_eq, mp1_eq] at h
          have hargs := ValL_append (args_vals he args.toList) hus
          have hg := callK_sound hΓ hG hS hargs h
          have hex : execOp a.eval { dst := dst, op := .call { callee := .value f, args := args, argTypes := ats }, type := ty, pos := pos, after := aft, guard := gd } = callFunc n (args.toList.map a.eval ++ us).toArray := by
            simp only [execOp, resolve, hu, Deferred.ofValue]
            have : (#[] ++ args.map a.eval) ++ us.toArray = (args.toList.map a.eval ++ us).toArray := by
              apply Array.ext'; simp
            rw [← this]
            rfl
          unfold Oper.wp
          rw [hex]
          rcases hg with ⟨u, w', h1, v, O', g', hK, hv, hS', hl, hf⟩ | ⟨h1, h2⟩
          · rw [h1]
            rw [fA_eq] at hK
            exact hn v u O' w' g' hK hv hS' hl hf
          · rw [h1]
            refine h2.mono ?_
            rintro e' w' ⟨u, rfl, v, O', g', hK, hv, hS', hl, hf⟩
            rw [fA_eq] at hK
            exact hn v u O' w' g' hK hv hS' hl hf
        · exact h.elim
  · obtain ⟨v, u, hK, hv, hr⟩ := evK_sound hτ hS he (fun _ => rfl) (fun _ => rfl) o h
    rw [fA_eq] at hK
    unfold Oper.wp
    rw [hr]
    exact hn v u O w g hK hv hS (Gh.le_refl g) (Fr.refl w g)

/-! ### Guards -/
theorem gd_slot {all : List Oper} {a : Act} {s : List AV} (hv : ValL g s a.tmps.toList) {j d : Nat} (hj : Nat.blt j (ln all) = true) (hd : (nth all j noOper).dst = some d) :
    yielded all.toArray a.tmps j = (match a.tmps.toList.getD d undef with | .bool b => some b | _ => none) := by
  have hlt : j < all.length := by have := Nat.le_of_ble_eq_true hj; rw [ln_eq] at this; omega
  have h1 : all[j]? = some (nth all j noOper) := by
    rw [nth_eq, List.getD_eq_getElem?_getD, List.getElem?_eq_getElem hlt]; rfl
  unfold yielded
  simp only [List.getElem?_toArray, h1, Option.bind_some, hd]
  rw [List.getD_eq_getElem?_getD]
  cases h : a.tmps.toList[d]? with
  | none =>
    have : a.tmps[d]? = none := by simpa using h
    simp [this, undef]
  | some v =>
    have : a.tmps[d]? = some v := by simpa using h
    simp [this]
    cases v <;> rfl

theorem noBool {g : Gh} {u v : Value} (h : oneB u = false) (hv : Val g (.d (.v u)) v) : (match v with | .bool b => some b | _ => (none : Option Bool)) = none := by
  have : v = u := hv.1
  rw [this]
  cases u <;> simp_all [oneB]

/-- Whether an operation is wanted. -/
theorem gdK_sound {all : List Oper} {a : Act} {s : List AV} (h : Fst a w g s O) (o : Oper) {k : Bool → List AV → Prop} (hk : gdK all s o k) :
    ∃ s', k (Region.wanted o (yielded all.toArray a.tmps)) s' ∧ Fst a w g s' O := by
  unfold gdK at hk
  split at hk
  · rename_i hg
    exact ⟨s, by simpa [Region.wanted, hg] using hk, h⟩
  · rename_i j want hg
    split at hk
    · exact hk.elim
    · rename_i hj
      split at hk
      · exact hk.elim
      · rename_i d hd
        have hy := gd_slot h.val hj hd
        have hsl := ValL_get h.val d
        have hnth : nth s d .junk = s.getD d .junk := nth_eq _ _ _
        have hw : Region.wanted o (yielded all.toArray a.tmps) = (yielded all.toArray a.tmps j == some want) := by simp [Region.wanted, hg]
        rw [hw, hy]
        split at hk
        · rename_i hn
          rw [hnth] at hn; rw [hn] at hsl
          have : a.tmps.toList.getD d undef = undef := hsl
          exact ⟨s, by rw [this]; simpa [undef] using hk, h⟩
        · rename_i hn
          rw [hnth] at hn; rw [hn] at hsl
          have : a.tmps.toList.getD d undef = .bool true := hsl
          refine ⟨s, ?_, h⟩
          rw [this]; cases want <;> simpa using hk
        · rename_i hn
          rw [hnth] at hn; rw [hn] at hsl
          have : a.tmps.toList.getD d undef = .bool false := hsl
          refine ⟨s, ?_, h⟩
          rw [this]; cases want <;> simpa using hk
        · rename_i x hn
          rw [hnth] at hn; rw [hn] at hsl
          have hx : a.tmps.toList.getD d undef = .bool x := hsl
          have hset : ∀ (y : AV), Val g y (.bool x) → Fst a w g (s.set d y) O := by
            intro y hy
            refine ⟨h.sat, ?_, h.dfr⟩
            have := ValL_set h.val d hy
            have he : a.tmps.toList.set d (.bool x) = a.tmps.toList := by
              apply List.ext_getElem?
              intro i
              rw [List.getElem?_set]
              split
              · rename_i hdi; subst hdi
                split
                · rename_i hlt
                  rw [List.getElem?_eq_getElem hlt]
                  rw [List.getD_eq_getElem?_getD, List.getElem?_eq_getElem hlt] at hx
                  simp at hx
                  simp [hx]
                · rename_i hlt
                  rw [List.getElem?_eq_none (by omega)]
              · rfl
            rwa [he] at this
          cases x with
          | true =>
            have := hk.t rfl
            rw [stK_eq] at this
            refine ⟨_, ?_, hset .tt rfl⟩
            rw [hx]; cases want <;> simpa using this
          | false =>
            have := hk.f rfl
            rw [stK_eq] at this
            refine ⟨_, ?_, hset .ff rfl⟩
            rw [hx]; cases want <;> simpa using this
        · rename_i u hn
          rw [hnth] at hn; rw [hn] at hsl
          split at hk
          · exact hk.elim
          · rename_i hb
            refine ⟨s, ?_, h⟩
            rw [noBool hb hsl]; simpa using hk
        · exact hk.elim

/-! ### A region in its own order -/
theorem opsG_sound (hτ : Tok P τ) {B : World} {Γ : Ctx} (hΓ : AllValid P B Γ) {all : List Oper} {Q : Exit → Act → World → Prop} {w0 : World} {g0 : Gh} (hG : GI B w0 g0) {K : List AV → List Obj → Prop}
    (hQ : ∀ a w g s O, K s O → Fst a w g s O → g0.le g → Fr w0 w g0 g → Q .normal a w) :
    ∀ (ops : List Oper) (a : Act) (w : World) (g : Gh) (s : List AV) (O : List Obj), Fst a w g s O → g0.le g → Fr w0 w g0 g → opsG τ Γ all ops s O K → wpList P all.toArray Q ops a w
  | [], a, w, g, s, O, hs, hl, hf, h => hQ a w g s O h hs hl hf
  | o :: ops, a, w, g, s, O, hs, hl, hf, h => by
    rw [opsG_cons] at h
    obtain ⟨s1, h, hs1⟩ := gdK_sound hs o h
    unfold wpList
    cases hw : Region.wanted o (yielded all.toArray a.tmps) with
    | true =>
      rw [hw] at h
      simp only [if_true]
      refine .inl (op_sound hτ hΓ (hG.fr hf) hs1.sat hs1.eval o h ?_)
      intro v u O' w' g' hK hv hS' hl' hf'
      obtain ⟨s', hk, hs'⟩ := hs1.put hS' hl' hv o.dst hK
      exact opsG_sound hτ hΓ hG hQ ops _ _ g' s' O' hs' (Gh.le_trans hl hl') (hf.trans hf') hk
    | false =>
      rw [hw] at h
      simp only [Bool.false_eq_true, if_false]
      obtain ⟨s', hk, hs'⟩ := hs1.put hs1.sat (Gh.le_refl g) (v := .und) (u := undef) rfl o.dst h
      exact opsG_sound hτ hΓ hG hQ ops _ _ g s' O hs' hl hf hk
end
end Ab
