/- The frame 'Ab' is sound, fifteenth part: a region that draws its order. -/
import Derived.Test.YtnhjclenankhoaaDoorAbI
set_option linter.all false
namespace Ab
open Go
set_option linter.unusedSimpArgs false
set_option linter.unusedVariables false

section
variable {P : Program} {τ : Tab} {w : World} {g : Gh} {O : List Obj}

/-! ### Whether an operation is wanted -/
def blsh : AV → Option (Option Bool)
  | .tt => some (some true)
  | .ff => some (some false)
  | .d (.b x) => some (some x)
  | .und => some none
  | .d (.v u) => match oneB u with | true => none | false => some none
  | _ => none

def bofV : Value → Option Bool
  | .bool b => some b
  | _ => none

theorem blsh_val {x : AV} {u : Value} {bo : Option Bool} (h : blsh x = some bo) (hv : Val g x u) : bofV u = bo := by
  unfold blsh at h
  split at h
  · have : u = .bool true := hv
    simp at h; subst h; rw [this]; rfl
  · have : u = .bool false := hv
    simp at h; subst h; rw [this]; rfl
  · have : u = .bool _ := hv
    simp at h; subst h; rw [this]; rfl
  · have : u = undef := hv
    simp at h; subst h; rw [this]; rfl
  · rename_i u'
    split at h
    · cases h
    · rename_i hb
      simp at h; subst h
      have : u = u' := hv.1
      rw [this]
      cases u' <;> simp_all [oneB, bofV]
  · cases h

/-- by what stands in the guard's slot, the operation is wanted (b) -/
def Wanted (all : List Oper) (p : List Nat) (s : List AV) (o : Oper) (b : Bool) : Prop :=
  match o.guard with
  | none => b = true
  | some (j, want) => j < all.length ∧ j ∈ p ∧ ∃ d bo, (nth all j noOper).dst = some d ∧ blsh (nth s d .junk) = some bo ∧ b = (bo == some want)

theorem Wanted.of_none {all : List Oper} {p : List Nat} {s : List AV} {o : Oper} (hg : o.guard = none) : Wanted all p s o true := by
  unfold Wanted; rw [hg]
theorem Wanted.of_some {all : List Oper} {p : List Nat} {s : List AV} {o : Oper} {j d : Nat} {want b : Bool} {bo : Option Bool} (hg : o.guard = some (j, want)) (hj : j < all.length) (hp : j ∈ p)
    (hd : (nth all j noOper).dst = some d) (hb : blsh (nth s d .junk) = some bo) (h : b = (bo == some want)) : Wanted all p s o b := by
  unfold Wanted; rw [hg]; exact ⟨hj, hp, d, bo, hd, hb, h⟩

/-- two lists of slots that say the same -/
def Eqv (s s' : List AV) : Prop := s.length = s'.length ∧ ∀ t, Wk (nth s t .junk) (nth s' t .junk) ∧ Wk (nth s' t .junk) (nth s t .junk)
theorem Eqv.rfl {s : List AV} : Eqv s s := ⟨Eq.refl _, fun _ => ⟨Wk.rfl, Wk.rfl⟩⟩
theorem Eqv.know {s : List AV} {d : Nat} {b : Bool} {y : AV} (h : nth s d .junk = .d (.b b)) (h1 : Wk (.d (.b b)) y) (h2 : Wk y (.d (.b b))) : Eqv s (s.set d y) := by
  refine ⟨by simp, fun t => ?_⟩
  by_cases hd : d = t
  · subst hd
    by_cases hlt : d < s.length
    · have : nth (s.set d y) d .junk = y := by simp [nth_eq, List.getD_eq_getElem?_getD, hlt]
      rw [this, h]; exact ⟨h1, h2⟩
    · have : s.set d y = s := List.set_eq_of_length_le (by omega)
      rw [this]; exact ⟨Wk.rfl, Wk.rfl⟩
  · have : nth (s.set d y) t .junk = nth s t .junk := by simp only [nth_eq, List.getD_eq_getElem?_getD, List.getElem?_set_ne hd]
    rw [this]; exact ⟨Wk.rfl, Wk.rfl⟩

theorem gdD_wanted {all : List Oper} {p : List Nat} {s : List AV} {o : Oper} {k : Bool → List AV → Prop} (h : gdD all p s o k) : ∃ b s', Wanted all p s' o b ∧ Eqv s s' ∧ k b s' := by
  unfold gdD at h
  split at h
  · rename_i hg
    exact ⟨true, s, .of_none hg, Eqv.rfl, h⟩
  · rename_i j want hg
    split at h
    · rename_i hj hp
      have hj : j < all.length := by have := Nat.le_of_ble_eq_true hj; rw [ln_eq] at this; omega
      have hp := (hasN_iff _ _).1 hp
      split at h
      · exact h.elim
      · rename_i d hd
        split at h
        · rename_i hs
          exact ⟨false, s, .of_some (bo := none) hg hj hp hd (by rw [hs]; rfl) (by cases want <;> rfl), Eqv.rfl, h⟩
        · rename_i hs
          exact ⟨want, s, .of_some (bo := some true) hg hj hp hd (by rw [hs]; rfl) (by cases want <;> rfl), Eqv.rfl, h⟩
        · rename_i hs
          exact ⟨!want, s, .of_some (bo := some false) hg hj hp hd (by rw [hs]; rfl) (by cases want <;> rfl), Eqv.rfl, h⟩
        · rename_i x hs
          have hlt : d < s.length := by
            rcases Nat.lt_or_ge d s.length with h' | h'
            · exact h'
            · rw [nth_eq, List.getD_eq_getElem?_getD, List.getElem?_eq_none h'] at hs; cases hs
          have hself : ∀ y, nth (s.set d y) d .junk = y := fun y => by simp [nth_eq, List.getD_eq_getElem?_getD, hlt]
          cases x with
          | true =>
            have h' := h.t rfl
            rw [stK_eq] at h'
            exact ⟨want, s.set d .tt, .of_some (bo := some true) hg hj hp hd (by rw [hself]; rfl) (by cases want <;> rfl), Eqv.know hs (fun _ _ h => h) (fun _ _ h => h), h'⟩
          | false =>
            have h' := h.f rfl
            rw [stK_eq] at h'
            exact ⟨!want, s.set d .ff, .of_some (bo := some false) hg hj hp hd (by rw [hself]; rfl) (by cases want <;> rfl), Eqv.know hs (fun _ _ h => h) (fun _ _ h => h), h'⟩
        · rename_i u hs
          split at h
          · exact h.elim
          · rename_i hb
            exact ⟨false, s, .of_some (bo := none) hg hj hp hd (by rw [hs]; simp [blsh, hb]) (by cases want <;> rfl), Eqv.rfl, h⟩
        · exact h.elim
    · exact h.elim

/-! ### The state of a region in some order -/
section
variable {Γ : Ctx} {ops : List Oper}

abbrev op (ops : List Oper) (i : Nat) : Oper := nth ops i noOper
abbrev pr (ops : List Oper) (i : Nat) : List Nat := nth (preds ops []) i []

theorem op_get {i : Nat} (h : i < ops.length) : ops[i]? = some (op ops i) := by
  simp only [op, nth_eq, List.getD_eq_getElem?_getD, List.getElem?_eq_getElem h]; rfl

/-- An operation that has been reckoned with, and may come up later: what it will yield. -/
def Chk (τ : Tab) (ops : List Oper) (s : List AV) (O : List Obj) (k : Nat) : Prop :=
  ∃ s1, (∀ t, t ∉ outs ops (pr ops k) 0 → Wk (nth s t .junk) (nth s1 t .junk)) ∧ ∃ b, Wanted ops (pr ops k) s1 (op ops k) b ∧ match b with
    | false => ∀ d, (op ops k).dst = some d → Wk .und (nth s d .junk)
    | true => isEff τ (op ops k).op = false ∧ evK τ (op ops k).op (evm (outs ops (pr ops k) 0) s1) O (fun v => ∀ d, (op ops k).dst = some d → Wk v (nth s d .junk))

theorem nth_set_ne {s : List AV} {d t : Nat} {v : AV} (h : d ≠ t) : nth (s.set d v) t .junk = nth s t .junk := by
  simp only [nth_eq, List.getD_eq_getElem?_getD, List.getElem?_set_ne h]
theorem nth_set_self {s : List AV} {d : Nat} {v : AV} (h : d < s.length) : nth (s.set d v) d .junk = v := by
  simp [nth_eq, List.getD_eq_getElem?_getD, h]

structure Dst (ops : List Oper) (n : Nat) : Prop where
  lt : ∀ (i : Nat) d, i < ops.length → (op ops i).dst = some d → d < n
  inj : ∀ (i j : Nat) d, i < ops.length → j < ops.length → (op ops i).dst = some d → (op ops j).dst = some d → i = j

theorem Chk.eqv {k : Nat} {s s' : List AV} (he : Eqv s s') (h : Chk τ ops s O k) : Chk τ ops s' O k := by
  obtain ⟨s1, h1, b, hw, hb⟩ := h
  refine ⟨s1, fun t ht => (he.2 t).2.trans (h1 t ht), b, hw, ?_⟩
  cases b with
  | false => exact fun d hd => (hb d hd).trans (he.2 d).1
  | true =>
    obtain ⟨hb1, hb2⟩ := hb
    obtain ⟨v, hv, hk⟩ := evK_inv1 _ _ hb2
    exact ⟨hb1, hk _ (fun d hd => (hv d hd).trans (he.2 d).1)⟩

/-- What is reckoned with an operation outlives what another puts into its slot. -/
theorem Chk.set {k : Nat} {s : List AV} {i d : Nat} {v : AV} {n : Nat} (hD : Dst ops n) (hk : k < ops.length) (hi : i < ops.length) (hne : i ≠ k) (hd : (op ops i).dst = some d) (hik : i ∉ pr ops k)
    (h : Chk τ ops s O k) : Chk τ ops (s.set d v) O k := by
  obtain ⟨s1, h1, b, hw, hb⟩ := h
  have hm : d ∈ outs ops (pr ops k) 0 := mem_outs.2 ⟨i, _, op_get hi, hd, by simpa using hik⟩
  have hdd : ∀ d', (op ops k).dst = some d' → nth (s.set d v) d' .junk = nth s d' .junk := fun d' hd' => nth_set_ne (by
    rintro rfl
    exact hne (hD.inj i k d hi hk hd hd'))
  refine ⟨s1, fun t ht => ?_, b, hw, ?_⟩
  · rw [nth_set_ne (by rintro rfl; exact ht hm)]; exact h1 t ht
  · cases b with
    | false => exact fun d' hd' => by rw [hdd d' hd']; exact hb d' hd'
    | true =>
      obtain ⟨hb1, hb2⟩ := hb
      obtain ⟨v', hv, hk'⟩ := evK_inv1 _ _ hb2
      exact ⟨hb1, hk' _ (fun d' hd' => by rw [hdd d' hd']; exact hv d' hd')⟩

/-- the operations that have come up -/
abbrev On (listed : Array Bool) (i : Nat) : Prop := listed.getD i false = true

structure Mid (τ : Tab) (ops : List Oper) (listed : Array Bool) (a : Act) (w : World) (g : Gh) (s : List AV) (O : List Obj) (D E r : List Nat) : Prop where
  sat : Sat w g O
  dfr : a.defers = []
  len : s.length = a.tmps.size
  dst : Dst ops s.length
  lsz : listed.size = ops.length
  val : ∀ t, (∀ i, i < ops.length → (op ops i).dst = some t → On listed i) → Val g (nth s t .junk) (a.tmps.toList.getD t undef)
  don : ∀ k ∈ D, k < ops.length ∧ (On listed k ∨ Chk τ ops s O k) ∧ ∀ x ∈ pr ops k, x ∈ D
  lst : ∀ k, On listed k → k ∈ D
  clo : ∀ k, On listed k → ∀ x ∈ pr ops k, On listed x
  eff : ∀ k ∈ D, isEff τ (op ops k).op = true → k ∈ E
  ord : ordOk τ ops (preds ops []) D E r = true

theorem ord_cons {D E r : List Nat} {i : Nat} (h : ordOk τ ops (preds ops []) D E (i :: r) = true) : i < ops.length ∧ i ∉ D ∧ (∀ x ∈ E, x ∈ pr ops i) ∧ (∀ x ∈ pr ops i, x ∈ D) ∧
    ordOk τ ops (preds ops []) (i :: D) (match isEff τ (op ops i).op with | true => i :: E | false => E) r = true := by
  unfold ordOk at h
  split at h
  · rename_i h1 h2
    split at h
    · rename_i h3 h4
      have h1 := Nat.le_of_ble_eq_true h1
      rw [ln_eq] at h1
      exact ⟨h1, fun h' => (by rw [(hasN_iff _ _).2 h'] at h2; cases h2), allIn_iff.1 h3, allIn_iff.1 h4, h⟩
    · cases h
  · cases h

theorem ord_all : ∀ {r D E : List Nat}, ordOk τ ops (preds ops []) D E r = true → ∀ i, i < ops.length → i ∈ D ∨ i ∈ r
  | [], D, E, h, i, hi => by
    unfold ordOk at h
    left
    exact allIn_iff.1 h i (mem_upto.2 ⟨by omega, by rw [ln_eq]; omega⟩)
  | j :: r, D, E, h, i, hi => by
    obtain ⟨_, _, _, _, h5⟩ := ord_cons h
    rcases ord_all h5 i hi with h' | h'
    · rcases List.mem_cons.1 h' with rfl | h'
      · right; simp
      · exact .inl h'
    · right; simp [h']

/-- what comes behind an effect in the order has it ahead of it -/
theorem ord_eff : ∀ {r D E : List Nat}, ordOk τ ops (preds ops []) D E r = true → ∀ x ∈ E, ∀ i ∈ r, x ∈ pr ops i
  | [], D, E, h, x, hx, i, hi => by simp at hi
  | j :: r, D, E, h, x, hx, i, hi => by
    obtain ⟨_, _, h3, _, h5⟩ := ord_cons h
    rcases List.mem_cons.1 hi with rfl | hi
    · exact h3 x hx
    · refine ord_eff h5 x ?_ i hi
      split
      · exact List.mem_cons_of_mem _ hx
      · exact hx

section
variable {K : List AV → List Obj → Prop} {listed : Array Bool} {a : Act} {s : List AV} {D E r : List Nat}

theorem Mid.eqv {s' : List AV} (he : Eqv s s') (h : Mid τ ops listed a w g s O D E r) : Mid τ ops listed a w g s' O D E r :=
  ⟨h.sat, h.dfr, by rw [← he.1]; exact h.len, by rw [← he.1]; exact h.dst, h.lsz, fun t ht => (he.2 t).1 _ _ (h.val t ht),
    fun k hk => let ⟨k1, k2, k3⟩ := h.don k hk; ⟨k1, k2.imp id (Chk.eqv he), k3⟩, h.lst, h.clo, h.eff, h.ord⟩

/-- what is said of the next operation in the order -/
def Nxt (τ : Tab) (Γ : Ctx) (ops : List Oper) (K : List AV → List Obj → Prop) (i : Nat) (r D : List Nat) (s : List AV) (O : List Obj) (w : Bool) : Prop := match w with
  | true => fS (outs ops (pr ops i) 0) fun M => opK τ Γ (op ops i).op (Ab.evm M s) O fun v O' => putK s (op ops i).dst v fun s' =>
      match isEff τ (op ops i).op with
      | true => again τ ops (preds ops []) i s' O' D (opsD τ Γ ops (preds ops []) r (i :: D) s' O' K)
      | false => opsD τ Γ ops (preds ops []) r (i :: D) s' O' K
  | false => putK s (op ops i).dst .und fun s' => opsD τ Γ ops (preds ops []) r (i :: D) s' O K

theorem nxt_of {i : Nat} (h : opsD τ Γ ops (preds ops []) (i :: r) D s O K) : ∃ b s', Wanted ops (pr ops i) s' (op ops i) b ∧ Eqv s s' ∧ Nxt τ Γ ops K i r D s' O b := by
  rw [opsD_cons] at h
  exact gdD_wanted h

/-- The next operation in the order, one that only reads or is not wanted, is reckoned with. -/
theorem Mid.virt {i : Nat} {b : Bool} (h : Mid τ ops listed a w g s O D E (i :: r)) (hw : Wanted ops (pr ops i) s (op ops i) b) (hx : Nxt τ Γ ops K i r D s O b) (hv : b = true → isEff τ (op ops i).op = false) :
    ∃ s' E', Mid τ ops listed a w g s' O (i :: D) E' r ∧ opsD τ Γ ops (preds ops []) r (i :: D) s' O K := by
  obtain ⟨h1, h2, h3, h4, h5⟩ := ord_cons h.ord
  have hii : i ∉ pr ops i := fun hm => h2 (h4 i hm)
  have hon : ¬ On listed i := fun ho => h2 (h.lst i ho)
  -- what is put
  have main : ∀ (v : AV) (s' : List AV), (∀ d, (op ops i).dst = some d → s' = s.set d v) → ((op ops i).dst = none → s' = s) → Chk τ ops s' O i →
      ∃ E', Mid τ ops listed a w g s' O (i :: D) E' r := by
    intro v s' hs1 hs2 hck
    have hlen : s'.length = s.length := by
      cases hd : (op ops i).dst with
      | none => rw [hs2 hd]
      | some d => rw [hs1 d hd]; simp
    refine ⟨_, h.sat, h.dfr, by rw [hlen]; exact h.len, by rw [hlen]; exact h.dst, h.lsz, fun t ht => ?_, fun k hk => ?_, fun k hk => List.mem_cons_of_mem _ (h.lst k hk), h.clo, ?_, h5⟩
    · cases hd : (op ops i).dst with
      | none => rw [hs2 hd]; exact h.val t ht
      | some d =>
        rw [hs1 d hd, nth_set_ne]
        · exact h.val t ht
        · rintro rfl; exact hon (ht i h1 hd)
    · rcases List.mem_cons.1 hk with rfl | hk
      · exact ⟨h1, .inr hck, fun x hx => List.mem_cons_of_mem _ (h4 x hx)⟩
      · obtain ⟨k1, k2, k3⟩ := h.don k hk
        refine ⟨k1, ?_, fun x hx => List.mem_cons_of_mem _ (k3 x hx)⟩
        rcases k2 with k2 | k2
        · exact .inl k2
        · right
          have hik : i ∉ pr ops k := fun hm => h2 (k3 i hm)
          have hne : i ≠ k := fun e => by subst e; exact h2 hk
          cases hd : (op ops i).dst with
          | none => rw [hs2 hd]; exact k2
          | some d => rw [hs1 d hd]; exact k2.set h.dst k1 h1 hne hd hik
    · intro k hk hke
      rcases List.mem_cons.1 hk with rfl | hk
      · rw [hke]; simp
      · have := h.eff k hk hke
        split
        · exact List.mem_cons_of_mem _ this
        · exact this
  have agree : ∀ (v : AV) (d : Nat), (op ops i).dst = some d → ∀ t, t ∉ outs ops (pr ops i) 0 → Wk (nth (s.set d v) t .junk) (nth s t .junk) := by
    intro v d hd t ht
    have hm : d ∈ outs ops (pr ops i) 0 := mem_outs.2 ⟨i, _, op_get h1, hd, by simpa using hii⟩
    rw [nth_set_ne (by rintro rfl; exact ht hm)]; exact Wk.rfl
  unfold Nxt at hx
  cases b with
  | false =>
    dsimp only at hx
    cases hd : (op ops i).dst with
    | none =>
      rw [hd] at hx
      obtain ⟨E', hE⟩ := main .und s (fun d hd' => by rw [hd] at hd'; cases hd') (fun _ => rfl) ⟨s, fun _ _ => Wk.rfl, false, hw, fun d hd' => by rw [hd] at hd'; cases hd'⟩
      exact ⟨s, E', hE, hx⟩
    | some d =>
      rw [hd] at hx
      simp only [putK, stK_eq] at hx
      obtain ⟨E', hE⟩ := main .und (s.set d .und) (fun d' hd' => by rw [hd] at hd'; simp at hd'; rw [hd']) (fun hd' => by rw [hd] at hd'; cases hd') ⟨s, agree _ d hd, false, hw, fun d' hd' => by
        rw [hd] at hd'; simp at hd'; subst hd'
        rw [nth_set_self (h.dst.lt i d h1 hd)]; exact Wk.rfl⟩
      exact ⟨_, E', hE, hx⟩
  | true =>
    have hne := hv rfl
    dsimp only at hx
    rw [fS_eq] at hx
    unfold opK at hx
    rw [hne] at hx
    dsimp only at hx
    obtain ⟨v, hK, hev⟩ := evK_inv1 _ _ hx
    rw [fA_eq] at hK
    cases hd : (op ops i).dst with
    | none =>
      rw [hd] at hK
      obtain ⟨E', hE⟩ := main v s (fun d hd' => by rw [hd] at hd'; cases hd') (fun _ => rfl) ⟨s, fun _ _ => Wk.rfl, true, hw, hne, hev _ (fun d hd' => by rw [hd] at hd'; cases hd')⟩
      exact ⟨s, E', hE, hK⟩
    | some d =>
      rw [hd] at hK
      simp only [putK, stK_eq] at hK
      obtain ⟨E', hE⟩ := main v (s.set d v) (fun d' hd' => by rw [hd] at hd'; simp at hd'; rw [hd']) (fun hd' => by rw [hd] at hd'; cases hd') ⟨s, agree _ d hd, true, hw, hne, hev _ (fun d' hd' => by
        rw [hd] at hd'; simp at hd'; subst hd'
        rw [nth_set_self (h.dst.lt i d h1 hd)]; exact Wk.rfl)⟩
      exact ⟨_, E', hE, hK⟩

/-- what is left of a region -/
def Rst (τ : Tab) (Γ : Ctx) (ops : List Oper) (K : List AV → List Obj → Prop) (r D : List Nat) (s : List AV) (O : List Obj) : Prop :=
  opsD τ Γ ops (preds ops []) r D s O K ∨ ∃ i r', r = i :: r' ∧ isEff τ (op ops i).op = true ∧ Wanted ops (pr ops i) s (op ops i) true ∧ Nxt τ Γ ops K i r' D s O true

/-- In the order, all is reckoned with up to an effect that is wanted. -/
theorem Mid.norm : ∀ {r : List Nat} {s : List AV} {D E : List Nat}, Mid τ ops listed a w g s O D E r → opsD τ Γ ops (preds ops []) r D s O K →
    ∃ s' D' E' r', Mid τ ops listed a w g s' O D' E' r' ∧ ((r' = [] ∧ K s' O) ∨ ∃ i r'', r' = i :: r'' ∧ isEff τ (op ops i).op = true ∧ Wanted ops (pr ops i) s' (op ops i) true ∧ Nxt τ Γ ops K i r'' D' s' O true)
  | [], s, D, E, h, hx => ⟨s, D, E, [], h, .inl ⟨rfl, hx⟩⟩
  | i :: r, s, D, E, h, hx => by
    obtain ⟨b, s2, hw, he, hn⟩ := nxt_of hx
    have h := h.eqv he
    by_cases hc : b = true ∧ isEff τ (op ops i).op = true
    · obtain ⟨rfl, hc⟩ := hc
      exact ⟨s2, D, E, i :: r, h, .inr ⟨i, r, rfl, hc, hw, hn⟩⟩
    · obtain ⟨s', E', h', hx'⟩ := h.virt hw hn (fun hb => by
        cases he : isEff τ (op ops i).op with
        | false => rfl
        | true => exact absurd ⟨hb, he⟩ hc)
      exact h'.norm hx'

theorem Mid.norm2 (h : Mid τ ops listed a w g s O D E r) (hx : Rst τ Γ ops K r D s O) :
    ∃ s' D' E' r', Mid τ ops listed a w g s' O D' E' r' ∧ ((r' = [] ∧ K s' O) ∨ ∃ i r'', r' = i :: r'' ∧ isEff τ (op ops i).op = true ∧ Wanted ops (pr ops i) s' (op ops i) true ∧ Nxt τ Γ ops K i r'' D' s' O true) := by
  rcases hx with hx | ⟨i, r', rfl, h1, h2, h3⟩
  · exact h.norm hx
  · exact ⟨s, D, E, _, h, .inr ⟨i, r', rfl, h1, h2, h3⟩⟩

/-- What is wanted, in the machine. -/
theorem Mid.wanted (h : Mid τ ops listed a w g s O D E r) {i : Nat} {b : Bool} {s1 : List AV} (hs1 : ∀ t, t ∉ outs ops (pr ops i) 0 → Wk (nth s t .junk) (nth s1 t .junk)) (hp : ∀ x ∈ pr ops i, On listed x)
    (hw : Wanted ops (pr ops i) s1 (op ops i) b) : Region.wanted (op ops i) (yielded ops.toArray a.tmps) = b := by
  unfold Wanted at hw
  unfold Region.wanted
  cases hg : (op ops i).guard with
  | none => rw [hg] at hw; exact hw.symm
  | some q =>
    obtain ⟨j, want⟩ := q
    rw [hg] at hw
    obtain ⟨hj, hjp, d, bo, h1, h2, h3⟩ := hw
    dsimp only
    have hv := h.val d (fun k hk hd => by
      have := h.dst.inj k j d hk hj hd h1
      subst this; exact hp k hjp)
    have hdo : d ∉ outs ops (pr ops i) 0 := fun hm => by
      obtain ⟨k, o, hk, hd, hn⟩ := mem_outs.1 hm
      have hkl := (List.getElem?_eq_some_iff.1 hk).1
      rw [op_get hkl] at hk
      simp at hk; subst hk
      have := h.dst.inj k j d hkl hj hd h1
      subst this
      exact hn (by simpa using hjp)
    have hb := blsh_val h2 (hs1 d hdo _ _ hv)
    have hy : yielded ops.toArray a.tmps j = bofV (a.tmps.toList.getD d undef) := by
      unfold yielded
      simp only [List.getElem?_toArray, op_get hj, Option.bind_some]
      rw [show (op ops j).dst = some d from h1]
      simp only [Option.bind_some]
      rw [List.getD_eq_getElem?_getD]
      cases hx : a.tmps.toList[d]? with
      | none =>
        have : a.tmps[d]? = none := by simpa using hx
        simp [this, undef, bofV]
      | some v =>
        have : a.tmps[d]? = some v := by simpa using hx
        simp [this]
        cases v <;> rfl
    rw [hy, hb, h3]

theorem Mid.evm (h : Mid τ ops listed a w g s O D E r) {i : Nat} {s1 : List AV} (hs1 : ∀ t, t ∉ outs ops (pr ops i) 0 → Wk (nth s t .junk) (nth s1 t .junk)) (hp : ∀ x ∈ pr ops i, On listed x) (x : Operand) :
    Val g (evm (outs ops (pr ops i) 0) s1 x) (a.eval x) := by
  cases x with
  | tmp t =>
    simp only [Ab.evm]
    split
    · trivial
    · rename_i hm
      have ht : t ∉ outs ops (pr ops i) 0 := fun h' => by rw [(hasN_iff _ _).2 h'] at hm; cases hm
      have := h.val t (fun k hk hd => by
        apply Classical.byContradiction
        intro hon
        exact ht (mem_outs.2 ⟨k, _, op_get hk, hd, fun hkp => hon (hp k (by simpa using hkp))⟩))
      simp only [Act.eval]
      rw [show a.tmps.getD t undef = a.tmps.toList.getD t undef by simp [Array.getD_eq_getD_getElem?, List.getD_eq_getElem?_getD]]
      exact hs1 t ht _ _ this
  | const v => exact Val_cv g v
  | global b => exact ⟨rfl, rfl⟩
  | func f => exact ⟨[], rfl, trivial⟩

theorem On_set {listed : Array Bool} {i k : Nat} (hi : i < listed.size) : On (listed.setIfInBounds i true) k ↔ k = i ∨ On listed k := by
  unfold On
  by_cases hik : i = k
  · subst hik; simp [hi]
  · rw [getD_set_ne false hik]
    constructor
    · exact .inr
    · rintro (h | h)
      · exact absurd h.symm hik
      · exact h

theorem getD_put {a : Act} {d : Option Nat} {u : Value} {t : Nat} : ((a.put d u).tmps.toList.getD t undef) = if d = some t ∧ t < a.tmps.size then u else a.tmps.toList.getD t undef := by
  cases d with
  | none => simp [Act.put]
  | some d =>
    simp only [Act.put, Array.toList_setIfInBounds, List.getD_eq_getElem?_getD, List.getElem?_set, Option.some.injEq]
    by_cases h : d = t
    · subst h
      by_cases hlt : d < a.tmps.size
      · simp [hlt]
      · simp [hlt]
    · simp [h]

/-- One that was reckoned with has come up. -/
theorem Mid.came (h : Mid τ ops listed a w g s O D E r) {i : Nat} (hi : i ∈ D) (hp : ∀ x ∈ pr ops i, On listed x) {u : Value} (hu : ∀ d, (op ops i).dst = some d → Val g (nth s d .junk) u) :
    Mid τ ops (listed.setIfInBounds i true) (a.put (op ops i).dst u) w g s O D E r := by
  have hil := (h.don i hi).1
  have hls : i < listed.size := by rw [h.lsz]; exact hil
  have hon : ∀ k, On (listed.setIfInBounds i true) k ↔ k = i ∨ On listed k := fun k => On_set hls
  have hsz : (a.put (op ops i).dst u).tmps.size = a.tmps.size := by cases (op ops i).dst <;> simp [Act.put]
  refine ⟨h.sat, by have := h.dfr; cases (op ops i).dst <;> simpa [Act.put] using this, by rw [hsz]; exact h.len, h.dst, by simp [h.lsz], fun t ht => ?_, fun k hk => ?_, fun k hk => ?_, fun k hk x hx => ?_, h.eff, h.ord⟩
  · rw [getD_put]
    split
    · rename_i hd
      exact hu t hd.1
    · rename_i hd
      refine h.val t (fun k hk hkd => ?_)
      rcases (hon k).1 (ht k hk hkd) with rfl | h'
      · exact absurd ⟨hkd, by rw [← h.len]; exact h.dst.lt k t hk hkd⟩ hd
      · exact h'
  · obtain ⟨k1, k2, k3⟩ := h.don k hk
    exact ⟨k1, k2.imp (fun h' => (hon k).2 (.inr h')) id, k3⟩
  · rcases (hon k).1 hk with rfl | h'
    · exact hi
    · exact h.lst k h'
  · rcases (hon k).1 hk with rfl | h'
    · exact (hon x).2 (.inr (hp x hx))
    · exact (hon x).2 (.inr (h.clo k h' x hx))

theorem again_spec {i : Nat} {s' : List AV} {O' : List Obj} {N : Prop} : ∀ {D : List Nat}, again τ ops (preds ops []) i s' O' D N → N ∧ ∀ k ∈ D, k ∉ pr ops i → isEff τ (op ops k).op = false → isLoad (op ops k).op = true →
    ∃ d, (op ops k).dst = some d ∧ ∃ b s1, Wanted ops (pr ops k) s1 (op ops k) b ∧ Eqv s' s1 ∧ match b with
      | true => evK τ (op ops k).op (Ab.evm (outs ops (pr ops k) 0) s1) O' (fun v => Wk v (nth s' d .junk))
      | false => nth s' d .junk = .und
  | [], h => ⟨h, fun k hk => by simp at hk⟩
  | j :: D, h => by
    rw [again_cons] at h
    split at h
    · rename_i h1 h2 h3
      split at h
      · exact h.elim
      · rename_i d hd
        obtain ⟨hc, h⟩ := h
        obtain ⟨hN, hr⟩ := again_spec h
        refine ⟨hN, fun k hk hki hke hkl => ?_⟩
        rcases List.mem_cons.1 hk with rfl | hk
        · obtain ⟨b, s1, hw, he, hb⟩ := gdD_wanted hc
          refine ⟨d, hd, b, s1, hw, he, ?_⟩
          cases b with
          | true =>
            simp only [fS_eq, fA_eq] at hb
            exact hb
          | false => exact hb
        · exact hr k hk hki hke hkl
    · rename_i hne
      obtain ⟨hN, hr⟩ := again_spec h
      refine ⟨hN, fun k hk hki hke hkl => ?_⟩
      rcases List.mem_cons.1 hk with rfl | hk
      · exfalso
        refine hne hkl hke ?_
        cases hh : hasN (nth (preds ops []) i []) k with
        | false => rfl
        | true => exact absurd ((hasN_iff _ _).1 hh) hki
      · exact hr k hk hki hke hkl

/-- One operation of a region comes up, whichever. -/
theorem mid_step (hτ : Tok P τ) {B : World} (hΓ : AllValid P B Γ) {Q : Exit → Act → World → Prop} {i : Nat} (hr : i ∈ Region.ready .any ops.toArray listed) {g0 : Gh} {w0 : World} (hG : GI B w0 g0) (hl : g0.le g) (hf : Fr w0 w g0 g)
    (h : Mid τ ops listed a w g s O D E r) (hx : Rst τ Γ ops K r D s O) {next : Act → World → Prop}
    (hn : ∀ a' w' g' s' O' D' E' r', g0.le g' → Fr w0 w' g0 g' → Mid τ ops (listed.setIfInBounds i true) a' w' g' s' O' D' E' r' → Rst τ Γ ops K r' D' s' O' → next a' w') :
    wpOp P ops.toArray Q i next a w := by
  obtain ⟨hun, o, ho, hall⟩ := mem_ready.1 hr
  have hi : i < ops.length := by
    have := (Array.getElem?_eq_some_iff.1 ho).1
    simpa using this
  have hoi : o = op ops i := by
    have h1 : ops[i]? = some o := by simpa using ho
    rw [op_get hi] at h1; simpa using h1.symm
  subst hoi
  have hp : ∀ x ∈ pr ops i, On listed x := by
    intro x hx
    obtain ⟨j, hj, h1⟩ := (mem_preds (op_get hi)).1 hx
    obtain ⟨e, he, hb, hej⟩ := mem_after1.1 hj
    have hon : On listed j := by
      have := hall e (by simpa using he) hb
      rw [hej] at this; exact this
    rcases h1 with rfl | ⟨_, h1⟩
    · exact hon
    · exact h.clo j hon x h1
  have hnot : ¬ On listed i := by
    intro h'
    have : i < listed.size := by rw [h.lsz]; exact hi
    unfold On at h'
    simp [this] at h' hun
    rw [hun] at h'; cases h'
  obtain ⟨s, D, E, r, h, hend⟩ := h.norm2 hx
  have hrst : Rst τ Γ ops K r D s O := by
    rcases hend with ⟨rfl, hK⟩ | ⟨e, r', rfl, h1, h2, h3⟩
    · exact .inl hK
    · exact .inr ⟨e, r', rfl, h1, h2, h3⟩
  unfold wpOp
  rw [ho]
  dsimp only
  by_cases hD : i ∈ D
  · -- it has been reckoned with
    rcases (h.don i hD).2.1 with h' | ⟨s1, hs1, b, hw, hb⟩
    · exact absurd h' hnot
    · rw [h.wanted hs1 hp hw]
      cases b with
      | false =>
        simp only [Bool.false_eq_true, if_false]
        exact hn _ _ g s O D E r hl hf (h.came hD hp (u := undef) (fun d hd => hb d hd _ _ rfl)) hrst
      | true =>
        simp only [if_true]
        obtain ⟨hne, hev⟩ := hb
        obtain ⟨v, u, hK, hv, hrun⟩ := evK_sound hτ h.sat (h.evm hs1 hp) (fun _ => rfl) (fun _ => rfl) (op ops i) hev
        left
        unfold Oper.wp
        rw [hrun]
        exact hn _ _ g s O D E r hl hf (h.came hD hp (u := u) (fun d hd => hK d hd _ _ hv)) hrst
  · -- it is the effect that comes next
    have hr' := (ord_all h.ord i hi).resolve_left hD
    rcases hend with ⟨rfl, _⟩ | ⟨e, r', rfl, heff, hw, hop⟩
    · simp at hr'
    · obtain ⟨h1, h2, h3, h4, h5⟩ := ord_cons h.ord
      have hie : i = e := by
        rcases List.mem_cons.1 hr' with h' | h'
        · exact h'
        · exfalso
          rw [heff] at h5
          have := ord_eff h5 e (by simp) i h'
          exact h2 (h.lst e (hp e this))
      subst hie
      rw [h.wanted (fun _ _ => Wk.rfl) hp hw]
      simp only [if_true]
      left
      unfold Nxt at hop
      dsimp only at hop
      rw [fS_eq] at hop
      refine op_sound hτ hΓ (hG.fr hf) h.sat (h.evm (fun _ _ => Wk.rfl) hp) (op ops i) hop ?_
      intro v u O' w' g' hK hv hS' hl' hf'
      rw [heff] at hK
      have hii : i ∉ pr ops i := fun hm => h2 (h4 i hm)
      have hls : i < listed.size := by rw [h.lsz]; exact hi
      have hon : ∀ k, On (listed.setIfInBounds i true) k ↔ k = i ∨ On listed k := fun k => On_set hls
      have hsz : (a.put (op ops i).dst u).tmps.size = a.tmps.size := by cases (op ops i).dst <;> simp [Act.put]
      have main : ∀ (s' : List AV), (∀ d, (op ops i).dst = some d → s' = s.set d v) → ((op ops i).dst = none → s' = s) → again τ ops (preds ops []) i s' O' D (opsD τ Γ ops (preds ops []) r' (i :: D) s' O' K) →
          next (a.put (op ops i).dst u) w' := by
        intro s' hs1 hs2 hag
        obtain ⟨hN, hre⟩ := again_spec hag
        have hlen : s'.length = s.length := by
          cases hd : (op ops i).dst with
          | none => rw [hs2 hd]
          | some d => rw [hs1 d hd]; simp
        refine hn _ _ g' s' O' (i :: D) (i :: E) r' (Gh.le_trans hl hl') (hf.trans hf') ?_ (.inl hN)
        rw [heff] at h5
        refine ⟨hS', by have := h.dfr; cases (op ops i).dst <;> simpa [Act.put] using this, by rw [hsz, hlen]; exact h.len, by rw [hlen]; exact h.dst, by simp [h.lsz], fun t ht => ?_, fun k hk => ?_, fun k hk => ?_, fun k hk x hx => ?_, fun k hk hke => ?_, h5⟩
        · rw [getD_put]
          split
          · rename_i hd
            rw [hs1 t hd.1, nth_set_self (h.dst.lt i t hi hd.1)]
            exact hv
          · rename_i hd
            have hne : ∀ d, (op ops i).dst = some d → d ≠ t := by
              rintro d hd' rfl
              exact hd ⟨hd', by rw [← h.len]; exact h.dst.lt i d hi hd'⟩
            have hold := h.val t (fun k hk hkd => by
              rcases (hon k).1 (ht k hk hkd) with rfl | h'
              · exact absurd rfl (hne t hkd)
              · exact h')
            have hsame : nth s' t .junk = nth s t .junk := by
              cases hd' : (op ops i).dst with
              | none => rw [hs2 hd']
              | some d => rw [hs1 d hd', nth_set_ne (hne d hd')]
            rw [hsame]
            exact Val_mono hl' _ _ hold
        · rcases List.mem_cons.1 hk with rfl | hk
          · exact ⟨hi, .inl ((hon k).2 (.inl rfl)), fun x hx => List.mem_cons_of_mem _ (h4 x hx)⟩
          · obtain ⟨k1, k2, k3⟩ := h.don k hk
            refine ⟨k1, ?_, fun x hx => List.mem_cons_of_mem _ (k3 x hx)⟩
            by_cases hko : On listed k
            · exact .inl ((hon k).2 (.inr hko))
            · right
              have hck := k2.resolve_left hko
              have hki : k ∉ pr ops i := fun hm => hko (hp k hm)
              have hik : i ∉ pr ops k := fun hm => h2 (k3 i hm)
              have hne : i ≠ k := fun e => by subst e; exact h2 hk
              have hck' : Chk τ ops s' O k := by
                cases hd : (op ops i).dst with
                | none => rw [hs2 hd]; exact hck
                | some d => rw [hs1 d hd]; exact hck.set h.dst k1 hi hne hd hik
              obtain ⟨s1, hs1', b, hwk, hbk⟩ := hck'
              cases b with
              | false => exact ⟨s1, hs1', false, hwk, hbk⟩
              | true =>
                cases hld : isLoad (op ops k).op with
                | false => exact ⟨s1, hs1', true, hwk, hbk.1, evK_nl hld O' hbk.2⟩
                | true =>
                  obtain ⟨d, hd, b', s2, hw2, he2, hb2⟩ := hre k hk hki hbk.1 hld
                  refine ⟨s2, fun t _ => (he2.2 t).1, b', hw2, ?_⟩
                  cases b' with
                  | false => exact fun d' hd' => by rw [hd] at hd'; simp at hd'; subst hd'; rw [hb2]; exact Wk.rfl
                  | true =>
                    refine ⟨hbk.1, ?_⟩
                    obtain ⟨v', hv', hk'⟩ := evK_inv1 _ _ hb2
                    exact hk' _ (fun d' hd' => by rw [hd] at hd'; simp at hd'; subst hd'; exact hv')
        · rcases (hon k).1 hk with rfl | h'
          · simp
          · exact List.mem_cons_of_mem _ (h.lst k h')
        · rcases (hon k).1 hk with rfl | h'
          · exact (hon x).2 (.inr (hp x hx))
          · exact (hon x).2 (.inr (h.clo k h' x hx))
        · rcases List.mem_cons.1 hk with rfl | hk
          · simp
          · exact List.mem_cons_of_mem _ (h.eff k hk hke)
      cases hd : (op ops i).dst with
      | none =>
        rw [hd] at hK
        have := main s (fun d hd' => by rw [hd] at hd'; cases hd') (fun _ => rfl) hK
        rw [hd] at this; exact this
      | some d =>
        rw [hd] at hK
        simp only [putK, stK_eq] at hK
        have := main _ (fun d' hd' => by rw [hd] at hd'; simp at hd'; rw [hd']) (fun hd' => by rw [hd] at hd'; cases hd') hK
        rw [hd] at this; exact this

theorem ValL_of_get {g : Gh} : ∀ {cs : List AV} {us : List Value}, cs.length = us.length → (∀ t, Val g (nth cs t .junk) (us.getD t undef)) → ValL g cs us
  | [], [], _, _ => trivial
  | c :: cs, u :: us, hl, h => ⟨by simpa [nth] using h 0, ValL_of_get (by simpa using hl) (fun t => by simpa [nth] using h (t + 1))⟩
  | [], _ :: _, hl, _ => by simp at hl
  | _ :: _, [], hl, _ => by simp at hl

/-- All have come up. -/
theorem mid_end (h : Mid τ ops listed a w g s O D E r) (hx : Rst τ Γ ops K r D s O) (hall : ∀ i, i < ops.length → On listed i) : ∃ s', K s' O ∧ Fst a w g s' O := by
  obtain ⟨s, D, E, r, h, hend⟩ := h.norm2 hx
  rcases hend with ⟨rfl, hK⟩ | ⟨e, r', rfl, _, _⟩
  · refine ⟨s, hK, h.sat, ?_, h.dfr⟩
    exact ValL_of_get (by rw [h.len]; simp) (fun t => h.val t (fun i hi _ => hall i hi))
  · obtain ⟨h1, h2, _⟩ := ord_cons h.ord
    exact absurd (h.lst e (hall e h1)) h2

/-- While one has not come up, one may. -/
theorem ord_first {listed : Array Bool} : ∀ {r D E : List Nat}, ordOk τ ops (preds ops []) D E r = true → (∀ k ∈ D, On listed k) → (∃ i ∈ r, ¬ On listed i) → ∃ j, j < ops.length ∧ ¬ On listed j ∧ ∀ x ∈ pr ops j, On listed x
  | [], D, E, _, _, ⟨i, hi, _⟩ => by simp at hi
  | j :: r, D, E, h, hD, ⟨i, hi, hno⟩ => by
    obtain ⟨h1, h2, h3, h4, h5⟩ := ord_cons h
    by_cases hj : On listed j
    · refine ord_first h5 (fun k hk => ?_) ⟨i, ?_, hno⟩
      · rcases List.mem_cons.1 hk with rfl | hk
        · exact hj
        · exact hD k hk
      · rcases List.mem_cons.1 hi with rfl | hi
        · exact absurd hj hno
        · exact hi
    · exact ⟨j, h1, hj, fun x hx => hD x (h4 x hx)⟩

theorem mid_ready {listed : Array Bool} {r0 : List Nat} (hr0 : ordOk τ ops (preds ops []) [] [] r0 = true) (hsz : listed.size = ops.length) {i : Nat} (hi : i < ops.length) (hno : ¬ On listed i) :
    Region.ready .any ops.toArray listed ≠ [] := by
  obtain ⟨j, h1, h2, h3⟩ := ord_first (listed := listed) hr0 (fun k hk => by simp at hk) ⟨i, (ord_all hr0 i hi).resolve_left (by simp), hno⟩
  have hj : j ∈ Region.ready .any ops.toArray listed := by
    refine mem_ready.2 ⟨?_, op ops j, by simpa using op_get h1, fun e he hb => ?_⟩
    · have : j < listed.size := by rw [hsz]; exact h1
      unfold On at h2
      simp [this] at h2 ⊢; exact h2
    · exact h3 e.on ((mem_preds (op_get h1)).2 ⟨e.on, mem_after1.2 ⟨e, by simpa using he, hb, rfl⟩, .inl rfl⟩)
  intro h'
  rw [h'] at hj; cases hj

/-- Whatever order is picked. -/
theorem mid_any (hτ : Tok P τ) {B : World} (hΓ : AllValid P B Γ) {Q : Exit → Act → World → Prop} {r0 : List Nat} (hr0 : ordOk τ ops (preds ops []) [] [] r0 = true) {g0 : Gh} {w0 : World} (hG : GI B w0 g0)
    (hQ : ∀ a w g s O, K s O → Fst a w g s O → g0.le g → Fr w0 w g0 g → Q .normal a w) :
    ∀ (fuel : Nat) (listed : Array Bool) (U : List Nat) (a : Act) (w : World) (g : Gh) (s : List AV) (O : List Obj) (D E r : List Nat), U.length ≤ fuel → (∀ i, i < ops.length → ¬ On listed i → i ∈ U) →
      g0.le g → Fr w0 w g0 g → Mid τ ops listed a w g s O D E r → Rst τ Γ ops K r D s O → wpAny P .any ops.toArray Q fuel listed a w := by
  intro fuel
  induction fuel with
  | zero =>
    intro listed U a w g s O D E r hU hUn hl hf h hx
    have hU0 : U = [] := List.eq_nil_of_length_eq_zero (by omega)
    have hall : ∀ i, i < ops.length → On listed i := fun i hi => by
      apply Classical.byContradiction
      intro hno
      have := hUn i hi hno
      rw [hU0] at this; simp at this
    refine ⟨?_, ?_⟩
    · cases hrd : Region.ready .any ops.toArray listed with
      | nil => rfl
      | cons j js =>
        exfalso
        have hj : j ∈ Region.ready .any ops.toArray listed := by rw [hrd]; simp
        obtain ⟨hun, o, ho, _⟩ := mem_ready.1 hj
        have hjl : j < ops.length := by
          have := (Array.getElem?_eq_some_iff.1 ho).1
          simpa using this
        have := hall j hjl
        have hjs : j < listed.size := by rw [h.lsz]; exact hjl
        unfold On at this
        simp [hjs] at this hun
        rw [hun] at this; cases this
    · obtain ⟨s', hK, hs⟩ := mid_end h hx hall
      exact hQ _ _ _ _ _ hK hs hl hf
  | succ fuel ih =>
    intro listed U a w g s O D E r hU hUn hl hf h hx
    refine ⟨fun hrd => ?_, fun i hi => ?_⟩
    · have hall : ∀ i, i < ops.length → On listed i := fun i hi => by
        apply Classical.byContradiction
        intro hno
        exact mid_ready hr0 h.lsz hi hno hrd
      obtain ⟨s', hK, hs⟩ := mid_end h hx hall
      exact hQ _ _ _ _ _ hK hs hl hf
    · have hil : i < ops.length := by
        obtain ⟨_, o, ho, _⟩ := mem_ready.1 hi
        have := (Array.getElem?_eq_some_iff.1 ho).1
        simpa using this
      have hno : ¬ On listed i := by
        obtain ⟨hun, _⟩ := mem_ready.1 hi
        intro h'
        have : i < listed.size := by rw [h.lsz]; exact hil
        unfold On at h'
        simp [this] at h' hun
        rw [hun] at h'; cases h'
      have hiU := hUn i hil hno
      refine mid_step hτ hΓ hi hG hl hf h hx (fun a' w' g' s' O' D' E' r' hl' hf' h' hx' => ?_)
      refine ih _ (U.erase i) a' w' g' s' O' D' E' r' ?_ (fun k hk hkn => ?_) hl' hf' h' hx'
      · rw [List.length_erase_of_mem hiU]; omega
      · have hki : k ≠ i := by
          rintro rfl
          exact hkn ((On_set (by rw [h.lsz]; exact hil)).2 (.inl rfl))
        exact (List.mem_erase_of_ne hki).2 (hUn k hk (fun ho => hkn ((On_set (by rw [h.lsz]; exact hil)).2 (.inr ho))))

theorem Sat.drew (h : Sat w g O) : Sat { w with drawn := w.drawn + 1 } g O := by
  refine ⟨h.n, h.imm, fun k o hk => ?_, h.own⟩
  have := h.obj k o hk
  cases o with
  | cells cs => exact this
  | row v s z xs =>
    obtain ⟨a, cap, h1, h2⟩ := this
    exact ⟨a, cap, h1, h2.len, h2.elen, h2.mem⟩
  | map => exact this.elim
  | dead => exact this.elim

/-- A region that draws its order. -/
theorem regD_sound (hm : P.follows .mixedOrders = true) (hτ : Tok P τ) {B : World} (hΓ : AllValid P B Γ) {id : Nat} {Q : Exit → Act → World → Prop} {w0 : World} {g0 : Gh} (hG : GI B w0 g0)
    (hQ : ∀ a w g s O, K s O → Fst a w g s O → g0.le g → Fr w0 w g0 g → Q .normal a w) (hs : Fst a w g s O) (hl : g0.le g) (hf : Fr w0 w g0 g) (h : regD τ Γ ops s O K) :
    (Code.region id ops.toArray true).wp P Q a w := by
  unfold regD at h
  simp only [fNs_eq, fS_eq] at h
  split at h
  · rename_i ho hd
    obtain ⟨d1, d2⟩ := dstOk_spec hd
    refine wp_region_any hm (mid_any hτ hΓ ho hG hQ _ _ (List.range ops.length) a _ g s O [] [] (mkOrd τ ops (preds ops []) (ln ops) []) (by simp) (fun i hi _ => by simpa using hi) hl ?_ ?_ (.inl h))
    · exact ⟨hf.size, hf.os, hf.tape, hf.out, hf.heap, hf.imm, hf.own⟩
    · have hlen : s.length = a.tmps.size := by rw [ValL_length hs.val]; simp
      have hoff : ∀ k, ¬ On (Array.replicate ops.toArray.size false) k := fun k => by
        unfold On
        simp [Array.getElem?_replicate]
        split <;> simp
      refine ⟨hs.sat.drew, hs.dfr, hlen, ⟨fun i d hi hd => ?_, fun i j d hi hj hd hd' => d2 i j _ _ d (op_get hi) (op_get hj) hd hd'⟩, by simp, fun t _ => ?_, fun k hk => by simp at hk, fun k hk => absurd hk (hoff k), fun k hk => absurd hk (hoff k), fun k hk => by simp at hk, ho⟩
      · have := (d1 i _ d (op_get hi) hd).1
        rw [ln_eq] at this; exact this
      · have := ValL_get hs.val t
        rw [nth_eq]; exact this
  · exact h.elim
end
end
end
end Ab
