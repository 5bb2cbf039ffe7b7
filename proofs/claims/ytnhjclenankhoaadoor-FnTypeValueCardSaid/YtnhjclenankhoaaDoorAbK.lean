/- The frame 'Ab' is sound, sixteenth part: loops; code. -/
import Derived.Test.YtnhjclenankhoaaDoorAbJ
set_option linter.all false
namespace Ab
open Go
set_option linter.unusedSimpArgs false
set_option linter.unusedVariables false

section
variable {P : Program} {τ : Tab} {w : World} {g : Gh} {O : List Obj}

theorem ValL_set_same {h : Gh} {cs : List AV} {us : List Value} (hv : ValL h cs us) {n : Nat} {v : AV} (hx : Val h v (us.getD n undef)) : ValL h (cs.set n v) us := by
  have := ValL_set hv n hx
  have he : us.set n (us.getD n undef) = us := by
    apply List.ext_getElem?
    intro i
    rw [List.getElem?_set]
    split
    · rename_i hdi; subst hdi
      split
      · rename_i hlt
        rw [List.getD_eq_getElem?_getD, List.getElem?_eq_getElem hlt]; rfl
      · rename_i hlt
        rw [List.getElem?_eq_none (by omega)]
    · rfl
  rwa [he] at this

theorem junkW_val {h : Gh} {W : List Nat} : ∀ {cs : List AV} {us : List Value} (n : Nat), ValL h cs us → ValL h (junkW W cs n) us
  | [], [], _, _ => trivial
  | c :: cs, u :: us, n, ⟨h1, h2⟩ => by
    unfold junkW
    refine ⟨?_, junkW_val (n + 1) h2⟩
    split
    · trivial
    · exact h1

theorem setKeys_val {h : Gh} {R : Ren} {s : List AV} {us : List Value} (hs : ∀ n, Val h (ren R (nth s n .junk)) (us.getD n undef)) : ∀ {vals : List (Nat × AV)} {base : List AV}, ValL h base us → keysOk R s vals →
    ValL h (setKeys base vals) us
  | [], _, hb, _ => hb
  | (n, v) :: vals, base, hb, ⟨hk, hr⟩ => by
    unfold setKeys
    rw [st_eq]
    exact setKeys_val hs (ValL_set_same hb (hk _ _ (hs n))) hr

theorem rlook_headR : ∀ {ts : List Obj} {k0 k : Nat} {r}, rlook (headR O ts k0) k = some r → ∃ j t, k = k0 + j ∧ ts[j]? = some t ∧ r = (k, ver O k, vO t)
  | [], _, _, _, h => by simp [headR, rlook] at h
  | t :: ts, k0, k, r, h => by
    unfold headR rlook at h
    split at h
    · rename_i hb
      have := Nat.eq_of_beq_eq_true hb; subst this
      simp at h; subst h
      exact ⟨0, t, by simp, by simp, rfl⟩
    · obtain ⟨j, t', h1, h2, h3⟩ := rlook_headR h
      exact ⟨j + 1, t', by omega, by simpa using h2, h3⟩

theorem rlook_baseR : ∀ {ts : List Obj} {k0 k : Nat} {r}, rlook (baseR O ts k0) k = some r → ∃ j t, k = k0 + j ∧ ts[j]? = some t ∧ r = (k, (match vO t with | 0 => ver O k | _ + 1 => ver O k + 1), 0)
  | [], _, _, _, h => by simp [baseR, rlook] at h
  | t :: ts, k0, k, r, h => by
    unfold baseR rlook at h
    split at h
    · rename_i hb
      have := Nat.eq_of_beq_eq_true hb; subst this
      simp at h; subst h
      exact ⟨0, t, by simp, by simp, rfl⟩
    · obtain ⟨j, t', h1, h2, h3⟩ := rlook_baseR h
      exact ⟨j + 1, t', by omega, by simpa using h2, h3⟩

theorem versOk_get : ∀ {O ts : List Obj}, versOk O ts = true → ∀ (k : Nat) (t : Obj), ts[k]? = some t → ∃ o : Obj, O[k]? = some o ∧
    ((∃ v s z xs v' s' z' xs', o = Obj.row v s z xs ∧ t = Obj.row v' s' z' xs' ∧ (v' = 0 → v = 0)) ∨ ((∀ v s z xs, o ≠ Obj.row v s z xs) ∧ (∀ v s z xs, t ≠ Obj.row v s z xs)))
  | _, [], _, k, t, h => by simp at h
  | [], _ :: _, h, _, _, _ => by simp [versOk] at h
  | o :: O, t :: ts, h, k, t', hk => by
    unfold versOk at h
    split at h
    · rename_i hc
      cases k with
      | succ k =>
        obtain ⟨o', h1, h2⟩ := versOk_get h k t' (by simpa using hk)
        exact ⟨o', by simpa using h1, h2⟩
      | zero =>
        simp at hk; subst hk
        refine ⟨o, by simp, ?_⟩
        cases o with
        | row v s z xs =>
          cases t with
          | row v' s' z' xs' =>
            left
            refine ⟨v, s, z, xs, v', s', z', xs', rfl, rfl, fun e => ?_⟩
            subst e
            exact Nat.eq_of_beq_eq_true hc
          | _ => cases hc
        | _ =>
          cases t with
          | row => cases hc
          | _ =>
            right
            exact ⟨fun _ _ _ _ e => (by cases e), fun _ _ _ _ e => (by cases e)⟩
    · cases h

theorem headO_get {R : Ren} : ∀ {O ts : List Obj} {k : Nat} {o t : Obj}, O[k]? = some o → ts[k]? = some t →
    (headO R O ts)[k]? = some (match o, t with | .row _ s z xs, .row v s' _ _ => .row v (match s' with | true => s | false => false) z xs | o, _ => renO R 0 o)
  | [], _, k, o, t, h, _ => by simp at h
  | _ :: _, [], k, o, t, _, h => by simp at h
  | o' :: O, t' :: ts, 0, o, t, h, h' => by
    simp at h h'; subst h; subst h'
    simp only [headO, List.getElem?_cons_zero]
    rfl
  | o' :: O, t' :: ts, k + 1, o, t, h, h' => by
    have := headO_get (R := R) (k := k) (o := o) (t := t) (by simpa using h) (by simpa using h')
    simpa only [headO, List.getElem?_cons_succ] using this

/-- the rows that a loop's head does not write -/
def stills : List Obj → Nat → List Nat
  | [], _ => []
  | .row _ false _ _ :: ts, k => k :: stills ts (k + 1)
  | _ :: ts, k => stills ts (k + 1)

theorem mem_stills : ∀ {ts : List Obj} {k0 k : Nat}, k ∈ stills ts k0 ↔ ∃ j v z xs, k = k0 + j ∧ ts[j]? = some (.row v false z xs)
  | [], k0, k => by simp [stills]
  | t :: ts, k0, k => by
    have key : (∃ j v z xs, k = k0 + j ∧ (t :: ts)[j]? = some (.row v false z xs)) ↔ ((∃ v z xs, t = .row v false z xs) ∧ k = k0) ∨ ∃ j v z xs, k = (k0 + 1) + j ∧ ts[j]? = some (.row v false z xs) := by
      constructor
      · rintro ⟨j, v, z, xs, h1, h2⟩
        cases j with
        | zero => simp at h2; exact .inl ⟨⟨v, z, xs, h2⟩, by simpa using h1⟩
        | succ j => exact .inr ⟨j, v, z, xs, by omega, by simpa using h2⟩
      · rintro (⟨⟨v, z, xs, h1⟩, h2⟩ | ⟨j, v, z, xs, h1, h2⟩)
        · exact ⟨0, v, z, xs, by simpa using h2, by simp [h1]⟩
        · exact ⟨j + 1, v, z, xs, by omega, by simpa using h2⟩
    rw [key]
    cases t with
    | row v s z xs =>
      cases s with
      | false => simp only [stills, List.mem_cons, mem_stills (ts := ts)]; simp
      | true => simp only [stills, mem_stills (ts := ts)]; simp
    | _ => simp only [stills, mem_stills (ts := ts)]; simp

/-- A state that meets a loop's head is one of its states. -/
theorem meet_sound {n : Nat} {W : List Nat} {base : List AV} {vals : List (Nat × AV)} {objs : List Obj} {s : List AV} {a : Act} {w0 : World} {g0 : Gh} (hm : Meet n W base vals objs s O)
    (hs : Fst a w g s O) (hl : g0.le g) (hf : Fr w0 w g0 g) (h0 : ∀ k, k < g0.n → (g0.row k).1 = 0) (hn : g0.n ≤ n) :
    ∃ h, Fst a w h (setKeys base vals) objs ∧ g0.le h ∧ Fr w0 w g0 h := by
  obtain ⟨ml, mv, mo, mk1, mb⟩ := hm
  rw [ln_eq] at ml
  obtain ⟨g1, a1, b1, c1, d1, e1, f1, o1⟩ := still_many hs.sat (stills objs 0)
  let h : Gh := { imm := g1.imm, own := fun b => (g1.own b).bind fun k => if k < objs.length then some k else none, n := objs.length, blk := g1.blk,
                  row := fun k => (vO ((objs[k]?).getD .dead), (g1.row k).2) }
  have hver : ∀ k o, O[k]? = some o → ver O k = (g1.row k).1 ∧ vO o = (g1.row k).1 := by
    intro k o hk
    have hlt := (List.getElem?_eq_some_iff.1 hk).1
    obtain ⟨o', k1, k2, k3, k4⟩ := hs.sat.at hlt
    rw [hk] at k1; simp at k1; subst k1
    rw [e1]
    exact ⟨by rw [k4, k3.ver.1], k3.ver.1⟩
  have hrow : ∀ k t, objs[k]? = some t → h.row k = (vO t, (g1.row k).2) := by
    intro k t hk
    show (vO ((objs[k]?).getD .dead), _) = _
    rw [hk]; rfl
  have hR : RenOk g1 h (headR O objs 0) := by
    refine ⟨Imm.le_refl _, fun k k' vc vn hlk hk => ?_⟩
    obtain ⟨j, t, hj, ht, hr⟩ := rlook_headR hlk
    simp only [Nat.zero_add] at hj; subst hj
    simp only [Prod.mk.injEq] at hr
    obtain ⟨rfl, rfl, rfl⟩ := hr
    obtain ⟨o, ho, _⟩ := versOk_get mv _ t ht
    have hv := (hver _ o ho).1
    refine ⟨(List.getElem?_eq_some_iff.1 ht).1, rfl, fun hlt => by omega, fun _ => .inr ?_⟩
    rw [hrow _ t ht]; exact ⟨rfl, rfl⟩
  have hB : RenOk g1 h (baseR O objs 0) := by
    refine ⟨Imm.le_refl _, fun k k' vc vn hlk hk => ?_⟩
    obtain ⟨j, t, hj, ht, hr⟩ := rlook_baseR hlk
    simp only [Nat.zero_add] at hj; subst hj
    simp only [Prod.mk.injEq] at hr
    obtain ⟨rfl, rfl, rfl⟩ := hr
    obtain ⟨o, ho, _⟩ := versOk_get mv _ t ht
    have hv := (hver _ o ho).1
    refine ⟨(List.getElem?_eq_some_iff.1 ht).1, rfl, fun hlt => ?_, fun he => ?_⟩
    · cases hvt : vO t with
      | zero =>
        rw [hvt] at hlt
        have hlt : ver O k' < (g1.row k').1 := hlt
        omega
      | succ m =>
        rw [hvt] at hlt
        have hlt : ver O k' + 1 < (g1.row k').1 := hlt
        omega
    · cases hvt : vO t with
      | zero => right; rw [hrow _ t ht, hvt]; exact ⟨rfl, rfl⟩
      | succ m =>
        rw [hvt] at he
        have he : ver O k' + 1 = (g1.row k').1 := he
        omega
  have hown : ∀ b k, k < objs.length → g1.own b = some k → h.own b = some k := by
    intro b k hk hb
    show (g1.own b).bind _ = _
    rw [hb]; simp [hk]
  have hSat : Sat w h objs := by
    refine Sat.wk mo ⟨by rw [mo.len], c1.imm, fun k t0 ht0 => ?_, fun b k hb => ?_⟩
    · have hkl0 : k < objs.length := by rw [← mo.len]; exact (List.getElem?_eq_some_iff.1 ht0).1
      obtain ⟨t, ht⟩ : ∃ t, objs[k]? = some t := ⟨_, List.getElem?_eq_getElem hkl0⟩
      have hkl := (List.getElem?_eq_some_iff.1 ht).1
      obtain ⟨o, ho, hcase⟩ := versOk_get mv k t ht
      have hhead := headO_get (R := headR O objs 0) ho ht
      rw [ht0] at hhead
      simp only [Option.some.injEq] at hhead
      obtain ⟨t1, ht1, hw1⟩ := mo.get k t ht
      rw [ht0] at ht1
      simp only [Option.some.injEq] at ht1
      subst ht1
      have hst : (still O (stills objs 0))[k]? = some (stillO (hasN (stills objs 0) k) o) := by rw [still_get, ho]; rfl
      have hso := c1.obj k _ hst
      rcases hcase with ⟨v, s1, z, xs, v', s', z', xs', rfl, rfl, _⟩ | ⟨hno, hnt⟩
      · dsimp only at hhead
        subst hhead
        have hst' : s' = false ∨ (s' = true ∧ s1 = true) := by
          cases s' with
          | false => exact .inl rfl
          | true =>
            right
            refine ⟨rfl, ?_⟩
            rcases hw1 with hw1 | hw1
            · simp only [Obj.row.injEq] at hw1; exact hw1.2.1
            · exact hw1.2.1
        suffices hg : SatO w h k (.row v' s' z xs) by
          rcases hst' with h' | ⟨h', h''⟩
          · subst h'; exact hg
          · subst h'; subst h''; exact hg
        have hstill : stillO (hasN (stills objs 0) k) (.row v s1 z xs) = .row v s' z xs := by
          cases s' with
          | false =>
            have : hasN (stills objs 0) k = true := (hasN_iff _ _).2 (mem_stills.2 ⟨k, v', z', xs', by simp, ht⟩)
            rw [this]; rfl
          | true =>
            have hst' : s1 = true := by rcases hst' with h' | h' <;> simp_all
            have : hasN (stills objs 0) k = false := by
              cases hh : hasN (stills objs 0) k with
              | false => rfl
              | true =>
                obtain ⟨j, v2, z2, xs2, hj, h2⟩ := mem_stills.1 ((hasN_iff _ _).1 hh)
                simp only [Nat.zero_add] at hj; subst hj
                rw [ht] at h2; simp at h2
            rw [this, hst']; rfl
        rw [hstill] at hso
        obtain ⟨a', cap, hr, hat⟩ := hso
        refine ⟨a', cap, by rw [hrow k _ ht, hr]; rfl, hat.len, hat.elen, ?_⟩
        rcases hat.mem with h1 | ⟨b, off, c, tt, us, h1, h2, h3, h4, h5, h6, h7⟩
        · exact .inl h1
        · exact .inr ⟨b, off, c, tt, us, h1, h2, h3, hown b k hkl h4, h5, h6, h7⟩
      · have hso' : SatO w g1 k o := by
          cases o with
          | row v s1 z xs => exact absurd rfl (hno v s1 z xs)
          | cells cs => exact hso
          | map => exact hso.elim
          | dead => exact hso.elim
        have ht' : t0 = renO (headR O objs 0) 0 o := by
          rw [hhead]
          cases o with
          | row v s1 z xs => exact absurd rfl (hno v s1 z xs)
          | _ => rfl
        have hvt : vO t = 0 := by
          cases t with
          | row v s1 z xs => exact absurd rfl (hnt v s1 z xs)
          | _ => rfl
        rw [ht']
        refine SatO.ren hR rfl (fun b hb => ⟨hown b k hkl hb, rfl⟩) ?_ (fun _ _ => rfl) hso'
        rw [hrow k t ht, hvt]
    · have hb' : (g1.own b).bind (fun k => if k < objs.length then some k else none) = some k := hb
      simp only [Option.bind_eq_some_iff] at hb'
      obtain ⟨j, hj, hjk⟩ := hb'
      split at hjk
      · rename_i hlt
        simp at hjk; subst hjk
        exact ⟨(c1.own b j hj).1, hlt⟩
      · cases hjk
  refine ⟨h, ⟨hSat, ?_, hs.dfr⟩, ?_, ?_⟩
  · have hv1 := ValL_mono a1 _ _ hs.val
    have hbase : ValL h base a.tmps.toList := by
      rw [← mb]
      exact junkW_val 0 (ren_valL hB _ _ hv1)
    refine setKeys_val (R := headR O objs 0) (s := s) (fun k => ?_) hbase mk1
    refine ren_val hR _ _ ?_
    have := ValL_get hv1 k
    rw [nth_eq]; exact this
  · refine ⟨Imm.le_trans hl.imm a1.imm, by show g0.n ≤ objs.length; omega, fun k hk => ?_, fun k hk => ?_⟩
    · show g1.blk k = _
      rw [f1]; exact hl.blk k hk
    · have hko : k < objs.length := by omega
      have ht : objs[k]? = some objs[k] := List.getElem?_eq_getElem hko
      rw [hrow k _ ht, e1]
      obtain ⟨o, ho, hcase⟩ := versOk_get mv k _ ht
      have hvo := hver k o ho
      rw [e1] at hvo
      by_cases hz : vO objs[k] = 0
      · right
        have hg : (g.row k).1 = 0 := by
          rw [← hvo.2]
          rcases hcase with ⟨v, s1, z, xs, v', s', z', xs', h1, h2, h3⟩ | ⟨h1, _⟩
          · rw [h1]; rw [h2] at hz; exact h3 hz
          · cases o with
            | row v s1 z xs => exact absurd rfl (h1 v s1 z xs)
            | _ => rfl
        rcases hl.row k hk with h4 | h4
        · omega
        · rw [h4, hz]
          have := h0 k hk
          rw [← this]
      · left
        rw [h0 k hk]; show 0 < vO objs[k]; omega
  · have hf1 := hf.trans b1
    refine ⟨hf1.size, hf1.os, hf1.tape, hf1.out, hf1.heap, hf1.imm, fun b hb ho => ?_⟩
    show (g1.own b).bind _ = none
    rw [hf1.own b hb ho]; rfl

/-- Rows that are made of nil slices. -/
theorem rwK_sound {w0 : World} {g0 : Gh} : ∀ (l : List Rw) {a : Act} {g : Gh} {s : List AV} {O : List Obj} {K : List AV → List Obj → Prop}, Fst a w g s O → g0.le g → Fr w0 w g0 g → rwK l s O K →
    ∃ g' s' O', K s' O' ∧ Fst a w g' s' O' ∧ g0.le g' ∧ Fr w0 w g0 g'
  | [], a, g, s, O, K, hs, hl, hf, h => ⟨g, s, O, h, hs, hl, hf⟩
  | .slot n z :: l, a, g, s, O, K, hs, hl, hf, h => by
    unfold rwK at h
    split at h
    · rename_i hn
      rw [stK_eq, apK_eq, ln_eq] at h
      obtain ⟨g', h1, h2, h3, h4, h5⟩ := new_nil hs.sat z none
      have hv := ValL_get hs.val n
      rw [← nth_eq] at hv
      have hnil : a.tmps.toList.getD n undef = .slice none 0 0 := by
        unfold nilA at hn
        split at hn
        · rename_i he; rw [he] at hv; exact hv.1
        · cases hn
      refine rwK_sound l ⟨h3, ValL_set_same (ValL_mono h1 _ _ hs.val) ?_, hs.dfr⟩ (Gh.le_trans hl h1) (hf.trans h2) h
      rw [hnil]
      exact ⟨by rw [hs.sat.n, h4]; omega, ⟨_, _, _, rfl⟩, .inr (by rw [hs.sat.n, h5]; exact ⟨rfl, rfl⟩)⟩
    · exact h.elim
  | .cell k off z :: l, a, g, s, O, K, hs, hl, hf, h => by
    unfold rwK at h
    split at h
    · rename_i cs hcs
      split at h
      · rename_i hn
        rw [stK_eq, stK_eq, apK_eq, ln_eq] at h
        obtain ⟨g', h1, h2, h3, h4, h5⟩ := new_nil hs.sat z none
        obtain ⟨hk, hkn⟩ := hs.sat.get hcs (by simp)
        have hkO : k < O.length := (List.getElem?_eq_some_iff.1 hk).1
        have hk' : (O ++ [Obj.row 0 true z []])[k]? = some (.cells cs) := by rw [List.getElem?_append_left hkO]; exact hk
        obtain ⟨c, t, q1, q2, q3, q4, q5⟩ := h3.obj k _ hk'
        have hv := ValL_get q5 off
        rw [← nth_eq] at hv
        have hnil : c.toList.getD off undef = .slice none 0 0 := by
          unfold nilA at hn
          split at hn
          · rename_i he; rw [he] at hv; exact hv.1
          · cases hn
        have hnew : SatO w g' k (.cells (cs.set off (.row O.length 0))) := by
          refine ⟨c, t, q1, q2, q3, q4, ValL_set_same q5 ?_⟩
          rw [hnil]
          exact ⟨by rw [hs.sat.n, h4]; omega, ⟨_, _, _, rfl⟩, .inr (by rw [hs.sat.n, h5]; exact ⟨rfl, rfl⟩)⟩
        have hS' : Sat w g' ((O.set k (.cells (cs.set off (.row O.length 0)))) ++ [Obj.row 0 true z []]) := by
          refine ⟨by simpa using h3.n, h3.imm, fun j o hj => ?_, h3.own⟩
          by_cases hjk : j = k
          · subst hjk
            rw [List.getElem?_append_left (by simpa using hkO), List.getElem?_set_self hkO] at hj
            simp at hj; subst hj; exact hnew
          · refine h3.obj j o ?_
            rcases Nat.lt_or_ge j O.length with hlt | hge
            · rw [List.getElem?_append_left (by simpa using hlt), List.getElem?_set_ne (fun e => hjk e.symm)] at hj
              rw [List.getElem?_append_left hlt]; exact hj
            · rw [List.getElem?_append_right (by simpa using hge)] at hj
              rw [List.getElem?_append_right hge]; simpa using hj
        exact rwK_sound l ⟨hS', ValL_mono h1 _ _ hs.val, hs.dfr⟩ (Gh.le_trans hl h1) (hf.trans h2) h
      · exact h.elim
    · exact h.elim

/-! ### Code -/
def Ex.to : Ex → Exit
  | .normal => .normal
  | .exit n => .exit n
  | .ret => .ret

theorem wpA_sound (hm : P.follows .mixedOrders = true) (hτ : Tok P τ) {B : World} {Γ : Ctx} (hΓ : AllValid P B Γ) {w0 : World} {g0 : Gh} (hG : GI B w0 g0) (h0 : ∀ k, k < g0.n → (g0.row k).1 = 0) :
    ∀ (c : Code) (Q : Ex → List AV → List Obj → Prop) (Qc : Exit → Act → World → Prop) (a : Act) (w : World) (g : Gh) (s : List AV) (O : List Obj),
      (∀ e a w g s O, Q e s O → Fst a w g s O → g0.le g → Fr w0 w g0 g → Qc e.to a w) → Fst a w g s O → g0.le g → Fr w0 w g0 g → wpA τ Γ c Q s O → c.wp P Qc a w := by
  intro c
  induction c with
  | skip => intro Q Qc a w g s O hQ hs hl hf h; exact wp_skip (hQ .normal _ _ _ _ _ h hs hl hf)
  | label l => intro Q Qc a w g s O hQ hs hl hf h; exact wp_label (hQ .normal _ _ _ _ _ h hs hl hf)
  | exit n => intro Q Qc a w g s O hQ hs hl hf h; exact wp_exit (hQ (.exit n) _ _ _ _ _ h hs hl hf)
  | ret => intro Q Qc a w g s O hQ hs hl hf h; exact wp_ret (hQ .ret _ _ _ _ _ h hs hl hf)
  | region id ops draw =>
    intro Q Qc a w g s O hQ hs hl hf h
    cases draw with
    | false =>
      refine wp_region_list ?_
      exact opsG_sound hτ hΓ hG (fun a w g s O h hs hl hf => hQ .normal a w g s O h hs hl hf) ops.toList a w g s O hs hl hf h
    | true =>
      have := regD_sound (ops := ops.toList) (id := id) (Q := Qc) hm hτ hΓ hG (fun a w g s O h hs hl hf => hQ .normal a w g s O h hs hl hf) hs hl hf h
      simpa using this
  | seq x y ihx ihy =>
    intro Q Qc a w g s O hQ hs hl hf h
    refine wp_seq (ihx (thenQ (fun s' O' => wpA τ Γ y Q s' O') Q) _ a w g s O ?_ hs hl hf h)
    intro e a w g s O hq hs hl hf
    cases e with
    | normal => exact ihy Q Qc a w g s O hQ hs hl hf hq
    | exit n => exact hQ (.exit n) _ _ _ _ _ hq hs hl hf
    | ret => exact hQ .ret _ _ _ _ _ hq hs hl hf
  | cond c x y ihx ihy =>
    intro Q Qc a w g s O hQ hs hl hf h
    replace h : condK c (wpA τ Γ x) (wpA τ Γ y) Q s O := h
    unfold condK at h
    split at h
    · rename_i t
      have hv := hs.eval (.tmp t)
      have hset : ∀ {x : Bool} {y : AV}, a.eval (.tmp t) = .bool x → Val g y (.bool x) → Fst a w g (s.set t y) O := by
        intro x y hx hy
        refine ⟨hs.sat, ValL_set_same hs.val ?_, hs.dfr⟩
        have : a.tmps.toList.getD t undef = .bool x := by
          rw [← hx]; simp [Act.eval, Array.getD_eq_getD_getElem?, List.getD_eq_getElem?_getD]
        rw [this]; exact hy
      simp only [evo] at hv
      split at h
      · rename_i he
        rw [he] at hv
        exact wp_cond_true hv (ihx Q Qc a w g s O hQ hs hl hf h)
      · rename_i he
        rw [he] at hv
        exact wp_cond_false hv (ihy Q Qc a w g s O hQ hs hl hf h)
      · rename_i b he
        rw [he] at hv
        have hv : a.eval (.tmp t) = .bool b := hv
        cases b with
        | true =>
          have h1 := h.t rfl
          rw [stK_eq] at h1
          exact wp_cond_true hv (ihx Q Qc a w g _ O hQ (hset (y := .tt) hv rfl) hl hf h1)
        | false =>
          have h1 := h.f rfl
          rw [stK_eq] at h1
          exact wp_cond_false hv (ihy Q Qc a w g _ O hQ (hset (y := .ff) hv rfl) hl hf h1)
      · exact h.elim
    · rename_i x
      split at h
      · exact wp_cond_true rfl (ihx Q Qc a w g s O hQ hs hl hf h)
      · exact wp_cond_false rfl (ihy Q Qc a w g s O hQ hs hl hf h)
    · exact h.elim
  | block id c ih =>
    intro Q Qc a w g s O hQ hs hl hf h
    refine wp_block (ih (blockQ id Q) _ a w g s O ?_ hs hl hf h)
    intro e a w g s O hq hs hl hf
    cases e with
    | normal => exact hQ .normal _ _ _ _ _ hq hs hl hf
    | ret => exact hQ .ret _ _ _ _ _ hq hs hl hf
    | exit n =>
      simp only [blockQ] at hq
      simp only [Ex.to, Exit.inBlock]
      split at hq
      · rename_i hb
        have := Nat.eq_of_beq_eq_true hb; subst this
        rw [if_pos rfl]
        exact hQ .normal _ _ _ _ _ hq hs hl hf
      · rename_i hb
        rw [if_neg (by rintro rfl; simp at hb)]
        exact hQ (.exit n) _ _ _ _ _ hq hs hl hf
  | loop c ih =>
    intro Q Qc a w g s O hQ hs hl hf h
    replace h : loopK (writes c) (wpA τ Γ c) Q s O := h
    unfold loopK at h
    obtain ⟨rws, X, I, μ, vals, objs, x0, hI, h⟩ := h
    obtain ⟨g1, s1, O1, h, hs1, hl1, hf1⟩ := rwK_sound rws hs hl hf h
    rw [fL_eq] at h
    obtain ⟨hmeet, hround⟩ := h
    have hn : g0.n ≤ ln O1 := by rw [ln_eq, hs1.sat.n]; exact hl1.n
    obtain ⟨h1, hs2, hl2, hf2⟩ := meet_sound hmeet hs1 hl1 hf1 h0 hn
    refine wp_loop_ghost (fun n a w => ∃ x h, I x ∧ μ x = n ∧ Fst a w h (setKeys (junkW (writes c) (renL (baseR O1 (objs x0) 0) s1) 0) (vals x)) (objs x) ∧ g0.le h ∧ Fr w0 w g0 h) (μ x0) ⟨x0, h1, hI, rfl, hs2, hl2, hf2⟩ ?_
    rintro n a w ⟨x, h2, hx, rfl, hs3, hl3, hf3⟩
    have hb := hround x hx
    rw [fL_eq] at hb
    refine ih _ _ a w h2 _ _ ?_ hs3 hl3 hf3 hb
    intro e a w g s O hq hs hl hf
    cases e with
    | normal =>
      obtain ⟨x', hx', hlt, hm'⟩ := hq
      obtain ⟨h3, hs4, hl4, hf4⟩ := meet_sound hm' hs hl hf h0 hn
      exact ⟨μ x', hlt, x', h3, hx', rfl, hs4, hl4, hf4⟩
    | exit n => exact hQ (.exit n) _ _ _ _ _ hq hs hl hf
    | ret => exact hQ .ret _ _ _ _ _ hq hs hl hf
  | _ => intros; rename_i h; exact h.elim
end
end Ab
