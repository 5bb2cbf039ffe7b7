/- The frame 'Ab' is sound, seventeenth part: a function's results, its end, its contract. -/
import Derived.Test.YtnhjclenankhoaaDoorAbK
import Derived.Laws.Sem
set_option linter.all false
namespace Ab
open Go
set_option linter.unusedSimpArgs false
set_option linter.unusedVariables false

section
variable {P : Program} {τ : Tab} {w : World} {g : Gh} {O : List Obj}

theorem run_mapM {α : Type} (f : α → Sem Value) : ∀ (as : List α) (us : List Value), us.length = as.length → (∀ (i : Nat) r, as[i]? = some r → (f r).run P w = .ok (us.getD i undef) w) →
    (as.mapM f).run P w = .ok us w
  | [], [], _, _ => by simp
  | a :: as, u :: us, hl, h => by
    have h0 := h 0 a (by simp)
    have ih := run_mapM f as us (by simpa using hl) (fun i r hi => by simpa using h (i + 1) r (by simpa using hi))
    simp only [List.getD_cons_zero] at h0
    simp [List.mapM_cons, h0, ih]
  | [], _ :: _, hl, _ => by simp at hl
  | _ :: _, [], hl, _ => by simp at hl

/-- the value of results -/
def resV : List Value → Value
  | [u] => u
  | us => .tuple us.toArray

/-- one result -/
def rv1 (a : Act) : ResultVar → Sem Value
  | .tmp t => pure (a.tmps.getD t undef)
  | .cell x t => do loadVar t (← asAddr (a.tmps.getD x undef))

theorem res1_sound (hτ : Tok P τ) {a : Act} {s : List AV} (hs : Fst a w g s O) (r : ResultVar) {k : AV → Prop} (h : res1 τ s O r k) : ∃ v u, k v ∧ Val g v u ∧ (rv1 a r).run P w = .ok u w := by
  cases r with
  | tmp t => exact ⟨_, _, h, hs.eval (.tmp t), by simp [rv1, Act.eval]⟩
  | cell x t =>
    simp only [res1] at h
    have hx := hs.eval (.tmp x)
    simp only [evo, Act.eval] at hx
    split at h
    · rename_i n off he
      rw [he] at hx
      obtain ⟨hn, hu⟩ := hx
      split at h
      · rename_i cs hcs
        obtain ⟨h1, h2⟩ := hs.sat.get hcs (by simp)
        obtain ⟨c, t', hh, hown, him, _, hv⟩ := hs.sat.obj n _ h1
        rw [dp_eq] at h
        obtain ⟨v, u, hK, hv', hr⟩ := loadK_sound (w := w) (b := g.blk n) (off := off) hτ (ValL_drop off hv) (fun j hj => by
          rw [List.getElem?_drop]; simp only [World.cell?, hh]; simp) h
        refine ⟨v, u, hK, hv', ?_⟩
        simp only [Instr.loadAt, Instr.sureAddr, Sem.run_bind, Sem.run_pure, Result.andThen_ok] at hr
        simp [rv1, hu, asAddr, hr]
      · exact h.elim
    · exact h.elim

theorem resL_sound (hτ : Tok P τ) {a : Act} {s : List AV} (hs : Fst a w g s O) : ∀ (rs : List ResultVar) {k : List AV → Prop}, resL τ s O rs k →
    ∃ vs us, k vs ∧ ValL g vs us ∧ us.length = rs.length ∧ ∀ i r, rs[i]? = some r → (rv1 a r).run P w = .ok (us.getD i undef) w
  | [], k, h => ⟨[], [], h, trivial, rfl, fun i r h => by simp at h⟩
  | r :: rs, k, h => by
    unfold resL at h
    obtain ⟨v, u, h, hv, hr⟩ := res1_sound hτ hs r h
    obtain ⟨vs, us, h1, h2, h3, h4⟩ := resL_sound hτ hs rs h
    refine ⟨_, u :: us, h1, ⟨hv, h2⟩, by simp [h3], fun i r' hi => ?_⟩
    cases i with
    | zero => simp at hi; subst hi; simpa using hr
    | succ i => simpa using h4 i r' (by simpa using hi)

theorem norB_val {x : AV} {u : Value} (h : Val g x u) : Val g (norB x) u := by
  cases x <;> exact h
theorem norL_val : ∀ {xs : List AV} {us : List Value}, ValL g xs us → ValL g (mp1 norB xs) us
  | [], [], _ => trivial
  | x :: xs, u :: us, ⟨h1, h2⟩ => ⟨norB_val h1, norL_val h2⟩

theorem results_run {a : Act} {fn : Func} {us : List Value} (hl : us.length = fn.results.size) (h : ∀ (i : Nat) r, fn.results.toList[i]? = some r → (rv1 a r).run P w = .ok (us.getD i undef) w) :
    (results fn a.tmps).run P w = .ok (resV us) w := by
  have hrun : (fn.results.mapM (rv1 a)).run P w = .ok us.toArray w := by
    rw [Array.mapM_eq_mapM_toList]
    have := run_mapM (P := P) (w := w) (rv1 a) fn.results.toList us (by simpa using hl) h
    simp [this]
  have hf : results fn a.tmps = (do let vs ← fn.results.mapM (rv1 a); pure (if h : vs.size = 1 then vs[0] else .tuple vs)) := by
    unfold results
    congr 1
  rw [hf, Sem.run_bind, hrun]
  simp only [Result.andThen_ok, Sem.run_pure]
  match us with
  | [] => simp [resV]
  | [u] => simp [resV]
  | _ :: _ :: _ => simp [resV]

theorem resK_sound (hτ : Tok P τ) {a : Act} {s : List AV} (hs : Fst a w g s O) {fn : Func} {k : AV → Prop} (h : resK τ s O fn.results.toList k) :
    ∃ v u, k v ∧ Val g v u ∧ (results fn a.tmps).run P w = .ok u w := by
  unfold resK at h
  split at h
  · rename_i r hr
    obtain ⟨v, u, h, hv, hrun⟩ := res1_sound hτ hs r h
    refine ⟨_, u, h, norB_val hv, ?_⟩
    have hsz : fn.results.size = 1 := by rw [← Array.length_toList, hr]; rfl
    exact results_run (us := [u]) (by simp [hsz]) (fun i r' hi => by
      rw [hr] at hi
      cases i with
      | zero => simp at hi; subst hi; simpa using hrun
      | succ i => simp at hi)
  · rename_i rs hne
    obtain ⟨vs, us, h, hv, hl, hrun⟩ := resL_sound hτ hs _ h
    refine ⟨_, _, h, ⟨us, rfl, norL_val hv⟩, ?_⟩
    rw [results_run (us := us) (fn := fn) (by rw [hl]; simp) hrun]
    match us, hl with
    | [], _ => rfl
    | [u], hl =>
      exfalso
      match hrs : fn.results.toList with
      | [] => rw [hrs] at hl; simp at hl
      | [r] => exact hne r hrs
      | _ :: _ :: _ => rw [hrs] at hl; simp at hl
    | _ :: _ :: _, _ => rfl

/-! ### A function's end -/
theorem nodupB_spec : ∀ {l : List Nat}, nodupB l = true → l.Nodup
  | [], _ => by simp
  | x :: xs, h => by
    unfold nodupB at h
    split at h
    · cases h
    · rename_i hx
      exact List.nodup_cons.2 ⟨fun hm => (by rw [(hasN_iff _ _).2 hm] at hx; cases hx), nodupB_spec h⟩

theorem inB_spec {n m : Nat} : ∀ {l : List Nat}, inB n m l = true → ∀ k ∈ l, n ≤ k ∧ k < m
  | [], _, k, hk => by simp at hk
  | x :: xs, h, k, hk => by
    unfold inB at h
    split at h
    · rename_i h1 h2
      rcases List.mem_cons.1 hk with rfl | hk
      · exact ⟨Nat.le_of_ble_eq_true h1, Nat.le_of_ble_eq_true h2⟩
      · exact inB_spec h k hk
    · cases h

theorem upto_get : ∀ {n i k : Nat}, k < n → (upto n i)[k]? = some (i + k)
  | n + 1, i, 0, _ => by simp [upto]
  | n + 1, i, k + 1, h => by
    simp only [upto, List.getElem?_cons_succ]
    rw [upto_get (by omega)]; congr 1; omega
theorem upto_len : ∀ (n i : Nat), (upto n i).length = n
  | 0, _ => rfl
  | n + 1, i => by simp [upto, upto_len n]
theorem upto_nodup : ∀ (n i : Nat), (upto n i).Nodup
  | 0, _ => by simp [upto]
  | n + 1, i => List.nodup_cons.2 ⟨fun h => by have := (mem_upto.1 h).1; omega, upto_nodup n (i + 1)⟩

/-- the version that an object has behind the end -/
def endV (O : List Obj) (n k i : Nat) : Nat := match Nat.blt i n with | true => (match ver O k with | 0 => 0 | _ + 1 => 1) | false => 0

theorem rlook_expR {n : Nat} : ∀ {p : List Nat} {i0 k : Nat} {r}, rlook (expR O n p i0) k = some r → ∃ j, p[j]? = some k ∧ r = (i0 + j, ver O k, endV O n k (i0 + j))
  | [], _, _, _, h => by simp [expR, rlook] at h
  | x :: p, i0, k, r, h => by
    unfold expR rlook at h
    split at h
    · rename_i hb
      have := Nat.eq_of_beq_eq_true hb; subst this
      simp at h; subst h
      exact ⟨0, by simp, rfl⟩
    · obtain ⟨j, h1, h2⟩ := rlook_expR h
      exact ⟨j + 1, by simpa using h1, by rw [h2]; simp only [show i0 + 1 + j = i0 + (j + 1) by omega]⟩

theorem expO_get {R : Ren} {n : Nat} {keep : Nat → Bool} : ∀ (p : List Nat) (i0 i : Nat), (expO R O n keep p i0)[i]? = (p[i]?).map (fun k => renO R (endV O n k (i0 + i)) (frzO O keep (nth O k .dead)))
  | [], i0, i => by simp [expO]
  | k :: p, i0, 0 => by simp only [expO, List.getElem?_cons_zero, Option.map_some, Nat.add_zero]; rfl
  | k :: p, i0, i + 1 => by
    have := expO_get (R := R) (n := n) (keep := keep) p (i0 + 1) i
    simp only [expO, List.getElem?_cons_succ, this]
    rw [show i0 + 1 + i = i0 + (i + 1) by omega]
theorem expO_len {R : Ren} {n : Nat} {keep : Nat → Bool} : ∀ (p : List Nat) (i0 : Nat), (expO R O n keep p i0).length = p.length
  | [], _ => rfl
  | k :: p, i0 => by simp [expO, expO_len p]

/-- the rows that cells hold -/
def cellRows (O : List Obj) : List Nat → List Nat
  | [] => []
  | k :: p => (match nth O k .dead with | .cells cs => rowsInL cs | _ => []) ++ cellRows O p

theorem mem_cellRows : ∀ {p : List Nat} {k c : Nat} {cs : List AV}, k ∈ p → nth O k .dead = .cells cs → c ∈ rowsInL cs → c ∈ cellRows O p
  | [], _, _, _, h, _, _ => by simp at h
  | x :: p, k, c, cs, h, h1, h2 => by
    unfold cellRows
    rcases List.mem_cons.1 h with rfl | h
    · rw [h1]; exact List.mem_append.2 (.inl h2)
    · exact List.mem_append.2 (.inr (mem_cellRows h h1 h2))

theorem expK_sound {w0 : World} {g0 : Gh} (h0 : ∀ k, k < g0.n → (g0.row k).1 = 0) (hS : Sat w g O) (hl : g0.le g) (hf : Fr w0 w g0 g) {r : AV} {u : Value} (hv : Val g r u) {Q : AV → List Obj → Prop} (h : expK g0.n r O Q) :
    ∃ r' O' g', Q r' O' ∧ Val g' r' u ∧ Sat w g' O' ∧ g0.le g' ∧ Fr w0 w g0 g' := by
  unfold expK at h
  obtain ⟨q, ⟨hq1, hq2⟩, h⟩ := h
  simp only [fA_eq, fOs_eq, ap_eq] at h
  have hq1 := nodupB_spec hq1
  have hq2 := inB_spec hq2
  rw [ln_eq] at hq2
  have hgn : g0.n ≤ O.length := by rw [hS.n]; exact hl.n
  generalize hp : upto g0.n 0 ++ q = p at h
  have hpn : p.Nodup := by
    rw [← hp]
    refine List.nodup_append.2 ⟨upto_nodup _ _, hq1, ?_⟩
    intro a ha b hb hab
    subst hab
    have := mem_upto.1 ha
    have := hq2 a hb
    omega
  have hpl : ∀ k ∈ p, k < O.length := by
    intro k hk
    rw [← hp] at hk
    rcases List.mem_append.1 hk with hk | hk
    · have := mem_upto.1 hk; omega
    · exact (hq2 k hk).2
  have hp0 : ∀ k, k < g0.n → p[k]? = some k := by
    intro k hk
    rw [← hp, List.getElem?_append_left (by rw [upto_len]; exact hk), upto_get hk]; simp
  have hplen : g0.n ≤ p.length := by rw [← hp]; simp [upto_len]
  -- what is handed back no more is still
  let cs := (rowsIn r ++ cellRows O p).filter fun c => !(hasN p c)
  have hcs : ∀ c, c ∈ rowsIn r ++ cellRows O p → hasN p c = false → c ∈ cs := fun c hc hk => List.mem_filter.2 ⟨hc, by simp [hk]⟩
  obtain ⟨g1, a1, b1, c1, d1, e1, f1, o1⟩ := still_many hS cs
  let hh : Gh := { imm := g1.imm, own := fun b => (g1.own b).bind (idxN p), n := p.length, blk := fun i => g1.blk (p.getD i 0), row := fun i => (endV O g0.n (p.getD i 0) i, (g1.row (p.getD i 0)).2) }
  have hver : ∀ k, k < O.length → ver O k = (g1.row k).1 := by
    intro k hk
    obtain ⟨o, k1, k2, k3, k4⟩ := hS.at hk
    rw [e1, k4, k3.ver.1]
  have hR : RenOk g1 hh (expR O g0.n p 0) := by
    refine ⟨Imm.le_refl _, fun k k' vc vn hlk hk => ?_⟩
    obtain ⟨j, hj, hr⟩ := rlook_expR hlk
    simp only [Prod.mk.injEq, Nat.zero_add] at hr
    obtain ⟨rfl, rfl, rfl⟩ := hr
    have hv := hver k (hpl k (List.mem_of_getElem? hj))
    refine ⟨(List.getElem?_eq_some_iff.1 hj).1, ?_, fun hlt => by omega, fun _ => .inr ⟨?_, ?_⟩⟩
    · show g1.blk (p.getD k' 0) = _
      rw [getD_of hj]
    · show endV O g0.n k k' = endV O g0.n (p.getD k' 0) k'
      rw [getD_of hj]
    · show (g1.row (p.getD k' 0)).2 = _
      rw [getD_of hj]
  refine ⟨_, _, hh, h, ?_, ?_, ?_, ?_⟩
  · refine ren_val hR _ _ (frz_val c1 r u (fun c hc hk => hcs c (List.mem_append.2 (.inl hc)) hk) (Val_mono a1 _ _ hv))
  · refine ⟨expO_len _ _, c1.imm, fun i o hi => ?_, fun b i hb => ?_⟩
    · rw [expO_get] at hi
      simp only [Option.map_eq_some_iff, Nat.zero_add] at hi
      obtain ⟨k, hk, rfl⟩ := hi
      have hkl := hpl k (List.mem_of_getElem? hk)
      have hkp := List.mem_of_getElem? hk
      obtain ⟨o, k1, k2, k3, k4⟩ := hS.at hkl
      have hst : (still O cs)[k]? = some o := by
        rw [still_get, k1]
        have : hasN cs k = false := by
          cases hx : hasN cs k with
          | false => rfl
          | true =>
            have := (hasN_iff _ _).1 hx
            have := (List.mem_filter.1 this).2
            rw [(hasN_iff _ _).2 hkp] at this; cases this
        rw [this]
        cases o <;> rfl
      have hso := c1.obj k o hst
      have hso' : SatO w g1 k (frzO O (hasN p) o) := by
        cases o with
        | cells cs' =>
          obtain ⟨c, t, q1, q2, q3, q4, q5⟩ := hso
          exact ⟨c, t, q1, q2, q3, q4, frz_valL c1 cs' _ (fun c hc hkc => hcs c (List.mem_append.2 (.inr (mem_cellRows hkp k2 hc))) hkc) q5⟩
        | row => exact hso
        | map => exact hso.elim
        | dead => exact hso.elim
      rw [k2]
      refine SatO.ren hR ?_ (fun b hb => ⟨?_, rfl⟩) ?_ ?_ hso'
      · show g1.blk (p.getD i 0) = _
        rw [getD_of hk]
      · show (g1.own b).bind (idxN p) = _
        rw [hb]; exact idxN_of hpn hk
      · show (endV O g0.n (p.getD i 0) i, (g1.row (p.getD i 0)).2) = _
        rw [getD_of hk]
      · intro cs' hcs'
        have hv0 : ver O k = 0 := by
          rw [k4]
          cases o with
          | row => simp [frzO] at hcs'
          | _ => rfl
        unfold endV
        rw [hv0]
        split <;> rfl
    · have hb' : (g1.own b).bind (idxN p) = some i := hb
      simp only [Option.bind_eq_some_iff] at hb'
      obtain ⟨k, hk, hi⟩ := hb'
      exact ⟨(c1.own b k hk).1, (List.getElem?_eq_some_iff.1 (idxN_some hi)).1⟩
  · refine ⟨Imm.le_trans hl.imm a1.imm, hplen, fun k hk => ?_, fun k hk => ?_⟩
    · show g1.blk (p.getD k 0) = _
      rw [getD_of (hp0 k hk), f1]; exact hl.blk k hk
    · show (g0.row k).1 < endV O g0.n (p.getD k 0) k ∨ (endV O g0.n (p.getD k 0) k, (g1.row (p.getD k 0)).2) = _
      rw [getD_of (hp0 k hk), e1, h0 k hk]
      have hblt : Nat.blt k g0.n = true := Nat.ble_eq_true_of_le hk
      have hvk := hver k (by omega)
      rw [e1] at hvk
      unfold endV
      rw [hblt]
      dsimp only
      cases hz : ver O k with
      | zero =>
        right
        rcases hl.row k hk with h4 | h4
        · omega
        · rw [h4]
          have := h0 k hk
          exact Prod.ext this.symm rfl
      | succ m => left; simp
  · have hf1 := hf.trans b1
    refine ⟨hf1.size, hf1.os, hf1.tape, hf1.out, hf1.heap, hf1.imm, fun b hb ho => ?_⟩
    show (g1.own b).bind _ = none
    rw [hf1.own b hb ho]; rfl

/-! ### A function's contract -/
theorem fnPost_sound (hτ : Tok P τ) {w0 : World} {g0 : Gh} (h0 : ∀ k, k < g0.n → (g0.row k).1 = 0) {fn : Func} {Q : AV → List Obj → Prop} {e : Ex} {a : Act} {s : List AV} (hs : Fst a w g s O) (hl : g0.le g) (hf : Fr w0 w g0 g)
    (h : fnPost τ fn.results.toList g0.n Q e s O) :
    bodyPost P fn (fun e w' => ∃ u, e = .returned u ∧ ∃ r O' g', Q r O' ∧ Val g' r u ∧ Sat w' g' O' ∧ g0.le g' ∧ Fr w0 w' g0 g') e.to a w := by
  have key : resK τ s O fn.results.toList (fun r => fA r fun r' => expK g0.n r' O Q) → a.defers = [] ∧ ∃ v, (results fn a.tmps).run P w = .ok v w ∧
      ∃ u, Ending.returned v = .returned u ∧ ∃ r O' g', Q r O' ∧ Val g' r u ∧ Sat w g' O' ∧ g0.le g' ∧ Fr w0 w g0 g' := by
    intro h
    obtain ⟨v, u, h, hv, hr⟩ := resK_sound hτ hs h
    rw [fA_eq] at h
    obtain ⟨r', O', g', k1, k2, k3, k4, k5⟩ := expK_sound h0 hs.sat hl hf hv h
    exact ⟨hs.dfr, u, hr, u, rfl, r', O', g', k1, k2, k3, k4, k5⟩
  cases e with
  | normal => exact key h
  | ret => exact key h
  | exit n => exact h.elim

theorem reps_val : ∀ (n : Nat), ValL g (reps n .und) (List.replicate n undef)
  | 0 => trivial
  | n + 1 => ⟨rfl, reps_val n⟩

/-- **A contract**, by reckoning. -/
theorem valid_of (hm : P.follows .mixedOrders = true) (hτ : Tok P τ) {B : World} {Γ : Ctx} (hΓ : AllValid P B Γ) {f : Nat} {fn : Func} {c : Code} (hfn : P.funcs[f]? = some fn) (hb : fn.body = some c) (hname : (fn.name == "runtime.NumGoroutine") = false)
    {S : Spec} (h : ∀ args O Q, S args O Q → runK τ Γ c fn.results.toList fn.ntmps args O (wkQ Q)) : Valid P B f S := by
  intro w g O args us Q hG hS h0 hv hs
  right
  have hrun := h args O Q hs
  unfold runK at hrun
  rw [fL_eq] at hrun
  refine ⟨?_, ?_⟩
  · have hne : fn.name ≠ "runtime.NumGoroutine" := fun e => by rw [e] at hname; simp at hname
    simp [callFunc, hfn, hne, hb]
  · refine calls_of_wp hfn hb ?_
    have hlen := ValL_length hv
    have hst : Fst { tmps := us.toArray ++ Array.replicate (fn.ntmps - us.toArray.size) undef, defers := [] } w g (pad args (fn.ntmps - ln args)) O := by
      refine ⟨hS, ?_, rfl⟩
      unfold pad
      rw [ap_eq, ln_eq, hlen]
      have : (us.toArray ++ Array.replicate (fn.ntmps - us.toArray.size) undef).toList = us ++ List.replicate (fn.ntmps - us.length) undef := by simp
      rw [this]
      exact ValL_append hv (reps_val _)
    have hOn : ln O = g.n := by rw [ln_eq, hS.n]
    rw [hOn] at hrun
    have hc := wpA_sound hm hτ hΓ hG h0 c _ _ _ w g _ O (fun e a w' g' s O' hq hs' hl' hf' => fnPost_sound hτ h0 hs' hl' hf' hq) hst (Gh.le_refl g) (Fr.refl w g) hrun
    have weak : ∀ (e : Ending) (w' : World), (∃ u, e = .returned u ∧ ∃ r O' g', wkQ Q r O' ∧ Val g' r u ∧ Sat w' g' O' ∧ g.le g' ∧ Fr w w' g g') → ∃ u, e = .returned u ∧ ∃ r O' g', Q r O' ∧ Val g' r u ∧ Sat w' g' O' ∧ g.le g' ∧ Fr w w' g g' := by
      rintro e w' ⟨u, he, r, O', g', ⟨r', O'', k1, k2, k3⟩, k4, k5, k6, k7⟩
      exact ⟨u, he, r', O'', g', k3, k1 _ _ k4, k5.wk k2, k6, k7⟩
    refine Code.wp_mono (fun e a w' hq => ?_) hc
    cases e with
    | normal =>
      obtain ⟨h1, v, h2, h3⟩ := hq
      exact ⟨h1, v, h2, weak _ _ h3⟩
    | ret =>
      obtain ⟨h1, v, h2, h3⟩ := hq
      exact ⟨h1, v, h2, weak _ _ h3⟩
    | panic ch =>
      obtain ⟨h1, h3⟩ := hq
      exact ⟨h1, weak _ _ h3⟩
    | outgrown => exact weak _ _ hq
    | exit n => exact hq.elim
    | goto l => exact hq.elim
end
end Ab
