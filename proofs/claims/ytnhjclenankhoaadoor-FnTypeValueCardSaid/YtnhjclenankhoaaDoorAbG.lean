/- The frame 'Ab' is sound, twelfth part: renaming of objects; calls. -/
import Derived.Test.YtnhjclenankhoaaDoorAbF
set_option linter.all false
namespace Ab
open Go
set_option linter.unusedSimpArgs false
set_option linter.unusedVariables false

section
variable {P : Program} {τ : Tab} {w : World} {g h : Gh} {O : List Obj}

/-- A renaming, from the objects of g to those of h. -/
structure RenOk (g h : Gh) (R : Ren) : Prop where
  imm : g.imm.le h.imm
  look : ∀ k k' vc vn, rlook R k = some (k', vc, vn) → k < g.n → k' < h.n ∧ h.blk k' = g.blk k ∧ (vc < (g.row k).1 → vn < (h.row k').1) ∧
    (vc = (g.row k).1 → vn < (h.row k').1 ∨ (vn = (h.row k').1 ∧ (h.row k').2 = (g.row k).2))

mutual
theorem ren_val {R : Ren} (hR : RenOk g h R) : ∀ (x : AV) (u : Value), Val g x u → Val h (ren R x) u
  | .d x, u, hv => DVal_mono hR.imm x u hv
  | .tt, _, hv => hv
  | .ff, _, hv => hv
  | .und, _, hv => hv
  | .junk, _, _ => trivial
  | .da cs, u, ⟨b, off, hu, hc⟩ => ⟨b, off, hu, DCells_mono hR.imm b off cs hc⟩
  | .row c v, u, ⟨hc, hq, hx⟩ => by
    unfold ren
    split
    · rename_i c' vc vn hl
      split
      · rename_i hb
        have := Nat.eq_of_beq_eq_true hb; subst this
        obtain ⟨h1, h2, h3, h4⟩ := hR.look _ _ _ _ hl hc
        refine ⟨h1, hq, ?_⟩
        rcases hx with hx | ⟨hx, hu⟩
        · exact .inl (h3 hx)
        · rcases h4 hx with h5 | ⟨h5, h6⟩
          · exact .inl h5
          · exact .inr ⟨h5, by rw [h6]; exact hu⟩
      · trivial
    · trivial
  | .ptr k off, u, ⟨hc, hx⟩ => by
    unfold ren
    split
    · rename_i k' _ _ hl
      obtain ⟨h1, h2, _⟩ := hR.look _ _ _ _ hl hc
      exact ⟨h1, by rw [h2]; exact hx⟩
    · trivial
  | .mp k, u, ⟨hc, hx⟩ => by
    unfold ren
    split
    · rename_i k' _ _ hl
      obtain ⟨h1, h2, _⟩ := hR.look _ _ _ _ hl hc
      exact ⟨h1, by rw [h2]; exact hx⟩
    · trivial
  | .ra c v z i off, u, ⟨hc, hq, hx⟩ => by
    unfold ren
    split
    · rename_i c' vc vn hl
      split
      · rename_i hb
        have := Nat.eq_of_beq_eq_true hb; subst this
        obtain ⟨h1, h2, h3, h4⟩ := hR.look _ _ _ _ hl hc
        refine ⟨h1, hq, ?_⟩
        rcases hx with hx | ⟨hx, hu⟩
        · exact .inl (h3 hx)
        · rcases h4 hx with h5 | ⟨h5, h6⟩
          · exact .inl h5
          · exact .inr ⟨h5, by rw [h6]; exact hu⟩
      · trivial
    · trivial
  | .agg cs, u, ⟨us, hu, hl⟩ => ⟨us, hu, ren_valL hR cs us hl⟩
  | .tup cs, u, ⟨us, hu, hl⟩ => ⟨us, hu, ren_valL hR cs us hl⟩
  | .fn f cs, u, ⟨us, hu, hl⟩ => ⟨us, hu, ren_valL hR cs us hl⟩
  | .ifc t x, u, ⟨y, hu, hl⟩ => ⟨y, hu, ren_val hR x y hl⟩
theorem ren_valL {R : Ren} (hR : RenOk g h R) : ∀ (xs : List AV) (us : List Value), ValL g xs us → ValL h (renL R xs) us
  | [], [], _ => trivial
  | x :: xs, u :: us, ⟨h1, h2⟩ => ⟨ren_val hR x u h1, ren_valL hR xs us h2⟩
  | [], _ :: _, h => h.elim
  | _ :: _, [], h => h.elim
end

theorem SatO.ren {R : Ren} (hR : RenOk g h R) {k k' v' : Nat} (hblk : h.blk k' = g.blk k) (hb : ∀ b, g.own b = some k → h.own b = some k' ∧ h.imm b = g.imm b)
    (hrow : h.row k' = (v', (g.row k).2)) : ∀ {o : Obj}, (∀ cs, o = .cells cs → v' = 0) → SatO w g k o → SatO w h k' (renO R v' o)
  | .cells cs, hv', ⟨c, t, hh, ho, hi, hrw, hv⟩ => by
    obtain ⟨h1, h2⟩ := hb _ ho
    have := hv' cs rfl
    exact ⟨c, t, by rw [hblk]; exact hh, by rw [hblk]; exact h1, by rw [hblk, h2]; exact hi, by rw [hrow, hrw, this], ren_valL hR _ _ hv⟩
  | .row v st z xs, _, ⟨a, cap, hr, hm⟩ => by
    refine ⟨a, cap, by rw [hrow, hr], hm.len, hm.elen, ?_⟩
    rcases hm.mem with h0 | ⟨b, off, c, t, us, ha, hh, hs, ho, hu, hd, hi⟩
    · exact .inl h0
    · obtain ⟨h1, h2⟩ := hb _ ho
      exact .inr ⟨b, off, c, t, us, ha, hh, hs, h1, hu, DList_mono hR.imm _ _ hd, by rw [h2]; exact hi⟩
  | .map _ _, _, h => h.elim
  | .dead, _, h => h.elim

/-! ### Places in lists -/
def idxN : List Nat → Nat → Option Nat
  | [], _ => none
  | x :: xs, k => if x = k then some 0 else (idxN xs k).map (· + 1)

theorem idxN_some : ∀ {p : List Nat} {k i : Nat}, idxN p k = some i → p[i]? = some k
  | [], _, _, h => by simp [idxN] at h
  | x :: xs, k, i, h => by
    unfold idxN at h
    split at h
    · rename_i hx; simp at h; subst h; simp [hx]
    · simp only [Option.map_eq_some_iff] at h
      obtain ⟨j, hj, rfl⟩ := h
      simpa using idxN_some hj
theorem idxN_none : ∀ {p : List Nat} {k : Nat}, idxN p k = none → k ∉ p
  | [], _, _ => by simp
  | x :: xs, k, h => by
    unfold idxN at h
    split at h
    · cases h
    · rename_i hx
      simp only [Option.map_eq_none_iff] at h
      have := idxN_none h
      simp [this]; exact fun e => hx e.symm
theorem idxN_of : ∀ {p : List Nat} {k i : Nat}, p.Nodup → p[i]? = some k → idxN p k = some i
  | [], _, _, _, h => by simp at h
  | x :: xs, k, i, hn, h => by
    obtain ⟨h1, h2⟩ := List.nodup_cons.1 hn
    unfold idxN
    cases i with
    | zero => simp at h; simp [h]
    | succ i =>
      simp at h
      have hne : x ≠ k := fun e => by subst e; exact h1 (List.mem_of_getElem? h)
      simp [hne, idxN_of h2 h]

/-! ### What is reached -/
theorem bfs_ok {O : List Obj} : ∀ (n : Nat) (q seen : List Nat), seen.Nodup → (∀ k ∈ seen, k < O.length) → (bfs O n q seen).Nodup ∧ ∀ k ∈ bfs O n q seen, k < O.length
  | 0, _, seen, h1, h2 => ⟨h1, h2⟩
  | n + 1, [], seen, h1, h2 => ⟨h1, h2⟩
  | n + 1, k :: q, seen, h1, h2 => by
    unfold bfs
    split
    · exact bfs_ok n q seen h1 h2
    · rename_i hk
      split
      · rename_i hlt
        have hlt := Nat.le_of_ble_eq_true hlt
        rw [ln_eq] at hlt
        have hk' : k ∉ seen := fun hm => by rw [(hasN_iff _ _).2 hm] at hk; cases hk
        rw [ap_eq seen]
        refine bfs_ok n _ _ (List.nodup_append.2 ⟨h1, by simp, ?_⟩) ?_
        · rintro a ha b hb
          simp at hb; subst hb
          rintro rfl; exact hk' ha
        · intro j hj
          rcases List.mem_append.1 hj with hj | hj
          · exact h2 j hj
          · simp at hj; subst hj; exact hlt
      · exact bfs_ok n q seen h1 h2

theorem rlook_mkR {O : List Obj} : ∀ {p : List Nat} {i0 k : Nat} {r}, rlook (mkR O p i0) k = some r → ∃ j, p[j]? = some k ∧ r = (i0 + j, ver O k, 0)
  | [], _, _, _, h => by simp [mkR, rlook] at h
  | x :: p, i0, k, r, h => by
    unfold mkR rlook at h
    split at h
    · rename_i hb
      have := Nat.eq_of_beq_eq_true hb; subst this
      simp at h; subst h
      exact ⟨0, by simp, rfl⟩
    · obtain ⟨j, h1, h2⟩ := rlook_mkR h
      exact ⟨j + 1, by simpa using h1, by rw [h2]; simp; omega⟩

theorem rlook_mkB_nil {O : List Obj} : ∀ {os : List Obj} {n i0 i : Nat} {r}, rlook (mkB O n os [] i0) i = some r →
    ∃ j o, i = i0 + j ∧ os[j]? = some o ∧ r = (n + j, vO o, vO o)
  | [], _, _, _, _, h => by simp [mkB, rlook] at h
  | o :: os, n, i0, i, r, h => by
    unfold mkB rlook at h
    split at h
    · rename_i hb
      have := Nat.eq_of_beq_eq_true hb; subst this
      simp at h; subst h
      exact ⟨0, o, by simp, by simp, rfl⟩
    · obtain ⟨j, o', h1, h2, h3⟩ := rlook_mkB_nil h
      exact ⟨j + 1, o', by omega, by simpa using h2, by rw [h3]; simp; omega⟩

theorem rlook_mkB {O : List Obj} : ∀ {os : List Obj} {p : List Nat} {n i0 i : Nat} {r}, rlook (mkB O n os p i0) i = some r →
    ∃ j o, i = i0 + j ∧ os[j]? = some o ∧ ((∃ k, p[j]? = some k ∧ r = (k, vO o, backV O k (vO o))) ∨ (p.length ≤ j ∧ r = (n + (j - p.length), vO o, vO o)))
  | [], p, _, _, _, _, h => by cases p <;> simp [mkB, rlook] at h
  | o :: os, [], n, i0, i, r, h => by
    obtain ⟨j, o', h1, h2, h3⟩ := rlook_mkB_nil h
    exact ⟨j, o', h1, h2, .inr ⟨by simp, by simpa using h3⟩⟩
  | o :: os, k :: p, n, i0, i, r, h => by
    unfold mkB rlook at h
    split at h
    · rename_i hb
      have := Nat.eq_of_beq_eq_true hb; subst this
      simp at h; subst h
      exact ⟨0, o, by simp, by simp, .inl ⟨k, by simp, rfl⟩⟩
    · obtain ⟨j, o', h1, h2, h3⟩ := rlook_mkB h
      refine ⟨j + 1, o', by omega, by simpa using h2, ?_⟩
      rcases h3 with ⟨k', h3, h4⟩ | ⟨h3, h4⟩
      · exact .inl ⟨k', by simpa using h3, h4⟩
      · exact .inr ⟨by simp; omega, by rw [h4]; simp⟩

theorem mergeO_nil {R : Ren} {O : List Obj} : ∀ (os acc : List Obj), mergeO R O acc [] os = acc ++ os.map (fun o => renO R (vO o) o)
  | [], acc => by simp [mergeO]
  | o :: os, acc => by simp [mergeO, mergeO_nil os, ap_eq]

theorem mergeO_get {R : Ren} {O : List Obj} : ∀ (p : List Nat) (os acc : List Obj), p.length ≤ os.length → p.Nodup → (∀ k ∈ p, k < acc.length) →
    (mergeO R O acc p os).length = acc.length + (os.length - p.length) ∧
    (∀ (k : Nat), k < acc.length → k ∉ p → (mergeO R O acc p os)[k]? = acc[k]?) ∧
    (∀ (j k : Nat) (o : Obj), p[j]? = some k → os[j]? = some o → (mergeO R O acc p os)[k]? = some (renO R (backV O k (vO o)) o)) ∧
    (∀ (j : Nat) (o : Obj), os[p.length + j]? = some o → (mergeO R O acc p os)[acc.length + j]? = some (renO R (vO o) o))
  | [], os, acc, _, _, _ => by
    rw [mergeO_nil]
    refine ⟨by simp, fun k hk _ => by rw [List.getElem?_append_left hk], fun j k o h => by simp at h, fun j o h => ?_⟩
    simp at h
    rw [List.getElem?_append_right (by omega)]
    simp [h]
  | k :: p, [], acc, h, _, _ => by simp at h
  | k :: p, o :: os, acc, hl, hn, hk => by
    obtain ⟨hn1, hn2⟩ := List.nodup_cons.1 hn
    have hkk := hk k (by simp)
    simp only [mergeO, st_eq]
    obtain ⟨h1, h2, h3, h4⟩ := mergeO_get (R := R) (O := O) p os (acc.set k (renO R (backV O k (vO o)) o)) (by simpa using hl) hn2 (fun j hj => by simpa using hk j (by simp [hj]))
    simp only [List.length_set] at h1 h2 h4
    refine ⟨by rw [h1]; simp, fun j hj hjn => ?_, fun j k' o' hj ho => ?_, fun j o' ho => ?_⟩
    · simp at hjn
      rw [h2 j hj hjn.2, List.getElem?_set_ne (fun e => hjn.1 e.symm)]
    · cases j with
      | zero =>
        simp at hj ho; subst hj; subst ho
        rw [h2 k hkk hn1, List.getElem?_set_self hkk]
      | succ j => exact h3 j k' o' (by simpa using hj) (by simpa using ho)
    · refine h4 j o' ?_
      simp only [List.length_cons] at ho
      rw [show p.length + 1 + j = p.length + j + 1 by omega] at ho
      simpa using ho

theorem subO_get {R : Ren} {O : List Obj} : ∀ (p : List Nat) (i : Nat), (subO R O p)[i]? = (p[i]?).map (fun k => renO R 0 (nth O k .dead))
  | [], i => by simp [subO]
  | k :: p, 0 => by simp [subO]
  | k :: p, i + 1 => by simpa [subO] using subO_get p i

theorem subO_len {R : Ren} {O : List Obj} : ∀ (p : List Nat), (subO R O p).length = p.length
  | [] => rfl
  | k :: p => by simp [subO, subO_len p]

theorem vO_renO (R : Ren) (v : Nat) (o : Obj) (h : ∀ cs, o = .cells cs → v = 0) (hd : ∃ k w g, SatO w g k o) : vO (renO R v o) = v := by
  obtain ⟨k, w, g, hd⟩ := hd
  cases o with
  | cells cs => simp [renO, vO, h cs rfl]
  | row v' s z xs => rfl
  | map => exact hd.elim
  | dead => exact hd.elim

theorem SatO.ver {k : Nat} {o : Obj} (hs : SatO w g k o) : vO o = (g.row k).1 ∧ (∀ cs, o = .cells cs → (g.row k).2 = .nilFunc) ∧ (∀ v s z xs, o = .row v s z xs → (g.row k).2 ≠ .nilFunc) := by
  cases o with
  | cells cs =>
    obtain ⟨c, t, _, _, _, h, _⟩ := hs
    rw [h]
    exact ⟨rfl, fun _ _ => rfl, fun _ _ _ _ e => by cases e⟩
  | row v s z xs =>
    obtain ⟨a, cap, h, _⟩ := hs
    rw [h]
    exact ⟨rfl, fun _ e => (by cases e), fun _ _ _ _ _ => by simp⟩
  | map => exact hs.elim
  | dead => exact hs.elim

theorem Sat.at (hS : Sat w g O) {k : Nat} (hk : k < O.length) : ∃ o, O[k]? = some o ∧ nth O k .dead = o ∧ SatO w g k o ∧ ver O k = vO o := by
  have h1 : O[k]? = some O[k] := List.getElem?_eq_getElem hk
  have h2 : nth O k .dead = O[k] := by rw [nth_eq, List.getD_eq_getElem?_getD, h1]; rfl
  refine ⟨O[k], h1, h2, hS.obj k _ h1, ?_⟩
  unfold ver vO
  rw [h2]
  try cases O[k] <;> rfl

/-- The callee's objects: those that it reaches. -/
def Gh.sub (g : Gh) (p : List Nat) : Gh :=
  { imm := g.imm, own := fun b => (g.own b).bind (idxN p), n := p.length, blk := fun i => g.blk (p.getD i 0), row := fun i => (0, (g.row (p.getD i 0)).2) }

theorem getD_of {p : List Nat} {i k : Nat} (h : p[i]? = some k) : p.getD i 0 = k := by
  rw [List.getD_eq_getElem?_getD, h]; rfl

theorem sub_renOk (hS : Sat w g O) {p : List Nat} (hp : ∀ k ∈ p, k < O.length) : RenOk g (g.sub p) (mkR O p 0) := by
  refine ⟨Imm.le_refl _, fun k k' vc vn hl hk => ?_⟩
  obtain ⟨j, hj, hr⟩ := rlook_mkR hl
  simp only [Prod.mk.injEq, Nat.zero_add] at hr
  obtain ⟨rfl, rfl, rfl⟩ := hr
  obtain ⟨o, h1, h2, h3, h4⟩ := hS.at (hp k (List.mem_of_getElem? hj))
  have hver := h3.ver.1
  have hjl : k' < p.length := (List.getElem?_eq_some_iff.1 hj).1
  refine ⟨hjl, by simp [Gh.sub, hj], fun h => ?_, fun _ => .inr ⟨rfl, by simp [Gh.sub, hj]⟩⟩
  omega

theorem Sat.sub (hS : Sat w g O) {p : List Nat} (hn : p.Nodup) (hp : ∀ k ∈ p, k < O.length) : Sat w (g.sub p) (subO (mkR O p 0) O p) := by
  refine ⟨subO_len p, hS.imm, fun i o hi => ?_, fun b i hb => ?_⟩
  · rw [subO_get] at hi
    simp only [Option.map_eq_some_iff] at hi
    obtain ⟨k, hk, rfl⟩ := hi
    obtain ⟨o, h1, h2, h3, h4⟩ := hS.at (hp k (List.mem_of_getElem? hk))
    rw [h2]
    exact SatO.ren (sub_renOk hS hp) (by simp [Gh.sub, hk]) (fun b hb => ⟨by simp [Gh.sub, hb, idxN_of hn hk], rfl⟩) (by simp [Gh.sub, hk]) (fun _ _ => rfl) h3
  · simp only [Gh.sub, Option.bind_eq_some_iff] at hb
    obtain ⟨k, hk, hi⟩ := hb
    exact ⟨(hS.own b k hk).1, (List.getElem?_eq_some_iff.1 (idxN_some hi)).1⟩

/-! ### Back from a call -/
def bk (p : List Nat) (n i : Nat) : Nat := if i < p.length then p.getD i 0 else n + (i - p.length)

def Gh.back (g : Gh) (O : List Obj) (p : List Nat) (gc : Gh) : Gh :=
  { imm := gc.imm,
    own := fun b => match g.own b with
      | some k => (match idxN p k with | some _ => (gc.own b).map (bk p g.n) | none => some k)
      | none => (gc.own b).map (bk p g.n)
    n := g.n + (gc.n - p.length)
    blk := fun k => if k < g.n then g.blk k else gc.blk (p.length + (k - g.n))
    row := fun k => match idxN p k with
      | some i => (backV O k (gc.row i).1, (gc.row i).2)
      | none => if k < g.n then g.row k else gc.row (p.length + (k - g.n)) }

section
variable {w' : World} {gc : Gh} {Oc : List Obj} {p : List Nat}

theorem back_own (hS : Sat w g O) (hFr : Fr w w' (g.sub p) gc) {b i : Nat} (h : gc.own b = some i) : (g.back O p gc).own b = some (bk p g.n i) := by
  simp only [Gh.back]
  cases hb : g.own b with
  | none => simp [h]
  | some k =>
    dsimp only
    cases hi : idxN p k with
    | some j => simp [h]
    | none =>
      have := hFr.own b (hS.own b k hb).1 (by simp [Gh.sub, hb, hi])
      rw [this] at h; cases h

theorem back_ver (hS : Sat w g O) (hC : Sat w' gc Oc) (hle : (g.sub p).le gc) (hp : ∀ k ∈ p, k < O.length) {i k : Nat} (hk : p[i]? = some k) :
    (g.row k).1 < backV O k (gc.row i).1 ∨ (backV O k (gc.row i).1, (gc.row i).2) = g.row k := by
  obtain ⟨o, h1, h2, h3, h4⟩ := hS.at (hp k (List.mem_of_getElem? hk))
  have hv := h3.ver.1
  have hil : i < (g.sub p).n := (List.getElem?_eq_some_iff.1 hk).1
  rcases hle.row i hil with h | h
  · left
    have : 0 < (gc.row i).1 := h
    obtain ⟨m, hm⟩ : ∃ m, (gc.row i).1 = m + 1 := ⟨(gc.row i).1 - 1, by omega⟩
    rw [hm]; simp only [backV]; omega
  · right
    rw [h]
    simp only [Gh.sub, getD_of hk, backV]
    rw [h4, hv]

theorem back_le (hS : Sat w g O) (hC : Sat w' gc Oc) (hle : (g.sub p).le gc) (hp : ∀ k ∈ p, k < O.length) : g.le (g.back O p gc) := by
  refine ⟨hle.imm, by simp [Gh.back], fun k hk => by simp [Gh.back, hk], fun k hk => ?_⟩
  simp only [Gh.back]
  cases hi : idxN p k with
  | some i =>
    exact back_ver hS hC hle hp (idxN_some hi)
  | none => right; simp [hk]

theorem back_renOk (hS : Sat w g O) (hC : Sat w' gc Oc) (hle : (g.sub p).le gc) (hn : p.Nodup) (hp : ∀ k ∈ p, k < O.length) (hpl : p.length ≤ Oc.length) :
    RenOk gc (g.back O p gc) (mkB O O.length Oc p 0) := by
  refine ⟨Imm.le_refl _, fun i k' vc vn hl hi => ?_⟩
  obtain ⟨j, o, hj, ho, hr⟩ := rlook_mkB hl
  simp only [Nat.zero_add] at hj; subst hj
  have hso := (hC.obj i o ho).ver.1
  rcases hr with ⟨k, hk, hr⟩ | ⟨hge, hr⟩
  · simp only [Prod.mk.injEq] at hr
    obtain ⟨rfl, rfl, rfl⟩ := hr
    have hkl := hp k' (List.mem_of_getElem? hk)
    have hkn : k' < g.n := by rw [← hS.n]; exact hkl
    have hil : i < (g.sub p).n := (List.getElem?_eq_some_iff.1 hk).1
    refine ⟨by simp [Gh.back]; omega, ?_, fun h => by omega, fun _ => .inr ?_⟩
    · simp only [Gh.back, if_pos hkn]
      rw [hle.blk i hil]; simp [Gh.sub, hk]
    · simp only [Gh.back, idxN_of hn hk, hso]; simp
  · simp only [Prod.mk.injEq] at hr
    obtain ⟨rfl, rfl, rfl⟩ := hr
    have hnn := hS.n
    have hno : idxN p (O.length + (i - p.length)) = none := by
      cases hx : idxN p (O.length + (i - p.length)) with
      | none => rfl
      | some j =>
        have := hp _ (List.mem_of_getElem? (idxN_some hx))
        omega
    refine ⟨by simp [Gh.back]; omega, ?_, fun h => by omega, fun _ => .inr ?_⟩
    · simp only [Gh.back]
      rw [if_neg (by omega)]
      congr 1; omega
    · simp only [Gh.back, hno]
      rw [if_neg (by omega)]
      rw [show p.length + (O.length + (i - p.length) - g.n) = i by omega]
      exact ⟨hso, rfl⟩

theorem Sat.back (hS : Sat w g O) (hC : Sat w' gc Oc) (hle : (g.sub p).le gc) (hFr : Fr w w' (g.sub p) gc) (hn : p.Nodup) (hp : ∀ k ∈ p, k < O.length) (hpl : p.length ≤ Oc.length) :
    Sat w' (g.back O p gc) (mergeO (mkB O O.length Oc p 0) O O p Oc) := by
  have hR := back_renOk hS hC hle hn hp hpl
  have hl := back_le hS hC hle hp
  obtain ⟨m1, m2, m3, m4⟩ := mergeO_get (R := mkB O O.length Oc p 0) (O := O) p Oc O hpl hn hp
  have hcn := hC.n
  have hsn := hS.n
  refine ⟨by rw [m1]; simp [Gh.back]; omega, hC.imm, fun k o hk => ?_, fun b k hb => ?_⟩
  · have hklt : k < O.length + (Oc.length - p.length) := by
      rw [← m1]; exact (List.getElem?_eq_some_iff.1 hk).1
    rcases Nat.lt_or_ge k O.length with hlt | hge
    · cases hi : idxN p k with
      | none =>
        rw [m2 k hlt (idxN_none hi)] at hk
        refine SatO.keep hl (by omega) (by simp [Gh.back, hi]; omega) (fun b hb => ?_) (hS.obj k o hk)
        have hbl := (hS.own b k hb).1
        have hno : (g.sub p).own b = none := by simp [Gh.sub, hb, hi]
        refine ⟨hFr.heap b hbl hno, by simp [Gh.back, hb, hi], hFr.imm b hbl hno⟩
      | some i =>
        have hpi := idxN_some hi
        have hil : i < p.length := (List.getElem?_eq_some_iff.1 hpi).1
        have hoi : Oc[i]? = some Oc[i] := List.getElem?_eq_getElem (by omega)
        have hm := m3 i k _ hpi hoi
        rw [hm] at hk
        simp at hk; subst hk
        have hso := hC.obj i _ hoi
        have hsv := hso.ver
        obtain ⟨ok, k1, k2, k3, k4⟩ := hS.at hlt
        refine SatO.ren hR ?_ (fun b hb => ⟨?_, rfl⟩) ?_ ?_ hso
        · simp only [Gh.back]
          rw [if_pos (by omega), hle.blk i (by simpa [Gh.sub] using hil)]
          simp [Gh.sub, hpi]
        · rw [back_own hS hFr hb]; simp only [bk]; rw [if_pos hil, getD_of hpi]
        · simp [Gh.back, hi, hsv.1]
        · intro cs hcs
          -- the object was cells before
          have e1 : (gc.row i).2 = .nilFunc := hsv.2.1 cs hcs
          have e2 : (gc.row i).1 = 0 := by rw [← hsv.1, hcs]; rfl
          rcases hle.row i (by simpa [Gh.sub] using hil) with h5 | h5
          · rw [e2] at h5; simp at h5
          · have e3 : (g.row k).2 = .nilFunc := by
              rw [h5] at e1; simpa [Gh.sub, hpi] using e1
            have : vO ok = 0 := by
              cases ok with
              | cells => rfl
              | row v s z xs => exact absurd e3 (k3.ver.2.2 _ _ _ _ rfl)
              | map => rfl
              | dead => rfl
            rw [hsv.1, e2]; simp only [backV]; rw [k4, this]
    · have hj : k = O.length + (k - O.length) := by omega
      have hlt2 : p.length + (k - O.length) < Oc.length := by omega
      have hoi : Oc[p.length + (k - O.length)]? = some Oc[p.length + (k - O.length)] := List.getElem?_eq_getElem hlt2
      have hm := m4 (k - O.length) _ hoi
      rw [← hj] at hm
      rw [hm] at hk
      simp at hk; subst hk
      have hso := hC.obj _ _ hoi
      have hsv := hso.ver
      have hno : idxN p k = none := by
        cases hx : idxN p k with
        | none => rfl
        | some j =>
          have := hp _ (List.mem_of_getElem? (idxN_some hx))
          omega
      have hge' : ¬ k < g.n := by omega
      have hkk : p.length + (k - g.n) = p.length + (k - O.length) := by omega
      refine SatO.ren hR ?_ (fun b hb => ⟨?_, rfl⟩) ?_ ?_ hso
      · simp only [Gh.back]; rw [if_neg hge', hkk]
      · rw [back_own hS hFr hb]; simp only [bk]; rw [if_neg (by omega)]; congr 1; omega
      · simp only [Gh.back, hno]; rw [if_neg hge', hkk, hsv.1]
      · intro cs hcs
        rw [hcs]; rfl
  · simp only [Gh.back] at hb
    have fin : ∀ i, gc.own b = some i → bk p g.n i = k → b < w'.heap.size ∧ k < (g.back O p gc).n := by
      intro i hi hk
      obtain ⟨h1, h2⟩ := hC.own b i hi
      refine ⟨h1, ?_⟩
      rw [← hk]
      simp only [Gh.back, bk]
      split
      · rename_i hil
        have := hp _ (List.mem_of_getElem? (List.getElem?_eq_getElem hil))
        rw [List.getD_eq_getElem?_getD, List.getElem?_eq_getElem hil]
        simp; omega
      · omega
    cases hgb : g.own b with
    | none =>
      rw [hgb] at hb
      simp only [Option.map_eq_some_iff] at hb
      obtain ⟨i, hi, hk⟩ := hb
      exact fin i hi hk
    | some j =>
      rw [hgb] at hb
      dsimp only at hb
      cases hij : idxN p j with
      | some i0 =>
        rw [hij] at hb
        simp only [Option.map_eq_some_iff] at hb
        obtain ⟨i, hi, hk⟩ := hb
        exact fin i hi hk
      | none =>
        rw [hij] at hb
        simp at hb; subst hb
        obtain ⟨h1, h2⟩ := hS.own b j hgb
        exact ⟨Nat.lt_of_lt_of_le h1 hFr.size, by simp [Gh.back]; omega⟩

theorem Fr.back (hS : Sat w g O) (hFr : Fr w w' (g.sub p) gc) : Fr w w' g (g.back O p gc) := by
  have hno : ∀ b, g.own b = none → (g.sub p).own b = none := fun b hb => by simp [Gh.sub, hb]
  refine ⟨hFr.size, hFr.os, hFr.tape, hFr.out, fun b hb ho => hFr.heap b hb (hno b ho), fun b hb ho => hFr.imm b hb (hno b ho), fun b hb ho => ?_⟩
  simp only [Gh.back, ho, hFr.own b hb (hno b ho), Option.map_none]
end

/-! ### Calls -/
/-- A function's call comes to a value. -/
def Gets (P : Program) (f : Nat) (args : Array Value) (w : World) (R : Value → World → Prop) : Prop :=
  (∃ u w', (callFunc f args).run P w = .ok (.value u) w' ∧ R u w') ∨
  ((callFunc f args).run P w = .ok (.enter f args) w ∧ Calls P f args w (fun e w' => ∃ u, e = .returned u ∧ R u w'))

theorem Gets.mono {f : Nat} {args : Array Value} {R R' : Value → World → Prop} (h : Gets P f args w R) (hr : ∀ u w', R u w' → R' u w') : Gets P f args w R' := by
  rcases h with ⟨u, w', h1, h2⟩ | ⟨h1, h2⟩
  · exact .inl ⟨u, w', h1, hr _ _ h2⟩
  · exact .inr ⟨h1, h2.mono fun e w' ⟨u, he, hR⟩ => ⟨u, he, hr _ _ hR⟩⟩

/-- What was there at the start is as it was. -/
structure GI (B w : World) (g : Gh) : Prop where
  size : B.heap.size ≤ w.heap.size
  tape : w.tape = B.tape
  os : w.os = B.os
  heap : ∀ b, b < B.heap.size → w.heap[b]? = B.heap[b]?
  own : ∀ b, b < B.heap.size → g.own b = none

theorem GI.fr {B w w' : World} {g g' : Gh} (h : GI B w g) (hf : Fr w w' g g') : GI B w' g' :=
  ⟨Nat.le_trans h.size hf.size, hf.tape.trans h.tape, hf.os.trans h.os, fun b hb => (hf.heap b (Nat.lt_of_lt_of_le hb h.size) (h.own b hb)).trans (h.heap b hb), fun b hb => hf.own b (Nat.lt_of_lt_of_le hb h.size) (h.own b hb)⟩

/-- A function does what its contract says. -/
def Valid (P : Program) (B : World) (f : Nat) (S : Spec) : Prop :=
  ∀ (w : World) (g : Gh) (O : List Obj) (args : List AV) (us : List Value) (Q : AV → List Obj → Prop), GI B w g → Sat w g O → (∀ k, k < g.n → (g.row k).1 = 0) → ValL g args us → S args O Q →
    Gets P f us.toArray w (fun u w' => ∃ r O' g', Q r O' ∧ Val g' r u ∧ Sat w' g' O' ∧ g.le g' ∧ Fr w w' g g')

def AllValid (P : Program) (B : World) (Γ : Ctx) : Prop := ∀ f fs, cl Γ f = some fs → Valid P B f fs.spec

theorem AllValid.nil {B : World} : AllValid P B [] := fun f fs h => by simp [cl] at h
theorem AllValid.cons {B : World} {Γ : Ctx} {f : Nat} {fs : FS} (h : Valid P B f fs.spec) (hΓ : AllValid P B Γ) : AllValid P B ((f, fs) :: Γ) := fun f' fs' h' => by
  unfold cl at h'
  split at h'
  · rename_i hb
    have := Nat.eq_of_beq_eq_true hb; subst this
    simp at h'; subst h'; exact h
  · exact hΓ f' fs' h'

theorem frzArgs_val {g' : Gh} {cs : List Nat} (hS : Sat w g' (still O cs)) {by_ : List Nat} : ∀ (xs : List AV) (us : List Value) (n : Nat), (∀ c ∈ frzRows by_ xs n, c ∈ cs) → ValL g' xs us →
    ValL g' (frzArgs O by_ xs n) us
  | [], [], _, _, _ => trivial
  | x :: xs, u :: us, n, hc, ⟨h1, h2⟩ => by
    have hr := frzArgs_val hS xs us (n + 1) (fun c h => hc c (by simp only [frzRows, ap_eq]; exact List.mem_append.2 (.inr h))) h2
    unfold frzArgs
    cases hb : hasN by_ n with
    | true => exact ⟨h1, hr⟩
    | false =>
      refine ⟨frz_val hS x u (fun c h _ => hc c ?_) h1, hr⟩
      simp only [frzRows, ap_eq, hb]
      exact List.mem_append.2 (.inl h)
  | [], _ :: _, _, _, h => h.elim
  | _ :: _, [], _, _, h => h.elim

theorem callK_sound {B : World} {Γ : Ctx} (hΓ : AllValid P B Γ) (hG : GI B w g) (hS : Sat w g O) {f : Nat} {args : List AV} {us : List Value} (hv : ValL g args us) {K : AV → List Obj → Prop} (h : callK Γ f args O K) :
    Gets P f us.toArray w (fun u w' => ∃ r O' g', K r O' ∧ Val g' r u ∧ Sat w' g' O' ∧ g.le g' ∧ Fr w w' g g') := by
  unfold callK at h
  split at h
  · exact h.elim
  · rename_i fs hf
    simp only [fOs_eq, fL_eq, fS_eq, fA_eq] at h
    obtain ⟨g1, a1, b1, c1, d1, e1, f1, o1⟩ := still_many hS (frzRows fs.byRef args 0)
    have hv1 := frzArgs_val (O := O) c1 (by_ := fs.byRef) args us 0 (fun c h => h) (ValL_mono a1 _ _ hv)
    generalize hO1 : still O (frzRows fs.byRef args 0) = O1 at *
    generalize hA1 : frzArgs O fs.byRef args 0 = args1 at *
    have hbfs := bfs_ok (O := O1) 200 (refsL O1 args1) [] (by simp) (by simp)
    generalize hp : bfs O1 200 (refsL O1 args1) [] = p at *
    obtain ⟨hn, hpl⟩ := hbfs
    have hval := hΓ f fs hf
    obtain ⟨A', X', hA, hX, h⟩ := h
    have hG1 := hG.fr b1
    refine (hval w (g1.sub p) _ _ us _ ⟨hG1.size, hG1.tape, hG1.os, hG1.heap, fun b hb => by simp [Gh.sub, hG1.own b hb]⟩ ((c1.sub hn hpl).wk hX) (fun _ _ => rfl) (hA _ _ (ren_valL (sub_renOk c1 hpl) _ _ hv1)) h).mono ?_
    rintro u w' ⟨r, Oc, gc, ⟨hlen, hK⟩, hr, hC, hle, hFr⟩
    rw [ln_eq, ln_eq] at hlen
    rw [ln_eq] at hK
    exact ⟨_, _, g1.back O1 p gc, hK, ren_val (back_renOk c1 hC hle hn hpl hlen) _ _ hr, c1.back hC hle hFr hn hpl hlen, Gh.le_trans a1 (back_le c1 hC hle hpl), b1.trans (Fr.back c1 hFr)⟩
end
end Ab
