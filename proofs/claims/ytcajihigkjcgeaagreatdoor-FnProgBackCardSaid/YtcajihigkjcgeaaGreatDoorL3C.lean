/- The reference's checker, third part: what ends, and what is used. -/
import Derived.Test.YtcajihigkjcgeaaGreatDoorSyn
import Derived.Test.YtcajihigkjcgeaaGreatDoorL3A
set_option linter.all false
namespace Ab
open Go Go.Proofs
set_option maxRecDepth 10000
set_option maxHeartbeats 4000000
set_option linter.all false

def baseOf (vars : List Vr) (p : Pl) (i : Nat) : Prop := ∃ v, vars[i]? = some v ∧ v.dead = false ∧ v.lent = true ∧ ∃ q ∈ v.loans, meet p q = true
noncomputable def endsI (vars : List Vr) (p : Pl) : List Int := desc vars.length (Clo vars (baseOf vars p))
/-- the sizes that a state keeps -/
structure EnOk (e : En) : Prop where
  vars : e.vars.length ≤ 10000
  names : e.names.length ≤ 100000
  loans : ∀ v ∈ e.vars, v.loans.length ≤ 100
  paths : ∀ v ∈ e.vars, ∀ q ∈ v.loans, q.path.length ≤ 1000

/-- the numbers found so far, down to i -/
structure Down (vars : List Vr) (p : Pl) (i : Int) (L : List Int) : Prop where
  so : Sofar vars (baseOf vars p) [] L
  gt : ∀ x ∈ L, i < x
  all : ∀ j : Nat, i < j → baseOf vars p j → (j : Int) ∈ L

abbrev bPl (p : Pl) : Obj := .cells [sv p.name, .d (.sl 1 (p.path.map dI))]

/-- (*l3Env).ends -/
def S_s_l3Env_ends : Spec := fun args O Q => ∃ (e : En) (p : Pl), args = [.ptr 0 0, aPl p] ∧ O = oEn e ∧ EnOk e ∧ p.path.length ≤ 1000 ∧ Q (.d (.sl 1 ((endsI e.vars p).map dI))) (oEn e)
theorem v_s_l3Env_ends {B : World} : Valid PG B s_l3Env_ends S_s_l3Env_ends := by
  refine valid_of (Γ := [(s_l3Meet, ⟨[], S_s_l3Meet⟩), (s_l3Order, ⟨[0, 1], S_s_l3Order⟩)]) wide tok ((AllValid.nil.cons v_s_l3Order).cons v_s_l3Meet) g_s_l3Env_ends rfl rfl ?_
  rintro _ _ Q ⟨⟨fns, fn, vars, names, code⟩, p, rfl, rfl, ⟨hv, hn, hlo, hpa⟩, hp, hQ⟩
  dsimp only at hv hn hlo hpa hQ
  refine wG ?_
  right
  refine wG ?_
  refine goG1 ?_
  refine ⟨[], List Int × Int, fun x => -1 ≤ x.2 ∧ x.2 < vars.length ∧ Down vars p x.2 x.1, fun x => (x.2 + 1).toNat, fun x => [(5, .row 4 1), (6, iv x.2)],
    fun x => oEn ⟨fns, fn, vars, names, code⟩ ++ [bPl p, .row 1 true 1 (x.1.map dI)], ([], (vars.length : Int) - 1), ⟨by dsimp only; omega, by dsimp only; omega, ⟨⟨by simp, by simp, by simp, by simp⟩, by simp, fun j hj ⟨v, h, _⟩ => ?_⟩⟩, ?_⟩
  · have := (List.getElem?_eq_some_iff.1 h).1
    dsimp only at hj
    omega
  refine wG ?_
  refine ⟨Meet.mk rfl rfl WkOs.rfl ⟨Wk.rfl, Wk.of_eq (by show AV.d (DV.i .i64 (((vars.map dVr).length : Int) - 1)) = _; rw [List.length_map]), trivial⟩ rfl, ?_⟩
  rintro ⟨L, i⟩ ⟨hi0, hi1, hD⟩
  dsimp only at hi0 hi1 hD
  have hlen := hD.so.length
  refine wG ?_
  refine brG1 (fun h => ?_) (fun h => ?_)
  · have hlt : i.toNat < vars.length := by omega
    have hvi : vars[i.toNat]? = some vars[i.toNat] := List.getElem?_eq_getElem hlt
    have ei : ((i.toNat : Nat) : Int) = i := by omega
    have hl := hlo _ (List.getElem_mem hlt)
    have hpl := hpa _ (List.getElem_mem hlt)
    have skip : (¬ baseOf vars p i.toNat) → Down vars p (i - 1) L := fun hb => by
      refine ⟨hD.so, fun x hx => by have := hD.gt x hx; omega, fun j hj hbj => ?_⟩
      by_cases h : i < j
      · exact hD.all j h hbj
      · have : j = i.toNat := by omega
        subst this; exact absurd hbj hb
    try (refine row_map (by omega) (by (try simp only [List.length_append, List.length_cons, List.length_nil, List.length_map, List.length_take, List.length_drop, maxRow, byteRows_len, Ty.kids, Ty.kids_mk]); omega) ?_; refine wG ?_)
    refine idx_map' (f := dVr) (by (try simp only [List.length_append, List.length_cons, List.length_nil, List.length_map, List.length_take, List.length_drop, maxRow, byteRows_len, Ty.kids, Ty.kids_mk]); omega) ?_
    refine wG ?_
    refine ⟨fun h2 => ?_, fun h2 => ?_⟩
    · have h2 : vars[i.toNat].dead = true := h2
      refine wG ?_
      refine goG1 ?_
      refine ⟨(L, i - 1), ⟨by dsimp only; omega, by dsimp only; omega, skip ?_⟩, by dsimp only; omega, [], Meet.mk rfl rfl WkOs.rfl ⟨Wk.rfl, Wk.rfl, trivial⟩ rfl⟩
      rintro ⟨v, k1, k2, _⟩
      rw [hvi] at k1; simp at k1; subst k1; rw [h2] at k2; cases k2
    have h2 : vars[i.toNat].dead = false := h2
    refine wG ?_
    try (refine row_map (by omega) (by (try simp only [List.length_append, List.length_cons, List.length_nil, List.length_map, List.length_take, List.length_drop, maxRow, byteRows_len, Ty.kids, Ty.kids_mk]); omega) ?_; refine wG ?_)
    refine idx_map' (f := dVr) (by (try simp only [List.length_append, List.length_cons, List.length_nil, List.length_map, List.length_take, List.length_drop, maxRow, byteRows_len, Ty.kids, Ty.kids_mk]); omega) ?_
    refine wG ?_
    refine ⟨fun h3 => ?_, fun h3 => ?_⟩
    · have h3 : vars[i.toNat].lent = false := by simpa using h3
      refine wG ?_
      refine goG1 ?_
      refine ⟨(L, i - 1), ⟨by dsimp only; omega, by dsimp only; omega, skip ?_⟩, by dsimp only; omega, [], Meet.mk rfl rfl WkOs.rfl ⟨Wk.rfl, Wk.rfl, trivial⟩ rfl⟩
      rintro ⟨v, k1, _, k2, _⟩
      rw [hvi] at k1; simp at k1; subst k1; rw [h3] at k2; cases k2
    have h3 : vars[i.toNat].lent = true := by simpa using h3
    refine wG ?_
    refine ⟨[], Bool × Int, fun x => 0 ≤ x.2 ∧ x.2 ≤ vars[i.toNat].loans.length ∧ (x.1 = true → Clo vars (baseOf vars p) i.toNat) ∧ ∀ k : Nat, k < x.2 → ∀ q, vars[i.toNat].loans[k]? = some q → meet p q = true → x.1 = true, fun x => (vars[i.toNat].loans.length - x.2).toNat, fun x => [(5, .row 4 1), (7, bv x.1), (8, iv x.2)], fun x => oEn ⟨fns, fn, vars, names, code⟩ ++ [bPl p, .row 1 true 1 (L.map dI)], (false, 0), ⟨by dsimp only; omega, by dsimp only; omega, fun h => (by cases h), fun k hk => (by dsimp only at hk; omega)⟩, ?_⟩
    refine wG ?_
    refine ⟨Meet.mk rfl rfl WkOs.rfl ⟨Wk.rfl, Wk.rfl, Wk.rfl, trivial⟩ rfl, ?_⟩
    rintro ⟨me, k⟩ ⟨hk0, hk1, hme, hmk⟩
    dsimp only at hk0 hk1 hme hmk
    refine wG ?_
    try (refine row_map (by omega) (by (try simp only [List.length_append, List.length_cons, List.length_nil, List.length_map, List.length_take, List.length_drop, maxRow, byteRows_len, Ty.kids, Ty.kids_mk]); omega) ?_; refine wG ?_)
    refine idx_map' (f := dVr) (by (try simp only [List.length_append, List.length_cons, List.length_nil, List.length_map, List.length_take, List.length_drop, maxRow, byteRows_len, Ty.kids, Ty.kids_mk]); omega) ?_
    refine wG ?_
    refine brG1 (fun h5 => ?_) (fun h5 => ?_)
    · have hkl : k.toNat < vars[i.toNat].loans.length := by omega
      try (refine row_map (by omega) (by (try simp only [List.length_append, List.length_cons, List.length_nil, List.length_map, List.length_take, List.length_drop, maxRow, byteRows_len, Ty.kids, Ty.kids_mk]); omega) ?_; refine wG ?_)
      refine idx_map' (f := dVr) (by (try simp only [List.length_append, List.length_cons, List.length_nil, List.length_map, List.length_take, List.length_drop, maxRow, byteRows_len, Ty.kids, Ty.kids_mk]); omega) ?_
      refine wG ?_
      first | refine idx_map (f := dPl) (by omega) (by (try simp only [List.length_append, List.length_cons, List.length_nil, List.length_map, List.length_take, List.length_drop, maxRow, byteRows_len, Ty.kids, Ty.kids_mk]); omega) ?_ | refine idx_map' (f := dPl) (by (try simp only [List.length_append, List.length_cons, List.length_nil, List.length_map, List.length_take, List.length_drop, maxRow, byteRows_len, Ty.kids, Ty.kids_mk]); omega) ?_
      refine wG ?_
      have hqm : vars[i.toNat].loans[k.toNat] ∈ vars[i.toNat].loans := List.getElem_mem hkl
      have hqi : vars[i.toNat].loans[k.toNat]? = some vars[i.toNat].loans[k.toNat] := List.getElem?_eq_getElem hkl
      have hqp := hpl _ hqm
      refine ⟨fun h6 => ?_, fun h6 => ?_⟩
      · have h6 : me = true := h6
        have hm1 : true = true → Clo vars (baseOf vars p) i.toNat := fun _ => hme h6
        have hold : me = true → true = true := fun _ => rfl
        have hnew : meet p vars[i.toNat].loans[k.toNat] = true → true = true := fun _ => rfl
        refine wG ?_
        refine ⟨[], Bool × Int, fun x => 0 ≤ x.2 ∧ x.2 ≤ L.length ∧ (x.1 = true → Clo vars (baseOf vars p) i.toNat) ∧ (true = true → x.1 = true), fun x => (L.length - x.2).toNat, fun x => [(5, .row 4 1), (7, bv x.1), (10, iv x.2)], fun x => oEn ⟨fns, fn, vars, names, code⟩ ++ [bPl p, .row 1 true 1 (L.map dI), bPl vars[i.toNat].loans[k.toNat]], (true, 0), ⟨by dsimp only; omega, by dsimp only; omega, hm1, fun h => h⟩, ?_⟩
        refine wG ?_
        refine ⟨Meet.mk rfl rfl WkOs.rfl ⟨Wk.rfl, Wk.rfl, Wk.rfl, trivial⟩ rfl, ?_⟩
        rintro ⟨me2, n⟩ ⟨hn0, hn1, hme2, hmm⟩
        dsimp only at hn0 hn1 hme2 hmm
        refine wG ?_
        refine brG1 (fun h6 => ?_) (fun h6 => ?_)
        · have hnl : n.toNat < L.length := by omega
          obtain ⟨hx0, hx1, hx2⟩ := hD.so.mem _ (List.getElem_mem hnl)
          have hxl : L[n.toNat].toNat < vars.length := by omega
          refine ⟨fun h7 => ?_, fun h7 => ?_⟩
          · have h7 : me2 = true := h7
            refine wG ?_
            refine goG1 ?_
            refine ⟨(true, n + 1), ⟨by dsimp only; omega, by dsimp only; omega, fun _ => hme2 h7, fun _ => rfl⟩, by dsimp only; omega, [], Meet.mk rfl rfl WkOs.rfl ⟨Wk.rfl, Wk.rfl, Wk.rfl, trivial⟩ rfl⟩
          · have h7 : me2 = false := h7
            refine wG ?_
            try (refine row_map (by omega) (by (try simp only [List.length_append, List.length_cons, List.length_nil, List.length_map, List.length_take, List.length_drop, maxRow, byteRows_len, Ty.kids, Ty.kids_mk]); omega) ?_; refine wG ?_)
            refine idx_map' (f := dI) (by (try simp only [List.length_append, List.length_cons, List.length_nil, List.length_map, List.length_take, List.length_drop, maxRow, byteRows_len, Ty.kids, Ty.kids_mk]); omega) ?_
            refine wG ?_
            try (refine row_map (by omega) (by (try simp only [List.length_append, List.length_cons, List.length_nil, List.length_map, List.length_take, List.length_drop, maxRow, byteRows_len, Ty.kids, Ty.kids_mk]); omega) ?_; refine wG ?_)
            refine idx_map' (f := dVr) (by (try simp only [List.length_append, List.length_cons, List.length_nil, List.length_map, List.length_take, List.length_drop, maxRow, byteRows_len, Ty.kids, Ty.kids_mk]); omega) ?_
            refine wG ?_
            refine goG1 ?_
            refine ⟨(_, n + 1), ⟨by dsimp only; omega, by dsimp only; omega, fun h => ?_, fun h => (by have := hmm h; rw [h7] at this; cases this)⟩, by dsimp only; omega, [], Meet.mk rfl rfl WkOs.rfl ⟨Wk.rfl, Wk.rfl, Wk.rfl, trivial⟩ rfl⟩
            have h : (vars[L[n.toNat].toNat].name == vars[i.toNat].loans[k.toNat].name) = true := h
            exact .step hvi h2 h3 hqm hx2 (List.getElem?_eq_getElem hxl) (by simpa using h)
        · refine goG1 ?_
          refine ⟨(me2, k + 1), ⟨by dsimp only; omega, by dsimp only; omega, hme2, fun j hj q hq hmq => ?_⟩, by dsimp only; omega, [], Meet.mk rfl rfl WkOs.rfl ⟨Wk.rfl, Wk.rfl, Wk.rfl, trivial⟩ rfl⟩
          dsimp only at hj ⊢
          rcases Nat.lt_or_ge j k.toNat with h | h
          · exact hmm (hold (hmk j (by omega) q hq hmq))
          · have : j = k.toNat := by omega
            subst this
            rw [hqi] at hq
            simp at hq; subst hq
            exact hmm (hnew hmq)
      · have h6 : me = false := h6
        have hm1 : meet p vars[i.toNat].loans[k.toNat] = true → Clo vars (baseOf vars p) i.toNat := fun h => .base ⟨_, hvi, h2, h3, _, hqm, h⟩
        have hold : me = true → meet p vars[i.toNat].loans[k.toNat] = true := fun h => by rw [h6] at h; cases h
        have hnew : meet p vars[i.toNat].loans[k.toNat] = true → meet p vars[i.toNat].loans[k.toNat] = true := fun h => h
        refine wG ?_
        refine ⟨_, _, WkL.rfl, WkOs.rfl, p, vars[i.toNat].loans[k.toNat], rfl, rfl, by omega, ?_⟩
        refine goG1 ?_
        refine ⟨[], Bool × Int, fun x => 0 ≤ x.2 ∧ x.2 ≤ L.length ∧ (x.1 = true → Clo vars (baseOf vars p) i.toNat) ∧ (meet p vars[i.toNat].loans[k.toNat] = true → x.1 = true), fun x => (L.length - x.2).toNat, fun x => [(5, .row 4 1), (7, bv x.1), (10, iv x.2)], fun x => oEn ⟨fns, fn, vars, names, code⟩ ++ [bPl p, .row 1 true 1 (L.map dI), bPl vars[i.toNat].loans[k.toNat]], (meet p vars[i.toNat].loans[k.toNat], 0), ⟨by dsimp only; omega, by dsimp only; omega, hm1, fun h => h⟩, ?_⟩
        refine wG ?_
        refine ⟨Meet.mk rfl rfl WkOs.rfl ⟨Wk.rfl, Wk.rfl, Wk.rfl, trivial⟩ rfl, ?_⟩
        rintro ⟨me2, n⟩ ⟨hn0, hn1, hme2, hmm⟩
        dsimp only at hn0 hn1 hme2 hmm
        refine wG ?_
        refine brG1 (fun h6 => ?_) (fun h6 => ?_)
        · have hnl : n.toNat < L.length := by omega
          obtain ⟨hx0, hx1, hx2⟩ := hD.so.mem _ (List.getElem_mem hnl)
          have hxl : L[n.toNat].toNat < vars.length := by omega
          refine ⟨fun h7 => ?_, fun h7 => ?_⟩
          · have h7 : me2 = true := h7
            refine wG ?_
            refine goG1 ?_
            refine ⟨(true, n + 1), ⟨by dsimp only; omega, by dsimp only; omega, fun _ => hme2 h7, fun _ => rfl⟩, by dsimp only; omega, [], Meet.mk rfl rfl WkOs.rfl ⟨Wk.rfl, Wk.rfl, Wk.rfl, trivial⟩ rfl⟩
          · have h7 : me2 = false := h7
            refine wG ?_
            try (refine row_map (by omega) (by (try simp only [List.length_append, List.length_cons, List.length_nil, List.length_map, List.length_take, List.length_drop, maxRow, byteRows_len, Ty.kids, Ty.kids_mk]); omega) ?_; refine wG ?_)
            refine idx_map' (f := dI) (by (try simp only [List.length_append, List.length_cons, List.length_nil, List.length_map, List.length_take, List.length_drop, maxRow, byteRows_len, Ty.kids, Ty.kids_mk]); omega) ?_
            refine wG ?_
            try (refine row_map (by omega) (by (try simp only [List.length_append, List.length_cons, List.length_nil, List.length_map, List.length_take, List.length_drop, maxRow, byteRows_len, Ty.kids, Ty.kids_mk]); omega) ?_; refine wG ?_)
            refine idx_map' (f := dVr) (by (try simp only [List.length_append, List.length_cons, List.length_nil, List.length_map, List.length_take, List.length_drop, maxRow, byteRows_len, Ty.kids, Ty.kids_mk]); omega) ?_
            refine wG ?_
            refine goG1 ?_
            refine ⟨(_, n + 1), ⟨by dsimp only; omega, by dsimp only; omega, fun h => ?_, fun h => (by have := hmm h; rw [h7] at this; cases this)⟩, by dsimp only; omega, [], Meet.mk rfl rfl WkOs.rfl ⟨Wk.rfl, Wk.rfl, Wk.rfl, trivial⟩ rfl⟩
            have h : (vars[L[n.toNat].toNat].name == vars[i.toNat].loans[k.toNat].name) = true := h
            exact .step hvi h2 h3 hqm hx2 (List.getElem?_eq_getElem hxl) (by simpa using h)
        · refine goG1 ?_
          refine ⟨(me2, k + 1), ⟨by dsimp only; omega, by dsimp only; omega, hme2, fun j hj q hq hmq => ?_⟩, by dsimp only; omega, [], Meet.mk rfl rfl WkOs.rfl ⟨Wk.rfl, Wk.rfl, Wk.rfl, trivial⟩ rfl⟩
          dsimp only at hj ⊢
          rcases Nat.lt_or_ge j k.toNat with h | h
          · exact hmm (hold (hmk j (by omega) q hq hmq))
          · have : j = k.toNat := by omega
            subst this
            rw [hqi] at hq
            simp at hq; subst hq
            exact hmm (hnew hmq)
    · have hm : me = true ↔ Clo vars (baseOf vars p) i.toNat ∧ me = true := ⟨fun h => ⟨hme h, h⟩, fun h => h.2⟩
      refine ⟨fun h6 => ?_, fun h6 => ?_⟩
      · have h6 : me = true := h6
        have hni : i ∉ L := fun hm => by have := hD.gt i hm; omega
        have hmore := hD.so.more hlt (by rw [ei]; exact hni) (hme h6)
        rw [ei] at hmore
        refine wG ?_
        left
        refine wG ?_
        refine goG1 ?_
        refine ⟨(L ++ [i], i - 1), ⟨by dsimp only; omega, by dsimp only; omega, ⟨hmore, fun x hx => ?_, fun j hj hb => ?_⟩⟩, by dsimp only; omega, [], Meet.mk rfl rfl ?_ ⟨Wk.rfl, Wk.rfl, trivial⟩ rfl⟩
        · dsimp only
          rcases List.mem_append.1 hx with hx | hx
          · have := hD.gt x hx; omega
          · simp at hx; omega
        · dsimp only at hj ⊢
          by_cases h : i < j
          · exact List.mem_append.2 (.inl (hD.all j h hb))
          · have : (j : Int) = i := by omega
            rw [this]; simp
        · exact ⟨WkO.rfl, WkO.rfl, WkO.rfl, WkO.rfl, .inr ⟨rfl, rfl, rfl, rows_app rfl DWL.rfl⟩, trivial⟩
      · have h6 : me = false := h6
        refine wG ?_
        refine goG1 ?_
        refine ⟨(L, i - 1), ⟨by dsimp only; omega, by dsimp only; omega, skip ?_⟩, by dsimp only; omega, [], Meet.mk rfl rfl WkOs.rfl ⟨Wk.rfl, Wk.rfl, trivial⟩ rfl⟩
        rintro ⟨v, k1, _, _, q, hq, hmq⟩
        rw [hvi] at k1; simp at k1; subst k1
        obtain ⟨j, hj, rfl⟩ := List.getElem_of_mem hq
        have := hmk j (by omega) _ (List.getElem?_eq_getElem hj) hmq
        rw [h6] at this; cases this
  · have so : Sofar vars (baseOf vars p) L L := ⟨hD.so.nodup, hD.so.mem, fun _ h => h, Nat.le_refl _⟩
    refine ⟨_, _, WkL.rfl, WkOs.rfl, vars, baseOf vars p, L, rfl, rfl, by omega, fun v hv => by have := hlo v hv; omega, so, fun j hb => hD.all j (by omega) hb, fun L' => ?_⟩
    refine goG1 ?_
    refine endK ⟨[], ⟨rfl, rfl⟩, ?_⟩
    refine wG ?_
    exact ⟨_, _, Wk.rfl, WkOs.rfl, hQ⟩
end Ab

/- The reference's checker, fourth part: types of parts. -/
namespace Ab
open Go Go.Proofs
set_option maxRecDepth 10000
set_option maxHeartbeats 4000000
set_option linter.all false

theorem of_not_t {b : Bool} (h : (!b) = true) : b = false := by cases b <;> simp_all
theorem of_not_f {b : Bool} (h : (!b) = false) : b = true := by cases b <;> simp_all

def tyAt0 : Ty → List Int → Option Ty
  | t, [] => some t
  | .mk ks, x :: xs => if h : 0 ≤ x ∧ x.toNat < ks.length then tyAt0 (ks[x.toNat]'h.2) xs else none
/-- the type of a part, of a type that is ok -/
def typeAt (t : Ty) (path : List Int) : Option Ty := if tyOk 4 t = true then tyAt0 t path else none
theorem tyAt0_ok : ∀ {d : Nat} {t : Ty} {path : List Int} {u : Ty}, tyOk d t = true → tyAt0 t path = some u → tyOk d u = true
  | d, .mk ks, [], u, h, h2 => by simp [tyAt0] at h2; subst h2; exact h
  | d, .mk ks, x :: xs, u, h, h2 => by
    obtain ⟨j, rfl, _, hk⟩ := tyOk_kids h
    simp only [tyAt0] at h2
    split at h2
    · rename_i hx
      exact tyOk_mono (Nat.le_succ j) (tyAt0_ok (hk _ (List.getElem_mem hx.2)) h2)
    · cases h2

/-- l1Copy -/
def S_s_l1Copy (n : Nat) : Spec := fun args O Q => ∃ (t : Ty) (m : Nat), args = [aTy t] ∧ O = [] ∧ m < n ∧ tyOk m t = true ∧ Q (aTy t) []
theorem v_s_l1Copy {B : World} : ∀ n, Valid PG B s_l1Copy (S_s_l1Copy n) := by
  refine valid_lt (fun args O Q ⟨t, m, _, _, h1, _⟩ => by omega) fun n ih => ?_
  refine valid_of (Γ := [(s_l1Copy, ⟨[], S_s_l1Copy n⟩)]) wide tok (AllValid.nil.cons ih) g_s_l1Copy rfl rfl ?_
  rintro _ _ Q ⟨⟨ks⟩, m, rfl, rfl, hm, hok, hQ⟩
  obtain ⟨j, rfl, hlen, hks⟩ := tyOk_kids hok
  refine wG ?_
  refine ⟨[.cell 2 0 1], Int, fun i => 0 ≤ i ∧ i ≤ ks.length, fun i => (ks.length - i).toNat, fun i => [(4, iv i)], fun i => [.cells [.d (.sl 1 (ks.map dTy))], .cells [.d (.v (.slice none 0 0))], .cells [.row 3 1], .row 1 true 1 ((ks.take i.toNat).map dTy)], 0, ⟨by omega, by omega⟩, ?_⟩
  refine wG ?_
  refine ⟨Meet.mk rfl rfl WkOs.rfl ⟨Wk.rfl, trivial⟩ rfl, ?_⟩
  intro i ⟨hi0, hi1⟩
  refine wG ?_
  refine brG1 (fun h => ?_) (fun h => ?_)
  · have hlt : i.toNat < ks.length := by omega
    have e : (i + 1).toNat = i.toNat + 1 := by omega
    first | refine idx_map (f := dTy) (by omega) (by (try simp only [List.length_append, List.length_cons, List.length_nil, List.length_map, List.length_take, List.length_drop, maxRow, byteRows_len, Ty.kids, Ty.kids_mk]); omega) ?_ | refine idx_map' (f := dTy) (by (try simp only [List.length_append, List.length_cons, List.length_nil, List.length_map, List.length_take, List.length_drop, maxRow, byteRows_len, Ty.kids, Ty.kids_mk]); omega) ?_
    rw [dTy_eq]
    refine wG ?_
    refine ⟨_, _, WkL.rfl, WkOs.rfl, ks[i.toNat], j, rfl, rfl, by omega, hks _ (List.getElem_mem _), ?_⟩
    refine goG1 ?_
    left
    refine wG ?_
    refine goG1 ?_
    refine ⟨i + 1, ⟨by omega, by omega⟩, by dsimp only; omega, [], Meet.mk rfl rfl ⟨WkO.rfl, WkO.rfl, WkO.rfl, .inr ⟨rfl, rfl, rfl, rows_snoc hlt e (by rw [dTy_eq]) (by rw [dTy_eq]; exact DWL.rfl)⟩, trivial⟩ ⟨Wk.rfl, trivial⟩ rfl⟩
  · refine endK ⟨[], ⟨rfl, rfl⟩, ?_⟩
    refine wG ?_
    refine ⟨_, _, Wk.of_eq ?_, WkOs.rfl, hQ⟩
    have e : i.toNat = ks.length := by omega
    rw [e, List.take_length]; rfl

/-- l1Same -/
def S_s_l1Same (n : Nat) : Spec := fun args O Q => ∃ (a b : Ty) (m : Nat), args = [aTy a, aTy b] ∧ O = [] ∧ m < n ∧ tyOk m a = true ∧ Q (bv (sameTy a b)) []
theorem v_s_l1Same {B : World} : ∀ n, Valid PG B s_l1Same (S_s_l1Same n) := by
  refine valid_lt (fun args O Q ⟨t, u, m, _, _, h1, _⟩ => by omega) fun n ih => ?_
  refine valid_of (Γ := [(s_l1Same, ⟨[], S_s_l1Same n⟩)]) wide tok (AllValid.nil.cons ih) g_s_l1Same rfl rfl ?_
  rintro _ _ Q ⟨⟨ks⟩, ⟨us⟩, m, rfl, rfl, hm, hok, hQ⟩
  obtain ⟨j, rfl, hlen, hks⟩ := tyOk_kids hok
  rw [sameTy_mk] at hQ
  have fin : ∀ b : Bool, sameTys ks us = b → wkQ Q (bv b) [] := fun b h => ⟨_, _, Wk.rfl, WkOs.rfl, by subst h; exact hQ⟩
  refine wG ?_
  refine brG1 (fun h => ?_) (fun h => ?_)
  · refine endK ⟨[], ⟨rfl, rfl⟩, ?_⟩
    refine wG ?_
    refine fin _ ?_
    cases hs : sameTys ks us with
    | false => rfl
    | true => have := sameTys_len hs; omega
  refine ⟨[], Int, fun i => 0 ≤ i ∧ i ≤ ks.length ∧ sameTys (ks.take i.toNat) (us.take i.toNat) = true, fun i => (ks.length - i).toNat, fun i => [(5, iv i)], fun i => [.cells [.d (.sl 1 (ks.map dTy))], .cells [.d (.sl 1 (us.map dTy))]], 0, ⟨by omega, by omega, by simp [sameTys]⟩, ?_⟩
  refine wG ?_
  refine ⟨Meet.mk rfl rfl WkOs.rfl ⟨Wk.rfl, trivial⟩ rfl, ?_⟩
  intro i ⟨hi0, hi1, hi2⟩
  refine wG ?_
  refine brG1 (fun h2 => ?_) (fun h2 => ?_)
  · have h3 : i.toNat < ks.length := by omega
    have h4 : i.toNat < us.length := by omega
    first | refine idx_map (f := dTy) (by omega) (by (try simp only [List.length_append, List.length_cons, List.length_nil, List.length_map, List.length_take, List.length_drop, maxRow, byteRows_len, Ty.kids, Ty.kids_mk]); omega) ?_ | refine idx_map' (f := dTy) (by (try simp only [List.length_append, List.length_cons, List.length_nil, List.length_map, List.length_take, List.length_drop, maxRow, byteRows_len, Ty.kids, Ty.kids_mk]); omega) ?_
    rw [dTy_eq]
    refine wG ?_
    first | refine idx_map (f := dTy) (by omega) (by (try simp only [List.length_append, List.length_cons, List.length_nil, List.length_map, List.length_take, List.length_drop, maxRow, byteRows_len, Ty.kids, Ty.kids_mk]); omega) ?_ | refine idx_map' (f := dTy) (by (try simp only [List.length_append, List.length_cons, List.length_nil, List.length_map, List.length_take, List.length_drop, maxRow, byteRows_len, Ty.kids, Ty.kids_mk]); omega) ?_
    rw [dTy_eq]
    refine wG ?_
    refine ⟨_, _, WkL.rfl, WkOs.rfl, ks[i.toNat], us[i.toNat], j, rfl, rfl, by omega, hks _ (List.getElem_mem _), ?_⟩
    refine goG1 ?_
    refine brG1 (fun h5 => ?_) (fun h5 => ?_)
    · refine endK ⟨[], ⟨rfl, rfl⟩, ?_⟩
      refine wG ?_
      refine fin _ ?_
      cases hs : sameTys ks us with
      | false => rfl
      | true => have := sameTys_get i.toNat h3 h4 hs; rw [h5] at this; cases this
    · refine goG1 ?_
      have e : (i + 1).toNat = i.toNat + 1 := by omega
      refine ⟨i + 1, ⟨by omega, by omega, e ▸ sameTys_step i.toNat h3 h4 hi2 h5⟩, by dsimp only; omega, [], Meet.mk rfl rfl WkOs.rfl ⟨Wk.rfl, trivial⟩ rfl⟩
  · refine endK ⟨[], ⟨rfl, rfl⟩, ?_⟩
    refine wG ?_
    refine fin _ ?_
    rw [List.take_of_length_le (by omega), List.take_of_length_le (by omega)] at hi2
    exact hi2

/-- TypeAt -/
def S_s_TypeAt : Spec := fun args O Q => ∃ (t : Ty) (p : List Int), args = [aTy t, .d (.sl 1 (p.map dI))] ∧ O = [] ∧ p.length ≤ 100000 ∧ Q (.tup [aTy ((typeAt t p).getD (.mk [])), bv (typeAt t p).isSome]) []
theorem v_s_TypeAt {B : World} : Valid PG B s_TypeAt S_s_TypeAt := by
  refine valid_of (Γ := [(s_TypeOk, ⟨[], STypeOk⟩), (s_l6In, ⟨[], S_s_l6In⟩), (s_l1Copy, ⟨[], S_s_l1Copy 10⟩)]) wide tok (((AllValid.nil.cons (v_s_l1Copy 10)).cons v_s_l6In).cons v_s_TypeOk) g_s_TypeAt rfl rfl ?_
  rintro _ _ Q ⟨t, p, rfl, rfl, hp, hQ⟩
  have fnone : typeAt t p = none → wkQ Q (.tup [.agg [.d (.v (.slice none 0 0))], bv false]) [] := fun h => ⟨_, _, Wk.tup (WkL.cons (Wk.agg (WkL.cons (Wk.nil 1) WkL.nil)) (WkL.cons Wk.rfl WkL.nil)), WkOs.rfl, by rw [h] at hQ; exact hQ⟩
  refine wG ?_
  refine ⟨_, _, WkL.rfl, WkOs.rfl, t, rfl, rfl, ?_⟩
  refine goG1 ?_
  refine brG1 (fun h => ?_) (fun h => ?_)
  · refine endK ⟨[], ⟨rfl, rfl⟩, ?_⟩
    refine wG ?_
    exact fnone (by simp [typeAt, h])
  refine ⟨[], Ty × Int, fun x => 0 ≤ x.2 ∧ x.2 ≤ p.length ∧ tyOk 4 x.1 = true ∧ tyAt0 t p = tyAt0 x.1 (p.drop x.2.toNat), fun x => (p.length - x.2).toNat, fun x => [(6, iv x.2)], fun x => [.cells [.d (.sl 1 (x.1.kids.map dTy))], .cells [.d (.v (.slice none 0 0))]], (t, 0), ⟨by dsimp only; omega, by dsimp only; omega, h, by simp⟩, ?_⟩
  refine wG ?_
  refine ⟨Meet.mk rfl rfl WkOs.rfl ⟨Wk.rfl, trivial⟩ rfl, ?_⟩
  rintro ⟨⟨ks⟩, i⟩ ⟨hi0, hi1, hok, hi2⟩
  dsimp only at hi0 hi1 hok hi2
  obtain ⟨j, _, hlen, hks⟩ := tyOk_kids hok
  refine wG ?_
  refine brG1 (fun h2 => ?_) (fun h2 => ?_)
  · have h3 : i.toNat < p.length := by omega
    rw [List.drop_eq_getElem_cons h3] at hi2
    first | refine idx_map (f := dI) (by omega) (by (try simp only [List.length_append, List.length_cons, List.length_nil, List.length_map, List.length_take, List.length_drop, maxRow, byteRows_len, Ty.kids, Ty.kids_mk]); omega) ?_ | refine idx_map' (f := dI) (by (try simp only [List.length_append, List.length_cons, List.length_nil, List.length_map, List.length_take, List.length_drop, maxRow, byteRows_len, Ty.kids, Ty.kids_mk]); omega) ?_
    refine wG ?_
    have hkl : ((List.map dTy (Ty.mk ks).kids).length : Int) = ks.length := by simp [Ty.kids]
    refine rng_i64 (by dsimp only; omega) (by dsimp only; omega) ?_
    refine wG ?_
    refine ⟨_, _, WkL.rfl, WkOs.rfl, p[i.toNat], 0, _, rfl, rfl, ?_⟩
    refine goG1 ?_
    refine ⟨fun h4 => ?_, fun h4 => ?_⟩
    · have h4 : (decide (0 ≤ p[i.toNat]) && decide (p[i.toNat] ≤ ((List.map dTy (Ty.mk ks).kids).length : Int) - 1)) = false := of_not_t h4
      refine wG ?_
      refine endK ⟨[], ⟨rfl, rfl⟩, ?_⟩
      refine wG ?_
      refine fnone ?_
      simp only [typeAt, h, if_true, hi2, tyAt0]
      rw [dif_neg]
      rintro ⟨k1, k2⟩
      simp only [Bool.and_eq_false_iff, decide_eq_false_iff_not] at h4
      omega
    · have h4 : (decide (0 ≤ p[i.toNat]) && decide (p[i.toNat] ≤ ((List.map dTy (Ty.mk ks).kids).length : Int) - 1)) = true := of_not_f h4
      simp only [Bool.and_eq_true, decide_eq_true_eq] at h4
      obtain ⟨h5, h6⟩ := h4
      have h7 : (p[i.toNat]).toNat < ks.length := by omega
      refine wG ?_
      first | refine idx_map (f := dI) (by omega) (by (try simp only [List.length_append, List.length_cons, List.length_nil, List.length_map, List.length_take, List.length_drop, maxRow, byteRows_len, Ty.kids, Ty.kids_mk]); omega) ?_ | refine idx_map' (f := dI) (by (try simp only [List.length_append, List.length_cons, List.length_nil, List.length_map, List.length_take, List.length_drop, maxRow, byteRows_len, Ty.kids, Ty.kids_mk]); omega) ?_
      refine wG ?_
      refine idx_map (f := dTy) h5 h7 ?_
      rw [dTy_eq]
      refine wG ?_
      refine goG1 ?_
      have e : (i + 1).toNat = i.toNat + 1 := by omega
      refine ⟨(ks[(p[i.toNat]).toNat], i + 1), ⟨by dsimp only; omega, by dsimp only; omega, tyOk_mono (by omega) (hks _ (List.getElem_mem h7)), ?_⟩, by dsimp only; omega, [], Meet.mk rfl rfl WkOs.rfl ⟨Wk.rfl, trivial⟩ rfl⟩
      dsimp only
      rw [hi2, e, tyAt0, dif_pos ⟨h5, h7⟩]
  · refine ⟨_, _, WkL.rfl, WkOs.rfl, Ty.mk ks, 4, rfl, rfl, by omega, hok, ?_⟩
    refine goG1 ?_
    refine endK ⟨[], ⟨rfl, rfl⟩, ?_⟩
    refine wG ?_
    have e : typeAt t p = some (.mk ks) := by
      rw [List.drop_eq_nil_of_le (by omega)] at hi2
      simp only [typeAt, h, if_true, hi2, tyAt0]
    rw [e] at hQ
    exact ⟨_, _, Wk.rfl, WkOs.rfl, hQ⟩
end Ab
