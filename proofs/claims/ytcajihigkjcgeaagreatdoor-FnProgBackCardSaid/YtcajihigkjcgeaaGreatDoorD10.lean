/- The draws, tenth part: bent programs. -/
import Derived.Test.YtcajihigkjcgeaaGreatDoorSyn
import Derived.Test.YtcajihigkjcgeaaGreatDoorD8
set_option linter.all false
namespace Ab
open Go Go.Proofs
set_option maxRecDepth 10000
set_option maxHeartbeats 4000000
set_option linter.all false

theorem dSt_len (s : St) : (cSt s).length = (dSt s).length := by rw [dSt_eq]
theorem dSt_dwl (s : St) : DWL (cSt s) (dSt s) := by rw [dSt_eq]; exact DWL.rfl
abbrev newSt (s : Bs) : St := .mk 1 [122, 122] pl0 pl0 (.mk 2 0 ⟨s, []⟩ []) [] [] [] []
theorem dSt_new (s : Bs) : DWL [.i .i64 1, .s [122, 122], .s [], .v (.slice none 0 0), .s [], .v (.slice none 0 0), .i .i64 2, .i .i64 0, .s s, .v (.slice none 0 0), .v (.slice none 0 0), .s [], .v (.slice none 0 0), .v (.slice none 0 0), .v (.slice none 0 0)] (dSt (newSt s)) := by
  rw [dSt_eq]
  exact DWL.cons DW.rfl (DWL.cons DW.rfl (DWL.cons DW.rfl (DWL.cons (DW.nil 1) (DWL.cons DW.rfl (DWL.cons (DW.nil 1) (DWL.cons DW.rfl (DWL.cons DW.rfl (DWL.cons DW.rfl (DWL.cons (DW.nil 1) (DWL.cons (DW.nil 5) (DWL.cons DW.rfl (DWL.cons (DW.nil 8) (DWL.cons (DW.nil 15) (DWL.cons (DW.nil 15) DWL.rfl))))))))))))))
theorem dSt_new_len (s : Bs) : 15 = (dSt (newSt s)).length := by rw [dSt_eq]; rfl
/-- l71Bend -/
def S_s_l71Bend : Spec := fun args O Q => ∃ (l : List UInt8) (p : Int) (P : Pr), args = [.ptr 0 0, aPr P] ∧ O = [oRd l p] ∧ l.length ≤ 2000 ∧ 0 ≤ p ∧ p + 10000 ≤ 1000000000 ∧ 1 ≤ P.length ∧ P.length ≤ 4 ∧ (∀ f ∈ P, FdG f) ∧
  ∀ (P' : Pr) (p' : Int), PrG P' → P'.length ≥ 1 → p ≤ p' → p' ≤ p + 10000 → Q (aPr P') [oRd l p']
theorem v_s_l71Bend {B : World} : Valid PG B s_l71Bend S_s_l71Bend := by
  refine valid_of (Γ := [(s_l6Rd_pick, ⟨[], S_s_l6Rd_pick⟩), (s_l6Rd_of, ⟨[], S_s_l6Rd_of⟩), (s_l71Deep, ⟨[], S_deep⟩)]) wide tok (((AllValid.nil.cons v_deep).cons v_s_l6Rd_of).cons v_s_l6Rd_pick) g_s_l71Bend rfl rfl ?_
  rintro _ _ Q ⟨l, p, P, rfl, rfl, hl, h0, hp, hP1, hP4, hP, hQ⟩
  refine wG ?_
  refine ⟨_, _, WkL.rfl, WkOs.rfl, l, p, ((P.map dFd).length : Int), hl, h0, by omega, by simp; omega, rfl, rfl, ?_⟩
  intro k _ hk
  obtain ⟨hk0, hk1⟩ := hk (by simp; omega)
  rw [List.length_map] at hk1
  have hkl : k.toNat < P.length := by omega
  have hx : (P.map dFd)[k.toNat]? = some (dFd P[k.toNat]) := by simp [hkl]
  have hF := hP _ (List.getElem_mem hkl)
  have fin : ∀ (F : Fd) (P2 : Pr) (p' : Int), (∀ s ∈ F.body, StF 3 s) → F.body.length ≤ 10 → F.params.length ≤ 10 → (∀ g ∈ P2, FdG g) → P2.length ≤ 5 → 1 ≤ P2.length → p ≤ p' → p' ≤ p + 10000 → Q (aPr (P2.set k.toNat F)) [oRd l p'] := fun F P2 p' f1 f2 f3 f4 f5 f6 g1 g2 => by
    have key : ∀ g ∈ P2.set k.toNat F, g = F ∨ g ∈ P2 := fun g hg => by
      rcases List.mem_or_eq_of_mem_set hg with h | h
      · exact .inr h
      · exact .inl h
    refine hQ _ p' ⟨by simp; omega, fun g hg => ?_, fun g hg => ?_, fun g hg => ?_⟩ (by simp; omega) g1 g2
    · rcases key g hg with rfl | h
      · exact f1
      · exact (f4 g h).body
    · rcases key g hg with rfl | h
      · exact f2
      · have := (f4 g h).len; omega
    · rcases key g hg with rfl | h
      · exact f3
      · have := (f4 g h).ok.params; omega
  generalize P[k.toNat] = f at *
  refine goG1 ?_
  refine ⟨_, hx, ?_⟩
  rw [dFd_eq]
  refine wG ?_
  refine ⟨_, _, WkL.rfl, WkOs.rfl, l, p + 1, 12, hl, by omega, by omega, by omega, rfl, rfl, ?_⟩
  intro k2 _ hk2
  have fb := hF.body
  have fl := hF.len
  have fp := hF.ok.params
  refine goG1 ?_
  refine brG1 (fun h1 => ?_) (fun h1 => ?_)
  · left
    refine wG ?_
    refine goG1 ?_
    refine ⟨_, _, WkL.cons Wk.rfl (WkL.cons (Wk.d DW.sf) WkL.nil), WkOs.rfl, l, p + 1 + 1, [[], [102, 97], [70], [116, 111, 111, 108, 111, 110, 103], [122, 122]], rfl, rfl, by simp, by simp, hl, by omega, by omega, ?_⟩
    intro s hs
    refine goG1 ?_
    left
    refine wG ?_
    refine ⟨⟨.inl rfl, by simp [maxRow]; omega⟩, ?_⟩
    refine wG ?_
    refine goG1 ?_
    refine ⟨_, hx, ?_⟩
    refine wG ?_
    refine goG1 ?_
    refine endK ⟨[], ⟨rfl, rfl⟩, ?_⟩
    refine wG ?_
    refine ⟨_, _, Wk.agg (WkL.cons (Wk.d (DW.sl (rows_set (F := { f with name := s }) rfl ?_))) WkL.nil), WkOs.rfl, fin ({ f with name := s }) P (p + 1 + 1 + 1) fb (by dsimp only; omega) (by dsimp only; omega) hP (by omega) (by omega) (by omega) (by omega)⟩
    exact DWL.rfl
  refine brG1 (fun h2 => ?_) (fun h2 => ?_)
  · refine ⟨_, _, WkL.rfl, WkOs.rfl, l, p + 1 + 1, rfl, rfl, hl, by omega, by omega, ?_⟩
    intro t p1 ht g1 g2
    refine goG1 ?_
    left
    refine wG ?_
    refine ⟨⟨.inl rfl, by simp [maxRow]; omega⟩, ?_⟩
    refine wG ?_
    refine goG1 ?_
    refine ⟨_, hx, ?_⟩
    refine wG ?_
    refine goG1 ?_
    refine endK ⟨[], ⟨rfl, rfl⟩, ?_⟩
    refine wG ?_
    refine ⟨_, _, Wk.agg (WkL.cons (Wk.d (DW.sl (rows_set (F := { f with ty := t }) rfl ?_))) WkL.nil), WkOs.rfl, fin ({ f with ty := t }) P (p1) fb (by dsimp only; omega) (by dsimp only; omega) hP (by omega) (by omega) (by omega) (by omega)⟩
    exact DWL.rfl
  refine brG1 (fun h3 => ?_) (fun h3 => ?_)
  · refine goG1 ?_
    left
    refine wG ?_
    refine ⟨⟨.inl rfl, by simp [maxRow]; omega⟩, ?_⟩
    refine wG ?_
    refine goG1 ?_
    refine ⟨_, hx, ?_⟩
    refine wG ?_
    refine goG1 ?_
    refine endK ⟨[], ⟨rfl, rfl⟩, ?_⟩
    refine wG ?_
    refine ⟨_, _, Wk.agg (WkL.cons (Wk.d (DW.sl (rows_set (F := { f with lent := !f.lent }) rfl ?_))) WkL.nil), WkOs.rfl, fin ({ f with lent := !f.lent }) P (p + 1 + 1) fb (by dsimp only; omega) (by dsimp only; omega) hP (by omega) (by omega) (by omega) (by omega)⟩
    exact DWL.rfl
  refine brG1 (fun h4 => ?_) (fun h4 => ?_)
  · refine brG1 (fun h5 => ?_) (fun h5 => ?_)
    · have hb5 : 0 < f.body.length := by simpa using h5
      refine ⟨_, _, WkL.rfl, WkOs.rfl, l, p + 1 + 1, ((f.body.map dSt).length : Int), hl, by omega, by omega, by simp; omega, rfl, rfl, ?_⟩
      intro kb _ hkb
      obtain ⟨kb0, kb1⟩ := hkb (by simp; omega)
      rw [List.length_map] at kb1
      have kbl : kb.toNat < f.body.length := by omega
      refine goG1 ?_
      refine ⟨⟨.inl rfl, by simp [maxRow]; omega⟩, ?_⟩
      refine wG ?_
      refine agG1 ?_
      have fb2 : ∀ s' ∈ f.body.take kb.toNat ++ f.body.drop (kb.toNat + 1), StF 3 s' := by
        intro s' hs'
        rcases List.mem_append.1 hs' with h | h
        · exact fb s' (List.mem_of_mem_take h)
        · exact fb s' (List.mem_of_mem_drop h)
      have fl2 : (f.body.take kb.toNat ++ f.body.drop (kb.toNat + 1)).length ≤ 10 := by simp; omega
      have ek : (kb + 1).toNat = kb.toNat + 1 := by omega
      left
      refine wG ?_
      refine ⟨⟨.inl rfl, by simp [maxRow]; omega⟩, ?_⟩
      refine wG ?_
      refine goG1 ?_
      refine ⟨_, hx, ?_⟩
      refine wG ?_
      refine goG1 ?_
      refine endK ⟨[], ⟨rfl, rfl⟩, ?_⟩
      refine wG ?_
      refine ⟨_, _, Wk.agg (WkL.cons (Wk.d (DW.sl (rows_set (F := { f with body := f.body.take kb.toNat ++ f.body.drop (kb.toNat + 1) }) rfl ?_))) WkL.nil), WkOs.rfl, fin ({ f with body := f.body.take kb.toNat ++ f.body.drop (kb.toNat + 1) }) P (p + 1 + 1 + 1) fb2 fl2 (by dsimp only; omega) hP (by omega) (by omega) (by omega) (by omega)⟩
      refine DWL.cons DW.rfl (DWL.cons DW.rfl (DWL.cons DW.rfl (DWL.cons DW.rfl (DWL.cons (DW.sl (DWRows.rfl_of ?_)) DWL.rfl))))
      rw [ek, List.take_length]; simp
    · left
      refine wG ?_
      refine ⟨⟨.inl rfl, by simp [maxRow]; omega⟩, ?_⟩
      refine wG ?_
      refine goG1 ?_
      refine ⟨_, hx, ?_⟩
      refine wG ?_
      refine goG1 ?_
      refine endK ⟨[], ⟨rfl, rfl⟩, ?_⟩
      refine wG ?_
      refine ⟨_, _, Wk.agg (WkL.cons (Wk.d (DW.sl (rows_set (F := f) rfl ?_))) WkL.nil), WkOs.rfl, fin (f) P (p + 1 + 1) fb (by omega) (by omega) hP (by omega) (by omega) (by omega) (by omega)⟩
      exact DWL.rfl
  refine brG1 (fun h6 => ?_) (fun h6 => ?_)
  · refine brG1 (fun h5 => ?_) (fun h5 => ?_)
    · have hb5 : 0 < f.body.length := by simpa using h5
      left
      refine wG ?_
      refine agG1 ?_
      refine ⟨_, _, WkL.rfl, WkOs.rfl, l, p + 1 + 1, ((f.body.map dSt).length : Int), hl, by omega, by omega, by simp; omega, rfl, rfl, ?_⟩
      intro kb _ hkb
      obtain ⟨kb0, kb1⟩ := hkb (by simp; omega)
      rw [List.length_map] at kb1
      have kbl : kb.toNat < f.body.length := by omega
      have hbx : (f.body.map dSt)[kb.toNat]? = some (cSt f.body[kb.toNat]) := by rw [← dSt_eq]; simp [kbl]
      have hbm := fb _ (List.getElem_mem kbl)
      generalize f.body[kb.toNat] = s at *
      refine agG1 ?_
      refine ⟨_, hbx, ?_⟩
      refine wG ?_
      refine agG1 ?_
      left
      refine wG ?_
      refine agG1 ?_
      have fb2 : ∀ s' ∈ f.body ++ [s], StF 3 s' := by
        intro s' hs'
        rcases List.mem_append.1 hs' with h | h
        · exact fb s' h
        · simp at h; subst h; exact hbm
      left
      refine wG ?_
      refine ⟨⟨.inl rfl, by simp [maxRow]; omega⟩, ?_⟩
      refine wG ?_
      refine goG1 ?_
      refine ⟨_, hx, ?_⟩
      refine wG ?_
      refine goG1 ?_
      refine endK ⟨[], ⟨rfl, rfl⟩, ?_⟩
      refine wG ?_
      refine ⟨_, _, Wk.agg (WkL.cons (Wk.d (DW.sl (rows_set (F := { f with body := f.body ++ [s] }) rfl ?_))) WkL.nil), WkOs.rfl, fin ({ f with body := f.body ++ [s] }) P (p + 1 + 1 + 1) fb2 (by simp; omega) (by dsimp only; omega) hP (by omega) (by omega) (by omega) (by omega)⟩
      refine DWL.cons DW.rfl (DWL.cons DW.rfl (DWL.cons DW.rfl (DWL.cons DW.rfl (DWL.cons (DW.sl (rows_app (dSt_len s) (dSt_dwl s))) DWL.rfl))))
    · left
      refine wG ?_
      refine ⟨⟨.inl rfl, by simp [maxRow]; omega⟩, ?_⟩
      refine wG ?_
      refine goG1 ?_
      refine ⟨_, hx, ?_⟩
      refine wG ?_
      refine goG1 ?_
      refine endK ⟨[], ⟨rfl, rfl⟩, ?_⟩
      refine wG ?_
      refine ⟨_, _, Wk.agg (WkL.cons (Wk.d (DW.sl (rows_set (F := f) rfl ?_))) WkL.nil), WkOs.rfl, fin (f) P (p + 1 + 1) fb (by omega) (by omega) hP (by omega) (by omega) (by omega) (by omega)⟩
      exact DWL.rfl
  refine brG1 (fun h7 => ?_) (fun h7 => ?_)
  · left
    refine wG ?_
    refine ⟨⟨.inl rfl, by simp [maxRow]; omega⟩, ?_⟩
    refine wG ?_
    refine goG1 ?_
    left
    refine wG ?_
    refine goG1 ?_
    refine ⟨_, _, WkL.cons Wk.rfl (WkL.cons (Wk.d DW.sf) WkL.nil), WkOs.rfl, l, p + 1 + 1, [[112], [122], [90]], rfl, rfl, by simp, by simp, hl, by omega, by omega, ?_⟩
    intro s hs
    refine goG1 ?_
    refine ⟨_, _, WkL.rfl, WkOs.rfl, l, p + 1 + 1 + 1, rfl, rfl, hl, by omega, by omega, ?_⟩
    intro t p1 ht g1 g2
    refine goG1 ?_
    left
    refine wG ?_
    refine goG1 ?_
    left
    refine wG ?_
    refine ⟨⟨.inl rfl, by simp [maxRow]; omega⟩, ?_⟩
    refine wG ?_
    refine goG1 ?_
    refine ⟨_, hx, ?_⟩
    refine wG ?_
    refine goG1 ?_
    refine endK ⟨[], ⟨rfl, rfl⟩, ?_⟩
    refine wG ?_
    refine ⟨_, _, Wk.agg (WkL.cons (Wk.d (DW.sl (rows_set (F := { f with params := f.params ++ [⟨s, false, t⟩] }) rfl ?_))) WkL.nil), WkOs.rfl, fin ({ f with params := f.params ++ [⟨s, false, t⟩] }) P (p1) fb (by dsimp only; omega) (by simp; omega) hP (by omega) (by omega) (by omega) (by omega)⟩
    exact DWL.cons DW.rfl (DWL.cons (DW.sl (rows_app rfl DWL.rfl)) DWL.rfl)
  refine brG1 (fun h8 => ?_) (fun h8 => ?_)
  · left
    refine wG ?_
    refine goG1 ?_
    refine ⟨_, _, WkL.cons Wk.rfl (WkL.cons (Wk.d DW.sf) WkL.nil), WkOs.rfl, l, p + 1 + 1, [[112], [113], [122, 122]], rfl, rfl, by simp, by simp, hl, by omega, by omega, ?_⟩
    intro s hs
    refine goG1 ?_
    refine ⟨_, _, WkL.rfl, WkOs.rfl, l, p + 1 + 1 + 1, 3, hl, by omega, by omega, by omega, rfl, rfl, ?_⟩
    intro k3 _ hk3
    obtain ⟨k30, k31⟩ := hk3 (by omega)
    refine goG1 ?_
    left
    refine wG ?_
    refine goG1 ?_
    refine ⟨_, _, WkL.rfl, WkOs.rfl, l, p + 1 + 1 + 1 + 1, 2, hl, by omega, by omega, by omega, rfl, rfl, ?_⟩
    intro k4 _ hk4
    obtain ⟨k40, k41⟩ := hk4 (by omega)
    refine goG1 ?_
    left
    refine wG ?_
    refine ⟨⟨.inl rfl, by simp [maxRow]; omega⟩, ?_⟩
    refine wG ?_
    refine goG1 ?_
    refine ⟨_, hx, ?_⟩
    refine wG ?_
    refine goG1 ?_
    refine endK ⟨[], ⟨rfl, rfl⟩, ?_⟩
    refine wG ?_
    refine ⟨_, _, Wk.agg (WkL.cons (Wk.d (DW.sl (rows_set (F := { f with gives := ⟨s, [k3 - 1].take k4.toNat⟩ }) rfl ?_))) WkL.nil), WkOs.rfl, fin ({ f with gives := ⟨s, [k3 - 1].take k4.toNat⟩ }) P (p + 1 + 1 + 1 + 1 + 1) fb (by dsimp only; omega) (by dsimp only; omega) hP (by omega) (by omega) (by omega) (by omega)⟩
    exact DWL.cons DW.rfl (DWL.cons DW.rfl (DWL.cons DW.rfl (DWL.cons DW.rfl (DWL.cons DW.rfl (DWL.cons DW.rfl (DWL.cons DW.rfl (DWL.cons DW.rfl (DWL.cons DW.rfl (DWL.cons DW.rfl (DWL.cons DW.rfl (DWL.cons (DW.sl (DWRows.rfl_of (by simp [dI]))) DWL.rfl)))))))))))
  refine brG1 (fun h9 => ?_) (fun h9 => ?_)
  · refine ⟨_, _, WkL.rfl, WkOs.rfl, l, p + 1 + 1, 8, hl, by omega, by omega, by omega, rfl, rfl, ?_⟩
    intro k3 _ _
    refine goG1 ?_
    refine ⟨_, _, WkL.rfl, WkOs.rfl, l, p + 1 + 1 + 1, 3, hl, by omega, by omega, by omega, rfl, rfl, ?_⟩
    intro k4 _ _
    refine goG1 ?_
    left
    refine wG ?_
    refine ⟨⟨.inl rfl, by simp [maxRow]; omega⟩, ?_⟩
    refine wG ?_
    refine goG1 ?_
    refine ⟨_, hx, ?_⟩
    refine wG ?_
    refine goG1 ?_
    refine endK ⟨[], ⟨rfl, rfl⟩, ?_⟩
    refine wG ?_
    refine ⟨_, _, Wk.agg (WkL.cons (Wk.d (DW.sl (rows_set (F := { f with says := .mk k3 k4 ⟨[112], []⟩ [] }) rfl ?_))) WkL.nil), WkOs.rfl, fin ({ f with says := .mk k3 k4 ⟨[112], []⟩ [] }) P (p + 1 + 1 + 1 + 1) fb (by dsimp only; omega) (by dsimp only; omega) hP (by omega) (by omega) (by omega) (by omega)⟩
    exact DWL.cons DW.rfl (DWL.cons DW.rfl (DWL.cons DW.rfl (DWL.cons DW.rfl (DWL.cons DW.rfl (DWL.cons DW.rfl (DWL.cons DW.rfl (DWL.cons DW.rfl (DWL.cons (DW.nil 1) (DWL.cons (DW.nil 5) DWL.rfl)))))))))
  refine brG1 (fun h10 => ?_) (fun h10 => ?_)
  · refine brG1 (fun h12 => ?_) (fun h12 => ?_)
    · have hb5 : 1 < f.body.length := by have h12 : (1 : Int) < (f.body.length : Int) := by simpa using h12
                                         omega
      refine goG1 ?_
      refine ⟨_, _, WkL.rfl, WkOs.rfl, l, p + 1 + 1, ((f.body.map dSt).length : Int) - 1, hl, by omega, by omega, by simp; omega, rfl, rfl, ?_⟩
      intro kb _ hkb
      obtain ⟨kb0, kb1⟩ := hkb (by simp; omega)
      rw [List.length_map] at kb1
      refine goG1 ?_
      left
      refine wG ?_
      refine goG1 ?_
      have kbl : kb.toNat < f.body.length := by omega
      have kbl2 : kb.toNat + 1 < f.body.length := by omega
      have ek : (kb + 1).toNat = kb.toNat + 1 := by omega
      have hbx : (([] : List (List DV)) ++ f.body.map dSt)[kb.toNat]? = some (cSt f.body[kb.toNat]) := by rw [← dSt_eq]; simp [kbl]
      have hbx2 : (([] : List (List DV)) ++ f.body.map dSt)[(kb + 1).toNat]? = some (cSt f.body[kb.toNat + 1]) := by rw [← dSt_eq, ek]; simp [kbl2]
      refine ⟨_, hbx, ?_⟩
      refine wG ?_
      refine goG1 ?_
      refine ⟨_, hbx2, ?_⟩
      refine wG ?_
      refine agG1 ?_
      refine ⟨_, hbx, ?_⟩
      refine wG ?_
      refine goG1 ?_
      have hbx3 : ((([] : List (List DV)) ++ f.body.map dSt).set kb.toNat (cSt f.body[kb.toNat + 1]))[(kb + 1).toNat]? = some (cSt f.body[kb.toNat + 1]) := by
        rw [List.getElem?_set_ne (by omega)]; exact hbx2
      refine Req.mk (by simp; omega) ?_
      refine ⟨_, hbx3, ?_⟩
      refine wG ?_
      refine goG1 ?_
      have fb2 : ∀ s' ∈ (f.body.set kb.toNat f.body[kb.toNat + 1]).set (kb.toNat + 1) f.body[kb.toNat], StF 3 s' := by
        intro s' hs'
        rcases List.mem_or_eq_of_mem_set hs' with h | rfl
        · rcases List.mem_or_eq_of_mem_set h with h | rfl
          · exact fb s' h
          · exact fb _ (List.getElem_mem _)
        · exact fb _ (List.getElem_mem _)
      have fl2 : ((f.body.set kb.toNat f.body[kb.toNat + 1]).set (kb.toNat + 1) f.body[kb.toNat]).length ≤ 10 := by simp; omega
      have er : ((([] : List (List DV)) ++ f.body.map dSt).set kb.toNat (cSt f.body[kb.toNat + 1])).set (kb + 1).toNat (cSt f.body[kb.toNat]) = ((f.body.set kb.toNat f.body[kb.toNat + 1]).set (kb.toNat + 1) f.body[kb.toNat]).map dSt := by
        rw [ek, List.map_set, List.map_set, dSt_eq, dSt_eq]; rfl
      left
      refine wG ?_
      refine ⟨⟨.inl rfl, by simp [maxRow]; omega⟩, ?_⟩
      refine wG ?_
      refine goG1 ?_
      refine ⟨_, hx, ?_⟩
      refine wG ?_
      refine goG1 ?_
      refine endK ⟨[], ⟨rfl, rfl⟩, ?_⟩
      refine wG ?_
      refine ⟨_, _, Wk.agg (WkL.cons (Wk.d (DW.sl (rows_set (F := { f with body := (f.body.set kb.toNat f.body[kb.toNat + 1]).set (kb.toNat + 1) f.body[kb.toNat] }) rfl ?_))) WkL.nil), WkOs.rfl, fin ({ f with body := (f.body.set kb.toNat f.body[kb.toNat + 1]).set (kb.toNat + 1) f.body[kb.toNat] }) P (p + 1 + 1 + 1) fb2 fl2 (by dsimp only; omega) hP (by omega) (by omega) (by omega) (by omega)⟩
      exact DWL.cons DW.rfl (DWL.cons DW.rfl (DWL.cons DW.rfl (DWL.cons DW.rfl (DWL.cons (DW.sl (DWRows.rfl_of er)) DWL.rfl))))
    · left
      refine wG ?_
      refine ⟨⟨.inl rfl, by simp [maxRow]; omega⟩, ?_⟩
      refine wG ?_
      refine goG1 ?_
      refine ⟨_, hx, ?_⟩
      refine wG ?_
      refine goG1 ?_
      refine endK ⟨[], ⟨rfl, rfl⟩, ?_⟩
      refine wG ?_
      refine ⟨_, _, Wk.agg (WkL.cons (Wk.d (DW.sl (rows_set (F := f) rfl ?_))) WkL.nil), WkOs.rfl, fin (f) P (p + 1 + 1) fb (by omega) (by omega) hP (by omega) (by omega) (by omega) (by omega)⟩
      exact DWL.rfl
  refine brG1 (fun h11 => ?_) (fun h11 => ?_)
  · refine brG1 (fun h12 => ?_) (fun h12 => ?_)
    · have hb5 : 1 < f.body.length := by have h12 : (1 : Int) < (f.body.length : Int) := by simpa using h12
                                         omega
      refine goG1 ?_
      refine ⟨_, _, WkL.rfl, WkOs.rfl, l, p + 1 + 1, ((f.body.map dSt).length : Int) - 1, hl, by omega, by omega, by simp; omega, rfl, rfl, ?_⟩
      intro kb _ hkb
      obtain ⟨kb0, kb1⟩ := hkb (by simp; omega)
      rw [List.length_map] at kb1
      refine goG1 ?_
      left
      refine wG ?_
      refine goG1 ?_
      have kbl : kb.toNat < f.body.length := by omega
      have kbl2 : kb.toNat + 1 < f.body.length := by omega
      have ek : (kb + 1).toNat = kb.toNat + 1 := by omega
      have hbx : (([] : List (List DV)) ++ f.body.map dSt)[kb.toNat]? = some (cSt f.body[kb.toNat]) := by rw [← dSt_eq]; simp [kbl]
      have hbx2 : (([] : List (List DV)) ++ f.body.map dSt)[(kb + 1).toNat]? = some (cSt f.body[kb.toNat + 1]) := by rw [← dSt_eq, ek]; simp [kbl2]
      refine ⟨_, hbx, ?_⟩
      refine wG ?_
      refine goG1 ?_
      refine ⟨_, hbx2, ?_⟩
      refine wG ?_
      refine agG1 ?_
      refine ⟨_, hbx, ?_⟩
      refine wG ?_
      refine goG1 ?_
      have hbx3 : ((([] : List (List DV)) ++ f.body.map dSt).set kb.toNat (cSt f.body[kb.toNat + 1]))[(kb + 1).toNat]? = some (cSt f.body[kb.toNat + 1]) := by
        rw [List.getElem?_set_ne (by omega)]; exact hbx2
      refine Req.mk (by simp; omega) ?_
      refine ⟨_, hbx3, ?_⟩
      refine wG ?_
      refine goG1 ?_
      have fb2 : ∀ s' ∈ (f.body.set kb.toNat f.body[kb.toNat + 1]).set (kb.toNat + 1) f.body[kb.toNat], StF 3 s' := by
        intro s' hs'
        rcases List.mem_or_eq_of_mem_set hs' with h | rfl
        · rcases List.mem_or_eq_of_mem_set h with h | rfl
          · exact fb s' h
          · exact fb _ (List.getElem_mem _)
        · exact fb _ (List.getElem_mem _)
      have fl2 : ((f.body.set kb.toNat f.body[kb.toNat + 1]).set (kb.toNat + 1) f.body[kb.toNat]).length ≤ 10 := by simp; omega
      have er : ((([] : List (List DV)) ++ f.body.map dSt).set kb.toNat (cSt f.body[kb.toNat + 1])).set (kb + 1).toNat (cSt f.body[kb.toNat]) = ((f.body.set kb.toNat f.body[kb.toNat + 1]).set (kb.toNat + 1) f.body[kb.toNat]).map dSt := by
        rw [ek, List.map_set, List.map_set, dSt_eq, dSt_eq]; rfl
      left
      refine wG ?_
      refine ⟨⟨.inl rfl, by simp [maxRow]; omega⟩, ?_⟩
      refine wG ?_
      refine goG1 ?_
      refine ⟨_, hx, ?_⟩
      refine wG ?_
      refine goG1 ?_
      refine endK ⟨[], ⟨rfl, rfl⟩, ?_⟩
      refine wG ?_
      refine ⟨_, _, Wk.agg (WkL.cons (Wk.d (DW.sl (rows_set (F := { f with body := (f.body.set kb.toNat f.body[kb.toNat + 1]).set (kb.toNat + 1) f.body[kb.toNat] }) rfl ?_))) WkL.nil), WkOs.rfl, fin ({ f with body := (f.body.set kb.toNat f.body[kb.toNat + 1]).set (kb.toNat + 1) f.body[kb.toNat] }) P (p + 1 + 1 + 1) fb2 fl2 (by dsimp only; omega) hP (by omega) (by omega) (by omega) (by omega)⟩
      exact DWL.cons DW.rfl (DWL.cons DW.rfl (DWL.cons DW.rfl (DWL.cons DW.rfl (DWL.cons (DW.sl (DWRows.rfl_of er)) DWL.rfl))))
    · left
      refine wG ?_
      refine ⟨⟨.inl rfl, by simp [maxRow]; omega⟩, ?_⟩
      refine wG ?_
      refine goG1 ?_
      refine ⟨_, hx, ?_⟩
      refine wG ?_
      refine goG1 ?_
      refine endK ⟨[], ⟨rfl, rfl⟩, ?_⟩
      refine wG ?_
      refine ⟨_, _, Wk.agg (WkL.cons (Wk.d (DW.sl (rows_set (F := f) rfl ?_))) WkL.nil), WkOs.rfl, fin (f) P (p + 1 + 1) fb (by omega) (by omega) hP (by omega) (by omega) (by omega) (by omega)⟩
      exact DWL.rfl
  refine brG1 (fun h12 => ?_) (fun h12 => ?_)
  · left
    refine wG ?_
    refine ⟨⟨.inl rfl, by simp [maxRow]; omega⟩, ?_⟩
    refine wG ?_
    refine goG1 ?_
    left
    refine wG ?_
    refine goG1 ?_
    refine ⟨_, _, WkL.cons Wk.rfl (WkL.cons (Wk.d DW.sf) WkL.nil), WkOs.rfl, l, p + 1 + 1, [[112], [113], [97, 98], [97, 99], [97, 100], [97, 101]], rfl, rfl, by simp, by simp, hl, by omega, by omega, ?_⟩
    intro s hs
    refine goG1 ?_
    left
    refine wG ?_
    refine goG1 ?_
    have hn : nameOk s = true := by
      simp at hs
      rcases hs with rfl | rfl | rfl | rfl | rfl | rfl <;> decide
    have fb2 : ∀ s' ∈ f.body ++ [newSt s], StF 3 s' := by
      intro s' hs'
      rcases List.mem_append.1 hs' with h | h
      · exact fb s' h
      · simp at h; subst h; exact .let_ (by decide) (.read (by simp [plOk, pathOk, hn]))
    left
    refine wG ?_
    refine ⟨⟨.inl rfl, by simp [maxRow]; omega⟩, ?_⟩
    refine wG ?_
    refine goG1 ?_
    refine ⟨_, hx, ?_⟩
    refine wG ?_
    refine goG1 ?_
    refine endK ⟨[], ⟨rfl, rfl⟩, ?_⟩
    refine wG ?_
    refine ⟨_, _, Wk.agg (WkL.cons (Wk.d (DW.sl (rows_set (F := { f with body := f.body ++ [newSt s] }) rfl ?_))) WkL.nil), WkOs.rfl, fin ({ f with body := f.body ++ [newSt s] }) P (p + 1 + 1 + 1) fb2 (by simp; omega) (by dsimp only; omega) hP (by omega) (by omega) (by omega) (by omega)⟩
    exact DWL.cons DW.rfl (DWL.cons DW.rfl (DWL.cons DW.rfl (DWL.cons DW.rfl (DWL.cons (DW.sl (rows_app (f := dSt) (l := f.body) (x := newSt s) (dSt_new_len s) (dSt_new s))) DWL.rfl))))
  refine ⟨⟨.inl rfl, by simp [maxRow]; omega⟩, ?_⟩
  refine wG ?_
  refine goG1 ?_
  left
  refine wG ?_
  refine goG1 ?_
  have hx2 : (([] : List (List DV)) ++ ([] ++ P.map dFd ++ [cFd f]))[k.toNat]? = some (dFd f) := by
    have : k.toNat < (P.map dFd).length := by simpa using hkl
    simp only [List.nil_append]
    rw [List.getElem?_append_left this]; exact hx
  refine ⟨_, hx2, ?_⟩
  refine wG ?_
  refine goG1 ?_
  refine endK ⟨[], ⟨rfl, rfl⟩, ?_⟩
  refine wG ?_
  refine ⟨_, _, Wk.agg (WkL.cons (Wk.d (DW.sl ?_)) WkL.nil), WkOs.rfl, fin f (P ++ [f]) (p + 1 + 1) fb (by omega) (by omega) (fun g hg => by
    rcases List.mem_append.1 hg with h | h
    · exact hP g h
    · simp at h; subst h; exact hF) (by simp; omega) (by simp) (by omega) (by omega)⟩
  have ef : ([] : List (List DV)) ++ ([] ++ P.map dFd ++ [cFd f]) = (P ++ [f]).map dFd := by simp [dFd_eq]
  show DWRows (List.set (([] : List (List DV)) ++ ([] ++ P.map dFd ++ [cFd f])) k.toNat _) _
  rw [ef]
  exact rows_set rfl DWL.rfl
end Ab
