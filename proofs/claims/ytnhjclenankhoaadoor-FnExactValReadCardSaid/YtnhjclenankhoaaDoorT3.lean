/- Marking a row of trees that is the call's own. -/
import Derived.Test.YtnhjclenankhoaaDoorM1
import Derived.WalkKit
set_option linter.all false
namespace Ab
open Go Go.Proofs
set_option maxRecDepth 10000
set_option maxHeartbeats 4000000
set_option linter.all false
open Go Go.Proofs Go.RowKit

def szT : List Vl → Nat
  | [] => 0
  | .mk _ kids :: ks => 1 + szT kids + szT ks
theorem szT_nil : szT [] = 0 := by rw [szT]
theorem szT_cons (n : Int) (kids ks : List Vl) : szT (.mk n kids :: ks) = 1 + szT kids + szT ks := by rw [szT]
theorem szT_app : ∀ (xs ys : List Vl), szT (xs ++ ys) = szT xs + szT ys
  | [], ys => by rw [szT_nil]; simp
  | .mk n kids :: xs, ys => by rw [List.cons_append, szT_cons, szT_cons, szT_app xs ys]; omega
theorem markT_num : ∀ (ks : List Vl) (k : Int), (markT ks k).2 = k + szT ks
  | [], k => by rw [markT_nil, szT_nil]; simp
  | .mk n kids :: ks, k => by
    rw [markT_cons, szT_cons]
    have h1 := markT_num kids (k + 1)
    have h2 := markT_num ks (markT kids (k + 1)).2
    simp only; rw [h2, h1]; omega
theorem markT_app : ∀ (xs ys : List Vl) (k : Int), (markT (xs ++ ys) k).1 = (markT xs k).1 ++ (markT ys (markT xs k).2).1
  | [], ys, k => by rw [markT_nil]; simp
  | .mk n kids :: xs, ys, k => by rw [List.cons_append, markT_cons, markT_cons]; simp [markT_app xs ys]
theorem len_szT : ∀ ks : List Vl, ks.length ≤ szT ks
  | [] => by simp
  | .mk n kids :: ks => by rw [szT_cons]; have := len_szT ks; simp; omega
/-- markValS -/
theorem mark_key : ∀ (N : Nat) (ks : List Vl) (lo hi : Nat) (s : Value) (k : Int) (w : World), szT ks ≤ N → KAt w lo hi ks s → ks.length ≤ 1000000 → 0 ≤ k → k + szT ks ≤ 1000000 →
    Calls PG l_markValS #[s, .int .i64 k] w fun e w' => e = .returned (.int .i64 (markT ks k).2) ∧ KAt w' lo hi (markT ks k).1 s ∧ Kp (fun j => lo ≤ j ∧ j < hi) w w' := by
  intro N
  induction N with
  | zero =>
    intro ks lo hi s k w hN hK hl h0 h1
    have hnil : ks = [] := by
      match ks, hN with
      | [], _ => rfl
      | .mk n kids :: ks, hN => rw [szT_cons] at hN; omega
    subst hnil
    cases hK with
    | row h _ _ _ _ _ _ => exact absurd rfl h
    | @nil _ _ a c =>
      go_enter g_l_markValS, Go.Proofs.Tryd.ntmps37
      go_wp2_with fail
      go_loop [5, 1] (fun i kk => i = .int .i64 0 ∧ kk = .int .i64 k) (fun _ _ => 0)
      case atStart => exact ⟨rfl, rfl⟩
      case round =>
        obtain ⟨rfl, rfl⟩ := hrel
        go_wp2_with fail
        go_ret
        rw [markT_nil]
        exact ⟨rfl, .nil, Kp.refl _ _⟩
  | succ N ih =>
    intro ks lo hi s k w hN hK hl h0 h1
    cases hK with
    | @nil _ _ a c =>
      go_enter g_l_markValS, Go.Proofs.Tryd.ntmps37
      go_wp2_with fail
      go_loop [5, 1] (fun i kk => i = .int .i64 0 ∧ kk = .int .i64 k) (fun _ _ => 0)
      case atStart => exact ⟨rfl, rfl⟩
      case round =>
        obtain ⟨rfl, rfl⟩ := hrel
        go_wp2_with fail
        go_ret
        rw [markT_nil]
        exact ⟨rfl, .nil, Kp.refl _ _⟩
    | @row _ _ b cap n t cs _ hne hn h2 h3 h4 h5 h6 =>
      subst hn
      go_enter g_l_markValS, Go.Proofs.Tryd.ntmps37
      go_wp2_with fail
      go_loopw [5, 1] (fun i kk wl => ∃ (xs ys : List Vl) (cs' : Array Value), ks = xs ++ ys ∧ i = .int .i64 xs.length ∧ kk = .int .i64 (markT xs k).2 ∧ Hid (wl.heap[b]? = some (.cells cs' t (0, 0))) ∧ Hid (RAt wl cs' lo b 0 ((markT xs k).1 ++ ys)) ∧ Hid (Kp (fun j => lo ≤ j ∧ j < hi) w wl))
        (fun i _ _ => ks.length - (intOf i).toNat)
      case atStart => exact ⟨[], ks, cs, rfl, rfl, by rw [markT_nil], h5, by rw [markT_nil]; exact h6, Kp.refl _ _⟩
      case round =>
        obtain ⟨xs, ys, cs', e1, rfl, rfl, g1, g2, g3⟩ := hrel
        rcases ys with _ | ⟨⟨n, kids⟩, ys⟩
        · have hge : ks.length ≤ xs.length := by rw [e1]; simp
          have e2 : ks = xs := by simpa using e1
          go_wp2_with fail
          go_ret
          have g2' : RAt wr cs' lo b 0 (markT ks k).1 := by
            have g := (show RAt wr cs' lo b 0 ((markT xs k).1 ++ []) from g2)
            rw [List.append_nil] at g
            rw [e2]; exact g
          exact ⟨by rw [e2]; rfl, .row (by intro h; exact hne (List.eq_nil_of_length_eq_zero (by rw [← markT_len ks k, h]; rfl))) (markT_len ks k).symm h2 h3 h4 g1 g2', g3⟩
        · have hlt : xs.length < ks.length := by rw [e1]; simp
          obtain ⟨m, m', s', r1, r2, r3, r4, r5, r6, r7⟩ := RAt.step (show RAt wr cs' lo b 0 ((markT xs k).1 ++ .mk n kids :: ys) from g2)
          rw [markT_len] at r4 r5 r7
          have hq := markT_num xs k
          have hsz : szT ks = szT xs + (1 + szT kids + szT ys) := by rw [e1, szT_app, szT_cons]
          generalize hqq : (markT xs k).2 = q at *
          have q0 : 0 ≤ q := by omega
          have q1 : q + 1 ≤ 9223372036854775807 := by omega
          have hq3 : q + 1 + szT kids ≤ 1000000 := by omega
          have hNk : szT kids ≤ N := by omega
          have hkl : kids.length ≤ 1000000 := by
            have := len_szT kids
            omega
          have e3 : (markT (xs ++ [.mk n kids]) k).1 = (markT xs k).1 ++ [.mk q (markT kids (q + 1)).1] := by rw [markT_app, hqq, markT_cons, markT_nil]
          have e4 : (markT (xs ++ [.mk n kids]) k).2 = (markT kids (q + 1)).2 := by
            have a1 := markT_num (xs ++ [.mk n kids]) k
            have a2 := markT_num kids (q + 1)
            rw [szT_app, szT_cons, szT_nil] at a1
            rw [a1, a2]; omega
          have g1' : wr.heap[b]? = some (.cells cs' t (0, 0)) := g1
          have hset : (wr.setCell ⟨b, xs.length * 2, none⟩ (.int .i64 q)).heap[b]? = some (.cells (cs'.setIfInBounds (2 * xs.length) (.int .i64 q)) t (0, 0)) := by
            simp [World.setCell, Array.getElem?_modify, g1', Nat.mul_comm xs.length 2]
          have hoth : ∀ j, j ≠ b → (wr.setCell ⟨b, xs.length * 2, none⟩ (.int .i64 q)).heap[j]? = wr.heap[j]? := fun j hj => by
            simp only [World.setCell, Array.getElem?_modify]
            rw [if_neg (fun e => hj e.symm)]
          have hkk := r6.keep (w' := wr.setCell ⟨b, xs.length * 2, none⟩ (.int .i64 q)) (fun j a1 a2 => hoth j (by omega))
          have e1h : Hid (ks = xs ++ .mk n kids :: ys) := e1
          clear hq e1 hsz
          have c1 : wr.cell? ⟨b, xs.length * 2, none⟩ = some (.int .i64 n) := by
            have g1' : wr.heap[b]? = some (.cells cs' t (0, 0)) := g1
            simp [World.cell?, g1', Nat.mul_comm xs.length 2, r4]
          have c2 : wr.cell? ⟨b, xs.length * 2 + 1, none⟩ = some s' := by
            have g1' : wr.heap[b]? = some (.cells cs' t (0, 0)) := g1
            simp [World.cell?, g1', Nat.mul_comm xs.length 2, r5]
          have f1 : wr.frozen? ⟨b, xs.length * 2, none⟩ = false := by
            have g1' : wr.heap[b]? = some (.cells cs' t (0, 0)) := g1
            simp [World.frozen?, g1']
          go_wp2_with (go_at_call 37; refine (ih kids m m' s' (q + 1) _ hNk hkk hkl (by omega) hq3).mono ?_)
          rintro e w2 ⟨rfl, k1, k2⟩
          go_wp2_with fail
          go_roundw
          case rel =>
            have hbs : b < (wr.setCell ⟨b, xs.length * 2, none⟩ (.int .i64 q)).heap.size := (Array.getElem?_eq_some_iff.1 hset).1
            refine ⟨xs ++ [.mk n kids], ys, cs'.setIfInBounds (2 * xs.length) (.int .i64 q), (show ks = xs ++ .mk n kids :: ys from e1h).trans (by simp), by first | go_num | (simp; done), by rw [e4], (k2.block b hbs (by omega)).trans hset, ?_, ?_⟩
            · have g := r7 _ q _ (fun j a1 a2 a3 => (k2.block j (Nat.lt_trans a2 hbs) a3).trans (hoth j (by omega))) k1
              rw [e3, List.append_assoc]; exact g
            · exact (show Kp _ w wr from g3).trans ((Kp.setCell wr ⟨b, xs.length * 2, none⟩ _ ⟨h2, h3⟩).trans (k2.mono fun j hj => ⟨by omega, by omega⟩))
          case measure => simp [intOf]; omega
end Ab

/- A contract of the frame, at any later world: what comes back is data there. -/
namespace Ab
open Go Go.Proofs
set_option maxRecDepth 10000
set_option maxHeartbeats 4000000
set_option linter.all false
open Go Go.Proofs Go.RowKit

theorem gi_start {B w : World} (h : Below B.heap.size B w) : GI B w (startG w) := ⟨h.size, h.tape, h.os, fun b hb => h.block b hb, fun _ _ => rfl⟩
theorem calls_at {P : Program} {B w : World} {f : Nat} {S : Spec} (hI : Below B.heap.size B w) (h : Valid P B f S) (hent : ∀ args w, (callFunc f args).run P w = .ok (.enter f args) w) {args : List AV} {us : List Value} {Q : AV → List Obj → Prop}
    (hv : ValL (startG w) args us) (hs : S args [] Q) :
    Calls P f us.toArray w (fun e w' => ∃ u, e = .returned u ∧ ∃ r O' g', Q r O' ∧ Val g' r u ∧ g'.imm.le (startG w').imm ∧ Below w.heap.size w w') := by
  rcases h w (startG w) [] args us Q (gi_start hI) (start_sat w) (fun k hk => absurd hk (Nat.not_lt_zero k)) hv hs with ⟨u, w', h1, _⟩ | ⟨_, h2⟩
  · rw [hent] at h1; cases h1
  · refine h2.mono ?_
    rintro e w' ⟨u, rfl, r, O', g', h1, h2, h3, h4, h5⟩
    exact ⟨u, rfl, r, O', g', h1, h2, imm_start h3 (fun _ _ _ => rfl), h5.os, h5.tape, h5.out, h5.size, fun k hk => h5.heap k hk rfl⟩
/-- data at a world is data at a later one that keeps what was there -/
theorem start_below {w w' : World} (h : Below w.heap.size w w') : (startG w).imm.le (startG w').imm := by
  refine start_start fun b c t f hb => h.block b ?_
  exact (Array.getElem?_eq_some_iff.1 hb).1
theorem start_kp {w w' : World} {S : Nat → Prop} (h : Kp S w w') {v : World} (hS : ∀ k, S k → v.heap.size ≤ k) (hv : Below v.heap.size v w) : (startG v).imm.le (startG w').imm := by
  refine start_start fun b c t f hb => ?_
  have hlt := (Array.getElem?_eq_some_iff.1 hb).1
  rw [h.block b (Nat.lt_of_lt_of_le hlt hv.size) (fun hs => absurd (hS b hs) (by omega))]
  exact hv.block b hlt
theorem Kp.below {w w' : World} {S : Nat → Prop} (h : Kp S w w') {n : Nat} (hS : ∀ k, S k → n ≤ k) (hn : n ≤ w.heap.size) : Below n w w' :=
  ⟨h.os, h.tape, h.output, h.size, fun k hk => h.block k (Nat.lt_of_lt_of_le hk hn) (fun hs => absurd (hS k hs) (by omega))⟩
end Ab
