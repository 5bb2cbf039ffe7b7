/- Laws, from a start of memory. -/
import Derived.Test.YtnhjclenankhoaaDoorBase
import Derived.ChangeSame
import Derived.RowKit3
import Derived.Shelf.Abstract
import Derived.Laws.AppendOwn
import Derived.Below
import Derived.Test.YtnhjclenankhoaaDoorV1
set_option linter.all false
namespace Ab
open Go Go.Proofs Go.ChangeShapes Go.WideShapes Go.RowKit
set_option maxRecDepth 10000
set_option linter.unusedSimpArgs false
set_option linter.unusedVariables false

/-- What is there at the start, as data. -/
def startG (W : World) : Gh :=
  { imm := fun b => match W.heap[b]? with | some (.cells c _ _) => some c.toList | _ => none, own := fun _ => none, n := 0, blk := fun _ => 0, row := fun _ => (0, .nilFunc) }

theorem start_sat (W : World) : Sat W (startG W) [] := by
  refine ⟨rfl, fun b ys hb => ?_, fun k o hk => by simp at hk, fun b k hb => by cases hb⟩
  simp only [startG] at hb
  split at hb
  · rename_i c t f h
    simp at hb; subst hb
    exact ⟨c, t, f, h, List.prefix_refl _⟩
  · cases hb

theorem start_gi (W : World) : GI W W (startG W) := ⟨Nat.le_refl _, rfl, rfl, fun _ _ => rfl, fun _ _ => rfl⟩

/-- A function's contract, from the start. -/
theorem calls_start {P : Program} {W : World} {f : Nat} {S : Spec} (h : Valid P W f S) (hent : ∀ args w, (callFunc f args).run P w = .ok (.enter f args) w) {args : List AV} {us : List Value} {Q : AV → List Obj → Prop}
    (hv : ValL (startG W) args us) (hs : S args [] Q) :
    Calls P f us.toArray W (fun e w' => ∃ u, e = .returned u ∧ ∃ r O' g', Q r O' ∧ Val g' r u ∧ Below W.heap.size W w') := by
  rcases h W (startG W) [] args us Q (start_gi W) (start_sat W) (fun k hk => absurd hk (Nat.not_lt_zero k)) hv hs with ⟨u, w', h1, _⟩ | ⟨_, h2⟩
  · rw [hent] at h1; cases h1
  · refine h2.mono ?_
    rintro e w' ⟨u, rfl, r, O', g', h1, h2, h3, h4, h5⟩
    exact ⟨u, rfl, r, O', g', h1, h2, h5.os, h5.tape, h5.out, h5.size, fun k hk => h5.heap k hk rfl⟩

theorem byteRows_map (l : List UInt8) : byteRows l = l.map fun c => [DV.i .u8 c.toNat] := by
  induction l with
  | nil => rfl
  | cons c l ih => simp [byteRows, ih]

/-- bytes that came in, as data -/
theorem bytes_in {W : World} {a : Addr} {cap : Nat} {l : List UInt8} (hc : l.length ≤ cap) (h : ∀ i (hi : i < l.length), W.cell? (a.add i) = some (.int .u8 (l[i]).toNat)) :
    Val (startG W) (.d (.sl 1 (byteRows l))) (.slice (some a) l.length cap) := by
  refine ⟨some a, cap, by rw [byteRows_len], by rw [byteRows_len]; exact hc, ?_⟩
  by_cases hl : l = []
  · left; subst hl; rfl
  · right
    have hpos : 0 < l.length := List.length_pos_iff.2 hl
    obtain ⟨b, o, spot⟩ := a
    have hspot : spot = none := by
      have := World.cell?_spot (h 0 hpos)
      simpa [Addr.add] using this
    subst hspot
    refine ⟨b, o, rfl, ?_⟩
    have key : ∀ (l' : List UInt8) (k : Nat), (∀ i (hi : i < l'.length), rd (startG W).imm b (o + k + i) = some (.int .u8 (l'[i]).toNat)) → DRows (startG W).imm 1 b (o + k) (byteRows l') := by
      intro l'
      induction l' with
      | nil => intro k _; trivial
      | cons c l' ih =>
        intro k hk
        have h0 : rd (startG W).imm b (o + k) = some (.int .u8 c.toNat) := by
          have := hk 0 (by simp)
          rw [Nat.add_zero] at this
          exact this
        refine ⟨rfl, ⟨⟨_, h0, rfl⟩, trivial⟩, ?_⟩
        have := ih (k + 1) (fun i hi => by
          have := hk (i + 1) (by simpa using hi)
          simpa [Nat.add_assoc, Nat.add_comm 1 i] using this)
        simpa [Nat.add_assoc] using this
    have := key l 0 (fun i hi => by
      have hi' := h i hi
      simp only [add_none] at hi'
      simp only [Ab.rd, startG, Nat.add_zero]
      simp only [World.cell?] at hi'
      cases hh : W.heap[b]? with
      | none => rw [hh] at hi'; simp at hi'
      | some ob =>
        rw [hh] at hi'
        cases ob with
        | cells c t f => simpa using hi'
        | _ => simp at hi')
    simpa using this

/-- laws of one row of bytes: true, whatever the bytes -/
def S_l_law : Spec := fun args O Q => ∃ (l : List UInt8), args = [.d (.sl 1 (byteRows l))] ∧ O = [] ∧ Q (.d (.b true)) []
/-- a law of bytes, at a start -/
theorem law_start {W : World} {f : Nat} {fn : Func} (hfn : PG.funcs[f]? = some fn) (hname : (fn.name == "runtime.NumGoroutine") = false) {c : Code} (hb : fn.body = some c) (hv : Valid PG W f S_l_law) {a : Option Addr} {cap : Nat} {l : List UInt8}
    (h : Val (startG W) (.d (.sl 1 (byteRows l))) (.slice a l.length cap)) :
    Calls PG f #[.slice a l.length cap] W (fun e w' => e = .returned (.bool true) ∧ Below W.heap.size W w') := by
  refine (calls_start (Q := fun r O => r = .d (.b true)) hv (fun args w => enters_of hfn hname hb args w) (args := [.d (.sl 1 (byteRows l))]) (us := [.slice a l.length cap]) ⟨h, trivial⟩ ⟨l, rfl, rfl, rfl⟩).mono ?_
  rintro e w' ⟨u, rfl, r, O', g', rfl, hv, hb⟩
  have : u = .bool true := hv
  subst this
  exact ⟨rfl, hb⟩
end Ab

/- What a step of the library, or a walk by hand, leaves as it was. -/
namespace Ab
open Go Go.Proofs
set_option maxRecDepth 10000
set_option maxHeartbeats 4000000
set_option linter.all false
open Go Go.Proofs Go.RowKit

/-! ### What is as it was -/
structure Kp (S : Nat → Prop) (w w' : World) : Prop where
  os : w'.os = w.os
  tape : w'.tape = w.tape
  output : w'.output = w.output
  size : w.heap.size ≤ w'.heap.size
  block : ∀ k, k < w.heap.size → ¬ S k → w'.heap[k]? = w.heap[k]?
theorem Kp.refl (S : Nat → Prop) (w : World) : Kp S w w := ⟨rfl, rfl, rfl, Nat.le_refl _, fun _ _ _ => rfl⟩
theorem Kp.trans {S : Nat → Prop} {a b c : World} (h : Kp S a b) (k : Kp S b c) : Kp S a c :=
  ⟨k.os.trans h.os, k.tape.trans h.tape, k.output.trans h.output, Nat.le_trans h.size k.size, fun i hi hn => (k.block i (Nat.lt_of_lt_of_le hi h.size) hn).trans (h.block i hi hn)⟩
theorem Kp.setCell {S : Nat → Prop} (w : World) (a : Addr) (u : Value) (h : S a.block) : Kp S w (w.setCell a u) := by
  refine ⟨rfl, rfl, rfl, by simp [World.setCell], fun k hk hn => ?_⟩
  have : a.block ≠ k := fun e => hn (e ▸ h)
  simp [World.setCell, Array.getElem?_modify, this]
theorem Kp.freeze {S : Nat → Prop} (w : World) (a : Addr) (n : Nat) (h : S a.block) : Kp S w (w.freeze a n) := by
  unfold World.freeze
  split
  · exact Kp.refl _ _
  refine ⟨rfl, rfl, rfl, by simp, fun k hk hn => ?_⟩
  have : a.block ≠ k := fun e => hn (e ▸ h)
  simp [Array.getElem?_modify, this]
theorem Kp.grown {S : Nat → Prop} {w w' : World} {r : Option Nat} (h : w.grownBy w' r) (hr : ∀ k, r = some k → S k) : Kp S w w' :=
  ⟨h.os, h.tape, h.output, h.size, fun k hk hn => h.block k hk (fun e => hn (hr k e.symm))⟩
theorem Kp.alloc (S : Nat → Prop) (w : World) (o : Go.Obj) : Kp S w (w.alloc o) := by
  refine ⟨rfl, rfl, rfl, by simp, fun k hk _ => ?_⟩
  show (w.heap.push o)[k]? = _
  rw [Array.getElem?_push, if_neg (by omega)]
theorem Kp.drew (S : Nat → Prop) (w : World) : Kp S w w.drew := ⟨rfl, rfl, rfl, Nat.le_refl _, fun _ _ _ => rfl⟩

theorem Kp.mono {S S' : Nat → Prop} {w w' : World} (h : Kp S w w') (hs : ∀ k, S k → S' k) : Kp S' w w' := ⟨h.os, h.tape, h.output, h.size, fun k hk hn => h.block k hk (fun hc => hn (hs k hc))⟩
end Ab

/- Trees of values, in memory that is theirs alone: what stands where, and what it is to write numbers into them. -/
namespace Ab
open Go Go.Proofs
set_option maxRecDepth 10000
set_option maxHeartbeats 4000000
set_option linter.all false
open Go Go.Proofs Go.RowKit

mutual
/-- a row of trees: its own block stands in [lo, hi), behind all that its trees hold -/
inductive KAt (w : World) : Nat → Nat → List Vl → Value → Prop where
  | nil {lo hi : Nat} {a : Option Addr} {c : Nat} : KAt w lo hi [] (.slice a 0 c)
  | row {lo hi b cap n : Nat} {t : TypeId} {cs : Array Value} {ks : List Vl} : ks ≠ [] → n = ks.length → lo ≤ b → b < hi → n ≤ cap → w.heap[b]? = some (.cells cs t (0, 0)) → RAt w cs lo b 0 ks → KAt w lo hi ks (.slice (some ⟨b, 0, none⟩) n cap)
/-- the trees of a row, by its cells: what they hold stands in [lo, hi), one behind the other -/
inductive RAt (w : World) : Array Value → Nat → Nat → Nat → List Vl → Prop where
  | nil {cs : Array Value} {lo hi off : Nat} : lo ≤ hi → RAt w cs lo hi off []
  | cons {cs : Array Value} {lo m hi off : Nat} {n : Int} {s : Value} {kids ks : List Vl} : cs[off]? = some (.int .i64 n) → cs[off + 1]? = some s → lo ≤ m → KAt w lo m kids s → RAt w cs m hi (off + 2) ks → RAt w cs lo hi off (.mk n kids :: ks)
end
theorem RAt.le {w : World} : ∀ {cs : Array Value} {lo hi off : Nat} {ks : List Vl}, RAt w cs lo hi off ks → lo ≤ hi
  | _, _, _, _, _, .nil h => h
  | _, _, _, _, _, .cons _ _ h1 _ h2 => Nat.le_trans h1 h2.le
mutual
theorem KAt.keep {w w' : World} : ∀ {lo hi : Nat} {ks : List Vl} {s : Value}, KAt w lo hi ks s → (∀ j, lo ≤ j → j < hi → w'.heap[j]? = w.heap[j]?) → KAt w' lo hi ks s
  | _, _, _, _, .nil, _ => .nil
  | _, _, _, _, .row h0 hn h1 h2 h3 h4 h5, h => .row h0 hn h1 h2 h3 ((h _ h1 h2).trans h4) (RAt.keep h5 (fun j q1 q2 => h j q1 (by omega)))
theorem RAt.keep {w w' : World} : ∀ {cs : Array Value} {lo hi off : Nat} {ks : List Vl}, RAt w cs lo hi off ks → (∀ j, lo ≤ j → j < hi → w'.heap[j]? = w.heap[j]?) → RAt w' cs lo hi off ks
  | _, _, _, _, _, .nil h, _ => .nil h
  | _, _, _, _, _, .cons h1 h2 h3 h4 h5, h => .cons h1 h2 h3 (KAt.keep h4 (fun j q1 q2 => h j q1 (by have := h5.le; omega))) (RAt.keep h5 (fun j q1 q2 => h j (by omega) q2))
end
/-- other cells may be what they are -/
theorem RAt.cells {w : World} : ∀ {cs cs' : Array Value} {lo hi off : Nat} {ks : List Vl}, RAt w cs lo hi off ks → (∀ j, off ≤ j → j < off + 2 * ks.length → cs'[j]? = cs[j]?) → RAt w cs' lo hi off ks
  | _, _, _, _, _, _, .nil h, _ => .nil h
  | _, _, _, _, _, _, .cons h1 h2 h3 h4 h5, h => .cons ((h _ (Nat.le_refl _) (by simp only [List.length_cons]; omega)).trans h1) ((h _ (by omega) (by simp only [List.length_cons]; omega)).trans h2) h3 h4 (RAt.cells h5 (fun j hj hj2 => h j (by omega) (by simp only [List.length_cons]; omega)))
/-- the numbers that marking gives: each tree's own, then its kids' -/
def markT : List Vl → Int → List Vl × Int
  | [], k => ([], k)
  | .mk _ kids :: ks, k =>
    let a := markT kids (k + 1)
    let b := markT ks a.2
    (.mk k a.1 :: b.1, b.2)
theorem markT_nil (k : Int) : markT [] k = ([], k) := by rw [markT]
theorem markT_cons (n : Int) (kids ks : List Vl) (k : Int) : markT (.mk n kids :: ks) k = (.mk k (markT kids (k + 1)).1 :: (markT ks (markT kids (k + 1)).2).1, (markT ks (markT kids (k + 1)).2).2) := by rw [markT]
theorem markT_len : ∀ (ks : List Vl) (k : Int), (markT ks k).1.length = ks.length
  | [], k => by rw [markT_nil]
  | .mk n kids :: ks, k => by rw [markT_cons]; simp [markT_len ks]
mutual
theorem KAt.wide {w : World} : ∀ {lo lo' hi hi' : Nat} {ks : List Vl} {s : Value}, KAt w lo hi ks s → lo' ≤ lo → hi ≤ hi' → KAt w lo' hi' ks s
  | _, _, _, _, _, _, .nil, _, _ => .nil
  | _, _, _, _, _, _, .row h0 hn h1 h2 h3 h4 h5, q1, q2 => .row h0 hn (by omega) (by omega) h3 h4 (RAt.wide h5 q1)
theorem RAt.wide {w : World} : ∀ {cs : Array Value} {lo lo' hi off : Nat} {ks : List Vl}, RAt w cs lo hi off ks → lo' ≤ lo → RAt w cs lo' hi off ks
  | _, _, _, _, _, _, .nil h, q => .nil (by omega)
  | _, _, _, _, _, _, .cons h1 h2 h3 h4 h5, q => .cons h1 h2 (by omega) (KAt.wide h4 q (Nat.le_refl _)) h5
end
theorem RAt.app {w : World} : ∀ {xs ys : List Vl} {cs : Array Value} {lo hi off : Nat}, RAt w cs lo hi off (xs ++ ys) → ∃ m, RAt w cs lo m off xs ∧ RAt w cs m hi (off + 2 * xs.length) ys
  | [], ys, cs, lo, hi, off, h => ⟨lo, .nil (Nat.le_refl _), by simpa using h⟩
  | .mk n kids :: xs, ys, cs, lo, hi, off, h => by
    cases h with
    | cons h1 h2 h3 h4 h5 =>
      obtain ⟨m, q1, q2⟩ := RAt.app h5
      refine ⟨m, .cons h1 h2 h3 h4 q1, ?_⟩
      have e : off + 2 + 2 * xs.length = off + 2 * (Vl.mk n kids :: xs).length := by simp; omega
      rw [← e]; exact q2
theorem RAt.join {w : World} : ∀ {xs ys : List Vl} {cs : Array Value} {lo m hi off : Nat}, RAt w cs lo m off xs → RAt w cs m hi (off + 2 * xs.length) ys → RAt w cs lo hi off (xs ++ ys)
  | [], ys, cs, lo, m, hi, off, .nil h, h' => by simpa using h'.wide h
  | .mk n kids :: xs, ys, cs, lo, m, hi, off, .cons h1 h2 h3 h4 h5, h' => by
    refine .cons h1 h2 h3 h4 (RAt.join h5 ?_)
    have e : off + 2 + 2 * xs.length = off + 2 * (Vl.mk n kids :: xs).length := by simp; omega
    rw [e]; exact h'
/-- one tree of a row: where it stands, and what the row is when its number and what it holds are others -/
theorem RAt.step {w : World} {cs : Array Value} {lo b : Nat} {xs ys kids : List Vl} {n : Int} (h : RAt w cs lo b 0 (xs ++ .mk n kids :: ys)) :
    ∃ m m' s, lo ≤ m ∧ m ≤ m' ∧ m' ≤ b ∧ cs[2 * xs.length]? = some (.int .i64 n) ∧ cs[2 * xs.length + 1]? = some s ∧ KAt w m m' kids s ∧
      ∀ (w' : World) (k : Int) (kids' : List Vl), (∀ j, lo ≤ j → j < b → ¬ (m ≤ j ∧ j < m') → w'.heap[j]? = w.heap[j]?) → KAt w' m m' kids' s →
        RAt w' (cs.setIfInBounds (2 * xs.length) (.int .i64 k)) lo b 0 (xs ++ .mk k kids' :: ys) := by
  obtain ⟨m, q1, q2⟩ := RAt.app h
  rw [Nat.zero_add] at q2
  cases q2 with
  | @cons _ _ m' _ _ _ s _ _ h1 h2 h3 h4 h5 =>
    have hm := q1.le
    have hb := h5.le
    refine ⟨m, m', s, hm, h3, hb, h1, h2, h4, fun w' k kids' hk hK => ?_⟩
    have hsz : 2 * xs.length < cs.size := by
      rcases Nat.lt_or_ge (2 * xs.length) cs.size with h' | h'
      · exact h'
      · rw [Array.getElem?_eq_none h'] at h1; cases h1
    have hset : ∀ j, j ≠ 2 * xs.length → (cs.setIfInBounds (2 * xs.length) (.int .i64 k))[j]? = cs[j]? := fun j hj => by
      rw [Array.getElem?_setIfInBounds_ne (fun e => hj e.symm)]
    refine RAt.join (m := m) ((q1.keep (fun j a1 a2 => hk j a1 (by omega) (by omega))).cells (fun j a1 a2 => hset j (by omega))) ?_
    rw [Nat.zero_add]
    refine .cons ?_ ((hset _ (by omega)).trans h2) h3 hK ((h5.keep (fun j a1 a2 => hk j (by omega) a2 (by omega))).cells (fun j a1 a2 => hset j (by omega)))
    rw [Array.getElem?_setIfInBounds_self_of_lt hsz]
end Ab

/- Trees in memory of their own, read as data; data behind a call, as data from a new start. -/
namespace Ab
open Go Go.Proofs
set_option maxRecDepth 10000
set_option maxHeartbeats 4000000
set_option linter.all false
open Go Go.Proofs Go.RowKit

theorem dVl_eq2 (n : Int) (ks : List Vl) : dVl (.mk n ks) = [.i .i64 n, .sl 2 (ks.map dVl)] := by rw [dVl]
theorem start_rd {w : World} {b j : Nat} {cs : Array Value} {t : TypeId} {fz : Nat × Nat} {u : Value} (h : w.heap[b]? = some (.cells cs t fz)) (hc : cs[j]? = some u) : rd (startG w).imm b j = some u := by
  simp only [rd, startG, h, Option.bind_some]
  simpa using hc
mutual
/-- a row of trees is data -/
theorem KAt.data {w : World} : ∀ {lo hi : Nat} {ks : List Vl} {s : Value}, KAt w lo hi ks s → DVal (startG w).imm (.sl 2 (ks.map dVl)) s
  | _, _, _, _, .nil => ⟨_, _, rfl, by simp, .inl rfl⟩
  | _, _, _, _, .row (b := b) (cap := cap) h0 hn h1 h2 h3 h4 h5 => by
    subst hn
    exact ⟨some ⟨b, 0, none⟩, cap, by rw [List.length_map], by rw [List.length_map]; exact h3, .inr ⟨b, 0, rfl, RAt.data h5 h4⟩⟩
theorem RAt.data {w : World} : ∀ {cs : Array Value} {lo hi off b : Nat} {t : TypeId} {fz : Nat × Nat} {ks : List Vl}, RAt w cs lo hi off ks → w.heap[b]? = some (.cells cs t fz) → DRows (startG w).imm 2 b off (ks.map dVl)
  | _, _, _, _, _, _, _, _, .nil _, _ => trivial
  | _, _, _, off, _, _, _, _, .cons (n := n) (kids := kids) (ks := ks) h1 h2 h3 h4 h5, h => by
    rw [List.map_cons, dVl_eq2]
    exact ⟨rfl, ⟨⟨_, start_rd h h1, rfl⟩, ⟨_, start_rd h h2, KAt.data h4⟩, trivial⟩, RAt.data h5 h⟩
end
/-- what was data stays data, seen from a new start, if its blocks are as they were -/
theorem imm_start {w w' : World} {g : Gh} {O : List Obj} (hS : Sat w g O) (hk : ∀ b ys, g.imm b = some ys → w'.heap[b]? = w.heap[b]?) : g.imm.le (startG w').imm := by
  intro b ys hb
  obtain ⟨c, t, f, h1, h2⟩ := hS.imm b ys hb
  obtain ⟨zs, hz⟩ := h2
  refine ⟨zs, ?_⟩
  simp only [startG]
  rw [hk b ys hb, h1]
  simp [hz]
theorem start_start {w w' : World} (hk : ∀ (b : Nat) (c : Array Value) (t : TypeId) (f : Nat × Nat), w.heap[b]? = some (Go.Obj.cells c t f) → w'.heap[b]? = w.heap[b]?) : (startG w).imm.le (startG w').imm := by
  intro b ys hb
  refine ⟨[], ?_⟩
  simp only [startG] at hb ⊢
  split at hb
  · rename_i c t f h
    simp at hb; subst hb
    rw [hk b c t f h, h]; simp
  · cases hb
end Ab
