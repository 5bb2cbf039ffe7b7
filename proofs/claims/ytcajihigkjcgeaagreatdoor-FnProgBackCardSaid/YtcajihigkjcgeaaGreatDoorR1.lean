/- A program's text as lines of words: plain laws of cutting and splitting. -/
import Derived.Test.YtcajihigkjcgeaaGreatDoorW4
import Derived.Lib.Split
import Derived.Lib.Join
set_option linter.all false
namespace Ab
open Go Go.Proofs
set_option maxRecDepth 10000
set_option maxHeartbeats 4000000
set_option linter.all false

/-! ### Texts that are cut at one byte -/
theorem join_cons2 (x y : Bs) (l : List Bs) (p : Bs) : Lib.join (x :: y :: l) p = x ++ p ++ Lib.join (y :: l) p := by
  simp [Lib.join, List.intercalate, List.intersperse]
theorem join_app : ∀ {a b : List Bs} {p : Bs}, a ≠ [] → b ≠ [] → Lib.join (a ++ b) p = Lib.join a p ++ p ++ Lib.join b p
  | [], _, _, h, _ => absurd rfl h
  | [x], y :: b, p, _, _ => by rw [Lib.join_one]; exact join_cons2 x y b p
  | x :: y :: a, b, p, _, hb => by
    have ih := join_app (a := y :: a) (b := b) (p := p) (by simp) hb
    rw [List.cons_append, List.cons_append, join_cons2, join_cons2, ← List.cons_append, ih]; simp
theorem index_hit {c : UInt8} {r : Bs} : ∀ {x : Bs}, c ∉ x → Lib.index (x ++ c :: r) [c] = x.length
  | [], _ => by simp [Lib.index, List.isPrefixOf]
  | b :: x, h => by
    have h1 : c ≠ b := fun e => h (by simp [e])
    have h2 : c ∉ x := fun e => h (by simp [e])
    have ih := index_hit (r := r) h2
    rw [List.cons_append, Lib.index, ih, if_neg (by simp [List.isPrefixOf, h1]), if_neg (by simp <;> omega)]
    simp
theorem index_miss {c : UInt8} : ∀ {x : Bs}, c ∉ x → Lib.index x [c] = -1
  | [], _ => by simp [Lib.index]
  | b :: x, h => by
    have h1 : c ≠ b := fun e => h (by simp [e])
    have h2 : c ∉ x := fun e => h (by simp [e])
    have ih := index_miss h2
    rw [Lib.index, ih, if_neg (by simp [List.isPrefixOf, h1]), if_pos (by simp)]
theorem cut_hit {c : UInt8} {x r : Bs} (h : c ∉ x) : Lib.cut (x ++ c :: r) [c] = (x, r, true) := by
  rw [Lib.cut, index_hit h, if_pos (by omega)]
  have e : ((x.length : Int)).toNat = x.length := by omega
  rw [e, List.take_left']
  · simp
  · rfl
theorem cut_miss {c : UInt8} {x : Bs} (h : c ∉ x) : Lib.cut x [c] = (x, [], false) := by
  rw [Lib.cut, index_miss h, if_neg (by omega)]
theorem split_join {c : UInt8} : ∀ {l : List Bs}, l ≠ [] → (∀ x ∈ l, c ∉ x) → Lib.split (Lib.join l [c]) [c] = l ∧ Lib.count (Lib.join l [c]) [c] + 1 = l.length
  | [], h, _ => absurd rfl h
  | [x], _, h => by
    have hx := index_miss (h x (by simp))
    rw [Lib.join_one, Lib.split, Lib.count_miss hx]; exact ⟨rfl, rfl⟩
  | x :: y :: l, _, h => by
    have hx := index_hit (r := Lib.join (y :: l) [c]) (h x (by simp))
    obtain ⟨i1, i2⟩ := split_join (l := y :: l) (by simp) (fun z hz => h z (List.mem_cons_of_mem _ hz))
    have e : Lib.join (x :: y :: l) [c] = x ++ c :: Lib.join (y :: l) [c] := by rw [join_cons2]; simp
    have hd : (x ++ c :: Lib.join (y :: l) [c]).drop (x.length + [c].length) = Lib.join (y :: l) [c] := by
      rw [List.drop_append]; simp
    have hc := Lib.count_hit (by simp) hx
    rw [hd] at hc
    rw [e, Lib.split, hc]
    refine ⟨?_, by simp only [List.length_cons] at i2 ⊢; omega⟩
    rw [Nat.add_comm, Lib.splitK, hx, if_neg (by simp <;> omega)]
    have e2 : ((x.length : Int)).toNat = x.length := by omega
    rw [e2, hd]
    have : Lib.splitK [c] 0 (Lib.count (Lib.join (y :: l) [c]) [c]) (Lib.join (y :: l) [c]) = y :: l := i1
    rw [this]; simp

/-! ### Words -/
/-- a word: no blank, no line's end -/
def wd (x : Bs) : Prop := ∀ c ∈ x, 33 ≤ c.toNat
theorem wd.no32 {x : Bs} (h : wd x) : (32 : UInt8) ∉ x := fun hc => by have := h _ hc; simp at this
theorem wd.no10 {x : Bs} (h : wd x) : (10 : UInt8) ∉ x := fun hc => by have := h _ hc; simp at this
theorem wd.app {x y : Bs} (h : wd x) (h' : wd y) : wd (x ++ y) := fun c hc => by
  rcases List.mem_append.1 hc with hc | hc
  · exact h c hc
  · exact h' c hc
theorem dig_dec : ∀ (u : Nat), ∀ c ∈ Lib.decDigits u, 48 ≤ c.toNat ∧ c.toNat ≤ 57
  | u, c, hc => by
    rw [Lib.decDigits] at hc
    split at hc
    · have := digit_val u (by omega)
      simp only [List.mem_singleton] at hc
      subst hc; omega
    · rename_i hu
      rcases List.mem_append.1 hc with hc | hc
      · exact dig_dec (u / 10) c hc
      · have := digit_val (u % 10) (by omega)
        simp only [List.mem_singleton] at hc
        subst hc; omega
termination_by u => u
theorem wd_dec (n : Int) : wd (dec n) := fun c hc => by have := dig_dec _ c hc; omega
theorem dot_dec (n : Int) : (46 : UInt8) ∉ dec n := fun hc => by have := dig_dec _ _ hc; simp at this
theorem name_chars {n : Bs} (h : nameOk n = true) : ∀ c ∈ n, 97 ≤ c.toNat ∧ c.toNat ≤ 122 := fun c hc => by
  simp only [nameOk, Bool.and_eq_true, List.all_eq_true, cIn, decide_eq_true_eq] at h
  exact h.2 c hc
theorem wd_name {n : Bs} (h : nameOk n = true) : wd n := fun c hc => by have := name_chars h c hc; omega
theorem dot_name {n : Bs} (h : nameOk n = true) : (46 : UInt8) ∉ n := fun hc => by have := name_chars h _ hc; simp at this
theorem plOk_nm {p : Pl} (h : plOk p = true) : nameOk p.name = true := by
  simp only [plOk, Bool.and_eq_true] at h; exact h.1
theorem wd_path : ∀ p : List Int, wd (pathS p)
  | [] => fun c hc => by simp [pathS] at hc
  | x :: p => by
    have h1 := wd_path p
    have h2 := wd_dec x
    intro c hc
    simp only [pathS, List.map_cons, List.flatten_cons, List.cons_append, List.mem_cons, List.mem_append] at hc
    rcases hc with rfl | hc | hc
    · decide
    · exact h2 c hc
    · exact h1 c hc
theorem wd_at {p : Pl} (h : plOk p = true) : wd (atS p) := (wd_name (plOk_nm h)).app (wd_path _)
theorem wd_ty : ∀ (n : Nat) (t : Ty), wd (tyS n t)
  | 0, t => fun c hc => by simp [tyS] at hc
  | n + 1, ⟨ks⟩ => by
    have ih := fun t => wd_ty n t
    intro c hc
    simp only [tyS] at hc
    split at hc
    · rename_i a b
      simp only [List.mem_append, List.mem_cons, List.not_mem_nil, or_false] at hc
      rcases hc with (((rfl | hc) | rfl) | hc) | rfl
      · decide
      · exact ih _ c hc
      · decide
      · exact ih _ c hc
      · decide
    · simp only [List.mem_cons, List.not_mem_nil, or_false] at hc
      subst hc; decide
theorem wd_sign (k : Int) : wd (sign k) := by
  unfold sign
  intro c hc
  (repeat' split at hc) <;> · simp only [List.mem_singleton] at hc; subst hc; decide

/-- a line's words -/
def goodL (ws : List Bs) : Prop := ws ≠ [] ∧ ∀ w ∈ ws, wd w
abbrev lineT (ws : List Bs) : Bs := Lib.join ws [32]
def linesT (wl : List (List Bs)) : Bs := (wl.map fun ws => lineT ws ++ [10]).flatten
theorem linesT_app (a b : List (List Bs)) : linesT (a ++ b) = linesT a ++ linesT b := by simp [linesT]
theorem linesT_one (a : List Bs) : linesT [a] = lineT a ++ [10] := by simp [linesT]
theorem linesT_flat (l : List (List (List Bs))) : linesT l.flatten = (l.map linesT).flatten := by
  induction l with
  | nil => rfl
  | cons a l ih => rw [List.flatten_cons, linesT_app, ih]; simp
theorem goodL.split {ws : List Bs} (h : goodL ws) : Lib.split (lineT ws) [32] = ws ∧ Lib.count (lineT ws) [32] + 1 = ws.length :=
  split_join h.1 (fun x hx => (h.2 x hx).no32)
theorem goodL.no10 : ∀ {ws : List Bs}, goodL ws → (10 : UInt8) ∉ lineT ws
  | [], h => absurd rfl h.1
  | [x], h => by rw [lineT, Lib.join_one]; exact (h.2 x (by simp)).no10
  | x :: y :: l, h => by
    have i := goodL.no10 (ws := y :: l) ⟨by simp, fun w hw => h.2 w (List.mem_cons_of_mem _ hw)⟩
    have j := (h.2 x (by simp)).no10
    rw [lineT, join_cons2]
    simp only [List.mem_append, List.mem_singleton, not_or]
    exact ⟨⟨j, by decide⟩, i⟩
theorem linesT_join : ∀ {wl : List (List Bs)}, wl ≠ [] → linesT wl = Lib.join (wl.map lineT) [10] ++ [10]
  | [], h => absurd rfl h
  | [a], _ => by simp [linesT, Lib.join_one]
  | a :: b :: wl, _ => by
    have ih := linesT_join (wl := b :: wl) (by simp)
    have : linesT (a :: b :: wl) = lineT a ++ [10] ++ linesT (b :: wl) := by simp [linesT]
    have e : (a :: b :: wl).map lineT = lineT a :: lineT b :: wl.map lineT := rfl
    rw [this, ih, e, join_cons2, List.map_cons]; simp
theorem lines_split {wl : List (List Bs)} (h0 : wl ≠ []) (h : ∀ ws ∈ wl, goodL ws) : Lib.split (Lib.join (wl.map lineT) [10]) [10] = wl.map lineT ∧ Lib.count (Lib.join (wl.map lineT) [10]) [10] + 1 = wl.length := by
  have := split_join (c := 10) (l := wl.map lineT) (by simpa using h0) (fun x hx => by
    obtain ⟨ws, hw, rfl⟩ := List.mem_map.1 hx
    exact (h ws hw).no10)
  simpa using this
theorem trim_lines {wl : List (List Bs)} (h0 : wl ≠ []) : Lib.trimSuffix (linesT wl) [10] = Lib.join (wl.map lineT) [10] := by
  rw [linesT_join h0, Lib.trimSuffix, if_pos (by simp [Lib.hasSuffix])]
  simp
theorem first_cut {w : Bs} {ws : List Bs} (h : wd w) : (Lib.cut (lineT (w :: ws)) [32]).1 = w := by
  cases ws with
  | nil => rw [lineT, Lib.join_one, cut_miss h.no32]
  | cons y l =>
    have : Lib.join (w :: y :: l) [32] = w ++ 32 :: Lib.join (y :: l) [32] := by rw [join_cons2]; simp
    rw [lineT, this, cut_hit h.no32]

/-! ### A program's lines -/
def wSay : Nat → Xp → List Bs
  | 0, _ => []
  | n + 1, .mk k m p ks => if k = 1 then [dec m] else if k = 2 then [64 :: atS p] else match ks with
    | [a, b] => sign k :: (wSay n a ++ wSay n b)
    | _ => []
theorem wSay_1 (n : Nat) (m : Int) (p : Pl) (ks : List Xp) : wSay (n + 1) (.mk 1 m p ks) = [dec m] := by simp [wSay]
theorem wSay_2 (n : Nat) (m : Int) (p : Pl) (ks : List Xp) : wSay (n + 1) (.mk 2 m p ks) = [64 :: atS p] := by simp [wSay]
theorem wSay_3 (n : Nat) {k : Int} (m : Int) (p : Pl) (a b : Xp) (h1 : 3 ≤ k) : wSay (n + 1) (.mk k m p [a, b]) = sign k :: (wSay n a ++ wSay n b) := by
  rw [wSay, if_neg (by omega), if_neg (by omega)]
theorem wSay_ok : ∀ {n : Nat} {x : Xp}, XpF n x → goodL (wSay n x) ∧ sayS n x = lineT (wSay n x) := by
  intro n x h
  induction h with
  | num h1 h2 => rw [wSay_1, sayS_1]; exact ⟨⟨by simp, fun w hw => by simp at hw; subst hw; exact wd_dec _⟩, by rw [lineT, Lib.join_one]⟩
  | @read n p h => rw [wSay_2, sayS_2]; exact ⟨⟨by simp, fun w hw => by simp only [List.mem_singleton] at hw; subst hw; exact wd.app (x := [64]) (by intro c hc; simp at hc; subst hc; decide) (wd_at h)⟩, by rw [lineT, Lib.join_one]⟩
  | @two n k a b h1 h2 _ _ ia ib =>
    rw [wSay_3 _ _ _ _ _ h1, sayS_3 _ _ _ _ _ h1]
    refine ⟨⟨by simp, fun w hw => ?_⟩, ?_⟩
    · rcases List.mem_cons.1 hw with rfl | hw
      · exact wd_sign _
      · rcases List.mem_append.1 hw with hw | hw
        · exact ia.1.2 w hw
        · exact ib.1.2 w hw
    · have e : sign k :: (wSay n a ++ wSay n b) = [sign k] ++ wSay n a ++ wSay n b := by simp
      rw [e, lineT, join_app (by simp) ib.1.1, join_app (by simp) ia.1.1, Lib.join_one, ia.2, ib.2]
def wArg (a : Ar) : List Bs := bif a.lent then [[116, 111], atS a.pl] else [111, 102] :: wSay 4 a.ex
def wArgs (l : List Ar) : List Bs := (l.map wArg).flatten
theorem wd_lit {l : Bs} (h : l.all (fun c => decide (33 ≤ c.toNat)) = true) : wd l := fun c hc => by
  have := List.all_eq_true.1 h c hc
  simpa using this
theorem wArg_ok {a : Ar} (h : ArF a) : goodL (wArg a) ∧ argS a = 32 :: lineT (wArg a) := by
  cases h with
  | @lent p h =>
    refine ⟨⟨by simp [wArg], fun w hw => ?_⟩, ?_⟩
    · simp only [wArg, cond_true, List.mem_cons, List.not_mem_nil, or_false] at hw
      rcases hw with rfl | rfl
      · exact wd_lit rfl
      · exact wd_at h
    · simp [argS, wArg, lineT, join_cons2, Lib.join_one]
  | @own x h =>
    obtain ⟨g, e⟩ := wSay_ok h
    refine ⟨⟨by simp [wArg], fun w hw => ?_⟩, ?_⟩
    · simp only [wArg, cond_false, List.mem_cons] at hw
      rcases hw with rfl | hw
      · exact wd_lit rfl
      · exact g.2 w hw
    · have e2 : ([111, 102] : Bs) :: wSay 4 x = [[111, 102]] ++ wSay 4 x := rfl
      simp only [argS, wArg, cond_false]
      rw [e2, lineT, join_app (by simp) g.1, Lib.join_one, e]; simp
theorem wArgs_ok : ∀ {l : List Ar}, (∀ a ∈ l, ArF a) → (∀ w ∈ wArgs l, wd w) ∧ ∀ {x : List Bs}, x ≠ [] → lineT x ++ argsS l = lineT (x ++ wArgs l)
  | [], _ => ⟨fun w hw => by simp [wArgs] at hw, fun {x} _ => by simp [argsS, wArgs]⟩
  | a :: l, h => by
    obtain ⟨g, e⟩ := wArg_ok (h a (by simp))
    obtain ⟨g', e'⟩ := wArgs_ok (l := l) (fun b hb => h b (List.mem_cons_of_mem _ hb))
    have u : wArgs (a :: l) = wArg a ++ wArgs l := by simp [wArgs]
    refine ⟨fun w hw => ?_, fun {x} hx => ?_⟩
    · rw [u] at hw
      rcases List.mem_append.1 hw with hw | hw
      · exact g.2 w hw
      · exact g' w hw
    · have v : argsS (a :: l) = argS a ++ argsS l := by simp [argsS]
      have i := e' (x := x ++ wArg a) (by simp [hx])
      rw [u, v, e, ← List.append_assoc, ← List.append_assoc, ← i]
      have j : lineT (x ++ wArg a) = lineT x ++ [32] ++ lineT (wArg a) := join_app hx g.1
      rw [j]; simp
abbrev kLet : Bs := [108, 101, 116]
abbrev kLend : Bs := [108, 101, 110, 100]
abbrev kSet : Bs := [115, 101, 116]
abbrev kCall : Bs := [99, 97, 108, 108]
abbrev kIf : Bs := [105, 102]
abbrev kPick : Bs := [112, 105, 99, 107]
abbrev kElse : Bs := [101, 108, 115, 101]
abbrev kEnd : Bs := [101, 110, 100]
def wLine : Nat → St → List (List Bs)
  | 0, _ => []
  | d + 1, .mk k n p o x f ar t e =>
    if k = 1 then [kLet :: n :: wSay 4 x]
    else if k = 2 then [[kLend, n, atS p]]
    else if k = 6 then [kPick :: n :: atS p :: atS o :: wSay 4 x]
    else if k = 3 then [kSet :: atS p :: wSay 4 x]
    else if k = 4 then [kCall :: n :: f :: wArgs ar]
    else (kIf :: wSay 4 x) :: ((t.map (wLine d)).flatten ++ [kElse] :: ((e.map (wLine d)).flatten ++ [[kEnd]]))
def wLines (d : Nat) (l : List St) : List (List Bs) := (l.map (wLine d)).flatten
theorem wLines_text {d : Nat} (hs : ∀ {s : St}, StF d s → (∀ ws ∈ wLine d s, goodL ws) ∧ lineS d s = linesT (wLine d s)) : ∀ {l : List St}, (∀ s ∈ l, StF d s) → (∀ ws ∈ (l.map (wLine d)).flatten, goodL ws) ∧ (l.map (lineS d)).flatten = linesT (l.map (wLine d)).flatten
  | [], _ => ⟨fun ws h => by simp at h, rfl⟩
  | s :: l, h => by
    obtain ⟨g, e⟩ := hs (h s (by simp))
    obtain ⟨g', e'⟩ := wLines_text hs (l := l) (fun b hb => h b (List.mem_cons_of_mem _ hb))
    simp only [List.map_cons, List.flatten_cons, List.mem_append, linesT_app]
    exact ⟨fun ws hw => hw.elim (g ws) (g' ws), by rw [e, e']⟩
theorem line1 {a b : Bs} {l : List Bs} (h : l ≠ []) : lineT (a :: b :: l) = a ++ [32] ++ b ++ [32] ++ lineT l := by
  have : a :: b :: l = [a, b] ++ l := rfl
  rw [this, lineT, join_app (by simp) h, join_cons2, Lib.join_one]
theorem good1 {w : Bs} {ws : List Bs} (h : wd w) (h' : ∀ x ∈ ws, wd x) : goodL (w :: ws) := ⟨by simp, fun x hx => by
  rcases List.mem_cons.1 hx with rfl | hx
  · exact h
  · exact h' x hx⟩
theorem all1 {w : Bs} {ws : List Bs} (h : wd w) (h' : ∀ x ∈ ws, wd x) : ∀ x ∈ w :: ws, wd x := (good1 h h').2
theorem all0 : ∀ x ∈ ([] : List Bs), wd x := fun x h => by simp at h
theorem wLine_text : ∀ {d : Nat} {s : St}, StF d s → (∀ ws ∈ wLine d s, goodL ws) ∧ lineS d s = linesT (wLine d s) := by
  intro d
  induction d with
  | zero => intro s h; cases h
  | succ d ih =>
    intro s h
    cases h with
    | @let_ _ n x h1 h2 =>
      obtain ⟨g, e⟩ := wSay_ok h2
      simp only [wLine, lineS, if_pos, List.mem_singleton, forall_eq]
      exact ⟨good1 (wd_lit rfl) (all1 (wd_name h1) g.2), by rw [linesT_one, line1 g.1, e]; simp⟩
    | @lend _ n p h1 h2 =>
      simp only [wLine, lineS, if_pos, if_neg, Int.reduceEq, List.mem_singleton, forall_eq, not_false_eq_true]
      exact ⟨good1 (wd_lit rfl) (all1 (wd_name h1) (all1 (wd_at h2) all0)), by rw [linesT_one, line1 (by simp), lineT, Lib.join_one]; simp⟩
    | @set _ p x h1 h2 =>
      obtain ⟨g, e⟩ := wSay_ok h2
      simp only [wLine, lineS, if_pos, if_neg, Int.reduceEq, List.mem_singleton, forall_eq, not_false_eq_true]
      exact ⟨good1 (wd_lit rfl) (all1 (wd_at h1) g.2), by rw [linesT_one, line1 g.1, e]; simp⟩
    | @call _ n f ar h1 h2 h3 h4 =>
      obtain ⟨g, e⟩ := wArgs_ok h4
      simp only [wLine, lineS, if_pos, if_neg, Int.reduceEq, List.mem_singleton, forall_eq, not_false_eq_true]
      refine ⟨good1 (wd_lit rfl) (all1 (wd_name h1) (all1 (wd_name h2) g)), ?_⟩
      have e2 : kCall :: n :: f :: wArgs ar = [kCall, n, f] ++ wArgs ar := rfl
      rw [linesT_one, e2, ← e (by simp), line1 (by simp), lineT, Lib.join_one]; simp
    | @ifs _ x t e h1 h2 h3 h4 h5 h6 =>
      obtain ⟨g, e1⟩ := wSay_ok h1
      obtain ⟨g2, e2⟩ := wLines_text ih h4
      obtain ⟨g3, e3⟩ := wLines_text ih h6
      simp only [wLine, lineS, if_neg, Int.reduceEq, not_false_eq_true]
      refine ⟨fun ws hw => ?_, ?_⟩
      · rcases List.mem_cons.1 hw with rfl | hw
        · exact good1 (wd_lit rfl) g.2
        rcases List.mem_append.1 hw with hw | hw
        · exact g2 ws hw
        rcases List.mem_cons.1 hw with rfl | hw
        · exact good1 (wd_lit rfl) all0
        rcases List.mem_append.1 hw with hw | hw
        · exact g3 ws hw
        · rw [List.mem_singleton.1 hw]; exact good1 (wd_lit rfl) all0
      · have u : ∀ (a : List Bs) (l : List (List Bs)), linesT (a :: l) = lineT a ++ [10] ++ linesT l := fun a l => by simp [linesT]
        have e4 : lineT (kIf :: wSay 4 x) = kIf ++ [32] ++ sayS 4 x := by
          have : kIf :: wSay 4 x = [kIf] ++ wSay 4 x := rfl
          rw [this, lineT, join_app (by simp) g.1, Lib.join_one, e1]
        rw [u, linesT_app, u, linesT_app, linesT_one, e2, e3, e4, lineT, lineT, Lib.join_one, Lib.join_one]; simp
    | @pick _ n p q x h1 h2 h3 h4 =>
      obtain ⟨g, e⟩ := wSay_ok h4
      simp only [wLine, lineS, if_pos, if_neg, Int.reduceEq, List.mem_singleton, forall_eq, not_false_eq_true]
      refine ⟨good1 (wd_lit rfl) (all1 (wd_name h1) (all1 (wd_at h2) (all1 (wd_at h3) g.2))), ?_⟩
      have e2 : kPick :: n :: atS p :: atS q :: wSay 4 x = [kPick, n] ++ (atS p :: atS q :: wSay 4 x) := rfl
      rw [linesT_one, e2, lineT, join_app (by simp) (by simp), join_cons2, Lib.join_one]
      have := line1 (a := atS p) (b := atS q) g.1
      rw [lineT] at this
      rw [this, e]; simp
def wPm (p : Pm) : List Bs := [bif p.lent then kLent else kHas, p.name, tyS 4 p.ty]
where
  kLent : Bs := [108, 101, 110, 116]
  kHas : Bs := [104, 97, 115]
def wEnd (f : Fd) : List Bs := bif f.lent then [[103, 105, 118, 101, 115], tyS 4 f.ty, atS f.gives] else [115, 97, 121, 115] :: tyS 4 f.ty :: wSay 4 f.says
def wFn (f : Fd) : List (List Bs) := [[102, 110], f.name] :: (f.params.map wPm ++ (wLines 4 f.body ++ [wEnd f]))
def wProg (p : Pr) : List (List Bs) := (p.map wFn).flatten
theorem wPms_ok : ∀ {l : List Pm}, (∀ p ∈ l, nameOk p.name = true ∧ tyOk 4 p.ty = true) → (∀ ws ∈ l.map wPm, goodL ws) ∧ pmsS l = linesT (l.map wPm)
  | [], _ => ⟨fun ws h => by simp at h, rfl⟩
  | p :: l, h => by
    obtain ⟨g, e⟩ := wPms_ok (l := l) (fun b hb => h b (List.mem_cons_of_mem _ hb))
    obtain ⟨h1, h2⟩ := h p (by simp)
    have u : pmsS (p :: l) = pmS p ++ pmsS l := by simp [pmsS]
    have v : linesT ((p :: l).map wPm) = lineT (wPm p) ++ [10] ++ linesT (l.map wPm) := by simp [linesT]
    refine ⟨fun ws hw => ?_, ?_⟩
    · rcases List.mem_cons.1 hw with rfl | hw
      · refine good1 ?_ (all1 (wd_name h1) (all1 (wd_ty _ _) all0))
        cases p.lent <;> exact wd_lit rfl
      · exact g ws hw
    · rw [u, v, e, wPm, line1 (by simp), lineT, Lib.join_one]
      cases hl : p.lent <;> simp [pmS, hl, wPm.kLent, wPm.kHas]
theorem wFn_ok {f : Fd} (h : FdF f) : (∀ ws ∈ wFn f, goodL ws) ∧ fnS f = linesT (wFn f) := by
  obtain ⟨g1, e1⟩ := wPms_ok h.params
  obtain ⟨g2, e2⟩ := wLines_text wLine_text h.body
  have g3 : goodL (wEnd f) ∧ endS f = lineT (wEnd f) ++ [10] := by
    cases hl : f.lent with
    | true =>
      obtain ⟨a, b⟩ := h.lent hl
      simp only [wEnd, endS, hl, cond_true]
      exact ⟨good1 (wd_lit rfl) (all1 (wd_ty _ _) (all1 (wd_at a) all0)), by rw [line1 (by simp), lineT, Lib.join_one]; simp⟩
    | false =>
      obtain ⟨a, b⟩ := h.own hl
      obtain ⟨g, e⟩ := wSay_ok b
      simp only [wEnd, endS, hl, cond_false]
      exact ⟨good1 (wd_lit rfl) (all1 (wd_ty _ _) g.2), by rw [line1 g.1, e]; simp⟩
  have u : ∀ (a : List Bs) (l : List (List Bs)), linesT (a :: l) = lineT a ++ [10] ++ linesT l := fun a l => by simp [linesT]
  refine ⟨fun ws hw => ?_, ?_⟩
  · rcases List.mem_cons.1 hw with rfl | hw
    · exact good1 (wd_lit rfl) (all1 (wd_name h.name) all0)
    rcases List.mem_append.1 hw with hw | hw
    · exact g1 ws hw
    rcases List.mem_append.1 hw with hw | hw
    · exact g2 ws hw
    · rw [List.mem_singleton.1 hw]; exact g3.1
  · rw [wFn, u, linesT_app, linesT_app, linesT_one, fnS, e1, g3.2]
    have e4 : lineT [[102, 110], f.name] = [102, 110] ++ [32] ++ f.name := by rw [lineT, join_cons2, Lib.join_one]
    have e5 : linesS 4 f.body = linesT (wLines 4 f.body) := e2
    rw [e4, e5]; simp
theorem wProg_ok : ∀ {p : Pr}, (∀ f ∈ p, FdF f) → (∀ ws ∈ wProg p, goodL ws) ∧ progS p = linesT (wProg p)
  | [], _ => ⟨fun ws h => by simp [wProg] at h, rfl⟩
  | f :: p, h => by
    obtain ⟨g, e⟩ := wFn_ok (h f (by simp))
    obtain ⟨g', e'⟩ := wProg_ok (p := p) (fun b hb => h b (List.mem_cons_of_mem _ hb))
    have u : wProg (f :: p) = wFn f ++ wProg p := by simp [wProg]
    have v : progS (f :: p) = fnS f ++ progS p := by simp [progS]
    rw [u, v, linesT_app, ← e, ← e']
    exact ⟨fun ws hw => (List.mem_append.1 hw).elim (g ws) (g' ws), rfl⟩
end Ab
