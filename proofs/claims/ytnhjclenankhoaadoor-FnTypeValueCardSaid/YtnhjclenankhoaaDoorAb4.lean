/- The evaluator of the frame 'Ab', its second half: what writes or makes memory, calls, regions, code. -/
import Derived.Test.YtnhjclenankhoaaDoorAb3
set_option linter.all false
namespace Ab
open Go

abbrev Spec := List AV → List Obj → (AV → List Obj → Prop) → Prop
structure FS where
  byRef : List Nat := []
  spec : Spec
abbrev Ctx := List (Nat × FS)

def cl : Ctx → Nat → Option FS
  | [], _ => none
  | (a, x) :: r, n => match Nat.beq a n with | true => some x | false => cl r n

/-! ### Forced writes -/
def stK {α : Type} : List α → Nat → α → (List α → Prop) → Prop
  | [], _, _, k => k []
  | x :: xs, n, v, k => match n with
    | 0 => k (v :: xs)
    | n + 1 => stK xs n v fun ys => k (x :: ys)

def apK {α : Type} : List α → List α → (List α → Prop) → Prop
  | [], ys, k => k ys
  | x :: xs, ys, k => apK xs ys fun zs => k (x :: zs)

def fS {α : Type} : List α → (List α → Prop) → Prop
  | [], k => k []
  | x :: xs, k => fS xs fun ys => k (x :: ys)

def putK (s : List AV) (d : Option Nat) (x : AV) (k : List AV → Prop) : Prop :=
  match d with
  | none => k s
  | some n => stK s n x k

/-! ### Calls -/
def ver (O : List Obj) (k : Nat) : Nat :=
  match nth O k .dead with
  | .row v _ _ _ => v
  | _ => 0

def good (O : List Obj) (c v : Nat) : Bool :=
  match rowOf O c v with
  | some _ => true
  | none => false

mutual
def refs (O : List Obj) : AV → List Nat
  | .row c v => match good O c v with | true => [c] | false => []
  | .ra c v _ _ _ => match good O c v with | true => [c] | false => []
  | .ptr k _ => [k]
  | .mp k => [k]
  | .agg cs => refsL O cs
  | .tup cs => refsL O cs
  | .fn _ cs => refsL O cs
  | .ifc _ x => refs O x
  | _ => []
def refsL (O : List Obj) : List AV → List Nat
  | [] => []
  | x :: xs => ap (refs O x) (refsL O xs)
end

def refsE (O : List Obj) : List (DV × List AV) → List Nat
  | [] => []
  | (_, x) :: r => ap (refsL O x) (refsE O r)

def refsO (O : List Obj) : Obj → List Nat
  | .cells cs => refsL O cs
  | .map _ es => refsE O es
  | _ => []

/-- all objects that are reached, in the order in which they are met -/
def bfs (O : List Obj) : Nat → List Nat → List Nat → List Nat
  | 0, _, seen => seen
  | _ + 1, [], seen => seen
  | n + 1, k :: q, seen => match hasN seen k with
    | true => bfs O n q seen
    | false => match Nat.blt k (ln O) with
      | true => bfs O n (ap q (refsO O (nth O k .dead))) (ap seen [k])
      | false => bfs O n q seen

def renE (R : Ren) : List (DV × List AV) → List (DV × List AV)
  | [] => []
  | (a, x) :: r => (a, renL R x) :: renE R r

def renO (R : Ren) (v : Nat) : Obj → Obj
  | .cells cs => .cells (renL R cs)
  | .row _ s z xs => .row v s z xs
  | .map t es => .map t (renE R es)
  | .dead => .dead

def mkR (O : List Obj) : List Nat → Nat → Ren
  | [], _ => []
  | k :: p, i => (k, i, ver O k, 0) :: mkR O p (i + 1)

def subO (R : Ren) (O : List Obj) : List Nat → List Obj
  | [] => []
  | k :: p => renO R 0 (nth O k .dead) :: subO R O p

/-- the callee's objects back among the caller's: number i is p[i], or a new one -/
def backV (O : List Obj) (k v : Nat) : Nat := match v with | 0 => ver O k | _ + 1 => ver O k + 1

def vO : Obj → Nat
  | .row v _ _ _ => v
  | _ => 0

def mkB (O : List Obj) (n : Nat) : List Obj → List Nat → Nat → Ren
  | [], _, _ => []
  | o :: os, [], i => (i, n, vO o, vO o) :: mkB O (n + 1) os [] (i + 1)
  | o :: os, k :: p, i => (i, k, vO o, backV O k (vO o)) :: mkB O n os p (i + 1)

def mergeO (R : Ren) (O : List Obj) : List Obj → List Nat → List Obj → List Obj
  | acc, _, [] => acc
  | acc, [], o :: os => mergeO R O (ap acc [renO R (vO o) o]) [] os
  | acc, k :: p, o :: os => mergeO R O (st acc k (renO R (backV O k (vO o)) o)) p os

/-- the arguments: rows as data, but where the callee takes them as they are -/
def frzArgs (O : List Obj) (by_ : List Nat) : List AV → Nat → List AV
  | [], _ => []
  | x :: xs, i => (match hasN by_ i with | true => x | false => frz O (fun _ => false) x) :: frzArgs O by_ xs (i + 1)

def frzRows (by_ : List Nat) : List AV → Nat → List Nat
  | [], _ => []
  | x :: xs, i => ap (match hasN by_ i with | true => [] | false => rowsIn x) (frzRows by_ xs (i + 1))

def callK (Γ : Ctx) (f : Nat) (args : List AV) (O : List Obj) (K : AV → List Obj → Prop) : Prop :=
  match cl Γ f with
  | none => False
  | some fs =>
    fOs (still O (frzRows fs.byRef args 0)) fun O1 =>
    fL (frzArgs O fs.byRef args 0) fun args1 =>
    fS (bfs O1 200 (refsL O1 args1) []) fun p =>
    fL (renL (mkR O1 p 0) args1) fun A =>
    fOs (subO (mkR O1 p 0) O1 p) fun X =>
    ∃ A' X', WkL A A' ∧ WkOs X X' ∧ fs.spec A' X' fun r Oc =>
      Req (ln p ≤ ln Oc) (
      fA (ren (mkB O1 (ln O1) Oc p 0) r) fun r' =>
      fOs (mergeO (mkB O1 (ln O1) Oc p 0) O1 O1 p Oc) fun O' =>
      K r' O')

/-! ### Operations that write or make memory -/
def isEff (τ : Tab) : Op → Bool
  | .alloc _ | .box _ _ | .buildSlice _ _ _ | .store _ _ _ => true
  | .slice t _ _ _ _ => match (tg τ t).kind with | .string => false | _ => true
  | .call c => match c.callee with | .builtin .len => false | _ => true
  | _ => false

def reps {α : Type} : Nat → α → List α
  | 0, _ => []
  | n + 1, x => x :: reps n x

def fillR (O : List Obj) (e : Operand → AV) (z : Nat) : List (List DV) → List (Nat × Operand) → Option (List (List DV))
  | rows, [] => some rows
  | rows, (i, x) :: r => match Nat.blt i (ln rows) with
    | false => none
    | true => match Nat.beq (ln (cellsA (e x))) z with
      | false => none
      | true => match dats O (cellsA (e x)) with
        | some ds => fillR O e z (st rows i ds) r
        | none => none

def rowsParts (e : Operand → AV) : List (Nat × Operand) → List Nat
  | [] => []
  | (_, x) :: r => ap (rowsIn (e x)) (rowsParts e r)

def fRows : List (List DV) → (List (List DV) → Prop) → Prop
  | [], k => k []
  | x :: xs, k => fDs x fun x' => fRows xs fun xs' => k (x' :: xs')

def byteRows : List UInt8 → List (List DV)
  | [] => []
  | c :: l => [.i .u8 c.toNat] :: byteRows l

/-- the elements of what is appended -/
def elemsOf (O : List Obj) (z : Nat) (x : AV) : Option (List (List DV)) :=
  match low x with
  | .d (.sl z' xs) => match Nat.beq z z' with | true => some xs | false => none
  | .d (.v (.slice none 0 0)) => some []
  | .row c v => match rowOf O c v with
    | some (_, z', xs) => match Nat.beq z z' with | true => some xs | false => none
    | none => none
  | _ => none

def maxRow : Nat := 68719476736

def appK (τ : Tab) (t : Nat) (s x : AV) (O : List Obj) (K : AV → List Obj → Prop) : Prop :=
  match (tg τ t).kind, (tg τ (tg τ t).elem).size with
  | .slice, _ + 1 =>
    match elemsOf O (tg τ (tg τ t).elem).size x with
    | none => False
    | some ys => match s with
      | .row c v => match rowOf O c v with
        | some (s, z, xs) => match eqz τ t z with
          | true => Req (xs.length + ys.length ≤ maxRow) (stK O c (.row (v + 1) s z (xs ++ ys)) fun O' => K (.row c (v + 1)) O')
          | false => False
        | none => False
      | .d (.sf z xs) => match eqz τ t z with
        | true => Req (0 < ys.length ∧ xs.length + ys.length ≤ maxRow) (apK O [.row 0 true z (xs ++ ys)] fun O' => K (.row (ln O) 0) O')
        | false => False
      | .d (.v (.slice none 0 0)) => Req (ys.length ≤ maxRow) (apK O [.row 0 true (tg τ (tg τ t).elem).size ys] fun O' => K (.row (ln O) 0) O')
      | _ => False
  | _, _ => False

def effK (τ : Tab) (Γ : Ctx) (o : Op) (e : Operand → AV) (O : List Obj) (K : AV → List Obj → Prop) : Prop :=
  match o with
  | .box _ x => match okCells (e x) with
    | some cs => fL cs fun cs' => apK O [.cells cs'] fun O' => K (.ptr (ln O) 0) O'
    | none => False
  | .alloc t => match (tg τ t).kind with
    | .other => False
    | _ => match ones (mp1 .d (tg τ t).zero) with
      | true => fL (mp1 .d (tg τ t).zero) fun cs => apK O [.cells cs] fun O' => K (.ptr (ln O) 0) O'
      | false => False
  | .buildSlice t n parts => match (tg τ t).kind, (tg τ (tg τ t).elem).size with
    | .slice, _ + 1 => match Nat.ble (n * (tg τ (tg τ t).elem).size) 16777216 with
      | true => match fillR O e (tg τ (tg τ t).elem).size (reps n (tg τ (tg τ t).elem).zero) parts.toList with
        | some xs => fRows xs fun xs' => fOs (still O (rowsParts e parts.toList)) fun O1 => K (.d (.sf (tg τ (tg τ t).elem).size xs')) O1 ∨ apK O1 [.row 0 true (tg τ (tg τ t).elem).size xs'] fun O' => K (.row (ln O) 0) O'
        | none => False
      | false => False
    | _, _ => False
  | .store t a x => match okCells (e x) with
    | none => False
    | some ws => match Nat.beq (ln ws) (tg τ t).size, (tg τ t).size with
      | false, _ => False
      | true, 0 => False
      | true, _ + 1 => match e a with
        | .ptr n off => match nth O n .dead with
          | .cells cs => match splice cs off ws with
            | some cs' => stK O n (.cells cs') fun O' => K .junk O'
            | none => False
          | _ => False
        | .ra c v z i off => match rowOf O c v with
          | some (true, z', xs) => match Nat.beq z z' with
            | true => match dats O ws, hasN (rowsInL ws) c with
              | some ds, false => ∃ r, xs[i]? = some r ∧ fDs r fun r' => match splice r' off ds with
                | some r2 => fOs (still O (rowsInL ws)) fun O1 => stK O1 c (.row v true z (xs.set i r2)) fun O' => K .junk O'
                | none => False
              | _, _ => False
            | false => False
          | _ => False
        | _ => False
  | .slice t x lo hi mx => match mx, (tg τ t).kind with
    | none, .slice => match low (e x) with
      | .d (.sl z xs) => match eqz τ t z with
        | true => bndK xs.length (omap e lo) (omap e hi) fun a b => K (.d (.sl z ((xs.take b).drop a))) O
        | false => False
      | .row c v => match rowOf O c v with
        | some (s, z, xs) => match eqz τ t z with
          | true => bndK xs.length (omap e lo) (omap e hi) fun a b => (fOs (still O [c]) fun O' => K (.d (.sl z ((xs.take b).drop a))) O') ∨
              (match s, lo with
               | true, none => stK O c (.row (v + 1) true z (xs.take b)) fun O' => K (.row c (v + 1)) O'
               | _, _ => False)
          | false => False
        | none => False
      | _ => False
    | _, _ => False
  | .call c => match c.callee with
    | .builtin .append => match c.args.toList, c.argTypes.toList with
      | [s, x], [t, u] => match Nat.beq t u with
        | true => appK τ t (e s) (e x) O K
        | false => False
      | _, _ => False
    | .value f => match e f with
      | .fn n caps => callK Γ n (ap (mp1 e c.args.toList) caps) O K
      | _ => False
    | _ => False
  | _ => False

def opK (τ : Tab) (Γ : Ctx) (o : Op) (e : Operand → AV) (O : List Obj) (K : AV → List Obj → Prop) : Prop :=
  match isEff τ o with
  | true => effK τ Γ o e O fun v O' => fA v fun v' => K v' O'
  | false => evK τ o e O fun v => fA v fun v' => K v' O

def upto : Nat → Nat → List Nat
  | 0, _ => []
  | n + 1, i => i :: upto n (i + 1)

/-! ### Regions -/
def noOper : Oper := { dst := none, op := .move (.const undef), type := 0, pos := "", after := #[], guard := none }

def oneB : Value → Bool
  | .bool _ => true
  | _ => false

/-- whether an operation is wanted: by what its guard's slot holds, which then is known -/
def gdK (all : List Oper) (s : List AV) (o : Oper) (k : Bool → List AV → Prop) : Prop :=
  match o.guard with
  | none => k true s
  | some (j, want) => match Nat.blt j (ln all) with
    | false => False
    | true => match (nth all j noOper).dst with
      | none => False
      | some d => match nth s d .junk with
        | .und => k false s
        | .tt => k want s
        | .ff => k (Bool.not want) s
        | .d (.b x) => Br x (stK s d .tt fun s' => k want s') (stK s d .ff fun s' => k (Bool.not want) s')
        | .d (.v u) => match oneB u with
          | true => False
          | false => k false s
        | _ => False

/- (by the list's own recursor: what is left of a region then stands in one form, for Lean and for the kernel) -/
def opsG (τ : Tab) (Γ : Ctx) (all : List Oper) (ops : List Oper) : List AV → List Obj → (List AV → List Obj → Prop) → Prop :=
  List.rec (motive := fun _ => List AV → List Obj → (List AV → List Obj → Prop) → Prop) (fun s O K => K s O)
    (fun o _ ih s O K => gdK all s o fun w s => match w with
      | true => opK τ Γ o.op (evo s) O fun v O' => putK s o.dst v fun s' => ih s' O' K
      | false => putK s o.dst .und fun s' => ih s' O K) ops
theorem opsG_nil {τ : Tab} {Γ : Ctx} {all : List Oper} {s : List AV} {O : List Obj} {K : List AV → List Obj → Prop} : opsG τ Γ all [] s O K = K s O := rfl
theorem opsG_cons {τ : Tab} {Γ : Ctx} {all : List Oper} {o : Oper} {os : List Oper} {s : List AV} {O : List Obj} {K : List AV → List Obj → Prop} :
    opsG τ Γ all (o :: os) s O K = gdK all s o fun w s => match w with
      | true => opK τ Γ o.op (evo s) O fun v O' => putK s o.dst v fun s' => opsG τ Γ all os s' O' K
      | false => putK s o.dst .und fun s' => opsG τ Γ all os s' O K := rfl

/-! ### A region that draws its order -/
def after1 (e : List Edge) : List Nat :=
  match e with
  | [] => []
  | x :: xs => match Region.binds .any x with | true => x.on :: after1 xs | false => after1 xs

def uni : List Nat → List Nat → List Nat
  | [], ys => ys
  | x :: xs, ys => match hasN ys x with | true => uni xs ys | false => uni xs (x :: ys)

/-- all that these come behind, themselves with it -/
def close (acc : List (List Nat)) : List Nat → List Nat
  | [] => []
  | j :: js => uni (j :: nth acc j []) (close acc js)

/-- of each operation, all that come ahead of it (also by way of others) -/
def preds : List Oper → List (List Nat) → List (List Nat)
  | [], acc => acc
  | o :: os, acc => preds os (ap acc [close acc (after1 o.after.toList)])

def allIn (D : List Nat) : List Nat → Bool
  | [] => true
  | j :: js => match hasN D j with | true => allIn D js | false => false

/-- the next operation: one that only reads, if there is one -/
def next1 (τ : Tab) (eff : Bool) (D : List Nat) : List Oper → List (List Nat) → Nat → Option Nat
  | o :: os, p :: ps, i => match hasN D i with
    | true => next1 τ eff D os ps (i + 1)
    | false => match allIn D p with
      | false => next1 τ eff D os ps (i + 1)
      | true => match (match isEff τ o.op with | true => eff | false => Bool.not eff) with
        | true => some i
        | false => next1 τ eff D os ps (i + 1)
  | _, _, _ => none

def mkOrd (τ : Tab) (ops : List Oper) (ps : List (List Nat)) : Nat → List Nat → List Nat
  | 0, _ => []
  | n + 1, D => match next1 τ false D ops ps 0 with
    | some i => i :: mkOrd τ ops ps n (i :: D)
    | none => match next1 τ true D ops ps 0 with
      | some i => i :: mkOrd τ ops ps n (i :: D)
      | none => []

/-- each operation once; all effects ahead of one in this order must come ahead of it anyhow; and what comes ahead of it comes ahead of it in this order -/
def ordOk (τ : Tab) (ops : List Oper) (ps : List (List Nat)) : List Nat → List Nat → List Nat → Bool
  | D, _, [] => allIn D (upto (ln ops) 0)
  | D, E, i :: r => match Nat.blt i (ln ops), hasN D i with
    | true, false => match allIn (nth ps i []) E, allIn D (nth ps i []) with
      | true, true => ordOk τ ops ps (i :: D) (match isEff τ (nth ops i noOper).op with | true => i :: E | false => E) r
      | _, _ => false
    | _, _ => false

/-- each slot is written by one operation, and is there -/
def dstOk (n : Nat) : List Oper → List Nat → Bool
  | [], _ => true
  | o :: os, T => match o.dst with
    | none => dstOk n os T
    | some d => match Nat.blt d n, hasN T d with
      | true, false => dstOk n os (d :: T)
      | _, _ => false

/-- the slots that the operations write that are not among these -/
def outs : List Oper → List Nat → Nat → List Nat
  | [], _, _ => []
  | o :: os, D, i => match o.dst with
    | none => outs os D (i + 1)
    | some d => match hasN D i with | true => outs os D (i + 1) | false => d :: outs os D (i + 1)

/-- an operand, if these slots are not known -/
def evm (M : List Nat) (s : List AV) (x : Operand) : AV :=
  match x with
  | .tmp t => match hasN M t with | true => .junk | false => nth s t .junk
  | .const v => cv v
  | .global g => .d (.v (.pointer (some ⟨g, 0, none⟩)))
  | .func f => .fn f []

def isLoad : Op → Bool
  | .load _ _ | .indexAddr _ _ _ | .convert _ _ _ | .call _ => true
  | _ => false

/-- whether an operation is wanted; what the guard's slot holds then is known; p: what comes ahead of it -/
def gdD (all : List Oper) (p : List Nat) (s : List AV) (o : Oper) (k : Bool → List AV → Prop) : Prop :=
  match o.guard with
  | none => k true s
  | some (j, want) => match Nat.blt j (ln all), hasN p j with
    | true, true => match (nth all j noOper).dst with
      | none => False
      | some d => match nth s d .junk with
        | .und => k false s
        | .tt => k want s
        | .ff => k (Bool.not want) s
        | .d (.b x) => Br x (stK s d .tt fun s' => k want s') (stK s d .ff fun s' => k (Bool.not want) s')
        | .d (.v u) => match oneB u with
          | true => False
          | false => k false s
        | _ => False
    | _, _ => False

/-- what was read reads so still -/
def again (τ : Tab) (ops : List Oper) (ps : List (List Nat)) (i : Nat) (s : List AV) (O : List Obj) (D : List Nat) (K : Prop) : Prop :=
  List.rec (motive := fun _ => Prop) K
    (fun j _ ih => match isLoad (nth ops j noOper).op, isEff τ (nth ops j noOper).op, hasN (nth ps i []) j with
      | true, false, false => match (nth ops j noOper).dst with
        | none => False
        | some d => Req (gdD ops (nth ps j []) s (nth ops j noOper) fun w s1 => match w with
            | true => fS (outs ops (nth ps j []) 0) fun M => evK τ (nth ops j noOper).op (evm M s1) O (fun v => fA v fun v' => Wk v' (nth s d .junk))
            | false => nth s d .junk = .und) ih
      | _, _, _ => ih) D
theorem again_nil {τ : Tab} {ops : List Oper} {ps : List (List Nat)} {i : Nat} {s : List AV} {O : List Obj} {K : Prop} : again τ ops ps i s O [] K = K := rfl
theorem again_cons {τ : Tab} {ops : List Oper} {ps : List (List Nat)} {i j : Nat} {s : List AV} {O : List Obj} {D : List Nat} {K : Prop} : again τ ops ps i s O (j :: D) K =
    match isLoad (nth ops j noOper).op, isEff τ (nth ops j noOper).op, hasN (nth ps i []) j with
      | true, false, false => match (nth ops j noOper).dst with
        | none => False
        | some d => Req (gdD ops (nth ps j []) s (nth ops j noOper) fun w s1 => match w with
            | true => fS (outs ops (nth ps j []) 0) fun M => evK τ (nth ops j noOper).op (evm M s1) O (fun v => fA v fun v' => Wk v' (nth s d .junk))
            | false => nth s d .junk = .und) (again τ ops ps i s O D K)
      | _, _, _ => again τ ops ps i s O D K := rfl

def opsD (τ : Tab) (Γ : Ctx) (ops : List Oper) (ps : List (List Nat)) (r : List Nat) : List Nat → List AV → List Obj → (List AV → List Obj → Prop) → Prop :=
  List.rec (motive := fun _ => List Nat → List AV → List Obj → (List AV → List Obj → Prop) → Prop) (fun _ s O K => K s O)
    (fun i _ ih D s O K => gdD ops (nth ps i []) s (nth ops i noOper) fun w s => match w with
      | true => fS (outs ops (nth ps i []) 0) fun M => opK τ Γ (nth ops i noOper).op (evm M s) O fun v O' => putK s (nth ops i noOper).dst v fun s' =>
          match isEff τ (nth ops i noOper).op with
          | true => again τ ops ps i s' O' D (ih (i :: D) s' O' K)
          | false => ih (i :: D) s' O' K
      | false => putK s (nth ops i noOper).dst .und fun s' => ih (i :: D) s' O K) r
theorem opsD_nil {τ : Tab} {Γ : Ctx} {ops : List Oper} {ps : List (List Nat)} {D : List Nat} {s : List AV} {O : List Obj} {K : List AV → List Obj → Prop} : opsD τ Γ ops ps [] D s O K = K s O := rfl
theorem opsD_cons {τ : Tab} {Γ : Ctx} {ops : List Oper} {ps : List (List Nat)} {i : Nat} {r D : List Nat} {s : List AV} {O : List Obj} {K : List AV → List Obj → Prop} :
    opsD τ Γ ops ps (i :: r) D s O K = gdD ops (nth ps i []) s (nth ops i noOper) fun w s => match w with
      | true => fS (outs ops (nth ps i []) 0) fun M => opK τ Γ (nth ops i noOper).op (evm M s) O fun v O' => putK s (nth ops i noOper).dst v fun s' =>
          match isEff τ (nth ops i noOper).op with
          | true => again τ ops ps i s' O' D (opsD τ Γ ops ps r (i :: D) s' O' K)
          | false => opsD τ Γ ops ps r (i :: D) s' O' K
      | false => putK s (nth ops i noOper).dst .und fun s' => opsD τ Γ ops ps r (i :: D) s' O K := rfl

def fNs : List (List Nat) → (List (List Nat) → Prop) → Prop
  | [], k => k []
  | x :: xs, k => fS x fun x' => fNs xs fun xs' => k (x' :: xs')

def regD (τ : Tab) (Γ : Ctx) (ops : List Oper) (s : List AV) (O : List Obj) (K : List AV → List Obj → Prop) : Prop :=
  fNs (preds ops []) fun ps => fS (mkOrd τ ops ps (ln ops) []) fun r =>
    match ordOk τ ops ps [] [] r, dstOk (ln s) ops [] with
    | true, true => opsD τ Γ ops ps r [] s O K
    | _, _ => False

/-! ### Code -/
inductive Ex where
  | normal
  | exit (n : Nat)
  | ret

def thenQ (k : List AV → List Obj → Prop) (Q : Ex → List AV → List Obj → Prop) : Ex → List AV → List Obj → Prop
  | .normal, s, O => k s O
  | .exit n, s, O => Q (.exit n) s O
  | .ret, s, O => Q .ret s O

def blockQ (id : Nat) (Q : Ex → List AV → List Obj → Prop) : Ex → List AV → List Obj → Prop
  | .normal, s, O => Q .normal s O
  | .exit n, s, O => match Nat.beq n id with | true => Q .normal s O | false => Q (.exit n) s O
  | .ret, s, O => Q .ret s O

/-! ### Loops -/
def dsts : List Oper → List Nat
  | [] => []
  | o :: os => match o.dst with | some d => d :: dsts os | none => dsts os

def writes : Code → List Nat
  | .region _ ops _ => dsts ops.toList
  | .seq a b => ap (writes a) (writes b)
  | .cond c a b => match c with | .tmp t => t :: ap (writes a) (writes b) | _ => ap (writes a) (writes b)
  | .block _ c => writes c
  | .loop c => writes c
  | .scope c => writes c
  | .rangeFunc _ _ a b => ap (writes a) (writes b)
  | _ => []

def junkW (W : List Nat) : List AV → Nat → List AV
  | [], _ => []
  | x :: xs, n => (match hasN W n with | true => .junk | false => x) :: junkW W xs (n + 1)

def setKeys : List AV → List (Nat × AV) → List AV
  | s, [] => s
  | s, (n, v) :: r => setKeys (st s n v) r

/-- from the objects as they are to those of a loop's head -/
def headR (O : List Obj) : List Obj → Nat → Ren
  | [], _ => []
  | o :: os, k => (k, k, ver O k, vO o) :: headR O os (k + 1)

/-- the same for slots of which nothing is said: a row that the loop may change is forgotten -/
def baseR (O : List Obj) : List Obj → Nat → Ren
  | [], _ => []
  | o :: os, k => (k, k, (match vO o with | 0 => ver O k | _ + 1 => ver O k + 1), 0) :: baseR O os (k + 1)

def headO (R : Ren) : List Obj → List Obj → List Obj
  | _, [] => []
  | [], _ :: _ => []
  | o :: os, t :: ts => (match o, t with
    | .row _ s z xs, .row v s' _ _ => .row v (match s' with | true => s | false => false) z xs
    | o, _ => renO R 0 o) :: headO R os ts

def versOk : List Obj → List Obj → Bool
  | _, [] => true
  | [], _ :: _ => false
  | o :: os, t :: ts => match (match o, t with
    | .row v _ _ _, .row w _ _ _ => match w with | 0 => Nat.beq v 0 | _ + 1 => true
    | .row _ _ _ _, _ => false
    | _, .row _ _ _ _ => false
    | _, _ => true) with
    | true => versOk os ts
    | false => false

def keysOk (R : Ren) (s : List AV) : List (Nat × AV) → Prop
  | [] => True
  | (n, v) :: r => Wk (ren R (nth s n .junk)) v ∧ keysOk R s r

/-- what a row is made of where there is none yet: a slot, or a cell of an object, that holds the nil slice -/
inductive Rw where
  | slot (n z : Nat)
  | cell (k off z : Nat)

def nilA : AV → Bool
  | .d (.v (.slice none 0 0)) => true
  | _ => false

def rwK : List Rw → List AV → List Obj → (List AV → List Obj → Prop) → Prop
  | [], s, O, K => K s O
  | .slot n z :: r, s, O, K => match nilA (nth s n .junk) with
    | true => stK s n (.row (ln O) 0) fun s' => apK O [.row 0 true z []] fun O' => rwK r s' O' K
    | false => False
  | .cell k off z :: r, s, O, K => match nth O k .dead with
    | .cells cs => match nilA (nth cs off .junk) with
      | true => stK cs off (.row (ln O) 0) fun cs' => stK O k (.cells cs') fun O1 => apK O1 [.row 0 true z []] fun O' => rwK r s O' K
      | false => False
    | _ => False

/-- a state meets a loop's head -/
structure Meet (n : Nat) (W : List Nat) (base : List AV) (vals : List (Nat × AV)) (objs : List Obj) (s : List AV) (O : List Obj) : Prop where
  ml : ln objs = n
  mv : versOk O objs = true
  mo : WkOs (headO (headR O objs 0) O objs) objs
  mk1 : keysOk (headR O objs 0) s vals
  mb : junkW W (renL (baseR O objs 0) s) 0 = base

def loopK (W : List Nat) (body : (Ex → List AV → List Obj → Prop) → List AV → List Obj → Prop)
    (Q : Ex → List AV → List Obj → Prop) (s : List AV) (O : List Obj) : Prop :=
  ∃ (rw_ : List Rw) (X : Type) (I : X → Prop) (μ : X → Nat) (vals : X → List (Nat × AV)) (objs : X → List Obj) (x0 : X), I x0 ∧
    rwK rw_ s O fun s1 O1 => fL (junkW W (renL (baseR O1 (objs x0) 0) s1) 0) fun base =>
      Meet (ln O1) W base (vals x0) (objs x0) s1 O1 ∧
      ∀ x, I x → fL (setKeys base (vals x)) fun s' => body (fun e s2 O2 => match e with
        | .normal => ∃ x', I x' ∧ μ x' < μ x ∧ Meet (ln O1) W base (vals x') (objs x') s2 O2
        | .exit n => Q (.exit n) s2 O2
        | .ret => Q .ret s2 O2) s' (objs x)

abbrev PQ := Ex → List AV → List Obj → Prop

def condK (c : Operand) (a b : PQ → List AV → List Obj → Prop) : PQ → List AV → List Obj → Prop := fun Q s O =>
  match c with
  | .tmp t => match nth s t .junk with
    | .tt => a Q s O
    | .ff => b Q s O
    | .d (.b x) => Br x (stK s t .tt fun s' => a Q s' O) (stK s t .ff fun s' => b Q s' O)
    | _ => False
  | .const (.bool x) => match x with
    | true => a Q s O
    | false => b Q s O
  | _ => False

def regK (τ : Tab) (Γ : Ctx) (ops : List Oper) (draw : Bool) : PQ → List AV → List Obj → Prop := fun Q s O =>
  match draw with
  | false => opsG τ Γ ops ops s O fun s' O' => Q .normal s' O'
  | true => regD τ Γ ops s O fun s' O' => Q .normal s' O'

def wpA (τ : Tab) (Γ : Ctx) (c : Code) : PQ → List AV → List Obj → Prop :=
  Code.rec (motive := fun _ => PQ → List AV → List Obj → Prop)
    (fun Q s O => Q .normal s O)
    (fun _ ops draw => regK τ Γ ops.toList draw)
    (fun _ _ a b Q s O => a (thenQ (fun s' O' => b Q s' O') Q) s O)
    (fun c _ _ a b => condK c a b)
    (fun id _ a Q s O => a (blockQ id Q) s O)
    (fun c a Q s O => loopK (writes c) a Q s O)
    (fun _ _ _ _ _ _ _ _ _ => False)
    (fun n Q s O => Q (.exit n) s O)
    (fun _ _ _ _ _ => False)
    (fun _ Q s O => Q .normal s O)
    (fun _ _ _ _ => False)
    (fun Q s O => Q .ret s O)
    (fun _ _ _ _ => False) c

/-! ### A function's end -/
def res1 (τ : Tab) (s : List AV) (O : List Obj) : ResultVar → (AV → Prop) → Prop
  | .tmp t, k => k (nth s t .junk)
  | .cell a t, k => match nth s a .junk with
    | .ptr n off => match nth O n .dead with
      | .cells cs => loadK τ t (dp off cs) k
      | _ => False
    | _ => False

def resL (τ : Tab) (s : List AV) (O : List Obj) : List ResultVar → (List AV → Prop) → Prop
  | [], k => k []
  | r :: rs, k => res1 τ s O r fun x => resL τ s O rs fun xs => k (x :: xs)

/-- a Bool that is known is one that is reckoned -/
def norB : AV → AV
  | .tt => .d (.b true)
  | .ff => .d (.b false)
  | x => x

def resK (τ : Tab) (s : List AV) (O : List Obj) (rs : List ResultVar) (k : AV → Prop) : Prop :=
  match rs with
  | [r] => res1 τ s O r fun x => k (norB x)
  | rs => resL τ s O rs fun xs => k (.tup (mp1 norB xs))

/-- the objects that are handed back: the n that came in, and those of a list -/
def expR (O : List Obj) (n : Nat) : List Nat → Nat → Ren
  | [], _ => []
  | k :: ks, i => (k, i, ver O k, (match Nat.blt i n with | true => (match ver O k with | 0 => 0 | _ + 1 => 1) | false => 0)) :: expR O n ks (i + 1)

def frzO (O : List Obj) (keep : Nat → Bool) : Obj → Obj
  | .cells cs => .cells (frzL O keep cs)
  | o => o

def expO (R : Ren) (O : List Obj) (n : Nat) (keep : Nat → Bool) : List Nat → Nat → List Obj
  | [], _ => []
  | k :: ks, i => renO R (match Nat.blt i n with | true => (match ver O k with | 0 => 0 | _ + 1 => 1) | false => 0) (frzO O keep (nth O k .dead)) :: expO R O n keep ks (i + 1)

def nodupB : List Nat → Bool
  | [] => true
  | x :: xs => match hasN xs x with | true => false | false => nodupB xs

def inB (n m : Nat) : List Nat → Bool
  | [] => true
  | k :: ks => match Nat.ble n k, Nat.blt k m with | true, true => inB n m ks | _, _ => false

/-- the end of a function that was handed n objects; q: the new ones that it hands back -/
def expK (n : Nat) (r : AV) (O : List Obj) (Q : AV → List Obj → Prop) : Prop :=
  ∃ q : List Nat, (nodupB q = true ∧ inB n (ln O) q = true) ∧
    fA (ren (expR O n (ap (upto n 0) q) 0) (frz O (hasN (ap (upto n 0) q)) r)) fun r' =>
    fOs (expO (expR O n (ap (upto n 0) q) 0) O n (hasN (ap (upto n 0) q)) (ap (upto n 0) q) 0) fun O' =>
    Q r' O'

def fnPost (τ : Tab) (rs : List ResultVar) (n : Nat) (Q : AV → List Obj → Prop) : Ex → List AV → List Obj → Prop
  | .normal, s, O => resK τ s O rs fun r => fA r fun r' => expK n r' O Q
  | .ret, s, O => resK τ s O rs fun r => fA r fun r' => expK n r' O Q
  | .exit _, _, _ => False

/-- the same, and what says less -/
def wkQ (Q : AV → List Obj → Prop) : AV → List Obj → Prop := fun r O => ∃ r' O', Wk r r' ∧ WkOs O O' ∧ Q r' O'

def pad (s : List AV) (n : Nat) : List AV := ap s (reps n .und)

def runK (τ : Tab) (Γ : Ctx) (c : Code) (rs : List ResultVar) (ntmps : Nat) (args : List AV) (O : List Obj) (Q : AV → List Obj → Prop) : Prop :=
  fL (pad args (ntmps - ln args)) fun s => wpA τ Γ c (fnPost τ rs (ln O) Q) s O
end Ab
