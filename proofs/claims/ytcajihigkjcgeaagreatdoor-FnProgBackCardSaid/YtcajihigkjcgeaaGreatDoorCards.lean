/-
  DERIVED. GIVEN WITH THE SEED: THE CARDS: each row of YtcajihigkjcgeaaGreatDoorRows.lean that lists a variable, with what it lists TIED to the program's text (the seventh form; the later family's looks); each row that meets fmt, with fmt's text TOLD by the authors' own Lean function (tested against real Go, not proved from fmt's source: count such statements apart). THE CARD IS WHAT COUNTS. Prove the row's statement (the work); the ties are given (YtcajihigkjcgeaaGreatDoorTie.lean); close each card by the builder's one call (the guide's Derived/Test/ToyasCard.lean, 'card_holds'). Laid BY PROGRAM, IN A SANDBOX (cutbox-door.mjs). By AI agents, Wed Nov 11 2026. No macro, syntax, notation, axiom, sorry.
-/
import Derived.Test.YtcajihigkjcgeaaGreatDoorRows
import GoSem.ClaimSeven
namespace Go.Proofs.YtcajihigkjcgeaaGreatDoor
namespace Rows

/-- THE TIED CARD OF 'laws.FnProgBack'. -/
def fnProgBackCard : Claim7 := { stood := { row := fnProgBackRow, standIns := [], harness := (true, "a8ae84968acaa27863d0c451ea4076214f5307a583c5db07ed74fc20d75ff4fc"), looks := true }, kinds := [], alts := [], laidByText := true, laidKinds := [.data, .data, .data, .data, .sentinel, .sentinel, .pinned], laidTests := true, laidLooks := .later }
def FnProgBackCardSaid : Prop := Claim7.holds Tryz.pinned (.plain (OpenSpec.ofChange fnProgBackSpec)) fnProgBackCard

/-- THE TIED CARD OF 'laws.FnExactProgRead'. -/
def fnExactProgReadCard : Claim7 := { stood := { row := fnExactProgReadRow, standIns := [], harness := (true, "a8ae84968acaa27863d0c451ea4076214f5307a583c5db07ed74fc20d75ff4fc"), looks := true }, kinds := [], alts := [], laidByText := true, laidKinds := [.data, .data, .data, .data, .sentinel, .sentinel, .pinned], laidTests := true, laidLooks := .later }
def FnExactProgReadCardSaid : Prop := Claim7.holds Tryz.pinned (.plain (OpenSpec.ofChange fnExactProgReadSpec)) fnExactProgReadCard

/-- THE TIED CARD OF 'laws.FnProgStrict'. -/
def fnProgStrictCard : Claim7 := { stood := { row := fnProgStrictRow, standIns := [], harness := (true, "a8ae84968acaa27863d0c451ea4076214f5307a583c5db07ed74fc20d75ff4fc"), looks := true }, kinds := [], alts := [], laidByText := true, laidKinds := [.data, .data, .data, .data, .sentinel, .sentinel, .pinned], laidTests := true, laidLooks := .later }
def FnProgStrictCardSaid : Prop := Claim7.holds Tryz.pinned (.plain (OpenSpec.ofChange fnProgStrictSpec)) fnProgStrictCard

/-- THE SECOND FORM's CARD OF 'laws.FnProgBack'. -/
def fnProgBackUptoCard : Claim7 := { stood := { row := fnProgBackUptoRow, standIns := [], harness := (true, "a8ae84968acaa27863d0c451ea4076214f5307a583c5db07ed74fc20d75ff4fc"), looks := true }, kinds := [], alts := [], laidByText := true, laidKinds := [.data, .data, .data, .data, .sentinel, .sentinel, .pinned], laidTests := true, laidLooks := .later }
def FnProgBackUptoCardSaid : Prop := Claim7.holds Tryz.pinned (.plain (OpenSpec.upto fnProgBackSpec)) fnProgBackUptoCard

/-- THE SECOND FORM's CARD OF 'laws.FnExactProgRead'. -/
def fnExactProgReadUptoCard : Claim7 := { stood := { row := fnExactProgReadUptoRow, standIns := [], harness := (true, "a8ae84968acaa27863d0c451ea4076214f5307a583c5db07ed74fc20d75ff4fc"), looks := true }, kinds := [], alts := [], laidByText := true, laidKinds := [.data, .data, .data, .data, .sentinel, .sentinel, .pinned], laidTests := true, laidLooks := .later }
def FnExactProgReadUptoCardSaid : Prop := Claim7.holds Tryz.pinned (.plain (OpenSpec.upto fnExactProgReadSpec)) fnExactProgReadUptoCard

/-- THE SECOND FORM's CARD OF 'laws.FnProgStrict'. -/
def fnProgStrictUptoCard : Claim7 := { stood := { row := fnProgStrictUptoRow, standIns := [], harness := (true, "a8ae84968acaa27863d0c451ea4076214f5307a583c5db07ed74fc20d75ff4fc"), looks := true }, kinds := [], alts := [], laidByText := true, laidKinds := [.data, .data, .data, .data, .sentinel, .sentinel, .pinned], laidTests := true, laidLooks := .later }
def FnProgStrictUptoCardSaid : Prop := Claim7.holds Tryz.pinned (.plain (OpenSpec.upto fnProgStrictSpec)) fnProgStrictUptoCard
end Rows
end Go.Proofs.YtcajihigkjcgeaaGreatDoor
