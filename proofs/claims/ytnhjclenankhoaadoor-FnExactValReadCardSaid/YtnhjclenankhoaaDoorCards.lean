/-
  DERIVED. GIVEN WITH THE SEED: THE CARDS: each row of YtnhjclenankhoaaDoorRows.lean that lists a variable, with what it lists TIED to the program's text (the seventh form; the later family's looks); each row that meets fmt, with fmt's text TOLD by the authors' own Lean function (tested against real Go, not proved from fmt's source: count such statements apart). THE CARD IS WHAT COUNTS. Prove the row's statement (the work); the ties are given (YtnhjclenankhoaaDoorTie.lean); close each card by the builder's one call (the guide's Derived/Test/ToyasCard.lean, 'card_holds'). Laid BY PROGRAM, IN A SANDBOX (cutbox-door.mjs). By AI agents, Wed Nov 11 2026. No macro, syntax, notation, axiom, sorry.
-/
import Derived.Test.YtnhjclenankhoaaDoorRows
import GoSem.ClaimSeven
namespace Go.Proofs.YtnhjclenankhoaaDoor
namespace Rows

/-- THE TIED CARD OF 'laws.FnTypeValue'. -/
def fnTypeValueCard : Claim7 := { stood := { row := fnTypeValueRow, standIns := [], harness := (true, "cdadcea9c98a4ff8b3f68e876cd6edc531c15c817f7fe8590d0e0b71e028403c"), looks := true }, kinds := [], alts := [], laidByText := true, laidKinds := [.data, .data, .data, .data, .sentinel, .sentinel, .pinned], laidTests := true, laidLooks := .later }
def FnTypeValueCardSaid : Prop := Claim7.holds Tryd.pinned (.plain (OpenSpec.ofChange fnTypeValueSpec)) fnTypeValueCard

/-- THE TIED CARD OF 'laws.FnValBack'. -/
def fnValBackCard : Claim7 := { stood := { row := fnValBackRow, standIns := [], harness := (true, "cdadcea9c98a4ff8b3f68e876cd6edc531c15c817f7fe8590d0e0b71e028403c"), looks := true }, kinds := [], alts := [], laidByText := true, laidKinds := [.data, .data, .data, .data, .sentinel, .sentinel, .pinned], laidTests := true, laidLooks := .later }
def FnValBackCardSaid : Prop := Claim7.holds Tryd.pinned (.plain (OpenSpec.ofChange fnValBackSpec)) fnValBackCard

/-- THE TIED CARD OF 'laws.FnExactValRead'. -/
def fnExactValReadCard : Claim7 := { stood := { row := fnExactValReadRow, standIns := [], harness := (true, "cdadcea9c98a4ff8b3f68e876cd6edc531c15c817f7fe8590d0e0b71e028403c"), looks := true }, kinds := [], alts := [], laidByText := true, laidKinds := [.data, .data, .data, .data, .sentinel, .sentinel, .pinned], laidTests := true, laidLooks := .later }
def FnExactValReadCardSaid : Prop := Claim7.holds Tryd.pinned (.plain (OpenSpec.ofChange fnExactValReadSpec)) fnExactValReadCard

/-- THE TIED CARD OF 'laws.FnValStrict'. -/
def fnValStrictCard : Claim7 := { stood := { row := fnValStrictRow, standIns := [], harness := (true, "cdadcea9c98a4ff8b3f68e876cd6edc531c15c817f7fe8590d0e0b71e028403c"), looks := true }, kinds := [], alts := [], laidByText := true, laidKinds := [.data, .data, .data, .data, .sentinel, .sentinel, .pinned], laidTests := true, laidLooks := .later }
def FnValStrictCardSaid : Prop := Claim7.holds Tryd.pinned (.plain (OpenSpec.ofChange fnValStrictSpec)) fnValStrictCard

/-- THE SECOND FORM's CARD OF 'laws.FnTypeValue'. -/
def fnTypeValueUptoCard : Claim7 := { stood := { row := fnTypeValueUptoRow, standIns := [], harness := (true, "cdadcea9c98a4ff8b3f68e876cd6edc531c15c817f7fe8590d0e0b71e028403c"), looks := true }, kinds := [], alts := [], laidByText := true, laidKinds := [.data, .data, .data, .data, .sentinel, .sentinel, .pinned], laidTests := true, laidLooks := .later }
def FnTypeValueUptoCardSaid : Prop := Claim7.holds Tryd.pinned (.plain (OpenSpec.upto fnTypeValueSpec)) fnTypeValueUptoCard

/-- THE SECOND FORM's CARD OF 'laws.FnValBack'. -/
def fnValBackUptoCard : Claim7 := { stood := { row := fnValBackUptoRow, standIns := [], harness := (true, "cdadcea9c98a4ff8b3f68e876cd6edc531c15c817f7fe8590d0e0b71e028403c"), looks := true }, kinds := [], alts := [], laidByText := true, laidKinds := [.data, .data, .data, .data, .sentinel, .sentinel, .pinned], laidTests := true, laidLooks := .later }
def FnValBackUptoCardSaid : Prop := Claim7.holds Tryd.pinned (.plain (OpenSpec.upto fnValBackSpec)) fnValBackUptoCard

/-- THE SECOND FORM's CARD OF 'laws.FnExactValRead'. -/
def fnExactValReadUptoCard : Claim7 := { stood := { row := fnExactValReadUptoRow, standIns := [], harness := (true, "cdadcea9c98a4ff8b3f68e876cd6edc531c15c817f7fe8590d0e0b71e028403c"), looks := true }, kinds := [], alts := [], laidByText := true, laidKinds := [.data, .data, .data, .data, .sentinel, .sentinel, .pinned], laidTests := true, laidLooks := .later }
def FnExactValReadUptoCardSaid : Prop := Claim7.holds Tryd.pinned (.plain (OpenSpec.upto fnExactValReadSpec)) fnExactValReadUptoCard

/-- THE SECOND FORM's CARD OF 'laws.FnValStrict'. -/
def fnValStrictUptoCard : Claim7 := { stood := { row := fnValStrictUptoRow, standIns := [], harness := (true, "cdadcea9c98a4ff8b3f68e876cd6edc531c15c817f7fe8590d0e0b71e028403c"), looks := true }, kinds := [], alts := [], laidByText := true, laidKinds := [.data, .data, .data, .data, .sentinel, .sentinel, .pinned], laidTests := true, laidLooks := .later }
def FnValStrictUptoCardSaid : Prop := Claim7.holds Tryd.pinned (.plain (OpenSpec.upto fnValStrictSpec)) fnValStrictUptoCard
end Rows
end Go.Proofs.YtnhjclenankhoaaDoor
