/-
  DERIVED. GIVEN WITH THE SEED: THE CARDS: each row of YtmkeapfgondiiaaGreatDoorRows.lean that lists a variable, with what it lists TIED to the program's text (the seventh form; the later family's looks); each row that meets fmt, with fmt's text TOLD by the authors' own Lean function (tested against real Go, not proved from fmt's source: count such statements apart). THE CARD IS WHAT COUNTS. Prove the row's statement (the work); the ties are given (YtmkeapfgondiiaaGreatDoorTie.lean); close each card by the builder's one call (the guide's Derived/Test/ToyasCard.lean, 'card_holds'). Laid BY PROGRAM, IN A SANDBOX (cutbox-door.mjs). By AI agents, Wed Nov 11 2026. No macro, syntax, notation, axiom, sorry.
-/
import Derived.Test.YtmkeapfgondiiaaGreatDoorRows
import GoSem.ClaimSeven
namespace Go.Proofs.YtmkeapfgondiiaaGreatDoor
namespace Rows

/-- THE TIED CARD OF 'refectorylaw07.PrintNumbers'. -/
def printNumbersCard : Claim7 := { stood := { row := printNumbersRow, standIns := [], harness := (true, "e3aa39e93e2151315c066e9c19a488d49e2ac39628c61bcd5606d0b606dc646b"), looks := true }, kinds := [], alts := [], laidByText := true, laidKinds := [.data, .pinned, .pinned], laidTests := true, laidLooks := .later }
def PrintNumbersCardSaid : Prop := Claim7.holds Tryz.pinned (.plain (OpenSpec.ofChange printNumbersSpec)) printNumbersCard

/-- THE TIED CARD OF 'refectorylaw07.PrintNone'. -/
def printNoneCard : Claim7 := { stood := { row := printNoneRow, standIns := [], harness := (true, "e3aa39e93e2151315c066e9c19a488d49e2ac39628c61bcd5606d0b606dc646b"), looks := true }, kinds := [], alts := [], laidByText := true, laidKinds := [.data, .pinned, .pinned], laidTests := true, laidLooks := .later }
def PrintNoneCardSaid : Prop := Claim7.holds Tryz.pinned (.plain (OpenSpec.ofChange printNoneSpec)) printNoneCard

/-- THE TIED CARD OF 'refectorylaw07.PrintWords'. -/
def printWordsCard : Claim7 := { stood := { row := printWordsRow, standIns := [], harness := (true, "e3aa39e93e2151315c066e9c19a488d49e2ac39628c61bcd5606d0b606dc646b"), looks := true }, kinds := [], alts := [], laidByText := true, laidKinds := [.data, .pinned, .pinned], laidTests := true, laidLooks := .later }
def PrintWordsCardSaid : Prop := Claim7.holds Tryz.pinned (.plain (OpenSpec.ofChange printWordsSpec)) printWordsCard

/-- THE SECOND FORM's CARD OF 'refectorylaw07.PrintNumbers'. -/
def printNumbersUptoCard : Claim7 := { stood := { row := printNumbersUptoRow, standIns := [], harness := (true, "e3aa39e93e2151315c066e9c19a488d49e2ac39628c61bcd5606d0b606dc646b"), looks := true }, kinds := [], alts := [], laidByText := true, laidKinds := [.data, .pinned, .pinned], laidTests := true, laidLooks := .later }
def PrintNumbersUptoCardSaid : Prop := Claim7.holds Tryz.pinned (.plain (OpenSpec.upto printNumbersSpec)) printNumbersUptoCard

/-- THE SECOND FORM's CARD OF 'refectorylaw07.PrintNone'. -/
def printNoneUptoCard : Claim7 := { stood := { row := printNoneUptoRow, standIns := [], harness := (true, "e3aa39e93e2151315c066e9c19a488d49e2ac39628c61bcd5606d0b606dc646b"), looks := true }, kinds := [], alts := [], laidByText := true, laidKinds := [.data, .pinned, .pinned], laidTests := true, laidLooks := .later }
def PrintNoneUptoCardSaid : Prop := Claim7.holds Tryz.pinned (.plain (OpenSpec.upto printNoneSpec)) printNoneUptoCard

/-- THE SECOND FORM's CARD OF 'refectorylaw07.PrintWords'. -/
def printWordsUptoCard : Claim7 := { stood := { row := printWordsUptoRow, standIns := [], harness := (true, "e3aa39e93e2151315c066e9c19a488d49e2ac39628c61bcd5606d0b606dc646b"), looks := true }, kinds := [], alts := [], laidByText := true, laidKinds := [.data, .pinned, .pinned], laidTests := true, laidLooks := .later }
def PrintWordsUptoCardSaid : Prop := Claim7.holds Tryz.pinned (.plain (OpenSpec.upto printWordsSpec)) printWordsUptoCard
end Rows
end Go.Proofs.YtmkeapfgondiiaaGreatDoor
