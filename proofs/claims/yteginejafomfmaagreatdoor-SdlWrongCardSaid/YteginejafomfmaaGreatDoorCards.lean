/-
  DERIVED. GIVEN WITH THE SEED: THE CARDS: each row of YteginejafomfmaaGreatDoorRows.lean that lists a variable, with what it lists TIED to the program's text (the seventh form; the later family's looks); each row that meets fmt, with fmt's text TOLD by the authors' own Lean function (tested against real Go, not proved from fmt's source: count such statements apart). THE CARD IS WHAT COUNTS. Prove the row's statement (the work); the ties are given (YteginejafomfmaaGreatDoorTie.lean); close each card by the builder's one call (the guide's Derived/Test/ToyasCard.lean, 'card_holds'). Laid BY PROGRAM, IN A SANDBOX (cutbox-door.mjs). By AI agents, Wed Nov 11 2026. No macro, syntax, notation, axiom, sorry.
-/
import Derived.Test.YteginejafomfmaaGreatDoorRows
import GoSem.ClaimSeven
namespace Go.Proofs.YteginejafomfmaaGreatDoor
namespace Rows

/-- THE TIED CARD OF 'refectorylaw08.SdlSaid'. -/
def sdlSaidCard : Claim7 := { stood := { row := sdlSaidRow, standIns := [], harness := (true, "a86074820f6249995f12785da6e9fe418b45f23c1a8c084592f997da2e345e25"), looks := true }, kinds := [], alts := [], laidByText := true, laidKinds := [.data, .data, .data, .data, .sentinel, .sentinel, .pinned, .pinned], laidTests := true, laidLooks := .later }
def SdlSaidCardSaid : Prop := Claim7.holds Tryz.pinned (.plain (OpenSpec.ofChange sdlSaidSpec)) sdlSaidCard

/-- THE TIED CARD OF 'refectorylaw08.SdlKinds'. -/
def sdlKindsCard : Claim7 := { stood := { row := sdlKindsRow, standIns := [], harness := (true, "a86074820f6249995f12785da6e9fe418b45f23c1a8c084592f997da2e345e25"), looks := true }, kinds := [], alts := [], laidByText := true, laidKinds := [.data, .data, .data, .data, .sentinel, .sentinel, .pinned, .pinned], laidTests := true, laidLooks := .later }
def SdlKindsCardSaid : Prop := Claim7.holds Tryz.pinned (.plain (OpenSpec.ofChange sdlKindsSpec)) sdlKindsCard

/-- THE TIED CARD OF 'refectorylaw08.SdlWrong'. -/
def sdlWrongCard : Claim7 := { stood := { row := sdlWrongRow, standIns := [], harness := (true, "a86074820f6249995f12785da6e9fe418b45f23c1a8c084592f997da2e345e25"), looks := true }, kinds := [], alts := [], laidByText := true, laidKinds := [.data, .data, .data, .data, .sentinel, .sentinel, .pinned, .pinned], laidTests := true, laidLooks := .later }
def SdlWrongCardSaid : Prop := Claim7.holds Tryz.pinned (.plain (OpenSpec.ofChange sdlWrongSpec)) sdlWrongCard

/-- THE TIED CARD OF 'refectorylaw08.SdlTexts'. -/
def sdlTextsCard : Claim7 := { stood := { row := sdlTextsRow, standIns := [], harness := (true, "a86074820f6249995f12785da6e9fe418b45f23c1a8c084592f997da2e345e25"), looks := true }, kinds := [], alts := [], laidByText := true, laidKinds := [.data, .data, .data, .data, .sentinel, .sentinel, .pinned, .pinned], laidTests := true, laidLooks := .later }
def SdlTextsCardSaid : Prop := Claim7.holds Tryz.pinned (.plain (OpenSpec.ofChange sdlTextsSpec)) sdlTextsCard

/-- THE TIED CARD OF 'refectorylaw08.SdlBack'. -/
def sdlBackCard : Claim7 := { stood := { row := sdlBackRow, standIns := [], harness := (true, "a86074820f6249995f12785da6e9fe418b45f23c1a8c084592f997da2e345e25"), looks := true }, kinds := [], alts := [], laidByText := true, laidKinds := [.data, .data, .data, .data, .sentinel, .sentinel, .pinned, .pinned], laidTests := true, laidLooks := .later }
def SdlBackCardSaid : Prop := Claim7.holds Tryz.pinned (.plain (OpenSpec.ofChange sdlBackSpec)) sdlBackCard

/-- THE SECOND FORM's CARD OF 'refectorylaw08.SdlSaid'. -/
def sdlSaidUptoCard : Claim7 := { stood := { row := sdlSaidUptoRow, standIns := [], harness := (true, "a86074820f6249995f12785da6e9fe418b45f23c1a8c084592f997da2e345e25"), looks := true }, kinds := [], alts := [], laidByText := true, laidKinds := [.data, .data, .data, .data, .sentinel, .sentinel, .pinned, .pinned], laidTests := true, laidLooks := .later }
def SdlSaidUptoCardSaid : Prop := Claim7.holds Tryz.pinned (.plain (OpenSpec.upto sdlSaidSpec)) sdlSaidUptoCard

/-- THE SECOND FORM's CARD OF 'refectorylaw08.SdlKinds'. -/
def sdlKindsUptoCard : Claim7 := { stood := { row := sdlKindsUptoRow, standIns := [], harness := (true, "a86074820f6249995f12785da6e9fe418b45f23c1a8c084592f997da2e345e25"), looks := true }, kinds := [], alts := [], laidByText := true, laidKinds := [.data, .data, .data, .data, .sentinel, .sentinel, .pinned, .pinned], laidTests := true, laidLooks := .later }
def SdlKindsUptoCardSaid : Prop := Claim7.holds Tryz.pinned (.plain (OpenSpec.upto sdlKindsSpec)) sdlKindsUptoCard

/-- THE SECOND FORM's CARD OF 'refectorylaw08.SdlWrong'. -/
def sdlWrongUptoCard : Claim7 := { stood := { row := sdlWrongUptoRow, standIns := [], harness := (true, "a86074820f6249995f12785da6e9fe418b45f23c1a8c084592f997da2e345e25"), looks := true }, kinds := [], alts := [], laidByText := true, laidKinds := [.data, .data, .data, .data, .sentinel, .sentinel, .pinned, .pinned], laidTests := true, laidLooks := .later }
def SdlWrongUptoCardSaid : Prop := Claim7.holds Tryz.pinned (.plain (OpenSpec.upto sdlWrongSpec)) sdlWrongUptoCard

/-- THE SECOND FORM's CARD OF 'refectorylaw08.SdlTexts'. -/
def sdlTextsUptoCard : Claim7 := { stood := { row := sdlTextsUptoRow, standIns := [], harness := (true, "a86074820f6249995f12785da6e9fe418b45f23c1a8c084592f997da2e345e25"), looks := true }, kinds := [], alts := [], laidByText := true, laidKinds := [.data, .data, .data, .data, .sentinel, .sentinel, .pinned, .pinned], laidTests := true, laidLooks := .later }
def SdlTextsUptoCardSaid : Prop := Claim7.holds Tryz.pinned (.plain (OpenSpec.upto sdlTextsSpec)) sdlTextsUptoCard

/-- THE SECOND FORM's CARD OF 'refectorylaw08.SdlBack'. -/
def sdlBackUptoCard : Claim7 := { stood := { row := sdlBackUptoRow, standIns := [], harness := (true, "a86074820f6249995f12785da6e9fe418b45f23c1a8c084592f997da2e345e25"), looks := true }, kinds := [], alts := [], laidByText := true, laidKinds := [.data, .data, .data, .data, .sentinel, .sentinel, .pinned, .pinned], laidTests := true, laidLooks := .later }
def SdlBackUptoCardSaid : Prop := Claim7.holds Tryz.pinned (.plain (OpenSpec.upto sdlBackSpec)) sdlBackUptoCard
end Rows
end Go.Proofs.YteginejafomfmaaGreatDoor
