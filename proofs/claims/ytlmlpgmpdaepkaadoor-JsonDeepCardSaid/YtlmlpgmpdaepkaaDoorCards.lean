/-
  DERIVED. GIVEN WITH THE SEED: THE CARDS: each row of YtlmlpgmpdaepkaaDoorRows.lean that lists a variable, with what it lists TIED to the program's text (the seventh form; the later family's looks); each row that meets fmt, with fmt's text TOLD by the authors' own Lean function (tested against real Go, not proved from fmt's source: count such statements apart). THE CARD IS WHAT COUNTS. Prove the row's statement (the work); the ties are given (YtlmlpgmpdaepkaaDoorTie.lean); close each card by the builder's one call (the guide's Derived/Test/ToyasCard.lean, 'card_holds'). Laid BY PROGRAM, IN A SANDBOX (cutbox-door.mjs). By AI agents, Wed Nov 11 2026. No macro, syntax, notation, axiom, sorry.
-/
import Derived.Test.YtlmlpgmpdaepkaaDoorRows
import GoSem.ClaimSeven
namespace Go.Proofs.YtlmlpgmpdaepkaaDoor
namespace Rows

/-- THE TIED CARD OF 'glebelaw12.JprtNumbers'. -/
def jprtNumbersCard : Claim7 := { stood := { row := jprtNumbersRow, standIns := [], harness := (true, "228d08e0089c7b887cdbfad861df43ad0696bf58378123b15dc8aee6afe77dd7"), looks := true }, kinds := [], alts := [], laidByText := true, laidKinds := [.data, .data, .data, .data, .pinned], laidTests := true, laidLooks := .later }
def JprtNumbersCardSaid : Prop := Claim7.holds Tryd.pinned (.plain (OpenSpec.ofChange jprtNumbersSpec)) jprtNumbersCard

/-- THE TIED CARD OF 'glebelaw12.JprtBack'. -/
def jprtBackCard : Claim7 := { stood := { row := jprtBackRow, standIns := [], harness := (true, "228d08e0089c7b887cdbfad861df43ad0696bf58378123b15dc8aee6afe77dd7"), looks := true }, kinds := [], alts := [], laidByText := true, laidKinds := [.data, .data, .data, .data, .pinned], laidTests := true, laidLooks := .later }
def JprtBackCardSaid : Prop := Claim7.holds Tryd.pinned (.plain (OpenSpec.ofChange jprtBackSpec)) jprtBackCard

/-- THE TIED CARD OF 'glebelaw11.JsonDeep'. -/
def jsonDeepCard : Claim7 := { stood := { row := jsonDeepRow, standIns := [], harness := (true, "228d08e0089c7b887cdbfad861df43ad0696bf58378123b15dc8aee6afe77dd7"), looks := true }, kinds := [], alts := [], laidByText := true, laidKinds := [.data, .data, .data, .data, .sentinel, .sentinel, .pinned], laidTests := true, laidLooks := .later }
def JsonDeepCardSaid : Prop := Claim7.holds Tryd.pinned (.plain (OpenSpec.ofChange jsonDeepSpec)) jsonDeepCard

/-- THE TIED CARD OF 'glebelaw11.JsonBlanks'. -/
def jsonBlanksCard : Claim7 := { stood := { row := jsonBlanksRow, standIns := [], harness := (true, "228d08e0089c7b887cdbfad861df43ad0696bf58378123b15dc8aee6afe77dd7"), looks := true }, kinds := [], alts := [], laidByText := true, laidKinds := [.data, .data, .data, .data, .sentinel, .sentinel, .pinned], laidTests := true, laidLooks := .later }
def JsonBlanksCardSaid : Prop := Claim7.holds Tryd.pinned (.plain (OpenSpec.ofChange jsonBlanksSpec)) jsonBlanksCard

/-- THE TIED CARD OF 'glebelaw11.JsonSame'. -/
def jsonSameCard : Claim7 := { stood := { row := jsonSameRow, standIns := [], harness := (true, "228d08e0089c7b887cdbfad861df43ad0696bf58378123b15dc8aee6afe77dd7"), looks := true }, kinds := [], alts := [], laidByText := true, laidKinds := [.data, .data, .data, .data, .sentinel, .sentinel, .pinned], laidTests := true, laidLooks := .later }
def JsonSameCardSaid : Prop := Claim7.holds Tryd.pinned (.plain (OpenSpec.ofChange jsonSameSpec)) jsonSameCard

/-- THE SECOND FORM's CARD OF 'glebelaw12.JprtNumbers'. -/
def jprtNumbersUptoCard : Claim7 := { stood := { row := jprtNumbersUptoRow, standIns := [], harness := (true, "228d08e0089c7b887cdbfad861df43ad0696bf58378123b15dc8aee6afe77dd7"), looks := true }, kinds := [], alts := [], laidByText := true, laidKinds := [.data, .data, .data, .data, .pinned], laidTests := true, laidLooks := .later }
def JprtNumbersUptoCardSaid : Prop := Claim7.holds Tryd.pinned (.plain (OpenSpec.upto jprtNumbersSpec)) jprtNumbersUptoCard

/-- THE SECOND FORM's CARD OF 'glebelaw12.JprtBack'. -/
def jprtBackUptoCard : Claim7 := { stood := { row := jprtBackUptoRow, standIns := [], harness := (true, "228d08e0089c7b887cdbfad861df43ad0696bf58378123b15dc8aee6afe77dd7"), looks := true }, kinds := [], alts := [], laidByText := true, laidKinds := [.data, .data, .data, .data, .pinned], laidTests := true, laidLooks := .later }
def JprtBackUptoCardSaid : Prop := Claim7.holds Tryd.pinned (.plain (OpenSpec.upto jprtBackSpec)) jprtBackUptoCard

/-- THE SECOND FORM's CARD OF 'glebelaw11.JsonDeep'. -/
def jsonDeepUptoCard : Claim7 := { stood := { row := jsonDeepUptoRow, standIns := [], harness := (true, "228d08e0089c7b887cdbfad861df43ad0696bf58378123b15dc8aee6afe77dd7"), looks := true }, kinds := [], alts := [], laidByText := true, laidKinds := [.data, .data, .data, .data, .sentinel, .sentinel, .pinned], laidTests := true, laidLooks := .later }
def JsonDeepUptoCardSaid : Prop := Claim7.holds Tryd.pinned (.plain (OpenSpec.upto jsonDeepSpec)) jsonDeepUptoCard

/-- THE SECOND FORM's CARD OF 'glebelaw11.JsonBlanks'. -/
def jsonBlanksUptoCard : Claim7 := { stood := { row := jsonBlanksUptoRow, standIns := [], harness := (true, "228d08e0089c7b887cdbfad861df43ad0696bf58378123b15dc8aee6afe77dd7"), looks := true }, kinds := [], alts := [], laidByText := true, laidKinds := [.data, .data, .data, .data, .sentinel, .sentinel, .pinned], laidTests := true, laidLooks := .later }
def JsonBlanksUptoCardSaid : Prop := Claim7.holds Tryd.pinned (.plain (OpenSpec.upto jsonBlanksSpec)) jsonBlanksUptoCard

/-- THE SECOND FORM's CARD OF 'glebelaw11.JsonSame'. -/
def jsonSameUptoCard : Claim7 := { stood := { row := jsonSameUptoRow, standIns := [], harness := (true, "228d08e0089c7b887cdbfad861df43ad0696bf58378123b15dc8aee6afe77dd7"), looks := true }, kinds := [], alts := [], laidByText := true, laidKinds := [.data, .data, .data, .data, .sentinel, .sentinel, .pinned], laidTests := true, laidLooks := .later }
def JsonSameUptoCardSaid : Prop := Claim7.holds Tryd.pinned (.plain (OpenSpec.upto jsonSameSpec)) jsonSameUptoCard
end Rows
end Go.Proofs.YtlmlpgmpdaepkaaDoor
