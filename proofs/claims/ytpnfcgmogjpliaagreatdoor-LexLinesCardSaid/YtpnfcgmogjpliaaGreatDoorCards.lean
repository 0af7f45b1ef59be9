/-
  DERIVED. GIVEN WITH THE SEED: THE CARDS: each row of YtpnfcgmogjpliaaGreatDoorRows.lean that lists a variable, with what it lists TIED to the program's text (the seventh form; the later family's looks); each row that meets fmt, with fmt's text TOLD by the authors' own Lean function (tested against real Go, not proved from fmt's source: count such statements apart). THE CARD IS WHAT COUNTS. Prove the row's statement (the work); the ties are given (YtpnfcgmogjpliaaGreatDoorTie.lean); close each card by the builder's one call (the guide's Derived/Test/ToyasCard.lean, 'card_holds'). Laid BY PROGRAM, IN A SANDBOX (cutbox-door.mjs). By AI agents, Wed Nov 11 2026. No macro, syntax, notation, axiom, sorry.
-/
import Derived.Test.YtpnfcgmogjpliaaGreatDoorRows
import GoSem.ClaimSeven
namespace Go.Proofs.YtpnfcgmogjpliaaGreatDoor
namespace Rows

/-- THE TIED CARD OF 'cabinetrylaw05.LexTokens'. -/
def lexTokensCard : Claim7 := { stood := { row := lexTokensRow, standIns := [], harness := (true, "3a65b1568720e77efdfb36bf2d9c4ef576db4f9b94f6775e14aecf870d1a4a68"), looks := false }, kinds := [], alts := [], laidByText := true, laidKinds := [.data, .pinned, .pinned], laidTests := true, laidLooks := .later }
def LexTokensCardSaid : Prop := Claim7.holds Tryz.pinned (.plain (OpenSpec.ofChange lexTokensSpec)) lexTokensCard

/-- THE TIED CARD OF 'cabinetrylaw05.LexJoins'. -/
def lexJoinsCard : Claim7 := { stood := { row := lexJoinsRow, standIns := [], harness := (true, "3a65b1568720e77efdfb36bf2d9c4ef576db4f9b94f6775e14aecf870d1a4a68"), looks := false }, kinds := [], alts := [], laidByText := true, laidKinds := [.data, .pinned, .pinned], laidTests := true, laidLooks := .later }
def LexJoinsCardSaid : Prop := Claim7.holds Tryz.pinned (.plain (OpenSpec.ofChange lexJoinsSpec)) lexJoinsCard

/-- THE TIED CARD OF 'cabinetrylaw05.LexLines'. -/
def lexLinesCard : Claim7 := { stood := { row := lexLinesRow, standIns := [], harness := (true, "3a65b1568720e77efdfb36bf2d9c4ef576db4f9b94f6775e14aecf870d1a4a68"), looks := false }, kinds := [], alts := [], laidByText := true, laidKinds := [.data, .pinned, .pinned], laidTests := true, laidLooks := .later }
def LexLinesCardSaid : Prop := Claim7.holds Tryz.pinned (.plain (OpenSpec.ofChange lexLinesSpec)) lexLinesCard

/-- THE TIED CARD OF 'cabinetrylaw05.LexStuffs'. -/
def lexStuffsCard : Claim7 := { stood := { row := lexStuffsRow, standIns := [], harness := (true, "3a65b1568720e77efdfb36bf2d9c4ef576db4f9b94f6775e14aecf870d1a4a68"), looks := false }, kinds := [], alts := [], laidByText := true, laidKinds := [.data, .pinned, .pinned], laidTests := true, laidLooks := .later }
def LexStuffsCardSaid : Prop := Claim7.holds Tryz.pinned (.plain (OpenSpec.ofChange lexStuffsSpec)) lexStuffsCard

/-- THE TIED CARD OF 'cabinetrylaw05.LexWheres'. -/
def lexWheresCard : Claim7 := { stood := { row := lexWheresRow, standIns := [], harness := (true, "3a65b1568720e77efdfb36bf2d9c4ef576db4f9b94f6775e14aecf870d1a4a68"), looks := false }, kinds := [], alts := [], laidByText := true, laidKinds := [.data, .pinned, .pinned], laidTests := true, laidLooks := .later }
def LexWheresCardSaid : Prop := Claim7.holds Tryz.pinned (.plain (OpenSpec.ofChange lexWheresSpec)) lexWheresCard

/-- THE SECOND FORM's CARD OF 'cabinetrylaw05.LexTokens'. -/
def lexTokensUptoCard : Claim7 := { stood := { row := lexTokensUptoRow, standIns := [], harness := (true, "3a65b1568720e77efdfb36bf2d9c4ef576db4f9b94f6775e14aecf870d1a4a68"), looks := false }, kinds := [], alts := [], laidByText := true, laidKinds := [.data, .pinned, .pinned], laidTests := true, laidLooks := .later }
def LexTokensUptoCardSaid : Prop := Claim7.holds Tryz.pinned (.plain (OpenSpec.upto lexTokensSpec)) lexTokensUptoCard

/-- THE SECOND FORM's CARD OF 'cabinetrylaw05.LexJoins'. -/
def lexJoinsUptoCard : Claim7 := { stood := { row := lexJoinsUptoRow, standIns := [], harness := (true, "3a65b1568720e77efdfb36bf2d9c4ef576db4f9b94f6775e14aecf870d1a4a68"), looks := false }, kinds := [], alts := [], laidByText := true, laidKinds := [.data, .pinned, .pinned], laidTests := true, laidLooks := .later }
def LexJoinsUptoCardSaid : Prop := Claim7.holds Tryz.pinned (.plain (OpenSpec.upto lexJoinsSpec)) lexJoinsUptoCard

/-- THE SECOND FORM's CARD OF 'cabinetrylaw05.LexLines'. -/
def lexLinesUptoCard : Claim7 := { stood := { row := lexLinesUptoRow, standIns := [], harness := (true, "3a65b1568720e77efdfb36bf2d9c4ef576db4f9b94f6775e14aecf870d1a4a68"), looks := false }, kinds := [], alts := [], laidByText := true, laidKinds := [.data, .pinned, .pinned], laidTests := true, laidLooks := .later }
def LexLinesUptoCardSaid : Prop := Claim7.holds Tryz.pinned (.plain (OpenSpec.upto lexLinesSpec)) lexLinesUptoCard

/-- THE SECOND FORM's CARD OF 'cabinetrylaw05.LexStuffs'. -/
def lexStuffsUptoCard : Claim7 := { stood := { row := lexStuffsUptoRow, standIns := [], harness := (true, "3a65b1568720e77efdfb36bf2d9c4ef576db4f9b94f6775e14aecf870d1a4a68"), looks := false }, kinds := [], alts := [], laidByText := true, laidKinds := [.data, .pinned, .pinned], laidTests := true, laidLooks := .later }
def LexStuffsUptoCardSaid : Prop := Claim7.holds Tryz.pinned (.plain (OpenSpec.upto lexStuffsSpec)) lexStuffsUptoCard

/-- THE SECOND FORM's CARD OF 'cabinetrylaw05.LexWheres'. -/
def lexWheresUptoCard : Claim7 := { stood := { row := lexWheresUptoRow, standIns := [], harness := (true, "3a65b1568720e77efdfb36bf2d9c4ef576db4f9b94f6775e14aecf870d1a4a68"), looks := false }, kinds := [], alts := [], laidByText := true, laidKinds := [.data, .pinned, .pinned], laidTests := true, laidLooks := .later }
def LexWheresUptoCardSaid : Prop := Claim7.holds Tryz.pinned (.plain (OpenSpec.upto lexWheresSpec)) lexWheresUptoCard
end Rows
end Go.Proofs.YtpnfcgmogjpliaaGreatDoor
