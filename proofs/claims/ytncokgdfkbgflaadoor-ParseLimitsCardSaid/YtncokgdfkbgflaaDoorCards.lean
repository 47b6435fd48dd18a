/-
  DERIVED. GIVEN WITH THE SEED: THE CARDS: each row of YtncokgdfkbgflaaDoorRows.lean that lists a variable, with what it lists TIED to the program's text (the seventh form; the later family's looks); each row that meets fmt, with fmt's text TOLD by the authors' own Lean function (tested against real Go, not proved from fmt's source: count such statements apart). THE CARD IS WHAT COUNTS. Prove the row's statement (the work); the ties are given (YtncokgdfkbgflaaDoorTie.lean); close each card by the builder's one call (the guide's Derived/Test/ToyasCard.lean, 'card_holds'). Laid BY PROGRAM, IN A SANDBOX (cutbox-door.mjs). By AI agents, Wed Nov 11 2026. No macro, syntax, notation, axiom, sorry.
-/
import Derived.Test.YtncokgdfkbgflaaDoorRows
import GoSem.ClaimSeven
namespace Go.Proofs.YtncokgdfkbgflaaDoor
namespace Rows

/-- THE TIED CARD OF 'shelfmarklaw11.ParseAll'. -/
def parseAllCard : Claim7 := { stood := { row := parseAllRow, standIns := [], harness := (true, "b5780a01a299d0a4eb1cfa2f9637976170e62c33c800462f2ef118ded39c1aa3"), looks := false }, kinds := [], alts := [], laidByText := true, laidKinds := [.data, .pinned], laidTests := true, laidLooks := .later }
def ParseAllCardSaid : Prop := Claim7.holds Tryd.pinned (.plain (OpenSpec.ofChange parseAllSpec)) parseAllCard

/-- THE TIED CARD OF 'shelfmarklaw11.ParseBack'. -/
def parseBackCard : Claim7 := { stood := { row := parseBackRow, standIns := [], harness := (true, "b5780a01a299d0a4eb1cfa2f9637976170e62c33c800462f2ef118ded39c1aa3"), looks := false }, kinds := [], alts := [], laidByText := true, laidKinds := [.data, .pinned], laidTests := true, laidLooks := .later }
def ParseBackCardSaid : Prop := Claim7.holds Tryd.pinned (.plain (OpenSpec.ofChange parseBackSpec)) parseBackCard

/-- THE TIED CARD OF 'shelfmarklaw11.ParseRepacks'. -/
def parseRepacksCard : Claim7 := { stood := { row := parseRepacksRow, standIns := [], harness := (true, "b5780a01a299d0a4eb1cfa2f9637976170e62c33c800462f2ef118ded39c1aa3"), looks := false }, kinds := [], alts := [], laidByText := true, laidKinds := [.data, .pinned], laidTests := true, laidLooks := .later }
def ParseRepacksCardSaid : Prop := Claim7.holds Tryd.pinned (.plain (OpenSpec.ofChange parseRepacksSpec)) parseRepacksCard

/-- THE TIED CARD OF 'shelfmarklaw11.ParseForms'. -/
def parseFormsCard : Claim7 := { stood := { row := parseFormsRow, standIns := [], harness := (true, "b5780a01a299d0a4eb1cfa2f9637976170e62c33c800462f2ef118ded39c1aa3"), looks := false }, kinds := [], alts := [], laidByText := true, laidKinds := [.data, .pinned], laidTests := true, laidLooks := .later }
def ParseFormsCardSaid : Prop := Claim7.holds Tryd.pinned (.plain (OpenSpec.ofChange parseFormsSpec)) parseFormsCard

/-- THE TIED CARD OF 'shelfmarklaw11.ParseLimits'. -/
def parseLimitsCard : Claim7 := { stood := { row := parseLimitsRow, standIns := [], harness := (true, "b5780a01a299d0a4eb1cfa2f9637976170e62c33c800462f2ef118ded39c1aa3"), looks := false }, kinds := [], alts := [], laidByText := true, laidKinds := [.data, .pinned], laidTests := true, laidLooks := .later }
def ParseLimitsCardSaid : Prop := Claim7.holds Tryd.pinned (.plain (OpenSpec.ofChange parseLimitsSpec)) parseLimitsCard

/-- THE TIED CARD OF 'shelfmarklaw11.ParseLong'. -/
def parseLongCard : Claim7 := { stood := { row := parseLongRow, standIns := [], harness := (true, "b5780a01a299d0a4eb1cfa2f9637976170e62c33c800462f2ef118ded39c1aa3"), looks := false }, kinds := [], alts := [], laidByText := true, laidKinds := [.data, .pinned], laidTests := true, laidLooks := .later }
def ParseLongCardSaid : Prop := Claim7.holds Tryd.pinned (.plain (OpenSpec.ofChange parseLongSpec)) parseLongCard

/-- THE TIED CARD OF 'shelfmarklaw11.ParsePieces'. -/
def parsePiecesCard : Claim7 := { stood := { row := parsePiecesRow, standIns := [], harness := (true, "b5780a01a299d0a4eb1cfa2f9637976170e62c33c800462f2ef118ded39c1aa3"), looks := false }, kinds := [], alts := [], laidByText := true, laidKinds := [.data, .pinned], laidTests := true, laidLooks := .later }
def ParsePiecesCardSaid : Prop := Claim7.holds Tryd.pinned (.plain (OpenSpec.ofChange parsePiecesSpec)) parsePiecesCard

/-- THE TIED CARD OF 'shelfmarklaw11.ParseCuts'. -/
def parseCutsCard : Claim7 := { stood := { row := parseCutsRow, standIns := [], harness := (true, "b5780a01a299d0a4eb1cfa2f9637976170e62c33c800462f2ef118ded39c1aa3"), looks := false }, kinds := [], alts := [], laidByText := true, laidKinds := [.data, .pinned], laidTests := true, laidLooks := .later }
def ParseCutsCardSaid : Prop := Claim7.holds Tryd.pinned (.plain (OpenSpec.ofChange parseCutsSpec)) parseCutsCard

/-- THE TIED CARD OF 'shelfmarklaw12.ScanAll'. -/
def scanAllCard : Claim7 := { stood := { row := scanAllRow, standIns := [], harness := (true, "b5780a01a299d0a4eb1cfa2f9637976170e62c33c800462f2ef118ded39c1aa3"), looks := false }, kinds := [], alts := [], laidByText := true, laidKinds := [.data, .pinned], laidTests := true, laidLooks := .later }
def ScanAllCardSaid : Prop := Claim7.holds Tryd.pinned (.plain (OpenSpec.ofChange scanAllSpec)) scanAllCard

/-- THE TIED CARD OF 'shelfmarklaw12.ScanMade'. -/
def scanMadeCard : Claim7 := { stood := { row := scanMadeRow, standIns := [], harness := (true, "b5780a01a299d0a4eb1cfa2f9637976170e62c33c800462f2ef118ded39c1aa3"), looks := false }, kinds := [], alts := [], laidByText := true, laidKinds := [.data, .pinned], laidTests := true, laidLooks := .later }
def ScanMadeCardSaid : Prop := Claim7.holds Tryd.pinned (.plain (OpenSpec.ofChange scanMadeSpec)) scanMadeCard

/-- THE SECOND FORM's CARD OF 'shelfmarklaw11.ParseAll'. -/
def parseAllUptoCard : Claim7 := { stood := { row := parseAllUptoRow, standIns := [], harness := (true, "b5780a01a299d0a4eb1cfa2f9637976170e62c33c800462f2ef118ded39c1aa3"), looks := false }, kinds := [], alts := [], laidByText := true, laidKinds := [.data, .pinned], laidTests := true, laidLooks := .later }
def ParseAllUptoCardSaid : Prop := Claim7.holds Tryd.pinned (.plain (OpenSpec.upto parseAllSpec)) parseAllUptoCard

/-- THE SECOND FORM's CARD OF 'shelfmarklaw11.ParseBack'. -/
def parseBackUptoCard : Claim7 := { stood := { row := parseBackUptoRow, standIns := [], harness := (true, "b5780a01a299d0a4eb1cfa2f9637976170e62c33c800462f2ef118ded39c1aa3"), looks := false }, kinds := [], alts := [], laidByText := true, laidKinds := [.data, .pinned], laidTests := true, laidLooks := .later }
def ParseBackUptoCardSaid : Prop := Claim7.holds Tryd.pinned (.plain (OpenSpec.upto parseBackSpec)) parseBackUptoCard

/-- THE SECOND FORM's CARD OF 'shelfmarklaw11.ParseRepacks'. -/
def parseRepacksUptoCard : Claim7 := { stood := { row := parseRepacksUptoRow, standIns := [], harness := (true, "b5780a01a299d0a4eb1cfa2f9637976170e62c33c800462f2ef118ded39c1aa3"), looks := false }, kinds := [], alts := [], laidByText := true, laidKinds := [.data, .pinned], laidTests := true, laidLooks := .later }
def ParseRepacksUptoCardSaid : Prop := Claim7.holds Tryd.pinned (.plain (OpenSpec.upto parseRepacksSpec)) parseRepacksUptoCard

/-- THE SECOND FORM's CARD OF 'shelfmarklaw11.ParseForms'. -/
def parseFormsUptoCard : Claim7 := { stood := { row := parseFormsUptoRow, standIns := [], harness := (true, "b5780a01a299d0a4eb1cfa2f9637976170e62c33c800462f2ef118ded39c1aa3"), looks := false }, kinds := [], alts := [], laidByText := true, laidKinds := [.data, .pinned], laidTests := true, laidLooks := .later }
def ParseFormsUptoCardSaid : Prop := Claim7.holds Tryd.pinned (.plain (OpenSpec.upto parseFormsSpec)) parseFormsUptoCard

/-- THE SECOND FORM's CARD OF 'shelfmarklaw11.ParseLimits'. -/
def parseLimitsUptoCard : Claim7 := { stood := { row := parseLimitsUptoRow, standIns := [], harness := (true, "b5780a01a299d0a4eb1cfa2f9637976170e62c33c800462f2ef118ded39c1aa3"), looks := false }, kinds := [], alts := [], laidByText := true, laidKinds := [.data, .pinned], laidTests := true, laidLooks := .later }
def ParseLimitsUptoCardSaid : Prop := Claim7.holds Tryd.pinned (.plain (OpenSpec.upto parseLimitsSpec)) parseLimitsUptoCard

/-- THE SECOND FORM's CARD OF 'shelfmarklaw11.ParseLong'. -/
def parseLongUptoCard : Claim7 := { stood := { row := parseLongUptoRow, standIns := [], harness := (true, "b5780a01a299d0a4eb1cfa2f9637976170e62c33c800462f2ef118ded39c1aa3"), looks := false }, kinds := [], alts := [], laidByText := true, laidKinds := [.data, .pinned], laidTests := true, laidLooks := .later }
def ParseLongUptoCardSaid : Prop := Claim7.holds Tryd.pinned (.plain (OpenSpec.upto parseLongSpec)) parseLongUptoCard

/-- THE SECOND FORM's CARD OF 'shelfmarklaw11.ParsePieces'. -/
def parsePiecesUptoCard : Claim7 := { stood := { row := parsePiecesUptoRow, standIns := [], harness := (true, "b5780a01a299d0a4eb1cfa2f9637976170e62c33c800462f2ef118ded39c1aa3"), looks := false }, kinds := [], alts := [], laidByText := true, laidKinds := [.data, .pinned], laidTests := true, laidLooks := .later }
def ParsePiecesUptoCardSaid : Prop := Claim7.holds Tryd.pinned (.plain (OpenSpec.upto parsePiecesSpec)) parsePiecesUptoCard

/-- THE SECOND FORM's CARD OF 'shelfmarklaw11.ParseCuts'. -/
def parseCutsUptoCard : Claim7 := { stood := { row := parseCutsUptoRow, standIns := [], harness := (true, "b5780a01a299d0a4eb1cfa2f9637976170e62c33c800462f2ef118ded39c1aa3"), looks := false }, kinds := [], alts := [], laidByText := true, laidKinds := [.data, .pinned], laidTests := true, laidLooks := .later }
def ParseCutsUptoCardSaid : Prop := Claim7.holds Tryd.pinned (.plain (OpenSpec.upto parseCutsSpec)) parseCutsUptoCard

/-- THE SECOND FORM's CARD OF 'shelfmarklaw12.ScanAll'. -/
def scanAllUptoCard : Claim7 := { stood := { row := scanAllUptoRow, standIns := [], harness := (true, "b5780a01a299d0a4eb1cfa2f9637976170e62c33c800462f2ef118ded39c1aa3"), looks := false }, kinds := [], alts := [], laidByText := true, laidKinds := [.data, .pinned], laidTests := true, laidLooks := .later }
def ScanAllUptoCardSaid : Prop := Claim7.holds Tryd.pinned (.plain (OpenSpec.upto scanAllSpec)) scanAllUptoCard

/-- THE SECOND FORM's CARD OF 'shelfmarklaw12.ScanMade'. -/
def scanMadeUptoCard : Claim7 := { stood := { row := scanMadeUptoRow, standIns := [], harness := (true, "b5780a01a299d0a4eb1cfa2f9637976170e62c33c800462f2ef118ded39c1aa3"), looks := false }, kinds := [], alts := [], laidByText := true, laidKinds := [.data, .pinned], laidTests := true, laidLooks := .later }
def ScanMadeUptoCardSaid : Prop := Claim7.holds Tryd.pinned (.plain (OpenSpec.upto scanMadeSpec)) scanMadeUptoCard
end Rows
end Go.Proofs.YtncokgdfkbgflaaDoor
