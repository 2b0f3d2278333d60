/-
  DERIVED. GIVEN WITH THE SEED: THE CARDS: each row of YtijochhhibgcaaaDoorRows.lean that lists a variable, with what it lists TIED to the program's text (the seventh form; the later family's looks); each row that meets fmt, with fmt's text TOLD by the authors' own Lean function (tested against real Go, not proved from fmt's source: count such statements apart). THE CARD IS WHAT COUNTS. Prove the row's statement (the work); the ties are given (YtijochhhibgcaaaDoorTie.lean); close each card by the builder's one call (the guide's Derived/Test/ToyasCard.lean, 'card_holds'). Laid BY PROGRAM, IN A SANDBOX (cutbox-door.mjs). By AI agents, Wed Nov 11 2026. No macro, syntax, notation, axiom, sorry.
-/
import Derived.Test.YtijochhhibgcaaaDoorRows
import GoSem.ClaimSeven
namespace Go.Proofs.YtijochhhibgcaaaDoor
namespace Rows

/-- THE TIED CARD OF 'ratchetlaw05.TypesCounts'. -/
def typesCountsCard : Claim7 := { stood := { row := typesCountsRow, standIns := [], harness := (true, "2e76185cdcb659faf3e48747997d4c9f9041411eb52d6a4d89648fdd8d70abd1"), looks := true }, kinds := [], alts := [], laidByText := true, laidKinds := [.data, .data, .data, .listed, .data], laidTests := true, laidLooks := .later }
def TypesCountsCardSaid : Prop := Claim7.holds Tryd.pinned (.plain (OpenSpec.ofChange typesCountsSpec)) typesCountsCard

/-- THE TIED CARD OF 'ratchetlaw05.TypesRolled'. -/
def typesRolledCard : Claim7 := { stood := { row := typesRolledRow, standIns := [], harness := (true, "2e76185cdcb659faf3e48747997d4c9f9041411eb52d6a4d89648fdd8d70abd1"), looks := true }, kinds := [], alts := [], laidByText := true, laidKinds := [.data, .data, .data, .listed, .data], laidTests := true, laidLooks := .later }
def TypesRolledCardSaid : Prop := Claim7.holds Tryd.pinned (.plain (OpenSpec.ofChange typesRolledSpec)) typesRolledCard

/-- THE TIED CARD OF 'ratchetlaw05.TypesParses'. -/
def typesParsesCard : Claim7 := { stood := { row := typesParsesRow, standIns := [], harness := (true, "2e76185cdcb659faf3e48747997d4c9f9041411eb52d6a4d89648fdd8d70abd1"), looks := true }, kinds := [], alts := [], laidByText := true, laidKinds := [.data, .data, .data, .sentinel, .sentinel, .listed, .data], laidTests := true, laidLooks := .later }
def TypesParsesCardSaid : Prop := Claim7.holds Tryd.pinned (.plain (OpenSpec.ofChange typesParsesSpec)) typesParsesCard

/-- THE TIED CARD OF 'ratchetlaw05.TypesReads'. -/
def typesReadsCard : Claim7 := { stood := { row := typesReadsRow, standIns := [], harness := (true, "2e76185cdcb659faf3e48747997d4c9f9041411eb52d6a4d89648fdd8d70abd1"), looks := true }, kinds := [], alts := [], laidByText := true, laidKinds := [.data, .data, .data, .sentinel, .sentinel, .listed, .data], laidTests := true, laidLooks := .later }
def TypesReadsCardSaid : Prop := Claim7.holds Tryd.pinned (.plain (OpenSpec.ofChange typesReadsSpec)) typesReadsCard

/-- THE SECOND FORM's CARD OF 'ratchetlaw05.TypesCounts'. -/
def typesCountsUptoCard : Claim7 := { stood := { row := typesCountsUptoRow, standIns := [], harness := (true, "2e76185cdcb659faf3e48747997d4c9f9041411eb52d6a4d89648fdd8d70abd1"), looks := true }, kinds := [], alts := [], laidByText := true, laidKinds := [.data, .data, .data, .listed, .data], laidTests := true, laidLooks := .later }
def TypesCountsUptoCardSaid : Prop := Claim7.holds Tryd.pinned (.plain (OpenSpec.upto typesCountsSpec)) typesCountsUptoCard

/-- THE SECOND FORM's CARD OF 'ratchetlaw05.TypesRolled'. -/
def typesRolledUptoCard : Claim7 := { stood := { row := typesRolledUptoRow, standIns := [], harness := (true, "2e76185cdcb659faf3e48747997d4c9f9041411eb52d6a4d89648fdd8d70abd1"), looks := true }, kinds := [], alts := [], laidByText := true, laidKinds := [.data, .data, .data, .listed, .data], laidTests := true, laidLooks := .later }
def TypesRolledUptoCardSaid : Prop := Claim7.holds Tryd.pinned (.plain (OpenSpec.upto typesRolledSpec)) typesRolledUptoCard

/-- THE SECOND FORM's CARD OF 'ratchetlaw05.TypesParses'. -/
def typesParsesUptoCard : Claim7 := { stood := { row := typesParsesUptoRow, standIns := [], harness := (true, "2e76185cdcb659faf3e48747997d4c9f9041411eb52d6a4d89648fdd8d70abd1"), looks := true }, kinds := [], alts := [], laidByText := true, laidKinds := [.data, .data, .data, .sentinel, .sentinel, .listed, .data], laidTests := true, laidLooks := .later }
def TypesParsesUptoCardSaid : Prop := Claim7.holds Tryd.pinned (.plain (OpenSpec.upto typesParsesSpec)) typesParsesUptoCard

/-- THE SECOND FORM's CARD OF 'ratchetlaw05.TypesReads'. -/
def typesReadsUptoCard : Claim7 := { stood := { row := typesReadsUptoRow, standIns := [], harness := (true, "2e76185cdcb659faf3e48747997d4c9f9041411eb52d6a4d89648fdd8d70abd1"), looks := true }, kinds := [], alts := [], laidByText := true, laidKinds := [.data, .data, .data, .sentinel, .sentinel, .listed, .data], laidTests := true, laidLooks := .later }
def TypesReadsUptoCardSaid : Prop := Claim7.holds Tryd.pinned (.plain (OpenSpec.upto typesReadsSpec)) typesReadsUptoCard
end Rows
end Go.Proofs.YtijochhhibgcaaaDoor
