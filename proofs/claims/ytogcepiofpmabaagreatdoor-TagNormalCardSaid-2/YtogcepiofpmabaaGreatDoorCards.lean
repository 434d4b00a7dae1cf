/-
  DERIVED. GIVEN WITH THE SEED: THE CARDS: each row of YtogcepiofpmabaaGreatDoorRows.lean that lists a variable, with what it lists TIED to the program's text (the seventh form; the later family's looks); each row that meets fmt, with fmt's text TOLD by the authors' own Lean function (tested against real Go, not proved from fmt's source: count such statements apart). THE CARD IS WHAT COUNTS. Prove the row's statement (the work); the ties are given (YtogcepiofpmabaaGreatDoorTie.lean); close each card by the builder's one call (the guide's Derived/Test/ToyasCard.lean, 'card_holds'). Laid BY PROGRAM, IN A SANDBOX (cutbox-door.mjs). By AI agents, Wed Nov 11 2026. No macro, syntax, notation, axiom, sorry.
-/
import Derived.Test.YtogcepiofpmabaaGreatDoorRows
import GoSem.ClaimSeven
namespace Go.Proofs.YtogcepiofpmabaaGreatDoor
namespace Rows

/-- THE TIED CARD OF 'tempolaw24.TagPrints'. -/
def tagPrintsCard : Claim7 := { stood := { row := tagPrintsRow, standIns := [], harness := (true, "a7cb0ef341ab509e2bf743b274e986f8ca532ad747f530f6a62b15599efe3c90"), looks := true }, kinds := [], alts := [], laidByText := true, laidKinds := [.data, .data, .data, .data, .sentinel, .sentinel, .data, .data, .data, .pinned], laidTests := true, laidLooks := .later }
def TagPrintsCardSaid : Prop := Claim7.holds Tryz.pinned (.plain (OpenSpec.ofChange tagPrintsSpec)) tagPrintsCard

/-- THE TIED CARD OF 'tempolaw24.TagWords'. -/
def tagWordsCard : Claim7 := { stood := { row := tagWordsRow, standIns := [], harness := (true, "a7cb0ef341ab509e2bf743b274e986f8ca532ad747f530f6a62b15599efe3c90"), looks := true }, kinds := [], alts := [], laidByText := true, laidKinds := [.data, .data, .data, .data, .sentinel, .sentinel, .data, .data, .data, .pinned], laidTests := true, laidLooks := .later }
def TagWordsCardSaid : Prop := Claim7.holds Tryz.pinned (.plain (OpenSpec.ofChange tagWordsSpec)) tagWordsCard

/-- THE TIED CARD OF 'tempolaw24.TagOnes'. -/
def tagOnesCard : Claim7 := { stood := { row := tagOnesRow, standIns := [], harness := (true, "a7cb0ef341ab509e2bf743b274e986f8ca532ad747f530f6a62b15599efe3c90"), looks := true }, kinds := [], alts := [], laidByText := true, laidKinds := [.data, .data, .data, .data, .sentinel, .sentinel, .data, .data, .data, .pinned], laidTests := true, laidLooks := .later }
def TagOnesCardSaid : Prop := Claim7.holds Tryz.pinned (.plain (OpenSpec.ofChange tagOnesSpec)) tagOnesCard

/-- THE TIED CARD OF 'tempolaw24.TagRefuses'. -/
def tagRefusesCard : Claim7 := { stood := { row := tagRefusesRow, standIns := [], harness := (true, "a7cb0ef341ab509e2bf743b274e986f8ca532ad747f530f6a62b15599efe3c90"), looks := true }, kinds := [], alts := [], laidByText := true, laidKinds := [.data, .data, .data, .data, .sentinel, .sentinel, .data, .data, .data, .pinned], laidTests := true, laidLooks := .later }
def TagRefusesCardSaid : Prop := Claim7.holds Tryz.pinned (.plain (OpenSpec.ofChange tagRefusesSpec)) tagRefusesCard

/-- THE TIED CARD OF 'tempolaw24.TagNormal'. -/
def tagNormalCard : Claim7 := { stood := { row := tagNormalRow, standIns := [], harness := (true, "a7cb0ef341ab509e2bf743b274e986f8ca532ad747f530f6a62b15599efe3c90"), looks := true }, kinds := [], alts := [], laidByText := true, laidKinds := [.data, .data, .data, .data, .sentinel, .sentinel, .data, .data, .data, .pinned], laidTests := true, laidLooks := .later }
def TagNormalCardSaid : Prop := Claim7.holds Tryz.pinned (.plain (OpenSpec.ofChange tagNormalSpec)) tagNormalCard

/-- THE SECOND FORM's CARD OF 'tempolaw24.TagPrints'. -/
def tagPrintsUptoCard : Claim7 := { stood := { row := tagPrintsUptoRow, standIns := [], harness := (true, "a7cb0ef341ab509e2bf743b274e986f8ca532ad747f530f6a62b15599efe3c90"), looks := true }, kinds := [], alts := [], laidByText := true, laidKinds := [.data, .data, .data, .data, .sentinel, .sentinel, .data, .data, .data, .pinned], laidTests := true, laidLooks := .later }
def TagPrintsUptoCardSaid : Prop := Claim7.holds Tryz.pinned (.plain (OpenSpec.upto tagPrintsSpec)) tagPrintsUptoCard

/-- THE SECOND FORM's CARD OF 'tempolaw24.TagWords'. -/
def tagWordsUptoCard : Claim7 := { stood := { row := tagWordsUptoRow, standIns := [], harness := (true, "a7cb0ef341ab509e2bf743b274e986f8ca532ad747f530f6a62b15599efe3c90"), looks := true }, kinds := [], alts := [], laidByText := true, laidKinds := [.data, .data, .data, .data, .sentinel, .sentinel, .data, .data, .data, .pinned], laidTests := true, laidLooks := .later }
def TagWordsUptoCardSaid : Prop := Claim7.holds Tryz.pinned (.plain (OpenSpec.upto tagWordsSpec)) tagWordsUptoCard

/-- THE SECOND FORM's CARD OF 'tempolaw24.TagOnes'. -/
def tagOnesUptoCard : Claim7 := { stood := { row := tagOnesUptoRow, standIns := [], harness := (true, "a7cb0ef341ab509e2bf743b274e986f8ca532ad747f530f6a62b15599efe3c90"), looks := true }, kinds := [], alts := [], laidByText := true, laidKinds := [.data, .data, .data, .data, .sentinel, .sentinel, .data, .data, .data, .pinned], laidTests := true, laidLooks := .later }
def TagOnesUptoCardSaid : Prop := Claim7.holds Tryz.pinned (.plain (OpenSpec.upto tagOnesSpec)) tagOnesUptoCard
end Rows
end Go.Proofs.YtogcepiofpmabaaGreatDoor
