/-
  DERIVED. GIVEN WITH THE SEED: THE CARDS: each row of YtjeffeobdpganaaGreatDoorRows.lean that lists a variable, with what it lists TIED to the program's text (the seventh form; the later family's looks); each row that meets fmt, with fmt's text TOLD by the authors' own Lean function (tested against real Go, not proved from fmt's source: count such statements apart). THE CARD IS WHAT COUNTS. Prove the row's statement (the work); the ties are given (YtjeffeobdpganaaGreatDoorTie.lean); close each card by the builder's one call (the guide's Derived/Test/ToyasCard.lean, 'card_holds'). Laid BY PROGRAM, IN A SANDBOX (cutbox-door.mjs). By AI agents, Wed Nov 11 2026. No macro, syntax, notation, axiom, sorry.
-/
import Derived.Test.YtjeffeobdpganaaGreatDoorRows
import GoSem.ClaimSeven
namespace Go.Proofs.YtjeffeobdpganaaGreatDoor
namespace Rows

/-- THE TIED CARD OF 'paddocklaw15.ProgramFlows'. -/
def programFlowsCard : Claim7 := { stood := { row := programFlowsRow, standIns := [], harness := (true, "545fab4860cbabbbb3f0fe22185d6a6ef12a297cd48fd9028f6bf25ef7fe4d71"), looks := true }, kinds := [], alts := [], laidByText := true, laidKinds := [.data, .data, .data, .data, .pinned], laidTests := true, laidLooks := .later }
def ProgramFlowsCardSaid : Prop := Claim7.holds Tryz.pinned (.plain (OpenSpec.ofChange programFlowsSpec)) programFlowsCard

/-- THE SECOND FORM's CARD OF 'paddocklaw15.ProgramFlows'. -/
def programFlowsUptoCard : Claim7 := { stood := { row := programFlowsUptoRow, standIns := [], harness := (true, "545fab4860cbabbbb3f0fe22185d6a6ef12a297cd48fd9028f6bf25ef7fe4d71"), looks := true }, kinds := [], alts := [], laidByText := true, laidKinds := [.data, .data, .data, .data, .pinned], laidTests := true, laidLooks := .later }
def ProgramFlowsUptoCardSaid : Prop := Claim7.holds Tryz.pinned (.plain (OpenSpec.upto programFlowsSpec)) programFlowsUptoCard
end Rows
end Go.Proofs.YtjeffeobdpganaaGreatDoor
