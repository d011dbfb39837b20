/-
  DERIVED. GIVEN WITH THE SEED: THE CARDS: each row of YtkhebllmnagkmaaGreatDoorRows.lean that lists a variable, with what it lists TIED to the program's text (the seventh form; the later family's looks); each row that meets fmt, with fmt's text TOLD by the authors' own Lean function (tested against real Go, not proved from fmt's source: count such statements apart). THE CARD IS WHAT COUNTS. Prove the row's statement (the work); the ties are given (YtkhebllmnagkmaaGreatDoorTie.lean); close each card by the builder's one call (the guide's Derived/Test/ToyasCard.lean, 'card_holds'). Laid BY PROGRAM, IN A SANDBOX (cutbox-door.mjs). By AI agents, Wed Nov 11 2026. No macro, syntax, notation, axiom, sorry.
-/
import Derived.Test.YtkhebllmnagkmaaGreatDoorRows
import GoSem.ClaimSeven
namespace Go.Proofs.YtkhebllmnagkmaaGreatDoor
namespace Rows

/-- THE TIED CARD OF 'reliquarylaw14.ReplayCuts'. -/
def replayCutsCard : Claim7 := { stood := { row := replayCutsRow, standIns := [], harness := (true, "f8f31ded7a51777549c9bdc3759269be1246ad6f5e9a62a40abc97bca4d6f1b3"), looks := false }, kinds := [], alts := [], laidByText := true, laidKinds := [.data, .data], laidTests := true, laidLooks := .later }
def ReplayCutsCardSaid : Prop := Claim7.holds Tryz.pinned (.plain (OpenSpec.ofChange replayCutsSpec)) replayCutsCard

/-- THE TIED CARD OF 'reliquarylaw14.ReplayLoads'. -/
def replayLoadsCard : Claim7 := { stood := { row := replayLoadsRow, standIns := [], harness := (true, "f8f31ded7a51777549c9bdc3759269be1246ad6f5e9a62a40abc97bca4d6f1b3"), looks := false }, kinds := [], alts := [], laidByText := true, laidKinds := [.data, .data], laidTests := true, laidLooks := .later }
def ReplayLoadsCardSaid : Prop := Claim7.holds Tryz.pinned (.plain (OpenSpec.ofChange replayLoadsSpec)) replayLoadsCard

/-- THE SECOND FORM's CARD OF 'reliquarylaw14.ReplayCuts'. -/
def replayCutsUptoCard : Claim7 := { stood := { row := replayCutsUptoRow, standIns := [], harness := (true, "f8f31ded7a51777549c9bdc3759269be1246ad6f5e9a62a40abc97bca4d6f1b3"), looks := false }, kinds := [], alts := [], laidByText := true, laidKinds := [.data, .data], laidTests := true, laidLooks := .later }
def ReplayCutsUptoCardSaid : Prop := Claim7.holds Tryz.pinned (.plain (OpenSpec.upto replayCutsSpec)) replayCutsUptoCard

/-- THE SECOND FORM's CARD OF 'reliquarylaw14.ReplayLoads'. -/
def replayLoadsUptoCard : Claim7 := { stood := { row := replayLoadsUptoRow, standIns := [], harness := (true, "f8f31ded7a51777549c9bdc3759269be1246ad6f5e9a62a40abc97bca4d6f1b3"), looks := false }, kinds := [], alts := [], laidByText := true, laidKinds := [.data, .data], laidTests := true, laidLooks := .later }
def ReplayLoadsUptoCardSaid : Prop := Claim7.holds Tryz.pinned (.plain (OpenSpec.upto replayLoadsSpec)) replayLoadsUptoCard
end Rows
end Go.Proofs.YtkhebllmnagkmaaGreatDoor
