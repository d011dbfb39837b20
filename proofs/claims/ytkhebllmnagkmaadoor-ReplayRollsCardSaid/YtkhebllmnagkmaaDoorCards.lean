/-
  DERIVED. GIVEN WITH THE SEED: THE CARDS: each row of YtkhebllmnagkmaaDoorRows.lean that lists a variable, with what it lists TIED to the program's text (the seventh form; the later family's looks); each row that meets fmt, with fmt's text TOLD by the authors' own Lean function (tested against real Go, not proved from fmt's source: count such statements apart). THE CARD IS WHAT COUNTS. Prove the row's statement (the work); the ties are given (YtkhebllmnagkmaaDoorTie.lean); close each card by the builder's one call (the guide's Derived/Test/ToyasCard.lean, 'card_holds'). Laid BY PROGRAM, IN A SANDBOX (cutbox-door.mjs). By AI agents, Wed Nov 11 2026. No macro, syntax, notation, axiom, sorry.
-/
import Derived.Test.YtkhebllmnagkmaaDoorRows
import GoSem.ClaimSeven
namespace Go.Proofs.YtkhebllmnagkmaaDoor
namespace Rows

/-- THE TIED CARD OF 'reliquarylaw14.ReplayLatest'. -/
def replayLatestCard : Claim7 := { stood := { row := replayLatestRow, standIns := [], harness := (true, "04a3da5c009367402185cf112f61fa075c188906c1f425cc0032d89db0e54135"), looks := false }, kinds := [], alts := [], laidByText := true, laidKinds := [.data, .data], laidTests := true, laidLooks := .later }
def ReplayLatestCardSaid : Prop := Claim7.holds Tryd.pinned (.plain (OpenSpec.ofChange replayLatestSpec)) replayLatestCard

/-- THE TIED CARD OF 'reliquarylaw14.ReplayBack'. -/
def replayBackCard : Claim7 := { stood := { row := replayBackRow, standIns := [], harness := (true, "04a3da5c009367402185cf112f61fa075c188906c1f425cc0032d89db0e54135"), looks := false }, kinds := [], alts := [], laidByText := true, laidKinds := [.data, .data], laidTests := true, laidLooks := .later }
def ReplayBackCardSaid : Prop := Claim7.holds Tryd.pinned (.plain (OpenSpec.ofChange replayBackSpec)) replayBackCard

/-- THE TIED CARD OF 'reliquarylaw14.ReplayOld'. -/
def replayOldCard : Claim7 := { stood := { row := replayOldRow, standIns := [], harness := (true, "04a3da5c009367402185cf112f61fa075c188906c1f425cc0032d89db0e54135"), looks := false }, kinds := [], alts := [], laidByText := true, laidKinds := [.data, .data], laidTests := true, laidLooks := .later }
def ReplayOldCardSaid : Prop := Claim7.holds Tryd.pinned (.plain (OpenSpec.ofChange replayOldSpec)) replayOldCard

/-- THE TIED CARD OF 'reliquarylaw14.ReplayRolls'. -/
def replayRollsCard : Claim7 := { stood := { row := replayRollsRow, standIns := [], harness := (true, "04a3da5c009367402185cf112f61fa075c188906c1f425cc0032d89db0e54135"), looks := false }, kinds := [], alts := [], laidByText := true, laidKinds := [.data, .data], laidTests := true, laidLooks := .later }
def ReplayRollsCardSaid : Prop := Claim7.holds Tryd.pinned (.plain (OpenSpec.ofChange replayRollsSpec)) replayRollsCard

/-- THE SECOND FORM's CARD OF 'reliquarylaw14.ReplayLatest'. -/
def replayLatestUptoCard : Claim7 := { stood := { row := replayLatestUptoRow, standIns := [], harness := (true, "04a3da5c009367402185cf112f61fa075c188906c1f425cc0032d89db0e54135"), looks := false }, kinds := [], alts := [], laidByText := true, laidKinds := [.data, .data], laidTests := true, laidLooks := .later }
def ReplayLatestUptoCardSaid : Prop := Claim7.holds Tryd.pinned (.plain (OpenSpec.upto replayLatestSpec)) replayLatestUptoCard

/-- THE SECOND FORM's CARD OF 'reliquarylaw14.ReplayBack'. -/
def replayBackUptoCard : Claim7 := { stood := { row := replayBackUptoRow, standIns := [], harness := (true, "04a3da5c009367402185cf112f61fa075c188906c1f425cc0032d89db0e54135"), looks := false }, kinds := [], alts := [], laidByText := true, laidKinds := [.data, .data], laidTests := true, laidLooks := .later }
def ReplayBackUptoCardSaid : Prop := Claim7.holds Tryd.pinned (.plain (OpenSpec.upto replayBackSpec)) replayBackUptoCard

/-- THE SECOND FORM's CARD OF 'reliquarylaw14.ReplayOld'. -/
def replayOldUptoCard : Claim7 := { stood := { row := replayOldUptoRow, standIns := [], harness := (true, "04a3da5c009367402185cf112f61fa075c188906c1f425cc0032d89db0e54135"), looks := false }, kinds := [], alts := [], laidByText := true, laidKinds := [.data, .data], laidTests := true, laidLooks := .later }
def ReplayOldUptoCardSaid : Prop := Claim7.holds Tryd.pinned (.plain (OpenSpec.upto replayOldSpec)) replayOldUptoCard

/-- THE SECOND FORM's CARD OF 'reliquarylaw14.ReplayRolls'. -/
def replayRollsUptoCard : Claim7 := { stood := { row := replayRollsUptoRow, standIns := [], harness := (true, "04a3da5c009367402185cf112f61fa075c188906c1f425cc0032d89db0e54135"), looks := false }, kinds := [], alts := [], laidByText := true, laidKinds := [.data, .data], laidTests := true, laidLooks := .later }
def ReplayRollsUptoCardSaid : Prop := Claim7.holds Tryd.pinned (.plain (OpenSpec.upto replayRollsSpec)) replayRollsUptoCard
end Rows
end Go.Proofs.YtkhebllmnagkmaaDoor
