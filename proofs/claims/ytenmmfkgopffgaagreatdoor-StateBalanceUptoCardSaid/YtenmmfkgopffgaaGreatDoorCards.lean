/-
  DERIVED. GIVEN WITH THE SEED: THE CARDS: each row of YtenmmfkgopffgaaGreatDoorRows.lean that lists a variable, with what it lists TIED to the program's text (the seventh form; the later family's looks); each row that meets fmt, with fmt's text TOLD by the authors' own Lean function (tested against real Go, not proved from fmt's source: count such statements apart). THE CARD IS WHAT COUNTS. Prove the row's statement (the work); the ties are given (YtenmmfkgopffgaaGreatDoorTie.lean); close each card by the builder's one call (the guide's Derived/Test/ToyasCard.lean, 'card_holds'). Laid BY PROGRAM, IN A SANDBOX (cutbox-door.mjs). By AI agents, Wed Nov 11 2026. No macro, syntax, notation, axiom, sorry.
-/
import Derived.Test.YtenmmfkgopffgaaGreatDoorRows
import GoSem.ClaimSeven
namespace Go.Proofs.YtenmmfkgopffgaaGreatDoor
namespace Rows

/-- THE TIED CARD OF 'stokvellaw41.StateBack'. -/
def stateBackCard : Claim7 := { stood := { row := stateBackRow, standIns := [], harness := (true, "f79765e10e14dd2e4a244672131671e59e0dcda3fdd7e8722c877df98ad8aa2a"), looks := true }, kinds := [], alts := [], laidByText := true, laidKinds := [.data, .data, .data, .sentinel, .sentinel], laidTests := true, laidLooks := .later }
def StateBackCardSaid : Prop := Claim7.holds Tryz.pinned (.plain (OpenSpec.ofChange stateBackSpec)) stateBackCard

/-- THE TIED CARD OF 'stokvellaw41.StateCopies'. -/
def stateCopiesCard : Claim7 := { stood := { row := stateCopiesRow, standIns := [], harness := (true, "f79765e10e14dd2e4a244672131671e59e0dcda3fdd7e8722c877df98ad8aa2a"), looks := true }, kinds := [], alts := [], laidByText := true, laidKinds := [.data, .data, .data, .sentinel, .sentinel], laidTests := true, laidLooks := .later }
def StateCopiesCardSaid : Prop := Claim7.holds Tryz.pinned (.plain (OpenSpec.ofChange stateCopiesSpec)) stateCopiesCard

/-- THE TIED CARD OF 'stokvellaw41.StateBalance'. -/
def stateBalanceCard : Claim7 := { stood := { row := stateBalanceRow, standIns := [], harness := (true, "f79765e10e14dd2e4a244672131671e59e0dcda3fdd7e8722c877df98ad8aa2a"), looks := true }, kinds := [], alts := [], laidByText := true, laidKinds := [.data, .data, .data, .sentinel, .sentinel], laidTests := true, laidLooks := .later }
def StateBalanceCardSaid : Prop := Claim7.holds Tryz.pinned (.plain (OpenSpec.ofChange stateBalanceSpec)) stateBalanceCard

/-- THE SECOND FORM's CARD OF 'stokvellaw41.StateBack'. -/
def stateBackUptoCard : Claim7 := { stood := { row := stateBackUptoRow, standIns := [], harness := (true, "f79765e10e14dd2e4a244672131671e59e0dcda3fdd7e8722c877df98ad8aa2a"), looks := true }, kinds := [], alts := [], laidByText := true, laidKinds := [.data, .data, .data, .sentinel, .sentinel], laidTests := true, laidLooks := .later }
def StateBackUptoCardSaid : Prop := Claim7.holds Tryz.pinned (.plain (OpenSpec.upto stateBackSpec)) stateBackUptoCard

/-- THE SECOND FORM's CARD OF 'stokvellaw41.StateCopies'. -/
def stateCopiesUptoCard : Claim7 := { stood := { row := stateCopiesUptoRow, standIns := [], harness := (true, "f79765e10e14dd2e4a244672131671e59e0dcda3fdd7e8722c877df98ad8aa2a"), looks := true }, kinds := [], alts := [], laidByText := true, laidKinds := [.data, .data, .data, .sentinel, .sentinel], laidTests := true, laidLooks := .later }
def StateCopiesUptoCardSaid : Prop := Claim7.holds Tryz.pinned (.plain (OpenSpec.upto stateCopiesSpec)) stateCopiesUptoCard

/-- THE SECOND FORM's CARD OF 'stokvellaw41.StateBalance'. -/
def stateBalanceUptoCard : Claim7 := { stood := { row := stateBalanceUptoRow, standIns := [], harness := (true, "f79765e10e14dd2e4a244672131671e59e0dcda3fdd7e8722c877df98ad8aa2a"), looks := true }, kinds := [], alts := [], laidByText := true, laidKinds := [.data, .data, .data, .sentinel, .sentinel], laidTests := true, laidLooks := .later }
def StateBalanceUptoCardSaid : Prop := Claim7.holds Tryz.pinned (.plain (OpenSpec.upto stateBalanceSpec)) stateBalanceUptoCard
end Rows
end Go.Proofs.YtenmmfkgopffgaaGreatDoor
