/-
  DERIVED. GIVEN WITH THE SEED: THE CARDS: each row of YtkhjbbigangbdaaGreatDoorRows.lean that lists a variable, with what it lists TIED to the program's text (the seventh form; the later family's looks); each row that meets fmt, with fmt's text TOLD by the authors' own Lean function (tested against real Go, not proved from fmt's source: count such statements apart). THE CARD IS WHAT COUNTS. Prove the row's statement (the work); the ties are given (YtkhjbbigangbdaaGreatDoorTie.lean); close each card by the builder's one call (the guide's Derived/Test/ToyasCard.lean, 'card_holds'). Laid BY PROGRAM, IN A SANDBOX (cutbox-door.mjs). By AI agents, Wed Nov 11 2026. No macro, syntax, notation, axiom, sorry.
-/
import Derived.Test.YtkhjbbigangbdaaGreatDoorRows
import GoSem.ClaimSeven
namespace Go.Proofs.YtkhjbbigangbdaaGreatDoor
namespace Rows

/-- THE TIED CARD OF 'marginalialaw29.CacheDisks'. -/
def cacheDisksCard : Claim7 := { stood := { row := cacheDisksRow, standIns := [], harness := (true, "7af299f9b9e7a191535364c17cb3e2b8a3818613ea96555389e0e12d3ca4dbdd"), looks := false }, kinds := [], alts := [], laidByText := true, laidKinds := [.widerDeep], laidTests := true, laidLooks := .later }
def CacheDisksCardSaid : Prop := Claim7.holds Tryz.pinned (.plain (OpenSpec.ofChange cacheDisksSpec)) cacheDisksCard

/-- THE SECOND FORM's CARD OF 'marginalialaw29.CacheDisks'. -/
def cacheDisksUptoCard : Claim7 := { stood := { row := cacheDisksUptoRow, standIns := [], harness := (true, "7af299f9b9e7a191535364c17cb3e2b8a3818613ea96555389e0e12d3ca4dbdd"), looks := false }, kinds := [], alts := [], laidByText := true, laidKinds := [.widerDeep], laidTests := true, laidLooks := .later }
def CacheDisksUptoCardSaid : Prop := Claim7.holds Tryz.pinned (.plain (OpenSpec.upto cacheDisksSpec)) cacheDisksUptoCard
end Rows
end Go.Proofs.YtkhjbbigangbdaaGreatDoor
