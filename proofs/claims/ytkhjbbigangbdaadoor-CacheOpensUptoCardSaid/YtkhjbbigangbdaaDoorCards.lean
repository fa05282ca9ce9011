/-
  DERIVED. GIVEN WITH THE SEED: THE CARDS: each row of YtkhjbbigangbdaaDoorRows.lean that lists a variable, with what it lists TIED to the program's text (the seventh form; the later family's looks); each row that meets fmt, with fmt's text TOLD by the authors' own Lean function (tested against real Go, not proved from fmt's source: count such statements apart). THE CARD IS WHAT COUNTS. Prove the row's statement (the work); the ties are given (YtkhjbbigangbdaaDoorTie.lean); close each card by the builder's one call (the guide's Derived/Test/ToyasCard.lean, 'card_holds'). Laid BY PROGRAM, IN A SANDBOX (cutbox-door.mjs). By AI agents, Wed Nov 11 2026. No macro, syntax, notation, axiom, sorry.
-/
import Derived.Test.YtkhjbbigangbdaaDoorRows
import GoSem.ClaimSeven
namespace Go.Proofs.YtkhjbbigangbdaaDoor
namespace Rows

/-- THE TIED CARD OF 'marginalialaw29.CacheOpens'. -/
def cacheOpensCard : Claim7 := { stood := { row := cacheOpensRow, standIns := [], harness := (true, "9f259318a51191ec0a14f2263720c3aef1bc8448af510da53ec25413cc0e5538"), looks := false }, kinds := [], alts := [], laidByText := true, laidKinds := [.widerDeep], laidTests := true, laidLooks := .later }
def CacheOpensCardSaid : Prop := Claim7.holds Tryd.pinned (.plain (OpenSpec.ofChange cacheOpensSpec)) cacheOpensCard

/-- THE SECOND FORM's CARD OF 'marginalialaw29.CacheOpens'. -/
def cacheOpensUptoCard : Claim7 := { stood := { row := cacheOpensUptoRow, standIns := [], harness := (true, "9f259318a51191ec0a14f2263720c3aef1bc8448af510da53ec25413cc0e5538"), looks := false }, kinds := [], alts := [], laidByText := true, laidKinds := [.widerDeep], laidTests := true, laidLooks := .later }
def CacheOpensUptoCardSaid : Prop := Claim7.holds Tryd.pinned (.plain (OpenSpec.upto cacheOpensSpec)) cacheOpensUptoCard
end Rows
end Go.Proofs.YtkhjbbigangbdaaDoor
