/-
  NARROWER THAN 'FOR EVERY INPUT', by the rows' own cells (each row's printed sentence says how): CacheDisks: laid.
  DERIVED. THE GIVEN ROWS OF THIS SEAT. 1 by the template 'for every input the law returns true; each argument reads behind the call as it read before'; 0 by the template 'total and deterministic' (their statements: YtkhjbbigangbdaaGreatDoorTotals.lean).
  GIVEN WITH THE SEED: the statements are not yours to turn. If you find one false, say at which input.
  Laid BY PROGRAM, IN A SANDBOX (cutbox-rows.mjs): the forced cells as the released guide's own fill.sh prints them over the translation 7aed7a2c1d51e729… (all of the seat's roots in one cut). By AI agents, Wed Nov 11 2026. No macro, syntax, notation, axiom, sorry.
-/
import Derived.Test.YtkhjbbigangbdaaGreatDoorChecked
import GoSem.Claim
import GoSem.ClaimJoined
import GoSem.ClaimMapViews
import Derived.JoinedTies
import Derived.KernelRfl
namespace Go.Proofs.YtkhjbbigangbdaaGreatDoor
/- THE CELL 'sum', in the pinned program and in every row, IS THE sha256 OF THE DUMP (.gsa) THAT YtkhjbbigangbdaaGreatDoorProg.lean LOADS. Nothing in Lean hashes anything: it is a label: what it is worth is what the hold of that sum in a sandbox is worth. -/
noncomputable def Tryz.pinned : Pinned := { name := "ytkhjbbigangbdaagreatdoor", sum := "7aed7a2c1d51e72940c3270447172a6c7642c47896c2803f9435d0b995ac0f3e", checked := Tryz.checked }
namespace Rows
def none {H : Type} : Left H := { results := [], args := [] }

/- WHAT THE LISTED PACKAGE-LEVEL VARIABLES READ AS WHEN THE CALL BEGINS. Each datum BY PROGRAM (the guide's laid-datum.mjs) off the statement by which the dump's own 'gosem.cut.vars' lays the variable. In a bare row this is a premise. The card (YtkhjbbigangbdaaGreatDoorCards.lean) ties it to the program's text. -/
def laid_marginalia_value_words {H : Type} : DataW H := .slice [.lit (.string [105, 109, 112, 111, 114, 116]), .lit (.string [116, 121, 112, 101]), .lit (.string [100, 101, 102]), .lit (.string [108, 101, 116]), .lit (.string [105, 110]), .lit (.string [105, 102]), .lit (.string [116, 104, 101, 110]), .lit (.string [101, 108, 115, 101]), .lit (.string [109, 97, 116, 99, 104]), .lit (.string [102, 110]), .lit (.string [116, 114, 117, 101]), .lit (.string [102, 97, 108, 115, 101])] []

/-- 'marginalialaw29.CacheDisks': WHATEVER THE INPUT: true; the input reads as it did. -/
def cacheDisksSpec : ChangeSpec := { name := "cacheDisks", fn := fun _ => fun
  | [d1, d2] => { results := [.lit (.bool true)], args := [d1, d2] }
  | _ => none }
def cacheDisksRow : OpenClaim := { program := "ytkhjbbigangbdaagreatdoor", sum := "7aed7a2c1d51e72940c3270447172a6c7642c47896c2803f9435d0b995ac0f3e", func := "marginalia/marginalialaw29.CacheDisks", spec := "cacheDisks", unfollowed := true, recurses := true, named := ["marginalia/value.words"], plainKeys := false, apart := false, laid := [("marginalia/value.words", laid_marginalia_value_words)] }
def CacheDisksSaid : Prop := cacheDisksRow.holds Tryz.pinned (OpenSpec.ofChange cacheDisksSpec)

/-- ITS FALSE NEIGHBOUR: 'it returns false'. Refute it at one input. -/
def cacheDisksWrong : ChangeSpec := { name := "cacheDisks", fn := fun _ => fun
  | [d1, d2] => { results := [.lit (.bool false)], args := [d1, d2] }
  | _ => none }
def CacheDisksWrongFalsely : Prop := cacheDisksRow.holds Tryz.pinned (OpenSpec.ofChange cacheDisksWrong)

/- THE SECOND FORM. 'bulk': how many values and letters a reading holds, each counted each time it is reached (what is shared counts as often as it is met; a slice's spare places count too). A statement '..UptoSaid' is the law's where the arguments, and the package variables that the reading takes, are together of bulk at most 1048576: NARROWER than '..Said'. Prove '..Said' where nothing that the law and all that it calls make is longer than what came in: it says more and counts as full. Else prove '..UptoSaid'. A law counts once. -/
mutual
def uptoBulk {H : Type} : DataW H → Nat
  | .lit (.string bytes) => bytes.length + 1
  | .lit _ => 1
  | .nil => 1
  | .ptr d => uptoBulk d + 1
  | .slice elems spare => uptoBulkAll elems + uptoBulkAll spare + 1
  | .agg parts => uptoBulkAll parts + 1
  | .iface _ d => uptoBulk d + 1
  | .map entries => uptoBulkEntries entries + 1
  | .held _ => 1
def uptoBulkAll {H : Type} : List (DataW H) → Nat
  | [] => 0
  | d :: r => uptoBulk d + uptoBulkAll r
def uptoBulkEntries {H : Type} : List (Lit × DataW H) → Nat
  | [] => 0
  | x :: r => uptoBulkEntry x + uptoBulkEntries r
def uptoBulkEntry {H : Type} : Lit × DataW H → Nat
  | (.string bytes, d) => bytes.length + uptoBulk d + 1
  | (_, d) => uptoBulk d + 1
 end
def uptoSmall : (H : Type) → List (DataW H) → Bool := fun _ ds => decide (uptoBulkAll ds ≤ 1048576)
def OpenSpec.upto (s : _root_.Go.ChangeSpec) : _root_.Go.OpenSpec := { _root_.Go.OpenSpec.ofChange s with cond := some uptoSmall }

/-- 'marginalialaw29.CacheDisks', WHERE WHAT IT READS IS OF BULK AT MOST 1048576: true; the input reads as it did. -/
def cacheDisksUptoRow : OpenClaim := { program := "ytkhjbbigangbdaagreatdoor", sum := "7aed7a2c1d51e72940c3270447172a6c7642c47896c2803f9435d0b995ac0f3e", func := "marginalia/marginalialaw29.CacheDisks", spec := "cacheDisks", unfollowed := true, recurses := true, named := ["marginalia/value.words"], plainKeys := false, apart := false, laid := [("marginalia/value.words", laid_marginalia_value_words)], narrowed := true }
def CacheDisksUptoSaid : Prop := cacheDisksUptoRow.holds Tryz.pinned (OpenSpec.upto cacheDisksSpec)

end Rows
end Go.Proofs.YtkhjbbigangbdaaGreatDoor
