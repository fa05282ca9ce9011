/- A part of the proof. -/
import Derived.Test.YtkhjbbigangbdaaGreatDoorM38
import Derived.Test.YtkhjbbigangbdaaGreatDoorM40
set_option linter.all false
namespace Go.Xe
open Go Go.Proofs
def orcKy : Orc := fun f => if f = 55 then some sumF else none
theorem okOrcKy : OrcSound Tryz.prog orcKy := fun f F h => by
 unfold orcKy at h
 split at h
 ·cases h; rename_i hf; subst hf; exact sumF_sound
 ·cases h
noncomputable abbrev xky : XCall := xgoO Tryz.prog okN orcKy kp 100
theorem callKy : CallSound Tryz.prog xky := xgoO_sound mixed okN_ok okN_good okOrcKy kp 100
noncomputable abbrev body31c : Code := sub (codeOf Tryz.prog 29) [1, 1, 0, 1, 0, 0]
def slK (i : Int) : XAct := [none, some (.map (some 4)), none, none, none, none, none, some (.int .i64 i)] ++ List.replicate 29 none
def entK (n : Nat) (k : List UInt8) : MapEntry := ⟨.string ⟨k.toArray⟩, .bool true, n⟩
def stK (es : List MapEntry) (n : Nat) : St := tri gW (gV wordsL) none none [(4, .map es n false)] 5
def lookK (r : XE × XAct × St) : XE × XAct × Option Ent × Option Ent × Option Ent × Nat × Bool := (r.1, r.2.1, r.2.2.heap.get 0, r.2.2.heap.get 1, r.2.2.heap.get 4, r.2.2.glob, Nat.ble 5 r.2.2.next)
noncomputable def roundK (i : Int) (es : List MapEntry) (n : Nat) : Option (XE × XAct × St) := xcode Tryz.prog okN xky (kp 29) 100 body31c (slK i) (stK es n)
end Go.Xe
