/- A part of the proof. -/
import Derived.Test.YtkhjbbigangbdaaGreatDoorM42
set_option linter.all false
namespace Go.Xe
open Go Go.Proofs
theorem keyRound6 : (roundK 6 (entsK 6) 6).map lookK = some (.normal, slK 7, some gW, some (gV wordsL), some (.map (entsK 7) 7 false), 1, true) := by kernel_rfl
theorem keyRound7 : (roundK 7 (entsK 7) 7).map lookK = some (.normal, slK 8, some gW, some (gV wordsL), some (.map (entsK 8) 8 false), 1, true) := by kernel_rfl
theorem keyRound8 : (roundK 8 (entsK 8) 8).map lookK = some (.normal, slK 9, some gW, some (gV wordsL), some (.map (entsK 9) 9 false), 1, true) := by kernel_rfl
end Go.Xe
