/- A part of the proof. -/
import Derived.Test.YtkhjbbigangbdaaGreatDoorM42
set_option linter.all false
namespace Go.Xe
open Go Go.Proofs
theorem keyRound9 : (roundK 9 (entsK 9) 9).map lookK = some (.normal, slK 10, some gW, some (gV wordsL), some (.map (entsK 10) 10 false), 1, true) := by kernel_rfl
theorem keyRound10 : (roundK 10 (entsK 10) 10).map lookK = some (.normal, slK 11, some gW, some (gV wordsL), some (.map (entsK 11) 11 false), 1, true) := by kernel_rfl
theorem keyRound11 : (roundK 11 (entsK 11) 11).map lookK = some (.normal, slK 12, some gW, some (gV wordsL), some (.map (entsK 12) 12 false), 1, true) := by kernel_rfl
end Go.Xe
