/- A part of the proof. -/
import Derived.Test.YtkhjbbigangbdaaGreatDoorM42
set_option linter.all false
namespace Go.Xe
open Go Go.Proofs
theorem keyRound3 : (roundK 3 (entsK 3) 3).map lookK = some (.normal, slK 4, some gW, some (gV wordsL), some (.map (entsK 4) 4 false), 1, true) := by kernel_rfl
theorem keyRound4 : (roundK 4 (entsK 4) 4).map lookK = some (.normal, slK 5, some gW, some (gV wordsL), some (.map (entsK 5) 5 false), 1, true) := by kernel_rfl
theorem keyRound5 : (roundK 5 (entsK 5) 5).map lookK = some (.normal, slK 6, some gW, some (gV wordsL), some (.map (entsK 6) 6 false), 1, true) := by kernel_rfl
end Go.Xe
