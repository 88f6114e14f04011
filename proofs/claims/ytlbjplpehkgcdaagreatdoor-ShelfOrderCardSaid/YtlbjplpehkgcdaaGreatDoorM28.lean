/- ShelfOrder holds. Part 28 of 32; no condition. -/
import Derived.Test.YtlbjplpehkgcdaaGreatDoorM27
set_option linter.unusedVariables false
set_option linter.unusedSimpArgs false
set_option maxHeartbeats 4000000
set_option maxRecDepth 100000
