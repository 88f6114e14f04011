/- EventBack. Part 21 of 30; no condition. -/
import Derived.Test.YtmgmbdnhodicjaaGreatDoorM20
set_option linter.unusedVariables false
set_option linter.unusedSimpArgs false
section
namespace Go.Proofs.YtmgmbdnhodicjaaGreatDoor
open Go Go.Am
end Go.Proofs.YtmgmbdnhodicjaaGreatDoor
end
