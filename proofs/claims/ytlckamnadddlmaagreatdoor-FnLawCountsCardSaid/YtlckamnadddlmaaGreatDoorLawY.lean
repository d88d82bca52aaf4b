import Derived.Test.YtlckamnadddlmaaGreatDoorLawVX
/- The walks of the laws on functions that answer with a law, given what both sides answer. -/
namespace Go.Proofs.YtlckamnadddlmaaGreatDoor
open Go.RowKit
set_option linter.unusedVariables false

end Go.Proofs.YtlckamnadddlmaaGreatDoor
