import Derived.Test.YtlckamnadddlmaaGreatDoorLongX
import Derived.Test.YtlckamnadddlmaaGreatDoorLawE
/- The law of the longest run: the reference, and the law FnExactLongestLaw. No condition. -/
namespace Go.Proofs.YtlckamnadddlmaaGreatDoor
open Go.RowKit
set_option linter.unusedVariables false

def ltV (k : Nat) : List Int := lvT 1 (loR k k) k
def ltF (k : Nat) : List Int := lfT (loR k k) (2 ^ k) k
end Go.Proofs.YtlckamnadddlmaaGreatDoor
