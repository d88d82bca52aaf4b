import Derived.Test.YtaneocedklnajaaGreatLawVX
/- The walks of the laws on functions that answer with a law, given what both sides answer. -/
namespace Go.Proofs.YtaneocedklnajaaGreat
open Go.RowKit
set_option linter.unusedVariables false

end Go.Proofs.YtaneocedklnajaaGreat
