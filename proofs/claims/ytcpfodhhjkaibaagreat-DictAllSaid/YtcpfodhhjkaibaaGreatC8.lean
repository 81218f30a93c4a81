/- Go functions of the program, translated (by a program of this session), each with the fact that the translation is the model's own. -/
import Derived.Test.YtcpfodhhjkaibaaGreatC3
import Derived.Test.YtcpfodhhjkaibaaGreatProg
set_option linter.unusedVariables false
set_option maxRecDepth 100000
namespace Go.Proofs.YtcpfodhhjkaibaaGreat
open Go.Sf
end Go.Proofs.YtcpfodhhjkaibaaGreat
