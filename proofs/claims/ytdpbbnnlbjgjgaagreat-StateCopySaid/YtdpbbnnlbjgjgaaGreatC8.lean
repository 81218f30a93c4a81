/- Go functions of the program, translated (by a program of this session), each with the fact that the translation is the model's own. -/
import Derived.Test.YtdpbbnnlbjgjgaaGreatC3
import Derived.Test.YtdpbbnnlbjgjgaaGreatProg
set_option linter.unusedVariables false
set_option maxRecDepth 100000
namespace Go.Proofs.YtdpbbnnlbjgjgaaGreat
open Go.Sf
end Go.Proofs.YtdpbbnnlbjgjgaaGreat
