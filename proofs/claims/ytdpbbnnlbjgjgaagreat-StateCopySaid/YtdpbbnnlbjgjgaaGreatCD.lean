/- Go functions of the program, translated (by a program of this session), each with the fact that the translation is the model's own. -/
import Derived.Test.YtdpbbnnlbjgjgaaGreatCB
set_option linter.unusedVariables false
set_option maxRecDepth 100000
namespace Go.Proofs.YtdpbbnnlbjgjgaaGreat
open Go.Sf
def c_Rlaw1_Begun : CCode := .seq (.ops [qp 0 .mv [(.c (.bool false))]]) (.seq (.ops [qe 1 (.call F_Rlaw1_begun) [], qm 0 1]) .ret)
theorem ok_Rlaw1_Begun : FnOK PP F_Rlaw1_Begun qn 2 c_Rlaw1_Begun [0] := ⟨⟨Tryz.f34, _, Tryz.func34, rfl, Tryz.ntmps34, by kernel_rfl, by kernel_rfl⟩, by decide⟩
end Go.Proofs.YtdpbbnnlbjgjgaaGreat
