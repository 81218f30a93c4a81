/- Go functions of the program, translated (by a program of this session), each with the fact that the translation is the model's own. -/
import Derived.Test.YtcpfodhhjkaibaaGreatCB
set_option linter.unusedVariables false
set_option maxRecDepth 100000
namespace Go.Proofs.YtcpfodhhjkaibaaGreat
open Go.Sf
def c_Rlaw1_Begun : CCode := .seq (.ops [⟨some 0, none, (.p .mv [(.c (.bool false))])⟩]) (.seq (.ops [⟨some 1, none, (.e (.call F_Rlaw1_begun) [])⟩, ⟨some 0, none, (.p .mv [.t 1])⟩]) .ret)
theorem ok_Rlaw1_Begun : FnOK PP F_Rlaw1_Begun ⟨fun _ => false, fun _ => none, fun _ => false⟩ 2 c_Rlaw1_Begun [0] := ⟨⟨Tryz.f44, _, Tryz.func44, rfl, Tryz.ntmps44, by kernel_rfl, by kernel_rfl⟩, by decide⟩
end Go.Proofs.YtcpfodhhjkaibaaGreat
