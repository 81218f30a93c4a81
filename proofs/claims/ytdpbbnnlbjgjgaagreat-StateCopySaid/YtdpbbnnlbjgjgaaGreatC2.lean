/- Go functions of the program, translated (by a program of this session), each with the fact that the translation is the model's own. -/
import Derived.Test.YtdpbbnnlbjgjgaaGreatC1
set_option linter.unusedVariables false
set_option maxRecDepth 100000
namespace Go.Proofs.YtdpbbnnlbjgjgaaGreat
open Go.Sf
abbrev F_mut_Less : Nat := 70
def c_mut_Less : CCode := .seq (.ops [qe 2 .box [.t 0], qe 3 .box [.t 1], qp 4 .mv [(.c (.bool false))]]) (.seq (.block 0 (.seq (.ops [qa 6 0 2, ql 7 6, qa 8 0 3, ql 9 8, qp 10 (.bin .neq) [.t 7, .t 9], qm 5 10]) (.cond (.t 5) (.seq (.ops [qa 11 0 2, ql 12 11, qa 13 0 3, ql 14 13, qp 15 (.bin .lss) [.t 12, .t 14], qm 4 15]) .ret) (.seq (.ops [qa 17 1 2, ql 18 17, qa 19 1 3, ql 20 19, qp 21 (.bin .neq) [.t 18, .t 20], qm 16 21]) (.cond (.t 16) (.seq (.ops [qa 22 1 2, ql 23 22, qa 24 1 3, ql 25 24, qp 26 (.bin .lss) [.t 23, .t 25], qm 4 26]) .ret) .skip))))) (.seq (.ops [qa 27 2 2, ql 28 27, qa 29 2 3, ql 30 29, qp 31 (.bin .lss) [.t 28, .t 30], qm 4 31]) .ret))
theorem ok_mut_Less : FnOK PP F_mut_Less qn 32 c_mut_Less [4] := ⟨⟨Tryz.f70, _, Tryz.func70, rfl, Tryz.ntmps70, by kernel_rfl, by kernel_rfl⟩, by decide⟩
end Go.Proofs.YtdpbbnnlbjgjgaaGreat
