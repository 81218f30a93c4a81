/- Go functions of the program, translated (by a program of this session), each with the fact that the translation is the model's own. -/
import Derived.Test.YtdpbbnnlbjgjgaaGreatCT
import Derived.Test.YtdpbbnnlbjgjgaaGreatProg
set_option linter.unusedVariables false
set_option maxRecDepth 100000
namespace Go.Proofs.YtdpbbnnlbjgjgaaGreat
open Go.Sf
abbrev F_Rlaw7_StateAll : Nat := 3
def c_Rlaw7_StateAll : CCode := .seq (.ops [qp 2 .mv [(.c (.bool false))]]) (.seq (.ops [qe 8 (.call F_Rlaw7_begun) [], qm 3 8]) (.seq (.seq (.ops [qm 9 3, qp 10 (.un .not) [.t 9]]) (.cond (.t 10) (.seq (.ops [qp 2 .mv [(.c (.bool false))]]) .ret) .skip)) (.seq (.ops [qe 11 (.call F_state_New) [], qe 12 (.call F_Rref10_New) [], qm 4 11, qm 5 12]) (.seq (.seq (.ops [qm 13 0, qe 14 (.call F_Rlaw7_cut) [.t 13], qp 15 (.len .a) [.t 14], qp 16 .mv [qi 0]]) (.block 0 (.loop (.seq (.ops [qp 17 (.bin .lss) [.t 16, .t 15]]) (.seq (.cond (.t 17) .skip (.exit 0)) (.seq (.block 1 (.seq (.ops [qx 18 1 14 16, ql 19 18, qm 7 19]) (.seq (.ops [qm 20 4, qm 21 7, qe 22 (.call F_state_State_Do) [.t 20, .t 21], qm 23 5, qm 24 7, qe 25 (.call F_Rref10_State_Do) [.t 23, .t 24], qp 26 (.bin .neq) [.t 22, .t 25], qm 27 26, ⟨some 28, (some (27, false)), (.p .mv [.t 4])⟩, ⟨some 29, (some (27, false)), (.e (.call F_state_State_Cells) [.t 28])⟩, ⟨some 30, (some (27, false)), (.p .mv [.t 5])⟩, ⟨some 31, (some (27, false)), (.e (.call F_Rref10_State_Cells) [.t 30])⟩, ⟨some 32, (some (27, false)), (.e (.call F_Rref10_EqCells) [.t 29, .t 31])⟩, ⟨some 33, (some (27, false)), (.p (.un .not) [.t 32])⟩, ⟨some 34, none, (.pick (.t 27) (.c (.bool true)) (.t 33))⟩]) (.cond (.t 34) (.seq (.ops [qp 2 .mv [(.c (.bool false))]]) .ret) .skip)))) (.ops [qp 35 (.bin .add) [.t 16, qi 1], qm 16 35]))))))) (.seq (.ops [qp 2 .mv [(.c (.bool true))]]) .ret)))))
theorem ok_Rlaw7_StateAll : FnOK PP F_Rlaw7_StateAll qn 36 c_Rlaw7_StateAll [2] := ⟨⟨Tryz.f3, _, Tryz.func3, rfl, Tryz.ntmps3, by kernel_rfl, by kernel_rfl⟩, by decide⟩
end Go.Proofs.YtdpbbnnlbjgjgaaGreat
