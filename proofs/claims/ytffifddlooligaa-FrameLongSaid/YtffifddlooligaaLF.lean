/- Frames: what is told of a frame, its text not told to be nil; a frame of which one byte is another one. -/
import Derived.Test.YtffifddlooligaaL3
set_option linter.unusedVariables false
set_option linter.unusedSimpArgs false
set_option maxRecDepth 100000
namespace Go.Proofs.Ytffifddlooligaa
open Go.Sf
theorem immF {P : Program} {f : Nat} {args : List AV} {r : List UInt8 × Nat × Nat} (h : CP P f args (RFrame r)) : CP P f args (fun u => u = .tup [immB r.1 none, .int .i64 r.2.1, .int .i64 r.2.2]) :=
  fun M w vs h1 h2 => (h M w vs h1 h2).mono fun e w' ⟨v, x, M', H', e1, e2, e3, e4, ⟨u, hu, hb⟩⟩ => by
    refine ⟨_, x, M', H', e1, ?_, e3, e4, rfl⟩
    subst hu
    simp only [VRel, VRels] at e2 ⊢
    obtain ⟨xs, hx, y, ys, hy, hv, ht⟩ := e2
    exact ⟨xs, hx, y, ys, hy, isB_imm hb hv, ht⟩
end Go.Proofs.Ytffifddlooligaa
