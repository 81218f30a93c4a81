/-
  No cell of these rows narrows 'for every input' (looked for: loops, veiled, ifaces, maps, wideKeys, modest, calm, conditions, laid).
  DERIVED. THE GIVEN ROWS OF THIS SEAT. 5 by the template 'for every input the law returns true; each argument reads behind the call as it read before'; 0 by the template 'total and deterministic' (their statements: YtdpbbnnlbjgjgaaGreatTotals.lean).
  GIVEN WITH THE SEED: the statements are not yours to turn. If you find one false, say at which input.
  Laid BY PROGRAM, IN A SANDBOX (cutbox-rows.mjs): the forced cells as the released guide's own fill.sh prints them over the translation 671acdf682f25213… (all of the seat's roots in one cut). By AI agents, Wed Nov 11 2026. No macro, syntax, notation, axiom, sorry.
-/
import Derived.Test.YtdpbbnnlbjgjgaaGreatChecked
import GoSem.Claim
import GoSem.ClaimJoined
import GoSem.ClaimMapViews
import Derived.JoinedTies
import Derived.KernelRfl
namespace Go.Proofs.YtdpbbnnlbjgjgaaGreat
/- THE CELL 'sum', in the pinned program and in every row, IS THE sha256 OF THE DUMP (.gsa) THAT YtdpbbnnlbjgjgaaGreatProg.lean LOADS. Nothing in Lean hashes anything: it is a label: what it is worth is what the hold of that sum in a sandbox is worth. -/
noncomputable def Tryz.pinned : Pinned := { name := "ytdpbbnnlbjgjgaagreat", sum := "671acdf682f25213a7cc847ba0006feed32bc0791f38a79adb322e8fe8ae0f47", checked := Tryz.checked }
namespace Rows
def none {H : Type} : Left H := { results := [], args := [] }

/-- 'remembrancerlaw7.StateAll': WHATEVER THE INPUT: true; the input reads as it did. -/
def stateAllSpec : ChangeSpec := { name := "stateAll", fn := fun _ => fun
  | [d] => { results := [.lit (.bool true)], args := [d] }
  | _ => none }
def stateAllRow : OpenClaim := { program := "ytdpbbnnlbjgjgaagreat", sum := "671acdf682f25213a7cc847ba0006feed32bc0791f38a79adb322e8fe8ae0f47", func := "remembrancer/remembrancerlaw7.StateAll", spec := "stateAll", inPlace := ["slices.overlaps[remembrancer/value.cell]", "slices.overlaps[remembrancer/list.cell]", "slices.overlaps[remembrancer/dict.cell]", "slices.overlaps[remembrancer/api.Field]", "internal/bytealg.abigen_runtime_cmpstring", "slices.overlaps[remembrancer/store.object]", "maps.clone"], unfollowed := true, recurses := true, plainKeys := false, apart := false }
def StateAllSaid : Prop := stateAllRow.holds Tryz.pinned (OpenSpec.ofChange stateAllSpec)

/-- ITS FALSE NEIGHBOUR: 'it returns false'. Refute it at one input. -/
def stateAllWrong : ChangeSpec := { name := "stateAll", fn := fun _ => fun
  | [d] => { results := [.lit (.bool false)], args := [d] }
  | _ => none }
def StateAllWrongFalsely : Prop := stateAllRow.holds Tryz.pinned (OpenSpec.ofChange stateAllWrong)

/-- 'remembrancerlaw7.StateOwn': WHATEVER THE INPUT: true; the input reads as it did. -/
def stateOwnSpec : ChangeSpec := { name := "stateOwn", fn := fun _ => fun
  | [d1, d2] => { results := [.lit (.bool true)], args := [d1, d2] }
  | _ => none }
def stateOwnRow : OpenClaim := { program := "ytdpbbnnlbjgjgaagreat", sum := "671acdf682f25213a7cc847ba0006feed32bc0791f38a79adb322e8fe8ae0f47", func := "remembrancer/remembrancerlaw7.StateOwn", spec := "stateOwn", inPlace := ["slices.overlaps[remembrancer/value.cell]", "slices.overlaps[remembrancer/list.cell]", "slices.overlaps[remembrancer/dict.cell]", "slices.overlaps[remembrancer/api.Field]", "internal/bytealg.abigen_runtime_cmpstring", "slices.overlaps[remembrancer/store.object]", "maps.clone"], unfollowed := true, recurses := true, plainKeys := false, apart := false }
def StateOwnSaid : Prop := stateOwnRow.holds Tryz.pinned (OpenSpec.ofChange stateOwnSpec)

/-- ITS FALSE NEIGHBOUR: 'it returns false'. Refute it at one input. -/
def stateOwnWrong : ChangeSpec := { name := "stateOwn", fn := fun _ => fun
  | [d1, d2] => { results := [.lit (.bool false)], args := [d1, d2] }
  | _ => none }
def StateOwnWrongFalsely : Prop := stateOwnRow.holds Tryz.pinned (OpenSpec.ofChange stateOwnWrong)

/-- 'remembrancerlaw7.StateCopy': WHATEVER THE INPUT: true; the input reads as it did. -/
def stateCopySpec : ChangeSpec := { name := "stateCopy", fn := fun _ => fun
  | [d1, d2] => { results := [.lit (.bool true)], args := [d1, d2] }
  | _ => none }
def stateCopyRow : OpenClaim := { program := "ytdpbbnnlbjgjgaagreat", sum := "671acdf682f25213a7cc847ba0006feed32bc0791f38a79adb322e8fe8ae0f47", func := "remembrancer/remembrancerlaw7.StateCopy", spec := "stateCopy", inPlace := ["slices.overlaps[remembrancer/value.cell]", "slices.overlaps[remembrancer/list.cell]", "slices.overlaps[remembrancer/dict.cell]", "slices.overlaps[remembrancer/api.Field]", "internal/bytealg.abigen_runtime_cmpstring", "slices.overlaps[remembrancer/store.object]", "maps.clone"], unfollowed := true, recurses := true, plainKeys := false, apart := false }
def StateCopySaid : Prop := stateCopyRow.holds Tryz.pinned (OpenSpec.ofChange stateCopySpec)

/-- ITS FALSE NEIGHBOUR: 'it returns false'. Refute it at one input. -/
def stateCopyWrong : ChangeSpec := { name := "stateCopy", fn := fun _ => fun
  | [d1, d2] => { results := [.lit (.bool false)], args := [d1, d2] }
  | _ => none }
def StateCopyWrongFalsely : Prop := stateCopyRow.holds Tryz.pinned (OpenSpec.ofChange stateCopyWrong)

/-- 'remembrancerlaw7.StateLoad': WHATEVER THE INPUT: true; the input reads as it did. -/
def stateLoadSpec : ChangeSpec := { name := "stateLoad", fn := fun _ => fun
  | [d1, d2] => { results := [.lit (.bool true)], args := [d1, d2] }
  | _ => none }
def stateLoadRow : OpenClaim := { program := "ytdpbbnnlbjgjgaagreat", sum := "671acdf682f25213a7cc847ba0006feed32bc0791f38a79adb322e8fe8ae0f47", func := "remembrancer/remembrancerlaw7.StateLoad", spec := "stateLoad", inPlace := ["slices.overlaps[remembrancer/value.cell]", "slices.overlaps[remembrancer/list.cell]", "slices.overlaps[remembrancer/dict.cell]", "slices.overlaps[remembrancer/api.Field]", "internal/bytealg.abigen_runtime_cmpstring", "slices.overlaps[remembrancer/store.object]", "maps.clone"], unfollowed := true, recurses := true, plainKeys := false, apart := false }
def StateLoadSaid : Prop := stateLoadRow.holds Tryz.pinned (OpenSpec.ofChange stateLoadSpec)

/-- ITS FALSE NEIGHBOUR: 'it returns false'. Refute it at one input. -/
def stateLoadWrong : ChangeSpec := { name := "stateLoad", fn := fun _ => fun
  | [d1, d2] => { results := [.lit (.bool false)], args := [d1, d2] }
  | _ => none }
def StateLoadWrongFalsely : Prop := stateLoadRow.holds Tryz.pinned (OpenSpec.ofChange stateLoadWrong)

/-- 'remembrancerlaw7.StateCells': WHATEVER THE INPUT: true; the input reads as it did. -/
def stateCellsSpec : ChangeSpec := { name := "stateCells", fn := fun _ => fun
  | [d1, d2] => { results := [.lit (.bool true)], args := [d1, d2] }
  | _ => none }
def stateCellsRow : OpenClaim := { program := "ytdpbbnnlbjgjgaagreat", sum := "671acdf682f25213a7cc847ba0006feed32bc0791f38a79adb322e8fe8ae0f47", func := "remembrancer/remembrancerlaw7.StateCells", spec := "stateCells", inPlace := ["slices.overlaps[remembrancer/value.cell]", "slices.overlaps[remembrancer/list.cell]", "slices.overlaps[remembrancer/dict.cell]", "slices.overlaps[remembrancer/api.Field]", "internal/bytealg.abigen_runtime_cmpstring", "slices.overlaps[remembrancer/store.object]", "maps.clone"], unfollowed := true, recurses := true, plainKeys := false, apart := false }
def StateCellsSaid : Prop := stateCellsRow.holds Tryz.pinned (OpenSpec.ofChange stateCellsSpec)

/-- ITS FALSE NEIGHBOUR: 'it returns false'. Refute it at one input. -/
def stateCellsWrong : ChangeSpec := { name := "stateCells", fn := fun _ => fun
  | [d1, d2] => { results := [.lit (.bool false)], args := [d1, d2] }
  | _ => none }
def StateCellsWrongFalsely : Prop := stateCellsRow.holds Tryz.pinned (OpenSpec.ofChange stateCellsWrong)

/- THE SECOND FORM. 'bulk': how many values and letters a reading holds, each counted each time it is reached (what is shared counts as often as it is met; a slice's spare places count too). A statement '..UptoSaid' is the law's where the arguments, and the package variables that the reading takes, are together of bulk at most 1048576: NARROWER than '..Said'. Prove '..Said' where nothing that the law and all that it calls make is longer than what came in: it says more and counts as full. Else prove '..UptoSaid'. A law counts once. -/
mutual
def uptoBulk {H : Type} : DataW H → Nat
  | .lit (.string bytes) => bytes.length + 1
  | .lit _ => 1
  | .nil => 1
  | .ptr d => uptoBulk d + 1
  | .slice elems spare => uptoBulkAll elems + uptoBulkAll spare + 1
  | .agg parts => uptoBulkAll parts + 1
  | .iface _ d => uptoBulk d + 1
  | .map entries => uptoBulkEntries entries + 1
  | .held _ => 1
def uptoBulkAll {H : Type} : List (DataW H) → Nat
  | [] => 0
  | d :: r => uptoBulk d + uptoBulkAll r
def uptoBulkEntries {H : Type} : List (Lit × DataW H) → Nat
  | [] => 0
  | x :: r => uptoBulkEntry x + uptoBulkEntries r
def uptoBulkEntry {H : Type} : Lit × DataW H → Nat
  | (.string bytes, d) => bytes.length + uptoBulk d + 1
  | (_, d) => uptoBulk d + 1
 end
def uptoSmall : (H : Type) → List (DataW H) → Bool := fun _ ds => decide (uptoBulkAll ds ≤ 1048576)
def OpenSpec.upto (s : _root_.Go.ChangeSpec) : _root_.Go.OpenSpec := { _root_.Go.OpenSpec.ofChange s with cond := some uptoSmall }

/-- 'remembrancerlaw7.StateAll', WHERE WHAT IT READS IS OF BULK AT MOST 1048576: true; the input reads as it did. -/
def stateAllUptoRow : OpenClaim := { program := "ytdpbbnnlbjgjgaagreat", sum := "671acdf682f25213a7cc847ba0006feed32bc0791f38a79adb322e8fe8ae0f47", func := "remembrancer/remembrancerlaw7.StateAll", spec := "stateAll", inPlace := ["slices.overlaps[remembrancer/value.cell]", "slices.overlaps[remembrancer/list.cell]", "slices.overlaps[remembrancer/dict.cell]", "slices.overlaps[remembrancer/api.Field]", "internal/bytealg.abigen_runtime_cmpstring", "slices.overlaps[remembrancer/store.object]", "maps.clone"], unfollowed := true, recurses := true, plainKeys := false, apart := false, narrowed := true }
def StateAllUptoSaid : Prop := stateAllUptoRow.holds Tryz.pinned (OpenSpec.upto stateAllSpec)

/-- 'remembrancerlaw7.StateOwn', WHERE WHAT IT READS IS OF BULK AT MOST 1048576: true; the input reads as it did. -/
def stateOwnUptoRow : OpenClaim := { program := "ytdpbbnnlbjgjgaagreat", sum := "671acdf682f25213a7cc847ba0006feed32bc0791f38a79adb322e8fe8ae0f47", func := "remembrancer/remembrancerlaw7.StateOwn", spec := "stateOwn", inPlace := ["slices.overlaps[remembrancer/value.cell]", "slices.overlaps[remembrancer/list.cell]", "slices.overlaps[remembrancer/dict.cell]", "slices.overlaps[remembrancer/api.Field]", "internal/bytealg.abigen_runtime_cmpstring", "slices.overlaps[remembrancer/store.object]", "maps.clone"], unfollowed := true, recurses := true, plainKeys := false, apart := false, narrowed := true }
def StateOwnUptoSaid : Prop := stateOwnUptoRow.holds Tryz.pinned (OpenSpec.upto stateOwnSpec)

/-- 'remembrancerlaw7.StateCopy', WHERE WHAT IT READS IS OF BULK AT MOST 1048576: true; the input reads as it did. -/
def stateCopyUptoRow : OpenClaim := { program := "ytdpbbnnlbjgjgaagreat", sum := "671acdf682f25213a7cc847ba0006feed32bc0791f38a79adb322e8fe8ae0f47", func := "remembrancer/remembrancerlaw7.StateCopy", spec := "stateCopy", inPlace := ["slices.overlaps[remembrancer/value.cell]", "slices.overlaps[remembrancer/list.cell]", "slices.overlaps[remembrancer/dict.cell]", "slices.overlaps[remembrancer/api.Field]", "internal/bytealg.abigen_runtime_cmpstring", "slices.overlaps[remembrancer/store.object]", "maps.clone"], unfollowed := true, recurses := true, plainKeys := false, apart := false, narrowed := true }
def StateCopyUptoSaid : Prop := stateCopyUptoRow.holds Tryz.pinned (OpenSpec.upto stateCopySpec)

/-- 'remembrancerlaw7.StateLoad', WHERE WHAT IT READS IS OF BULK AT MOST 1048576: true; the input reads as it did. -/
def stateLoadUptoRow : OpenClaim := { program := "ytdpbbnnlbjgjgaagreat", sum := "671acdf682f25213a7cc847ba0006feed32bc0791f38a79adb322e8fe8ae0f47", func := "remembrancer/remembrancerlaw7.StateLoad", spec := "stateLoad", inPlace := ["slices.overlaps[remembrancer/value.cell]", "slices.overlaps[remembrancer/list.cell]", "slices.overlaps[remembrancer/dict.cell]", "slices.overlaps[remembrancer/api.Field]", "internal/bytealg.abigen_runtime_cmpstring", "slices.overlaps[remembrancer/store.object]", "maps.clone"], unfollowed := true, recurses := true, plainKeys := false, apart := false, narrowed := true }
def StateLoadUptoSaid : Prop := stateLoadUptoRow.holds Tryz.pinned (OpenSpec.upto stateLoadSpec)

/-- 'remembrancerlaw7.StateCells', WHERE WHAT IT READS IS OF BULK AT MOST 1048576: true; the input reads as it did. -/
def stateCellsUptoRow : OpenClaim := { program := "ytdpbbnnlbjgjgaagreat", sum := "671acdf682f25213a7cc847ba0006feed32bc0791f38a79adb322e8fe8ae0f47", func := "remembrancer/remembrancerlaw7.StateCells", spec := "stateCells", inPlace := ["slices.overlaps[remembrancer/value.cell]", "slices.overlaps[remembrancer/list.cell]", "slices.overlaps[remembrancer/dict.cell]", "slices.overlaps[remembrancer/api.Field]", "internal/bytealg.abigen_runtime_cmpstring", "slices.overlaps[remembrancer/store.object]", "maps.clone"], unfollowed := true, recurses := true, plainKeys := false, apart := false, narrowed := true }
def StateCellsUptoSaid : Prop := stateCellsUptoRow.holds Tryz.pinned (OpenSpec.upto stateCellsSpec)

end Rows
end Go.Proofs.YtdpbbnnlbjgjgaaGreat
