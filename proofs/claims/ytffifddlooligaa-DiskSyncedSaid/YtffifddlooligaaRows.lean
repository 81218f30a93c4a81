/-
  No cell of these rows narrows 'for every input' (looked for: loops, veiled, ifaces, maps, wideKeys, modest, calm, conditions, laid).
  DERIVED. THE GIVEN ROWS OF THIS SEAT. 22 by the template 'for every input the law returns true; each argument reads behind the call as it read before'; 0 by the template 'total and deterministic' (their statements: YtffifddlooligaaTotals.lean).
  GIVEN WITH THE SEED: the statements are not yours to turn. If you find one false, say at which input.
  Laid BY PROGRAM, IN A SANDBOX (cutbox-rows.mjs): the forced cells as the released guide's own fill.sh prints them over the translation b80649bd473b5e12… (all of the seat's roots in one cut). By AI agents, Wed Nov 11 2026. No macro, syntax, notation, axiom, sorry.
-/
import Derived.Test.YtffifddlooligaaChecked
import GoSem.Claim
import GoSem.ClaimJoined
import GoSem.ClaimMapViews
import Derived.JoinedTies
import Derived.KernelRfl
namespace Go.Proofs.Ytffifddlooligaa
/- THE CELL 'sum', in the pinned program and in every row, IS THE sha256 OF THE DUMP (.gsa) THAT YtffifddlooligaaProg.lean LOADS. Nothing in Lean hashes anything: it is a label: what it is worth is what the hold of that sum in a sandbox is worth. -/
noncomputable def Try.pinned : Pinned := { name := "ytffifddlooligaa", sum := "b80649bd473b5e1231118b11a1588afe1b593f19801e173bd1c1c72447b2098c", checked := Try.checked }
namespace Rows
def none {H : Type} : Left H := { results := [], args := [] }

/-- 'remembrancerlaw1.NumAll': WHATEVER THE INPUT: true; the input reads as it did. -/
def numAllSpec : ChangeSpec := { name := "numAll", fn := fun _ => fun
  | [d1, d2, d3, d4] => { results := [.lit (.bool true)], args := [d1, d2, d3, d4] }
  | _ => none }
def numAllRow : OpenClaim := { program := "ytffifddlooligaa", sum := "b80649bd473b5e1231118b11a1588afe1b593f19801e173bd1c1c72447b2098c", func := "remembrancer/remembrancerlaw1.NumAll", spec := "numAll", inPlace := ["internal/bytealg.abigen_runtime_cmpstring", "slices.overlaps[remembrancer/store.object]", "maps.clone"], unfollowed := true, recurses := true, apart := false }
def NumAllSaid : Prop := numAllRow.holds Try.pinned (OpenSpec.ofChange numAllSpec)

/-- ITS FALSE NEIGHBOUR: 'it returns false'. Refute it at one input. -/
def numAllWrong : ChangeSpec := { name := "numAll", fn := fun _ => fun
  | [d1, d2, d3, d4] => { results := [.lit (.bool false)], args := [d1, d2, d3, d4] }
  | _ => none }
def NumAllWrongFalsely : Prop := numAllRow.holds Try.pinned (OpenSpec.ofChange numAllWrong)

/-- 'remembrancerlaw1.SumAll': WHATEVER THE INPUT: true; the input reads as it did. -/
def sumAllSpec : ChangeSpec := { name := "sumAll", fn := fun _ => fun
  | [d1, d2] => { results := [.lit (.bool true)], args := [d1, d2] }
  | _ => none }
def sumAllRow : OpenClaim := { program := "ytffifddlooligaa", sum := "b80649bd473b5e1231118b11a1588afe1b593f19801e173bd1c1c72447b2098c", func := "remembrancer/remembrancerlaw1.SumAll", spec := "sumAll", inPlace := ["internal/bytealg.abigen_runtime_cmpstring", "slices.overlaps[remembrancer/store.object]", "maps.clone"], unfollowed := true, recurses := true, apart := false }
def SumAllSaid : Prop := sumAllRow.holds Try.pinned (OpenSpec.ofChange sumAllSpec)

/-- ITS FALSE NEIGHBOUR: 'it returns false'. Refute it at one input. -/
def sumAllWrong : ChangeSpec := { name := "sumAll", fn := fun _ => fun
  | [d1, d2] => { results := [.lit (.bool false)], args := [d1, d2] }
  | _ => none }
def SumAllWrongFalsely : Prop := sumAllRow.holds Try.pinned (OpenSpec.ofChange sumAllWrong)

/-- 'remembrancerlaw1.SumOne': WHATEVER THE INPUT: true; the input reads as it did. -/
def sumOneSpec : ChangeSpec := { name := "sumOne", fn := fun _ => fun
  | [d1, d2, d3] => { results := [.lit (.bool true)], args := [d1, d2, d3] }
  | _ => none }
def sumOneRow : OpenClaim := { program := "ytffifddlooligaa", sum := "b80649bd473b5e1231118b11a1588afe1b593f19801e173bd1c1c72447b2098c", func := "remembrancer/remembrancerlaw1.SumOne", spec := "sumOne", inPlace := ["internal/bytealg.abigen_runtime_cmpstring", "slices.overlaps[remembrancer/store.object]", "maps.clone"], unfollowed := true, recurses := true, apart := false }
def SumOneSaid : Prop := sumOneRow.holds Try.pinned (OpenSpec.ofChange sumOneSpec)

/-- ITS FALSE NEIGHBOUR: 'it returns false'. Refute it at one input. -/
def sumOneWrong : ChangeSpec := { name := "sumOne", fn := fun _ => fun
  | [d1, d2, d3] => { results := [.lit (.bool false)], args := [d1, d2, d3] }
  | _ => none }
def SumOneWrongFalsely : Prop := sumOneRow.holds Try.pinned (OpenSpec.ofChange sumOneWrong)

/-- 'remembrancerlaw1.FrameLong': WHATEVER THE INPUT: true; the input reads as it did. -/
def frameLongSpec : ChangeSpec := { name := "frameLong", fn := fun _ => fun
  | [d1, d2] => { results := [.lit (.bool true)], args := [d1, d2] }
  | _ => none }
def frameLongRow : OpenClaim := { program := "ytffifddlooligaa", sum := "b80649bd473b5e1231118b11a1588afe1b593f19801e173bd1c1c72447b2098c", func := "remembrancer/remembrancerlaw1.FrameLong", spec := "frameLong", inPlace := ["internal/bytealg.abigen_runtime_cmpstring", "slices.overlaps[remembrancer/store.object]", "maps.clone"], unfollowed := true, recurses := true, apart := false }
def FrameLongSaid : Prop := frameLongRow.holds Try.pinned (OpenSpec.ofChange frameLongSpec)

/-- ITS FALSE NEIGHBOUR: 'it returns false'. Refute it at one input. -/
def frameLongWrong : ChangeSpec := { name := "frameLong", fn := fun _ => fun
  | [d1, d2] => { results := [.lit (.bool false)], args := [d1, d2] }
  | _ => none }
def FrameLongWrongFalsely : Prop := frameLongRow.holds Try.pinned (OpenSpec.ofChange frameLongWrong)

/-- 'remembrancerlaw1.MutAll': WHATEVER THE INPUT: true; the input reads as it did. -/
def mutAllSpec : ChangeSpec := { name := "mutAll", fn := fun _ => fun
  | [d1, d2, d3, d4] => { results := [.lit (.bool true)], args := [d1, d2, d3, d4] }
  | _ => none }
def mutAllRow : OpenClaim := { program := "ytffifddlooligaa", sum := "b80649bd473b5e1231118b11a1588afe1b593f19801e173bd1c1c72447b2098c", func := "remembrancer/remembrancerlaw1.MutAll", spec := "mutAll", inPlace := ["internal/bytealg.abigen_runtime_cmpstring", "slices.overlaps[remembrancer/store.object]", "maps.clone"], unfollowed := true, recurses := true, apart := false }
def MutAllSaid : Prop := mutAllRow.holds Try.pinned (OpenSpec.ofChange mutAllSpec)

/-- ITS FALSE NEIGHBOUR: 'it returns false'. Refute it at one input. -/
def mutAllWrong : ChangeSpec := { name := "mutAll", fn := fun _ => fun
  | [d1, d2, d3, d4] => { results := [.lit (.bool false)], args := [d1, d2, d3, d4] }
  | _ => none }
def MutAllWrongFalsely : Prop := mutAllRow.holds Try.pinned (OpenSpec.ofChange mutAllWrong)

/-- 'remembrancerlaw1.NumShort': WHATEVER THE INPUT: true; the input reads as it did. -/
def numShortSpec : ChangeSpec := { name := "numShort", fn := fun _ => fun
  | [d] => { results := [.lit (.bool true)], args := [d] }
  | _ => none }
def numShortRow : OpenClaim := { program := "ytffifddlooligaa", sum := "b80649bd473b5e1231118b11a1588afe1b593f19801e173bd1c1c72447b2098c", func := "remembrancer/remembrancerlaw1.NumShort", spec := "numShort", inPlace := ["internal/bytealg.abigen_runtime_cmpstring", "slices.overlaps[remembrancer/store.object]", "maps.clone"], unfollowed := true, recurses := true, apart := false }
def NumShortSaid : Prop := numShortRow.holds Try.pinned (OpenSpec.ofChange numShortSpec)

/-- ITS FALSE NEIGHBOUR: 'it returns false'. Refute it at one input. -/
def numShortWrong : ChangeSpec := { name := "numShort", fn := fun _ => fun
  | [d] => { results := [.lit (.bool false)], args := [d] }
  | _ => none }
def NumShortWrongFalsely : Prop := numShortRow.holds Try.pinned (OpenSpec.ofChange numShortWrong)

/-- 'remembrancerlaw1.NumOrder': WHATEVER THE INPUT: true; the input reads as it did. -/
def numOrderSpec : ChangeSpec := { name := "numOrder", fn := fun _ => fun
  | [d1, d2] => { results := [.lit (.bool true)], args := [d1, d2] }
  | _ => none }
def numOrderRow : OpenClaim := { program := "ytffifddlooligaa", sum := "b80649bd473b5e1231118b11a1588afe1b593f19801e173bd1c1c72447b2098c", func := "remembrancer/remembrancerlaw1.NumOrder", spec := "numOrder", inPlace := ["internal/bytealg.abigen_runtime_cmpstring", "slices.overlaps[remembrancer/store.object]", "maps.clone"], unfollowed := true, recurses := true, apart := false }
def NumOrderSaid : Prop := numOrderRow.holds Try.pinned (OpenSpec.ofChange numOrderSpec)

/-- ITS FALSE NEIGHBOUR: 'it returns false'. Refute it at one input. -/
def numOrderWrong : ChangeSpec := { name := "numOrder", fn := fun _ => fun
  | [d1, d2] => { results := [.lit (.bool false)], args := [d1, d2] }
  | _ => none }
def NumOrderWrongFalsely : Prop := numOrderRow.holds Try.pinned (OpenSpec.ofChange numOrderWrong)

/-- 'remembrancerlaw1.NumEdges': WHATEVER THE INPUT: true; the input reads as it did. -/
def numEdgesSpec : ChangeSpec := { name := "numEdges", fn := fun _ => fun
  | [] => { results := [.lit (.bool true)], args := [] }
  | _ => none }
def numEdgesRow : OpenClaim := { program := "ytffifddlooligaa", sum := "b80649bd473b5e1231118b11a1588afe1b593f19801e173bd1c1c72447b2098c", func := "remembrancer/remembrancerlaw1.NumEdges", spec := "numEdges", inPlace := ["internal/bytealg.abigen_runtime_cmpstring", "slices.overlaps[remembrancer/store.object]", "maps.clone"], unfollowed := true, recurses := true, apart := false }
def NumEdgesSaid : Prop := numEdgesRow.holds Try.pinned (OpenSpec.ofChange numEdgesSpec)

/-- ITS FALSE NEIGHBOUR: 'it returns false'. Refute it at one input. -/
def numEdgesWrong : ChangeSpec := { name := "numEdges", fn := fun _ => fun
  | [] => { results := [.lit (.bool false)], args := [] }
  | _ => none }
def NumEdgesWrongFalsely : Prop := numEdgesRow.holds Try.pinned (OpenSpec.ofChange numEdgesWrong)

/-- 'remembrancerlaw1.SumKnown': WHATEVER THE INPUT: true; the input reads as it did. -/
def sumKnownSpec : ChangeSpec := { name := "sumKnown", fn := fun _ => fun
  | [] => { results := [.lit (.bool true)], args := [] }
  | _ => none }
def sumKnownRow : OpenClaim := { program := "ytffifddlooligaa", sum := "b80649bd473b5e1231118b11a1588afe1b593f19801e173bd1c1c72447b2098c", func := "remembrancer/remembrancerlaw1.SumKnown", spec := "sumKnown", inPlace := ["internal/bytealg.abigen_runtime_cmpstring", "slices.overlaps[remembrancer/store.object]", "maps.clone"], unfollowed := true, recurses := true, apart := false }
def SumKnownSaid : Prop := sumKnownRow.holds Try.pinned (OpenSpec.ofChange sumKnownSpec)

/-- ITS FALSE NEIGHBOUR: 'it returns false'. Refute it at one input. -/
def sumKnownWrong : ChangeSpec := { name := "sumKnown", fn := fun _ => fun
  | [] => { results := [.lit (.bool false)], args := [] }
  | _ => none }
def SumKnownWrongFalsely : Prop := sumKnownRow.holds Try.pinned (OpenSpec.ofChange sumKnownWrong)

/-- 'remembrancerlaw1.SumEnd': WHATEVER THE INPUT: true; the input reads as it did. -/
def sumEndSpec : ChangeSpec := { name := "sumEnd", fn := fun _ => fun
  | [d1, d2, d3] => { results := [.lit (.bool true)], args := [d1, d2, d3] }
  | _ => none }
def sumEndRow : OpenClaim := { program := "ytffifddlooligaa", sum := "b80649bd473b5e1231118b11a1588afe1b593f19801e173bd1c1c72447b2098c", func := "remembrancer/remembrancerlaw1.SumEnd", spec := "sumEnd", inPlace := ["internal/bytealg.abigen_runtime_cmpstring", "slices.overlaps[remembrancer/store.object]", "maps.clone"], unfollowed := true, recurses := true, apart := false }
def SumEndSaid : Prop := sumEndRow.holds Try.pinned (OpenSpec.ofChange sumEndSpec)

/-- ITS FALSE NEIGHBOUR: 'it returns false'. Refute it at one input. -/
def sumEndWrong : ChangeSpec := { name := "sumEnd", fn := fun _ => fun
  | [d1, d2, d3] => { results := [.lit (.bool false)], args := [d1, d2, d3] }
  | _ => none }
def SumEndWrongFalsely : Prop := sumEndRow.holds Try.pinned (OpenSpec.ofChange sumEndWrong)

/-- 'remembrancerlaw1.FrameOne': WHATEVER THE INPUT: true; the input reads as it did. -/
def frameOneSpec : ChangeSpec := { name := "frameOne", fn := fun _ => fun
  | [d1, d2, d3] => { results := [.lit (.bool true)], args := [d1, d2, d3] }
  | _ => none }
def frameOneRow : OpenClaim := { program := "ytffifddlooligaa", sum := "b80649bd473b5e1231118b11a1588afe1b593f19801e173bd1c1c72447b2098c", func := "remembrancer/remembrancerlaw1.FrameOne", spec := "frameOne", inPlace := ["internal/bytealg.abigen_runtime_cmpstring", "slices.overlaps[remembrancer/store.object]", "maps.clone"], unfollowed := true, recurses := true, apart := false }
def FrameOneSaid : Prop := frameOneRow.holds Try.pinned (OpenSpec.ofChange frameOneSpec)

/-- ITS FALSE NEIGHBOUR: 'it returns false'. Refute it at one input. -/
def frameOneWrong : ChangeSpec := { name := "frameOne", fn := fun _ => fun
  | [d1, d2, d3] => { results := [.lit (.bool false)], args := [d1, d2, d3] }
  | _ => none }
def FrameOneWrongFalsely : Prop := frameOneRow.holds Try.pinned (OpenSpec.ofChange frameOneWrong)

/-- 'remembrancerlaw1.DiskTurned': WHATEVER THE INPUT: true; the input reads as it did. -/
def diskTurnedSpec : ChangeSpec := { name := "diskTurned", fn := fun _ => fun
  | [d1, d2] => { results := [.lit (.bool true)], args := [d1, d2] }
  | _ => none }
def diskTurnedRow : OpenClaim := { program := "ytffifddlooligaa", sum := "b80649bd473b5e1231118b11a1588afe1b593f19801e173bd1c1c72447b2098c", func := "remembrancer/remembrancerlaw1.DiskTurned", spec := "diskTurned", inPlace := ["internal/bytealg.abigen_runtime_cmpstring", "slices.overlaps[remembrancer/store.object]", "maps.clone"], unfollowed := true, recurses := true, apart := false }
def DiskTurnedSaid : Prop := diskTurnedRow.holds Try.pinned (OpenSpec.ofChange diskTurnedSpec)

/-- ITS FALSE NEIGHBOUR: 'it returns false'. Refute it at one input. -/
def diskTurnedWrong : ChangeSpec := { name := "diskTurned", fn := fun _ => fun
  | [d1, d2] => { results := [.lit (.bool false)], args := [d1, d2] }
  | _ => none }
def DiskTurnedWrongFalsely : Prop := diskTurnedRow.holds Try.pinned (OpenSpec.ofChange diskTurnedWrong)

/-- 'remembrancerlaw1.MutOrder': WHATEVER THE INPUT: true; the input reads as it did. -/
def mutOrderSpec : ChangeSpec := { name := "mutOrder", fn := fun _ => fun
  | [d] => { results := [.lit (.bool true)], args := [d] }
  | _ => none }
def mutOrderRow : OpenClaim := { program := "ytffifddlooligaa", sum := "b80649bd473b5e1231118b11a1588afe1b593f19801e173bd1c1c72447b2098c", func := "remembrancer/remembrancerlaw1.MutOrder", spec := "mutOrder", inPlace := ["internal/bytealg.abigen_runtime_cmpstring", "slices.overlaps[remembrancer/store.object]", "maps.clone"], unfollowed := true, recurses := true, apart := false }
def MutOrderSaid : Prop := mutOrderRow.holds Try.pinned (OpenSpec.ofChange mutOrderSpec)

/-- ITS FALSE NEIGHBOUR: 'it returns false'. Refute it at one input. -/
def mutOrderWrong : ChangeSpec := { name := "mutOrder", fn := fun _ => fun
  | [d] => { results := [.lit (.bool false)], args := [d] }
  | _ => none }
def MutOrderWrongFalsely : Prop := mutOrderRow.holds Try.pinned (OpenSpec.ofChange mutOrderWrong)

/-- 'remembrancerlaw1.NumOwn': WHATEVER THE INPUT: true; the input reads as it did. -/
def numOwnSpec : ChangeSpec := { name := "numOwn", fn := fun _ => fun
  | [d1, d2, d3, d4] => { results := [.lit (.bool true)], args := [d1, d2, d3, d4] }
  | _ => none }
def numOwnRow : OpenClaim := { program := "ytffifddlooligaa", sum := "b80649bd473b5e1231118b11a1588afe1b593f19801e173bd1c1c72447b2098c", func := "remembrancer/remembrancerlaw1.NumOwn", spec := "numOwn", inPlace := ["internal/bytealg.abigen_runtime_cmpstring", "slices.overlaps[remembrancer/store.object]", "maps.clone"], unfollowed := true, recurses := true, apart := false }
def NumOwnSaid : Prop := numOwnRow.holds Try.pinned (OpenSpec.ofChange numOwnSpec)

/-- ITS FALSE NEIGHBOUR: 'it returns false'. Refute it at one input. -/
def numOwnWrong : ChangeSpec := { name := "numOwn", fn := fun _ => fun
  | [d1, d2, d3, d4] => { results := [.lit (.bool false)], args := [d1, d2, d3, d4] }
  | _ => none }
def NumOwnWrongFalsely : Prop := numOwnRow.holds Try.pinned (OpenSpec.ofChange numOwnWrong)

/-- 'remembrancerlaw1.FrameAll': WHATEVER THE INPUT: true; the input reads as it did. -/
def frameAllSpec : ChangeSpec := { name := "frameAll", fn := fun _ => fun
  | [d1, d2, d3, d4, d5] => { results := [.lit (.bool true)], args := [d1, d2, d3, d4, d5] }
  | _ => none }
def frameAllRow : OpenClaim := { program := "ytffifddlooligaa", sum := "b80649bd473b5e1231118b11a1588afe1b593f19801e173bd1c1c72447b2098c", func := "remembrancer/remembrancerlaw1.FrameAll", spec := "frameAll", inPlace := ["internal/bytealg.abigen_runtime_cmpstring", "slices.overlaps[remembrancer/store.object]", "maps.clone"], unfollowed := true, recurses := true, apart := false }
def FrameAllSaid : Prop := frameAllRow.holds Try.pinned (OpenSpec.ofChange frameAllSpec)

/-- ITS FALSE NEIGHBOUR: 'it returns false'. Refute it at one input. -/
def frameAllWrong : ChangeSpec := { name := "frameAll", fn := fun _ => fun
  | [d1, d2, d3, d4, d5] => { results := [.lit (.bool false)], args := [d1, d2, d3, d4, d5] }
  | _ => none }
def FrameAllWrongFalsely : Prop := frameAllRow.holds Try.pinned (OpenSpec.ofChange frameAllWrong)

/-- 'remembrancerlaw1.FrameTorn': WHATEVER THE INPUT: true; the input reads as it did. -/
def frameTornSpec : ChangeSpec := { name := "frameTorn", fn := fun _ => fun
  | [d1, d2] => { results := [.lit (.bool true)], args := [d1, d2] }
  | _ => none }
def frameTornRow : OpenClaim := { program := "ytffifddlooligaa", sum := "b80649bd473b5e1231118b11a1588afe1b593f19801e173bd1c1c72447b2098c", func := "remembrancer/remembrancerlaw1.FrameTorn", spec := "frameTorn", inPlace := ["internal/bytealg.abigen_runtime_cmpstring", "slices.overlaps[remembrancer/store.object]", "maps.clone"], unfollowed := true, recurses := true, apart := false }
def FrameTornSaid : Prop := frameTornRow.holds Try.pinned (OpenSpec.ofChange frameTornSpec)

/-- ITS FALSE NEIGHBOUR: 'it returns false'. Refute it at one input. -/
def frameTornWrong : ChangeSpec := { name := "frameTorn", fn := fun _ => fun
  | [d1, d2] => { results := [.lit (.bool false)], args := [d1, d2] }
  | _ => none }
def FrameTornWrongFalsely : Prop := frameTornRow.holds Try.pinned (OpenSpec.ofChange frameTornWrong)

/-- 'remembrancerlaw1.StoreOwn': WHATEVER THE INPUT: true; the input reads as it did. -/
def storeOwnSpec : ChangeSpec := { name := "storeOwn", fn := fun _ => fun
  | [d] => { results := [.lit (.bool true)], args := [d] }
  | _ => none }
def storeOwnRow : OpenClaim := { program := "ytffifddlooligaa", sum := "b80649bd473b5e1231118b11a1588afe1b593f19801e173bd1c1c72447b2098c", func := "remembrancer/remembrancerlaw1.StoreOwn", spec := "storeOwn", inPlace := ["internal/bytealg.abigen_runtime_cmpstring", "slices.overlaps[remembrancer/store.object]", "maps.clone"], unfollowed := true, recurses := true, apart := false }
def StoreOwnSaid : Prop := storeOwnRow.holds Try.pinned (OpenSpec.ofChange storeOwnSpec)

/-- ITS FALSE NEIGHBOUR: 'it returns false'. Refute it at one input. -/
def storeOwnWrong : ChangeSpec := { name := "storeOwn", fn := fun _ => fun
  | [d] => { results := [.lit (.bool false)], args := [d] }
  | _ => none }
def StoreOwnWrongFalsely : Prop := storeOwnRow.holds Try.pinned (OpenSpec.ofChange storeOwnWrong)

/-- 'remembrancerlaw1.StoreAtom': WHATEVER THE INPUT: true; the input reads as it did. -/
def storeAtomSpec : ChangeSpec := { name := "storeAtom", fn := fun _ => fun
  | [d1, d2, d3] => { results := [.lit (.bool true)], args := [d1, d2, d3] }
  | _ => none }
def storeAtomRow : OpenClaim := { program := "ytffifddlooligaa", sum := "b80649bd473b5e1231118b11a1588afe1b593f19801e173bd1c1c72447b2098c", func := "remembrancer/remembrancerlaw1.StoreAtom", spec := "storeAtom", inPlace := ["internal/bytealg.abigen_runtime_cmpstring", "slices.overlaps[remembrancer/store.object]", "maps.clone"], unfollowed := true, recurses := true, apart := false }
def StoreAtomSaid : Prop := storeAtomRow.holds Try.pinned (OpenSpec.ofChange storeAtomSpec)

/-- ITS FALSE NEIGHBOUR: 'it returns false'. Refute it at one input. -/
def storeAtomWrong : ChangeSpec := { name := "storeAtom", fn := fun _ => fun
  | [d1, d2, d3] => { results := [.lit (.bool false)], args := [d1, d2, d3] }
  | _ => none }
def StoreAtomWrongFalsely : Prop := storeAtomRow.holds Try.pinned (OpenSpec.ofChange storeAtomWrong)

/-- 'remembrancerlaw1.DiskSynced': WHATEVER THE INPUT: true; the input reads as it did. -/
def diskSyncedSpec : ChangeSpec := { name := "diskSynced", fn := fun _ => fun
  | [d1, d2, d3] => { results := [.lit (.bool true)], args := [d1, d2, d3] }
  | _ => none }
def diskSyncedRow : OpenClaim := { program := "ytffifddlooligaa", sum := "b80649bd473b5e1231118b11a1588afe1b593f19801e173bd1c1c72447b2098c", func := "remembrancer/remembrancerlaw1.DiskSynced", spec := "diskSynced", inPlace := ["internal/bytealg.abigen_runtime_cmpstring", "slices.overlaps[remembrancer/store.object]", "maps.clone"], unfollowed := true, recurses := true, apart := false }
def DiskSyncedSaid : Prop := diskSyncedRow.holds Try.pinned (OpenSpec.ofChange diskSyncedSpec)

/-- ITS FALSE NEIGHBOUR: 'it returns false'. Refute it at one input. -/
def diskSyncedWrong : ChangeSpec := { name := "diskSynced", fn := fun _ => fun
  | [d1, d2, d3] => { results := [.lit (.bool false)], args := [d1, d2, d3] }
  | _ => none }
def DiskSyncedWrongFalsely : Prop := diskSyncedRow.holds Try.pinned (OpenSpec.ofChange diskSyncedWrong)

/-- 'remembrancerlaw1.NumText': WHATEVER THE INPUT: true; the input reads as it did. -/
def numTextSpec : ChangeSpec := { name := "numText", fn := fun _ => fun
  | [d1, d2, d3, d4] => { results := [.lit (.bool true)], args := [d1, d2, d3, d4] }
  | _ => none }
def numTextRow : OpenClaim := { program := "ytffifddlooligaa", sum := "b80649bd473b5e1231118b11a1588afe1b593f19801e173bd1c1c72447b2098c", func := "remembrancer/remembrancerlaw1.NumText", spec := "numText", inPlace := ["internal/bytealg.abigen_runtime_cmpstring", "slices.overlaps[remembrancer/store.object]", "maps.clone"], unfollowed := true, recurses := true, apart := false }
def NumTextSaid : Prop := numTextRow.holds Try.pinned (OpenSpec.ofChange numTextSpec)

/-- ITS FALSE NEIGHBOUR: 'it returns false'. Refute it at one input. -/
def numTextWrong : ChangeSpec := { name := "numText", fn := fun _ => fun
  | [d1, d2, d3, d4] => { results := [.lit (.bool false)], args := [d1, d2, d3, d4] }
  | _ => none }
def NumTextWrongFalsely : Prop := numTextRow.holds Try.pinned (OpenSpec.ofChange numTextWrong)

/-- 'remembrancerlaw1.MutKeys': WHATEVER THE INPUT: true; the input reads as it did. -/
def mutKeysSpec : ChangeSpec := { name := "mutKeys", fn := fun _ => fun
  | [d1, d2, d3, d4, d5, d6] => { results := [.lit (.bool true)], args := [d1, d2, d3, d4, d5, d6] }
  | _ => none }
def mutKeysRow : OpenClaim := { program := "ytffifddlooligaa", sum := "b80649bd473b5e1231118b11a1588afe1b593f19801e173bd1c1c72447b2098c", func := "remembrancer/remembrancerlaw1.MutKeys", spec := "mutKeys", inPlace := ["internal/bytealg.abigen_runtime_cmpstring", "slices.overlaps[remembrancer/store.object]", "maps.clone"], unfollowed := true, recurses := true, apart := false }
def MutKeysSaid : Prop := mutKeysRow.holds Try.pinned (OpenSpec.ofChange mutKeysSpec)

/-- ITS FALSE NEIGHBOUR: 'it returns false'. Refute it at one input. -/
def mutKeysWrong : ChangeSpec := { name := "mutKeys", fn := fun _ => fun
  | [d1, d2, d3, d4, d5, d6] => { results := [.lit (.bool false)], args := [d1, d2, d3, d4, d5, d6] }
  | _ => none }
def MutKeysWrongFalsely : Prop := mutKeysRow.holds Try.pinned (OpenSpec.ofChange mutKeysWrong)

/-- 'remembrancerlaw1.StoreRoom': WHATEVER THE INPUT: true; the input reads as it did. -/
def storeRoomSpec : ChangeSpec := { name := "storeRoom", fn := fun _ => fun
  | [d1, d2] => { results := [.lit (.bool true)], args := [d1, d2] }
  | _ => none }
def storeRoomRow : OpenClaim := { program := "ytffifddlooligaa", sum := "b80649bd473b5e1231118b11a1588afe1b593f19801e173bd1c1c72447b2098c", func := "remembrancer/remembrancerlaw1.StoreRoom", spec := "storeRoom", inPlace := ["internal/bytealg.abigen_runtime_cmpstring", "slices.overlaps[remembrancer/store.object]", "maps.clone"], unfollowed := true, recurses := true, apart := false }
def StoreRoomSaid : Prop := storeRoomRow.holds Try.pinned (OpenSpec.ofChange storeRoomSpec)

/-- ITS FALSE NEIGHBOUR: 'it returns false'. Refute it at one input. -/
def storeRoomWrong : ChangeSpec := { name := "storeRoom", fn := fun _ => fun
  | [d1, d2] => { results := [.lit (.bool false)], args := [d1, d2] }
  | _ => none }
def StoreRoomWrongFalsely : Prop := storeRoomRow.holds Try.pinned (OpenSpec.ofChange storeRoomWrong)

/- THE SECOND FORM. 'bulk': how many values and letters a reading holds, each counted each time it is reached (what is shared counts as often as it is met; a slice's spare places count too). A statement '..UptoSaid' is the law's where the arguments, and the package variables that the reading takes, are together of bulk at most 1048576: NARROWER than '..Said'. Prove '..Said' where nothing that the law and all that it calls make is longer than what came in: it says more and counts as full. Else prove '..UptoSaid'. A law counts once. -/
mutual
def uptoBulk {H : Type} : DataW H → Nat
  | .lit (.string bytes) => bytes.length + 1
  | .lit _ => 1
  | .nil => 1
  | .ptr d => uptoBulk d + 1
  | .slice elems spare => uptoBulkAll elems + uptoBulkAll spare + 1
  | .agg parts => uptoBulkAll parts + 1
  | .iface _ d => uptoBulk d + 1
  | .map entries => uptoBulkEntries entries + 1
  | .held _ => 1
def uptoBulkAll {H : Type} : List (DataW H) → Nat
  | [] => 0
  | d :: r => uptoBulk d + uptoBulkAll r
def uptoBulkEntries {H : Type} : List (Lit × DataW H) → Nat
  | [] => 0
  | x :: r => uptoBulkEntry x + uptoBulkEntries r
def uptoBulkEntry {H : Type} : Lit × DataW H → Nat
  | (.string bytes, d) => bytes.length + uptoBulk d + 1
  | (_, d) => uptoBulk d + 1
 end
def uptoSmall : (H : Type) → List (DataW H) → Bool := fun _ ds => decide (uptoBulkAll ds ≤ 1048576)
def OpenSpec.upto (s : _root_.Go.ChangeSpec) : _root_.Go.OpenSpec := { _root_.Go.OpenSpec.ofChange s with cond := some uptoSmall }

/-- 'remembrancerlaw1.NumAll', WHERE WHAT IT READS IS OF BULK AT MOST 1048576: true; the input reads as it did. -/
def numAllUptoRow : OpenClaim := { program := "ytffifddlooligaa", sum := "b80649bd473b5e1231118b11a1588afe1b593f19801e173bd1c1c72447b2098c", func := "remembrancer/remembrancerlaw1.NumAll", spec := "numAll", inPlace := ["internal/bytealg.abigen_runtime_cmpstring", "slices.overlaps[remembrancer/store.object]", "maps.clone"], unfollowed := true, recurses := true, apart := false, narrowed := true }
def NumAllUptoSaid : Prop := numAllUptoRow.holds Try.pinned (OpenSpec.upto numAllSpec)

/-- 'remembrancerlaw1.SumAll', WHERE WHAT IT READS IS OF BULK AT MOST 1048576: true; the input reads as it did. -/
def sumAllUptoRow : OpenClaim := { program := "ytffifddlooligaa", sum := "b80649bd473b5e1231118b11a1588afe1b593f19801e173bd1c1c72447b2098c", func := "remembrancer/remembrancerlaw1.SumAll", spec := "sumAll", inPlace := ["internal/bytealg.abigen_runtime_cmpstring", "slices.overlaps[remembrancer/store.object]", "maps.clone"], unfollowed := true, recurses := true, apart := false, narrowed := true }
def SumAllUptoSaid : Prop := sumAllUptoRow.holds Try.pinned (OpenSpec.upto sumAllSpec)

/-- 'remembrancerlaw1.SumOne', WHERE WHAT IT READS IS OF BULK AT MOST 1048576: true; the input reads as it did. -/
def sumOneUptoRow : OpenClaim := { program := "ytffifddlooligaa", sum := "b80649bd473b5e1231118b11a1588afe1b593f19801e173bd1c1c72447b2098c", func := "remembrancer/remembrancerlaw1.SumOne", spec := "sumOne", inPlace := ["internal/bytealg.abigen_runtime_cmpstring", "slices.overlaps[remembrancer/store.object]", "maps.clone"], unfollowed := true, recurses := true, apart := false, narrowed := true }
def SumOneUptoSaid : Prop := sumOneUptoRow.holds Try.pinned (OpenSpec.upto sumOneSpec)

/-- 'remembrancerlaw1.FrameLong', WHERE WHAT IT READS IS OF BULK AT MOST 1048576: true; the input reads as it did. -/
def frameLongUptoRow : OpenClaim := { program := "ytffifddlooligaa", sum := "b80649bd473b5e1231118b11a1588afe1b593f19801e173bd1c1c72447b2098c", func := "remembrancer/remembrancerlaw1.FrameLong", spec := "frameLong", inPlace := ["internal/bytealg.abigen_runtime_cmpstring", "slices.overlaps[remembrancer/store.object]", "maps.clone"], unfollowed := true, recurses := true, apart := false, narrowed := true }
def FrameLongUptoSaid : Prop := frameLongUptoRow.holds Try.pinned (OpenSpec.upto frameLongSpec)

/-- 'remembrancerlaw1.MutAll', WHERE WHAT IT READS IS OF BULK AT MOST 1048576: true; the input reads as it did. -/
def mutAllUptoRow : OpenClaim := { program := "ytffifddlooligaa", sum := "b80649bd473b5e1231118b11a1588afe1b593f19801e173bd1c1c72447b2098c", func := "remembrancer/remembrancerlaw1.MutAll", spec := "mutAll", inPlace := ["internal/bytealg.abigen_runtime_cmpstring", "slices.overlaps[remembrancer/store.object]", "maps.clone"], unfollowed := true, recurses := true, apart := false, narrowed := true }
def MutAllUptoSaid : Prop := mutAllUptoRow.holds Try.pinned (OpenSpec.upto mutAllSpec)

/-- 'remembrancerlaw1.NumShort', WHERE WHAT IT READS IS OF BULK AT MOST 1048576: true; the input reads as it did. -/
def numShortUptoRow : OpenClaim := { program := "ytffifddlooligaa", sum := "b80649bd473b5e1231118b11a1588afe1b593f19801e173bd1c1c72447b2098c", func := "remembrancer/remembrancerlaw1.NumShort", spec := "numShort", inPlace := ["internal/bytealg.abigen_runtime_cmpstring", "slices.overlaps[remembrancer/store.object]", "maps.clone"], unfollowed := true, recurses := true, apart := false, narrowed := true }
def NumShortUptoSaid : Prop := numShortUptoRow.holds Try.pinned (OpenSpec.upto numShortSpec)

/-- 'remembrancerlaw1.NumOrder', WHERE WHAT IT READS IS OF BULK AT MOST 1048576: true; the input reads as it did. -/
def numOrderUptoRow : OpenClaim := { program := "ytffifddlooligaa", sum := "b80649bd473b5e1231118b11a1588afe1b593f19801e173bd1c1c72447b2098c", func := "remembrancer/remembrancerlaw1.NumOrder", spec := "numOrder", inPlace := ["internal/bytealg.abigen_runtime_cmpstring", "slices.overlaps[remembrancer/store.object]", "maps.clone"], unfollowed := true, recurses := true, apart := false, narrowed := true }
def NumOrderUptoSaid : Prop := numOrderUptoRow.holds Try.pinned (OpenSpec.upto numOrderSpec)

/-- 'remembrancerlaw1.NumEdges', WHERE WHAT IT READS IS OF BULK AT MOST 1048576: true; the input reads as it did. -/
def numEdgesUptoRow : OpenClaim := { program := "ytffifddlooligaa", sum := "b80649bd473b5e1231118b11a1588afe1b593f19801e173bd1c1c72447b2098c", func := "remembrancer/remembrancerlaw1.NumEdges", spec := "numEdges", inPlace := ["internal/bytealg.abigen_runtime_cmpstring", "slices.overlaps[remembrancer/store.object]", "maps.clone"], unfollowed := true, recurses := true, apart := false, narrowed := true }
def NumEdgesUptoSaid : Prop := numEdgesUptoRow.holds Try.pinned (OpenSpec.upto numEdgesSpec)

/-- 'remembrancerlaw1.SumKnown', WHERE WHAT IT READS IS OF BULK AT MOST 1048576: true; the input reads as it did. -/
def sumKnownUptoRow : OpenClaim := { program := "ytffifddlooligaa", sum := "b80649bd473b5e1231118b11a1588afe1b593f19801e173bd1c1c72447b2098c", func := "remembrancer/remembrancerlaw1.SumKnown", spec := "sumKnown", inPlace := ["internal/bytealg.abigen_runtime_cmpstring", "slices.overlaps[remembrancer/store.object]", "maps.clone"], unfollowed := true, recurses := true, apart := false, narrowed := true }
def SumKnownUptoSaid : Prop := sumKnownUptoRow.holds Try.pinned (OpenSpec.upto sumKnownSpec)

/-- 'remembrancerlaw1.SumEnd', WHERE WHAT IT READS IS OF BULK AT MOST 1048576: true; the input reads as it did. -/
def sumEndUptoRow : OpenClaim := { program := "ytffifddlooligaa", sum := "b80649bd473b5e1231118b11a1588afe1b593f19801e173bd1c1c72447b2098c", func := "remembrancer/remembrancerlaw1.SumEnd", spec := "sumEnd", inPlace := ["internal/bytealg.abigen_runtime_cmpstring", "slices.overlaps[remembrancer/store.object]", "maps.clone"], unfollowed := true, recurses := true, apart := false, narrowed := true }
def SumEndUptoSaid : Prop := sumEndUptoRow.holds Try.pinned (OpenSpec.upto sumEndSpec)

/-- 'remembrancerlaw1.FrameOne', WHERE WHAT IT READS IS OF BULK AT MOST 1048576: true; the input reads as it did. -/
def frameOneUptoRow : OpenClaim := { program := "ytffifddlooligaa", sum := "b80649bd473b5e1231118b11a1588afe1b593f19801e173bd1c1c72447b2098c", func := "remembrancer/remembrancerlaw1.FrameOne", spec := "frameOne", inPlace := ["internal/bytealg.abigen_runtime_cmpstring", "slices.overlaps[remembrancer/store.object]", "maps.clone"], unfollowed := true, recurses := true, apart := false, narrowed := true }
def FrameOneUptoSaid : Prop := frameOneUptoRow.holds Try.pinned (OpenSpec.upto frameOneSpec)

/-- 'remembrancerlaw1.DiskTurned', WHERE WHAT IT READS IS OF BULK AT MOST 1048576: true; the input reads as it did. -/
def diskTurnedUptoRow : OpenClaim := { program := "ytffifddlooligaa", sum := "b80649bd473b5e1231118b11a1588afe1b593f19801e173bd1c1c72447b2098c", func := "remembrancer/remembrancerlaw1.DiskTurned", spec := "diskTurned", inPlace := ["internal/bytealg.abigen_runtime_cmpstring", "slices.overlaps[remembrancer/store.object]", "maps.clone"], unfollowed := true, recurses := true, apart := false, narrowed := true }
def DiskTurnedUptoSaid : Prop := diskTurnedUptoRow.holds Try.pinned (OpenSpec.upto diskTurnedSpec)

/-- 'remembrancerlaw1.MutOrder', WHERE WHAT IT READS IS OF BULK AT MOST 1048576: true; the input reads as it did. -/
def mutOrderUptoRow : OpenClaim := { program := "ytffifddlooligaa", sum := "b80649bd473b5e1231118b11a1588afe1b593f19801e173bd1c1c72447b2098c", func := "remembrancer/remembrancerlaw1.MutOrder", spec := "mutOrder", inPlace := ["internal/bytealg.abigen_runtime_cmpstring", "slices.overlaps[remembrancer/store.object]", "maps.clone"], unfollowed := true, recurses := true, apart := false, narrowed := true }
def MutOrderUptoSaid : Prop := mutOrderUptoRow.holds Try.pinned (OpenSpec.upto mutOrderSpec)

/-- 'remembrancerlaw1.NumOwn', WHERE WHAT IT READS IS OF BULK AT MOST 1048576: true; the input reads as it did. -/
def numOwnUptoRow : OpenClaim := { program := "ytffifddlooligaa", sum := "b80649bd473b5e1231118b11a1588afe1b593f19801e173bd1c1c72447b2098c", func := "remembrancer/remembrancerlaw1.NumOwn", spec := "numOwn", inPlace := ["internal/bytealg.abigen_runtime_cmpstring", "slices.overlaps[remembrancer/store.object]", "maps.clone"], unfollowed := true, recurses := true, apart := false, narrowed := true }
def NumOwnUptoSaid : Prop := numOwnUptoRow.holds Try.pinned (OpenSpec.upto numOwnSpec)

/-- 'remembrancerlaw1.FrameAll', WHERE WHAT IT READS IS OF BULK AT MOST 1048576: true; the input reads as it did. -/
def frameAllUptoRow : OpenClaim := { program := "ytffifddlooligaa", sum := "b80649bd473b5e1231118b11a1588afe1b593f19801e173bd1c1c72447b2098c", func := "remembrancer/remembrancerlaw1.FrameAll", spec := "frameAll", inPlace := ["internal/bytealg.abigen_runtime_cmpstring", "slices.overlaps[remembrancer/store.object]", "maps.clone"], unfollowed := true, recurses := true, apart := false, narrowed := true }
def FrameAllUptoSaid : Prop := frameAllUptoRow.holds Try.pinned (OpenSpec.upto frameAllSpec)

/-- 'remembrancerlaw1.FrameTorn', WHERE WHAT IT READS IS OF BULK AT MOST 1048576: true; the input reads as it did. -/
def frameTornUptoRow : OpenClaim := { program := "ytffifddlooligaa", sum := "b80649bd473b5e1231118b11a1588afe1b593f19801e173bd1c1c72447b2098c", func := "remembrancer/remembrancerlaw1.FrameTorn", spec := "frameTorn", inPlace := ["internal/bytealg.abigen_runtime_cmpstring", "slices.overlaps[remembrancer/store.object]", "maps.clone"], unfollowed := true, recurses := true, apart := false, narrowed := true }
def FrameTornUptoSaid : Prop := frameTornUptoRow.holds Try.pinned (OpenSpec.upto frameTornSpec)

/-- 'remembrancerlaw1.StoreOwn', WHERE WHAT IT READS IS OF BULK AT MOST 1048576: true; the input reads as it did. -/
def storeOwnUptoRow : OpenClaim := { program := "ytffifddlooligaa", sum := "b80649bd473b5e1231118b11a1588afe1b593f19801e173bd1c1c72447b2098c", func := "remembrancer/remembrancerlaw1.StoreOwn", spec := "storeOwn", inPlace := ["internal/bytealg.abigen_runtime_cmpstring", "slices.overlaps[remembrancer/store.object]", "maps.clone"], unfollowed := true, recurses := true, apart := false, narrowed := true }
def StoreOwnUptoSaid : Prop := storeOwnUptoRow.holds Try.pinned (OpenSpec.upto storeOwnSpec)

/-- 'remembrancerlaw1.StoreAtom', WHERE WHAT IT READS IS OF BULK AT MOST 1048576: true; the input reads as it did. -/
def storeAtomUptoRow : OpenClaim := { program := "ytffifddlooligaa", sum := "b80649bd473b5e1231118b11a1588afe1b593f19801e173bd1c1c72447b2098c", func := "remembrancer/remembrancerlaw1.StoreAtom", spec := "storeAtom", inPlace := ["internal/bytealg.abigen_runtime_cmpstring", "slices.overlaps[remembrancer/store.object]", "maps.clone"], unfollowed := true, recurses := true, apart := false, narrowed := true }
def StoreAtomUptoSaid : Prop := storeAtomUptoRow.holds Try.pinned (OpenSpec.upto storeAtomSpec)

/-- 'remembrancerlaw1.DiskSynced', WHERE WHAT IT READS IS OF BULK AT MOST 1048576: true; the input reads as it did. -/
def diskSyncedUptoRow : OpenClaim := { program := "ytffifddlooligaa", sum := "b80649bd473b5e1231118b11a1588afe1b593f19801e173bd1c1c72447b2098c", func := "remembrancer/remembrancerlaw1.DiskSynced", spec := "diskSynced", inPlace := ["internal/bytealg.abigen_runtime_cmpstring", "slices.overlaps[remembrancer/store.object]", "maps.clone"], unfollowed := true, recurses := true, apart := false, narrowed := true }
def DiskSyncedUptoSaid : Prop := diskSyncedUptoRow.holds Try.pinned (OpenSpec.upto diskSyncedSpec)

/-- 'remembrancerlaw1.NumText', WHERE WHAT IT READS IS OF BULK AT MOST 1048576: true; the input reads as it did. -/
def numTextUptoRow : OpenClaim := { program := "ytffifddlooligaa", sum := "b80649bd473b5e1231118b11a1588afe1b593f19801e173bd1c1c72447b2098c", func := "remembrancer/remembrancerlaw1.NumText", spec := "numText", inPlace := ["internal/bytealg.abigen_runtime_cmpstring", "slices.overlaps[remembrancer/store.object]", "maps.clone"], unfollowed := true, recurses := true, apart := false, narrowed := true }
def NumTextUptoSaid : Prop := numTextUptoRow.holds Try.pinned (OpenSpec.upto numTextSpec)

/-- 'remembrancerlaw1.MutKeys', WHERE WHAT IT READS IS OF BULK AT MOST 1048576: true; the input reads as it did. -/
def mutKeysUptoRow : OpenClaim := { program := "ytffifddlooligaa", sum := "b80649bd473b5e1231118b11a1588afe1b593f19801e173bd1c1c72447b2098c", func := "remembrancer/remembrancerlaw1.MutKeys", spec := "mutKeys", inPlace := ["internal/bytealg.abigen_runtime_cmpstring", "slices.overlaps[remembrancer/store.object]", "maps.clone"], unfollowed := true, recurses := true, apart := false, narrowed := true }
def MutKeysUptoSaid : Prop := mutKeysUptoRow.holds Try.pinned (OpenSpec.upto mutKeysSpec)

/-- 'remembrancerlaw1.StoreRoom', WHERE WHAT IT READS IS OF BULK AT MOST 1048576: true; the input reads as it did. -/
def storeRoomUptoRow : OpenClaim := { program := "ytffifddlooligaa", sum := "b80649bd473b5e1231118b11a1588afe1b593f19801e173bd1c1c72447b2098c", func := "remembrancer/remembrancerlaw1.StoreRoom", spec := "storeRoom", inPlace := ["internal/bytealg.abigen_runtime_cmpstring", "slices.overlaps[remembrancer/store.object]", "maps.clone"], unfollowed := true, recurses := true, apart := false, narrowed := true }
def StoreRoomUptoSaid : Prop := storeRoomUptoRow.holds Try.pinned (OpenSpec.upto storeRoomSpec)

end Rows
end Go.Proofs.Ytffifddlooligaa
