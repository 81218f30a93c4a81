/-
  No cell of these rows narrows 'for every input' (looked for: loops, veiled, ifaces, maps, wideKeys, modest, calm, conditions, laid).
  DERIVED. THE GIVEN ROWS OF THIS SEAT. 14 by the template 'for every input the law returns true; each argument reads behind the call as it read before'; 0 by the template 'total and deterministic' (their statements: YtcpfodhhjkaibaaGreatTotals.lean).
  GIVEN WITH THE SEED: the statements are not yours to turn. If you find one false, say at which input.
  Laid BY PROGRAM, IN A SANDBOX (cutbox-rows.mjs): the forced cells as the released guide's own fill.sh prints them over the translation 0e6d0d4bfb4a6208… (all of the seat's roots in one cut). By AI agents, Wed Nov 11 2026. No macro, syntax, notation, axiom, sorry.
-/
import Derived.Test.YtcpfodhhjkaibaaGreatChecked
import GoSem.Claim
import GoSem.ClaimJoined
import GoSem.ClaimMapViews
import Derived.JoinedTies
import Derived.KernelRfl
namespace Go.Proofs.YtcpfodhhjkaibaaGreat
/- THE CELL 'sum', in the pinned program and in every row, IS THE sha256 OF THE DUMP (.gsa) THAT YtcpfodhhjkaibaaGreatProg.lean LOADS. Nothing in Lean hashes anything: it is a label: what it is worth is what the hold of that sum in a sandbox is worth. -/
noncomputable def Tryz.pinned : Pinned := { name := "ytcpfodhhjkaibaagreat", sum := "0e6d0d4bfb4a6208278b601e584a3a63fe3d152edc910d7b38fc14e3dc1bc0b3", checked := Tryz.checked }
namespace Rows
def none {H : Type} : Left H := { results := [], args := [] }

/-- 'remembrancerlaw7.ValueAll': WHATEVER THE INPUT: true; the input reads as it did. -/
def valueAllSpec : ChangeSpec := { name := "valueAll", fn := fun _ => fun
  | [d] => { results := [.lit (.bool true)], args := [d] }
  | _ => none }
def valueAllRow : OpenClaim := { program := "ytcpfodhhjkaibaagreat", sum := "0e6d0d4bfb4a6208278b601e584a3a63fe3d152edc910d7b38fc14e3dc1bc0b3", func := "remembrancer/remembrancerlaw7.ValueAll", spec := "valueAll", inPlace := ["slices.overlaps[remembrancer/value.cell]", "slices.overlaps[remembrancer/list.cell]", "slices.overlaps[remembrancer/dict.cell]", "slices.overlaps[remembrancer/api.Field]", "internal/bytealg.abigen_runtime_cmpstring", "slices.overlaps[remembrancer/store.object]", "maps.clone"], unfollowed := true, recurses := true, plainKeys := false, apart := false }
def ValueAllSaid : Prop := valueAllRow.holds Tryz.pinned (OpenSpec.ofChange valueAllSpec)

/-- ITS FALSE NEIGHBOUR: 'it returns false'. Refute it at one input. -/
def valueAllWrong : ChangeSpec := { name := "valueAll", fn := fun _ => fun
  | [d] => { results := [.lit (.bool false)], args := [d] }
  | _ => none }
def ValueAllWrongFalsely : Prop := valueAllRow.holds Tryz.pinned (OpenSpec.ofChange valueAllWrong)

/-- 'remembrancerlaw7.ListAll': WHATEVER THE INPUT: true; the input reads as it did. -/
def listAllSpec : ChangeSpec := { name := "listAll", fn := fun _ => fun
  | [d] => { results := [.lit (.bool true)], args := [d] }
  | _ => none }
def listAllRow : OpenClaim := { program := "ytcpfodhhjkaibaagreat", sum := "0e6d0d4bfb4a6208278b601e584a3a63fe3d152edc910d7b38fc14e3dc1bc0b3", func := "remembrancer/remembrancerlaw7.ListAll", spec := "listAll", inPlace := ["slices.overlaps[remembrancer/value.cell]", "slices.overlaps[remembrancer/list.cell]", "slices.overlaps[remembrancer/dict.cell]", "slices.overlaps[remembrancer/api.Field]", "internal/bytealg.abigen_runtime_cmpstring", "slices.overlaps[remembrancer/store.object]", "maps.clone"], unfollowed := true, recurses := true, plainKeys := false, apart := false }
def ListAllSaid : Prop := listAllRow.holds Tryz.pinned (OpenSpec.ofChange listAllSpec)

/-- ITS FALSE NEIGHBOUR: 'it returns false'. Refute it at one input. -/
def listAllWrong : ChangeSpec := { name := "listAll", fn := fun _ => fun
  | [d] => { results := [.lit (.bool false)], args := [d] }
  | _ => none }
def ListAllWrongFalsely : Prop := listAllRow.holds Tryz.pinned (OpenSpec.ofChange listAllWrong)

/-- 'remembrancerlaw7.ValueOrder': WHATEVER THE INPUT: true; the input reads as it did. -/
def valueOrderSpec : ChangeSpec := { name := "valueOrder", fn := fun _ => fun
  | [d1, d2] => { results := [.lit (.bool true)], args := [d1, d2] }
  | _ => none }
def valueOrderRow : OpenClaim := { program := "ytcpfodhhjkaibaagreat", sum := "0e6d0d4bfb4a6208278b601e584a3a63fe3d152edc910d7b38fc14e3dc1bc0b3", func := "remembrancer/remembrancerlaw7.ValueOrder", spec := "valueOrder", inPlace := ["slices.overlaps[remembrancer/value.cell]", "slices.overlaps[remembrancer/list.cell]", "slices.overlaps[remembrancer/dict.cell]", "slices.overlaps[remembrancer/api.Field]", "internal/bytealg.abigen_runtime_cmpstring", "slices.overlaps[remembrancer/store.object]", "maps.clone"], unfollowed := true, recurses := true, plainKeys := false, apart := false }
def ValueOrderSaid : Prop := valueOrderRow.holds Tryz.pinned (OpenSpec.ofChange valueOrderSpec)

/-- ITS FALSE NEIGHBOUR: 'it returns false'. Refute it at one input. -/
def valueOrderWrong : ChangeSpec := { name := "valueOrder", fn := fun _ => fun
  | [d1, d2] => { results := [.lit (.bool false)], args := [d1, d2] }
  | _ => none }
def ValueOrderWrongFalsely : Prop := valueOrderRow.holds Tryz.pinned (OpenSpec.ofChange valueOrderWrong)

/-- 'remembrancerlaw7.ListHundred': WHATEVER THE INPUT: true; the input reads as it did. -/
def listHundredSpec : ChangeSpec := { name := "listHundred", fn := fun _ => fun
  | [d1, d2] => { results := [.lit (.bool true)], args := [d1, d2] }
  | _ => none }
def listHundredRow : OpenClaim := { program := "ytcpfodhhjkaibaagreat", sum := "0e6d0d4bfb4a6208278b601e584a3a63fe3d152edc910d7b38fc14e3dc1bc0b3", func := "remembrancer/remembrancerlaw7.ListHundred", spec := "listHundred", inPlace := ["slices.overlaps[remembrancer/value.cell]", "slices.overlaps[remembrancer/list.cell]", "slices.overlaps[remembrancer/dict.cell]", "slices.overlaps[remembrancer/api.Field]", "internal/bytealg.abigen_runtime_cmpstring", "slices.overlaps[remembrancer/store.object]", "maps.clone"], unfollowed := true, recurses := true, plainKeys := false, apart := false }
def ListHundredSaid : Prop := listHundredRow.holds Tryz.pinned (OpenSpec.ofChange listHundredSpec)

/-- ITS FALSE NEIGHBOUR: 'it returns false'. Refute it at one input. -/
def listHundredWrong : ChangeSpec := { name := "listHundred", fn := fun _ => fun
  | [d1, d2] => { results := [.lit (.bool false)], args := [d1, d2] }
  | _ => none }
def ListHundredWrongFalsely : Prop := listHundredRow.holds Tryz.pinned (OpenSpec.ofChange listHundredWrong)

/-- 'remembrancerlaw7.StateAllNone': WHATEVER THE INPUT: true; the input reads as it did. -/
def stateAllNoneSpec : ChangeSpec := { name := "stateAllNone", fn := fun _ => fun
  | [d1, d2, d3] => { results := [.lit (.bool true)], args := [d1, d2, d3] }
  | _ => none }
def stateAllNoneRow : OpenClaim := { program := "ytcpfodhhjkaibaagreat", sum := "0e6d0d4bfb4a6208278b601e584a3a63fe3d152edc910d7b38fc14e3dc1bc0b3", func := "remembrancer/remembrancerlaw7.StateAllNone", spec := "stateAllNone", inPlace := ["slices.overlaps[remembrancer/value.cell]", "slices.overlaps[remembrancer/list.cell]", "slices.overlaps[remembrancer/dict.cell]", "slices.overlaps[remembrancer/api.Field]", "internal/bytealg.abigen_runtime_cmpstring", "slices.overlaps[remembrancer/store.object]", "maps.clone"], unfollowed := true, recurses := true, plainKeys := false, apart := false }
def StateAllNoneSaid : Prop := stateAllNoneRow.holds Tryz.pinned (OpenSpec.ofChange stateAllNoneSpec)

/-- ITS FALSE NEIGHBOUR: 'it returns false'. Refute it at one input. -/
def stateAllNoneWrong : ChangeSpec := { name := "stateAllNone", fn := fun _ => fun
  | [d1, d2, d3] => { results := [.lit (.bool false)], args := [d1, d2, d3] }
  | _ => none }
def StateAllNoneWrongFalsely : Prop := stateAllNoneRow.holds Tryz.pinned (OpenSpec.ofChange stateAllNoneWrong)

/-- 'remembrancerlaw7.StateLong': WHATEVER THE INPUT: true; the input reads as it did. -/
def stateLongSpec : ChangeSpec := { name := "stateLong", fn := fun _ => fun
  | [d1, d2] => { results := [.lit (.bool true)], args := [d1, d2] }
  | _ => none }
def stateLongRow : OpenClaim := { program := "ytcpfodhhjkaibaagreat", sum := "0e6d0d4bfb4a6208278b601e584a3a63fe3d152edc910d7b38fc14e3dc1bc0b3", func := "remembrancer/remembrancerlaw7.StateLong", spec := "stateLong", inPlace := ["slices.overlaps[remembrancer/value.cell]", "slices.overlaps[remembrancer/list.cell]", "slices.overlaps[remembrancer/dict.cell]", "slices.overlaps[remembrancer/api.Field]", "internal/bytealg.abigen_runtime_cmpstring", "slices.overlaps[remembrancer/store.object]", "maps.clone"], unfollowed := true, recurses := true, plainKeys := false, apart := false }
def StateLongSaid : Prop := stateLongRow.holds Tryz.pinned (OpenSpec.ofChange stateLongSpec)

/-- ITS FALSE NEIGHBOUR: 'it returns false'. Refute it at one input. -/
def stateLongWrong : ChangeSpec := { name := "stateLong", fn := fun _ => fun
  | [d1, d2] => { results := [.lit (.bool false)], args := [d1, d2] }
  | _ => none }
def StateLongWrongFalsely : Prop := stateLongRow.holds Tryz.pinned (OpenSpec.ofChange stateLongWrong)

/-- 'remembrancerlaw7.ListOwn': WHATEVER THE INPUT: true; the input reads as it did. -/
def listOwnSpec : ChangeSpec := { name := "listOwn", fn := fun _ => fun
  | [d] => { results := [.lit (.bool true)], args := [d] }
  | _ => none }
def listOwnRow : OpenClaim := { program := "ytcpfodhhjkaibaagreat", sum := "0e6d0d4bfb4a6208278b601e584a3a63fe3d152edc910d7b38fc14e3dc1bc0b3", func := "remembrancer/remembrancerlaw7.ListOwn", spec := "listOwn", inPlace := ["slices.overlaps[remembrancer/value.cell]", "slices.overlaps[remembrancer/list.cell]", "slices.overlaps[remembrancer/dict.cell]", "slices.overlaps[remembrancer/api.Field]", "internal/bytealg.abigen_runtime_cmpstring", "slices.overlaps[remembrancer/store.object]", "maps.clone"], unfollowed := true, recurses := true, plainKeys := false, apart := false }
def ListOwnSaid : Prop := listOwnRow.holds Tryz.pinned (OpenSpec.ofChange listOwnSpec)

/-- ITS FALSE NEIGHBOUR: 'it returns false'. Refute it at one input. -/
def listOwnWrong : ChangeSpec := { name := "listOwn", fn := fun _ => fun
  | [d] => { results := [.lit (.bool false)], args := [d] }
  | _ => none }
def ListOwnWrongFalsely : Prop := listOwnRow.holds Tryz.pinned (OpenSpec.ofChange listOwnWrong)

/-- 'remembrancerlaw7.StateKeys': WHATEVER THE INPUT: true; the input reads as it did. -/
def stateKeysSpec : ChangeSpec := { name := "stateKeys", fn := fun _ => fun
  | [d] => { results := [.lit (.bool true)], args := [d] }
  | _ => none }
def stateKeysRow : OpenClaim := { program := "ytcpfodhhjkaibaagreat", sum := "0e6d0d4bfb4a6208278b601e584a3a63fe3d152edc910d7b38fc14e3dc1bc0b3", func := "remembrancer/remembrancerlaw7.StateKeys", spec := "stateKeys", inPlace := ["slices.overlaps[remembrancer/value.cell]", "slices.overlaps[remembrancer/list.cell]", "slices.overlaps[remembrancer/dict.cell]", "slices.overlaps[remembrancer/api.Field]", "internal/bytealg.abigen_runtime_cmpstring", "slices.overlaps[remembrancer/store.object]", "maps.clone"], unfollowed := true, recurses := true, plainKeys := false, apart := false }
def StateKeysSaid : Prop := stateKeysRow.holds Tryz.pinned (OpenSpec.ofChange stateKeysSpec)

/-- ITS FALSE NEIGHBOUR: 'it returns false'. Refute it at one input. -/
def stateKeysWrong : ChangeSpec := { name := "stateKeys", fn := fun _ => fun
  | [d] => { results := [.lit (.bool false)], args := [d] }
  | _ => none }
def StateKeysWrongFalsely : Prop := stateKeysRow.holds Tryz.pinned (OpenSpec.ofChange stateKeysWrong)

/-- 'remembrancerlaw7.StateParts': WHATEVER THE INPUT: true; the input reads as it did. -/
def statePartsSpec : ChangeSpec := { name := "stateParts", fn := fun _ => fun
  | [d1, d2] => { results := [.lit (.bool true)], args := [d1, d2] }
  | _ => none }
def statePartsRow : OpenClaim := { program := "ytcpfodhhjkaibaagreat", sum := "0e6d0d4bfb4a6208278b601e584a3a63fe3d152edc910d7b38fc14e3dc1bc0b3", func := "remembrancer/remembrancerlaw7.StateParts", spec := "stateParts", inPlace := ["slices.overlaps[remembrancer/value.cell]", "slices.overlaps[remembrancer/list.cell]", "slices.overlaps[remembrancer/dict.cell]", "slices.overlaps[remembrancer/api.Field]", "internal/bytealg.abigen_runtime_cmpstring", "slices.overlaps[remembrancer/store.object]", "maps.clone"], unfollowed := true, recurses := true, plainKeys := false, apart := false }
def StatePartsSaid : Prop := statePartsRow.holds Tryz.pinned (OpenSpec.ofChange statePartsSpec)

/-- ITS FALSE NEIGHBOUR: 'it returns false'. Refute it at one input. -/
def statePartsWrong : ChangeSpec := { name := "stateParts", fn := fun _ => fun
  | [d1, d2] => { results := [.lit (.bool false)], args := [d1, d2] }
  | _ => none }
def StatePartsWrongFalsely : Prop := statePartsRow.holds Tryz.pinned (OpenSpec.ofChange statePartsWrong)

/-- 'remembrancerlaw7.DictAll': WHATEVER THE INPUT: true; the input reads as it did. -/
def dictAllSpec : ChangeSpec := { name := "dictAll", fn := fun _ => fun
  | [d] => { results := [.lit (.bool true)], args := [d] }
  | _ => none }
def dictAllRow : OpenClaim := { program := "ytcpfodhhjkaibaagreat", sum := "0e6d0d4bfb4a6208278b601e584a3a63fe3d152edc910d7b38fc14e3dc1bc0b3", func := "remembrancer/remembrancerlaw7.DictAll", spec := "dictAll", inPlace := ["slices.overlaps[remembrancer/value.cell]", "slices.overlaps[remembrancer/list.cell]", "slices.overlaps[remembrancer/dict.cell]", "slices.overlaps[remembrancer/api.Field]", "internal/bytealg.abigen_runtime_cmpstring", "slices.overlaps[remembrancer/store.object]", "maps.clone"], unfollowed := true, recurses := true, plainKeys := false, apart := false }
def DictAllSaid : Prop := dictAllRow.holds Tryz.pinned (OpenSpec.ofChange dictAllSpec)

/-- ITS FALSE NEIGHBOUR: 'it returns false'. Refute it at one input. -/
def dictAllWrong : ChangeSpec := { name := "dictAll", fn := fun _ => fun
  | [d] => { results := [.lit (.bool false)], args := [d] }
  | _ => none }
def DictAllWrongFalsely : Prop := dictAllRow.holds Tryz.pinned (OpenSpec.ofChange dictAllWrong)

/-- 'remembrancerlaw7.DictOne': WHATEVER THE INPUT: true; the input reads as it did. -/
def dictOneSpec : ChangeSpec := { name := "dictOne", fn := fun _ => fun
  | [d1, d2, d3] => { results := [.lit (.bool true)], args := [d1, d2, d3] }
  | _ => none }
def dictOneRow : OpenClaim := { program := "ytcpfodhhjkaibaagreat", sum := "0e6d0d4bfb4a6208278b601e584a3a63fe3d152edc910d7b38fc14e3dc1bc0b3", func := "remembrancer/remembrancerlaw7.DictOne", spec := "dictOne", inPlace := ["slices.overlaps[remembrancer/value.cell]", "slices.overlaps[remembrancer/list.cell]", "slices.overlaps[remembrancer/dict.cell]", "slices.overlaps[remembrancer/api.Field]", "internal/bytealg.abigen_runtime_cmpstring", "slices.overlaps[remembrancer/store.object]", "maps.clone"], unfollowed := true, recurses := true, plainKeys := false, apart := false }
def DictOneSaid : Prop := dictOneRow.holds Tryz.pinned (OpenSpec.ofChange dictOneSpec)

/-- ITS FALSE NEIGHBOUR: 'it returns false'. Refute it at one input. -/
def dictOneWrong : ChangeSpec := { name := "dictOne", fn := fun _ => fun
  | [d1, d2, d3] => { results := [.lit (.bool false)], args := [d1, d2, d3] }
  | _ => none }
def DictOneWrongFalsely : Prop := dictOneRow.holds Tryz.pinned (OpenSpec.ofChange dictOneWrong)

/-- 'remembrancerlaw7.StateThree': WHATEVER THE INPUT: true; the input reads as it did. -/
def stateThreeSpec : ChangeSpec := { name := "stateThree", fn := fun _ => fun
  | [d1, d2, d3, d4, d5] => { results := [.lit (.bool true)], args := [d1, d2, d3, d4, d5] }
  | _ => none }
def stateThreeRow : OpenClaim := { program := "ytcpfodhhjkaibaagreat", sum := "0e6d0d4bfb4a6208278b601e584a3a63fe3d152edc910d7b38fc14e3dc1bc0b3", func := "remembrancer/remembrancerlaw7.StateThree", spec := "stateThree", inPlace := ["slices.overlaps[remembrancer/value.cell]", "slices.overlaps[remembrancer/list.cell]", "slices.overlaps[remembrancer/dict.cell]", "slices.overlaps[remembrancer/api.Field]", "internal/bytealg.abigen_runtime_cmpstring", "slices.overlaps[remembrancer/store.object]", "maps.clone"], unfollowed := true, recurses := true, plainKeys := false, apart := false }
def StateThreeSaid : Prop := stateThreeRow.holds Tryz.pinned (OpenSpec.ofChange stateThreeSpec)

/-- ITS FALSE NEIGHBOUR: 'it returns false'. Refute it at one input. -/
def stateThreeWrong : ChangeSpec := { name := "stateThree", fn := fun _ => fun
  | [d1, d2, d3, d4, d5] => { results := [.lit (.bool false)], args := [d1, d2, d3, d4, d5] }
  | _ => none }
def StateThreeWrongFalsely : Prop := stateThreeRow.holds Tryz.pinned (OpenSpec.ofChange stateThreeWrong)

/-- 'remembrancerlaw7.StateNothing': WHATEVER THE INPUT: true; the input reads as it did. -/
def stateNothingSpec : ChangeSpec := { name := "stateNothing", fn := fun _ => fun
  | [d1, d2, d3, d4, d5] => { results := [.lit (.bool true)], args := [d1, d2, d3, d4, d5] }
  | _ => none }
def stateNothingRow : OpenClaim := { program := "ytcpfodhhjkaibaagreat", sum := "0e6d0d4bfb4a6208278b601e584a3a63fe3d152edc910d7b38fc14e3dc1bc0b3", func := "remembrancer/remembrancerlaw7.StateNothing", spec := "stateNothing", inPlace := ["slices.overlaps[remembrancer/value.cell]", "slices.overlaps[remembrancer/list.cell]", "slices.overlaps[remembrancer/dict.cell]", "slices.overlaps[remembrancer/api.Field]", "internal/bytealg.abigen_runtime_cmpstring", "slices.overlaps[remembrancer/store.object]", "maps.clone"], unfollowed := true, recurses := true, plainKeys := false, apart := false }
def StateNothingSaid : Prop := stateNothingRow.holds Tryz.pinned (OpenSpec.ofChange stateNothingSpec)

/-- ITS FALSE NEIGHBOUR: 'it returns false'. Refute it at one input. -/
def stateNothingWrong : ChangeSpec := { name := "stateNothing", fn := fun _ => fun
  | [d1, d2, d3, d4, d5] => { results := [.lit (.bool false)], args := [d1, d2, d3, d4, d5] }
  | _ => none }
def StateNothingWrongFalsely : Prop := stateNothingRow.holds Tryz.pinned (OpenSpec.ofChange stateNothingWrong)

/-- 'remembrancerlaw7.StateNone': WHATEVER THE INPUT: true; the input reads as it did. -/
def stateNoneSpec : ChangeSpec := { name := "stateNone", fn := fun _ => fun
  | [] => { results := [.lit (.bool true)], args := [] }
  | _ => none }
def stateNoneRow : OpenClaim := { program := "ytcpfodhhjkaibaagreat", sum := "0e6d0d4bfb4a6208278b601e584a3a63fe3d152edc910d7b38fc14e3dc1bc0b3", func := "remembrancer/remembrancerlaw7.StateNone", spec := "stateNone", inPlace := ["slices.overlaps[remembrancer/value.cell]", "slices.overlaps[remembrancer/list.cell]", "slices.overlaps[remembrancer/dict.cell]", "slices.overlaps[remembrancer/api.Field]", "internal/bytealg.abigen_runtime_cmpstring", "slices.overlaps[remembrancer/store.object]", "maps.clone"], unfollowed := true, recurses := true, plainKeys := false, apart := false }
def StateNoneSaid : Prop := stateNoneRow.holds Tryz.pinned (OpenSpec.ofChange stateNoneSpec)

/-- ITS FALSE NEIGHBOUR: 'it returns false'. Refute it at one input. -/
def stateNoneWrong : ChangeSpec := { name := "stateNone", fn := fun _ => fun
  | [] => { results := [.lit (.bool false)], args := [] }
  | _ => none }
def StateNoneWrongFalsely : Prop := stateNoneRow.holds Tryz.pinned (OpenSpec.ofChange stateNoneWrong)

/- THE SECOND FORM. 'bulk': how many values and letters a reading holds, each counted each time it is reached (what is shared counts as often as it is met; a slice's spare places count too). A statement '..UptoSaid' is the law's where the arguments, and the package variables that the reading takes, are together of bulk at most 1048576: NARROWER than '..Said'. Prove '..Said' where nothing that the law and all that it calls make is longer than what came in: it says more and counts as full. Else prove '..UptoSaid'. A law counts once. -/
mutual
def uptoBulk {H : Type} : DataW H → Nat
  | .lit (.string bytes) => bytes.length + 1
  | .lit _ => 1
  | .nil => 1
  | .ptr d => uptoBulk d + 1
  | .slice elems spare => uptoBulkAll elems + uptoBulkAll spare + 1
  | .agg parts => uptoBulkAll parts + 1
  | .iface _ d => uptoBulk d + 1
  | .map entries => uptoBulkEntries entries + 1
  | .held _ => 1
def uptoBulkAll {H : Type} : List (DataW H) → Nat
  | [] => 0
  | d :: r => uptoBulk d + uptoBulkAll r
def uptoBulkEntries {H : Type} : List (Lit × DataW H) → Nat
  | [] => 0
  | x :: r => uptoBulkEntry x + uptoBulkEntries r
def uptoBulkEntry {H : Type} : Lit × DataW H → Nat
  | (.string bytes, d) => bytes.length + uptoBulk d + 1
  | (_, d) => uptoBulk d + 1
 end
def uptoSmall : (H : Type) → List (DataW H) → Bool := fun _ ds => decide (uptoBulkAll ds ≤ 1048576)
def OpenSpec.upto (s : _root_.Go.ChangeSpec) : _root_.Go.OpenSpec := { _root_.Go.OpenSpec.ofChange s with cond := some uptoSmall }

/-- 'remembrancerlaw7.ValueAll', WHERE WHAT IT READS IS OF BULK AT MOST 1048576: true; the input reads as it did. -/
def valueAllUptoRow : OpenClaim := { program := "ytcpfodhhjkaibaagreat", sum := "0e6d0d4bfb4a6208278b601e584a3a63fe3d152edc910d7b38fc14e3dc1bc0b3", func := "remembrancer/remembrancerlaw7.ValueAll", spec := "valueAll", inPlace := ["slices.overlaps[remembrancer/value.cell]", "slices.overlaps[remembrancer/list.cell]", "slices.overlaps[remembrancer/dict.cell]", "slices.overlaps[remembrancer/api.Field]", "internal/bytealg.abigen_runtime_cmpstring", "slices.overlaps[remembrancer/store.object]", "maps.clone"], unfollowed := true, recurses := true, plainKeys := false, apart := false, narrowed := true }
def ValueAllUptoSaid : Prop := valueAllUptoRow.holds Tryz.pinned (OpenSpec.upto valueAllSpec)

/-- 'remembrancerlaw7.ListAll', WHERE WHAT IT READS IS OF BULK AT MOST 1048576: true; the input reads as it did. -/
def listAllUptoRow : OpenClaim := { program := "ytcpfodhhjkaibaagreat", sum := "0e6d0d4bfb4a6208278b601e584a3a63fe3d152edc910d7b38fc14e3dc1bc0b3", func := "remembrancer/remembrancerlaw7.ListAll", spec := "listAll", inPlace := ["slices.overlaps[remembrancer/value.cell]", "slices.overlaps[remembrancer/list.cell]", "slices.overlaps[remembrancer/dict.cell]", "slices.overlaps[remembrancer/api.Field]", "internal/bytealg.abigen_runtime_cmpstring", "slices.overlaps[remembrancer/store.object]", "maps.clone"], unfollowed := true, recurses := true, plainKeys := false, apart := false, narrowed := true }
def ListAllUptoSaid : Prop := listAllUptoRow.holds Tryz.pinned (OpenSpec.upto listAllSpec)

/-- 'remembrancerlaw7.ValueOrder', WHERE WHAT IT READS IS OF BULK AT MOST 1048576: true; the input reads as it did. -/
def valueOrderUptoRow : OpenClaim := { program := "ytcpfodhhjkaibaagreat", sum := "0e6d0d4bfb4a6208278b601e584a3a63fe3d152edc910d7b38fc14e3dc1bc0b3", func := "remembrancer/remembrancerlaw7.ValueOrder", spec := "valueOrder", inPlace := ["slices.overlaps[remembrancer/value.cell]", "slices.overlaps[remembrancer/list.cell]", "slices.overlaps[remembrancer/dict.cell]", "slices.overlaps[remembrancer/api.Field]", "internal/bytealg.abigen_runtime_cmpstring", "slices.overlaps[remembrancer/store.object]", "maps.clone"], unfollowed := true, recurses := true, plainKeys := false, apart := false, narrowed := true }
def ValueOrderUptoSaid : Prop := valueOrderUptoRow.holds Tryz.pinned (OpenSpec.upto valueOrderSpec)

/-- 'remembrancerlaw7.ListHundred', WHERE WHAT IT READS IS OF BULK AT MOST 1048576: true; the input reads as it did. -/
def listHundredUptoRow : OpenClaim := { program := "ytcpfodhhjkaibaagreat", sum := "0e6d0d4bfb4a6208278b601e584a3a63fe3d152edc910d7b38fc14e3dc1bc0b3", func := "remembrancer/remembrancerlaw7.ListHundred", spec := "listHundred", inPlace := ["slices.overlaps[remembrancer/value.cell]", "slices.overlaps[remembrancer/list.cell]", "slices.overlaps[remembrancer/dict.cell]", "slices.overlaps[remembrancer/api.Field]", "internal/bytealg.abigen_runtime_cmpstring", "slices.overlaps[remembrancer/store.object]", "maps.clone"], unfollowed := true, recurses := true, plainKeys := false, apart := false, narrowed := true }
def ListHundredUptoSaid : Prop := listHundredUptoRow.holds Tryz.pinned (OpenSpec.upto listHundredSpec)

/-- 'remembrancerlaw7.StateAllNone', WHERE WHAT IT READS IS OF BULK AT MOST 1048576: true; the input reads as it did. -/
def stateAllNoneUptoRow : OpenClaim := { program := "ytcpfodhhjkaibaagreat", sum := "0e6d0d4bfb4a6208278b601e584a3a63fe3d152edc910d7b38fc14e3dc1bc0b3", func := "remembrancer/remembrancerlaw7.StateAllNone", spec := "stateAllNone", inPlace := ["slices.overlaps[remembrancer/value.cell]", "slices.overlaps[remembrancer/list.cell]", "slices.overlaps[remembrancer/dict.cell]", "slices.overlaps[remembrancer/api.Field]", "internal/bytealg.abigen_runtime_cmpstring", "slices.overlaps[remembrancer/store.object]", "maps.clone"], unfollowed := true, recurses := true, plainKeys := false, apart := false, narrowed := true }
def StateAllNoneUptoSaid : Prop := stateAllNoneUptoRow.holds Tryz.pinned (OpenSpec.upto stateAllNoneSpec)

/-- 'remembrancerlaw7.StateLong', WHERE WHAT IT READS IS OF BULK AT MOST 1048576: true; the input reads as it did. -/
def stateLongUptoRow : OpenClaim := { program := "ytcpfodhhjkaibaagreat", sum := "0e6d0d4bfb4a6208278b601e584a3a63fe3d152edc910d7b38fc14e3dc1bc0b3", func := "remembrancer/remembrancerlaw7.StateLong", spec := "stateLong", inPlace := ["slices.overlaps[remembrancer/value.cell]", "slices.overlaps[remembrancer/list.cell]", "slices.overlaps[remembrancer/dict.cell]", "slices.overlaps[remembrancer/api.Field]", "internal/bytealg.abigen_runtime_cmpstring", "slices.overlaps[remembrancer/store.object]", "maps.clone"], unfollowed := true, recurses := true, plainKeys := false, apart := false, narrowed := true }
def StateLongUptoSaid : Prop := stateLongUptoRow.holds Tryz.pinned (OpenSpec.upto stateLongSpec)

/-- 'remembrancerlaw7.ListOwn', WHERE WHAT IT READS IS OF BULK AT MOST 1048576: true; the input reads as it did. -/
def listOwnUptoRow : OpenClaim := { program := "ytcpfodhhjkaibaagreat", sum := "0e6d0d4bfb4a6208278b601e584a3a63fe3d152edc910d7b38fc14e3dc1bc0b3", func := "remembrancer/remembrancerlaw7.ListOwn", spec := "listOwn", inPlace := ["slices.overlaps[remembrancer/value.cell]", "slices.overlaps[remembrancer/list.cell]", "slices.overlaps[remembrancer/dict.cell]", "slices.overlaps[remembrancer/api.Field]", "internal/bytealg.abigen_runtime_cmpstring", "slices.overlaps[remembrancer/store.object]", "maps.clone"], unfollowed := true, recurses := true, plainKeys := false, apart := false, narrowed := true }
def ListOwnUptoSaid : Prop := listOwnUptoRow.holds Tryz.pinned (OpenSpec.upto listOwnSpec)

/-- 'remembrancerlaw7.StateKeys', WHERE WHAT IT READS IS OF BULK AT MOST 1048576: true; the input reads as it did. -/
def stateKeysUptoRow : OpenClaim := { program := "ytcpfodhhjkaibaagreat", sum := "0e6d0d4bfb4a6208278b601e584a3a63fe3d152edc910d7b38fc14e3dc1bc0b3", func := "remembrancer/remembrancerlaw7.StateKeys", spec := "stateKeys", inPlace := ["slices.overlaps[remembrancer/value.cell]", "slices.overlaps[remembrancer/list.cell]", "slices.overlaps[remembrancer/dict.cell]", "slices.overlaps[remembrancer/api.Field]", "internal/bytealg.abigen_runtime_cmpstring", "slices.overlaps[remembrancer/store.object]", "maps.clone"], unfollowed := true, recurses := true, plainKeys := false, apart := false, narrowed := true }
def StateKeysUptoSaid : Prop := stateKeysUptoRow.holds Tryz.pinned (OpenSpec.upto stateKeysSpec)

/-- 'remembrancerlaw7.StateParts', WHERE WHAT IT READS IS OF BULK AT MOST 1048576: true; the input reads as it did. -/
def statePartsUptoRow : OpenClaim := { program := "ytcpfodhhjkaibaagreat", sum := "0e6d0d4bfb4a6208278b601e584a3a63fe3d152edc910d7b38fc14e3dc1bc0b3", func := "remembrancer/remembrancerlaw7.StateParts", spec := "stateParts", inPlace := ["slices.overlaps[remembrancer/value.cell]", "slices.overlaps[remembrancer/list.cell]", "slices.overlaps[remembrancer/dict.cell]", "slices.overlaps[remembrancer/api.Field]", "internal/bytealg.abigen_runtime_cmpstring", "slices.overlaps[remembrancer/store.object]", "maps.clone"], unfollowed := true, recurses := true, plainKeys := false, apart := false, narrowed := true }
def StatePartsUptoSaid : Prop := statePartsUptoRow.holds Tryz.pinned (OpenSpec.upto statePartsSpec)

/-- 'remembrancerlaw7.DictAll', WHERE WHAT IT READS IS OF BULK AT MOST 1048576: true; the input reads as it did. -/
def dictAllUptoRow : OpenClaim := { program := "ytcpfodhhjkaibaagreat", sum := "0e6d0d4bfb4a6208278b601e584a3a63fe3d152edc910d7b38fc14e3dc1bc0b3", func := "remembrancer/remembrancerlaw7.DictAll", spec := "dictAll", inPlace := ["slices.overlaps[remembrancer/value.cell]", "slices.overlaps[remembrancer/list.cell]", "slices.overlaps[remembrancer/dict.cell]", "slices.overlaps[remembrancer/api.Field]", "internal/bytealg.abigen_runtime_cmpstring", "slices.overlaps[remembrancer/store.object]", "maps.clone"], unfollowed := true, recurses := true, plainKeys := false, apart := false, narrowed := true }
def DictAllUptoSaid : Prop := dictAllUptoRow.holds Tryz.pinned (OpenSpec.upto dictAllSpec)

/-- 'remembrancerlaw7.DictOne', WHERE WHAT IT READS IS OF BULK AT MOST 1048576: true; the input reads as it did. -/
def dictOneUptoRow : OpenClaim := { program := "ytcpfodhhjkaibaagreat", sum := "0e6d0d4bfb4a6208278b601e584a3a63fe3d152edc910d7b38fc14e3dc1bc0b3", func := "remembrancer/remembrancerlaw7.DictOne", spec := "dictOne", inPlace := ["slices.overlaps[remembrancer/value.cell]", "slices.overlaps[remembrancer/list.cell]", "slices.overlaps[remembrancer/dict.cell]", "slices.overlaps[remembrancer/api.Field]", "internal/bytealg.abigen_runtime_cmpstring", "slices.overlaps[remembrancer/store.object]", "maps.clone"], unfollowed := true, recurses := true, plainKeys := false, apart := false, narrowed := true }
def DictOneUptoSaid : Prop := dictOneUptoRow.holds Tryz.pinned (OpenSpec.upto dictOneSpec)

/-- 'remembrancerlaw7.StateThree', WHERE WHAT IT READS IS OF BULK AT MOST 1048576: true; the input reads as it did. -/
def stateThreeUptoRow : OpenClaim := { program := "ytcpfodhhjkaibaagreat", sum := "0e6d0d4bfb4a6208278b601e584a3a63fe3d152edc910d7b38fc14e3dc1bc0b3", func := "remembrancer/remembrancerlaw7.StateThree", spec := "stateThree", inPlace := ["slices.overlaps[remembrancer/value.cell]", "slices.overlaps[remembrancer/list.cell]", "slices.overlaps[remembrancer/dict.cell]", "slices.overlaps[remembrancer/api.Field]", "internal/bytealg.abigen_runtime_cmpstring", "slices.overlaps[remembrancer/store.object]", "maps.clone"], unfollowed := true, recurses := true, plainKeys := false, apart := false, narrowed := true }
def StateThreeUptoSaid : Prop := stateThreeUptoRow.holds Tryz.pinned (OpenSpec.upto stateThreeSpec)

/-- 'remembrancerlaw7.StateNothing', WHERE WHAT IT READS IS OF BULK AT MOST 1048576: true; the input reads as it did. -/
def stateNothingUptoRow : OpenClaim := { program := "ytcpfodhhjkaibaagreat", sum := "0e6d0d4bfb4a6208278b601e584a3a63fe3d152edc910d7b38fc14e3dc1bc0b3", func := "remembrancer/remembrancerlaw7.StateNothing", spec := "stateNothing", inPlace := ["slices.overlaps[remembrancer/value.cell]", "slices.overlaps[remembrancer/list.cell]", "slices.overlaps[remembrancer/dict.cell]", "slices.overlaps[remembrancer/api.Field]", "internal/bytealg.abigen_runtime_cmpstring", "slices.overlaps[remembrancer/store.object]", "maps.clone"], unfollowed := true, recurses := true, plainKeys := false, apart := false, narrowed := true }
def StateNothingUptoSaid : Prop := stateNothingUptoRow.holds Tryz.pinned (OpenSpec.upto stateNothingSpec)

/-- 'remembrancerlaw7.StateNone', WHERE WHAT IT READS IS OF BULK AT MOST 1048576: true; the input reads as it did. -/
def stateNoneUptoRow : OpenClaim := { program := "ytcpfodhhjkaibaagreat", sum := "0e6d0d4bfb4a6208278b601e584a3a63fe3d152edc910d7b38fc14e3dc1bc0b3", func := "remembrancer/remembrancerlaw7.StateNone", spec := "stateNone", inPlace := ["slices.overlaps[remembrancer/value.cell]", "slices.overlaps[remembrancer/list.cell]", "slices.overlaps[remembrancer/dict.cell]", "slices.overlaps[remembrancer/api.Field]", "internal/bytealg.abigen_runtime_cmpstring", "slices.overlaps[remembrancer/store.object]", "maps.clone"], unfollowed := true, recurses := true, plainKeys := false, apart := false, narrowed := true }
def StateNoneUptoSaid : Prop := stateNoneUptoRow.holds Tryz.pinned (OpenSpec.upto stateNoneSpec)

end Rows
end Go.Proofs.YtcpfodhhjkaibaaGreat
