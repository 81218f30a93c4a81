/- From a contract to what a row asks. No function of the program is named here. -/
import Derived.Test.YtcpfodhhjkaibaaGreatN1
import Derived.Below
import Derived.OpenShut
set_option linter.unusedVariables false
set_option linter.unusedSimpArgs false
namespace Go.Sf
/-- All the world's cells, none of which is written. -/
def memOf (w : World) : Mem := fun b o => w.cell? ⟨b, o, none⟩
theorem rel_all (w : World) : Rel (memOf w) Heap.nil w := ⟨fun b o v h => ⟨rfl, h⟩, fun b k h => by cases h⟩
theorem Fr.below {M M' : Mem} {H' : Heap} {w w' : World} (h : Fr M Heap.nil w M' H' w') : RowKit.Below w.heap.size w w' := ⟨h.os, h.tape, h.output, h.size, fun k hk => (h.block k hk rfl).1⟩
theorem law_of {P : Program} {f : Nat} {args : List AV} (h : CP P f args (fun v => v = .bool true)) {vs : List Value} {w : World} (hv : VRels (memOf w) args vs) :
    Calls P f vs.toArray w fun e w' => e = .returned (.bool true) ∧ RowKit.Below w.heap.size w w' :=
  (h _ w vs hv (rel_all w)).mono fun e w' ⟨v, x, M', H', he, hx, hr, hf, hv⟩ => by
    subst hv
    rw [he, vr_bool hx]
    exact ⟨rfl, hf.below⟩
theorem wf_bounds {k : IntKind} {n : Int} (h : (Lit.int k n).wf = true) : k.min ≤ n ∧ n ≤ k.max := by
  simpa [Lit.wf] using h
theorem nil_imm {M : Mem} {x : Value} (h : VRel M .nils x) : VRel M (immB [] none) x := by
  simp only [VRel] at h
  subst h
  simp only [immB, VRel]
  exact ⟨none, [], 0, rfl, fun x h => (by cases h), Nat.le_refl _, fun _ => ⟨rfl, rfl⟩, fun x h => (by cases h), .nil⟩
theorem imm_none {M : Mem} {cs : List AV} {n : Nat} {c : Option Nat} {x : Value} (h : VRel M (.imm cs n c) x) : VRel M (.imm cs n none) x := by
  simp only [VRel] at h ⊢
  obtain ⟨a, vs, k, h1, h2, h3⟩ := h
  exact ⟨a, vs, k, h1, fun x h => (by cases h), h3⟩
theorem isB_imm {M : Mem} {v : AV} {l : List UInt8} {x : Value} (h : IsB v l) (k : VRel M v x) : VRel M (immB l none) x := by
  rcases h with ⟨rfl, rfl⟩ | ⟨c, rfl⟩
  · exact nil_imm k
  · exact imm_none k
/-- What is known to be these bytes may be taken for a slice that is not told to be nil. -/
theorem CP.imm {P : Program} {f : Nat} {args : List AV} {l : List UInt8} (h : CP P f args (fun v => IsB v l)) : CP P f args (fun v => v = immB l none) :=
  fun M w vs h1 h2 => (h M w vs h1 h2).mono fun e w' ⟨v, x, M', H', e1, e2, e3, e4, e5⟩ => ⟨_, x, M', H', e1, isB_imm e5 e2, e3, e4, rfl⟩
/-- A slice of whole numbers that nobody writes. -/
def IsI (k : IntKind) (v : AV) (ns : List Int) : Prop := (v = .nils ∧ ns = []) ∨ ∃ c, v = .imm (ns.map (.int k ·)) ns.length c
theorem IsI.un {k : IntKind} {v : AV} {ns : List Int} (h : IsI k v ns) : Sf.un v = (True, v) := by
  rcases h with ⟨rfl, rfl⟩ | ⟨c, rfl⟩ <;> rfl
end Go.Sf
