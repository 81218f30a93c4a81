/- From a contract to what a row asks. No function of the program is named here. -/
import Derived.Test.YtdpbbnnlbjgjgaaGreatN1
import Derived.Below
import Derived.OpenShut
set_option linter.unusedVariables false
set_option linter.unusedSimpArgs false
namespace Go.Sf
/-- All the world's cells, none of which is written. -/
def memOf (w : World) : Mem := fun b o => w.cell? ⟨b, o, none⟩
theorem rel_all (w : World) : Rel (memOf w) Heap.nil w := ⟨fun b o v h => ⟨rfl, h⟩, fun b k h => by cases h⟩
theorem Fr.below {M M' : Mem} {H' : Heap} {w w' : World} (h : Fr M Heap.nil w M' H' w') : RowKit.Below w.heap.size w w' := ⟨h.os, h.tape, h.output, h.size, fun k hk => (h.block k hk rfl).1⟩
theorem law_of {P : Program} {f : Nat} {args : List AV} (h : CP P f args (fun v => v = .bool true)) {vs : List Value} {w : World} (hv : VRels (memOf w) args vs) :
    Calls P f vs.toArray w fun e w' => e = .returned (.bool true) ∧ RowKit.Below w.heap.size w w' :=
  (h _ w vs hv (rel_all w)).mono fun e w' ⟨v, x, M', H', he, hx, hr, hf, hv⟩ => by
    subst hv
    rw [he, vr_bool hx]
    exact ⟨rfl, hf.below⟩
/-- A row of whole numbers that came in. -/
theorem row_imm {k : IntKind} {w : World} {x : Addr} {len cap : Nat} {zs : List Int} (hs : x.spot = none) (hl : len ≤ cap) (hz : zs.length = cap) (hc : ∀ i, i < zs.length → w.cell? (x.add i) = some (.int k (zs.getD i 0))) :
    VRel (memOf w) (.imm ((zs.take len).map (.int k ·)) len none) (.slice (some x) len cap) := by
  simp only [VRel]
  refine ⟨some x, (zs.take len).map (.int k ·), cap, rfl, fun _ h => (by cases h), hl, fun h => (by cases h), fun y hy => ?_, ?_⟩
  · cases hy
    refine ⟨fun _ => hs, fun j u hj => ?_⟩
    rw [List.getElem?_map, List.getElem?_take] at hj
    split at hj
    · rename_i hjl
      have hjz : j < zs.length := by omega
      rw [List.getElem?_eq_getElem hjz] at hj
      simp only [Option.map_some, Option.some.injEq] at hj
      subst hj
      have := hc j hjz
      rw [add_spot hs] at this
      unfold memOf
      rw [this]
      simp [List.getD_eq_getElem?_getD, List.getElem?_eq_getElem hjz]
    · simp at hj
  · generalize zs.take len = ys
    induction ys with
    | nil => exact .nil
    | cons y ys ih => exact .cons (by simp only [VRel]) ih
/-- What is told of a slice of whole numbers that came in. -/
def IsRowS (k : IntKind) (w : World) (a : Option Addr) (len cap : Nat) (zs : List Int) : Prop :=
  (a = none ∧ len = 0 ∧ cap = 0 ∧ zs = []) ∨
  ∃ x, a = some x ∧ x.spot = none ∧ len ≤ cap ∧ cap ≤ maxLen ∧ zs.length = cap ∧ (∀ i, i < zs.length → w.cell? (x.add i) = some (.int k (zs.getD i 0))) ∧ ∀ n ∈ zs, (Lit.int k n).wf = true
theorem okWide_spot {P : Program} {w : World} {r : Reach} {base : Nat} {t e : TypeId} {a : Addr} {len cap : Nat} (ht : P.underlying t = some (.slice e)) (h : Value.okWide P w r base t (.slice (some a) len cap)) : a.spot = none := by
  simp only [Value.okWide, ht, Cell.okWide, Cell.ok, World.has] at h
  exact h.2.2.2.1
theorem wf_bounds {k : IntKind} {n : Int} (h : (Lit.int k n).wf = true) : k.min ≤ n ∧ n ≤ k.max := by
  simpa [Lit.wf] using h
theorem nil_imm {M : Mem} {x : Value} (h : VRel M .nils x) : VRel M (immB [] none) x := by
  simp only [VRel] at h
  subst h
  simp only [immB, VRel]
  exact ⟨none, [], 0, rfl, fun x h => (by cases h), Nat.le_refl _, fun _ => ⟨rfl, rfl⟩, fun x h => (by cases h), .nil⟩
theorem imm_none {M : Mem} {cs : List AV} {n : Nat} {c : Option Nat} {x : Value} (h : VRel M (.imm cs n c) x) : VRel M (.imm cs n none) x := by
  simp only [VRel] at h ⊢
  obtain ⟨a, vs, k, h1, h2, h3⟩ := h
  exact ⟨a, vs, k, h1, fun x h => (by cases h), h3⟩
theorem isB_imm {M : Mem} {v : AV} {l : List UInt8} {x : Value} (h : IsB v l) (k : VRel M v x) : VRel M (immB l none) x := by
  rcases h with ⟨rfl, rfl⟩ | ⟨c, rfl⟩
  · exact nil_imm k
  · exact imm_none k
/-- What is known to be these bytes may be taken for a slice that is not told to be nil. -/
theorem CP.imm {P : Program} {f : Nat} {args : List AV} {l : List UInt8} (h : CP P f args (fun v => IsB v l)) : CP P f args (fun v => v = immB l none) :=
  fun M w vs h1 h2 => (h M w vs h1 h2).mono fun e w' ⟨v, x, M', H', e1, e2, e3, e4, e5⟩ => ⟨_, x, M', H', e1, isB_imm e5 e2, e3, e4, rfl⟩
/-- A slice of whole numbers that nobody writes. -/
def IsI (k : IntKind) (v : AV) (ns : List Int) : Prop := (v = .nils ∧ ns = []) ∨ ∃ c, v = .imm (ns.map (.int k ·)) ns.length c
theorem IsI.un {k : IntKind} {v : AV} {ns : List Int} (h : IsI k v ns) : Sf.un v = (True, v) := by
  rcases h with ⟨rfl, rfl⟩ | ⟨c, rfl⟩ <;> rfl
theorem rowI {k : IntKind} {w : World} {a : Option Addr} {len cap : Nat} {zs : List Int} (h : IsRowS k w a len cap zs) : ∃ ns u, IsI k u ns ∧ ns.length < 2 ^ 63 ∧ (∀ n ∈ ns, k.min ≤ n ∧ n ≤ k.max) ∧ VRel (memOf w) u (.slice a len cap) := by
  rcases h with ⟨rfl, rfl, rfl, rfl⟩ | ⟨x, rfl, hs, hl, hm, hz, hc, hw⟩
  · exact ⟨[], .nils, .inl ⟨rfl, rfl⟩, by simp, by simp, by simp only [VRel]⟩
  · have hlen : (zs.take len).length = len := by simp; omega
    refine ⟨zs.take len, _, .inr ⟨none, rfl⟩, ?_, fun n hn => wf_bounds (hw n (List.mem_of_mem_take hn)), ?_⟩
    · have : maxLen = 9223372036854775807 := rfl
      omega
    · rw [hlen]; exact row_imm hs hl hz hc
theorem rowI' {k : IntKind} {w : World} {a : Option Addr} {len cap : Nat} {zs : List Int} (h : IsRowS k w a len cap zs) : ∃ ns : List Int, ns.length < 2 ^ 63 ∧ (∀ n ∈ ns, k.min ≤ n ∧ n ≤ k.max) ∧ VRel (memOf w) (.imm (ns.map (.int k ·)) ns.length none) (.slice a len cap) := by
  obtain ⟨ns, u, h1, h2, h3, h4⟩ := rowI h
  refine ⟨ns, h2, h3, ?_⟩
  rcases h1 with ⟨rfl, rfl⟩ | ⟨c, rfl⟩
  · exact nil_imm h4
  · exact imm_none h4
end Go.Sf
