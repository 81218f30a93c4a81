/- The library's contracts, in the framework's words: maps.Clone, maps.Keys, slices.Sorted, strings.Compare. -/
import Derived.Test.YtdpbbnnlbjgjgaaGreatSH
import Derived.Test.YtdpbbnnlbjgjgaaGreatC3
import Derived.Test.YtdpbbnnlbjgjgaaGreatGK
set_option linter.unusedVariables false
set_option linter.unusedSimpArgs false
set_option maxRecDepth 100000
namespace Go.Sf
theorem Rel.below {M : Mem} {H : Heap} {w w' : World} (r : Rel M H w) (h : RowKit.Below w.heap.size w w') : Rel M H w' ∧ Fr M H w M H w' := by
  refine ⟨⟨fun b o v e => ?_, fun b k e => ?_⟩, ⟨h.os, h.tape, h.output, h.size, MLe.refl M, fun b hb hn => ⟨h.block b hb, hn, fun _ => rfl⟩⟩⟩
  · obtain ⟨h1, h2⟩ := r.mem b o v e
    exact ⟨h1, by rw [cell_of_block (h.block b (r.mlt e))]; exact h2⟩
  · obtain ⟨o, ho, hr⟩ := r.live b k e
    exact ⟨o, (h.block b (r.lt e)).trans ho, hr⟩
theorem Rel.below_hold {M : Mem} {H : Heap} {w w' : World} (r : Rel M H w) (h : RowKit.Below w.heap.size w w') {g : Nat} (hg : w.heap.size ≤ g) {c : Array Value} {e : TypeId} {fr : Nat × Nat} (hc : w'.heap[g]? = some (.cells c e fr)) :
    Rel (madd M g c.toList) H w' ∧ Fr M H w (madd M g c.toList) H w' := by
  obtain ⟨r', f⟩ := r.below h
  have hM : ∀ o, M g o = none := fun o => by
    cases hx : M g o with
    | none => rfl
    | some v => have := r.mlt hx; omega
  have hH : H g = none := r.fresh hg
  refine ⟨⟨fun b o v e' => ?_, fun b k e' => ?_⟩, ⟨f.os, f.tape, f.output, f.size, madd_le hM _, fun b hb hn => ⟨(f.block b hb hn).1, hn, fun o => ?_⟩⟩⟩
  · unfold madd at e'
    by_cases hbb : b = g
    · subst hbb
      rw [if_pos rfl] at e'
      exact ⟨hH, cells_at hc e'⟩
    · rw [if_neg hbb] at e'
      exact r'.mem b o v e'
  · obtain ⟨o, ho, hr⟩ := r'.live b k e'
    exact ⟨o, ho, hr.mono (madd_le hM _)⟩
  · unfold madd
    rw [if_neg (by omega)]
/-- A slice of strings that nobody writes. -/
def IsS (v : AV) (ss : List ByteArray) : Prop := (v = .nils ∧ ss = []) ∨ ∃ c, v = .imm (ss.map .str) ss.length c
theorem IsS.un {v : AV} {ss : List ByteArray} (h : IsS v ss) : Sf.un v = (True, v) := by
  rcases h with ⟨rfl, rfl⟩ | ⟨c, rfl⟩ <;> rfl
def cmpS (a b : ByteArray) : Int := Lib.compareBytes a.data.toList b.data.toList
def sortS (ns : List ByteArray) : List ByteArray := ((ns.map fun n => n.data.toList).mergeSort fun x y => decide (x ≤ y)).map strOf
end Go.Sf
namespace Go.Proofs.YtdpbbnnlbjgjgaaGreat
open Go.Sf
theorem k_mapsClone {H : Heap} {b : Nat} {es : List (AV × AV)} (hb : H b = some (.map es)) : CC PP F_maps_Clone_map_string_byte_string_byte [.mp b] H fun v H' => ∃ c, v = .mp c ∧ H c = none ∧ H' = H.set c (some (.map es)) := by
  intro M w vs hv hr
  obtain ⟨x, rfl, hx⟩ : ∃ x, vs = [x] ∧ VRel M (.mp b) x := by
    simp only [VRels] at hv
    obtain ⟨v, vs', rfl, h1, rfl⟩ := hv
    exact ⟨v, rfl, h1⟩
  simp only [VRel] at hx
  subst hx
  obtain ⟨o, ho, hrel⟩ := hr.live _ _ hb
  have hrel' := hrel
  simp only [BRel] at hrel
  obtain ⟨xs, clock, rfl, hst, hk, hvv⟩ := hrel
  refine (AnyW.maps_Clone Tryz.cloneM b xs clock w ho).mono ?_
  rintro e w' ⟨rfl, rfl⟩
  exact ⟨.mp w.heap.size, _, M, H.set w.heap.size (some (.map es)), rfl, by simp only [VRel], hr.push hrel', Fr.push _ _ _ _ _, _, rfl, hr.fresh (Nat.le_refl _), rfl⟩
theorem p_strCompare (a b : ByteArray) : CP PP F_strings_Compare [.str a, .str b] (fun v => v = .int .i64 (cmpS a b)) := by
  intro M w vs hv hr
  obtain ⟨rfl⟩ : vs = [.string a, .string b] := by
    simp only [VRels, VRel] at hv
    obtain ⟨_, _, rfl, rfl, _, _, rfl, rfl, rfl⟩ := hv
    rfl
  refine (Any.strings_Compare Tryz.cmpL a b w).mono ?_
  rintro e w' ⟨rfl, rfl⟩
  exact ⟨.int .i64 (cmpS a b), _, M, Heap.nil, rfl, by simp only [VRel]; rfl, hr, .refl _ _ _, rfl⟩
abbrev F_keys_1 : Nat := 169
theorem k_keys {H : Heap} {mb : Nat} : CC PP F_maps_Keys_map_string_byte_string_byte [.mp mb] H fun v H' => ∃ c, v = .fn (.func F_keys_1) [] [.ptr c 0] ∧ H c = none ∧ H' = H.set c (some (.cells [.mp mb] 1)) := by
  intro M w vs hv hr
  obtain ⟨rfl⟩ : vs = [.map (some mb)] := by
    simp only [VRels, VRel] at hv
    obtain ⟨_, _, rfl, rfl, rfl⟩ := hv
    rfl
  refine (callsIn_wide.1 (AnyZ.keys_in Tryz.keysA Fence.wide 1 trivial rfl (some mb) w)).mono ?_
  rintro e w' ⟨rfl, rfl⟩
  refine ⟨.fn (.func F_keys_1) [] [.ptr w.heap.size 0], _, M, H.set w.heap.size (some (.cells [.mp mb] 1)), rfl, ?_, hr.push ?_, Fr.push _ _ _ _ _, _, rfl, hr.fresh (Nat.le_refl _), rfl⟩
  · simp only [VRel]
    exact ⟨#[], #[.pointer (some ⟨w.heap.size, 0, none⟩)], rfl, .nil, .cons (by simp only [VRel]) .nil⟩
  · simp only [BRel]
    exact ⟨_, _, _, rfl, rfl, Nat.le_refl _, rfl, .cons (by simp only [VRel]) .nil⟩
theorem sortsA (m : Nat) : AnyZ.SortsIn Tryz.prog Tryz.sortedA_ren Fence.wide m :=
  ⟨fun blk off cap ss W hH hblk hsz => callsIn_wide.2 (AnyM.slices_Sort_string Tryz.sortA blk off cap ss W hH hblk hsz),
   fun p cap W => callsIn_wide.2 (AnyM.slices_Sort_string_none Tryz.sortA p cap W)⟩
end Go.Proofs.YtdpbbnnlbjgjgaaGreat
