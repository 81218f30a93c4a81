/- A row of the call's own that is held from here on; the changes that may be. -/
import Derived.Test.YtcpfodhhjkaibaaGreatWP
import Derived.Test.YtcpfodhhjkaibaaGreatGS
set_option linter.unusedVariables false
set_option linter.unusedSimpArgs false
namespace Go.Sf
theorem Weak.frz {T : Nat → AV} {H : Heap} {d b n c k : Nat} {cs : List AV} (hT : T d = .sl b 0 n c) (hb : H b = some (.cells cs k)) (hnc : n ≤ c) : Weak ⟨T, H⟩ ⟨put T (some d) (.imm cs n none), H.set b none⟩ := by
  intro m M a w h1 h2
  obtain ⟨o, ho, hr⟩ := h2.live _ _ hb
  simp only [BRel] at hr
  obtain ⟨arr, e, fr, rfl, hs, hl, hf, hv⟩ := hr
  obtain ⟨r', f'⟩ := h2.hold hb ho
  refine ⟨_, ⟨h1.1, fun i hi => ?_⟩, r', f'⟩
  simp only [put, tset]
  by_cases hid : i = d
  · subst hid
    rw [if_pos rfl]
    have hx : VRel M (T i) (a.getD i undef) := h1.2 i hi
    rw [hT] at hx
    simp only [VRel] at hx
    rw [hx]
    simp only [VRel]
    refine ⟨some ⟨b, 0, none⟩, arr.toList.take cs.length, c, rfl, fun x h => (by cases h), hnc, fun h => (by cases h), fun y hy => ?_, VRels.mono f'.mle _ _ hv⟩
    cases hy
    refine ⟨fun _ => rfl, fun j u hj => ?_⟩
    rw [List.getElem?_take] at hj
    split at hj
    · simp only [madd, if_true, Nat.zero_add]; exact hj
    · cases hj
  · rw [if_neg hid]
    exact VRel.mono f'.mle _ _ (h1.2 i hi)
theorem Weak.ownS {sz : Nat} {T : Nat → AV} {H : Heap} {d n : Nat} {v : AV} {cs : List AV} (hT : T d = v) (ho : OwnR H sz n v cs) : ∃ H', Weak ⟨T, H⟩ ⟨put T (some d) (.imm cs n none), H'⟩ ∧ ∀ x, blkOf v ≠ some x → H' x = H x := by
  obtain ⟨hl, ⟨rfl, rfl⟩ | ⟨b, c, rfl, hb, hc⟩⟩ := ho
  · have hcs : cs = [] := List.length_eq_zero_iff.1 (by simpa using hl)
    subst hcs
    refine ⟨H, fun m M a w h1 h2 => ⟨M, ⟨h1.1, fun i hi => ?_⟩, h2, .refl _ _ _⟩, fun _ _ => rfl⟩
    simp only [put, tset]
    by_cases hid : i = d
    · subst hid
      rw [if_pos rfl]
      have hx : VRel M (T i) (a.getD i undef) := h1.2 i hi
      rw [hT] at hx
      have := nil_imm hx
      simpa [immB, bytesV] using this
    · rw [if_neg hid]; exact h1.2 i hi
  · exact ⟨_, Weak.frz hT hb hc, fun x hx => Heap.set_ne _ _ (fun h => hx (by rw [h]; rfl))⟩
/-- A row of the call's own, held for good from here on. -/
theorem MarkV.ownS {sz : Nat} {R : AS → (Exit → AS → Prop) → Prop} {Q : Exit → AS → Prop} {T : Nat → AV} {H : Heap} (d : Nat) {n : Nat} {v : AV} {cs : List AV} (hT : T d = v) (ho : OwnR H sz n v cs)
    (h : ∀ H', (∀ x, blkOf v ≠ some x → H' x = H x) → R ⟨put T (some d) (.imm cs n none), H'⟩ Q) : MarkV R ⟨T, H⟩ Q := by
  obtain ⟨H', hw, hk⟩ := Weak.ownS hT ho
  exact ⟨_, hw, h H' hk⟩
/-- Of the first changes those that may be. -/
def mayL (ms : List MutT) (i : Nat) : List MutT := (ms.take i).filter mayM
theorem mayL_le (ms : List MutT) (i : Nat) : (mayL ms i).length ≤ i := by
  unfold mayL
  have := List.length_filter_le mayM (ms.take i)
  rw [List.length_take] at this; omega
theorem mayL_may {ms : List MutT} {i : Nat} : ∀ m ∈ mayL ms i, mayM m = true := fun m hm => (List.mem_filter.1 hm).2
theorem mayL_step {ms : List MutT} {i : Nat} {mu : MutT} (h : ms[i]? = some mu) : mayL ms (i + 1) = mayL ms i ++ (if mayM mu = true then [mu] else []) := by
  unfold mayL
  rw [List.take_add_one, h, List.filter_append]
  by_cases hm : mayM mu = true <;> simp [hm]
end Go.Sf
