/- Rows of the call's own, held for good from a place on: of elements of any size. No function of the program is named here. -/
import Derived.Test.YtffifddlooligaaL1
set_option linter.unusedVariables false
set_option linter.unusedSimpArgs false
namespace Go.Sf
theorem Weak.ownS {sz : Nat} {T : Nat → AV} {H : Heap} {d n : Nat} {v : AV} {cs : List AV} (hT : T d = v) (ho : OwnR H sz n v cs) : ∃ H', Weak ⟨T, H⟩ ⟨put T (some d) (.imm cs n none), H'⟩ ∧ ∀ x, blkOf v ≠ some x → H' x = H x := by
  obtain ⟨hl, ⟨rfl, rfl⟩ | ⟨b, c, rfl, hb, hc⟩⟩ := ho
  · have hcs : cs = [] := List.length_eq_zero_iff.1 (by simpa using hl)
    subst hcs
    refine ⟨H, fun m M a w h1 h2 => ⟨M, ⟨h1.1, fun i hi => ?_⟩, h2, .refl _ _ _⟩, fun _ _ => rfl⟩
    simp only [put, tset]
    by_cases hid : i = d
    · subst hid
      rw [if_pos rfl]
      have hx : VRel M (T i) (a.getD i undef) := h1.2 i hi
      rw [hT] at hx
      have := nil_imm hx
      simpa [immB, bytesV] using this
    · rw [if_neg hid]; exact h1.2 i hi
  · exact ⟨_, Weak.frz hT hb hc, fun x hx => Heap.set_ne _ _ (fun h => hx (by rw [h]; rfl))⟩
/-- A row of the call's own, held for good from here on. -/
theorem MarkV.ownS {sz : Nat} {R : AS → (Exit → AS → Prop) → Prop} {Q : Exit → AS → Prop} {T : Nat → AV} {H : Heap} (d : Nat) {n : Nat} {v : AV} {cs : List AV} (hT : T d = v) (ho : OwnR H sz n v cs)
    (h : ∀ H', (∀ x, blkOf v ≠ some x → H' x = H x) → R ⟨put T (some d) (.imm cs n none), H'⟩ Q) : MarkV R ⟨T, H⟩ Q := by
  obtain ⟨H', hw, hk⟩ := Weak.ownS hT ho
  exact ⟨_, hw, h H' hk⟩
theorem Weak.trans {A B C : AS} (h : Weak A B) (k : Weak B C) : Weak A C := fun n M a w h1 h2 => by
  obtain ⟨M1, a1, a2, a3⟩ := h n M a w h1 h2
  obtain ⟨M2, b1, b2, b3⟩ := k n M1 a w a1 a2
  exact ⟨M2, b1, b2, a3.trans b3⟩
/-- Two rows, held for good from here on. -/
theorem MarkV.own2 {sz sz2 : Nat} {R : AS → (Exit → AS → Prop) → Prop} {Q : Exit → AS → Prop} {T : Nat → AV} {H : Heap} (d e : Nat) (hde : e ≠ d) {n m : Nat} {v u : AV} {cs ds : List AV} (hT : T d = v) (ho : OwnR H sz n v cs) (hU : T e = u) (hu : OwnR H sz2 m u ds)
    (hne : ∀ x, blkOf v = some x → blkOf u ≠ some x) (h : ∀ H', R ⟨put (put T (some d) (.imm cs n none)) (some e) (.imm ds m none), H'⟩ Q) : MarkV R ⟨T, H⟩ Q := by
  obtain ⟨H1, hw, hk⟩ := Weak.ownS hT ho
  have hu1 : OwnR H1 sz2 m u ds := by
    obtain ⟨hl, h1 | ⟨b, c, rfl, hb, hc⟩⟩ := hu
    · exact ⟨hl, .inl h1⟩
    · exact ⟨hl, .inr ⟨b, c, rfl, by rw [hk b (fun h => hne b h rfl)]; exact hb, hc⟩⟩
  obtain ⟨H2, hw2, -⟩ := Weak.ownS (T := put T (some d) (.imm cs n none)) (d := e) (by show tset T d _ e = u; rw [tset_ne _ _ hde]; exact hU) hu1
  exact ⟨_, hw.trans hw2, h H2⟩
end Go.Sf
