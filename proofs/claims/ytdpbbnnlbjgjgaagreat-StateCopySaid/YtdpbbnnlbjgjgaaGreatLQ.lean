/- What comes in: keys, changes, steps of a disk: their abstract values. No function of the program is named here. -/
import Derived.Test.YtdpbbnnlbjgjgaaGreatLO
import Derived.Test.YtdpbbnnlbjgjgaaGreatGK
set_option linter.unusedVariables false
set_option linter.unusedSimpArgs false
namespace Go.Proofs.YtdpbbnnlbjgjgaaGreat
open Go.Sf
abbrev shI : Sh := .int .i64
abbrev shKey : Sh := .pair shI (.pair shI (.pair shI .unit))
abbrev shMut : Sh := .pair shI (.pair shKey (.pair shI (.pair shI .unit)))
def okI (x : Int) : Prop := -9223372036854775808 ≤ x ∧ x < 9223372036854775808
theorem good_int {g : List AV} (h : Sf.Good shI g) : ∃ x : Int, g = [.int .i64 x] ∧ okI x := by
  obtain ⟨x, rfl, h1, h2⟩ := h
  have e1 : IntKind.i64.min = -9223372036854775808 := rfl
  have e2 : IntKind.i64.max = 9223372036854775807 := rfl
  exact ⟨x, rfl, by unfold okI; omega⟩
theorem good_key {g : List AV} (h : Sf.Good shKey g) : ∃ a b c : Int, g = [.int .i64 a, .int .i64 b, .int .i64 c] ∧ okI a ∧ okI b ∧ okI c := by
  obtain ⟨x, y, rfl, h1, z, u, rfl, h2, q, r, rfl, h3, rfl⟩ := h
  obtain ⟨a, rfl, ha⟩ := good_int h1
  obtain ⟨b, rfl, hb⟩ := good_int h2
  obtain ⟨c, rfl, hc⟩ := good_int h3
  exact ⟨a, b, c, rfl, ha, hb, hc⟩
theorem good_mut {g : List AV} (h : Sf.Good shMut g) : ∃ m : MutT, g = mutCs m ∧ okM m := by
  obtain ⟨x, y, rfl, h1, z, u, rfl, h2, q, r, rfl, h3, s, t, rfl, h4, rfl⟩ := h
  obtain ⟨k, rfl, hk⟩ := good_int h1
  obtain ⟨a, b, c, rfl, ha, hb, hc⟩ := good_key h2
  obtain ⟨f, rfl, hf⟩ := good_int h3
  obtain ⟨v, rfl, hv⟩ := good_int h4
  refine ⟨⟨k, a, b, c, f, v⟩, rfl, fun x hx => ?_⟩
  simp at hx
  rcases hx with rfl | rfl | rfl | rfl | rfl | rfl <;> assumption
theorem good_muts : ∀ {gs : List (List AV)}, (∀ g ∈ gs, Sf.Good shMut g) → ∃ ms : List MutT, gs.flatten = ms.flatMap mutCs ∧ gs.length = ms.length ∧ ∀ m ∈ ms, okM m
  | [], _ => ⟨[], rfl, rfl, by simp⟩
  | g :: gs, h => by
    obtain ⟨m, rfl, hm⟩ := good_mut (h g (by simp))
    obtain ⟨ms, h1, h2, h3⟩ := good_muts (gs := gs) fun g hg => h g (by simp [hg])
    refine ⟨m :: ms, by simp [h1], by simp [h2], fun x hx => ?_⟩
    simp at hx
    rcases hx with rfl | hx
    · exact hm
    · exact h3 x hx
/-- A step of a disk. -/
structure OpT where
  k : Int
  name : ByteArray
  b : List UInt8
  n : Int
  bad : Int
end Go.Proofs.YtdpbbnnlbjgjgaaGreat
