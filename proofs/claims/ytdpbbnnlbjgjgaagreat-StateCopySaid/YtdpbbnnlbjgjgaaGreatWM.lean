/- Maps at keys of three numbers, whatever they hold: plain facts. -/
import Derived.Test.YtdpbbnnlbjgjgaaGreatGQ
set_option linter.unusedVariables false
set_option linter.unusedSimpArgs false
namespace Go.Sf
theorem midx_at {β : Type} (k : K3T) : ∀ (W : List (K3T × β)) (j : Nat), midx k W = some j → ∃ v, W[j]? = some (k, v) ∧ getK k W = some v
  | [], j, h => by simp [midx] at h
  | p :: W, j, h => by
    simp only [midx] at h
    simp only [getK]
    split at h
    · rename_i e
      cases h
      exact ⟨p.2, by simp [e], by rw [if_pos e.symm]⟩
    · rename_i e
      rw [if_neg (Ne.symm e)]
      cases hq : midx k W with
      | none => rw [hq] at h; cases h
      | some q =>
        rw [hq] at h
        simp at h
        obtain ⟨v, h1, h2⟩ := midx_at k W q hq
        subst h
        exact ⟨v, by simpa using h1, h2⟩
theorem midx_no {β : Type} {k : K3T} {W : List (K3T × β)} (h : midx k W = none) : getK k W = none := by
  have := midx_get k W
  rw [h] at this
  exact this.symm
theorem lkpF_ents {β : Type} (enc : β → AV) (zero : AV) (k : K3T) (W : List (K3T × β)) : lkpV false zero (entsA enc W) (midx k W) = ((getK k W).map enc).getD zero := by
  cases hm : midx k W with
  | none => rw [midx_no hm]; rfl
  | some j =>
    obtain ⟨v, h1, h2⟩ := midx_at k W j hm
    rw [h2]
    simp [lkpV, entsA, h1]
theorem lkpT_ents {β : Type} (enc : β → AV) (zero : AV) (k : K3T) (W : List (K3T × β)) : lkpV true zero (entsA enc W) (midx k W) = .tup [((getK k W).map enc).getD zero, .bool (getK k W).isSome] := by
  cases hm : midx k W with
  | none => rw [midx_no hm]; rfl
  | some j =>
    obtain ⟨v, h1, h2⟩ := midx_at k W j hm
    rw [h2]
    simp [lkpV, entsA, h1]
theorem msetV_ents {β : Type} (enc : β → AV) (k : K3T) (v : β) (W : List (K3T × β)) : msetV (.agg (k3 k)) (enc v) (entsA enc W) (midx k W) = entsA enc (mput k v W) := by
  unfold mput
  cases midx k W with
  | none => simp [msetV, entsA, keyA, k3]
  | some j => simp [msetV, entsA, keyA, k3, List.map_set]
theorem findI_ents {β : Type} (enc : β → AV) (k : K3T) (W : List (K3T × β)) : findI .k3 (.agg (k3 k)) (entsA enc W) = some (midx k W) := entsA_find enc k W
theorem entsA_length {β : Type} (enc : β → AV) (W : List (K3T × β)) : (entsA enc W).length = W.length := by simp [entsA]
end Go.Sf
