/- Maps at whole numbers: plain facts. -/
import Derived.Test.YtcpfodhhjkaibaaGreatWM
set_option linter.unusedVariables false
set_option linter.unusedSimpArgs false
namespace Go.Sf
def gidx (k : Int) : FieldsL → Option Nat
  | [] => none
  | p :: W => if k = p.1 then some 0 else (gidx k W).map (· + 1)
def iput (k : Int) (v : Int) (W : FieldsL) : FieldsL := match gidx k W with
  | some j => W.set j (k, v)
  | none => W ++ [(k, v)]
def icut (k : Int) (W : FieldsL) : FieldsL := match gidx k W with
  | some j => W.eraseIdx j
  | none => W
theorem iput_cons (k : Int) (v : Int) (p : Int × Int) (W : FieldsL) : iput k v (p :: W) = if k = p.1 then (k, v) :: W else p :: iput k v W := by
  unfold iput
  simp only [gidx]
  by_cases h : k = p.1
  · simp [h]
  · simp only [h, if_false]
    cases gidx k W <;> simp
theorem icut_cons (k : Int) (p : Int × Int) (W : FieldsL) : icut k (p :: W) = if k = p.1 then W else p :: icut k W := by
  unfold icut
  simp only [gidx]
  by_cases h : k = p.1
  · simp [h]
  · simp only [h, if_false]
    cases gidx k W <;> simp
theorem gidx_get (k : Int) : ∀ W : FieldsL, ((gidx k W).bind (W[·]?)).map (·.2) = getF k W
  | [] => rfl
  | p :: W => by
    have ih := gidx_get k W
    simp only [gidx, getF]
    by_cases h : k = p.1
    · simp [h]
    · rw [if_neg h, if_neg (Ne.symm h), ← ih]
      cases gidx k W <;> simp
theorem gidx_some (k : Int) : ∀ W : FieldsL, (gidx k W).isSome = true ↔ k ∈ W.map (·.1)
  | [] => by simp [gidx]
  | p :: W => by
    simp only [gidx, List.map_cons, List.mem_cons]
    by_cases h : k = p.1
    · simp [h]
    · have := gidx_some k W
      simp only [h, if_false, false_or, ← this]
      cases gidx k W <;> simp
theorem getF_iput (k m : Int) (v : Int) : ∀ W : FieldsL, getF m (iput k v W) = if m = k then some v else getF m W
  | [] => by simp [iput, gidx, getF, eq_comm]
  | p :: W => by
    rw [iput_cons]
    by_cases h : k = p.1
    · rw [if_pos h]
      simp only [getF]
      by_cases hm : m = k
      · subst hm; simp
      · rw [if_neg (Ne.symm hm), if_neg hm, if_neg (by rw [← h]; exact Ne.symm hm)]
    · rw [if_neg h]
      simp only [getF]
      rw [getF_iput k m v W]
      by_cases hm : m = k
      · subst hm; simp [Ne.symm h]
      · simp [hm]
theorem getF_mem (k : Int) : ∀ W : FieldsL, getF k W ≠ none ↔ k ∈ W.map (·.1)
  | [] => by simp [getF]
  | p :: W => by
    simp only [getF, List.map_cons, List.mem_cons]
    by_cases h : p.1 = k
    · simp [h]
    · rw [if_neg h, getF_mem k W]; simp [Ne.symm h]
theorem getF_icut (k m : Int) : ∀ W : FieldsL, (W.map (·.1)).Nodup → getF m (icut k W) = if m = k then none else getF m W
  | [], _ => by simp [icut, gidx, getF]
  | p :: W, hd => by
    rw [List.map_cons, List.nodup_cons] at hd
    rw [icut_cons]
    by_cases h : k = p.1
    · rw [if_pos h]
      simp only [getF]
      by_cases hm : m = k
      · subst hm
        rw [if_pos rfl]
        cases hg : getF m W with
        | none => rfl
        | some v => exact absurd ((getF_mem m W).1 (by rw [hg]; simp)) (by rw [h]; exact hd.1)
      · rw [if_neg hm, if_neg (by rw [← h]; exact Ne.symm hm)]
    · rw [if_neg h]
      simp only [getF]
      rw [getF_icut k m W hd.2]
      by_cases hm : m = k
      · subst hm; simp [Ne.symm h]
      · simp [hm]
theorem nodup_iput {k : Int} {v : Int} : ∀ {W : FieldsL}, (W.map (·.1)).Nodup → ((iput k v W).map (·.1)).Nodup
  | [], _ => by simp [iput, gidx]
  | p :: W, hd => by
    rw [List.map_cons, List.nodup_cons] at hd
    rw [iput_cons]
    by_cases h : k = p.1
    · rw [if_pos h, List.map_cons, List.nodup_cons]
      exact ⟨by simp only; rw [h]; exact hd.1, hd.2⟩
    · rw [if_neg h, List.map_cons, List.nodup_cons]
      refine ⟨fun hm => ?_, nodup_iput hd.2⟩
      rw [← getF_mem, getF_iput] at hm
      rw [if_neg (Ne.symm h), getF_mem] at hm
      exact hd.1 hm
theorem nodup_icut {k : Int} {W : FieldsL} (hd : (W.map (·.1)).Nodup) : ((icut k W).map (·.1)).Nodup := by
  unfold icut
  split
  · exact hd.sublist ((List.eraseIdx_sublist _ _).map _)
  · exact hd
theorem gidx_at (k : Int) : ∀ (W : FieldsL) (j : Nat), gidx k W = some j → ∃ v, W[j]? = some (k, v) ∧ getF k W = some v
  | [], j, h => by simp [gidx] at h
  | p :: W, j, h => by
    simp only [gidx] at h
    simp only [getF]
    split at h
    · rename_i e
      cases h
      exact ⟨p.2, by simp [e], by rw [if_pos e.symm]⟩
    · rename_i e
      rw [if_neg (Ne.symm e)]
      cases hq : gidx k W with
      | none => rw [hq] at h; cases h
      | some q =>
        rw [hq] at h
        simp at h
        obtain ⟨v, h1, h2⟩ := gidx_at k W q hq
        subst h
        exact ⟨v, by simpa using h1, h2⟩
theorem gidx_no {k : Int} {W : FieldsL} (h : gidx k W = none) : getF k W = none := by
  have := gidx_get k W
  rw [h] at this
  exact this.symm
def entsF (E : FieldsL) : List (AV × AV) := E.map fun p => (AV.int .i64 p.1, AV.int .i64 p.2)
theorem entsF_length (E : FieldsL) : (entsF E).length = E.length := by simp [entsF]
theorem findF (k : Int) : ∀ E : FieldsL, findI .i (.int .i64 k) (entsF E) = some (gidx k E)
  | [] => rfl
  | p :: E => by
    have ih := findF k E
    simp only [entsF, List.map_cons, findI, scalEq, if_true, gidx] at ih ⊢
    by_cases h : k = p.1
    · simp [h]
    · rw [if_neg h, decide_eq_false h]
      simp only [ih]
theorem lkpI_ents (k : Int) (E : FieldsL) : lkpV true (.int .i64 0) (entsF E) (gidx k E) = .tup [.int .i64 ((getF k E).getD 0), .bool (getF k E).isSome] := by
  cases hm : gidx k E with
  | none => rw [gidx_no hm]; rfl
  | some j =>
    obtain ⟨v, h1, h2⟩ := gidx_at k E j hm
    rw [h2]
    simp [lkpV, entsF, h1]
theorem msetI_ents (k v : Int) (E : FieldsL) : msetV (.int .i64 k) (.int .i64 v) (entsF E) (gidx k E) = entsF (iput k v E) := by
  unfold iput
  cases gidx k E with
  | none => simp [msetV, entsF]
  | some j => simp [msetV, entsF, List.map_set]
theorem mdelI_ents (k : Int) (E : FieldsL) : mdelV (entsF E) (gidx k E) = entsF (icut k E) := by
  unfold icut
  cases gidx k E with
  | none => rfl
  | some j => simp [mdelV, entsF, List.eraseIdx_eq_take_drop_succ, List.map_take, List.map_drop]
/-- Fields and a map that tell the same are as many. -/
theorem fields_len {A E : FieldsL} (hA : RisF A) (hE : (E.map (·.1)).Nodup) (h : ∀ f, getF f A = getF f E) : A.length = E.length := by
  have hk : (A.map (·.1)).Nodup := by
    rw [List.nodup_iff_pairwise_ne]
    exact (risF_keys.1 hA).imp fun h => by omega
  have hm : ∀ x, x ∈ A.map (·.1) ↔ x ∈ E.map (·.1) := fun x => by rw [← getF_mem, ← getF_mem, h]
  have p := (List.perm_ext_iff_of_nodup hk hE).2 hm
  have := p.length_eq
  simpa using this
end Go.Sf
