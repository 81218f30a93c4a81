/- Cells by rising keys, plain facts (for what comes above: values, lists, dictionaries). No function of the program is named here. A map's entries by their keys, and cells by rising keys: plain facts. No function of the program is named here. Values, lists and dictionaries by rising keys, and a state of the three: plain facts. No function of the program is named here. A state as plain lists: its keys, its cells, what changes make of it. No function of the program is named here. Where values, lists, dictionaries and a state of the three lie. No function of the program is named here. Places in rows by rising keys, as loops find them: plain facts. No function of the program is named here. Changes done to a state, a copy of it: plain facts. No function of the program is named here. Keys sorted, those that are told twice left out: plain facts. No function of the program is named here. A dictionary whose rows are written in place: plain facts. No function of the program is named here. -/
import Derived.Test.YtdpbbnnlbjgjgaaGreatLM
set_option linter.unusedVariables false
set_option linter.unusedSimpArgs false
namespace Go.Sf
section
variable {β : Type}
abbrev CellsK (β : Type) := List ((Int × Int × Int) × β)
/-- Where a key is, or would be. -/
def posK (k : Int × Int × Int) : CellsK β → Nat
  | [] => 0
  | p :: A => if lessK p.1 k = true then posK k A + 1 else 0
def getK (k : Int × Int × Int) : CellsK β → Option β
  | [] => none
  | p :: A => if p.1 = k then some p.2 else getK k A
def SortedK (A : CellsK β) : Prop := A.Pairwise fun p q => lessK p.1 q.1 = true
theorem posK_le (k : Int × Int × Int) : ∀ A : CellsK β, posK k A ≤ A.length
  | [] => Nat.le_refl _
  | p :: A => by
    simp only [posK]
    split
    · have := posK_le k A; simp only [List.length_cons]; omega
    · simp
/-- What a key tells is at its place. -/
theorem getK_pos {k : Int × Int × Int} : ∀ {A : CellsK β}, SortedK A → getK k A = (A[posK k A]?).bind fun p => if p.1 = k then some p.2 else none
  | [], _ => rfl
  | p :: A, h => by
    have ht : SortedK A := (List.pairwise_cons.1 h).2
    have hp := (List.pairwise_cons.1 h).1
    simp only [posK, getK]
    by_cases hpk : p.1 = k
    · subst hpk
      rw [if_pos rfl, if_neg (by rw [lessK_irr]; simp)]
      simp
    · rw [if_neg hpk]
      by_cases hl : lessK p.1 k = true
      · rw [if_pos hl, getK_pos ht]; simp
      · rw [if_neg hl]
        have hno : ∀ q ∈ A, q.1 ≠ k := fun q hq e => hl (by rw [← e]; exact hp q hq)
        have : getK k A = none := by
          clear h ht hp hl
          induction A with
          | nil => rfl
          | cons q A ih =>
            simp only [getK]
            rw [if_neg (hno q (by simp))]
            exact ih fun x hx => hno x (by simp [hx])
        rw [this]; simp [hpk]
def insK (k : Int × Int × Int) (v : β) (A : CellsK β) : CellsK β := A.take (posK k A) ++ (k, v) :: A.drop (posK k A)
theorem insK_cons (k : Int × Int × Int) (v : β) (p : (Int × Int × Int) × β) (A : CellsK β) : insK k v (p :: A) = if lessK p.1 k = true then p :: insK k v A else (k, v) :: p :: A := by
  unfold insK
  simp only [posK]
  split <;> simp
theorem getK_ins {k m : Int × Int × Int} {v : β} : ∀ {A : CellsK β}, getK k A = none → getK m (insK k v A) = if m = k then some v else getK m A
  | [], h => by simp [insK, posK, getK, eq_comm]
  | p :: A, h => by
    simp only [getK] at h
    split at h
    · cases h
    · rename_i hpk
      rw [insK_cons]
      split
      · simp only [getK]
        rw [getK_ins h]
        by_cases hm : m = k
        · subst hm; simp [hpk]
        · simp [hm]
      · simp only [getK]
        by_cases hm : m = k
        · subst hm; simp
        · simp [hm, Ne.symm hm]
theorem mem_insK {k : Int × Int × Int} {v : β} {q : (Int × Int × Int) × β} {A : CellsK β} : q ∈ insK k v A ↔ q = (k, v) ∨ q ∈ A := by
  unfold insK
  have h := List.take_append_drop (posK k A) A
  constructor
  · intro hq
    rw [List.mem_append, List.mem_cons] at hq
    rcases hq with hq | hq | hq
    · exact .inr (List.mem_of_mem_take hq)
    · exact .inl hq
    · exact .inr (List.mem_of_mem_drop hq)
  · rintro (rfl | hq)
    · simp
    · rw [← h, List.mem_append] at hq
      rw [List.mem_append, List.mem_cons]
      rcases hq with hq | hq
      · exact .inl hq
      · exact .inr (.inr hq)
theorem sortedK_ins {k : Int × Int × Int} {v : β} : ∀ {A : CellsK β}, SortedK A → getK k A = none → SortedK (insK k v A)
  | [], _, _ => by simp [insK, posK, SortedK]
  | p :: A, h, hg => by
    have ht : SortedK A := (List.pairwise_cons.1 h).2
    have hp := (List.pairwise_cons.1 h).1
    simp only [getK] at hg
    split at hg
    · cases hg
    · rename_i hpk
      rw [insK_cons]
      split
      · rename_i hl
        refine List.pairwise_cons.2 ⟨fun q hq => ?_, sortedK_ins ht hg⟩
        rcases mem_insK.1 hq with rfl | hq
        · exact hl
        · exact hp q hq
      · rename_i hl
        have hkp : lessK k p.1 = true := by
          rcases lessK_tri k p.1 with e | e | e
          · exact absurd e.symm hpk
          · exact e
          · exact absurd e hl
        refine List.pairwise_cons.2 ⟨fun q hq => ?_, h⟩
        rcases List.mem_cons.1 hq with rfl | hq
        · exact hkp
        · exact lessK_trans hkp (hp q hq)
/-- The cell at a key is another one. -/
def setK (k : Int × Int × Int) (v : β) (A : CellsK β) : CellsK β := A.set (posK k A) (k, v)
def delK (k : Int × Int × Int) (A : CellsK β) : CellsK β := A.eraseIdx (posK k A)
theorem setK_cons (k : Int × Int × Int) (v : β) (p : (Int × Int × Int) × β) (A : CellsK β) : setK k v (p :: A) = if lessK p.1 k = true then p :: setK k v A else (k, v) :: A := by
  unfold setK
  simp only [posK]
  split <;> simp
theorem delK_cons (k : Int × Int × Int) (p : (Int × Int × Int) × β) (A : CellsK β) : delK k (p :: A) = if lessK p.1 k = true then p :: delK k A else A := by
  unfold delK
  simp only [posK]
  split <;> simp
/-- A key that is told stands where its place is. -/
theorem there_cons {k : Int × Int × Int} {p : (Int × Int × Int) × β} {A : CellsK β} (h : SortedK (p :: A)) (hg : getK k (p :: A) ≠ none) : (lessK p.1 k = true ∧ getK k A ≠ none ∧ p.1 ≠ k) ∨ (p.1 = k ∧ lessK p.1 k = false) := by
  simp only [getK] at hg
  split at hg
  · rename_i e; subst e; exact .inr ⟨rfl, lessK_irr _⟩
  · rename_i e
    refine .inl ⟨?_, hg, e⟩
    have : ∃ q ∈ A, q.1 = k := by
      clear h
      induction A with
      | nil => exact absurd rfl hg
      | cons q A ih =>
        simp only [getK] at hg
        split at hg
        · rename_i e2; exact ⟨q, by simp, e2⟩
        · obtain ⟨x, hx, e3⟩ := ih hg; exact ⟨x, by simp [hx], e3⟩
    obtain ⟨q, hq, rfl⟩ := this
    exact (List.pairwise_cons.1 h).1 q hq
theorem getK_set {k m : Int × Int × Int} {v : β} : ∀ {A : CellsK β}, SortedK A → getK k A ≠ none → getK m (setK k v A) = if m = k then some v else getK m A
  | [], _, h => absurd rfl h
  | p :: A, h, hg => by
    rw [setK_cons]
    rcases there_cons h hg with ⟨h1, h2, h3⟩ | ⟨rfl, h2⟩
    · rw [if_pos h1]
      simp only [getK]
      rw [getK_set (List.pairwise_cons.1 h).2 h2]
      by_cases hm : m = k
      · subst hm; simp [h3]
      · simp [hm]
    · rw [if_neg (by rw [h2]; simp)]
      simp only [getK]
      by_cases hm : m = p.1
      · subst hm; simp
      · simp [hm, Ne.symm hm]
theorem keys_set {k : Int × Int × Int} {v : β} : ∀ {A : CellsK β}, SortedK A → getK k A ≠ none → (setK k v A).map (·.1) = A.map (·.1)
  | [], _, h => absurd rfl h
  | p :: A, h, hg => by
    rw [setK_cons]
    rcases there_cons h hg with ⟨h1, h2, h3⟩ | ⟨rfl, h2⟩
    · rw [if_pos h1, List.map_cons, keys_set (List.pairwise_cons.1 h).2 h2, List.map_cons]
    · rw [if_neg (by rw [h2]; simp)]; rfl
theorem sortedK_keys {A : CellsK β} : SortedK A ↔ (A.map (·.1)).Pairwise fun a b => lessK a b = true := by
  unfold SortedK; rw [List.pairwise_map]
theorem sortedK_set {k : Int × Int × Int} {v : β} {A : CellsK β} (h : SortedK A) (hg : getK k A ≠ none) : SortedK (setK k v A) := by
  rw [sortedK_keys, keys_set h hg, ← sortedK_keys]; exact h
theorem getK_out {k : Int × Int × Int} : ∀ {A : CellsK β}, (∀ q ∈ A, q.1 ≠ k) → getK k A = none
  | [], _ => rfl
  | p :: A, h => by simp only [getK]; rw [if_neg (h p (by simp))]; exact getK_out fun q hq => h q (by simp [hq])
theorem getK_del {k m : Int × Int × Int} : ∀ {A : CellsK β}, SortedK A → getK k A ≠ none → getK m (delK k A) = if m = k then none else getK m A
  | [], _, h => absurd rfl h
  | p :: A, h, hg => by
    rw [delK_cons]
    rcases there_cons h hg with ⟨h1, h2, h3⟩ | ⟨rfl, h2⟩
    · rw [if_pos h1]
      simp only [getK]
      rw [getK_del (List.pairwise_cons.1 h).2 h2]
      by_cases hm : m = k
      · subst hm; simp [h3]
      · simp [hm]
    · rw [if_neg (by rw [h2]; simp)]
      simp only [getK]
      by_cases hm : m = p.1
      · subst hm
        simp
        exact getK_out fun q hq e => by
          have := (List.pairwise_cons.1 h).1 q hq
          rw [e, lessK_irr] at this; cases this
      · simp [hm, Ne.symm hm]
theorem sortedK_del {k : Int × Int × Int} {A : CellsK β} (h : SortedK A) : SortedK (delK k A) := h.sublist (List.eraseIdx_sublist _ _)
end
end Go.Sf
set_option linter.unusedVariables false
set_option linter.unusedSimpArgs false
namespace Go.Sf
abbrev K3T := Int × Int × Int
/-- A key as the abstract values have it. -/
def keyA (k : K3T) : AV := .agg [.int .i64 k.1, .int .i64 k.2.1, .int .i64 k.2.2]
section
variable {β : Type}
def midx (k : K3T) : List (K3T × β) → Option Nat
  | [] => none
  | p :: W => if k = p.1 then some 0 else (midx k W).map (· + 1)
def mput (k : K3T) (v : β) (W : List (K3T × β)) : List (K3T × β) := match midx k W with
  | some j => W.set j (k, v)
  | none => W ++ [(k, v)]
def mcut (k : K3T) (W : List (K3T × β)) : List (K3T × β) := match midx k W with
  | some j => W.eraseIdx j
  | none => W
def entsA (enc : β → AV) (W : List (K3T × β)) : List (AV × AV) := W.map fun p => (keyA p.1, enc p.2)
theorem entsA_find (enc : β → AV) (k : K3T) : ∀ W : List (K3T × β), findI .k3 (keyA k) (entsA enc W) = some (midx k W)
  | [] => rfl
  | p :: W => by
    have ih := entsA_find enc k W
    obtain ⟨a1, a2, a3⟩ := k
    obtain ⟨⟨b1, b2, b3⟩, v⟩ := p
    simp only [entsA, List.map_cons, findI, keyA, scalEq, and_self, if_true, midx] at ih ⊢
    by_cases h : (a1, a2, a3) = (b1, b2, b3)
    · simp only [Prod.mk.injEq] at h
      obtain ⟨rfl, rfl, rfl⟩ := h
      simp
    · rw [if_neg h]
      have : (decide (a1 = b1) && (decide (a2 = b2) && decide (a3 = b3))) = false := by
        rw [Bool.eq_false_iff]
        intro e
        simp only [Bool.and_eq_true, decide_eq_true_eq] at e
        exact h (by rw [e.1, e.2.1, e.2.2])
      rw [this]
      simp only [ih]
theorem mput_cons (k : K3T) (v : β) (p : K3T × β) (W : List (K3T × β)) : mput k v (p :: W) = if k = p.1 then (k, v) :: W else p :: mput k v W := by
  unfold mput
  simp only [midx]
  by_cases h : k = p.1
  · simp [h]
  · simp only [h, if_false]
    cases midx k W <;> simp
theorem mcut_cons (k : K3T) (p : K3T × β) (W : List (K3T × β)) : mcut k (p :: W) = if k = p.1 then W else p :: mcut k W := by
  unfold mcut
  simp only [midx]
  by_cases h : k = p.1
  · simp [h]
  · simp only [h, if_false]
    cases midx k W <;> simp
theorem midx_get (k : K3T) : ∀ W : List (K3T × β), ((midx k W).bind (W[·]?)).map (·.2) = getK k W
  | [] => rfl
  | p :: W => by
    have ih := midx_get k W
    simp only [midx, getK]
    by_cases h : k = p.1
    · simp [h]
    · rw [if_neg h, if_neg (Ne.symm h), ← ih]
      cases midx k W <;> simp
theorem midx_some (k : K3T) : ∀ W : List (K3T × β), (midx k W).isSome = true ↔ k ∈ W.map (·.1)
  | [] => by simp [midx]
  | p :: W => by
    simp only [midx, List.map_cons, List.mem_cons]
    by_cases h : k = p.1
    · simp [h]
    · have := midx_some k W
      simp only [h, if_false, false_or, ← this]
      cases midx k W <;> simp
theorem getK_mput (k m : K3T) (v : β) : ∀ W : List (K3T × β), getK m (mput k v W) = if m = k then some v else getK m W
  | [] => by simp [mput, midx, getK, eq_comm]
  | p :: W => by
    rw [mput_cons]
    by_cases h : k = p.1
    · rw [if_pos h]
      simp only [getK]
      by_cases hm : m = k
      · subst hm; simp
      · rw [if_neg (Ne.symm hm), if_neg hm, if_neg (by rw [← h]; exact Ne.symm hm)]
    · rw [if_neg h]
      simp only [getK]
      rw [getK_mput k m v W]
      by_cases hm : m = k
      · subst hm; simp [Ne.symm h]
      · simp [hm]
theorem getK_mem (k : K3T) : ∀ W : List (K3T × β), getK k W ≠ none ↔ k ∈ W.map (·.1)
  | [] => by simp [getK]
  | p :: W => by
    simp only [getK, List.map_cons, List.mem_cons]
    by_cases h : p.1 = k
    · simp [h]
    · rw [if_neg h, getK_mem k W]; simp [Ne.symm h]
theorem getK_mcut (k m : K3T) : ∀ W : List (K3T × β), (W.map (·.1)).Nodup → getK m (mcut k W) = if m = k then none else getK m W
  | [], _ => by simp [mcut, midx, getK]
  | p :: W, hd => by
    rw [List.map_cons, List.nodup_cons] at hd
    rw [mcut_cons]
    by_cases h : k = p.1
    · rw [if_pos h]
      simp only [getK]
      by_cases hm : m = k
      · subst hm
        rw [if_pos rfl]
        cases hg : getK m W with
        | none => rfl
        | some v => exact absurd ((getK_mem m W).1 (by rw [hg]; simp)) (by rw [h]; exact hd.1)
      · rw [if_neg hm, if_neg (by rw [← h]; exact Ne.symm hm)]
    · rw [if_neg h]
      simp only [getK]
      rw [getK_mcut k m W hd.2]
      by_cases hm : m = k
      · subst hm; simp [Ne.symm h]
      · simp [hm]
theorem nodup_mput {k : K3T} {v : β} : ∀ {W : List (K3T × β)}, (W.map (·.1)).Nodup → ((mput k v W).map (·.1)).Nodup
  | [], _ => by simp [mput, midx]
  | p :: W, hd => by
    rw [List.map_cons, List.nodup_cons] at hd
    rw [mput_cons]
    by_cases h : k = p.1
    · rw [if_pos h, List.map_cons, List.nodup_cons]
      exact ⟨by simp only; rw [h]; exact hd.1, hd.2⟩
    · rw [if_neg h, List.map_cons, List.nodup_cons]
      refine ⟨fun hm => ?_, nodup_mput hd.2⟩
      rw [← getK_mem, getK_mput] at hm
      rw [if_neg (Ne.symm h), getK_mem] at hm
      exact hd.1 hm
theorem nodup_mcut {k : K3T} {W : List (K3T × β)} (hd : (W.map (·.1)).Nodup) : ((mcut k W).map (·.1)).Nodup := by
  unfold mcut
  split
  · exact hd.sublist ((List.eraseIdx_sublist _ _).map _)
  · exact hd
theorem sortedK_nodup {A : CellsK β} (h : SortedK A) : (A.map (·.1)).Nodup := by
  rw [List.nodup_iff_pairwise_ne]
  exact (sortedK_keys.1 h).imp fun {a b} hl e => by rw [e, lessK_irr] at hl; cases hl
theorem nodupK_le : ∀ {a b : List K3T}, a.Nodup → (∀ x ∈ a, x ∈ b) → a.length ≤ b.length
  | [], b, _, _ => by simp
  | x :: a, b, h, k => by
    rw [List.nodup_cons] at h
    have hx : x ∈ b := k x (by simp)
    have := nodupK_le (a := a) (b := b.erase x) h.2 (fun y hy => (List.mem_erase_of_ne (fun e => h.1 (by rw [← e]; exact hy))).2 (k y (by simp [hy])))
    have hpos : 0 < b.length := List.length_pos_of_mem hx
    rw [List.length_erase_of_mem hx] at this
    simp only [List.length_cons]; omega
/-- Cells that tell what a map tells are as many. -/
theorem same_length {γ : Type} {A : List (K3T × β)} {W : List (K3T × γ)} (hA : (A.map (·.1)).Nodup) (hW : (W.map (·.1)).Nodup) (h : ∀ k, getK k A ≠ none ↔ getK k W ≠ none) : A.length = W.length := by
  have h1 := nodupK_le hA (b := W.map (·.1)) fun x hx => (getK_mem x W).1 ((h x).1 ((getK_mem x A).2 hx))
  have h2 := nodupK_le hW (b := A.map (·.1)) fun x hx => (getK_mem x A).1 ((h x).2 ((getK_mem x W).2 hx))
  simp only [List.length_map] at h1 h2
  omega
end
end Go.Sf
set_option linter.unusedVariables false
set_option linter.unusedSimpArgs false
namespace Go.Sf
section
variable {β : Type}
/-- The cell at a key is this one, whether there was one or not. -/
def updK (k : K3T) (v : β) (A : CellsK β) : CellsK β := if (getK k A).isSome = true then setK k v A else insK k v A
def cutK (k : K3T) (A : CellsK β) : CellsK β := if (getK k A).isSome = true then delK k A else A
theorem some_ne {o : Option β} : o.isSome = true ↔ o ≠ none := by cases o <;> simp
theorem getK_upd {k m : K3T} {v : β} {A : CellsK β} (h : SortedK A) : getK m (updK k v A) = if m = k then some v else getK m A := by
  unfold updK
  split
  · rename_i hs; exact getK_set h (some_ne.1 hs)
  · rename_i hs; exact getK_ins (by simpa using hs)
theorem getK_cut {k m : K3T} {A : CellsK β} (h : SortedK A) : getK m (cutK k A) = if m = k then none else getK m A := by
  unfold cutK
  split
  · rename_i hs; exact getK_del h (some_ne.1 hs)
  · rename_i hs
    by_cases e : m = k
    · subst e; simpa using hs
    · rw [if_neg e]
theorem sortedK_upd {k : K3T} {v : β} {A : CellsK β} (h : SortedK A) : SortedK (updK k v A) := by
  unfold updK
  split
  · rename_i hs; exact sortedK_set h (some_ne.1 hs)
  · rename_i hs; exact sortedK_ins h (by simpa using hs)
theorem sortedK_cut {k : K3T} {A : CellsK β} (h : SortedK A) : SortedK (cutK k A) := by
  unfold cutK
  split
  · exact sortedK_del h
  · exact h
theorem length_upd (k : K3T) (v : β) (A : CellsK β) : (updK k v A).length ≤ A.length + 1 := by
  unfold updK
  split
  · unfold setK; simp
  · unfold insK
    have := posK_le k A
    simp only [List.length_append, List.length_cons, List.length_take, List.length_drop]; omega
theorem length_cut (k : K3T) (A : CellsK β) : (cutK k A).length ≤ A.length := by
  unfold cutK
  split
  · unfold delK; rw [List.length_eraseIdx]; split <;> omega
  · exact Nat.le_refl _
theorem mem_of_getK {k : K3T} {v : β} : ∀ {A : CellsK β}, getK k A = some v → (k, v) ∈ A
  | [], h => by simp [getK] at h
  | p :: A, h => by
    simp only [getK] at h
    split at h
    · rename_i e; subst e; cases h; simp
    · exact List.mem_cons_of_mem _ (mem_of_getK h)
theorem getK_of_mem {p : K3T × β} : ∀ {A : CellsK β}, SortedK A → p ∈ A → getK p.1 A = some p.2
  | [], _, h => by simp at h
  | q :: A, hs, h => by
    rcases List.mem_cons.1 h with rfl | h
    · simp [getK]
    · have hl := (List.pairwise_cons.1 hs).1 p h
      simp only [getK]
      rw [if_neg (fun e => by rw [e, lessK_irr] at hl; cases hl)]
      exact getK_of_mem (List.pairwise_cons.1 hs).2 h
theorem mem_updK {k : K3T} {v : β} {A : CellsK β} (h : SortedK A) {q : K3T × β} (hq : q ∈ updK k v A) : q = (k, v) ∨ q ∈ A := by
  have h1 := getK_of_mem (sortedK_upd h) hq
  rw [getK_upd h] at h1
  split at h1
  · rename_i e; cases h1; left; rw [← e]
  · exact .inr (mem_of_getK h1)
theorem mem_cutK {k : K3T} {A : CellsK β} {q : K3T × β} (hq : q ∈ cutK k A) : q ∈ A := by
  unfold cutK at hq
  split at hq
  · unfold delK at hq; exact List.mem_of_mem_eraseIdx hq
  · exact hq
/-- Cells that tell the same are the same. -/
theorem sortedK_ext : ∀ {A B : CellsK β}, SortedK A → SortedK B → (∀ k, getK k A = getK k B) → A = B
  | [], [], _, _, _ => rfl
  | [], q :: B, _, _, h => by have := h q.1; simp [getK] at this
  | p :: A, [], _, _, h => by have := h p.1; simp [getK] at this
  | p :: A, q :: B, hA, hB, h => by
    have hpA := (List.pairwise_cons.1 hA).1
    have hqB := (List.pairwise_cons.1 hB).1
    have e : p.1 = q.1 := by
      rcases lessK_tri p.1 q.1 with e | e | e
      · exact e
      · have h1 := h p.1
        simp only [getK] at h1
        rw [if_pos trivial, if_neg (fun h => by rw [h, lessK_irr] at e; cases e)] at h1
        have := hqB _ (mem_of_getK h1.symm)
        have h2 := lessK_trans e this
        simp only at h2
        rw [lessK_irr] at h2; cases h2
      · have h1 := h q.1
        simp only [getK] at h1
        rw [if_pos trivial, if_neg (fun h => by rw [h, lessK_irr] at e; cases e)] at h1
        have := hpA _ (mem_of_getK h1)
        have h2 := lessK_trans e this
        simp only at h2
        rw [lessK_irr] at h2; cases h2
    have e2 : p.2 = q.2 := by
      have h1 := h p.1
      simp only [getK] at h1
      rw [if_pos trivial, if_pos e.symm] at h1
      exact Option.some.inj h1
    have e3 : A = B := sortedK_ext (List.pairwise_cons.1 hA).2 (List.pairwise_cons.1 hB).2 fun k => by
      have h1 := h k
      simp only [getK] at h1
      rw [← e] at h1
      by_cases hk : p.1 = k
      · subst hk
        rw [getK_out (fun r hr e => by have := hpA r hr; rw [e, lessK_irr] at this; cases this),
          getK_out (fun r hr e2 => by have := hqB r hr; rw [e2, ← e, lessK_irr] at this; cases this)]
      · rwa [if_neg hk, if_neg hk] at h1
    rw [e3]
    exact congrArg (· :: B) (Prod.ext e e2)
end
/-! Fields of a dictionary, rising. -/
abbrev FieldsL := List (Int × Int)
def posF (f : Int) : FieldsL → Nat
  | [] => 0
  | p :: A => if p.1 < f then posF f A + 1 else 0
def getF (f : Int) : FieldsL → Option Int
  | [] => none
  | p :: A => if p.1 = f then some p.2 else getF f A
def RisF (A : FieldsL) : Prop := A.Pairwise fun p q => p.1 < q.1
theorem posF_le (f : Int) : ∀ A : FieldsL, posF f A ≤ A.length
  | [] => Nat.le_refl _
  | p :: A => by
    simp only [posF]
    split
    · have := posF_le f A; simp only [List.length_cons]; omega
    · simp
def insF (f v : Int) (A : FieldsL) : FieldsL := A.take (posF f A) ++ (f, v) :: A.drop (posF f A)
def setF (f v : Int) (A : FieldsL) : FieldsL := A.set (posF f A) (f, v)
def delF (f : Int) (A : FieldsL) : FieldsL := A.eraseIdx (posF f A)
theorem insF_cons (f v : Int) (p : Int × Int) (A : FieldsL) : insF f v (p :: A) = if p.1 < f then p :: insF f v A else (f, v) :: p :: A := by
  unfold insF; simp only [posF]; split <;> simp
theorem setF_cons (f v : Int) (p : Int × Int) (A : FieldsL) : setF f v (p :: A) = if p.1 < f then p :: setF f v A else (f, v) :: A := by
  unfold setF; simp only [posF]; split <;> simp
theorem delF_cons (f : Int) (p : Int × Int) (A : FieldsL) : delF f (p :: A) = if p.1 < f then p :: delF f A else A := by
  unfold delF; simp only [posF]; split <;> simp
theorem getF_out {f : Int} : ∀ {A : FieldsL}, (∀ q ∈ A, q.1 ≠ f) → getF f A = none
  | [], _ => rfl
  | p :: A, h => by simp only [getF]; rw [if_neg (h p (by simp))]; exact getF_out fun q hq => h q (by simp [hq])
theorem getF_low {f : Int} {A : FieldsL} (h : ∀ q ∈ A, f < q.1) : getF f A = none := getF_out fun q hq e => by have := h q hq; omega
/-- What a field tells is at its place. -/
theorem getF_pos {f : Int} : ∀ {A : FieldsL}, RisF A → getF f A = (A[posF f A]?).bind fun p => if p.1 = f then some p.2 else none
  | [], _ => rfl
  | p :: A, h => by
    have hp := (List.pairwise_cons.1 h).1
    simp only [posF, getF]
    by_cases hpf : p.1 = f
    · rw [if_pos hpf, if_neg (by omega)]; simp [hpf]
    · rw [if_neg hpf]
      by_cases hl : p.1 < f
      · rw [if_pos hl, getF_pos (List.pairwise_cons.1 h).2]; simp
      · rw [if_neg hl, getF_low fun q hq => by have := hp q hq; omega]
        simp [hpf]
def putF (f v : Int) (A : FieldsL) : FieldsL := if (getF f A).isSome = true then setF f v A else insF f v A
def cutF (f : Int) (A : FieldsL) : FieldsL := if (getF f A).isSome = true then delF f A else A
theorem mem_insF {f v : Int} {q : Int × Int} {A : FieldsL} (h : q ∈ insF f v A) : q = (f, v) ∨ q ∈ A := by
  unfold insF at h
  rw [List.mem_append, List.mem_cons] at h
  rcases h with h | h | h
  · exact .inr (List.mem_of_mem_take h)
  · exact .inl h
  · exact .inr (List.mem_of_mem_drop h)
theorem getF_ins {f m v : Int} : ∀ {A : FieldsL}, getF f A = none → getF m (insF f v A) = if m = f then some v else getF m A
  | [], h => by simp [insF, posF, getF, eq_comm]
  | p :: A, h => by
    simp only [getF] at h
    split at h
    · cases h
    · rename_i hpf
      rw [insF_cons]
      split
      · simp only [getF]
        rw [getF_ins h]
        by_cases hm : m = f
        · subst hm; simp [hpf]
        · simp [hm]
      · simp only [getF]
        by_cases hm : m = f
        · subst hm; simp
        · simp [hm, Ne.symm hm]
theorem risF_ins {f v : Int} : ∀ {A : FieldsL}, RisF A → getF f A = none → RisF (insF f v A)
  | [], _, _ => by simp [insF, posF, RisF]
  | p :: A, h, hg => by
    have ht : RisF A := (List.pairwise_cons.1 h).2
    have hp := (List.pairwise_cons.1 h).1
    simp only [getF] at hg
    split at hg
    · cases hg
    · rename_i hpf
      rw [insF_cons]
      split
      · rename_i hl
        refine List.pairwise_cons.2 ⟨fun q hq => ?_, risF_ins ht hg⟩
        rcases mem_insF hq with rfl | hq
        · exact hl
        · exact hp q hq
      · rename_i hl
        refine List.pairwise_cons.2 ⟨fun q hq => ?_, h⟩
        rcases List.mem_cons.1 hq with rfl | hq
        · simp only; omega
        · have := hp q hq; simp only; omega
theorem thereF {f : Int} {p : Int × Int} {A : FieldsL} (h : RisF (p :: A)) (hg : getF f (p :: A) ≠ none) : (p.1 < f ∧ getF f A ≠ none) ∨ p.1 = f := by
  simp only [getF] at hg
  split at hg
  · rename_i e; exact .inr e
  · rename_i e
    by_cases hl : p.1 < f
    · exact .inl ⟨hl, hg⟩
    · exact absurd (getF_low fun q hq => by have := (List.pairwise_cons.1 h).1 q hq; omega) hg
theorem getF_set {f m v : Int} : ∀ {A : FieldsL}, RisF A → getF f A ≠ none → getF m (setF f v A) = if m = f then some v else getF m A
  | [], _, h => absurd rfl h
  | p :: A, h, hg => by
    rw [setF_cons]
    rcases thereF h hg with ⟨h1, h2⟩ | rfl
    · rw [if_pos h1]
      simp only [getF]
      rw [getF_set (List.pairwise_cons.1 h).2 h2]
      by_cases hm : m = f
      · subst hm; rw [if_neg (by omega)]; simp
      · simp [hm]
    · rw [if_neg (by omega)]
      simp only [getF]
      by_cases hm : m = p.1
      · subst hm; simp
      · simp [hm, Ne.symm hm]
theorem keysF_set {f v : Int} : ∀ {A : FieldsL}, RisF A → getF f A ≠ none → (setF f v A).map (·.1) = A.map (·.1)
  | [], _, h => absurd rfl h
  | p :: A, h, hg => by
    rw [setF_cons]
    rcases thereF h hg with ⟨h1, h2⟩ | rfl
    · rw [if_pos h1, List.map_cons, keysF_set (List.pairwise_cons.1 h).2 h2, List.map_cons]
    · rw [if_neg (by omega)]; rfl
theorem risF_keys {A : FieldsL} : RisF A ↔ (A.map (·.1)).Pairwise fun a b => a < b := by
  unfold RisF; rw [List.pairwise_map]
theorem getF_del {f m : Int} : ∀ {A : FieldsL}, RisF A → getF f A ≠ none → getF m (delF f A) = if m = f then none else getF m A
  | [], _, h => absurd rfl h
  | p :: A, h, hg => by
    rw [delF_cons]
    rcases thereF h hg with ⟨h1, h2⟩ | rfl
    · rw [if_pos h1]
      simp only [getF]
      rw [getF_del (List.pairwise_cons.1 h).2 h2]
      by_cases hm : m = f
      · subst hm; rw [if_neg (by omega)]; simp
      · simp [hm]
    · rw [if_neg (by omega)]
      simp only [getF]
      by_cases hm : m = p.1
      · subst hm
        simp
        exact getF_low (List.pairwise_cons.1 h).1
      · simp [hm, Ne.symm hm]
theorem getF_put {f m v : Int} {A : FieldsL} (h : RisF A) : getF m (putF f v A) = if m = f then some v else getF m A := by
  unfold putF
  split
  · rename_i hs; exact getF_set h (some_ne.1 hs)
  · rename_i hs; exact getF_ins (by simpa using hs)
theorem getF_cut {f m : Int} {A : FieldsL} (h : RisF A) : getF m (cutF f A) = if m = f then none else getF m A := by
  unfold cutF
  split
  · rename_i hs; exact getF_del h (some_ne.1 hs)
  · rename_i hs
    by_cases e : m = f
    · subst e; simpa using hs
    · rw [if_neg e]
theorem risF_put {f v : Int} {A : FieldsL} (h : RisF A) : RisF (putF f v A) := by
  unfold putF
  split
  · rename_i hs; rw [risF_keys, keysF_set h (some_ne.1 hs), ← risF_keys]; exact h
  · rename_i hs; exact risF_ins h (by simpa using hs)
theorem risF_cut {f : Int} {A : FieldsL} (h : RisF A) : RisF (cutF f A) := by
  unfold cutF
  split
  · exact h.sublist (List.eraseIdx_sublist _ _)
  · exact h
theorem mem_of_getF {f v : Int} : ∀ {A : FieldsL}, getF f A = some v → (f, v) ∈ A
  | [], h => by simp [getF] at h
  | p :: A, h => by
    simp only [getF] at h
    split at h
    · rename_i e; subst e; cases h; simp
    · exact List.mem_cons_of_mem _ (mem_of_getF h)
theorem getF_of_mem {p : Int × Int} : ∀ {A : FieldsL}, RisF A → p ∈ A → getF p.1 A = some p.2
  | [], _, h => by simp at h
  | q :: A, hs, h => by
    rcases List.mem_cons.1 h with rfl | h
    · simp [getF]
    · have hl := (List.pairwise_cons.1 hs).1 p h
      simp only [getF]
      rw [if_neg (by omega)]
      exact getF_of_mem (List.pairwise_cons.1 hs).2 h
theorem mem_putF {f v : Int} {A : FieldsL} (h : RisF A) {q : Int × Int} (hq : q ∈ putF f v A) : q = (f, v) ∨ q ∈ A := by
  have h1 := getF_of_mem (risF_put h) hq
  rw [getF_put h] at h1
  split at h1
  · rename_i e; cases h1; left; rw [← e]
  · exact .inr (mem_of_getF h1)
theorem mem_cutF {f : Int} {A : FieldsL} {q : Int × Int} (hq : q ∈ cutF f A) : q ∈ A := by
  unfold cutF at hq
  split at hq
  · unfold delF at hq; exact List.mem_of_mem_eraseIdx hq
  · exact hq
/-- Fields that tell the same are the same. -/
theorem risF_ext : ∀ {A B : FieldsL}, RisF A → RisF B → (∀ f, getF f A = getF f B) → A = B
  | [], [], _, _, _ => rfl
  | [], q :: B, _, _, h => by have := h q.1; simp [getF] at this
  | p :: A, [], _, _, h => by have := h p.1; simp [getF] at this
  | p :: A, q :: B, hA, hB, h => by
    have hpA := (List.pairwise_cons.1 hA).1
    have hqB := (List.pairwise_cons.1 hB).1
    have e : p.1 = q.1 := by
      have h1 := h p.1
      have h2 := h q.1
      simp only [getF] at h1 h2
      by_cases hpq : p.1 = q.1
      · exact hpq
      · rw [if_pos trivial, if_neg (Ne.symm hpq)] at h1
        rw [if_neg hpq, if_pos trivial] at h2
        have h3 := hqB _ (mem_of_getF h1.symm)
        have h4 := hpA _ (mem_of_getF h2)
        simp only at h3 h4; omega
    have e2 : p.2 = q.2 := by
      have h1 := h p.1
      simp only [getF] at h1
      rw [if_pos trivial, if_pos e.symm] at h1
      exact Option.some.inj h1
    have e3 : A = B := risF_ext (List.pairwise_cons.1 hA).2 (List.pairwise_cons.1 hB).2 fun k => by
      have h1 := h k
      simp only [getF] at h1
      rw [← e] at h1
      by_cases hk : p.1 = k
      · subst hk
        rw [getF_low hpA, getF_low fun r hr => by have := hqB r hr; omega]
      · rwa [if_neg hk, if_neg hk] at h1
    rw [e3]
    exact congrArg (· :: B) (Prod.ext e e2)
/-- Fields that may be are eight at most. -/
theorem risF_le {A : FieldsL} (h : RisF A) (hr : ∀ p ∈ A, 0 ≤ p.1 ∧ p.1 < 8) : A.length ≤ 8 := by
  have key : ∀ (A : FieldsL) (lo : Int), RisF A → (∀ p ∈ A, lo ≤ p.1 ∧ p.1 < 8) → lo ≤ 8 → (A.length : Int) ≤ 8 - lo := by
    intro A
    induction A with
    | nil => intro lo _ _ h; simpa using by omega
    | cons p A ih =>
      intro lo h hr hlo
      have h1 := hr p (by simp)
      have := ih (p.1 + 1) (List.pairwise_cons.1 h).2 (fun q hq => ⟨by have := (List.pairwise_cons.1 h).1 q hq; omega, (hr q (by simp [hq])).2⟩) (by omega)
      simp only [List.length_cons]; omega
  have := key A 0 h hr (by omega)
  omega
end Go.Sf
set_option linter.unusedVariables false
set_option linter.unusedSimpArgs false
namespace Go.Sf
/-! Keys, rising, each once. -/
def RisK (l : List K3T) : Prop := l.Pairwise fun a b => lessK a b = true
def addK (k : K3T) : List K3T → List K3T
  | [] => [k]
  | x :: l => if k = x then x :: l else if lessK k x = true then k :: x :: l else x :: addK k l
theorem mem_addK {k m : K3T} : ∀ {l : List K3T}, m ∈ addK k l ↔ m = k ∨ m ∈ l
  | [] => by simp [addK]
  | x :: l => by
    simp only [addK]
    split
    · rename_i e; subst e; simp
    · split
      · simp
      · rw [List.mem_cons, mem_addK, List.mem_cons]
        constructor
        · rintro (h | h | h)
          · exact .inr (.inl h)
          · exact .inl h
          · exact .inr (.inr h)
        · rintro (h | h | h)
          · exact .inr (.inl h)
          · exact .inl h
          · exact .inr (.inr h)
theorem risK_add {k : K3T} : ∀ {l : List K3T}, RisK l → RisK (addK k l)
  | [], _ => by simp [addK, RisK]
  | x :: l, h => by
    have hx := (List.pairwise_cons.1 h).1
    simp only [addK]
    split
    · exact h
    · rename_i hk
      split
      · rename_i hl
        refine List.pairwise_cons.2 ⟨fun q hq => ?_, h⟩
        rcases List.mem_cons.1 hq with rfl | hq
        · exact hl
        · exact lessK_trans hl (hx q hq)
      · rename_i hl
        refine List.pairwise_cons.2 ⟨fun q hq => ?_, risK_add (List.pairwise_cons.1 h).2⟩
        rcases mem_addK.1 hq with rfl | hq
        · rcases lessK_tri q x with e | e | e
          · exact absurd e hk
          · exact absurd e hl
          · exact e
        · exact hx q hq
theorem risK_ext : ∀ {a b : List K3T}, RisK a → RisK b → (∀ x, x ∈ a ↔ x ∈ b) → a = b
  | [], [], _, _, _ => rfl
  | [], y :: b, _, _, h => by have := (h y).2 (by simp); simp at this
  | x :: a, [], _, _, h => by have := (h x).1 (by simp); simp at this
  | x :: a, y :: b, ha, hb, h => by
    have hxa := (List.pairwise_cons.1 ha).1
    have hyb := (List.pairwise_cons.1 hb).1
    have e : x = y := by
      rcases List.mem_cons.1 ((h x).1 (by simp)) with e | e
      · exact e
      · rcases List.mem_cons.1 ((h y).2 (by simp)) with e2 | e2
        · exact e2.symm
        · have := lessK_trans (hyb x e) (hxa y e2)
          rw [lessK_irr] at this; cases this
    subst e
    have e3 : a = b := risK_ext (List.pairwise_cons.1 ha).2 (List.pairwise_cons.1 hb).2 fun z => by
      have h1 := h z
      simp only [List.mem_cons] at h1
      constructor
      · intro hz
        rcases h1.1 (.inr hz) with e | e
        · subst e; have := hxa z hz; rw [lessK_irr] at this; cases this
        · exact e
      · intro hz
        rcases h1.2 (.inr hz) with e | e
        · subst e; have := hyb z hz; rw [lessK_irr] at this; cases this
        · exact e
    rw [e3]
/-- All of some keys, rising, each once. -/
def setOf (l : List K3T) : List K3T := l.foldr addK []
theorem mem_setOf {m : K3T} : ∀ {l : List K3T}, m ∈ setOf l ↔ m ∈ l
  | [] => by simp [setOf]
  | x :: l => by
    show m ∈ addK x (setOf l) ↔ _
    rw [mem_addK, mem_setOf, List.mem_cons]
theorem risK_setOf : ∀ l : List K3T, RisK (setOf l)
  | [] => by simp [setOf, RisK]
  | x :: l => risK_add (risK_setOf l)
theorem addK_length (k : K3T) : ∀ l : List K3T, (addK k l).length ≤ l.length + 1
  | [] => by simp [addK]
  | x :: l => by
    simp only [addK]
    split
    · simp
    · split
      · simp
      · have := addK_length k l; simp only [List.length_cons]; omega
theorem setOf_length : ∀ l : List K3T, (setOf l).length ≤ l.length
  | [] => Nat.le_refl _
  | x :: l => by
    have := addK_length x (setOf l); have h2 := setOf_length l
    show (addK x (setOf l)).length ≤ _
    simp only [List.length_cons]; omega
/-! The state. -/
structure StT where
  V : CellsK Int
  L : CellsK (List Int)
  D : CellsK FieldsL
def StT.nil : StT := ⟨[], [], []⟩
def keysS (S : StT) : List K3T := setOf (S.V.map (·.1) ++ (S.L.map (·.1) ++ S.D.map (·.1)))
abbrev CellT := K3T × Option Int × List Int × FieldsL
def cellAt (S : StT) (k : K3T) : CellT := (k, getK k S.V, (getK k S.L).getD [], (getK k S.D).getD [])
def cellsS (S : StT) : List CellT := (keysS S).map (cellAt S)
/-- What lists, and what dictionaries, may be. -/
def OkL (L : CellsK (List Int)) : Prop := SortedK L ∧ ∀ p ∈ L, p.2 ≠ [] ∧ p.2.length ≤ 100
def OkD (D : CellsK FieldsL) : Prop := SortedK D ∧ ∀ p ∈ D, p.2 ≠ [] ∧ RisF p.2 ∧ ∀ q ∈ p.2, 0 ≤ q.1 ∧ q.1 < 8
structure OkS (S : StT) : Prop where
  v : SortedK S.V
  l : OkL S.L
  d : OkD S.D
def listK (k : K3T) (L : CellsK (List Int)) : List Int := (getK k L).getD []
def dictK (k : K3T) (D : CellsK FieldsL) : FieldsL := (getK k D).getD []
/-- Numbers put behind a list, and what is told. -/
def pushL (k : K3T) (ns : List Int) (L : CellsK (List Int)) : CellsK (List Int) × Int :=
  if 100 < (listK k L ++ ns).length then (L, 4) else if ns = [] then (L, 0) else (updK k (listK k L ++ ns) L, 0)
def clearL (k : K3T) (L : CellsK (List Int)) : CellsK (List Int) × Int := (cutK k L, (listK k L).length)
def putD (k : K3T) (f v : Int) (D : CellsK FieldsL) : CellsK FieldsL × Int :=
  if f < 0 ∨ 8 ≤ f then (D, 2) else (updK k (putF f v (dictK k D)) D, 0)
def cutD (k : K3T) (f : Int) (D : CellsK FieldsL) : CellsK FieldsL × Bool :=
  if (getF f (dictK k D)).isSome = true then (if cutF f (dictK k D) = [] then delK k D else setK k (cutF f (dictK k D)) D, true) else (D, false)
theorem okL_nil : OkL [] := ⟨.nil, fun p h => by cases h⟩
theorem okD_nil : OkD [] := ⟨.nil, fun p h => by cases h⟩
theorem okS_nil : OkS StT.nil := ⟨.nil, okL_nil, okD_nil⟩
theorem listK_le {k : K3T} {L : CellsK (List Int)} (h : OkL L) : (listK k L).length ≤ 100 := by
  unfold listK
  cases hg : getK k L with
  | none => simp
  | some l => exact (h.2 _ (mem_of_getK hg)).2
theorem listK_none {k : K3T} {L : CellsK (List Int)} (h : OkL L) : listK k L = [] ↔ getK k L = none := by
  unfold listK
  cases hg : getK k L with
  | none => simp
  | some l => simpa using (h.2 _ (mem_of_getK hg)).1
theorem dictK_none {k : K3T} {D : CellsK FieldsL} (h : OkD D) : dictK k D = [] ↔ getK k D = none := by
  unfold dictK
  cases hg : getK k D with
  | none => simp
  | some l => simpa using (h.2 _ (mem_of_getK hg)).1
theorem dictK_ok {k : K3T} {D : CellsK FieldsL} (h : OkD D) : RisF (dictK k D) ∧ ∀ q ∈ dictK k D, 0 ≤ q.1 ∧ q.1 < 8 := by
  unfold dictK
  cases hg : getK k D with
  | none => exact ⟨.nil, fun q hq => by simp at hq⟩
  | some l => exact (h.2 _ (mem_of_getK hg)).2
theorem dictK_le {k : K3T} {D : CellsK FieldsL} (h : OkD D) : (dictK k D).length ≤ 8 := risF_le (dictK_ok h).1 (dictK_ok h).2
theorem okL_push {k : K3T} {ns : List Int} {L : CellsK (List Int)} (h : OkL L) : OkL (pushL k ns L).1 := by
  unfold pushL
  split
  · exact h
  · split
    · exact h
    · rename_i h1 h2
      refine ⟨sortedK_upd h.1, fun p hp => ?_⟩
      rcases mem_updK h.1 hp with rfl | hp
      · exact ⟨fun e => h2 (List.append_eq_nil_iff.1 e).2, by simp only; omega⟩
      · exact h.2 p hp
theorem okL_clear {k : K3T} {L : CellsK (List Int)} (h : OkL L) : OkL (clearL k L).1 := ⟨sortedK_cut h.1, fun p hp => h.2 p (mem_cutK hp)⟩
theorem putF_ne (f v : Int) (A : FieldsL) : putF f v A ≠ [] := by
  unfold putF
  split
  · rename_i hs
    cases A with
    | nil => simp [getF] at hs
    | cons p A => rw [setF_cons]; split <;> simp
  · unfold insF; simp
theorem okD_put {k : K3T} {f v : Int} {D : CellsK FieldsL} (h : OkD D) : OkD (putD k f v D).1 := by
  unfold putD
  split
  · exact h
  · rename_i hf
    have hd := dictK_ok (k := k) h
    refine ⟨sortedK_upd h.1, fun p hp => ?_⟩
    rcases mem_updK h.1 hp with rfl | hp
    · refine ⟨putF_ne _ _ _, risF_put hd.1, fun q hq => ?_⟩
      rcases mem_putF hd.1 hq with rfl | hq
      · simp only; omega
      · exact hd.2 q hq
    · exact h.2 p hp
theorem mem_setK {β : Type} {k : K3T} {v : β} {A : CellsK β} {q : K3T × β} (hq : q ∈ setK k v A) : q = (k, v) ∨ q ∈ A := by
  unfold setK at hq
  rcases List.mem_or_eq_of_mem_set hq with h | h
  · exact .inr h
  · exact .inl h
theorem okD_cut {k : K3T} {f : Int} {D : CellsK FieldsL} (h : OkD D) : OkD (cutD k f D).1 := by
  unfold cutD
  split
  · rename_i hs
    have hd := dictK_ok (k := k) h
    have hg : getK k D ≠ none := fun e => by
      rw [(dictK_none h).2 e] at hs; simp [getF] at hs
    simp only
    split
    · exact ⟨sortedK_del h.1, fun p hp => h.2 p (by unfold delK at hp; exact List.mem_of_mem_eraseIdx hp)⟩
    · rename_i hne
      refine ⟨sortedK_set h.1 hg, fun p hp => ?_⟩
      rcases mem_setK hp with rfl | hp
      · exact ⟨hne, risF_cut hd.1, fun q hq => hd.2 q (mem_cutF hq)⟩
      · exact h.2 p hp
  · exact h
theorem getK_push {k m : K3T} {ns : List Int} {L : CellsK (List Int)} (h : OkL L) : listK m (pushL k ns L).1 = if m = k ∧ (listK k L ++ ns).length ≤ 100 then listK k L ++ ns else listK m L := by
  unfold pushL
  split
  · rw [if_neg (fun h => by omega)]
  · split
    · rename_i h1 h2
      subst h2
      by_cases e : m = k
      · subst e; simp
      · simp [e]
    · rename_i h1 h2
      unfold listK
      rw [getK_upd h.1]
      by_cases e : m = k
      · subst e; rw [if_pos rfl, if_pos ⟨rfl, by unfold listK at h1; omega⟩]; rfl
      · rw [if_neg e, if_neg (fun h => e h.1)]
theorem listK_clear {k m : K3T} {L : CellsK (List Int)} (h : OkL L) : listK m (clearL k L).1 = if m = k then [] else listK m L := by
  unfold clearL listK
  simp only
  rw [getK_cut h.1]
  split <;> rfl
theorem dictK_put {k m : K3T} {f v : Int} {D : CellsK FieldsL} (h : OkD D) (hf : 0 ≤ f ∧ f < 8) : dictK m (putD k f v D).1 = if m = k then putF f v (dictK k D) else dictK m D := by
  unfold putD
  rw [if_neg (by omega)]
  simp only
  unfold dictK
  rw [getK_upd h.1]
  split <;> rfl
theorem cutF_none {f : Int} {A : FieldsL} (h : ¬ (getF f A).isSome = true) : cutF f A = A := by unfold cutF; rw [if_neg h]
theorem dictK_cut {k m : K3T} {f : Int} {D : CellsK FieldsL} (h : OkD D) : dictK m (cutD k f D).1 = if m = k then cutF f (dictK k D) else dictK m D := by
  unfold cutD
  split
  · rename_i hs
    have hg : getK k D ≠ none := fun e => by
      rw [(dictK_none h).2 e] at hs; simp [getF] at hs
    simp only
    split
    · rename_i e
      rw [e]
      unfold dictK
      rw [getK_del h.1 hg]
      split <;> rfl
    · unfold dictK
      rw [getK_set h.1 hg]
      split <;> rfl
  · rename_i hs
    by_cases e : m = k
    · subst e; rw [if_pos rfl, cutF_none hs]
    · rw [if_neg e]
/-- States that tell the same are the same. -/
theorem okL_ext {A B : CellsK (List Int)} (hA : OkL A) (hB : OkL B) (h : ∀ k, listK k A = listK k B) : A = B :=
  sortedK_ext hA.1 hB.1 fun k => by
    have h1 := h k
    by_cases e : getK k A = none
    · rw [e]
      rw [(listK_none hA).2 e] at h1
      exact ((listK_none hB).1 h1.symm).symm
    · have e2 : getK k B ≠ none := fun e2 => e ((listK_none hA).1 (by rw [h1]; exact (listK_none hB).2 e2))
      unfold listK at h1
      cases ha : getK k A with
      | none => exact absurd ha e
      | some x =>
        cases hb : getK k B with
        | none => exact absurd hb e2
        | some y => rw [ha, hb] at h1; simpa using h1
theorem okD_ext {A B : CellsK FieldsL} (hA : OkD A) (hB : OkD B) (h : ∀ k, dictK k A = dictK k B) : A = B :=
  sortedK_ext hA.1 hB.1 fun k => by
    have h1 := h k
    by_cases e : getK k A = none
    · rw [e]
      rw [(dictK_none hA).2 e] at h1
      exact ((dictK_none hB).1 h1.symm).symm
    · have e2 : getK k B ≠ none := fun e2 => e ((dictK_none hA).1 (by rw [h1]; exact (dictK_none hB).2 e2))
      unfold dictK at h1
      cases ha : getK k A with
      | none => exact absurd ha e
      | some x =>
        cases hb : getK k B with
        | none => exact absurd hb e2
        | some y => rw [ha, hb] at h1; simpa using h1
/-! Cells. -/
theorem mem_keysS {S : StT} {k : K3T} : k ∈ keysS S ↔ getK k S.V ≠ none ∨ getK k S.L ≠ none ∨ getK k S.D ≠ none := by
  unfold keysS
  rw [mem_setOf, List.mem_append, List.mem_append, getK_mem, getK_mem, getK_mem]
theorem keysS_length (S : StT) : (keysS S).length ≤ S.V.length + S.L.length + S.D.length := by
  have := setOf_length (S.V.map (·.1) ++ (S.L.map (·.1) ++ S.D.map (·.1)))
  simp only [List.length_append, List.length_map] at this
  unfold keysS; omega
theorem cellsS_inj {A B : StT} (hA : OkS A) (hB : OkS B) (h : cellsS A = cellsS B) : A = B := by
  have hk : keysS A = keysS B := by
    have := congrArg (List.map (·.1)) h
    unfold cellsS at this
    rw [List.map_map, List.map_map] at this
    simpa [Function.comp_def, cellAt] using this
  have hc : ∀ k ∈ keysS A, cellAt A k = cellAt B k := by
    unfold cellsS at h
    rw [← hk] at h
    exact fun k hk => List.map_inj_left.1 h k hk
  have out : ∀ {S : StT} {k}, k ∉ keysS S → getK k S.V = none ∧ listK k S.L = [] ∧ dictK k S.D = [] := by
    intro S k h
    rw [mem_keysS] at h
    have h1 : getK k S.V = none := Classical.byContradiction fun e => h (.inl e)
    have h2 : getK k S.L = none := Classical.byContradiction fun e => h (.inr (.inl e))
    have h3 : getK k S.D = none := Classical.byContradiction fun e => h (.inr (.inr e))
    exact ⟨h1, by unfold listK; rw [h2]; rfl, by unfold dictK; rw [h3]; rfl⟩
  have key : ∀ k, getK k A.V = getK k B.V ∧ listK k A.L = listK k B.L ∧ dictK k A.D = dictK k B.D := by
    intro k
    by_cases e : k ∈ keysS A
    · have := hc k e
      unfold cellAt at this
      simp only [Prod.mk.injEq, true_and] at this
      exact this
    · have h1 := out e
      have h2 := out (S := B) (by rw [← hk]; exact e)
      exact ⟨by rw [h1.1, h2.1], by rw [h1.2.1, h2.2.1], by rw [h1.2.2, h2.2.2]⟩
  obtain ⟨V, L, D⟩ := A
  obtain ⟨V', L', D'⟩ := B
  have e1 : V = V' := sortedK_ext hA.v hB.v fun k => (key k).1
  have e2 : L = L' := okL_ext hA.l hB.l fun k => (key k).2.1
  have e3 : D = D' := okD_ext hA.d hB.d fun k => (key k).2.2
  rw [e1, e2, e3]
end Go.Sf
set_option linter.unusedVariables false
set_option linter.unusedSimpArgs false
namespace Go.Sf
def encV (p : K3T × Int) : List AV := k3 p.1 ++ [.int .i64 p.2]
def intsV (l : List Int) : List AV := l.map (.int .i64 ·)
def immI (l : List Int) : AV := .imm (intsV l) l.length none
def encL (p : K3T × List Int) : List AV := k3 p.1 ++ [immI p.2]
def fieldsA (fs : FieldsL) : List AV := fs.flatMap fun q => [.int .i64 q.1, .int .i64 q.2]
def encD (p : K3T × (FieldsL × AV)) : List AV := k3 p.1 ++ [p.2.2]
theorem intsV_length (l : List Int) : (intsV l).length = l.length := by simp [intsV]
theorem intsV_one (l : List Int) : (intsV l).all AV.one = true := by simp [intsV, List.all_eq_true, AV.one]
theorem intsV_append (l m : List Int) : intsV (l ++ m) = intsV l ++ intsV m := by simp [intsV]
theorem fieldsA_length (fs : FieldsL) : (fieldsA fs).length = fs.length * 2 := by
  induction fs with
  | nil => rfl
  | cons p fs ih => rw [show fieldsA (p :: fs) = [.int .i64 p.1, .int .i64 p.2] ++ fieldsA fs from rfl, List.length_append, ih]; simp; omega
theorem fieldsA_one (fs : FieldsL) : (fieldsA fs).all AV.one = true := by
  simp only [List.all_eq_true, fieldsA, List.mem_flatMap]
  rintro x ⟨q, _, hx⟩
  simp only [List.mem_cons, List.not_mem_nil, or_false] at hx
  rcases hx with rfl | rfl <;> rfl
/-! Rows of equal parts. -/
section
variable {α : Type} {enc : α → List AV} {k : Nat}
theorem fm_length (hk : ∀ x, (enc x).length = k) : ∀ l : List α, (l.flatMap enc).length = l.length * k
  | [] => by simp
  | x :: l => by rw [List.flatMap_cons, List.length_append, hk, fm_length hk l, List.length_cons, Nat.succ_mul]; omega
theorem fm_take (hk : ∀ x, (enc x).length = k) (l : List α) (i : Nat) : (l.flatMap enc).take (i * k) = (l.take i).flatMap enc := by
  induction l generalizing i with
  | nil => simp
  | cons x l ih =>
    cases i with
    | zero => simp
    | succ i =>
      rw [List.flatMap_cons, List.take_succ_cons, List.flatMap_cons, Nat.succ_mul, Nat.add_comm, List.take_append, hk, Nat.add_sub_cancel_left, ih, List.take_of_length_le (by rw [hk]; omega)]
theorem fm_drop (hk : ∀ x, (enc x).length = k) (l : List α) (i : Nat) : (l.flatMap enc).drop (i * k) = (l.drop i).flatMap enc := by
  induction l generalizing i with
  | nil => simp
  | cons x l ih =>
    cases i with
    | zero => simp
    | succ i =>
      rw [List.flatMap_cons, List.drop_succ_cons, Nat.succ_mul, Nat.add_comm, List.drop_append, hk, Nat.add_sub_cancel_left, ih, List.drop_of_length_le (by rw [hk]; omega)]
      rfl
theorem fm_ins (hk : ∀ x, (enc x).length = k) (l : List α) (i : Nat) (x : α) : (l.flatMap enc).take (i * k) ++ (enc x ++ (l.flatMap enc).drop (i * k)) = (l.take i ++ x :: l.drop i).flatMap enc := by
  rw [fm_take hk, fm_drop hk, List.flatMap_append, List.flatMap_cons]
theorem fm_del (hk : ∀ x, (enc x).length = k) (l : List α) (i : Nat) : (l.flatMap enc).take (i * k) ++ (l.flatMap enc).drop ((i + 1) * k) = (l.eraseIdx i).flatMap enc := by
  rw [fm_take hk, fm_drop hk, List.eraseIdx_eq_take_drop_succ, List.flatMap_append]
theorem fm_at (hk : ∀ x, (enc x).length = k) {l : List α} {i : Nat} {x : α} (h : l[i]? = some x) : ((l.flatMap enc).drop (i * k)).take k = enc x ∧ i * k + k ≤ (l.flatMap enc).length := by
  obtain ⟨hi, rfl⟩ := List.getElem?_eq_some_iff.1 h
  rw [fm_drop hk, List.drop_eq_getElem_cons hi, List.flatMap_cons, List.take_append, hk, Nat.sub_self, List.take_zero, List.append_nil, List.take_of_length_le (by rw [hk]; omega)]
  refine ⟨rfl, ?_⟩
  rw [fm_length hk, ← Nat.succ_mul]
  exact Nat.mul_le_mul_right _ hi
theorem fm_get (hk : ∀ x, (enc x).length = k) {l : List α} {i j : Nat} {x : α} (h : l[i]? = some x) (hj : j < k) : (l.flatMap enc)[i * k + j]? = (enc x)[j]? := by
  obtain ⟨h1, h2⟩ := fm_at hk h
  rw [← h1, List.getElem?_take_of_lt hj, List.getElem?_drop]
/-- One part written over. -/
theorem fm_set (hk : ∀ x, (enc x).length = k) {l : List α} {i : Nat} (hi : i < l.length) (x : α) : (l.flatMap enc).take (i * k) ++ enc x ++ (l.flatMap enc).drop (i * k + k) = (l.set i x).flatMap enc := by
  rw [fm_take hk, ← Nat.succ_mul, fm_drop hk, List.append_assoc, List.set_eq_take_append_cons_drop, if_pos hi, List.flatMap_append, List.flatMap_cons]
theorem fm_set1 (hk : ∀ x, (enc x).length = k) {l : List α} {i j : Nat} {x y : α} {v : AV} (h : l[i]? = some x) (hj : j < k) (hy : enc y = (enc x).set j v) : (l.flatMap enc).set (i * k + j) v = (l.set i y).flatMap enc := by
  obtain ⟨hi, hx⟩ := List.getElem?_eq_some_iff.1 h
  rw [← fm_set hk hi y, hy]
  obtain ⟨h1, h2⟩ := fm_at hk h
  have e : l.flatMap enc = (l.flatMap enc).take (i * k) ++ (enc x ++ (l.flatMap enc).drop (i * k + k)) := by
    conv => lhs; rw [← List.take_append_drop (i * k) (l.flatMap enc), ← List.take_append_drop k ((l.flatMap enc).drop (i * k)), h1, List.drop_drop]
  have hl : ((l.flatMap enc).take (i * k)).length = i * k := by rw [List.length_take]; omega
  generalize (l.flatMap enc).take (i * k) = A at *
  generalize (l.flatMap enc).drop (i * k + k) = B at *
  rw [e, List.set_append_right _ _ (by omega), hl, Nat.add_sub_cancel_left, List.set_append_left _ _ (by rw [hk]; exact hj), List.append_assoc]
theorem fm_one (h1 : ∀ x, (enc x).all AV.one = true) (l : List α) : (l.flatMap enc).all AV.one = true := by
  simp only [List.all_eq_true, List.mem_flatMap]
  rintro x ⟨q, _, hx⟩
  exact List.all_eq_true.1 (h1 q) x hx
end
theorem encV_length (p : K3T × Int) : (encV p).length = 4 := rfl
theorem encL_length (p : K3T × List Int) : (encL p).length = 4 := rfl
theorem encD_length (p : K3T × (FieldsL × AV)) : (encD p).length = 4 := rfl
theorem k3_length (k : K3T) : (k3 k).length = 3 := rfl
/-! What a call does to the blocks of one object. -/
def UpdF (F F' : Nat → Prop) (H H' : Heap) : Prop := (∀ x, ¬ F x → H x ≠ none → H' x = H x) ∧ ∀ x, F' x → F x ∨ H x = none
theorem UpdF.refl (F : Nat → Prop) (H : Heap) : UpdF F F H H := ⟨fun _ _ _ => rfl, fun x h => .inl h⟩
theorem UpdF.trans {F F' F'' : Nat → Prop} {H H' H'' : Heap} (h : UpdF F F' H H') (k : UpdF F' F'' H' H'') : UpdF F F'' H H'' := by
  refine ⟨fun x hx hn => ?_, fun x hx => ?_⟩
  · have h1 : ¬ F' x := fun h1 => (h.2 x h1).elim hx hn
    rw [k.1 x h1 (by rw [h.1 x hx hn]; exact hn), h.1 x hx hn]
  · rcases k.2 x hx with h1 | h1
    · exact h.2 x h1
    · by_cases hf : F x
      · exact .inl hf
      · refine .inr (Classical.byContradiction fun hn => ?_)
        rw [h.1 x hf hn] at h1; exact hn h1
theorem UpdF.mono {F F' G : Nat → Prop} {H H' : Heap} (h : UpdF F F' H H') (k : ∀ x, F x → G x) : UpdF G (fun x => G x ∨ F' x) H H' :=
  ⟨fun x hx hn => h.1 x (fun e => hx (k x e)) hn, fun x hx => hx.elim .inl fun h1 => (h.2 x h1).imp_left (k x)⟩
def ValQ (H : Heap) (p : Nat) (A : CellsK Int) (F : Nat → Prop) : Prop :=
  ∃ v, H p = some (.cells [v] 1) ∧ OwnR H 4 A.length v (A.flatMap encV) ∧ blkOf v ≠ some p ∧ SortedK A ∧ ∀ x, F x ↔ x = p ∨ blkOf v = some x
def LstQ (H : Heap) (p : Nat) (A : CellsK (List Int)) (F : Nat → Prop) : Prop :=
  ∃ v, H p = some (.cells [v] 1) ∧ OwnR H 4 A.length v (A.flatMap encL) ∧ blkOf v ≠ some p ∧ OkL A ∧ ∀ x, F x ↔ x = p ∨ blkOf v = some x
def DicR (H : Heap) (p : Nat) (v : AV) (E : CellsK (FieldsL × AV)) : Prop :=
  H p = some (.cells [v] 1) ∧ OwnR H 4 E.length v (E.flatMap encD) ∧ blkOf v ≠ some p ∧ (∀ q ∈ E, OwnR H 2 q.2.1.length q.2.2 (fieldsA q.2.1)) ∧
    (∀ q ∈ E, ∀ b, blkOf q.2.2 = some b → b ≠ p ∧ blkOf v ≠ some b) ∧ E.Pairwise fun q r => ∀ b, blkOf q.2.2 = some b → blkOf r.2.2 ≠ some b
def dicF (p : Nat) (v : AV) (E : CellsK (FieldsL × AV)) (x : Nat) : Prop := x = p ∨ blkOf v = some x ∨ ∃ q ∈ E, blkOf q.2.2 = some x
def dicE (E : CellsK (FieldsL × AV)) : CellsK FieldsL := E.map fun q => (q.1, q.2.1)
def DicQ (H : Heap) (p : Nat) (D : CellsK FieldsL) (F : Nat → Prop) : Prop :=
  ∃ E v, D = dicE E ∧ DicR H p v E ∧ OkD D ∧ ∀ x, F x ↔ dicF p v E x
theorem OwnR.live {H : Heap} {sz n : Nat} {v : AV} {cs : List AV} (h : OwnR H sz n v cs) {b : Nat} (hb : blkOf v = some b) : H b ≠ none := by
  obtain ⟨_, ⟨rfl, _⟩ | ⟨b', c, rfl, h1, _⟩⟩ := h
  · cases hb
  · cases hb; rw [h1]; simp
theorem OwnR.agree {H H' : Heap} {sz n : Nat} {v : AV} {cs : List AV} (h : OwnR H sz n v cs) (k : ∀ b, blkOf v = some b → H' b = H b) : OwnR H' sz n v cs := by
  obtain ⟨hl, h | ⟨b, c, rfl, hb, hc⟩⟩ := h
  · exact ⟨hl, .inl h⟩
  · exact ⟨hl, .inr ⟨b, c, rfl, by rw [k b rfl]; exact hb, hc⟩⟩
theorem ValQ.live {H : Heap} {p : Nat} {A : CellsK Int} {F : Nat → Prop} (h : ValQ H p A F) {x : Nat} (hx : F x) : H x ≠ none := by
  obtain ⟨v, h1, h2, h3, h4, h5⟩ := h
  rcases (h5 x).1 hx with rfl | hx
  · rw [h1]; simp
  · exact h2.live hx
theorem LstQ.live {H : Heap} {p : Nat} {A : CellsK (List Int)} {F : Nat → Prop} (h : LstQ H p A F) {x : Nat} (hx : F x) : H x ≠ none := by
  obtain ⟨v, h1, h2, h3, h4, h5⟩ := h
  rcases (h5 x).1 hx with rfl | hx
  · rw [h1]; simp
  · exact h2.live hx
theorem DicQ.live {H : Heap} {p : Nat} {A : CellsK FieldsL} {F : Nat → Prop} (h : DicQ H p A F) {x : Nat} (hx : F x) : H x ≠ none := by
  obtain ⟨E, v, rfl, ⟨h1, h2, h3, h4, h5, h6⟩, h7, h8⟩ := h
  rcases (h8 x).1 hx with rfl | hx | ⟨q, hq, hx⟩
  · rw [h1]; simp
  · exact h2.live hx
  · exact (h4 q hq).live hx
theorem ValQ.keep {H H' : Heap} {p : Nat} {A : CellsK Int} {F : Nat → Prop} (h : ValQ H p A F) (k : ∀ x, F x → H' x = H x) : ValQ H' p A F := by
  obtain ⟨v, h1, h2, h3, h4, h5⟩ := h
  exact ⟨v, by rw [k p ((h5 p).2 (.inl rfl))]; exact h1, h2.agree fun b hb => k b ((h5 b).2 (.inr hb)), h3, h4, h5⟩
theorem LstQ.keep {H H' : Heap} {p : Nat} {A : CellsK (List Int)} {F : Nat → Prop} (h : LstQ H p A F) (k : ∀ x, F x → H' x = H x) : LstQ H' p A F := by
  obtain ⟨v, h1, h2, h3, h4, h5⟩ := h
  exact ⟨v, by rw [k p ((h5 p).2 (.inl rfl))]; exact h1, h2.agree fun b hb => k b ((h5 b).2 (.inr hb)), h3, h4, h5⟩
theorem DicR.keep {H H' : Heap} {p : Nat} {v : AV} {E : CellsK (FieldsL × AV)} (h : DicR H p v E) (k : ∀ x, dicF p v E x → H' x = H x) : DicR H' p v E := by
  obtain ⟨h1, h2, h3, h4, h5, h6⟩ := h
  exact ⟨by rw [k p (.inl rfl)]; exact h1, h2.agree fun b hb => k b (.inr (.inl hb)), h3, fun q hq => (h4 q hq).agree fun b hb => k b (.inr (.inr ⟨q, hq, hb⟩)), h5, h6⟩
theorem DicQ.keep {H H' : Heap} {p : Nat} {A : CellsK FieldsL} {F : Nat → Prop} (h : DicQ H p A F) (k : ∀ x, F x → H' x = H x) : DicQ H' p A F := by
  obtain ⟨E, v, rfl, h1, h7, h8⟩ := h
  exact ⟨E, v, rfl, h1.keep fun x hx => k x ((h8 x).2 hx), h7, h8⟩
/-! The state. -/
def StQ (H : Heap) (s : Nat) (S : StT) (F : Nat → Prop) : Prop :=
  ∃ pv pl pd F1 F2 F3, H s = some (.cells [.ptr pv 0, .ptr pl 0, .ptr pd 0] 3) ∧ ValQ H pv S.V F1 ∧ LstQ H pl S.L F2 ∧ DicQ H pd S.D F3 ∧
    (¬ F1 s ∧ ¬ F2 s ∧ ¬ F3 s) ∧ (∀ x, F1 x → ¬ F2 x) ∧ (∀ x, F1 x → ¬ F3 x) ∧ (∀ x, F2 x → ¬ F3 x) ∧ ∀ x, F x ↔ x = s ∨ F1 x ∨ F2 x ∨ F3 x
theorem StQ.live {H : Heap} {s : Nat} {S : StT} {F : Nat → Prop} (h : StQ H s S F) {x : Nat} (hx : F x) : H x ≠ none := by
  obtain ⟨pv, pl, pd, F1, F2, F3, h1, h2, h3, h4, _, _, _, _, h9⟩ := h
  rcases (h9 x).1 hx with rfl | hx | hx | hx
  · rw [h1]; simp
  · exact h2.live hx
  · exact h3.live hx
  · exact h4.live hx
theorem StQ.keep {H H' : Heap} {s : Nat} {S : StT} {F : Nat → Prop} (h : StQ H s S F) (k : ∀ x, F x → H' x = H x) : StQ H' s S F := by
  obtain ⟨pv, pl, pd, F1, F2, F3, h1, h2, h3, h4, h5, h6, h7, h8, h9⟩ := h
  exact ⟨pv, pl, pd, F1, F2, F3, by rw [k s ((h9 s).2 (.inl rfl))]; exact h1, h2.keep fun x hx => k x ((h9 x).2 (.inr (.inl hx))), h3.keep fun x hx => k x ((h9 x).2 (.inr (.inr (.inl hx)))),
    h4.keep fun x hx => k x ((h9 x).2 (.inr (.inr (.inr hx)))), h5, h6, h7, h8, h9⟩
theorem StQ.ok {H : Heap} {s : Nat} {S : StT} {F : Nat → Prop} (h : StQ H s S F) : OkS S := by
  obtain ⟨pv, pl, pd, F1, F2, F3, h1, ⟨_, _, _, _, h2, _⟩, ⟨_, _, _, _, h3, _⟩, ⟨_, _, _, _, h4, _⟩, _⟩ := h
  exact ⟨h2, h3, h4⟩
theorem StQ.updV {H H' : Heap} {s pv pl pd : Nat} {S : StT} {F F1 F2 F3 F1' : Nat → Prop} {V : CellsK Int} (h1 : H s = some (.cells [.ptr pv 0, .ptr pl 0, .ptr pd 0] 3)) (h2 : ValQ H pv S.V F1) (h3 : LstQ H pl S.L F2) (h4 : DicQ H pd S.D F3)
    (h5 : ¬ F1 s ∧ ¬ F2 s ∧ ¬ F3 s) (h6 : ∀ x, F1 x → ¬ F2 x) (h7 : ∀ x, F1 x → ¬ F3 x) (h8 : ∀ x, F2 x → ¬ F3 x) (h9 : ∀ x, F x ↔ x = s ∨ F1 x ∨ F2 x ∨ F3 x) (hV : ValQ H' pv V F1') (hu : UpdF F1 F1' H H') :
    ∃ F', StQ H' s { S with V := V } F' ∧ UpdF F F' H H' := by
  have n1 : ∀ x, ¬ F1 x → H x ≠ none → ¬ F1' x := fun x ha hb hc => (hu.2 x hc).elim ha hb
  have hs : H s ≠ none := by rw [h1]; simp
  have k2 : ∀ x, F2 x → ¬ F1 x := fun x hx e => h6 x e hx
  have k3 : ∀ x, F3 x → ¬ F1 x := fun x hx e => h7 x e hx
  refine ⟨fun x => x = s ∨ F1' x ∨ F2 x ∨ F3 x, ⟨pv, pl, pd, F1', F2, F3, by rw [hu.1 s h5.1 hs]; exact h1, hV, h3.keep fun x hx => hu.1 x (k2 x hx) (h3.live hx), h4.keep fun x hx => hu.1 x (k3 x hx) (h4.live hx),
    ⟨n1 s h5.1 hs, h5.2⟩, fun x hx e => n1 x (k2 x e) (h3.live e) hx, fun x hx e => n1 x (k3 x e) (h4.live e) hx, h8, fun x => Iff.rfl⟩, fun x hx hn => hu.1 x (fun e => hx ((h9 x).2 (.inr (.inl e)))) hn, fun x hx => ?_⟩
  rcases hx with rfl | hx | hx
  · exact .inl ((h9 _).2 (.inl rfl))
  · exact (hu.2 x hx).imp_left fun e => (h9 x).2 (.inr (.inl e))
  · exact .inl ((h9 x).2 (.inr (.inr hx)))
theorem StQ.updL {H H' : Heap} {s pv pl pd : Nat} {S : StT} {F F1 F2 F3 F2' : Nat → Prop} {L : CellsK (List Int)} (h1 : H s = some (.cells [.ptr pv 0, .ptr pl 0, .ptr pd 0] 3)) (h2 : ValQ H pv S.V F1) (h3 : LstQ H pl S.L F2) (h4 : DicQ H pd S.D F3)
    (h5 : ¬ F1 s ∧ ¬ F2 s ∧ ¬ F3 s) (h6 : ∀ x, F1 x → ¬ F2 x) (h7 : ∀ x, F1 x → ¬ F3 x) (h8 : ∀ x, F2 x → ¬ F3 x) (h9 : ∀ x, F x ↔ x = s ∨ F1 x ∨ F2 x ∨ F3 x) (hV : LstQ H' pl L F2') (hu : UpdF F2 F2' H H') :
    ∃ F', StQ H' s { S with L := L } F' ∧ UpdF F F' H H' := by
  have n1 : ∀ x, ¬ F2 x → H x ≠ none → ¬ F2' x := fun x ha hb hc => (hu.2 x hc).elim ha hb
  have hs : H s ≠ none := by rw [h1]; simp
  have k1 : ∀ x, F1 x → ¬ F2 x := h6
  have k3 : ∀ x, F3 x → ¬ F2 x := fun x hx e => h8 x e hx
  refine ⟨fun x => x = s ∨ F1 x ∨ F2' x ∨ F3 x, ⟨pv, pl, pd, F1, F2', F3, by rw [hu.1 s h5.2.1 hs]; exact h1, h2.keep fun x hx => hu.1 x (k1 x hx) (h2.live hx), hV, h4.keep fun x hx => hu.1 x (k3 x hx) (h4.live hx),
    ⟨h5.1, n1 s h5.2.1 hs, h5.2.2⟩, fun x hx e => n1 x (k1 x hx) (h2.live hx) e, h7, fun x hx e => n1 x (k3 x e) (h4.live e) hx, fun x => Iff.rfl⟩, fun x hx hn => hu.1 x (fun e => hx ((h9 x).2 (.inr (.inr (.inl e))))) hn, fun x hx => ?_⟩
  rcases hx with rfl | hx | hx | hx
  · exact .inl ((h9 _).2 (.inl rfl))
  · exact .inl ((h9 x).2 (.inr (.inl hx)))
  · exact (hu.2 x hx).imp_left fun e => (h9 x).2 (.inr (.inr (.inl e)))
  · exact .inl ((h9 x).2 (.inr (.inr (.inr hx))))
theorem StQ.updD {H H' : Heap} {s pv pl pd : Nat} {S : StT} {F F1 F2 F3 F3' : Nat → Prop} {D : CellsK FieldsL} (h1 : H s = some (.cells [.ptr pv 0, .ptr pl 0, .ptr pd 0] 3)) (h2 : ValQ H pv S.V F1) (h3 : LstQ H pl S.L F2) (h4 : DicQ H pd S.D F3)
    (h5 : ¬ F1 s ∧ ¬ F2 s ∧ ¬ F3 s) (h6 : ∀ x, F1 x → ¬ F2 x) (h7 : ∀ x, F1 x → ¬ F3 x) (h8 : ∀ x, F2 x → ¬ F3 x) (h9 : ∀ x, F x ↔ x = s ∨ F1 x ∨ F2 x ∨ F3 x) (hV : DicQ H' pd D F3') (hu : UpdF F3 F3' H H') :
    ∃ F', StQ H' s { S with D := D } F' ∧ UpdF F F' H H' := by
  have n1 : ∀ x, ¬ F3 x → H x ≠ none → ¬ F3' x := fun x ha hb hc => (hu.2 x hc).elim ha hb
  have hs : H s ≠ none := by rw [h1]; simp
  refine ⟨fun x => x = s ∨ F1 x ∨ F2 x ∨ F3' x, ⟨pv, pl, pd, F1, F2, F3', by rw [hu.1 s h5.2.2 hs]; exact h1, h2.keep fun x hx => hu.1 x (h7 x hx) (h2.live hx), h3.keep fun x hx => hu.1 x (h8 x hx) (h3.live hx), hV,
    ⟨h5.1, h5.2.1, n1 s h5.2.2 hs⟩, h6, fun x hx e => n1 x (h7 x hx) (h2.live hx) e, fun x hx e => n1 x (h8 x hx) (h3.live hx) e, fun x => Iff.rfl⟩, fun x hx hn => hu.1 x (fun e => hx ((h9 x).2 (.inr (.inr (.inr e))))) hn, fun x hx => ?_⟩
  rcases hx with rfl | hx | hx | hx
  · exact .inl ((h9 _).2 (.inl rfl))
  · exact .inl ((h9 x).2 (.inr (.inl hx)))
  · exact .inl ((h9 x).2 (.inr (.inr (.inl hx))))
  · exact (hu.2 x hx).imp_left fun e => (h9 x).2 (.inr (.inr (.inr e)))
end Go.Sf
set_option linter.unusedVariables false
set_option linter.unusedSimpArgs false
namespace Go.Sf
section
variable {β : Type}
theorem posK_lt {k : K3T} : ∀ {A : CellsK β} {i : Nat} {p : K3T × β}, i < posK k A → A[i]? = some p → lessK p.1 k = true
  | [], i, p, h, _ => by simp [posK] at h
  | q :: A, i, p, h, hp => by
    simp only [posK] at h
    split at h
    · rename_i hl
      cases i with
      | zero => simp at hp; subst hp; exact hl
      | succ i => exact posK_lt (A := A) (i := i) (by omega) (by simpa using hp)
    · omega
theorem posK_ge {k : K3T} : ∀ {A : CellsK β} {p : K3T × β}, A[posK k A]? = some p → lessK p.1 k = false
  | [], p, hp => by simp [posK] at hp
  | q :: A, p, hp => by
    simp only [posK] at hp
    split at hp
    · exact posK_ge (A := A) (by simpa using hp)
    · rename_i hl
      simp at hp; subst hp; simpa using hl
theorem there_at {k : K3T} {A : CellsK β} (h : SortedK A) {p : K3T × β} (hp : A[posK k A]? = some p) : (getK k A).isSome = decide (p.1 = k) := by
  rw [getK_pos h, hp]
  simp only [Option.bind_some]
  by_cases e : p.1 = k <;> simp [e]
theorem there_out {k : K3T} {A : CellsK β} (h : SortedK A) (hp : A.length ≤ posK k A) : (getK k A).isSome = false := by
  rw [getK_pos h, List.getElem?_eq_none hp]; rfl
theorem at_there {k : K3T} {A : CellsK β} (h : SortedK A) {v : β} (hg : getK k A = some v) : A[posK k A]? = some (k, v) ∧ posK k A < A.length := by
  rw [getK_pos h] at hg
  cases hp : A[posK k A]? with
  | none => rw [hp] at hg; cases hg
  | some p =>
    rw [hp] at hg
    simp only [Option.bind_some] at hg
    split at hg
    · rename_i e; cases hg; exact ⟨by rw [← e], (List.getElem?_eq_some_iff.1 hp).1⟩
    · cases hg
/-- A row of cells whose keys are told apart from what they hold. -/
theorem posK_map {γ : Type} (f : K3T × β → K3T × γ) (hf : ∀ p, (f p).1 = p.1) (k : K3T) : ∀ A : CellsK β, posK k (A.map f) = posK k A
  | [] => rfl
  | p :: A => by simp only [List.map_cons, posK, hf, posK_map f hf k A]
theorem getK_map {γ : Type} (g : K3T → β → γ) (k : K3T) : ∀ A : CellsK β, getK k (A.map fun p => (p.1, g p.1 p.2)) = (getK k A).map (g k)
  | [] => rfl
  | p :: A => by
    simp only [List.map_cons, getK]
    by_cases e : p.1 = k
    · subst e; simp
    · rw [if_neg e, if_neg e]; exact getK_map g k A
end
theorem posF_lt {f : Int} : ∀ {A : FieldsL} {i : Nat} {p : Int × Int}, i < posF f A → A[i]? = some p → p.1 < f
  | [], i, p, h, _ => by simp [posF] at h
  | q :: A, i, p, h, hp => by
    simp only [posF] at h
    split at h
    · rename_i hl
      cases i with
      | zero => simp at hp; subst hp; exact hl
      | succ i => exact posF_lt (A := A) (i := i) (by omega) (by simpa using hp)
    · omega
theorem posF_ge {f : Int} : ∀ {A : FieldsL} {p : Int × Int}, A[posF f A]? = some p → ¬ p.1 < f
  | [], p, hp => by simp [posF] at hp
  | q :: A, p, hp => by
    simp only [posF] at hp
    split at hp
    · exact posF_ge (A := A) (by simpa using hp)
    · rename_i hl
      simp at hp; subst hp; exact hl
theorem thereF_at {f : Int} {A : FieldsL} (h : RisF A) {p : Int × Int} (hp : A[posF f A]? = some p) : (getF f A).isSome = decide (p.1 = f) := by
  rw [getF_pos h, hp]
  simp only [Option.bind_some]
  by_cases e : p.1 = f <;> simp [e]
theorem thereF_out {f : Int} {A : FieldsL} (h : RisF A) (hp : A.length ≤ posF f A) : (getF f A).isSome = false := by
  rw [getF_pos h, List.getElem?_eq_none hp]; rfl
theorem atF_there {f v : Int} {A : FieldsL} (h : RisF A) (hg : getF f A = some v) : A[posF f A]? = some (f, v) ∧ posF f A < A.length := by
  rw [getF_pos h] at hg
  cases hp : A[posF f A]? with
  | none => rw [hp] at hg; cases hg
  | some p =>
    rw [hp] at hg
    simp only [Option.bind_some] at hg
    split at hg
    · rename_i e; cases hg; exact ⟨by rw [← e], (List.getElem?_eq_some_iff.1 hp).1⟩
    · cases hg
/-! What a call leaves behind its own blocks is told no more. -/
end Go.Sf
set_option linter.unusedVariables false
set_option linter.unusedSimpArgs false
namespace Go.Sf
def MutT.key (m : MutT) : K3T := (m.g, m.n, m.i)
/-- A change that may be, done. -/
def oneS (m : MutT) (S : StT) : StT :=
  if m.k = 1 then { S with V := updK m.key m.v S.V } else if m.k = 2 then { S with V := cutK m.key S.V }
  else if m.k = 3 then { S with L := (pushL m.key [m.v] S.L).1 } else if m.k = 4 then { S with L := (clearL m.key S.L).1 }
  else if m.k = 5 then { S with D := (putD m.key m.f m.v S.D).1 } else if m.k = 6 then { S with D := (cutD m.key m.f S.D).1 } else S
def fullN (L : CellsK (List Int)) (W : List (K3T × Int)) (m : MutT) : Int :=
  if m.k = 3 then (getK m.key W).getD (listK m.key L).length + 1 else if m.k = 4 then 0 else (getK m.key W).getD (listK m.key L).length
/-- Whether a list would be too long. -/
def fullS (L : CellsK (List Int)) : List (K3T × Int) → List MutT → Bool
  | _, [] => false
  | W, m :: ms => if 100 < fullN L W m then true else fullS L (mput m.key (fullN L W m) W) ms
def doneS (ms : List MutT) (S : StT) : StT := ms.foldl (fun S m => oneS m S) S
def doS (ms : List MutT) (S : StT) : StT × Int := if ms.any (fun m => !mayM m) = true then (S, 1) else if fullS S.L [] ms = true then (S, 4) else (doneS ms S, 0)
theorem okS_one {m : MutT} {S : StT} (h : OkS S) : OkS (oneS m S) := by
  unfold oneS
  split
  · exact ⟨sortedK_upd h.v, h.l, h.d⟩
  · split
    · exact ⟨sortedK_cut h.v, h.l, h.d⟩
    · split
      · exact ⟨h.v, okL_push h.l, h.d⟩
      · split
        · exact ⟨h.v, okL_clear h.l, h.d⟩
        · split
          · exact ⟨h.v, h.l, okD_put h.d⟩
          · split
            · exact ⟨h.v, h.l, okD_cut h.d⟩
            · exact h
theorem okS_done {ms : List MutT} : ∀ {S : StT}, OkS S → OkS (doneS ms S) := by
  induction ms with
  | nil => intro S h; exact h
  | cons m ms ih => intro S h; exact ih (okS_one h)
theorem okS_do {ms : List MutT} {S : StT} (h : OkS S) : OkS (doS ms S).1 := by
  unfold doS
  split
  · exact h
  · split
    · exact h
    · exact okS_done h
/-! How many there are. -/
def cntS (S : StT) : Nat := S.V.length + S.L.length + S.D.length
theorem length_push (k : K3T) (ns : List Int) (L : CellsK (List Int)) : (pushL k ns L).1.length ≤ L.length + 1 := by
  unfold pushL
  split
  · simp
  · split
    · simp
    · exact length_upd _ _ _
theorem length_put (k : K3T) (f v : Int) (D : CellsK FieldsL) : (putD k f v D).1.length ≤ D.length + 1 := by
  unfold putD
  split
  · simp
  · exact length_upd _ _ _
theorem length_cutD (k : K3T) (f : Int) (D : CellsK FieldsL) : (cutD k f D).1.length ≤ D.length := by
  unfold cutD
  split
  · simp only
    split
    · unfold delK; rw [List.length_eraseIdx]; split <;> omega
    · unfold setK; simp
  · exact Nat.le_refl _
theorem cntS_one (m : MutT) (S : StT) : cntS (oneS m S) ≤ cntS S + 1 := by
  have h1 := length_upd m.key m.v S.V
  have h2 := length_cut m.key S.V
  have h3 := length_push m.key [m.v] S.L
  have h4 : (clearL m.key S.L).1.length ≤ S.L.length := length_cut _ _
  have h5 := length_put m.key m.f m.v S.D
  have h6 := length_cutD m.key m.f S.D
  unfold oneS cntS
  repeat' split
  all_goals (first | omega | (dsimp only at *; omega))
theorem cntS_done (ms : List MutT) : ∀ S : StT, cntS (doneS ms S) ≤ cntS S + ms.length := by
  induction ms with
  | nil => intro S; exact Nat.le_refl _
  | cons m ms ih =>
    intro S
    have := ih (oneS m S)
    have h := cntS_one m S
    show cntS (doneS ms (oneS m S)) ≤ _
    simp only [List.length_cons]; omega
theorem cntS_do (ms : List MutT) (S : StT) : cntS (doS ms S).1 ≤ cntS S + ms.length := by
  unfold doS
  split
  · exact Nat.le_add_right _ _
  · split
    · exact Nat.le_add_right _ _
    · exact cntS_done ms S
/-! A copy. -/
def putsD (k : K3T) (fs : FieldsL) (D : CellsK FieldsL) : CellsK FieldsL := fs.foldl (fun D q => (putD k q.1 q.2 D).1) D
/-- A cell put into a state. -/
def putS (c : CellT) (S : StT) : StT :=
  { V := (match c.2.1 with | some n => updK c.1 n S.V | none => S.V), L := (pushL c.1 c.2.2.1 S.L).1, D := putsD c.1 c.2.2.2 S.D }
def putsS (cs : List CellT) (S : StT) : StT := cs.foldl (fun S c => putS c S) S
def copyS (S : StT) : StT := putsS (cellsS S) StT.nil
def putsF (fs A : FieldsL) : FieldsL := fs.foldl (fun A q => putF q.1 q.2 A) A
theorem risF_puts : ∀ {fs A : FieldsL}, RisF A → RisF (putsF fs A)
  | [], A, h => h
  | q :: fs, A, h => risF_puts (fs := fs) (risF_put h)
theorem getF_puts : ∀ {fs A : FieldsL} {m : Int}, RisF fs → RisF A → getF m (putsF fs A) = match getF m fs with | some v => some v | none => getF m A
  | [], A, m, _, h => rfl
  | q :: fs, A, m, hf, h => by
    have hq := (List.pairwise_cons.1 hf).1
    show getF m (putsF fs (putF q.1 q.2 A)) = _
    rw [getF_puts (List.pairwise_cons.1 hf).2 (risF_put h)]
    simp only [getF]
    by_cases e : q.1 = m
    · subst e
      rw [getF_low hq, if_pos rfl]
      simp only
      rw [getF_put h, if_pos rfl]
    · rw [if_neg e]
      cases hg : getF m fs with
      | some v => rfl
      | none => simp only; rw [getF_put h, if_neg (Ne.symm e)]
theorem putsF_nil {fs : FieldsL} (h : RisF fs) : putsF fs [] = fs :=
  risF_ext (risF_puts .nil) h fun f => by
    rw [getF_puts h .nil]
    cases getF f fs <;> rfl
theorem okD_puts {k : K3T} : ∀ {fs : FieldsL} {D : CellsK FieldsL}, OkD D → OkD (putsD k fs D)
  | [], D, h => h
  | q :: fs, D, h => okD_puts (fs := fs) (okD_put h)
theorem dictK_puts {k m : K3T} : ∀ {fs : FieldsL} {D : CellsK FieldsL}, OkD D → (∀ q ∈ fs, 0 ≤ q.1 ∧ q.1 < 8) → dictK m (putsD k fs D) = if m = k then putsF fs (dictK k D) else dictK m D
  | [], D, h, _ => by
    show dictK m D = _
    by_cases e : m = k
    · subst e; simp [putsF]
    · rw [if_neg e]
  | q :: fs, D, h, hr => by
    show dictK m (putsD k fs (putD k q.1 q.2 D).1) = _
    rw [dictK_puts (okD_put h) fun x hx => hr x (by simp [hx]), dictK_put h (hr q (by simp)), dictK_put h (hr q (by simp)), if_pos rfl]
    by_cases e : m = k
    · rw [if_pos e, if_pos e]; rfl
    · rw [if_neg e, if_neg e, if_neg e]
theorem okS_put {c : CellT} {S : StT} (h : OkS S) : OkS (putS c S) := by
  refine ⟨?_, okL_push h.l, okD_puts h.d⟩
  show SortedK (match c.2.1 with | some n => updK c.1 n S.V | none => S.V)
  cases c.2.1 with
  | none => exact h.v
  | some n => exact sortedK_upd h.v
theorem okS_puts : ∀ {cs : List CellT} {S : StT}, OkS S → OkS (putsS cs S)
  | [], S, h => h
  | c :: cs, S, h => okS_puts (cs := cs) (okS_put h)
theorem puts_tell {S : StT} (hS : OkS S) : ∀ (ks : List K3T) (T : StT), ks.Nodup → OkS T → (∀ k ∈ ks, getK k T.V = none ∧ listK k T.L = [] ∧ dictK k T.D = []) →
    ∀ m, getK m (putsS (ks.map (cellAt S)) T).V = (if m ∈ ks then getK m S.V else getK m T.V) ∧ listK m (putsS (ks.map (cellAt S)) T).L = (if m ∈ ks then listK m S.L else listK m T.L) ∧
      dictK m (putsS (ks.map (cellAt S)) T).D = (if m ∈ ks then dictK m S.D else dictK m T.D)
  | [], T, _, _, _, m => by simp [putsS]
  | k :: ks, T, hn, hT, h0, m => by
    rw [List.nodup_cons] at hn
    obtain ⟨hk1, hk2, hk3⟩ := h0 k (by simp)
    have hle := listK_le (k := k) hS.l
    have hV : ∀ x, getK x (putS (cellAt S k) T).V = if x = k then getK k S.V else getK x T.V := by
      intro x
      show getK x (match getK k S.V with | some n => updK k n T.V | none => T.V) = _
      cases hg : getK k S.V with
      | none =>
        simp only
        by_cases e : x = k
        · subst e; rw [if_pos rfl, hk1]
        · rw [if_neg e]
      | some n => simp only; rw [getK_upd hT.v]
    have hL : ∀ x, listK x (putS (cellAt S k) T).L = if x = k then listK k S.L else listK x T.L := by
      intro x
      show listK x (pushL k (listK k S.L) T.L).1 = _
      rw [getK_push hT.l, hk2, List.nil_append]
      by_cases e : x = k
      · rw [if_pos ⟨e, hle⟩, if_pos e]
      · rw [if_neg (fun h => e h.1), if_neg e]
    have hD : ∀ x, dictK x (putS (cellAt S k) T).D = if x = k then dictK k S.D else dictK x T.D := by
      intro x
      show dictK x (putsD k (dictK k S.D) T.D) = _
      rw [dictK_puts hT.d (dictK_ok hS.d).2, hk3, putsF_nil (dictK_ok hS.d).1]
    have ih := puts_tell hS ks (putS (cellAt S k) T) hn.2 (okS_put hT) (fun x hx => by
      have hx' := h0 x (by simp [hx])
      have hne : x ≠ k := fun e => hn.1 (by rw [← e]; exact hx)
      rw [hV, hL, hD, if_neg hne, if_neg hne, if_neg hne]; exact hx') m
    show getK m (putsS (ks.map (cellAt S)) (putS (cellAt S k) T)).V = _ ∧ listK m (putsS (ks.map (cellAt S)) (putS (cellAt S k) T)).L = _ ∧ dictK m (putsS (ks.map (cellAt S)) (putS (cellAt S k) T)).D = _
    rw [ih.1, ih.2.1, ih.2.2, hV, hL, hD]
    by_cases e : m = k
    · subst e
      simp [hn.1]
    · simp [e]
theorem risK_nodup {l : List K3T} (h : RisK l) : l.Nodup := by
  rw [List.nodup_iff_pairwise_ne]
  exact h.imp fun {a b} hl e => by rw [e, lessK_irr] at hl; cases hl
/-- A copy tells what the state tells. -/
theorem copyS_eq {S : StT} (h : OkS S) : copyS S = S := by
  have key := puts_tell h (keysS S) StT.nil (risK_nodup (risK_setOf _)) okS_nil fun k _ => ⟨rfl, rfl, rfl⟩
  have hok : OkS (copyS S) := okS_puts okS_nil
  have e1 : (copyS S).V = S.V := sortedK_ext hok.v h.v fun m => by
    rw [show getK m (copyS S).V = _ from (key m).1]
    by_cases e : m ∈ keysS S
    · rw [if_pos e]
    · rw [if_neg e]
      exact (Classical.byContradiction fun e2 => e (mem_keysS.2 (.inl (Ne.symm e2)))).symm.symm
  have e2 : (copyS S).L = S.L := okL_ext hok.l h.l fun m => by
    rw [show listK m (copyS S).L = _ from (key m).2.1]
    by_cases e : m ∈ keysS S
    · rw [if_pos e]
    · rw [if_neg e]
      have : getK m S.L = none := Classical.byContradiction fun e2 => e (mem_keysS.2 (.inr (.inl e2)))
      unfold listK; rw [this]; rfl
  have e3 : (copyS S).D = S.D := okD_ext hok.d h.d fun m => by
    rw [show dictK m (copyS S).D = _ from (key m).2.2]
    by_cases e : m ∈ keysS S
    · rw [if_pos e]
    · rw [if_neg e]
      have : getK m S.D = none := Classical.byContradiction fun e2 => e (mem_keysS.2 (.inr (.inr e2)))
      unfold dictK; rw [this]; rfl
  cases hc : copyS S
  rw [hc] at e1 e2 e3
  simp only at e1 e2 e3
  rw [e1, e2, e3]
end Go.Sf
set_option linter.unusedVariables false
set_option linter.unusedSimpArgs false
namespace Go.Sf
def dedupK : List K3T → List K3T
  | [] => []
  | [x] => [x]
  | x :: y :: l => if x = y then dedupK (y :: l) else x :: dedupK (y :: l)
theorem dedupK_ne : ∀ {x : K3T} {l : List K3T}, dedupK (x :: l) ≠ []
  | x, [] => by simp [dedupK]
  | x, y :: l => by
    simp only [dedupK]
    split
    · exact dedupK_ne
    · simp
theorem mem_dedupK {m : K3T} : ∀ {l : List K3T}, m ∈ dedupK l ↔ m ∈ l
  | [] => by simp [dedupK]
  | [x] => by simp [dedupK]
  | x :: y :: l => by
    simp only [dedupK]
    split
    · rename_i e; subst e
      rw [mem_dedupK]; simp
    · rw [List.mem_cons, mem_dedupK, List.mem_cons (a := m) (b := x)]
/-- One more at the end. -/
theorem dedupK_snoc (x y : K3T) : ∀ l : List K3T, dedupK (l ++ [x, y]) = if x = y then dedupK (l ++ [x]) else dedupK (l ++ [x]) ++ [y]
  | [] => by
    simp only [List.nil_append, dedupK]
    split
    · rename_i e; subst e; rfl
    · rfl
  | [z] => by
    simp only [List.cons_append, List.nil_append, dedupK]
    by_cases e : x = y
    · subst e; simp
    · simp only [e, if_false]
      split <;> simp
  | z :: w :: l => by
    have ih := dedupK_snoc x y (w :: l)
    simp only [List.cons_append, dedupK] at ih ⊢
    rw [ih]
    by_cases e : x = y
    · simp only [e, if_true]
    · simp only [e, if_false]
      split <;> simp
theorem dedupK_step {l : List K3T} {j : Nat} {x y : K3T} (hx : l[j]? = some x) (hy : l[j + 1]? = some y) : dedupK (l.take (j + 2)) = if x = y then dedupK (l.take (j + 1)) else dedupK (l.take (j + 1)) ++ [y] := by
  have h1 : l.take (j + 1) = l.take j ++ [x] := by rw [List.take_add_one, hx]; rfl
  have h2 : l.take (j + 2) = l.take j ++ [x, y] := by rw [List.take_add_one, hy, h1]; simp
  rw [h1, h2]; exact dedupK_snoc x y _
theorem dedupK_one {l : List K3T} : dedupK (l.take 1) = l.take 1 := by
  cases l with
  | nil => rfl
  | cons x l => rfl
theorem dedupK_le : ∀ l : List K3T, (dedupK l).length ≤ l.length
  | [] => Nat.le_refl _
  | [x] => Nat.le_refl _
  | x :: y :: l => by
    have := dedupK_le (y :: l)
    simp only [dedupK]
    split
    · simp only [List.length_cons] at *; omega
    · simp only [List.length_cons] at *; omega
/-- Keys in order, those told twice left out: rising. -/
theorem risK_dedup : ∀ {l : List K3T}, (l.Pairwise fun a b => lessK b a = false) → RisK (dedupK l)
  | [], _ => .nil
  | [x], _ => by simp [dedupK, RisK]
  | x :: y :: l, h => by
    have hx := (List.pairwise_cons.1 h).1
    have ih := risK_dedup (List.pairwise_cons.1 h).2
    simp only [dedupK]
    split
    · exact ih
    · rename_i e
      refine List.pairwise_cons.2 ⟨fun z hz => ?_, ih⟩
      rw [mem_dedupK] at hz
      rcases lessK_tri x z with e2 | e2 | e2
      · subst e2
        have h1 := hx y (by simp)
        rcases List.mem_cons.1 hz with e3 | hz
        · exact absurd e3 e
        · have h2 := (List.pairwise_cons.1 (List.pairwise_cons.1 h).2).1 x hz
          rcases lessK_tri x y with e4 | e4 | e4
          · exact absurd e4 e
          · rw [h2] at e4; cases e4
          · rw [h1] at e4; cases e4
      · exact e2
      · rw [hx z hz] at e2; cases e2
theorem dedup_setOf {l s : List K3T} (hp : s.Perm l) (hs : s.Pairwise fun a b => lessK b a = false) : dedupK s = setOf l :=
  risK_ext (risK_dedup hs) (risK_setOf l) fun x => by rw [mem_dedupK, mem_setOf]; exact hp.mem_iff
theorem lessK_trans' {a b c : K3T} (h : lessK b a = false) (k : lessK c b = false) : lessK c a = false := by
  rw [Bool.eq_false_iff] at *
  intro e
  rcases lessK_tri b c with e2 | e2 | e2
  · subst e2; exact h e
  · exact h (lessK_trans e2 e)
  · exact k e2
theorem sorted_mergeK (l : List K3T) : (l.mergeSort fun x y => !(lessK y x)).Pairwise fun a b => lessK b a = false := by
  have := List.pairwise_mergeSort (le := fun x y : K3T => !(lessK y x)) (fun a b c h1 h2 => by
    simp only [Bool.not_eq_true'] at *
    exact lessK_trans' h1 h2) (fun a b => by
    simp only [Bool.or_eq_true, Bool.not_eq_true']
    rcases lessK_tri a b with e | e | e
    · subst e; exact .inl (lessK_irr _)
    · exact .inl (lessK_asym e)
    · exact .inr (lessK_asym e)) l
  exact this.imp fun {a b} h => by simpa using h
theorem dedup_merge (l : List K3T) : dedupK (l.mergeSort fun x y => !(lessK y x)) = setOf l := dedup_setOf (List.mergeSort_perm _ _) (sorted_mergeK l)
/-! The order of keys, as one number. -/
def cmpI (a b : Int) : Int := if a < b then -1 else if b < a then 1 else 0
def cmpK (a b : K3T) : Int := if cmpI a.1 b.1 ≠ 0 then cmpI a.1 b.1 else if cmpI a.2.1 b.2.1 ≠ 0 then cmpI a.2.1 b.2.1 else cmpI a.2.2 b.2.2
theorem cmpI_lt (a b : Int) : cmpI a b < 0 ↔ a < b := by
  unfold cmpI
  split
  · omega
  · split <;> omega
theorem cmpI_z (a b : Int) : cmpI a b = 0 ↔ a = b := by
  unfold cmpI
  split
  · omega
  · split <;> omega
theorem cmpK_lt (a b : K3T) : decide (cmpK a b < 0) = lessK a b := by
  rw [Bool.eq_iff_iff, decide_eq_true_iff, lessK_iff]
  unfold cmpK
  have h1 := cmpI_lt a.1 b.1
  have h2 := cmpI_lt a.2.1 b.2.1
  have h3 := cmpI_lt a.2.2 b.2.2
  have z1 := cmpI_z a.1 b.1
  have z2 := cmpI_z a.2.1 b.2.1
  split
  · rename_i h; rw [h1]; have := fun e => h (z1.2 e); omega
  · rename_i h
    have e1 := z1.1 (Classical.not_not.1 h)
    split
    · rename_i h'; rw [h2]; have := fun e => h' (z2.2 e); omega
    · rename_i h'
      have e2 := z2.1 (Classical.not_not.1 h')
      rw [h3]; omega
end Go.Sf
set_option linter.unusedVariables false
set_option linter.unusedSimpArgs false
namespace Go.Sf
theorem pw_set {α : Type} {R : α → α → Prop} (hs : ∀ a b, R a b → R b a) {l : List α} {i : Nat} {x y : α} (hi : l[i]? = some y) (h : l.Pairwise R) (hx : ∀ q ∈ l, R y q → R x q) : (l.set i x).Pairwise R := by
  obtain ⟨hl, hy⟩ := List.getElem?_eq_some_iff.1 hi
  rw [List.set_eq_take_append_cons_drop, if_pos hl]
  have e : l = l.take i ++ y :: l.drop (i + 1) := by rw [← hy, ← List.drop_eq_getElem_cons hl, List.take_append_drop]
  have hm1 : ∀ q ∈ l.take i, q ∈ l := fun q hq => List.mem_of_mem_take hq
  have hm2 : ∀ q ∈ l.drop (i + 1), q ∈ l := fun q hq => List.mem_of_mem_drop hq
  rw [e] at h
  rw [List.pairwise_append, List.pairwise_cons] at h ⊢
  obtain ⟨h1, ⟨h2, h3⟩, h4⟩ := h
  refine ⟨h1, ⟨fun q hq => hx q (hm2 q hq) (h2 q hq), h3⟩, fun a ha b hb => ?_⟩
  rcases List.mem_cons.1 hb with rfl | hb
  · exact hs _ _ (hx a (hm1 a ha) (hs _ _ (h4 a ha y (by simp))))
  · exact h4 a ha b (by simp [hb])
theorem mem_set_of {α : Type} {l : List α} {i : Nat} {x q : α} (h : q ∈ l.set i x) : q = x ∨ q ∈ l := (List.mem_or_eq_of_mem_set h).symm
theorem dicE_length (E : CellsK (FieldsL × AV)) : (dicE E).length = E.length := by simp [dicE]
theorem dicE_pos (k : K3T) (E : CellsK (FieldsL × AV)) : posK k (dicE E) = posK k E := posK_map (fun (q : K3T × (FieldsL × AV)) => (q.1, q.2.1)) (fun _ => rfl) k E
theorem dicE_get (k : K3T) (E : CellsK (FieldsL × AV)) : getK k (dicE E) = (getK k E).map (·.1) := getK_map (fun (_ : K3T) (q : FieldsL × AV) => q.1) k E
theorem dicE_ins (k : K3T) (a : FieldsL) (u : AV) (E : CellsK (FieldsL × AV)) : dicE (insK k (a, u) E) = insK k a (dicE E) := by
  unfold insK
  rw [dicE_pos]
  simp [dicE, List.map_take, List.map_drop]
theorem dicE_set (k : K3T) (a : FieldsL) (u : AV) (i : Nat) (E : CellsK (FieldsL × AV)) : dicE (E.set i (k, (a, u))) = (dicE E).set i (k, a) := by
  simp [dicE, List.map_set]
theorem dicE_del (i : Nat) (E : CellsK (FieldsL × AV)) : dicE (E.eraseIdx i) = (dicE E).eraseIdx i := by
  simp [dicE, List.eraseIdx_eq_take_drop_succ, List.map_take, List.map_drop]
theorem dicE_sorted {E : CellsK (FieldsL × AV)} : SortedK (dicE E) ↔ SortedK E := by
  unfold SortedK dicE; rw [List.pairwise_map]
theorem encD_one {E : CellsK (FieldsL × AV)} (h : ∀ q ∈ E, q.2.2.one = true) : (E.flatMap encD).all AV.one = true := by
  simp only [List.all_eq_true, List.mem_flatMap]
  rintro x ⟨q, hq, hx⟩
  simp only [encD, List.mem_append, List.mem_singleton, k3, List.mem_cons, List.not_mem_nil, or_false] at hx
  rcases hx with (rfl | rfl | rfl) | rfl
  · rfl
  · rfl
  · rfl
  · exact h q hq
theorem OwnR.oneV {H : Heap} {sz n : Nat} {v : AV} {cs : List AV} (h : OwnR H sz n v cs) : v.one = true := by
  obtain ⟨_, ⟨rfl, _⟩ | ⟨b, c, rfl, _⟩⟩ := h <;> rfl
theorem DicR.ones {H : Heap} {p : Nat} {v : AV} {E : CellsK (FieldsL × AV)} (h : DicR H p v E) : (E.flatMap encD).all AV.one = true :=
  encD_one fun q hq => OwnR.oneV (h.2.2.2.1 q hq)
/-- A new cell, without fields. -/
theorem DicR.ins {H : Heap} {p : Nat} {v : AV} {E : CellsK (FieldsL × AV)} (h : DicR H p v E) {k : K3T} {H2 : Heap} {bv c : Nat} (hbv : H2 bv = some (.cells ((insK k ([], AV.nils) E).flatMap encD) (c * 4))) (hc : E.length + 1 ≤ c) (hbp : bv ≠ p)
    (hkeep : ∀ x, blkOf v ≠ some x → H x ≠ none → H2 x = H x) (hfresh : H bv = none ∨ blkOf v = some bv) (hln : (insK k ([], AV.nils) E).length = E.length + 1) :
    DicR (H2.set p (some (.cells [.sl bv 0 (E.length + 1) c] 1))) p (.sl bv 0 (E.length + 1) c) (insK k ([], .nils) E) ∧ UpdF (dicF p v E) (dicF p (.sl bv 0 (E.length + 1) c) (insK k ([], .nils) E)) H (H2.set p (some (.cells [.sl bv 0 (E.length + 1) c] 1))) := by
  obtain ⟨h1, h2, h3, h4, h5, h6⟩ := h
  have hrow : ∀ q ∈ E, ∀ b, blkOf q.2.2 = some b → H b ≠ none ∧ b ≠ p ∧ b ≠ bv ∧ (H2.set p (some (.cells [.sl bv 0 (E.length + 1) c] 1))) b = H b := fun q hq b hb => by
    obtain ⟨g1, g2⟩ := h5 q hq b hb
    have hl := (h4 q hq).live hb
    refine ⟨hl, g1, fun e => ?_, by rw [Heap.set_ne _ _ g1]; exact hkeep b g2 hl⟩
    rcases hfresh with e2 | e2
    · rw [e, e2] at hl; exact hl rfl
    · rw [e] at g2; exact g2 e2
  refine ⟨⟨Heap.set_self _ _ _, ⟨fm_length encD_length _, .inr ⟨bv, c, by rw [hln], by rw [Heap.set_ne _ _ hbp]; exact hbv, by rw [hln]; exact hc⟩⟩, fun e => hbp (by cases e; rfl), fun q hq => ?_, fun q hq b hb => ?_, ?_⟩, fun x hx hn => ?_, fun x hx => ?_⟩
  · rcases mem_insK.1 hq with rfl | hq
    · exact ⟨rfl, .inl ⟨rfl, rfl⟩⟩
    · exact (h4 q hq).agree fun b hb => (hrow q hq b hb).2.2.2
  · rcases mem_insK.1 hq with rfl | hq
    · cases hb
    · obtain ⟨g1, g2, g3, g4⟩ := hrow q hq b hb
      exact ⟨g2, fun e => g3 (by cases e; rfl)⟩
  · unfold insK
    have e := h6
    rw [← List.take_append_drop (posK k E) E, List.pairwise_append] at e
    rw [List.pairwise_append, List.pairwise_cons]
    refine ⟨e.1, ⟨fun q hq b hb => (by cases hb), e.2.1⟩, fun a ha b hb => ?_⟩
    rcases List.mem_cons.1 hb with rfl | hb
    · intro b _ e; cases e
    · exact e.2.2 a ha b hb
  · have e1 : x ≠ p := fun e => hx (.inl e)
    have e2 : blkOf v ≠ some x := fun e => hx (.inr (.inl e))
    rw [Heap.set_ne _ _ e1]; exact hkeep x e2 hn
  · rcases hx with rfl | hx | ⟨q, hq, hx⟩
    · exact .inl (.inl rfl)
    · cases hx
      exact hfresh.symm.imp (fun e => .inr (.inl e)) id
    · rcases mem_insK.1 hq with rfl | hq
      · cases hx
      · exact .inl (.inr (.inr ⟨q, hq, hx⟩))
/-- One cell's row is another one. -/
theorem DicR.row {H : Heap} {p bv c : Nat} {E : CellsK (FieldsL × AV)} (h : DicR H p (.sl bv 0 E.length c) E) {i : Nat} {k : K3T} {fs : FieldsL} {u : AV} (hi : E[i]? = some (k, (fs, u))) {H' : Heap} {fs' : FieldsL} {u' : AV} (hu : OwnR H' 2 fs'.length u' (fieldsA fs'))
    (hbv : H' bv = some (.cells ((E.set i (k, (fs', u'))).flatMap encD) (c * 4))) (hkeep : ∀ x, x ≠ bv → blkOf u ≠ some x → H x ≠ none → H' x = H x) (hfresh : ∀ b, blkOf u' = some b → H b = none ∨ blkOf u = some b) :
    DicR H' p (.sl bv 0 E.length c) (E.set i (k, (fs', u'))) ∧ UpdF (dicF p (.sl bv 0 E.length c) E) (dicF p (.sl bv 0 E.length c) (E.set i (k, (fs', u')))) H H' := by
  obtain ⟨h1, h2, h3, h4, h5, h6⟩ := h
  have hmem : (k, (fs, u)) ∈ E := List.mem_of_getElem? hi
  have hpb : p ≠ bv := fun e => h3 (by rw [e]; rfl)
  have hbvl : H bv ≠ none := h2.live rfl
  have hpl : H p ≠ none := by rw [h1]; simp
  have hpu : blkOf u ≠ some p := fun e => (h5 _ hmem p e).1 rfl
  have hold : ∀ q, q ∈ E.set i (k, (fs', u')) → q = (k, (fs', u')) ∨ q ∈ E := fun q hq => mem_set_of hq
  have hsz : c * 4 = c * 4 := rfl
  obtain ⟨_, ⟨e0, _⟩ | ⟨b0, c0, e0, e1, e2⟩⟩ := h2
  · cases e0
  cases e0
  refine ⟨⟨by rw [hkeep p hpb hpu hpl]; exact h1, ⟨fm_length encD_length _, .inr ⟨bv, c, by rw [List.length_set], hbv, by rw [List.length_set]; exact e2⟩⟩, h3, ?_, ?_, ?_⟩, fun x hx hn => ?_, fun x hx => ?_⟩
  · -- each row
    have key : ∀ (j : Nat) (q : K3T × (FieldsL × AV)), (E.set i (k, (fs', u')))[j]? = some q → OwnR H' 2 q.2.1.length q.2.2 (fieldsA q.2.1) := by
      intro j q hj
      rw [List.getElem?_set] at hj
      split at hj
      · split at hj
        · cases hj; exact hu
        · cases hj
      · rename_i hij
        have hq : q ∈ E := List.mem_of_getElem? hj
        refine (h4 q hq).agree fun b hb => hkeep b (fun e => (h5 q hq b hb).2 (by rw [e]; rfl)) (fun e => ?_) ((h4 q hq).live hb)
        have hp := List.pairwise_iff_getElem.1 h6
        obtain ⟨i1, i2⟩ := List.getElem?_eq_some_iff.1 hi
        obtain ⟨j1, j2⟩ := List.getElem?_eq_some_iff.1 hj
        rcases Nat.lt_or_gt_of_ne hij with hlt | hlt
        · exact hp i j i1 j1 hlt b (by rw [i2]; exact e) (by rw [j2]; exact hb)
        · exact hp j i j1 i1 hlt b (by rw [j2]; exact hb) (by rw [i2]; exact e)
    intro q hq
    obtain ⟨j, hj⟩ := List.getElem?_of_mem hq
    exact key j q hj
  · intro q hq b hb
    rcases hold q hq with rfl | hq
    · rcases hfresh b hb with e | e
      · exact ⟨fun e3 => hpl (by rw [← e3]; exact e), fun e3 => by cases e3; exact hbvl e⟩
      · exact h5 _ hmem b e
    · exact h5 q hq b hb
  · refine pw_set (fun a b hab x hx hy => hab x hy hx) hi h6 fun q hq hyq b hb hqb => ?_
    rcases hfresh b hb with e | e
    · exact (h4 q hq).live hqb e
    · exact hyq b e hqb
  · exact hkeep x (fun e => hx (.inr (.inl (by rw [e]; rfl)))) (fun e => hx (.inr (.inr ⟨_, hmem, e⟩))) hn
  · rcases hx with rfl | hx | ⟨q, hq, hx⟩
    · exact .inl (.inl rfl)
    · exact .inl (.inr (.inl hx))
    · rcases hold q hq with rfl | hq
      · rcases hfresh x hx with e | e
        · exact .inr e
        · exact .inl (.inr (.inr ⟨_, hmem, e⟩))
      · exact .inl (.inr (.inr ⟨q, hq, hx⟩))
/-- A cell goes. -/
theorem DicR.del {H : Heap} {p : Nat} {v : AV} {E : CellsK (FieldsL × AV)} (h : DicR H p v E) {i : Nat} (hi : i < E.length) {H2 : Heap} {v' : AV} (ho : OwnR H2 4 (E.length - 1) v' ((E.eraseIdx i).flatMap encD)) (hkeep : ∀ x, blkOf v ≠ some x → H x ≠ none → H2 x = H x) (hb : blkOf v' = blkOf v) :
    DicR (H2.set p (some (.cells [v'] 1))) p v' (E.eraseIdx i) ∧ UpdF (dicF p v E) (dicF p v' (E.eraseIdx i)) H (H2.set p (some (.cells [v'] 1))) := by
  obtain ⟨h1, h2, h3, h4, h5, h6⟩ := h
  have hln : (E.eraseIdx i).length = E.length - 1 := by rw [List.length_eraseIdx, if_pos hi]
  rw [← hln] at ho
  refine ⟨⟨Heap.set_self _ _ _, ho.agree fun b hb2 => Heap.set_ne _ _ (fun e => h3 (by rw [← hb, hb2, e])), by rw [hb]; exact h3, fun q hq => ?_, fun q hq b hqb => ?_, h6.sublist (List.eraseIdx_sublist _ _)⟩, fun x hx hn => ?_, fun x hx => ?_⟩
  · have hq' := List.mem_of_mem_eraseIdx hq
    refine (h4 q hq').agree fun b hqb => ?_
    obtain ⟨g1, g2⟩ := h5 q hq' b hqb
    rw [Heap.set_ne _ _ g1]; exact hkeep b g2 ((h4 q hq').live hqb)
  · rw [hb]; exact h5 q (List.mem_of_mem_eraseIdx hq) b hqb
  · rw [Heap.set_ne _ _ (fun e => hx (.inl e))]; exact hkeep x (fun e => hx (.inr (.inl e))) hn
  · rcases hx with rfl | hx | ⟨q, hq, hx⟩
    · exact .inl (.inl rfl)
    · exact .inl (.inr (.inl (by rw [← hb]; exact hx)))
    · exact .inl (.inr (.inr ⟨q, List.mem_of_mem_eraseIdx hq, hx⟩))
end Go.Sf
