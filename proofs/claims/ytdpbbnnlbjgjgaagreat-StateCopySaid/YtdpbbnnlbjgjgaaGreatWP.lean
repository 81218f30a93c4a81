/- Changes done to a state: when no list gets too long. Plain facts; no function of the program is named here. -/
import Derived.Test.YtdpbbnnlbjgjgaaGreatGQ
set_option linter.unusedVariables false
set_option linter.unusedSimpArgs false
namespace Go.Sf
def lenM (m : MutT) (S : StT) : Nat := if m.k = 3 then (listK m.key S.L).length + 1 else if m.k = 4 then 0 else (listK m.key S.L).length
/-- No list gets too long. -/
def okRun : StT → List MutT → Bool
  | _, [] => true
  | S, m :: ms => decide (lenM m S ≤ 100) && okRun (oneS m S) ms
theorem oneS_L (m : MutT) (S : StT) : (oneS m S).L = if m.k = 3 then (pushL m.key [m.v] S.L).1 else if m.k = 4 then (clearL m.key S.L).1 else S.L := by
  unfold oneS
  by_cases h1 : m.k = 1
  · simp [h1]
  by_cases h2 : m.k = 2
  · simp [h2]
  by_cases h3 : m.k = 3
  · simp [h3]
  by_cases h4 : m.k = 4
  · simp [h4]
  by_cases h5 : m.k = 5
  · simp [h5]
  by_cases h6 : m.k = 6
  · simp [h6]
  simp [h1, h2, h3, h4, h5, h6]
theorem lenL_one {m : MutT} {S : StT} (h : OkS S) (hl : lenM m S ≤ 100) (k : K3T) : (listK k (oneS m S).L).length = if k = m.key then lenM m S else (listK k S.L).length := by
  rw [oneS_L]
  unfold lenM at *
  by_cases h3 : m.k = 3
  · simp only [h3, if_true] at hl ⊢
    rw [getK_push h.l]
    by_cases e : k = m.key
    · rw [if_pos ⟨e, by simpa using hl⟩, if_pos e]; simp
    · rw [if_neg (fun h => e h.1), if_neg e]
  · by_cases h4 : m.k = 4
    · simp only [h4, if_true, show ¬ (4 : Int) = 3 by decide, if_false] at hl ⊢
      rw [listK_clear h.l]
      by_cases e : k = m.key
      · rw [if_pos e, if_pos e]; rfl
      · rw [if_neg e, if_neg e]
    · simp only [h3, h4, if_false] at hl ⊢
      by_cases e : k = m.key
      · rw [if_pos e, e]
      · rw [if_neg e]
theorem fullS_run (L : CellsK (List Int)) : ∀ (ms : List MutT) (W : List (K3T × Int)) (S : StT), OkS S → (∀ k, (getK k W).getD (listK k L).length = (listK k S.L).length) → fullS L W ms = !okRun S ms
  | [], W, S, _, _ => rfl
  | m :: ms, W, S, h, hW => by
    have hN : fullN L W m = (lenM m S : Nat) := by
      unfold fullN lenM
      rw [hW]
      by_cases h3 : m.k = 3
      · simp [h3]
      · by_cases h4 : m.k = 4
        · simp [h4]
        · simp [h3, h4]
    simp only [fullS, okRun, hN]
    by_cases hl : lenM m S ≤ 100
    · rw [if_neg (by omega), decide_eq_true hl, Bool.true_and]
      refine fullS_run L ms _ _ (okS_one h) fun k => ?_
      rw [getK_mput, lenL_one h hl]
      split
      · rfl
      · exact hW k
    · rw [if_pos (by omega), decide_eq_false hl]; rfl
theorem fullS_nil {S : StT} (h : OkS S) (ms : List MutT) : fullS S.L [] ms = !okRun S ms := fullS_run S.L ms [] S h fun k => rfl
theorem doS_run {S : StT} (h : OkS S) {ms : List MutT} (hm : ∀ m ∈ ms, mayM m = true) : doS ms S = if okRun S ms = true then (doneS ms S, 0) else (S, 4) := by
  unfold doS
  rw [if_neg (by simpa using hm), fullS_nil h]
  cases okRun S ms <;> rfl
theorem okRun_append : ∀ (a b : List MutT) (S : StT), okRun S (a ++ b) = (okRun S a && okRun (doneS a S) b)
  | [], b, S => by simp [okRun, doneS]
  | m :: a, b, S => by
    simp only [List.cons_append, okRun]
    rw [okRun_append a b, Bool.and_assoc]; rfl
theorem okRun_few : ∀ (ms : List MutT) (S : StT) (c : Nat), OkS S → (∀ k, (listK k S.L).length ≤ c) → c + ms.length ≤ 100 → okRun S ms = true
  | [], _, _, _, _, _ => rfl
  | m :: ms, S, c, h, hc, hl => by
    simp only [List.length_cons] at hl
    have h1 : lenM m S ≤ c + 1 := by
      unfold lenM
      have := hc m.key
      split
      · omega
      · split <;> omega
    simp only [okRun]
    rw [decide_eq_true (by omega), Bool.true_and]
    refine okRun_few ms _ (c + 1) (okS_one h) (fun k => ?_) (by omega)
    rw [lenL_one h (by omega)]
    split
    · exact h1
    · have := hc k; omega
/-- Changes of what is not there. -/
theorem doS_none {S : StT} (h : OkS S) : ∀ {ms : List MutT}, (∀ m ∈ ms, mayM m = true) → (∀ m ∈ ms, m.k ≠ 3 ∧ oneS m S = S) → doS ms S = (S, 0) := by
  intro ms hm hn
  have key : ∀ ms : List MutT, (∀ m ∈ ms, m.k ≠ 3 ∧ oneS m S = S) → okRun S ms = true ∧ doneS ms S = S := by
    intro ms
    induction ms with
    | nil => intro _; exact ⟨rfl, rfl⟩
    | cons m ms ih =>
      intro hn
      obtain ⟨h3, h1⟩ := hn m (by simp)
      obtain ⟨i1, i2⟩ := ih fun x hx => hn x (by simp [hx])
      have hl : lenM m S ≤ 100 := by
        unfold lenM
        rw [if_neg h3]
        split
        · omega
        · exact listK_le h.l
      refine ⟨?_, ?_⟩
      · simp only [okRun]; rw [decide_eq_true hl, h1, i1]; rfl
      · show doneS ms (oneS m S) = S
        rw [h1, i2]
  obtain ⟨k1, k2⟩ := key ms hn
  rw [doS_run h hm, if_pos k1, k2]
theorem cutK_none {β : Type} {k : K3T} {A : CellsK β} (h : getK k A = none) : cutK k A = A := by
  unfold cutK
  rw [h]; rfl
theorem nop_del {S : StT} {k : K3T} (hg : getK k S.V = none) : oneS ⟨2, k.1, k.2.1, k.2.2, 0, 0⟩ S = S := by
  unfold oneS
  have : cutK (MutT.key ⟨2, k.1, k.2.1, k.2.2, 0, 0⟩) S.V = S.V := cutK_none hg
  simp [this]
theorem nop_clear {S : StT} (h : OkS S) {k : K3T} (hg : listK k S.L = []) : oneS ⟨4, k.1, k.2.1, k.2.2, 0, 0⟩ S = S := by
  unfold oneS
  have : (clearL (MutT.key ⟨4, k.1, k.2.1, k.2.2, 0, 0⟩) S.L).1 = S.L := cutK_none ((listK_none h.l).1 hg)
  simp [this]
theorem nop_cut {S : StT} {k : K3T} {f : Int} (hg : getF f (dictK k S.D) = none) : oneS ⟨6, k.1, k.2.1, k.2.2, f, 0⟩ S = S := by
  unfold oneS
  have : (cutD (MutT.key ⟨6, k.1, k.2.1, k.2.2, f, 0⟩) f S.D).1 = S.D := by
    unfold cutD
    rw [if_neg]
    show ¬ (getF f (dictK k S.D)).isSome = true
    rw [hg]; simp
  simp [this]
theorem may_del {k : K3T} (h : isK k.1 k.2.1 k.2.2 = true) : mayM ⟨2, k.1, k.2.1, k.2.2, 0, 0⟩ = true := by unfold mayM fieldsK valuesK; simp [h]
theorem may_clear {k : K3T} (h : isK k.1 k.2.1 k.2.2 = true) : mayM ⟨4, k.1, k.2.1, k.2.2, 0, 0⟩ = true := by unfold mayM fieldsK valuesK; simp [h]
theorem may_cut {k : K3T} (h : isK k.1 k.2.1 k.2.2 = true) {f : Int} (h0 : 0 ≤ f) (h1 : f < 8) : mayM ⟨6, k.1, k.2.1, k.2.2, f, 0⟩ = true := by unfold mayM fieldsK valuesK; simp [h, h0, h1]
/-- In parts, or at once. -/
theorem doneS_append (a b : List MutT) (S : StT) : doneS (a ++ b) S = doneS b (doneS a S) := by unfold doneS; rw [List.foldl_append]
end Go.Sf
