/- Plain facts: what is torn; all frames. No program is named here. -/
import Derived.Test.YtffifddlooligaaN2
set_option linter.unusedVariables false
set_option linter.unusedSimpArgs false
namespace Go.Sf
theorem getN_torn : ∀ (n f i a k : Nat), f + i = 10 → n * 128 ^ i < 2 ^ 64 → (0 < i → 0 < n) → k < (enc n).length → getN f i a ((enc n).take k) = (0, 0, 8) := by
  intro n
  induction n using Nat.strongRecOn with
  | _ n ih =>
    intro f i a k hf hn hpos hk
    have hi : i < 10 := by
      rcases Nat.eq_zero_or_pos i with h | h
      · omega
      · exact i_lt_ten hn (hpos h)
    obtain ⟨g, rfl⟩ : ∃ g, f = g + 1 := ⟨f - 1, by omega⟩
    have h9 : i = 9 → n ≤ 1 := fun h => by subst h; exact i_nine hn
    rcases k with _ | k
    · simp [getN]
    · rcases Nat.lt_or_ge n 128 with hlt | hge
      · rw [enc_lt hlt] at hk; simp at hk
      · rw [enc_ge hge] at hk ⊢
        simp only [List.length_cons] at hk
        simp only [List.take_succ_cons, getN, u8_small (show n % 128 + 128 < 256 by omega)]
        rw [if_neg (by omega), if_pos (by omega)]
        have e1 : n / 128 * 128 ^ (i + 1) ≤ n * 128 ^ i := by
          rw [Nat.pow_succ, Nat.mul_comm (128 ^ i) 128, ← Nat.mul_assoc]
          exact Nat.mul_le_mul_right _ (by omega)
        exact ih (n / 128) (by omega) g (i + 1) _ k (by omega) (by omega) (fun _ => by omega) (by omega)
theorem num_torn {n : Nat} (hn : n < 2 ^ 64) {k : Nat} (hk : k < (enc n).length) : num ((enc n).take k) = (0, 0, 8) := getN_torn n 10 0 0 k rfl (by omega) (by omega) hk
theorem getText_enc {most : Int} {s : List UInt8} (hs : s.length < 2 ^ 64) : getText most (enc s.length ++ s) = if most < s.length then ([], 0, 10) else (s, (enc s.length ++ s).length, 0) := by
  unfold getText
  rw [num_enc hs]
  simp only [ne_eq, not_true_eq_false, if_false]
  by_cases h : most < s.length
  · rw [if_pos (.inr h), if_pos h]
  · rw [if_neg (by omega), if_neg h, if_neg (by simp), List.drop_left, List.take_length, List.length_append]
theorem take_front {a b : List UInt8} {c : Nat} (h : c < a.length) : (a ++ b).take c = a.take c := by
  rw [List.take_append_of_le_length (by omega)]
theorem take_back {a b : List UInt8} {c : Nat} (h : ¬ c < a.length) : (a ++ b).take c = a ++ b.take (c - a.length) := by
  rw [List.take_append, List.take_of_length_le (by omega)]
theorem getText_torn {most : Int} {s : List UInt8} (hs : s.length < 2 ^ 64) (hm : ¬ most < s.length) {c : Nat} (hc : c < (enc s.length ++ s).length) : getText most ((enc s.length ++ s).take c) = ([], 0, 8) := by
  by_cases h : c < (enc s.length).length
  · rw [take_front h]
    unfold getText
    rw [num_torn hs h]
    rw [if_pos (by simp)]
  · rw [take_back h]
    unfold getText
    rw [num_enc hs]
    simp only [ne_eq, not_true_eq_false, if_false]
    simp only [List.length_append] at hc
    rw [if_neg (by omega), if_pos (by simp only [List.length_append, List.length_take]; omega)]
theorem getFrame_torn {t : List UInt8} (ht : t.length ≤ 4096) {c : Nat} (hc : c < (frameL t).length) : getFrame ((frameL t).take c) = ([], 0, 8) := by
  unfold frameL at hc ⊢
  by_cases h : c < (enc t.length).length
  · rw [take_front h]
    unfold getFrame
    rw [num_torn (by omega) h]
    rw [if_pos (by simp)]
  · rw [take_back h]
    unfold getFrame
    rw [num_enc (by omega)]
    simp only [ne_eq, not_true_eq_false, if_false]
    simp only [List.length_append, le4_length] at hc
    rw [if_neg (by omega), if_pos (by simp only [List.length_append, List.length_take, le4_length]; omega)]
theorem getFrame_ok {l : List UInt8} (h : (getFrame l).2.2 = 0) : 0 < (getFrame l).2.1 ∧ (getFrame l).2.1 ≤ l.length ∧ (getFrame l).1.length ≤ l.length := by
  unfold getFrame at h ⊢
  split at h
  · rename_i h1; exact absurd h (by simpa using h1)
  · rename_i h1
    rw [if_neg h1]
    have := num_ok (l := l) (by simpa using h1)
    split at h
    · simp at h
    · rename_i h2
      rw [if_neg h2]
      split at h
      · simp at h
      · rename_i h3
        rw [if_neg h3]
        split at h
        · rename_i h4
          rw [if_pos h4]
          refine ⟨?_, ?_, ?_⟩
          · show 0 < (num l).2.1 + 4 + (num l).1; omega
          · show (num l).2.1 + 4 + (num l).1 ≤ l.length; omega
          · simp only [List.length_take, List.length_drop]; omega
        · simp at h
/-- All frames. -/
def allF : Nat → List UInt8 → List (List UInt8) × Nat × Nat
  | 0, _ => ([], 0, 0)
  | f + 1, l => if l = [] then ([], 0, 0) else if (getFrame l).2.2 ≠ 0 then ([], 0, (getFrame l).2.2)
    else ((getFrame l).1 :: (allF f (l.drop (getFrame l).2.1)).1, (getFrame l).2.1 + (allF f (l.drop (getFrame l).2.1)).2.1, (allF f (l.drop (getFrame l).2.1)).2.2)
def allFr (l : List UInt8) : List (List UInt8) × Nat × Nat := allF l.length l
theorem allF_nil (f : Nat) : allF f [] = ([], 0, 0) := by cases f <;> simp [allF]
theorem allFr_torn {t : List UInt8} (ht : t.length ≤ 4096) {c : Nat} (hc : c < (frameL t).length) : allFr (frameL t ++ (frameL t).take c) = ([t], (frameL t).length, if c = 0 then 0 else 8) := by
  have hg := getFrame_frameL ht ((frameL t).take c)
  have hne : frameL t ++ (frameL t).take c ≠ [] := by
    intro e
    have := congrArg List.length e
    rw [List.length_append, List.length_nil] at this
    omega
  unfold allFr
  obtain ⟨f, hf⟩ : ∃ f, (frameL t ++ (frameL t).take c).length = f + 1 := ⟨_, (Nat.succ_pred_eq_of_pos (List.length_pos_iff.2 hne)).symm⟩
  have hl : (frameL t ++ (frameL t).take c).length = (frameL t).length + c := by simp; omega
  rw [hf]
  simp only [allF]
  rw [if_neg hne, hg]
  simp only [ne_eq, not_true_eq_false, if_false]
  rw [List.drop_left]
  by_cases h0 : c = 0
  · subst h0
    rw [List.take_zero, allF_nil]; simp
  · obtain ⟨g, rfl⟩ : ∃ g, f = g + 1 := ⟨f - 1, by omega⟩
    have hn : (frameL t).take c ≠ [] := by
      intro e
      have := congrArg List.length e
      rw [List.length_take, List.length_nil] at this
      omega
    simp only [allF]
    rw [if_neg hn, getFrame_torn ht hc]
    simp [h0]
end Go.Sf
