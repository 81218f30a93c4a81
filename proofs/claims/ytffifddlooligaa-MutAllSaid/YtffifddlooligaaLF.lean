/- Frames: what is told of a frame, its text not told to be nil; a frame of which one byte is another one. -/
import Derived.Test.YtffifddlooligaaL3
set_option linter.unusedVariables false
set_option linter.unusedSimpArgs false
set_option maxRecDepth 100000
namespace Go.Sf
theorem getN_big : ∀ (f i a : Nat) (l : List UInt8), 1 ≤ i → (getN f i a l).2.2 = 0 → a + 128 ^ i ≤ (getN f i a l).1
  | 0, i, a, l, _, h => by simp [getN] at h
  | f + 1, i, a, [], _, h => by simp [getN] at h
  | f + 1, i, a, x :: l, hi, h => by
    unfold getN at h ⊢
    split at h
    · simp at h
    · rename_i h9
      rw [if_neg h9]
      split at h
      · rename_i hx
        rw [if_pos hx]
        have := getN_big f (i + 1) _ l (by omega) h
        have e : 128 ^ (i + 1) = 128 * 128 ^ i := by rw [Nat.pow_succ, Nat.mul_comm]
        omega
      · rename_i hx
        rw [if_neg hx]
        split at h
        · simp at h
        · rename_i h0
          rw [if_neg h0]
          have : 1 ≤ x.toNat % 128 := by omega
          have : 1 * 128 ^ i ≤ x.toNat % 128 * 128 ^ i := Nat.mul_le_mul_right _ this
          show a + 128 ^ i ≤ a + x.toNat % 128 * 128 ^ i
          omega
theorem frame_short {t : List UInt8} (ht : t.length ≤ 100) : frameL t = UInt8.ofNat t.length :: (le4 (sumL t) ++ t) := by
  unfold frameL; rw [enc_lt (by omega)]; rfl
theorem num_head {y : UInt8} {l : List UInt8} {n : Nat} (hn : n ≤ 100) (h : (num (y :: l)).2.2 = 0) (h1 : (num (y :: l)).1 = n) : y = UInt8.ofNat n := by
  unfold num at h h1
  unfold getN at h h1
  rw [if_neg (by omega)] at h h1
  split at h
  · rename_i hx
    rw [if_pos hx] at h1
    have := getN_big 9 1 _ l (by omega) h
    simp only [Nat.zero_add] at this h1
    omega
  · rename_i hx
    rw [if_neg hx, if_neg (by omega)] at h1
    have e : y.toNat = n := by have : 0 + y.toNat % 128 * 128 ^ 0 = n := h1; omega
    rw [← e]; simp
theorem frame_turned0 {t : List UInt8} (ht : t.length ≤ 100) {y : UInt8} (hy : y ≠ UInt8.ofNat t.length) : (getFrame (y :: (le4 (sumL t) ++ t))).2.2 ≠ 0 ∨ (getFrame (y :: (le4 (sumL t) ++ t))).1 ≠ t := by
  generalize hw : le4 (sumL t) ++ t = w
  by_cases h : (num (y :: w)).2.2 = 0
  · unfold getFrame
    rw [if_neg (by simp [h])]
    split
    · exact .inl (by simp)
    · split
      · exact .inl (by simp)
      · split
        · rename_i h1 h2 h3
          refine .inr fun e => hy (num_head ht h ?_)
          have := congrArg List.length e
          simp only [List.length_take, List.length_drop] at this
          omega
        · exact .inl (by simp)
  · refine .inl ?_
    unfold getFrame
    rw [if_pos (by simpa using h)]
    simpa using h
theorem frame_turned1 {t : List UInt8} (ht : t.length ≤ 100) {j : Nat} (hj : j < 4 + t.length) {y : UInt8} (hy : (le4 (sumL t) ++ t)[j]? ≠ some y) : getFrame (UInt8.ofNat t.length :: (le4 (sumL t) ++ t).set j y) = ([], 0, 7) := by
  have hn := num_enc (n := t.length) (by omega) ((le4 (sumL t) ++ t).set j y)
  rw [enc_lt (by omega)] at hn
  have hl : ((le4 (sumL t) ++ t).set j y).length = 4 + t.length := by rw [List.length_set, List.length_append, le4_length]
  have h1 : (UInt8.ofNat t.length :: (le4 (sumL t) ++ t).set j y) = [UInt8.ofNat t.length] ++ (le4 (sumL t) ++ t).set j y := rfl
  unfold getFrame
  rw [h1, hn]
  simp only [List.length_cons, List.length_nil, Nat.zero_add, ne_eq, not_true_eq_false, if_false]
  rw [if_neg (by omega), if_neg (by simp only [List.length_append, List.length_cons, List.length_nil, hl]; omega), if_neg]
  intro e
  rw [show ([UInt8.ofNat t.length] ++ (le4 (sumL t) ++ t).set j y).drop 1 = (le4 (sumL t) ++ t).set j y from rfl,
    show ([UInt8.ofNat t.length] ++ (le4 (sumL t) ++ t).set j y).drop (1 + 4) = ((le4 (sumL t) ++ t).set j y).drop 4 from rfl] at e
  by_cases h4 : j < 4
  · rw [List.set_append_left _ _ (by rw [le4_length]; exact h4)] at e
    rw [List.drop_left' (by rw [List.length_set, le4_length]), List.take_length, List.take_left' (by rw [List.length_set, le4_length])] at e
    apply hy
    rw [List.getElem?_append_left (by rw [le4_length]; exact h4), e, List.getElem?_set_self (by rw [le4_length]; exact h4)]
  · rw [List.set_append_right _ _ (by rw [le4_length]; omega), List.drop_left' (le4_length _), List.take_left' (le4_length _), le4_length, List.take_of_length_le (by simp)] at e
    have hs := le4_inj (sumL_lt _) (sumL_lt _) e
    have hjt : j - 4 < t.length := by omega
    refine sum_turned (l := t) (i := j - 4) (x := t[j - 4]) (y := y) (by simp [hjt]) (fun h => hy ?_) hs.symm
    rw [List.getElem?_append_right (by rw [le4_length]; omega), le4_length, List.getElem?_eq_getElem hjt, h]
end Go.Sf
namespace Go.Proofs.Ytffifddlooligaa
open Go.Sf
theorem immF {P : Program} {f : Nat} {args : List AV} {r : List UInt8 × Nat × Nat} (h : CP P f args (RFrame r)) : CP P f args (fun u => u = .tup [immB r.1 none, .int .i64 r.2.1, .int .i64 r.2.2]) :=
  fun M w vs h1 h2 => (h M w vs h1 h2).mono fun e w' ⟨v, x, M', H', e1, e2, e3, e4, ⟨u, hu, hb⟩⟩ => by
    refine ⟨_, x, M', H', e1, ?_, e3, e4, rfl⟩
    subst hu
    simp only [VRel, VRels] at e2 ⊢
    obtain ⟨xs, hx, y, ys, hy, hv, ht⟩ := e2
    exact ⟨xs, hx, y, ys, hy, isB_imm hb hv, ht⟩
end Go.Proofs.Ytffifddlooligaa
