/- Numbers and sums: the plain laws. No program is named here. -/
import Derived.Test.YtdpbbnnlbjgjgaaGreatN1
set_option linter.unusedVariables false
set_option linter.unusedSimpArgs false
namespace Go.Sf

theorem u8_small {n : Nat} (h : n < 256) : (UInt8.ofNat n).toNat = n := by simp [UInt8.toNat_ofNat', h]
theorem i_lt_ten {i n : Nat} (h : n * 128 ^ i < 2 ^ 64) (hn : 0 < n) : i < 10 := by
  rcases Nat.lt_or_ge i 10 with h1 | h1
  · exact h1
  · have hp : (128 : Nat) ^ 10 ≤ 128 ^ i := Nat.pow_le_pow_right (by omega) h1
    have : 1 * 128 ^ i ≤ n * 128 ^ i := Nat.mul_le_mul_right _ hn
    have h3 : (128 : Nat) ^ 10 = 1180591620717411303424 := by decide
    omega
theorem i_nine {n : Nat} (h : n * 128 ^ 9 < 2 ^ 64) : n ≤ 1 := by
  have h3 : (128 : Nat) ^ 9 = 9223372036854775808 := by decide
  rw [h3] at h; omega
/-- What is written is read. -/
theorem getN_enc (m : List UInt8) : ∀ (n f i a : Nat), f + i = 10 → n * 128 ^ i < 2 ^ 64 → (0 < i → 0 < n) → getN f i a (enc n ++ m) = (a + n * 128 ^ i, i + (enc n).length, 0) := by
  intro n
  induction n using Nat.strongRecOn with
  | _ n ih =>
    intro f i a hf hn hpos
    have hi : i < 10 := by
      rcases Nat.eq_zero_or_pos i with h | h
      · omega
      · exact i_lt_ten hn (hpos h)
    obtain ⟨g, rfl⟩ : ∃ g, f = g + 1 := ⟨f - 1, by omega⟩
    have h9 : i = 9 → n ≤ 1 := fun h => by subst h; exact i_nine hn
    rcases Nat.lt_or_ge n 128 with hlt | hge
    · rw [enc_lt hlt]
      simp only [List.singleton_append, getN, u8_small (show n < 256 by omega), List.length_singleton]
      rw [if_neg (by omega), if_neg (by omega), if_neg (by omega), Nat.mod_eq_of_lt hlt]
    · rw [enc_ge hge]
      simp only [List.cons_append, getN, u8_small (show n % 128 + 128 < 256 by omega), List.length_cons]
      rw [if_neg (by omega), if_pos (by omega), show (n % 128 + 128) % 128 = n % 128 by omega]
      have e1 : n / 128 * 128 ^ (i + 1) + n % 128 * 128 ^ i = n * 128 ^ i := by
        rw [Nat.pow_succ, Nat.mul_comm (128 ^ i) 128, ← Nat.mul_assoc, ← Nat.add_mul]
        congr 1; omega
      rw [ih (n / 128) (by omega) g (i + 1) _ (by omega) (by omega) (fun _ => by omega)]
      simp only [Prod.mk.injEq, and_true]
      omega
theorem num_enc {n : Nat} (hn : n < 2 ^ 64) (m : List UInt8) : num (enc n ++ m) = (n, (enc n).length, 0) := by
  have := getN_enc m n 10 0 0 rfl (by omega) (by omega)
  unfold num
  rw [this]; simp
theorem le4_length (s : Nat) : (le4 s).length = 4 := rfl
/-- A frame that is written is read. -/
theorem getFrame_frameL {t : List UInt8} (ht : t.length ≤ 4096) (m : List UInt8) : getFrame (frameL t ++ m) = (t, (frameL t).length, 0) := by
  have hn := num_enc (n := t.length) (by omega) ((le4 (sumL t) ++ t) ++ m)
  unfold getFrame frameL
  rw [List.append_assoc, hn]
  simp only [ne_eq, not_true_eq_false, if_false]
  have hl : (enc t.length ++ (le4 (sumL t) ++ t ++ m)).length = (enc t.length).length + (4 + t.length + m.length) := by
    simp only [List.length_append, le4_length]
  rw [if_neg (by omega), if_neg (by rw [hl]; omega)]
  have e1 : (enc t.length ++ (le4 (sumL t) ++ t ++ m)).drop (enc t.length).length = le4 (sumL t) ++ t ++ m := List.drop_left
  have e2 : (enc t.length ++ (le4 (sumL t) ++ t ++ m)).drop ((enc t.length).length + 4) = t ++ m := by
    rw [← List.drop_drop, e1, List.append_assoc]
    exact List.drop_left' (le4_length _)
  rw [e1, e2, List.take_left, List.append_assoc, List.take_left' (le4_length _), if_pos rfl]
  simp only [List.length_append, le4_length, Nat.add_assoc]
end Go.Sf
