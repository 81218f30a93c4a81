/- Numbers and sums: the plain laws. No program is named here. -/
import Derived.Test.YtcpfodhhjkaibaaGreatN1
set_option linter.unusedVariables false
set_option linter.unusedSimpArgs false
namespace Go.Sf

theorem u8_small {n : Nat} (h : n < 256) : (UInt8.ofNat n).toNat = n := by simp [UInt8.toNat_ofNat', h]
theorem i_lt_ten {i n : Nat} (h : n * 128 ^ i < 2 ^ 64) (hn : 0 < n) : i < 10 := by
  rcases Nat.lt_or_ge i 10 with h1 | h1
  · exact h1
  · have hp : (128 : Nat) ^ 10 ≤ 128 ^ i := Nat.pow_le_pow_right (by omega) h1
    have : 1 * 128 ^ i ≤ n * 128 ^ i := Nat.mul_le_mul_right _ hn
    have h3 : (128 : Nat) ^ 10 = 1180591620717411303424 := by decide
    omega
theorem i_nine {n : Nat} (h : n * 128 ^ 9 < 2 ^ 64) : n ≤ 1 := by
  have h3 : (128 : Nat) ^ 9 = 9223372036854775808 := by decide
  rw [h3] at h; omega
/-- What is written is read. -/
theorem getN_enc (m : List UInt8) : ∀ (n f i a : Nat), f + i = 10 → n * 128 ^ i < 2 ^ 64 → (0 < i → 0 < n) → getN f i a (enc n ++ m) = (a + n * 128 ^ i, i + (enc n).length, 0) := by
  intro n
  induction n using Nat.strongRecOn with
  | _ n ih =>
    intro f i a hf hn hpos
    have hi : i < 10 := by
      rcases Nat.eq_zero_or_pos i with h | h
      · omega
      · exact i_lt_ten hn (hpos h)
    obtain ⟨g, rfl⟩ : ∃ g, f = g + 1 := ⟨f - 1, by omega⟩
    have h9 : i = 9 → n ≤ 1 := fun h => by subst h; exact i_nine hn
    rcases Nat.lt_or_ge n 128 with hlt | hge
    · rw [enc_lt hlt]
      simp only [List.singleton_append, getN, u8_small (show n < 256 by omega), List.length_singleton]
      rw [if_neg (by omega), if_neg (by omega), if_neg (by omega), Nat.mod_eq_of_lt hlt]
    · rw [enc_ge hge]
      simp only [List.cons_append, getN, u8_small (show n % 128 + 128 < 256 by omega), List.length_cons]
      rw [if_neg (by omega), if_pos (by omega), show (n % 128 + 128) % 128 = n % 128 by omega]
      have e1 : n / 128 * 128 ^ (i + 1) + n % 128 * 128 ^ i = n * 128 ^ i := by
        rw [Nat.pow_succ, Nat.mul_comm (128 ^ i) 128, ← Nat.mul_assoc, ← Nat.add_mul]
        congr 1; omega
      rw [ih (n / 128) (by omega) g (i + 1) _ (by omega) (by omega) (fun _ => by omega)]
      simp only [Prod.mk.injEq, and_true]
      omega
theorem num_enc {n : Nat} (hn : n < 2 ^ 64) (m : List UInt8) : num (enc n ++ m) = (n, (enc n).length, 0) := by
  have := getN_enc m n 10 0 0 rfl (by omega) (by omega)
  unfold num
  rw [this]; simp
/-- A number with a byte of no weight behind it. -/
def longN (n : Nat) : List UInt8 := if h : n < 128 then [UInt8.ofNat (n + 128), 0] else UInt8.ofNat (n % 128 + 128) :: longN (n / 128)
termination_by n
decreasing_by omega
theorem getN_long : ∀ (n f i a : Nat), f + i = 10 → n * 128 ^ i < 2 ^ 64 → (0 < i → 0 < n) → getN f i a (longN n) = (0, 0, 1) := by
  intro n
  induction n using Nat.strongRecOn with
  | _ n ih =>
    intro f i a hf hn hpos
    have hi : i < 10 := by
      rcases Nat.eq_zero_or_pos i with h | h
      · omega
      · exact i_lt_ten hn (hpos h)
    obtain ⟨g, rfl⟩ : ∃ g, f = g + 1 := ⟨f - 1, by omega⟩
    have h9 : i = 9 → n ≤ 1 := fun h => by subst h; exact i_nine hn
    rcases Nat.lt_or_ge n 128 with hlt | hge
    · rw [longN, dif_pos hlt]
      simp only [getN, u8_small (show n + 128 < 256 by omega)]
      by_cases hi9 : i = 9
      · rw [if_pos ⟨hi9, by omega⟩]
      · rw [if_neg (fun h => hi9 h.1), if_pos (by omega)]
        obtain ⟨g', rfl⟩ : ∃ g', g = g' + 1 := ⟨g - 1, by omega⟩
        simp only [getN]
        rw [if_neg (by rintro ⟨_, h⟩; exact absurd h (by decide)), if_neg (by decide), if_pos ⟨by omega, by decide⟩]
    · rw [longN, dif_neg (by omega)]
      simp only [getN, u8_small (show n % 128 + 128 < 256 by omega)]
      have e1 : n / 128 * 128 ^ (i + 1) + n % 128 * 128 ^ i = n * 128 ^ i := by
        rw [Nat.pow_succ, Nat.mul_comm (128 ^ i) 128, ← Nat.mul_assoc, ← Nat.add_mul]
        congr 1; omega
      rw [if_neg (by omega), if_pos (by omega)]
      exact ih (n / 128) (by omega) g (i + 1) _ (by omega) (by omega) (fun _ => by omega)
theorem num_long {n : Nat} (hn : n < 2 ^ 64) : num (longN n) = (0, 0, 1) := getN_long n 10 0 0 rfl (by omega) (by omega)
theorem longN_eq : ∀ (n : Nat), longN n = (enc n).set ((enc n).length - 1) (UInt8.ofNat (((enc n).getD ((enc n).length - 1) 0).toNat + 128)) ++ [0] := by
  intro n
  induction n using Nat.strongRecOn with
  | _ n ih =>
    rcases Nat.lt_or_ge n 128 with hlt | hge
    · rw [longN, dif_pos hlt, enc_lt hlt]
      simp [u8_small (show n < 256 by omega)]
    · rw [longN, dif_neg (by omega), enc_ge hge, ih (n / 128) (by omega)]
      have hne : (enc (n / 128)).length ≠ 0 := fun h => enc_ne _ (List.length_eq_zero_iff.1 h)
      obtain ⟨k, hk⟩ : ∃ k, (enc (n / 128)).length = k + 1 := ⟨(enc (n / 128)).length - 1, by omega⟩
      simp [hk]
theorem enc_last : ∀ (n : Nat), ((enc n).getD ((enc n).length - 1) 0).toNat < 128 := by
  intro n
  induction n using Nat.strongRecOn with
  | _ n ih =>
    rcases Nat.lt_or_ge n 128 with hlt | hge
    · rw [enc_lt hlt]; simpa [u8_small (show n < 256 by omega)] using hlt
    · rw [enc_ge hge]
      have hne : (enc (n / 128)).length ≠ 0 := fun h => enc_ne _ (List.length_eq_zero_iff.1 h)
      obtain ⟨k, hk⟩ : ∃ k, (enc (n / 128)).length = k + 1 := ⟨(enc (n / 128)).length - 1, by omega⟩
      have := ih (n / 128) (by omega)
      rw [hk] at this
      simpa [hk] using this
/-- Sums. -/
def sumB : List UInt8 → Nat
  | [] => 0
  | x :: l => x.toNat + sumB l
theorem foldA_fst : ∀ (l : List UInt8) (p : Nat × Nat), (l.foldl stepA p).1 % 65521 = (p.1 + sumB l) % 65521
  | [], p => by simp [sumB]
  | x :: l, p => by
    rw [List.foldl_cons, foldA_fst l (stepA p x)]
    simp only [stepA, sumB]
    omega
theorem sumP_fst (l : List UInt8) : (sumP l).1 = (1 + sumB l) % 65521 := by
  have h1 := foldA_fst l (1, 0)
  have h2 := (sumP_ok l).1
  unfold sumP at *
  rw [Nat.mod_eq_of_lt h2] at h1
  exact h1
theorem sumL_fst {l m : List UInt8} (h : sumL l = sumL m) : (sumP l).1 = (sumP m).1 := by
  have h1 := sumP_ok l
  have h2 := sumP_ok m
  unfold okA at h1 h2
  unfold sumL at h
  omega
theorem sumL_snd {l m : List UInt8} (h : sumL l = sumL m) : (sumP l).2 = (sumP m).2 := by
  have h1 := sumP_ok l
  have h2 := sumP_ok m
  unfold okA at h1 h2
  unfold sumL at h
  omega
theorem sumB_append (l m : List UInt8) : sumB (l ++ m) = sumB l + sumB m := by
  induction l with
  | nil => simp [sumB]
  | cons x l ih => simp only [List.cons_append, sumB, ih]; omega
theorem sumB_le : ∀ (l : List UInt8), sumB l ≤ 255 * l.length
  | [] => by simp [sumB]
  | x :: l => by
    have := sumB_le l
    have := x.toNat_lt
    simp only [sumB, List.length_cons]; omega
theorem sumB_set : ∀ (l : List UInt8) (i : Nat) (y : UInt8) (x : UInt8), l[i]? = some x → sumB (l.set i y) + x.toNat = sumB l + y.toNat
  | [], i, y, x, h => by simp at h
  | z :: l, 0, y, x, h => by
    simp at h; subst h
    simp only [List.set_cons_zero, sumB]; omega
  | z :: l, i + 1, y, x, h => by
    have := sumB_set l i y x (by simpa using h)
    simp only [List.set_cons_succ, sumB]; omega
theorem sum_turned {l : List UInt8} {i : Nat} {x y : UInt8} (h : l[i]? = some x) (hxy : x ≠ y) : sumL l ≠ sumL (l.set i y) := by
  intro he
  have h1 := sumL_fst he
  rw [sumP_fst, sumP_fst] at h1
  have h2 := sumB_set l i y x h
  have h3 := x.toNat_lt
  have h4 := y.toNat_lt
  have h5 : x.toNat ≠ y.toNat := fun h => hxy (UInt8.toNat_inj.1 h)
  omega
theorem sum_more {l : List UInt8} (hl : l.length ≤ 250) (x : UInt8) : sumL l ≠ sumL (l ++ [x]) := by
  intro he
  have h1 := sumL_fst he
  have h2 := sumL_snd he
  have hx := x.toNat_lt
  have hb := sumB_le l
  have e : sumP (l ++ [x]) = stepA (sumP l) x := by unfold sumP; rw [List.foldl_append]; rfl
  rw [e] at h1 h2
  have h3 := sumP_fst l
  have h4 := sumP_ok l
  unfold okA at h4
  simp only [stepA] at h1 h2
  omega
theorem foldA_snd_add : ∀ (l : List UInt8) (a b c : Nat), (l.foldl stepA (a, b)).2 % 65521 = (l.foldl stepA (a, c)).2 % 65521 → b % 65521 = c % 65521
  | [], a, b, c, h => h
  | x :: l, a, b, c, h => by
    simp only [List.foldl_cons, stepA] at h
    have := foldA_snd_add l _ _ _ h
    omega
theorem sum_swapped {p q : List UInt8} {x y : UInt8} : (sumL (p ++ x :: y :: q) = sumL (p ++ y :: x :: q)) ↔ x = y := by
  constructor
  · intro he
    have h2 := sumL_snd he
    have h4 := sumP_ok p
    unfold okA at h4
    have e : ∀ u v : UInt8, sumP (p ++ u :: v :: q) = q.foldl stepA (stepA (stepA (sumP p) u) v) := fun u v => by
      unfold sumP; rw [List.foldl_append]; rfl
    rw [e, e] at h2
    have hx := x.toNat_lt
    have hy := y.toNat_lt
    generalize sumP p = r at *
    obtain ⟨a, b⟩ := r
    simp only [stepA] at h2 h4
    have ha : ((a + x.toNat) % 65521 + y.toNat) % 65521 = ((a + y.toNat) % 65521 + x.toNat) % 65521 := by omega
    rw [ha] at h2
    have h3 := foldA_snd_add q _ _ _ (congrArg (fun n => n % 65521) h2)
    have s1 : ∀ u v w : Nat, u < 65521 → v < 65521 → (u + w) % 65521 = (v + w) % 65521 → u = v := fun u v w hu hv h => by omega
    have mA := Nat.mod_lt (a + x.toNat) (show 0 < 65521 by omega)
    have mB := Nat.mod_lt (a + y.toNat) (show 0 < 65521 by omega)
    have s2 := s1 _ _ _ (Nat.mod_lt _ (by omega)) (Nat.mod_lt _ (by omega)) (by simpa using h3)
    have : x.toNat = y.toNat := s1 x.toNat y.toNat (b + a) (by omega) (by omega) (by rw [Nat.add_comm _ (b + a), Nat.add_comm _ (b + a), Nat.add_assoc, Nat.add_assoc]; exact s2)
    exact UInt8.toNat_inj.1 this
  · rintro rfl; rfl
theorem le4_inj {s t : Nat} (hs : s < 4294967296) (ht : t < 4294967296) (h : le4 s = le4 t) : s = t := by
  unfold le4 at h
  simp only [List.cons.injEq, and_true] at h
  obtain ⟨h0, h1, h2, h3⟩ := h
  have e : ∀ {a b : Nat}, a < 256 → b < 256 → UInt8.ofNat a = UInt8.ofNat b → a = b := fun ha hb h => by
    have := congrArg UInt8.toNat h
    rwa [u8_small ha, u8_small hb] at this
  have h0 := e (by omega) (by omega) h0
  have h1 := e (by omega) (by omega) h1
  have h2 := e (by omega) (by omega) h2
  have h3 := e (by omega) (by omega) h3
  omega
theorem le4_length (s : Nat) : (le4 s).length = 4 := rfl
/-- A frame that is written is read. -/
theorem getFrame_frameL {t : List UInt8} (ht : t.length ≤ 4096) (m : List UInt8) : getFrame (frameL t ++ m) = (t, (frameL t).length, 0) := by
  have hn := num_enc (n := t.length) (by omega) ((le4 (sumL t) ++ t) ++ m)
  unfold getFrame frameL
  rw [List.append_assoc, hn]
  simp only [ne_eq, not_true_eq_false, if_false]
  have hl : (enc t.length ++ (le4 (sumL t) ++ t ++ m)).length = (enc t.length).length + (4 + t.length + m.length) := by
    simp only [List.length_append, le4_length]
  rw [if_neg (by omega), if_neg (by rw [hl]; omega)]
  have e1 : (enc t.length ++ (le4 (sumL t) ++ t ++ m)).drop (enc t.length).length = le4 (sumL t) ++ t ++ m := List.drop_left
  have e2 : (enc t.length ++ (le4 (sumL t) ++ t ++ m)).drop ((enc t.length).length + 4) = t ++ m := by
    rw [← List.drop_drop, e1, List.append_assoc]
    exact List.drop_left' (le4_length _)
  rw [e1, e2, List.take_left, List.append_assoc, List.take_left' (le4_length _), if_pos rfl]
  simp only [List.length_append, le4_length, Nat.add_assoc]
end Go.Sf
