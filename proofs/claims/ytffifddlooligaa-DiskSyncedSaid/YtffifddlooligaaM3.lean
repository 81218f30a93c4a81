/- Files by their names: plain facts. No function of the program is named here. -/
import Derived.Test.YtffifddlooligaaK14
set_option linter.unusedVariables false
set_option linter.unusedSimpArgs false
namespace Go.Sf
theorem fget_nil (n : ByteArray) : fget n [] = [] := rfl
theorem fget_cons (n : ByteArray) (p : ByteArray × List UInt8) (F : FileL) : fget n (p :: F) = if n = p.1 then p.2 else fget n F := by
  unfold fget
  simp only [fidx]
  by_cases h : n = p.1
  · simp [h]
  · simp only [h, if_false]
    cases hf : fidx n F <;> simp
theorem fset_nil (n : ByteArray) (l : List UInt8) : fset n l [] = [(n, l)] := rfl
theorem fset_cons (n : ByteArray) (l : List UInt8) (p : ByteArray × List UInt8) (F : FileL) : fset n l (p :: F) = if n = p.1 then (n, l) :: F else p :: fset n l F := by
  unfold fset
  simp only [fidx]
  by_cases h : n = p.1
  · simp [h]
  · simp only [h, if_false]
    cases hf : fidx n F <;> simp
theorem fget_set (n m : ByteArray) (l : List UInt8) : ∀ F : FileL, fget m (fset n l F) = if m = n then l else fget m F
  | [] => by rw [fset_nil, fget_cons]
  | p :: F => by
    rw [fset_cons]
    by_cases h : n = p.1
    · rw [if_pos h, fget_cons, fget_cons]
      by_cases hm : m = n
      · simp [hm]
      · simp only [hm, if_false]
        rw [if_neg (by rw [← h]; exact hm)]
    · rw [if_neg h, fget_cons, fget_cons, fget_set n m l F]
      by_cases hm : m = n
      · subst hm; simp [h]
      · simp [hm]
theorem fidx_mem (n : ByteArray) : ∀ F : FileL, (fidx n F).isSome = true ↔ n ∈ F.map (·.1)
  | [] => by simp [fidx]
  | p :: F => by
    simp only [fidx, List.map_cons, List.mem_cons]
    by_cases h : n = p.1
    · simp [h]
    · have := fidx_mem n F
      simp only [h, if_false, false_or, ← this]
      cases fidx n F <;> simp
theorem names_set (n : ByteArray) (l : List UInt8) : ∀ F : FileL, (fset n l F).map (·.1) = if (fidx n F).isSome = true then F.map (·.1) else F.map (·.1) ++ [n]
  | [] => by simp [fset_nil, fidx]
  | p :: F => by
    rw [fset_cons]
    by_cases h : n = p.1
    · simp [h, fidx]
    · rw [if_neg h, List.map_cons, names_set n l F]
      simp only [fidx, h, if_false]
      cases fidx n F <;> simp
theorem fget_out {n : ByteArray} {F : FileL} (h : n ∉ F.map (·.1)) : fget n F = [] := by
  have := fidx_mem n F
  unfold fget
  cases hf : fidx n F with
  | none => rfl
  | some j => rw [hf] at this; exact absurd (this.1 rfl) h
theorem nodup_set {n : ByteArray} {l : List UInt8} {F : FileL} (h : (F.map (·.1)).Nodup) : ((fset n l F).map (·.1)).Nodup := by
  rw [names_set]
  split
  · exact h
  · rename_i hn
    rw [fidx_mem] at hn
    rw [List.nodup_append]
    exact ⟨h, by simp, fun a ha b hb e => by simp at hb; subst hb; subst e; exact hn ha⟩
theorem sortS_perm (ns : List ByteArray) : (sortS ns).Perm ns := by
  unfold sortS
  have h := (List.mergeSort_perm (ns.map fun n => n.data.toList) (fun x y => decide (x ≤ y))).map strOf
  refine h.trans ?_
  rw [List.map_map]
  have : (strOf ∘ fun n : ByteArray => n.data.toList) = id := by
    funext n; rfl
  rw [this, List.map_id]
/-- One byte that is another one. -/
def flipA (l : List UInt8) (i : Nat) : List UInt8 := l.set i (l.getD i 0 ^^^ 1)
theorem flipA_length (l : List UInt8) (i : Nat) : (flipA l i).length = l.length := by simp [flipA]
/-- What a crash turns. -/
def turnG (bad : Int) : List ByteArray → Nat → FileL → FileL
  | [], _, L => L
  | n :: ns, pre, L => turnG bad ns (pre + (fget n L).length) (if (pre : Int) ≤ bad ∧ bad < pre + (fget n L).length then fset n (flipA (fget n L) (bad - pre).toNat) L else L)
def turn1 (bad : Int) (n : ByteArray) (pre : Nat) (L : FileL) : FileL := if (pre : Int) ≤ bad ∧ bad < pre + (fget n L).length then fset n (flipA (fget n L) (bad - pre).toNat) L else L
theorem turnG_cons (bad : Int) (n : ByteArray) (ns : List ByteArray) (pre : Nat) (L : FileL) : turnG bad (n :: ns) pre L = turnG bad ns (pre + (fget n L).length) (turn1 bad n pre L) := rfl
theorem turn1_names (bad : Int) {n : ByteArray} (pre : Nat) {L : FileL} (h : n ∈ L.map (·.1)) : (turn1 bad n pre L).map (·.1) = L.map (·.1) := by
  unfold turn1
  split
  · rw [names_set, if_pos ((fidx_mem _ _).2 h)]
  · rfl
theorem turn1_len (bad : Int) (n m : ByteArray) (pre : Nat) (L : FileL) : (fget m (turn1 bad n pre L)).length = (fget m L).length := by
  unfold turn1
  split
  · rw [fget_set]
    split
    · rename_i h; subst h; exact flipA_length _ _
    · rfl
  · rfl
theorem turn1_ne (bad : Int) {n m : ByteArray} (h : m ≠ n) (pre : Nat) (L : FileL) : fget m (turn1 bad n pre L) = fget m L := by
  unfold turn1
  split
  · rw [fget_set, if_neg h]
  · rfl
theorem turnG_names (bad : Int) : ∀ (ns : List ByteArray) (pre : Nat) (L : FileL), (∀ n ∈ ns, n ∈ L.map (·.1)) → (turnG bad ns pre L).map (·.1) = L.map (·.1)
  | [], _, _, _ => rfl
  | n :: ns, pre, L, h => by
    have h1 := turn1_names bad pre (h n (by simp))
    rw [turnG_cons, turnG_names bad ns _ _ (fun m hm => by rw [h1]; exact h m (by simp [hm])), h1]
theorem turnG_out (bad : Int) {m : ByteArray} : ∀ (ns : List ByteArray) (pre : Nat) (L : FileL), m ∉ ns → fget m (turnG bad ns pre L) = fget m L
  | [], _, _, _ => rfl
  | n :: ns, pre, L, h => by
    simp at h
    rw [turnG_cons, turnG_out bad ns _ _ h.2, turn1_ne bad h.1]
/-- Bytes of the files ahead. -/
def preL (L : FileL) (ns : List ByteArray) : Nat := (ns.map fun n => (fget n L).length).sum
theorem turnG_at (bad : Int) : ∀ (ns : List ByteArray) (pre : Nat) (L : FileL), ns.Nodup → ∀ {i : Nat} {n : ByteArray}, ns[i]? = some n →
    fget n (turnG bad ns pre L) = if ((pre + preL L (ns.take i) : Nat) : Int) ≤ bad ∧ bad < ((pre + preL L (ns.take i) : Nat) : Int) + (fget n L).length then flipA (fget n L) (bad - (pre + preL L (ns.take i) : Nat)).toNat else fget n L
  | [], _, _, _, i, n, h => by simp at h
  | m :: ns, pre, L, hd, 0, n, h => by
    simp at h; subst h
    rw [List.nodup_cons] at hd
    rw [turnG_cons, turnG_out bad ns _ _ hd.1]
    unfold turn1
    simp only [List.take_zero, preL, List.map_nil, List.sum_nil, Nat.add_zero]
    split
    · rw [fget_set, if_pos rfl]
    · rfl
  | m :: ns, pre, L, hd, i + 1, n, h => by
    rw [List.nodup_cons] at hd
    have h' : ns[i]? = some n := by simpa using h
    have hne : n ≠ m := fun e => hd.1 (by rw [← e]; exact List.mem_of_getElem? h')
    rw [turnG_cons, turnG_at bad ns _ _ hd.2 h', turn1_ne bad hne]
    have e : preL (turn1 bad m pre L) (ns.take i) = preL L (ns.take i) := by
      unfold preL
      congr 1
      exact List.map_congr_left fun x _ => turn1_len bad m x pre L
    rw [e]
    have e2 : preL L ((m :: ns).take (i + 1)) = (fget m L).length + preL L (ns.take i) := by simp [preL]
    rw [e2, Nat.add_assoc]
end Go.Sf
