/- The framework's operations that look alone: structs that are built, the least of numbers; the translation of all of them, and that it is right. -/
import Derived.Test.YtffifddlooligaaSf8
set_option linter.unusedVariables false
set_option linter.unusedSimpArgs false
namespace Go.Sf

theorem min_sound {P : Program} {M : Mem} {H : Heap} {w : World} {as : List AV} {xs : List Value} (h : VRels M as xs) {ts : Array TypeId} {ty : TypeId} {p : Prop} {v : AV} (e : evK .min H as = some (p, v)) (hp : p) :
    Gives P M w (Builtin.min_ ts ty xs.toArray) v := by
  match as, e with
  | [.int k a, .int k2 b], e =>
    simp only [evK, Option.some.injEq, Prod.mk.injEq] at e
    obtain ⟨_, rfl⟩ := e
    simp only [VRels, VRel] at h
    obtain ⟨_, _, rfl, rfl, _, _, rfl, rfl, rfl⟩ := h
    exact ⟨_, rfl, rel_int _ _ _⟩
  | [.int k a, .int k2 b, .int k3 c], e =>
    simp only [evK, Option.some.injEq, Prod.mk.injEq] at e
    obtain ⟨_, rfl⟩ := e
    simp only [VRels, VRel] at h
    obtain ⟨_, _, rfl, rfl, _, _, rfl, rfl, _, _, rfl, rfl, rfl⟩ := h
    exact ⟨_, rfl, rel_int _ _ _⟩
  | [.int k a], e => simp [evK] at e
  | .int k a :: .int k2 b :: .int k3 c :: d :: r, e => simp [evK] at e
theorem max_sound {P : Program} {M : Mem} {H : Heap} {w : World} {as : List AV} {xs : List Value} (h : VRels M as xs) {ts : Array TypeId} {ty : TypeId} {p : Prop} {v : AV} (e : evK .max H as = some (p, v)) (hp : p) :
    Gives P M w (Builtin.max_ ts ty xs.toArray) v := by
  match as, e with
  | [.int k a, .int k2 b], e =>
    simp only [evK, Option.some.injEq, Prod.mk.injEq] at e
    obtain ⟨_, rfl⟩ := e
    simp only [VRels, VRel] at h
    obtain ⟨_, _, rfl, rfl, _, _, rfl, rfl, rfl⟩ := h
    exact ⟨_, rfl, rel_int _ _ _⟩

/-! ### Built structs -/
theorem known_cells {M : Mem} {v : AV} {x : Value} (h : VRel M v x) (hk : v.known = true) : VRels M v.cellsL x.cells.toList := by
  cases v <;> simp only [AV.known, reduceCtorEq] at hk
  case agg cs => simp only [VRel] at h; obtain ⟨xs, rfl, hr⟩ := h; exact hr
  case iptr cs i => simp only [VRel] at h; obtain ⟨b, o, vs, rfl, h1, h2⟩ := h; exact .cons (by simp only [VRel]; exact ⟨b, o, vs, rfl, h1, h2⟩) .nil
  case imm cs n c => simp only [VRel] at h; obtain ⟨A, vs, k, rfl, h1⟩ := h; exact .cons (by simp only [VRel]; exact ⟨A, vs, k, rfl, h1⟩) .nil
  case fn f a b => simp only [VRel] at h; obtain ⟨xs, ys, rfl, h1⟩ := h; exact .cons (by simp only [VRel]; exact ⟨xs, ys, rfl, h1⟩) .nil
  all_goals (simp only [VRel] at h; subst h; exact .cons (by simp only [VRel]) .nil)
theorem foldl_fill (l : List Value) : ∀ (k off : Nat) (cs : Array Value), off + k + l.length ≤ cs.size →
    ((l.zipIdx k).foldl (fun cs (c, j) => cs.setIfInBounds (off + j) c) cs).toList = cs.toList.take (off + k) ++ l ++ cs.toList.drop (off + k + l.length) := by
  induction l with
  | nil => intro k off cs h; simp
  | cons x l ih =>
    intro k off cs h
    simp only [List.zipIdx_cons, List.foldl_cons]
    rw [ih (k + 1) off _ (by simp at h ⊢; omega)]
    simp only [List.length_cons] at h ⊢
    rw [Array.toList_setIfInBounds]
    have hlt : off + k < cs.toList.length := by simp; omega
    rw [show off + (k + 1) = off + k + 1 by omega, List.take_add_one, List.take_set_of_le (Nat.le_refl _), List.getElem?_set_self hlt, List.drop_set_of_lt (by omega)]
    simp only [Option.toList_some, List.append_assoc, List.singleton_append, List.cons_append, List.nil_append]
    rw [show off + k + 1 + l.length = off + k + (l.length + 1) by omega]
theorem fill_sound {M : Mem} {place : Nat → Option (Nat × Nat)} : ∀ (idx : List Nat) (ps : List (Nat × Nat)) (vs : List AV) (xs : List Value) (zero : List AV) (zs : Array Value) (cs : List AV),
    idx.map place = ps.map some → VRels M vs xs → vs.all AV.known = true → VRels M zero zs.toList → fillC zero ps vs = some cs → ∃ ys, Instr.fill place zs (idx.zip xs) = some ys ∧ VRels M cs ys.toList
  | [], [], [], xs, zero, zs, cs, h1, h2, h3, h4, e => by
    simp only [fillC, Option.some.injEq] at e; subst e
    exact ⟨zs, by simp [Instr.fill], h4⟩
  | [], [], v :: vs, xs, zero, zs, cs, h1, h2, h3, h4, e => by simp [fillC] at e
  | [], p :: ps, vs, xs, zero, zs, cs, h1, h2, h3, h4, e => by simp at h1
  | i :: idx, [], vs, xs, zero, zs, cs, h1, h2, h3, h4, e => by simp at h1
  | i :: idx, (off, sz) :: ps, [], xs, zero, zs, cs, h1, h2, h3, h4, e => by simp [fillC] at e
  | i :: idx, (off, sz) :: ps, v :: vs, xs, zero, zs, cs, h1, h2, h3, h4, e => by
    simp only [List.map_cons, List.cons.injEq] at h1
    simp only [VRels] at h2
    obtain ⟨x, xs', rfl, hx, hxs⟩ := h2
    simp only [List.all_cons, Bool.and_eq_true] at h3
    have hc := known_cells hx h3.1
    simp only [fillC] at e
    split at e
    · rename_i hcond
      have hl := hc.length
      have hz := h4.length
      have hxsz : x.cells.size = sz := by rw [← hcond.1, hl]; simp
      have hzs : off + sz ≤ zs.size := by have := hcond.2; simp at hz; omega
      have hf := foldl_fill x.cells.toList 0 off zs (by simp [hxsz]; omega)
      simp only [Nat.add_zero] at hf
      obtain ⟨ys, k1, k2⟩ := fill_sound idx ps vs xs' _ ((x.cells.toList.zipIdx 0).foldl (fun cs (c, j) => cs.setIfInBounds (off + j) c) zs) cs h1.2 hxs h3.2 (by
        rw [hf]
        refine VRels.append (VRels.append (h4.take off) hc) ?_
        have : x.cells.toList.length = sz := by simp [hxsz]
        rw [this]
        exact h4.drop (off + sz)) e
      refine ⟨ys, ?_, k2⟩
      simp only [List.zip_cons_cons, Instr.fill, h1.1, hxsz]
      rw [if_neg (by simp; omega)]
      rw [← k1]
      congr 1
      rw [← Array.foldl_toList, Array.toList_zipIdx]
    · cases e
end Go.Sf
