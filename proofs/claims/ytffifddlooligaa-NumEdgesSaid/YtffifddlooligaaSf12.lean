/- The framework's worlds: a block is made, a block's cells are written, a block is held for good. -/
import Derived.Test.YtffifddlooligaaSf11
set_option linter.unusedVariables false
set_option linter.unusedSimpArgs false
namespace Go.Sf

def wpush (w : World) (o : Obj) : World := { w with heap := w.heap.push o }
def wset (w : World) (b : Nat) (o : Obj) : World := { w with heap := w.heap.setIfInBounds b o }
theorem wpush_size (w : World) (o : Obj) : (wpush w o).heap.size = w.heap.size + 1 := by simp [wpush]
theorem wpush_old (w : World) (o : Obj) {b : Nat} (h : b < w.heap.size) : (wpush w o).heap[b]? = w.heap[b]? := by
  simp only [wpush]; rw [Array.getElem?_push_lt h, Array.getElem?_eq_getElem h]
theorem wpush_new (w : World) (o : Obj) : (wpush w o).heap[w.heap.size]? = some o := by
  show (w.heap.push o)[w.heap.size]? = some o
  exact Array.getElem?_push_size
theorem wset_size (w : World) (b : Nat) (o : Obj) : (wset w b o).heap.size = w.heap.size := by simp [wset]
theorem wset_ne (w : World) {b k : Nat} (o : Obj) (h : k ≠ b) : (wset w b o).heap[k]? = w.heap[k]? := by
  simp only [wset]; rw [Array.getElem?_setIfInBounds_ne (Ne.symm h)]
theorem wset_self (w : World) {b : Nat} (o : Obj) (h : b < w.heap.size) : (wset w b o).heap[b]? = some o := by
  simp [wset, Array.getElem?_setIfInBounds, h]
theorem cell_of_block {w w' : World} {b o : Nat} (h : w'.heap[b]? = w.heap[b]?) : w'.cell? ⟨b, o, none⟩ = w.cell? ⟨b, o, none⟩ := by simp [World.cell?, h]
theorem modify_eq {α : Type} (a : Array α) (i : Nat) (f : α → α) {x : α} (h : a[i]? = some x) : a.modify i f = a.setIfInBounds i (f x) := by
  apply Array.ext_getElem?
  intro j
  rw [Array.getElem?_modify, Array.getElem?_setIfInBounds]
  have hi : i < a.size := (Array.getElem?_eq_some_iff.1 h).1
  by_cases e : i = j
  · subst e; rw [if_pos rfl, if_pos rfl, if_pos hi, h]; rfl
  · simp [e]
theorem setCell_eq {w : World} {b o : Nat} {c : Array Value} {e : TypeId} {fr : Nat × Nat} (h : w.heap[b]? = some (.cells c e fr)) (v : Value) : w.setCell ⟨b, o, none⟩ v = wset w b (.cells (c.setIfInBounds o v) e fr) := by
  unfold World.setCell wset
  congr 1
  rw [modify_eq _ _ _ h]; rfl
theorem wset_wset (w : World) (b : Nat) (o o' : Obj) : wset (wset w b o) b o' = wset w b o' := by
  simp [wset]

/-! ### A new block -/
theorem Rel.push {M : Mem} {H : Heap} {w : World} (r : Rel M H w) {k : Blk} {o : Obj} (hb : BRel M k o) : Rel M (H.set w.heap.size (some k)) (wpush w o) := by
  refine ⟨fun b i v e => ?_, fun b k' e => ?_⟩
  · have hlt := r.mlt e
    obtain ⟨h1, h2⟩ := r.mem b i v e
    exact ⟨by rw [Heap.set_ne _ _ (by omega)]; exact h1, by rw [cell_of_block (wpush_old w o hlt)]; exact h2⟩
  · by_cases hbs : b = w.heap.size
    · subst hbs
      rw [Heap.set_self] at e; cases e
      exact ⟨o, wpush_new w o, hb⟩
    · rw [Heap.set_ne _ _ hbs] at e
      obtain ⟨o', ho, hr⟩ := r.live b k' e
      exact ⟨o', by rw [wpush_old w o (r.lt e)]; exact ho, hr⟩
theorem Fr.push (M : Mem) (H : Heap) (w : World) (k : Option Blk) (o : Obj) : Fr M H w M (H.set w.heap.size k) (wpush w o) :=
  ⟨rfl, rfl, rfl, by rw [wpush_size]; omega, MLe.refl M, fun b hb hn => ⟨wpush_old w o hb, by rw [Heap.set_ne _ _ (by omega)]; exact hn, fun _ => rfl⟩⟩
/-- Cells that are held for good from now on. -/
def madd (M : Mem) (b : Nat) (vs : List Value) : Mem := fun k o => if k = b then vs[o]? else M k o
theorem madd_le {M : Mem} {b : Nat} (h : ∀ o, M b o = none) (vs : List Value) : MLe M (madd M b vs) := by
  intro k o v e
  unfold madd
  by_cases hk : k = b
  · subst hk; rw [h] at e; cases e
  · rw [if_neg hk]; exact e
theorem madd_at (M : Mem) (b : Nat) (vs : List Value) (o : Nat) : MAt (madd M b vs) b o (vs.drop o) := by
  intro j u e
  rw [List.getElem?_drop] at e
  simp only [madd, if_true]; exact e
theorem cells_at {w : World} {b : Nat} {c : Array Value} {e : TypeId} {fr : Nat × Nat} (h : w.heap[b]? = some (.cells c e fr)) {o : Nat} {v : Value} (hv : c.toList[o]? = some v) : w.cell? ⟨b, o, none⟩ = some v := by
  simp only [World.cell?, h]; simpa using hv
/-- A live block is held for good. -/
theorem Rel.hold {M : Mem} {H : Heap} {w : World} (r : Rel M H w) {b : Nat} {k : Blk} (hb : H b = some k) {c : Array Value} {e : TypeId} {fr : Nat × Nat} (hc : w.heap[b]? = some (.cells c e fr)) :
    Rel (madd M b c.toList) (H.set b none) w ∧ Fr M H w (madd M b c.toList) (H.set b none) w := by
  have hM : ∀ o, M b o = none := fun o => by
    cases h : M b o with
    | none => rfl
    | some v => have := (r.mem b o v h).1; rw [hb] at this; cases this
  refine ⟨⟨fun b' o v e' => ?_, fun b' k' e' => ?_⟩, ⟨rfl, rfl, rfl, Nat.le_refl _, madd_le hM _, fun b' hb' hn => ⟨rfl, ?_, fun o => ?_⟩⟩⟩
  · unfold madd at e'
    by_cases hbb : b' = b
    · subst hbb
      rw [if_pos rfl] at e'
      exact ⟨Heap.set_self _ _ _, cells_at hc e'⟩
    · rw [if_neg hbb] at e'
      obtain ⟨h1, h2⟩ := r.mem b' o v e'
      exact ⟨by rw [Heap.set_ne _ _ hbb]; exact h1, h2⟩
  · by_cases hbb : b' = b
    · subst hbb; rw [Heap.set_self] at e'; cases e'
    · rw [Heap.set_ne _ _ hbb] at e'
      obtain ⟨o, ho, hr⟩ := r.live b' k' e'
      exact ⟨o, ho, hr.mono (madd_le hM _)⟩
  · by_cases hbb : b' = b
    · subst hbb; exact Heap.set_self _ _ _
    · rw [Heap.set_ne _ _ hbb]; exact hn
  · unfold madd
    by_cases hbb : b' = b
    · subst hbb; rw [hb] at hn; cases hn
    · rw [if_neg hbb]
/-- A new block that is held for good. -/
theorem Rel.push_hold {M : Mem} {H : Heap} {w : World} (r : Rel M H w) (c : Array Value) (e : TypeId) (fr : Nat × Nat) :
    Rel (madd M w.heap.size c.toList) H (wpush w (.cells c e fr)) ∧ Fr M H w (madd M w.heap.size c.toList) H (wpush w (.cells c e fr)) := by
  have h1 : Rel M (H.set w.heap.size (some (.raw (.cells c e fr)))) (wpush w (.cells c e fr)) := r.push (by simp only [BRel])
  obtain ⟨h2, h3⟩ := h1.hold (Heap.set_self _ _ _) (wpush_new w _)
  have hH : (H.set w.heap.size (some (.raw (.cells c e fr)))).set w.heap.size none = H := by
    funext b
    unfold Heap.set
    by_cases hb : b = w.heap.size
    · rw [if_pos hb, hb, r.fresh (Nat.le_refl _)]
    · rw [if_neg hb, if_neg hb]
  rw [hH] at h2 h3
  exact ⟨h2, (Fr.push M H w _ _).trans h3⟩
/-- A draw changes nothing that is told. -/
theorem Rel.drawn {M : Mem} {H : Heap} {w : World} (r : Rel M H w) (d : Nat) : Rel M H { w with drawn := d } := ⟨r.mem, r.live⟩
theorem Fr.drawn (M : Mem) (H : Heap) (w : World) (d : Nat) : Fr M H w M H { w with drawn := d } := ⟨rfl, rfl, rfl, Nat.le_refl _, MLe.refl _, fun _ _ h => ⟨rfl, h, fun _ => rfl⟩⟩
/-! ### A block is written -/
theorem Rel.wset {M : Mem} {H : Heap} {w : World} (r : Rel M H w) {b : Nat} {k k' : Blk} {o : Obj} (hb : H b = some k) (h : BRel M k' o) : Rel M (H.set b (some k')) (wset w b o) := by
  have hlt := r.lt hb
  refine ⟨fun b' i v e => ?_, fun b' k2 e => ?_⟩
  · obtain ⟨h1, h2⟩ := r.mem b' i v e
    have hne : b' ≠ b := fun hbb => by subst hbb; rw [hb] at h1; cases h1
    exact ⟨by rw [Heap.set_ne _ _ hne]; exact h1, by rw [cell_of_block (wset_ne w o hne)]; exact h2⟩
  · by_cases hbb : b' = b
    · subst hbb
      rw [Heap.set_self] at e; cases e
      exact ⟨o, wset_self w o hlt, h⟩
    · rw [Heap.set_ne _ _ hbb] at e
      obtain ⟨o', ho, hr⟩ := r.live b' k2 e
      exact ⟨o', by rw [wset_ne w o hbb]; exact ho, hr⟩
theorem Fr.wset {M : Mem} {H : Heap} {w : World} {b : Nat} {k : Blk} (hb : H b = some k) (k' : Option Blk) (o : Obj) : Fr M H w M (H.set b k') (wset w b o) :=
  ⟨rfl, rfl, rfl, by rw [wset_size]; omega, MLe.refl M, fun b' hb' hn => by
    have hne : b' ≠ b := fun hbb => by subst hbb; rw [hb] at hn; cases hn
    exact ⟨wset_ne w o hne, by rw [Heap.set_ne _ _ hne]; exact hn, fun _ => rfl⟩⟩
def one1 : Value → Bool
  | .agg _ | .tuple _ => false
  | _ => true
def splice (c : List Value) (o : Nat) (vs : List Value) : List Value := c.take o ++ vs ++ c.drop (o + vs.length)
theorem splice_length {c : List Value} {o : Nat} {vs : List Value} (h : o + vs.length ≤ c.length) : (splice c o vs).length = c.length := by simp [splice]; omega
theorem splice_cons {c : List Value} {o : Nat} {v : Value} {vs : List Value} (h : o + (vs.length + 1) ≤ c.length) : splice (c.set o v) (o + 1) vs = splice c o (v :: vs) := by
  unfold splice
  have hlt : o < c.length := by omega
  rw [List.take_add_one, List.take_set_of_le (Nat.le_refl _), List.getElem?_set_self hlt, List.drop_set_of_lt (by omega)]
  simp only [Option.toList_some, List.append_assoc, List.singleton_append, List.cons_append, List.nil_append, List.length_cons]
  rw [show o + 1 + vs.length = o + (vs.length + 1) by omega]
theorem run_store {P : Program} {w : World} {b o : Nat} {c : Array Value} {e : TypeId} {fr : Nat × Nat} (h : w.heap[b]? = some (.cells c e fr)) (ho : o < c.size) (hf : ¬ (fr.1 ≤ o ∧ o < fr.2)) {v : Value} (hv : one1 v = true) :
    (store ⟨b, o, none⟩ v).run P w = .ok () (wset w b (.cells (c.setIfInBounds o v) e fr)) := by
  have hc : w.cell? ⟨b, o, none⟩ = some c[o] := by simp [World.cell?, h, ho]
  have hfz : w.frozen? ⟨b, o, none⟩ = false := by
    show (match w.heap[b]? with | some (.cells _ _ (lo, hi)) => decide (lo ≤ o) && decide (o < hi) | _ => false) = false
    rw [h]
    show (decide (fr.1 ≤ o) && decide (o < fr.2)) = false
    by_cases h1 : fr.1 ≤ o
    · by_cases h2 : o < fr.2
      · exact absurd ⟨h1, h2⟩ hf
      · simp [h2]
    · simp [h1]
  unfold store
  cases v <;> simp only [one1, reduceCtorEq] at hv <;> simp only [Sem.run, hc, hfz, Bool.false_eq_true, if_false, setCell_eq h]
theorem run_storeCells {P : Program} {b o : Nat} {e : TypeId} {fr : Nat × Nat} : ∀ (vs : List Value) (i : Nat) (w : World) (c : Array Value), w.heap[b]? = some (.cells c e fr) → o + i + vs.length ≤ c.size → (∀ j, j < c.size → ¬ (fr.1 ≤ j ∧ j < fr.2)) →
    (∀ v ∈ vs, one1 v = true) → (storeCells ⟨b, o, none⟩ vs i).run P w = .ok () (if vs = [] then w else wset w b (.cells (splice c.toList (o + i) vs).toArray e fr)) := by
  intro vs
  induction vs with
  | nil => intro i w c h hl hf hv; rfl
  | cons v vs ih =>
    intro i w c h hl hf hv
    simp only [List.length_cons] at hl
    have hlt := (Array.getElem?_eq_some_iff.1 h).1
    simp only [storeCells, run_bind, add_off, run_store h (show o + i < c.size by omega) (hf _ (by omega)) (hv v (by simp)), reduceCtorEq, if_false]
    have h' : (wset w b (.cells (c.setIfInBounds (o + i) v) e fr)).heap[b]? = some (.cells (c.setIfInBounds (o + i) v) e fr) := wset_self w _ hlt
    have := ih (i + 1) _ _ h' (by simp; omega) (fun j hj => hf j (by simpa using hj)) (fun x hx => hv x (by simp [hx]))
    rw [this]
    have hs : splice (c.setIfInBounds (o + i) v).toList (o + i + 1) vs = splice c.toList (o + i) (v :: vs) := by
      rw [Array.toList_setIfInBounds]
      exact splice_cons (by simp; omega)
    split
    · rename_i hvs
      subst hvs
      rw [← hs]
      congr 3
      apply Array.toList_inj.1
      simp [splice]
    · rw [wset_wset, ← Nat.add_assoc, hs]
end Go.Sf
