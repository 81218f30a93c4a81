import Derived.Test.YtdpbbnnlbjgjgaaGreatSf11
import Derived.Laws.Append
import Derived.IntWalk
import Derived.Lib.Overlaps
section
/- The framework's worlds: a block is made, a block's cells are written, a block is held for good. -/
set_option linter.unusedVariables false
set_option linter.unusedSimpArgs false
namespace Go.Sf

def wpush (w : World) (o : Obj) : World := { w with heap := w.heap.push o }
def wset (w : World) (b : Nat) (o : Obj) : World := { w with heap := w.heap.setIfInBounds b o }
theorem wpush_size (w : World) (o : Obj) : (wpush w o).heap.size = w.heap.size + 1 := by simp [wpush]
theorem wpush_old (w : World) (o : Obj) {b : Nat} (h : b < w.heap.size) : (wpush w o).heap[b]? = w.heap[b]? := by
  simp only [wpush]; rw [Array.getElem?_push_lt h, Array.getElem?_eq_getElem h]
theorem wpush_new (w : World) (o : Obj) : (wpush w o).heap[w.heap.size]? = some o := by
  show (w.heap.push o)[w.heap.size]? = some o
  exact Array.getElem?_push_size
theorem wset_size (w : World) (b : Nat) (o : Obj) : (wset w b o).heap.size = w.heap.size := by simp [wset]
theorem wset_ne (w : World) {b k : Nat} (o : Obj) (h : k ≠ b) : (wset w b o).heap[k]? = w.heap[k]? := by
  simp only [wset]; rw [Array.getElem?_setIfInBounds_ne (Ne.symm h)]
theorem wset_self (w : World) {b : Nat} (o : Obj) (h : b < w.heap.size) : (wset w b o).heap[b]? = some o := by
  simp [wset, Array.getElem?_setIfInBounds, h]
theorem cell_of_block {w w' : World} {b o : Nat} (h : w'.heap[b]? = w.heap[b]?) : w'.cell? ⟨b, o, none⟩ = w.cell? ⟨b, o, none⟩ := by simp [World.cell?, h]
theorem modify_eq {α : Type} (a : Array α) (i : Nat) (f : α → α) {x : α} (h : a[i]? = some x) : a.modify i f = a.setIfInBounds i (f x) := by
  apply Array.ext_getElem?
  intro j
  rw [Array.getElem?_modify, Array.getElem?_setIfInBounds]
  have hi : i < a.size := (Array.getElem?_eq_some_iff.1 h).1
  by_cases e : i = j
  · subst e; rw [if_pos rfl, if_pos rfl, if_pos hi, h]; rfl
  · simp [e]
theorem setCell_eq {w : World} {b o : Nat} {c : Array Value} {e : TypeId} {fr : Nat × Nat} (h : w.heap[b]? = some (.cells c e fr)) (v : Value) : w.setCell ⟨b, o, none⟩ v = wset w b (.cells (c.setIfInBounds o v) e fr) := by
  unfold World.setCell wset
  congr 1
  rw [modify_eq _ _ _ h]; rfl
theorem wset_wset (w : World) (b : Nat) (o o' : Obj) : wset (wset w b o) b o' = wset w b o' := by
  simp [wset]

/-! ### A new block -/
theorem Rel.push {M : Mem} {H : Heap} {w : World} (r : Rel M H w) {k : Blk} {o : Obj} (hb : BRel M k o) : Rel M (H.set w.heap.size (some k)) (wpush w o) := by
  refine ⟨fun b i v e => ?_, fun b k' e => ?_⟩
  · have hlt := r.mlt e
    obtain ⟨h1, h2⟩ := r.mem b i v e
    exact ⟨by rw [Heap.set_ne _ _ (by omega)]; exact h1, by rw [cell_of_block (wpush_old w o hlt)]; exact h2⟩
  · by_cases hbs : b = w.heap.size
    · subst hbs
      rw [Heap.set_self] at e; cases e
      exact ⟨o, wpush_new w o, hb⟩
    · rw [Heap.set_ne _ _ hbs] at e
      obtain ⟨o', ho, hr⟩ := r.live b k' e
      exact ⟨o', by rw [wpush_old w o (r.lt e)]; exact ho, hr⟩
theorem Fr.push (M : Mem) (H : Heap) (w : World) (k : Option Blk) (o : Obj) : Fr M H w M (H.set w.heap.size k) (wpush w o) :=
  ⟨rfl, rfl, rfl, by rw [wpush_size]; omega, MLe.refl M, fun b hb hn => ⟨wpush_old w o hb, by rw [Heap.set_ne _ _ (by omega)]; exact hn, fun _ => rfl⟩⟩
/-- Cells that are held for good from now on. -/
def madd (M : Mem) (b : Nat) (vs : List Value) : Mem := fun k o => if k = b then vs[o]? else M k o
theorem madd_le {M : Mem} {b : Nat} (h : ∀ o, M b o = none) (vs : List Value) : MLe M (madd M b vs) := by
  intro k o v e
  unfold madd
  by_cases hk : k = b
  · subst hk; rw [h] at e; cases e
  · rw [if_neg hk]; exact e
theorem madd_at (M : Mem) (b : Nat) (vs : List Value) (o : Nat) : MAt (madd M b vs) b o (vs.drop o) := by
  intro j u e
  rw [List.getElem?_drop] at e
  simp only [madd, if_true]; exact e
theorem cells_at {w : World} {b : Nat} {c : Array Value} {e : TypeId} {fr : Nat × Nat} (h : w.heap[b]? = some (.cells c e fr)) {o : Nat} {v : Value} (hv : c.toList[o]? = some v) : w.cell? ⟨b, o, none⟩ = some v := by
  simp only [World.cell?, h]; simpa using hv
/-- A live block is held for good. -/
theorem Rel.hold {M : Mem} {H : Heap} {w : World} (r : Rel M H w) {b : Nat} {k : Blk} (hb : H b = some k) {c : Array Value} {e : TypeId} {fr : Nat × Nat} (hc : w.heap[b]? = some (.cells c e fr)) :
    Rel (madd M b c.toList) (H.set b none) w ∧ Fr M H w (madd M b c.toList) (H.set b none) w := by
  have hM : ∀ o, M b o = none := fun o => by
    cases h : M b o with
    | none => rfl
    | some v => have := (r.mem b o v h).1; rw [hb] at this; cases this
  refine ⟨⟨fun b' o v e' => ?_, fun b' k' e' => ?_⟩, ⟨rfl, rfl, rfl, Nat.le_refl _, madd_le hM _, fun b' hb' hn => ⟨rfl, ?_, fun o => ?_⟩⟩⟩
  · unfold madd at e'
    by_cases hbb : b' = b
    · subst hbb
      rw [if_pos rfl] at e'
      exact ⟨Heap.set_self _ _ _, cells_at hc e'⟩
    · rw [if_neg hbb] at e'
      obtain ⟨h1, h2⟩ := r.mem b' o v e'
      exact ⟨by rw [Heap.set_ne _ _ hbb]; exact h1, h2⟩
  · by_cases hbb : b' = b
    · subst hbb; rw [Heap.set_self] at e'; cases e'
    · rw [Heap.set_ne _ _ hbb] at e'
      obtain ⟨o, ho, hr⟩ := r.live b' k' e'
      exact ⟨o, ho, hr.mono (madd_le hM _)⟩
  · by_cases hbb : b' = b
    · subst hbb; exact Heap.set_self _ _ _
    · rw [Heap.set_ne _ _ hbb]; exact hn
  · unfold madd
    by_cases hbb : b' = b
    · subst hbb; rw [hb] at hn; cases hn
    · rw [if_neg hbb]
/-- A new block that is held for good. -/
theorem Rel.push_hold {M : Mem} {H : Heap} {w : World} (r : Rel M H w) (c : Array Value) (e : TypeId) (fr : Nat × Nat) :
    Rel (madd M w.heap.size c.toList) H (wpush w (.cells c e fr)) ∧ Fr M H w (madd M w.heap.size c.toList) H (wpush w (.cells c e fr)) := by
  have h1 : Rel M (H.set w.heap.size (some (.raw (.cells c e fr)))) (wpush w (.cells c e fr)) := r.push (by simp only [BRel])
  obtain ⟨h2, h3⟩ := h1.hold (Heap.set_self _ _ _) (wpush_new w _)
  have hH : (H.set w.heap.size (some (.raw (.cells c e fr)))).set w.heap.size none = H := by
    funext b
    unfold Heap.set
    by_cases hb : b = w.heap.size
    · rw [if_pos hb, hb, r.fresh (Nat.le_refl _)]
    · rw [if_neg hb, if_neg hb]
  rw [hH] at h2 h3
  exact ⟨h2, (Fr.push M H w _ _).trans h3⟩
/-- A draw changes nothing that is told. -/
theorem Rel.drawn {M : Mem} {H : Heap} {w : World} (r : Rel M H w) (d : Nat) : Rel M H { w with drawn := d } := ⟨r.mem, r.live⟩
theorem Fr.drawn (M : Mem) (H : Heap) (w : World) (d : Nat) : Fr M H w M H { w with drawn := d } := ⟨rfl, rfl, rfl, Nat.le_refl _, MLe.refl _, fun _ _ h => ⟨rfl, h, fun _ => rfl⟩⟩
/-! ### A block is written -/
theorem Rel.wset {M : Mem} {H : Heap} {w : World} (r : Rel M H w) {b : Nat} {k k' : Blk} {o : Obj} (hb : H b = some k) (h : BRel M k' o) : Rel M (H.set b (some k')) (wset w b o) := by
  have hlt := r.lt hb
  refine ⟨fun b' i v e => ?_, fun b' k2 e => ?_⟩
  · obtain ⟨h1, h2⟩ := r.mem b' i v e
    have hne : b' ≠ b := fun hbb => by subst hbb; rw [hb] at h1; cases h1
    exact ⟨by rw [Heap.set_ne _ _ hne]; exact h1, by rw [cell_of_block (wset_ne w o hne)]; exact h2⟩
  · by_cases hbb : b' = b
    · subst hbb
      rw [Heap.set_self] at e; cases e
      exact ⟨o, wset_self w o hlt, h⟩
    · rw [Heap.set_ne _ _ hbb] at e
      obtain ⟨o', ho, hr⟩ := r.live b' k2 e
      exact ⟨o', by rw [wset_ne w o hbb]; exact ho, hr⟩
theorem Fr.wset {M : Mem} {H : Heap} {w : World} {b : Nat} {k : Blk} (hb : H b = some k) (k' : Option Blk) (o : Obj) : Fr M H w M (H.set b k') (wset w b o) :=
  ⟨rfl, rfl, rfl, by rw [wset_size]; omega, MLe.refl M, fun b' hb' hn => by
    have hne : b' ≠ b := fun hbb => by subst hbb; rw [hb] at hn; cases hn
    exact ⟨wset_ne w o hne, by rw [Heap.set_ne _ _ hne]; exact hn, fun _ => rfl⟩⟩
def one1 : Value → Bool
  | .agg _ | .tuple _ => false
  | _ => true
def splice (c : List Value) (o : Nat) (vs : List Value) : List Value := c.take o ++ vs ++ c.drop (o + vs.length)
theorem splice_length {c : List Value} {o : Nat} {vs : List Value} (h : o + vs.length ≤ c.length) : (splice c o vs).length = c.length := by simp [splice]; omega
theorem splice_cons {c : List Value} {o : Nat} {v : Value} {vs : List Value} (h : o + (vs.length + 1) ≤ c.length) : splice (c.set o v) (o + 1) vs = splice c o (v :: vs) := by
  unfold splice
  have hlt : o < c.length := by omega
  rw [List.take_add_one, List.take_set_of_le (Nat.le_refl _), List.getElem?_set_self hlt, List.drop_set_of_lt (by omega)]
  simp only [Option.toList_some, List.append_assoc, List.singleton_append, List.cons_append, List.nil_append, List.length_cons]
  rw [show o + 1 + vs.length = o + (vs.length + 1) by omega]
theorem run_store {P : Program} {w : World} {b o : Nat} {c : Array Value} {e : TypeId} {fr : Nat × Nat} (h : w.heap[b]? = some (.cells c e fr)) (ho : o < c.size) (hf : ¬ (fr.1 ≤ o ∧ o < fr.2)) {v : Value} (hv : one1 v = true) :
    (store ⟨b, o, none⟩ v).run P w = .ok () (wset w b (.cells (c.setIfInBounds o v) e fr)) := by
  have hc : w.cell? ⟨b, o, none⟩ = some c[o] := by simp [World.cell?, h, ho]
  have hfz : w.frozen? ⟨b, o, none⟩ = false := by
    show (match w.heap[b]? with | some (.cells _ _ (lo, hi)) => decide (lo ≤ o) && decide (o < hi) | _ => false) = false
    rw [h]
    show (decide (fr.1 ≤ o) && decide (o < fr.2)) = false
    by_cases h1 : fr.1 ≤ o
    · by_cases h2 : o < fr.2
      · exact absurd ⟨h1, h2⟩ hf
      · simp [h2]
    · simp [h1]
  unfold store
  cases v <;> simp only [one1, reduceCtorEq] at hv <;> simp only [Sem.run, hc, hfz, Bool.false_eq_true, if_false, setCell_eq h]
theorem run_storeCells {P : Program} {b o : Nat} {e : TypeId} {fr : Nat × Nat} : ∀ (vs : List Value) (i : Nat) (w : World) (c : Array Value), w.heap[b]? = some (.cells c e fr) → o + i + vs.length ≤ c.size → (∀ j, j < c.size → ¬ (fr.1 ≤ j ∧ j < fr.2)) →
    (∀ v ∈ vs, one1 v = true) → (storeCells ⟨b, o, none⟩ vs i).run P w = .ok () (if vs = [] then w else wset w b (.cells (splice c.toList (o + i) vs).toArray e fr)) := by
  intro vs
  induction vs with
  | nil => intro i w c h hl hf hv; rfl
  | cons v vs ih =>
    intro i w c h hl hf hv
    simp only [List.length_cons] at hl
    have hlt := (Array.getElem?_eq_some_iff.1 h).1
    simp only [storeCells, run_bind, add_off, run_store h (show o + i < c.size by omega) (hf _ (by omega)) (hv v (by simp)), reduceCtorEq, if_false]
    have h' : (wset w b (.cells (c.setIfInBounds (o + i) v) e fr)).heap[b]? = some (.cells (c.setIfInBounds (o + i) v) e fr) := wset_self w _ hlt
    have := ih (i + 1) _ _ h' (by simp; omega) (fun j hj => hf j (by simpa using hj)) (fun x hx => hv x (by simp [hx]))
    rw [this]
    have hs : splice (c.setIfInBounds (o + i) v).toList (o + i + 1) vs = splice c.toList (o + i) (v :: vs) := by
      rw [Array.toList_setIfInBounds]
      exact splice_cons (by simp; omega)
    split
    · rename_i hvs
      subst hvs
      rw [← hs]
      congr 3
      apply Array.toList_inj.1
      simp [splice]
    · rw [wset_wset, ← Nat.add_assoc, hs]
end Go.Sf

end
section
/- The framework's worlds: what the built-in append does. -/
set_option linter.unusedVariables false
set_option linter.unusedSimpArgs false
namespace Go.Sf

theorem run_ask (P : Program) (n : Nat) (w : World) : (askRoom n).run P w = .ok () w := by unfold askRoom; split <;> rfl
theorem run_appendCap (P : Program) (need old : Nat) (e : TypeId) (w : World) : (choose (.appendCap need old e)).run P w = .ok (need + w.tape w.drawn (.appendCap need old e) % (2 ^ 63 - need)) { w with drawn := w.drawn + 1 } := by
  simp only [choose, Sem.run, Question.forced, Question.cut, Bool.false_eq_true, if_false]
theorem run_newRow (P : Program) (e : TypeId) (c : Array Value) (w : World) : (newRow e c).run P w = .ok ⟨w.heap.size, 0, none⟩ (wpush w (.cells c e (0, 0))) := rfl
/-- An element type that an append takes. -/
structure ElemOK (P : Program) (e : TypeId) (sz bytes : Nat) (z : Value) : Prop where
  info : ∃ i, P.info? e = some i ∧ i.size = sz ∧ i.bytes = bytes ∧ i.zero = some z
  cells : z.cells.size = sz
  sz : 0 < sz
  bytes : 0 < bytes
def notInt : TypeDesc → Bool
  | .int _ => false
  | _ => true
theorem run_append_grow {P : Program} {w : World} {t t2 ty e : TypeId} {sz bytes : Nat} {z : Value} (ht : P.underlying t = some (.slice e)) (h2 : (∃ e2, P.underlying t2 = some (.slice e2)) ∨ P.underlying t2 = some .string) (he : ElemOK P e sz bytes z)
    {A : Option Addr} {sLen sCap n : Nat} {x : Value} {olds xs : List Value} (hn : (Builtin.lenOf x) = Sem.pure n) (hold : ∀ d, (Builtin.firstCells sz sLen (.slice A sLen sCap)).run P { w with drawn := d } = .ok olds.toArray { w with drawn := d })
    (hnew : ∀ d, (Builtin.firstCells sz n x).run P { w with drawn := d } = .ok xs.toArray { w with drawn := d }) (hcap : sCap < sLen + n) (hb : (sLen + n) * bytes ≤ 140737488355328) :
    ∃ cap' rest d, sLen + n ≤ cap' ∧ rest.length = (cap' - (sLen + n)) * sz ∧
      (Builtin.append_ #[t, t2] ty #[.slice A sLen sCap, x]).run P w = .ok (.slice (some ⟨w.heap.size, 0, none⟩) (sLen + n) cap') (wpush { w with drawn := d } (.cells (olds ++ xs ++ rest).toArray e (0, 0))) := by
  obtain ⟨i, hi, hsz, hby, hz⟩ := he.info
  have hbp := he.bytes
  refine ⟨sLen + n + w.tape w.drawn (.appendCap (sLen + n) sCap e) % (2 ^ 63 - (sLen + n)), (Builtin.zeroCells z.cells (w.tape w.drawn (.appendCap (sLen + n) sCap e) % (2 ^ 63 - (sLen + n)))).toList, w.drawn + 1, by omega, ?_, ?_⟩
  · simp [Builtin.zeroCells, he.cells]
  · have hg : ¬ (Builtin.nextslicecap (sLen + n) sCap * bytes > 2 ^ 48) := by have := growslice_fits hcap hb; omega
    unfold Builtin.append_
    rcases h2 with ⟨e2, h2⟩ | h2
    all_goals simp only [List.getElem?_toArray, List.getElem?_cons_zero, List.getElem?_cons_succ, run_bind, run_underlying ht, run_sizeOf hi, run_underlying h2, run_pure, run_pure', hn, hsz]
    all_goals simp only [Bool.false_eq_true, if_false, run_bind, run_pure', if_neg (show ¬ sLen + n ≤ sCap by omega), run_typeInfo hi, hby, false_or, if_neg (show ¬ (((sLen + n : Nat) : Int) > IntKind.i64.max ∧ bytes = 0) by omega), if_neg hg, run_appendCap, run_ask, hold, hnew, run_zeroValue hi hz, run_newRow, run_pure, Bool.not_false, if_true]
    all_goals congr 3
    all_goals rw [show sLen + n + w.tape w.drawn (.appendCap (sLen + n) sCap e) % (2 ^ 63 - (sLen + n)) - (sLen + n) = w.tape w.drawn (.appendCap (sLen + n) sCap e) % (2 ^ 63 - (sLen + n)) by omega]
    all_goals apply Array.toList_inj.1
    all_goals simp
theorem run_append_fits {P : Program} {w : World} {t t2 ty e : TypeId} {sz bytes : Nat} {z : Value} (ht : P.underlying t = some (.slice e)) (h2 : (∃ e2, P.underlying t2 = some (.slice e2)) ∨ P.underlying t2 = some .string) (he : ElemOK P e sz bytes z)
    {A : Option Addr} {sLen sCap n : Nat} {x : Value} {xs : List Value} (hn : (Builtin.lenOf x) = Sem.pure n)
    (hnew : (Builtin.firstCells sz n x).run P w = .ok xs.toArray w) (hcap : sLen + n ≤ sCap) {w' : World} (hst : match A with | some a => (storeCells (a.add (sLen * sz)) xs).run P w = .ok () w' | none => w' = w) :
      (Builtin.append_ #[t, t2] ty #[.slice A sLen sCap, x]).run P w = .ok (.slice A (sLen + n) sCap) w' := by
  obtain ⟨i, hi, hsz, hby, hz⟩ := he.info
  unfold Builtin.append_
  rcases h2 with ⟨e2, h2⟩ | h2
  all_goals simp only [List.getElem?_toArray, List.getElem?_cons_zero, List.getElem?_cons_succ, run_bind, run_underlying ht, run_sizeOf hi, run_underlying h2, run_pure, run_pure', hn, hsz]
  all_goals simp only [Bool.false_eq_true, if_false, run_bind, run_pure', if_pos hcap, hnew, Bool.not_false, if_true]
  all_goals cases A with
  | none => simp only at hst; subst hst; rfl
  | some a => simp only at hst; simp only [run_bind, hst, run_pure]
end Go.Sf

end
section
/- The operations that make, write or call: their translation, and that it is right. -/
set_option linter.unusedVariables false
set_option linter.unusedSimpArgs false
namespace Go.Sf

def zeroT (P : Program) (t : TypeId) : Option Value := (P.info? t).bind (·.zero)
def elemT (P : Program) (e : TypeId) : Option (Nat × Nat × Value) :=
  match P.info? e with
  | some i => match i.zero with
    | some z => if z.cells.size = i.size ∧ 0 < i.size ∧ 0 < i.bytes then some (i.size, i.bytes, z) else none
    | none => none
  | none => none
def trCallee (n : Nat) (f : Operand) : Option (Option Nat) :=
  match f with
  | .func k => some (some k)
  | .tmp t => if t < n then some none else none
  | _ => none
def trE (P : Program) (n : Nat) (mt : Bool) (o : Op) : Option (EK × List Operand) :=
  match o with
  | .alloc e => (zeroT P e).map fun z => (.alloc (z.cells.toList.map ofCell), [])
  | .box _ x => some (.box, [x])
  | .buildSlice t len parts => match P.underlying t with
    | some (.slice e) => match elemT P e with
      | some (s, _, z) => if len * s ≤ 16777216 then some (.bslice (!mt) (((List.range (len * s)).map fun i => z.cells[i % z.cells.size]!).map ofCell) (parts.toList.map fun (i, _) => (i * s, s)) len, parts.toList.map (·.2)) else none
      | none => none
    | _ => none
  | .store t a x => (szT P t).bind fun sz => (sizeT P t).bind fun k => if sz = none → k = 1 then some (.store sz, [a, x]) else none
  | .convert src dst x => match P.underlying src, P.underlying dst with
    | some .string, some (.slice e) => match P.underlying e with
      | some (.int .u8) => some (.s2b, [x])
      | _ => none
    | some (.slice _), some (.slice e) => match P.underlying e with
      | some (.int .u8) => if src = dst then some (.mark, [x]) else none
      | _ => none
    | _, _ => none
  | .makeSlice t l c => match P.underlying t with
    | some (.slice e) => match elemT P e with
      | some (s, b, z) => some (.mkslice (!mt) (z.cells.toList.map ofCell) b, [l, c])
      | none => none
    | _ => none
  | .makeMap _ none => some (.mkmap, [])
  | .mapUpdate t m k x => match P.underlying t with
    | some (.map kt _) => (skT P kt).map fun sk => (.mset sk, [m, k, x])
    | _ => none
  | .range t x => match P.underlying t with
    | some (.map _ _) => some (.rng, [x])
    | _ => none
  | .next x false => some (.nxt, [x])
  | .entry x => some (.ent, [x])
  | .call { callee := .builtin .delete, args, argTypes } => match args.toList, argTypes[0]? with
    | [m, k], some t => match P.underlying t with
      | some (.map kt _) => (skT P kt).map fun sk => (.mdel sk, [m, k])
      | _ => none
    | _, _ => none
  | .call { callee := .builtin .append, args, argTypes } => match args.toList, argTypes.toList with
    | [s, x], [t, t2] => match P.underlying t, P.underlying t2 with
      | some (.slice e), some (.slice _) | some (.slice e), some .string => match elemT P e with
        | some (s', b, z) => some (.append (!mt) s' b, [s, x])
        | none => none
      | some (.slice e), some (.int _) => match elemT P e with
        | some (_, b, z) => some (.appz (z.cells.toList.map ofCell) b, [s, x])
        | none => none
      | _, _ => none
    | _, _ => none
  | .call { callee := .builtin .copy, args, argTypes } => match args.toList, argTypes[0]? with
    | [s, x], some t => match P.underlying t with
      | some (.slice e) => match elemT P e with
        | some (s', _, _) => some (.copy s', [s, x])
        | none => none
      | _ => none
    | _, _ => none
  | .call { callee := .builtin .clear, args, argTypes } => match args.toList, argTypes[0]? with
    | [s], some t => match P.underlying t with
      | some (.slice e) => match elemT P e with
        | some (_, _, z) => some (.clr (z.cells.toList.map ofCell), [s])
        | none => none
      | _ => none
    | _, _ => none
  | .call { callee := .value f, args, .. } => match f with
    | .func k => if callB P k then some (.call k, args.toList) else some (.ext k, args.toList)
    | .tmp t => some (.callv, .tmp t :: args.toList)
    | _ => none
  | _ => none

/-- From every state that S stands for, the operation does what K asks. -/
def StepOK (P : Program) (n : Nat) (o : Oper) (S : AS) (K : AS → Prop) : Prop :=
  ∀ M a w, TRel n M S.T a.tmps → Rel M S.H w → a.defers = [] → ∀ Q, o.wp P a w (Fin n M S.H w K) Q

theorem TRel.put {n : Nat} {M : Mem} {T : Nat → AV} {a : Act} (r : TRel n M T a.tmps) (d : Option Nat) {v : AV} {x : Value} (h : VRel M v x) : TRel n M (Sf.put T d v) (a.put d x).tmps := by
  cases d with
  | none => exact r
  | some d => exact r.set h
theorem put_defers {a : Act} (h : a.defers = []) (d : Option Nat) (x : Value) : (a.put d x).defers = [] := by cases d <;> exact h
/-- An operation that yields a value in a world. -/
theorem wp_value {P : Program} {n : Nat} {o : Oper} {S : AS} {K : AS → Prop} {M M' : Mem} {a : Act} {w w' : World} {x : Value} {v : AV} {H' : Heap} {Q : Exit → Act → World → Prop}
    (ht : TRel n M S.T a.tmps) (hd : a.defers = []) (hrun : (execOp a.eval o).run P w = .ok (.value x) w') (hv : VRel M' v x) (hr : Rel M' H' w') (hf : Fr M S.H w M' H' w')
    (hK : K ⟨put S.T o.dst v, H'⟩) : o.wp P a w (Fin n M S.H w K) Q := by
  unfold Oper.wp
  rw [hrun]
  exact ⟨M', _, (ht.mono hf.mle).put o.dst hv, hr, put_defers hd _ _, hf, hK⟩
theorem wp_skip' {P : Program} {n : Nat} {o : Oper} {S : AS} {K : AS → Prop} {M : Mem} {a : Act} {w w' : World} {H' : Heap} {Q : Exit → Act → World → Prop}
    (ht : TRel n M S.T a.tmps) (hd : a.defers = []) (hdst : o.dst = none) (hrun : (execOp a.eval o).run P w = .ok .skip w') (hr : Rel M H' w') (hf : Fr M S.H w M H' w')
    (hK : K ⟨S.T, H'⟩) : o.wp P a w (Fin n M S.H w K) Q := by
  unfold Oper.wp
  rw [hrun]
  refine ⟨M, ⟨S.T, H'⟩, ?_, hr, put_defers hd _ _, hf, hK⟩
  rw [hdst]; exact ht

theorem one_rel {M : Mem} {v : AV} {x : Value} (h : VRel M v x) (hv : v.one = true) : one1 x = true := by
  cases v <;> simp only [AV.one, reduceCtorEq] at hv <;> simp only [VRel] at h
  case iptr => obtain ⟨_, _, _, rfl, _⟩ := h; rfl
  case imm => obtain ⟨_, _, _, rfl, _⟩ := h; rfl
  case fn => obtain ⟨_, _, rfl, _⟩ := h; rfl
  case emp => obtain ⟨_, _, rfl⟩ := h; rfl
  all_goals (subst h; rfl)
theorem ones_rel {M : Mem} : ∀ {vs : List AV} {xs : List Value}, VRels M vs xs → vs.all AV.one = true → ∀ x ∈ xs, one1 x = true
  | [], xs, h, k, x, hx => by simp only [VRels] at h; subst h; cases hx
  | v :: vs, xs, h, k, x, hx => by
    simp only [VRels] at h
    obtain ⟨y, ys, rfl, h1, h2⟩ := h
    simp only [List.all_cons, Bool.and_eq_true] at k
    rcases List.mem_cons.1 hx with rfl | hx
    · exact one_rel h1 k.1
    · exact ones_rel h2 k.2 x hx
theorem elemT_spec {P : Program} {e : TypeId} {s b : Nat} {z : Value} (h : elemT P e = some (s, b, z)) : ElemOK P e s b z := by
  unfold elemT at h
  split at h
  · rename_i i hi
    split at h
    · rename_i z' hz
      split at h
      · rename_i hc
        cases h
        exact ⟨⟨i, hi, rfl, rfl, hz⟩, hc.1, hc.2.1, hc.2.2⟩
      · cases h
    · cases h
  · cases h
theorem take_full {c : List Value} {k : Nat} (h : c.length = k) : c.take k = c := by rw [← h]; simp
theorem brel_cells {M : Mem} {vs : List AV} {xs : List Value} (h : VRels M vs xs) (rest : List Value) (e : TypeId) : BRel M (.cells vs (xs.length + rest.length)) (.cells (xs ++ rest).toArray e (0, 0)) := by
  simp only [BRel]
  refine ⟨_, e, (0, 0), rfl, by simp, by rw [h.length]; omega, rfl, ?_⟩
  rw [h.length]; simpa using h

/-- alloc, box: a new variable. -/
theorem newVar_step {P : Program} {n : Nat} {o : Oper} {S : AS} {K : AS → Prop} {M : Mem} {a : Act} {w : World} {Q : Exit → Act → World → Prop} (ht : TRel n M S.T a.tmps) (hr : Rel M S.H w) (hd : a.defers = [])
    {e : TypeId} {c : Array Value} {cs : List AV} (hc : VRels M cs c.toList) (hrun : (execOp a.eval o).run P w = .ok (.value (.pointer (some ⟨w.heap.size, 0, none⟩))) (wpush w (.cells c e (0, 0))))
    (hK : ∀ b, S.H b = none → K ⟨put S.T o.dst (.ptr b 0), S.H.set b (some (.cells cs cs.length))⟩) : o.wp P a w (Fin n M S.H w K) Q := by
  have hb : BRel M (.cells cs cs.length) (.cells c e (0, 0)) := by
    have := brel_cells hc [] e
    rw [hc.length]; simpa using this
  exact wp_value ht hd hrun (by simp only [VRel]) (hr.push hb) (Fr.push _ _ _ _ _) (hK _ (hr.fresh (Nat.le_refl _)))
theorem alloc_sound {P : Program} {n : Nat} {o : Oper} {S : AS} {K : AS → Prop} {M : Mem} {a : Act} {w : World} {Q : Exit → Act → World → Prop} (ht : TRel n M S.T a.tmps) (hr : Rel M S.H w) (hd : a.defers = [])
    {e : TypeId} {z : Value} (ho : o.op = .alloc e) (hz : zeroT P e = some z) (hv : vcE P (.alloc (z.cells.toList.map ofCell)) [] o.dst S K) : o.wp P a w (Fin n M S.H w K) Q := by
  obtain ⟨i, hi, hiz⟩ := Option.bind_eq_some_iff.1 hz
  refine newVar_step (e := e) (c := z.cells) ht hr hd (ofCells_rel M _) ?_ hv
  unfold execOp
  rw [ho]
  simp only [Instr.alloc, run_bind, run_zeroValue hi hiz, newVar, run_newRow, run_pure]
theorem box_sound {P : Program} {n : Nat} {o : Oper} {S : AS} {K : AS → Prop} {M : Mem} {a : Act} {w : World} {Q : Exit → Act → World → Prop} (ht : TRel n M S.T a.tmps) (hr : Rel M S.H w) (hd : a.defers = [])
    {e : TypeId} {x : Operand} (ho : o.op = .box e x) {v : AV} (hx : VRel M v (a.eval x)) (hv : vcE P .box [v] o.dst S K) : o.wp P a w (Fin n M S.H w K) Q := by
  simp only [vcE] at hv
  refine newVar_step (e := e) (c := (a.eval x).cells) ht hr hd (known_cells hx hv.1) ?_ hv.2
  unfold execOp
  rw [ho]
  simp only [Instr.box, run_bind, newVar, run_newRow, run_pure]
/-- A new slice: held for good, or to be written. -/
theorem newSlice_step {P : Program} {n : Nat} {o : Oper} {S : AS} {K : AS → Prop} {M : Mem} {a : Act} {w : World} {Q : Exit → Act → World → Prop} (ht : TRel n M S.T a.tmps) (hr : Rel M S.H w) (hd : a.defers = [])
    {e : TypeId} {xs rest : List Value} {cs : List AV} {fr : Nat × Nat} {d : Nat} (hc : VRels M cs xs) {len cap : Nat} (hlc : len ≤ cap) (frozen : Bool)
    (hrun : (execOp a.eval o).run P w = .ok (.value (.slice (some ⟨w.heap.size, 0, none⟩) len cap)) (wpush { w with drawn := d } (.cells (xs ++ rest).toArray e fr)))
    (hfr : frozen = false → fr = (0, 0))
    (hK : if frozen then ∃ c, (∀ x, c = some x → cap = x) ∧ K ⟨put S.T o.dst (.imm cs len c), S.H⟩ else ∀ b, S.H b = none → K ⟨put S.T o.dst (.sl b 0 len cap), S.H.set b (some (.cells cs (xs.length + rest.length)))⟩) :
    o.wp P a w (Fin n M S.H w K) Q := by
  cases frozen with
  | true =>
    simp only [if_true] at hK
    obtain ⟨c, hcc, hK⟩ := hK
    obtain ⟨h1, h2⟩ := (hr.drawn d).push_hold (xs ++ rest).toArray e fr
    refine wp_value ht hd hrun ?_ h1 ((Fr.drawn M S.H w d).trans h2) hK
    simp only [VRel]
    refine ⟨_, xs, cap, rfl, hcc, hlc, fun h => (by cases h), fun x hx => ?_, VRels.mono h2.mle _ _ hc⟩
    cases hx
    refine ⟨fun _ => rfl, fun j u hj => ?_⟩
    simp only [madd, if_true, Nat.zero_add]
    have : j < xs.length := (List.getElem?_eq_some_iff.1 hj).1
    simp only [List.getElem?_append_left this]
    exact hj
  | false =>
    simp only [Bool.false_eq_true, if_false] at hK
    have hfr := hfr rfl
    subst hfr
    exact wp_value ht hd hrun (by simp only [VRel]) ((hr.drawn d).push (brel_cells hc rest e)) ((Fr.drawn M S.H w d).trans (Fr.push _ _ _ _ _)) (hK _ (hr.fresh (Nat.le_refl _)))
/-! ### Maps -/
theorem run_setObj {P : Program} {w : World} {b : Nat} {xs : Array MapEntry} {clock : Nat} (h : w.heap[b]? = some (.map xs clock)) (ys : Array MapEntry) (c : Nat) : (setObj b (.map ys c)).run P w = .ok () (wset w b (.map ys c)) := by
  simp only [setObj, Sem.run, h]
  rfl
theorem mkmap_sound {P : Program} {n : Nat} {o : Oper} {S : AS} {K : AS → Prop} {M : Mem} {a : Act} {w : World} {Q : Exit → Act → World → Prop} (ht : TRel n M S.T a.tmps) (hr : Rel M S.H w) (hd : a.defers = [])
    {t : TypeId} (ho : o.op = .makeMap t none) (hv : vcE P .mkmap [] o.dst S K) : o.wp P a w (Fin n M S.H w K) Q := by
  simp only [vcE] at hv
  refine wp_value (x := .map (some w.heap.size)) ht hd (w' := wpush w (.map #[] 0)) ?_ (by simp only [VRel]) (hr.push (k := .map []) ?_) (Fr.push _ _ _ _ _) (hv _ (hr.fresh (Nat.le_refl _)))
  · unfold execOp
    rw [ho]
    rfl
  · simp only [BRel]
    exact ⟨#[], 0, rfl, MapKept.stamped_empty 0, by simp [VRels], by simp [VRels]⟩
theorem wp_skipA {P : Program} {n : Nat} {o : Oper} {S : AS} {K : AS → Prop} {M : Mem} {a : Act} {w w' : World} {H' : Heap} {Q : Exit → Act → World → Prop}
    (ht : TRel n M S.T a.tmps) (hd : a.defers = []) (hrun : (execOp a.eval o).run P w = .ok .skip w') (hr : Rel M H' w') (hf : Fr M S.H w M H' w')
    (hK : K ⟨put S.T o.dst .any, H'⟩) : o.wp P a w (Fin n M S.H w K) Q := by
  unfold Oper.wp
  rw [hrun]
  exact ⟨M, ⟨put S.T o.dst .any, H'⟩, ht.put o.dst (by simp only [VRel]), hr, put_defers hd _ _, hf, hK⟩
theorem scal_same {M : Mem} {sk : SK} {a b : AV} {x y : Value} (ha : VRel M a x) (hb : VRel M b y) (h : scalEq sk a b = some true) : Instr.sameBits 10000 y x = true := by
  cases sk with
  | k3 =>
    obtain ⟨i1, i2, i3, a1, a2, a3, b1, b2, b3, rfl, rfl, hr⟩ := scal_form h
    have h2 := hr.symm
    simp only [Bool.and_eq_true, decide_eq_true_eq] at h2
    obtain ⟨rfl, rfl, rfl⟩ := h2
    rw [agg3 ha, agg3 hb]
    simp [Instr.sameBits]
  | i =>
    unfold scalEq at h
    split at h <;> rename_i heq <;> try (cases heq)
    · split at h
      · rename_i hk
        subst hk
        simp only [Option.some.injEq, decide_eq_true_eq] at h; subst h
        rw [vr_int ha, vr_int hb]; simp [Instr.sameBits]
      · cases h
    · cases h
  | b =>
    unfold scalEq at h
    split at h <;> rename_i heq <;> try (cases heq)
    · simp only [Option.some.injEq, decide_eq_true_eq] at h; subst h
      rw [vr_bool ha, vr_bool hb]; simp [Instr.sameBits]
    · cases h
  | s =>
    unfold scalEq at h
    split at h <;> rename_i heq <;> try (cases heq)
    · simp only [Option.some.injEq, decide_eq_true_eq] at h; subst h
      rw [vr_str ha, vr_str hb]; simp only [Instr.sameBits]; rw [beq_toListBytes, ba_eq]; simp
    · cases h
theorem scal_val {M : Mem} {sk : SK} {a b : AV} {x y : Value} (ha : VRel M a x) (hb : VRel M b y) (h : scalEq sk a b = some true) : x = y := by
  cases sk with
  | k3 =>
    obtain ⟨i1, i2, i3, a1, a2, a3, b1, b2, b3, rfl, rfl, hr⟩ := scal_form h
    have h2 := hr.symm
    simp only [Bool.and_eq_true, decide_eq_true_eq] at h2
    obtain ⟨rfl, rfl, rfl⟩ := h2
    rw [agg3 ha, agg3 hb]
  | i =>
    unfold scalEq at h
    split at h <;> rename_i heq <;> try (cases heq)
    · split at h
      · rename_i hk
        subst hk
        simp only [Option.some.injEq, decide_eq_true_eq] at h; subst h
        rw [vr_int ha, vr_int hb]
      · cases h
    · cases h
  | b =>
    unfold scalEq at h
    split at h <;> rename_i heq <;> try (cases heq)
    · simp only [Option.some.injEq, decide_eq_true_eq] at h; subst h
      rw [vr_bool ha, vr_bool hb]
    · cases h
  | s =>
    unfold scalEq at h
    split at h <;> rename_i heq <;> try (cases heq)
    · simp only [Option.some.injEq, decide_eq_true_eq] at h; subst h
      rw [vr_str ha, vr_str hb]
    · cases h
theorem scal_ne {M : Mem} {sk : SK} {a b : AV} {x y : Value} (ha : VRel M a x) (hb : VRel M b y) (h : scalEq sk a b = some false) : y ≠ x := by
  cases sk with
  | k3 =>
    obtain ⟨i1, i2, i3, a1, a2, a3, b1, b2, b3, rfl, rfl, hr⟩ := scal_form h
    rw [agg3 ha, agg3 hb]
    intro e
    simp only [Value.agg.injEq] at e
    have e2 := congrArg Array.toList e
    simp only [List.cons.injEq, Value.int.injEq, true_and, and_true] at e2
    obtain ⟨rfl, rfl, rfl⟩ := e2
    simp at hr
  | i =>
    unfold scalEq at h
    split at h <;> rename_i heq <;> try (cases heq)
    · split at h
      · rename_i hk
        subst hk
        simp only [Option.some.injEq, decide_eq_false_iff_not] at h
        rw [vr_int ha, vr_int hb]
        intro e; cases e; exact h rfl
      · cases h
    · cases h
  | b =>
    unfold scalEq at h
    split at h <;> rename_i heq <;> try (cases heq)
    · simp only [Option.some.injEq, decide_eq_false_iff_not] at h
      rw [vr_bool ha, vr_bool hb]
      intro e; cases e; exact h rfl
    · cases h
  | s =>
    unfold scalEq at h
    split at h <;> rename_i heq <;> try (cases heq)
    · simp only [Option.some.injEq, decide_eq_false_iff_not] at h
      rw [vr_str ha, vr_str hb]
      intro e; cases e; exact h rfl
    · cases h
theorem find_none {M : Mem} {sk : SK} {k : AV} {x : Value} (hk : VRel M k x) : ∀ {es : List (AV × AV)} {xs : List MapEntry}, VRels M (es.map (·.1)) (xs.map (·.key)) → findI sk k es = some none → ∀ e ∈ xs, e.key ≠ x
  | [], xs, h, e, y, hy => by
    simp only [List.map_nil, VRels, List.map_eq_nil_iff] at h; subst h; cases hy
  | e0 :: es, [], h, e, y, hy => by cases hy
  | e0 :: es, x0 :: xs, h, e, y, hy => by
    simp only [List.map_cons, VRels] at h
    obtain ⟨_, _, h1, h2, h3⟩ := h
    cases h1
    simp only [findI] at e
    split at e
    · simp at e
    · rename_i hs
      split at e
      · rename_i r hr
        simp only [Option.some.injEq, Option.map_eq_none_iff] at e
        subst e
        rcases List.mem_cons.1 hy with rfl | hy
        · exact scal_ne hk h2 hs
        · exact find_none hk h3 hr y hy
      · cases e
    · cases e
theorem findI_eq {sk : SK} {k : AV} : ∀ {es : List (AV × AV)} {j : Nat} {e : AV × AV}, findI sk k es = some (some j) → es[j]? = some e → scalEq sk k e.1 = some true
  | [], j, e, h, h' => by simp at h'
  | e0 :: es, j, e, h, h' => by
    simp only [findI] at h
    split at h
    · rename_i hs; cases h; simp at h'; subst h'; exact hs
    · split at h
      · rename_i r hr
        cases r with
        | none => simp at h
        | some j' => simp at h; subst h; exact findI_eq hr (by simpa using h')
      · cases h
    · cases h
theorem mset_sound {P : Program} {n : Nat} {o : Oper} {S : AS} {K : AS → Prop} {M : Mem} {a : Act} {w : World} {Q : Exit → Act → World → Prop} (ht : TRel n M S.T a.tmps) (hr : Rel M S.H w) (hd : a.defers = [])
    {t kt et : TypeId} {m k x : Operand} (ho : o.op = .mapUpdate t m k x) (hu : P.underlying t = some (.map kt et)) {sk : SK} (hs : skT P kt = some sk) {as : List AV} (hx : VRels M as ([m, k, x].map a.eval))
    (hv : vcE P (.mset sk) as o.dst S K) : o.wp P a w (Fin n M S.H w K) Q := by
  obtain ⟨v1, as1, rfl, h1, hx⟩ := vrc hx
  obtain ⟨v2, as2, rfl, h2, hx⟩ := vrc hx
  obtain ⟨v3, as3, rfl, h3, hx⟩ := vrc hx
  simp only [List.map_nil] at hx
  have : as3 = [] := by cases as3 with | nil => rfl | cons _ _ => have := hx.length; simp at this
  subst this
  cases v1 <;> (try (simp only [vcE] at hv; done))
  rename_i b
  simp only [vcE] at hv
  split at hv
  · rename_i es hb
    obtain ⟨kb, hb, hkb⟩ := mapB_some hb
    split at hv
    · rename_i r hr'
      obtain ⟨o', ho', hrel⟩ := hr.live _ _ hb
      replace hrel := hrel.mapB hkb
      simp only [BRel] at hrel
      obtain ⟨xs, clock, rfl, hst, hk, hvv⟩ := hrel
      simp only [VRel] at h1
      have hl := hvv.length
      simp only [List.length_map] at hl
      have hfind := run_findKey hs h2 hk hr' w
      have hbase : execOp a.eval o = (do Instr.mapUpdate t (a.eval m) (a.eval k) (a.eval x); pure .skip) := by
        unfold execOp; rw [ho]
      cases r with
      | none =>
        refine wp_skipA ht hd (w' := wset w b (.map (xs.push { key := a.eval k, val := a.eval x, born := clock }) (clock + 1))) ?_ (hr.wset hb (k' := .map (msetV v2 v3 es none)) ?_) (Fr.wset hb _ _) hv
        · rw [hbase, h1]
          unfold Instr.mapUpdate
          simp only [run_bind, run_underlying hu, run_getMap ho', run_checkKey hs h2 (findI_ok hr'), hfind, Option.bind_none, run_setObj ho', run_pure]
        · simp only [BRel, msetV]
          refine ⟨_, _, rfl, MapKept.stamped_push hst (find_none h2 hk hr'), ?_, ?_⟩
          · simp only [List.map_append, List.map_cons, List.map_nil, Array.toList_push]
            exact hk.append (.cons h2 .nil)
          · simp only [List.map_append, List.map_cons, List.map_nil, Array.toList_push]
            exact hvv.append (.cons h3 .nil)
      | some j =>
        have hj' := findI_lt hr'
        have hj : j < xs.toList.length := by rw [← hl]; exact hj'
        have hj2 : j < xs.size := by simpa using hj
        have hsame : Instr.sameBits 10000 xs[j].key (a.eval k) = true := by
          obtain ⟨u, hu1, hu2⟩ := hk.get (i := j) (a := es[j].1) (by simp [List.getElem?_eq_getElem hj'])
          rw [List.getElem?_map, List.getElem?_eq_getElem hj] at hu1
          simp only [Option.map_some, Option.some.injEq, Array.getElem_toList] at hu1
          rw [hu1]
          exact scal_same h2 hu2 (findI_eq hr' (List.getElem?_eq_getElem hj'))
        refine wp_skipA ht hd (w' := wset w b (.map (xs.modify j fun e => { e with key := a.eval k, val := a.eval x }) clock)) ?_ (hr.wset hb (k' := .map (msetV v2 v3 es (some j))) ?_) (Fr.wset hb _ _) hv
        · rw [hbase, h1]
          unfold Instr.mapUpdate
          simp only [run_bind, run_underlying hu, run_getMap ho', run_checkKey hs h2 (findI_ok hr'), hfind, Option.bind_some, List.getElem?_eq_getElem hj, Option.map_some, Instr.keyThatStays, Array.getElem?_eq_getElem hj2, Option.getD_some, hsame, if_true, run_setObj ho', run_pure]
        · simp only [BRel, msetV]
          refine ⟨_, _, rfl, MapKept.stamped_modify hst j _ (fun _ _ => rfl) (fun e _ he => ?_), ?_, ?_⟩
          · rw [Array.getElem?_eq_getElem hj2] at he
            cases he
            obtain ⟨u, hu1, hu2⟩ := hk.get (i := j) (a := es[j].1) (by simp [List.getElem?_eq_getElem hj'])
            rw [List.getElem?_map, List.getElem?_eq_getElem hj] at hu1
            simp only [Option.map_some, Option.some.injEq, Array.getElem_toList] at hu1
            show a.eval k = xs[j].key
            rw [hu1]
            exact scal_val h2 hu2 (findI_eq hr' (List.getElem?_eq_getElem hj'))
          · rw [modify_eq _ _ _ (Array.getElem?_eq_getElem hj2), Array.toList_setIfInBounds, List.map_set, List.map_set]
            exact hk.set j h2
          · rw [modify_eq _ _ _ (Array.getElem?_eq_getElem hj2), Array.toList_setIfInBounds, List.map_set, List.map_set]
            exact hvv.set j h3
    · exact hv.elim
  · exact hv.elim
theorem VRels.eraseIdx {M : Mem} {as : List AV} {vs : List Value} (h : VRels M as vs) (j : Nat) : VRels M (as.eraseIdx j) (vs.eraseIdx j) := by
  rw [List.eraseIdx_eq_take_drop_succ, List.eraseIdx_eq_take_drop_succ]
  exact (h.take j).append (h.drop (j + 1))
theorem map_erase {α β : Type} (f : α → β) (l : List α) (j : Nat) : (l.eraseIdx j).map f = (l.map f).eraseIdx j := by
  rw [List.eraseIdx_eq_take_drop_succ, List.eraseIdx_eq_take_drop_succ, List.map_append, List.map_take, List.map_drop]
theorem mdel_sound {P : Program} {n : Nat} {o : Oper} {S : AS} {K : AS → Prop} {M : Mem} {a : Act} {w : World} {Q : Exit → Act → World → Prop} (ht : TRel n M S.T a.tmps) (hr : Rel M S.H w) (hd : a.defers = [])
    {t kt et : TypeId} {args : Array Operand} {ts : Array TypeId} {m k : Operand} (ho : o.op = .call { callee := .builtin .delete, args := args, argTypes := ts }) (ha : args.toList = [m, k]) (hts : ts[0]? = some t) (hu : P.underlying t = some (.map kt et)) {sk : SK} (hs : skT P kt = some sk)
    {as : List AV} (hx : VRels M as ([m, k].map a.eval)) (hv : vcE P (.mdel sk) as o.dst S K) : o.wp P a w (Fin n M S.H w K) Q := by
  have ha2 : args = #[m, k] := by apply Array.toList_inj.1; simpa using ha
  have hbase : execOp a.eval o = (do pure (.value (← Builtin.delete_ ts o.type #[a.eval m, a.eval k]))) := by
    have e1 : #[m, k].map a.eval = #[a.eval m, a.eval k] := by simp
    have e2 : execOp a.eval o = (do pure (.value (← Builtin.delete_ ts o.type (#[m, k].map a.eval)))) := by
      unfold execOp; rw [ho, ha2]; rfl
    rw [e2, e1]
  obtain ⟨v1, v2, rfl, h1, h2⟩ := vr2 hx
  cases v1 <;> (try (simp only [vcE] at hv; done))
  case nilm =>
    simp only [vcE] at hv
    simp only [VRel] at h1
    refine wp_value (x := .tuple #[]) ht hd (w' := w) ?_ (by simp only [VRel]; exact ⟨#[], rfl, .nil⟩) hr (.refl _ _ _) hv.2
    rw [hbase, h1]
    unfold Builtin.delete_
    have hts' : ts[0]? = some t := hts
    simp only [hts', List.getElem?_toArray, List.getElem?_cons_zero, List.getElem?_cons_succ, run_bind, run_underlying hu, run_checkKey hs h2 hv.1, run_pure]
  rename_i b
  simp only [vcE] at hv
  split at hv
  · rename_i es hb
    obtain ⟨kb, hb, hkb⟩ := mapB_some hb
    split at hv
    · rename_i r hr'
      obtain ⟨o', ho', hrel⟩ := hr.live _ _ hb
      replace hrel := hrel.mapB hkb
      simp only [BRel] at hrel
      obtain ⟨xs, clock, rfl, hst, hk, hvv⟩ := hrel
      simp only [VRel] at h1
      have hl := hvv.length
      simp only [List.length_map] at hl
      have hfind := run_findKey hs h2 hk hr' w
      have hts' : ts[0]? = some t := hts
      cases r with
      | none =>
        refine wp_value (x := .tuple #[]) ht hd (w' := wset w b (.map xs clock)) ?_ (by simp only [VRel]; exact ⟨#[], rfl, .nil⟩) (hr.wset hb (k' := .map (mdelV es none)) ?_) (Fr.wset hb _ _) hv
        · rw [hbase, h1]
          unfold Builtin.delete_
          simp only [hts', List.getElem?_toArray, List.getElem?_cons_zero, List.getElem?_cons_succ, run_bind, run_underlying hu, run_getMap ho', run_checkKey hs h2 (findI_ok hr'), hfind, Option.bind_none, run_setObj ho', run_pure]
        · simp only [BRel, mdelV]
          exact ⟨_, _, rfl, hst, hk, hvv⟩
      | some j =>
        have hj' := findI_lt hr'
        have hj : j < xs.toList.length := by rw [← hl]; exact hj'
        have hj2 : j < xs.size := by simpa using hj
        refine wp_value (x := .tuple #[]) ht hd (w' := wset w b (.map (xs.eraseIdxIfInBounds j) clock)) ?_ (by simp only [VRel]; exact ⟨#[], rfl, .nil⟩) (hr.wset hb (k' := .map (mdelV es (some j))) ?_) (Fr.wset hb _ _) hv
        · rw [hbase, h1]
          unfold Builtin.delete_
          simp only [hts', List.getElem?_toArray, List.getElem?_cons_zero, List.getElem?_cons_succ, run_bind, run_underlying hu, run_getMap ho', run_checkKey hs h2 (findI_ok hr'), hfind, Option.bind_some, List.getElem?_eq_getElem hj, Option.map_some, run_setObj ho', run_pure]
        · simp only [BRel, mdelV]
          have he : (xs.eraseIdxIfInBounds j).toList = xs.toList.eraseIdx j := by
            unfold Array.eraseIdxIfInBounds
            rw [dif_pos hj2, Array.toList_eraseIdx]
          refine ⟨_, _, rfl, MapKept.stamped_erase hst j, ?_, ?_⟩
          · rw [he, map_erase, map_erase]; exact hk.eraseIdx j
          · rw [he, map_erase, map_erase]; exact hvv.eraseIdx j
    · exact hv.elim
  · exact hv.elim
theorem wdrawn (w : World) : { w with drawn := w.drawn } = w := rfl
end Go.Sf

end
section
/- The operations that make, write or call are right: slices, stores, appends, calls. -/
set_option linter.unusedVariables false
set_option linter.unusedSimpArgs false
namespace Go.Sf
section
variable {P : Program} {n : Nat} {o : Oper} {S : AS} {K : AS → Prop} {M : Mem} {a : Act} {w : World} {Q : Exit → Act → World → Prop}

theorem foldl_size (off : Nat) : ∀ (zs : List (Value × Nat)) (cs : Array Value), (zs.foldl (fun cs x => cs.setIfInBounds (off + x.2) x.1) cs).size = cs.size
  | [], cs => rfl
  | z :: zs, cs => by rw [List.foldl_cons, foldl_size off zs]; simp
theorem fill_size {place : Nat → Option (Nat × Nat)} : ∀ (l : List (Nat × Value)) (cs ys : Array Value), Instr.fill place cs l = some ys → ys.size = cs.size
  | [], cs, ys, h => by simp only [Instr.fill, Option.some.injEq] at h; rw [h]
  | (i, v) :: l, cs, ys, h => by
    simp only [Instr.fill] at h
    split at h
    · cases h
    · rename_i off size hp
      split at h
      · cases h
      · have := fill_size l _ ys h
        rw [this]
        rw [← Array.foldl_toList]
        exact foldl_size _ _ _
theorem bslice_sound (ht : TRel n M S.T a.tmps) (hr : Rel M S.H w) (hd : a.defers = []) {t e : TypeId} {len : Nat} {parts : Array (Nat × Operand)} {s b : Nat} {z : Value} (ho : o.op = .buildSlice t len parts) (hu : P.underlying t = some (.slice e))
    (he : ElemOK P e s b z) (hl : len * s ≤ 16777216) {as : List AV} (hx : VRels M as ((parts.toList.map (·.2)).map a.eval)) {frozen : Bool}
    (hv : vcE P (.bslice frozen (((List.range (len * s)).map fun i => z.cells[i % z.cells.size]!).map ofCell) (parts.toList.map fun (i, _) => (i * s, s)) len) as o.dst S K) : o.wp P a w (Fin n M S.H w K) Q := by
  simp only [vcE] at hv
  obtain ⟨hk, hv⟩ := hv
  split at hv
  · rename_i cs hcs
    obtain ⟨i, hi, his, hib, hiz⟩ := he.info
    have hz0 : ((Array.range (len * s)).map fun i => z.cells[i % z.cells.size]!).toList = (List.range (len * s)).map fun i => z.cells[i % z.cells.size]! := by
      simp [Array.toList_range]
    obtain ⟨ys, h1, h2⟩ := fill_sound (M := M) (place := fun i => some (i * s, s)) (parts.toList.map (·.1)) (parts.toList.map fun (i, _) => (i * s, s)) as ((parts.toList.map (·.2)).map a.eval) _
      ((Array.range (len * s)).map fun i => z.cells[i % z.cells.size]!) cs (by simp [List.map_map, Function.comp_def]) hx hk (by rw [hz0]; exact ofCells_rel M _) hcs
    have hzip : ((parts.toList.map (·.1)).zip ((parts.toList.map (·.2)).map a.eval)) = (parts.map fun (i, x) => (i, a.eval x)).toList := by
      simp only [Array.toList_map, List.map_map]
      induction parts.toList with
      | nil => rfl
      | cons a l ih => simp [ih]
    rw [hzip] at h1
    have hysz : ys.size = len * s := by rw [fill_size _ _ _ h1]; simp
    have hcl : cs.length = len * s := by rw [h2.length]; simp [hysz]
    have hrun : (execOp a.eval o).run P w = .ok (.value (.slice (some ⟨w.heap.size, 0, none⟩) len len)) (wpush { w with drawn := w.drawn } (.cells (ys.toList ++ []).toArray e (0, 0))) := by
      unfold execOp
      rw [ho]
      simp only [Instr.buildSlice, run_bind, run_underlying hu, run_sizeOf hi, his, run_pure]
      rw [if_neg (show ¬ len * s > 2 ^ 24 by omega)]
      by_cases hz : len * s = 0
      · rw [if_pos hz]
        simp only [run_bind, run_pure]
        have hz0' : ((Array.range (len * s)).map fun i => (#[] : Array Value)[i % (#[] : Array Value).size]!) = ((Array.range (len * s)).map fun i => z.cells[i % z.cells.size]!) := by rw [hz]; simp
        rw [hz0', h1]
        simp only [run_bind, run_newRow, run_pure]
        simp
      · rw [if_neg hz]
        simp only [run_bind, run_zeroValue hi hiz, run_pure, h1, run_newRow]
        simp
    refine newSlice_step ht hr hd (e := e) (xs := ys.toList) (rest := []) (d := w.drawn) h2 (Nat.le_refl _) frozen hrun (fun _ => rfl) ?_
    cases frozen with
    | true => simp only [if_true] at hv ⊢; exact ⟨some len, fun x hx => by cases hx; rfl, hv⟩
    | false =>
      simp only [Bool.false_eq_true, if_false] at hv ⊢
      intro b hb
      have := hv b hb
      rw [hcl] at this
      simpa [hysz] using this
  · exact hv.elim
theorem replicate_cells (z : Array Value) (m : Nat) : ((Array.range (m * z.size)).map (z[· % z.size]!)).toList = (List.replicate m z.toList).flatten := by
  induction m with
  | zero => simp
  | succ m ih =>
    rw [List.replicate_succ', List.flatten_append, ← ih]
    simp only [Array.toList_map, Array.toList_range]
    rw [show (m + 1) * z.size = m * z.size + z.size by rw [Nat.succ_mul], List.range_add, List.map_append]
    congr 1
    apply List.ext_getElem
    · simp
    · intro i h1 h2
      simp only [List.getElem_map, List.getElem_range, List.map_map, Function.comp_apply]
      have hi : i < z.size := by simpa using h1
      rw [Nat.add_comm, Nat.add_mul_mod_self_right, Nat.mod_eq_of_lt hi, getElem!_pos z i hi]
      simp
theorem rep_rel (M : Mem) (z : List Value) (m : Nat) : VRels M (List.replicate m (z.map ofCell)).flatten (List.replicate m z).flatten := by
  induction m with
  | zero => exact .nil
  | succ m ih => simp only [List.replicate_succ, List.flatten_cons]; exact (ofCells_rel M z).append ih
theorem wrap_id {k : Int} (h0 : 0 ≤ k) (h1 : k ≤ 9223372036854775807) : IntKind.i64.wrap k = k := IntWalk.i64_in k (by omega)
theorem mkslice_sound (ht : TRel n M S.T a.tmps) (hr : Rel M S.H w) (hd : a.defers = []) {t e : TypeId} {l c : Operand} {s b : Nat} {z : Value} (ho : o.op = .makeSlice t l c) (hu : P.underlying t = some (.slice e))
    (he : ElemOK P e s b z) {as : List AV} (hx : VRels M as ([l, c].map a.eval)) {frozen : Bool} (hv : vcE P (.mkslice frozen (z.cells.toList.map ofCell) b) as o.dst S K) : o.wp P a w (Fin n M S.H w K) Q := by
  obtain ⟨v1, v2, rfl, h1, h2⟩ := vr2 hx
  cases v1 <;> cases v2 <;> simp only [vcE] at hv
  rename_i k1 nn k2 cc
  obtain ⟨p1, p2, p3, p4, hv⟩ := hv
  have e1 := vr_int h1
  have e2 := vr_int h2
  obtain ⟨i, hi, his, hib, hiz⟩ := he.info
  have hcz := he.cells
  have hbp := he.bytes
  have hcb : ¬ ((b : Int) * cc > 2 ^ 48) := by rw [Int.mul_comm]; omega
  have hnb : ¬ ((b : Int) * nn > 2 ^ 48) := by
    have : (b : Int) * nn ≤ b * cc := Int.mul_le_mul_of_nonneg_left p2 (by omega)
    omega
  obtain ⟨m, rfl⟩ := Int.eq_ofNat_of_zero_le p1
  obtain ⟨k, rfl⟩ := Int.eq_ofNat_of_zero_le (Int.le_trans p1 p2)
  have hmk : m ≤ k := by omega
  have hrun : (execOp a.eval o).run P w = .ok (.value (.slice (some ⟨w.heap.size, 0, none⟩) m k)) (wpush { w with drawn := w.drawn } (.cells ((List.replicate m z.cells.toList).flatten ++ (List.replicate (k - m) z.cells.toList).flatten).toArray e (0, 0))) := by
    unfold execOp
    rw [ho]
    simp only [Instr.makeSlice, e1, e2, run_bind, run_underlying hu, asInt, asIntOf, run_pure, run_typeInfo hi, hib, his, run_sizeOf hi, wrap_id p1 (show (m : Int) ≤ 9223372036854775807 by omega), wrap_id (Int.le_trans p1 p2) p4]
    rw [if_neg (by simp only [Bool.or_eq_true, decide_eq_true_eq]; omega)]
    simp only [run_bind, run_ask, run_pure, Int.toNat_natCast, run_sizeOf hi, his]
    have hcells : ∀ (zz : Array Value), (k * s = 0 → zz = #[]) → (k * s ≠ 0 → zz = z.cells) → ((Array.range (k * s)).map (zz[· % zz.size]!)) = ((List.replicate m z.cells.toList).flatten ++ (List.replicate (k - m) z.cells.toList).flatten).toArray := by
      intro zz q1 q2
      apply Array.toList_inj.1
      by_cases hks : k * s = 0
      · have hk0 : k = 0 := by
          rcases Nat.mul_eq_zero.1 hks with h | h
          · exact h
          · have := he.sz; omega
        have hm0 : m = 0 := by omega
        subst hk0; subst hm0; simp
      · rw [q2 hks, ← hcz, replicate_cells]
        simp only [← List.flatten_append, List.replicate_append_replicate]
        rw [show m + (k - m) = k by omega]
    by_cases hks : k * s = 0
    · rw [if_pos hks]
      simp only [run_bind, run_pure]
      rw [hcells #[] (fun _ => rfl) (fun h => absurd hks h)]
      simp only [run_newRow, run_pure]
    · rw [if_neg hks]
      simp only [run_bind, run_zeroValue hi hiz, run_pure]
      rw [hcells z.cells (fun h => absurd h hks) (fun _ => rfl)]
      simp only [run_newRow, run_pure]
  refine newSlice_step ht hr hd (e := e) (d := w.drawn) (rep_rel M z.cells.toList m) hmk frozen hrun (fun _ => rfl) ?_
  simp only [Int.toNat_natCast] at hv
  cases frozen with
  | true => simp only [if_true] at hv ⊢; exact ⟨some k, fun x hx => by cases hx; rfl, hv⟩
  | false =>
    simp only [Bool.false_eq_true, if_false] at hv ⊢
    intro b' hb'
    have := hv b' hb'
    have hlen : (List.replicate m z.cells.toList).flatten.length + (List.replicate (k - m) z.cells.toList).flatten.length = k * (z.cells.toList.map ofCell).length := by
      simp only [List.length_flatten, List.map_replicate, List.sum_replicate_nat, List.length_map, ← Nat.add_mul]
      rw [show m + (k - m) = k by omega]
    rw [hlen]; exact this
end
end Go.Sf

end
section
/- The operations that make, write or call are right: stores, strings' bytes, appends, calls; and all of them together. -/
set_option linter.unusedVariables false
set_option linter.unusedSimpArgs false
namespace Go.Sf
section
variable {P : Program} {n : Nat} {o : Oper} {S : AS} {K : AS → Prop} {M : Mem} {a : Act} {w : World} {Q : Exit → Act → World → Prop}

theorem fr_ok {n : Nat} {fr : Nat × Nat} (h : fr.1 = fr.2 ∨ n ≤ fr.1) : ∀ j, j < n → ¬ (fr.1 ≤ j ∧ j < fr.2) := by
  intro j hj; omega
theorem splice_take {c ys : List Value} {o k L : Nat} (hy : ys.length = k) (h1 : o + k ≤ L) (h2 : L ≤ c.length) :
    (c.take o ++ ys ++ c.drop (o + k)).take L = (c.take L).take o ++ ys ++ (c.take L).drop (o + k) := by
  have hl : (c.take o ++ ys).length = o + k := by simp; omega
  rw [List.take_append, hl, List.take_of_length_le (by omega), List.drop_take, List.take_take, Nat.min_eq_left (by omega)]
theorem store_sound (ht : TRel n M S.T a.tmps) (hr : Rel M S.H w) (hd : a.defers = []) {t : TypeId} {x y : Operand} {sz : Option Nat} {k : Nat} (ho : o.op = .store t x y) (hsz : SzP P t sz) {i : TypeInfo} (hi : P.info? t = some i) (hik : i.size = k) (hk1 : sz = none → k = 1)
    (hdst : o.dst = none) {v1 v2 : AV} (h1 : VRel M v1 (a.eval x)) (h2 : VRel M v2 (a.eval y)) (hv : vcE P (.store sz) [v1, v2] o.dst S K) : o.wp P a w (Fin n M S.H w K) Q := by
  have key : ∀ (b off : Nat) (vs cs : List AV) (m : Nat), a.eval x = .pointer (some ⟨b, off, none⟩) → S.H b = some (.cells vs m) → cs.length = k → off + k ≤ vs.length → VRels M cs (a.eval y).cells.toList → cs.all AV.one = true →
      K ⟨S.T, S.H.set b (some (.cells (vs.take off ++ cs ++ vs.drop (off + k)) m))⟩ → o.wp P a w (Fin n M S.H w K) Q := by
    intro b off vs cs m hx hb hck hle hcs hone hK
    obtain ⟨ob, hob, hbr⟩ := hr.live b _ hb
    simp only [BRel] at hbr
    obtain ⟨c, e, fr, rfl, hcm, hlm, hfr, hrel⟩ := hbr
    have hlen := hcs.length
    have hys : (a.eval y).cells.toList.length = k := by omega
    have hrun : (execOp a.eval o).run P w = .ok .skip (if (a.eval y).cells.toList = [] then w else wset w b (.cells (splice c.toList (off + 0) (a.eval y).cells.toList).toArray e fr)) := by
      unfold execOp
      rw [ho]
      simp only [Instr.storeAt, hx, run_bind, run_sureAddr, storeVar, run_sizeOf hi, hik]
      have hsz' : ¬ ((a.eval y).cells.size ≠ k) := by
        have : (a.eval y).cells.size = k := by simpa using hys
        omega
      rw [if_neg hsz']
      simp only [run_bind, run_pure]
      rw [run_storeCells (a.eval y).cells.toList 0 w c hob (by omega) (fr_ok (.inl hfr)) (ones_rel hcs hone)]
    split at hrun
    · rename_i hnil
      have hk0 : k = 0 := by rw [hnil] at hys; simpa using hys.symm
      refine wp_skip' ht hd hdst hrun hr (.refl _ _ _) ?_
      have : S.H.set b (some (.cells (vs.take off ++ cs ++ vs.drop (off + k)) m)) = S.H := by
        subst hk0
        have hcs0 : cs = [] := List.length_eq_zero_iff.1 hck
        subst hcs0
        simp only [List.append_nil, Nat.add_zero, List.take_append_drop]
        funext q
        unfold Heap.set
        by_cases hq : q = b
        · rw [if_pos hq, hq, hb]
        · rw [if_neg hq]
      rwa [this] at hK
    · refine wp_skip' ht hd hdst hrun (hr.wset hb ?_) (Fr.wset hb _ _) hK
      simp only [BRel]
      refine ⟨_, e, fr, rfl, ?_, ?_, hfr, ?_⟩
      · simp only [List.size_toArray]; rw [splice_length (by rw [hys]; simp; omega)]; simpa using hcm
      · have hl3 : (vs.take off ++ cs ++ vs.drop (off + k)).length = vs.length := by simp; omega
        rw [hl3]; exact hlm
      · have hl2 : (vs.take off ++ cs ++ vs.drop (off + k)).length = vs.length := by simp; omega
        rw [hl2]
        have e1 : (splice c.toList (off + 0) (a.eval y).cells.toList).take vs.length = (c.toList.take vs.length).take off ++ (a.eval y).cells.toList ++ (c.toList.take vs.length).drop (off + k) := by
          unfold splice
          rw [hys]
          simp only [Nat.add_zero]
          exact splice_take hys (by omega) (by simp; omega)
        simp only []
        rw [e1]
        exact ((hrel.take off).append hcs).append (hrel.drop (off + k))
  cases sz with
  | none =>
    have hk := hk1 rfl
    subst hk
    cases v1 <;> (try (simp only [vcE] at hv; done))
    rename_i b off
    simp only [vcE] at hv
    obtain ⟨hone, hv⟩ := hv
    split at hv
    · rename_i vs m hb
      obtain ⟨hlt, hv⟩ := hv
      have hkn : v2.known = true := by cases v2 <;> first | rfl | (simp [AV.one] at hone)
      have hcl : v2.cellsL = [v2] := by cases v2 <;> first | rfl | (simp [AV.one] at hone)
      have hcs := known_cells h2 hkn
      rw [hcl] at hcs
      refine key b off vs [v2] m (vr_ptr h1) hb rfl (by omega) hcs (by simp [hone]) ?_
      have : vs.take off ++ [v2] ++ vs.drop (off + 1) = vs.set off v2 := by
        rw [List.set_eq_take_append_cons_drop, if_pos hlt]; simp
      rw [this]; exact hv
    · exact hv.elim
  | some kk =>
    have hkk : kk = k := by
      obtain ⟨_, i', hi', hs'⟩ := hsz
      rw [hi] at hi'; cases hi'; omega
    subst hkk
    cases v1 <;> (try (simp only [vcE] at hv; done))
    cases v2 <;> (try (simp only [vcE] at hv; done))
    rename_i b off cs
    simp only [vcE] at hv
    obtain ⟨hone, hl, hv⟩ := hv
    split at hv
    · rename_i vs m hb
      obtain ⟨hlt, hv⟩ := hv
      have hcs := known_cells h2 rfl
      exact key b off vs cs m (vr_ptr h1) hb hl hlt hcs hone hv
    · exact hv.elim
theorem splA_nil (vs : List AV) (o : Nat) : splA vs o [] = vs := by simp [splA]
/-- Cells of a live block are written. -/
theorem write_rel {H : Heap} (hr : Rel M H w) {b k : Nat} {vs : List AV} (hb : H b = some (.cells vs k)) {ca : Array Value} {el : TypeId} {fr : Nat × Nat} (hob : w.heap[b]? = some (.cells ca el fr)) (hcm : ca.size = k) (hlm : vs.length ≤ k)
    (hfr : fr.1 = fr.2) (hrel : VRels M vs (ca.toList.take vs.length)) {o' : Nat} {new : List AV} {xs : List Value} (hxs : VRels M new xs) (ho : o' ≤ vs.length) (hfit : o' + new.length ≤ k) :
    Rel M (H.set b (some (.cells (splA vs o' new) k))) (if xs = [] then w else wset w b (.cells (splice ca.toList o' xs).toArray el fr)) ∧
      Fr M H w M (H.set b (some (.cells (splA vs o' new) k))) (if xs = [] then w else wset w b (.cells (splice ca.toList o' xs).toArray el fr)) := by
  have hl := hxs.length
  split
  · rename_i hx0
    subst hx0
    have hn0 : new = [] := by simpa using hl
    subst hn0
    have : H.set b (some (.cells (splA vs o' []) k)) = H := by
      rw [splA_nil]
      funext q
      unfold Heap.set
      by_cases hq : q = b
      · rw [if_pos hq, hq, hb]
      · rw [if_neg hq]
    rw [this]
    exact ⟨hr, .refl _ _ _⟩
  · refine ⟨hr.wset hb ?_, Fr.wset hb _ _⟩
    simp only [BRel]
    have hsl : (splA vs o' new).length = max vs.length (o' + new.length) := by
      unfold splA; simp only [List.length_append, List.length_take, List.length_drop]; omega
    refine ⟨_, el, fr, rfl, ?_, by rw [hsl]; omega, hfr, ?_⟩
    · simp only [List.size_toArray]; rw [splice_length (by simp; omega)]; simpa using hcm
    · simp only []
      rw [hsl]
      by_cases hc : o' + new.length ≤ vs.length
      · have e1 : (splice ca.toList o' xs).take (max vs.length (o' + new.length)) = (ca.toList.take vs.length).take o' ++ xs ++ (ca.toList.take vs.length).drop (o' + new.length) := by
          rw [Nat.max_eq_left hc]
          unfold splice
          rw [← hl]
          exact splice_take hl.symm hc (by simp; omega)
        rw [e1]
        unfold splA
        exact ((hrel.take o').append hxs).append (hrel.drop _)
      · have e1 : (splice ca.toList o' xs).take (max vs.length (o' + new.length)) = (ca.toList.take vs.length).take o' ++ xs := by
          rw [Nat.max_eq_right (by omega)]
          unfold splice
          have e2 : (ca.toList.take o' ++ xs).length = o' + new.length := by
            simp only [List.length_append, List.length_take, Array.length_toList]; omega
          rw [← e2, List.take_left, List.take_take, Nat.min_eq_left ho]
        rw [e1]
        unfold splA
        rw [List.drop_eq_nil_of_le (by omega), List.append_nil]
        exact (hrel.take o').append hxs
theorem cell_fz {b : Nat} {ca : Array Value} {el : TypeId} {fr fr' : Nat × Nat} (ho : w.heap[b]? = some (.cells ca el fr)) (b' o' : Nat) : (wset w b (.cells ca el fr')).cell? ⟨b', o', none⟩ = w.cell? ⟨b', o', none⟩ := by
  by_cases hb : b' = b
  · subst hb
    have hlt := (Array.getElem?_eq_some_iff.1 ho).1
    simp only [World.cell?, ho, wset_self w _ hlt]
  · exact cell_of_block (wset_ne w _ hb)
/-- A block that is held for good is marked. -/
theorem Rel.fz {H : Heap} (r : Rel M H w) {b : Nat} {ca : Array Value} {el : TypeId} {fr fr' : Nat × Nat} (hb : H b = none) (ho : w.heap[b]? = some (.cells ca el fr)) : Rel M H (Sf.wset w b (.cells ca el fr')) :=
  ⟨fun b' o' v e => ⟨(r.mem b' o' v e).1, by rw [cell_fz ho]; exact (r.mem b' o' v e).2⟩, fun b' k e => by
    have hne : b' ≠ b := fun h => by rw [h, hb] at e; cases e
    obtain ⟨o', h1, h2⟩ := r.live b' k e
    exact ⟨o', by rw [wset_ne w _ hne]; exact h1, h2⟩⟩
/-- How a block is marked as one that a string may share: behind its end. -/
def fzn (n : Nat) (fr : Nat × Nat) : Nat × Nat := if fr.1 == fr.2 then (n, n + 1) else (min fr.1 n, max fr.2 (n + 1))
theorem run_mark {b off : Nat} {c : Array Value} {e : TypeId} {fr : Nat × Nat} (h : w.heap[b]? = some (.cells c e fr)) : (markStringish ⟨b, off, none⟩).run P w = .ok () (wset w b (.cells c e (fzn c.size fr))) := by
  have hs : (shape b).run P w = .ok (some (e, c.size)) w := by simp only [shape, Sem.run, World.shape?, h]
  unfold markStringish
  simp only [run_bind, hs, freeze, Sem.run]
  congr 1
  unfold World.freeze wset
  rw [if_neg (by omega)]
  congr 1
  rw [modify_eq _ _ _ h]
  rfl
theorem fzn_ok {n : Nat} {fr : Nat × Nat} (h : fr.1 = fr.2 ∨ n ≤ fr.1) : (fzn n fr).1 = (fzn n fr).2 ∨ n ≤ (fzn n fr).1 := by
  unfold fzn
  split
  · exact .inr (Nat.le_refl _)
  · rename_i hne
    rcases h with h | h
    · exact absurd (by simpa using h) hne
    · right; simp only; omega
theorem wset_wpush (w : World) (o o' : Obj) : wset (wpush w o) w.heap.size o' = wpush w o' := by
  unfold wset wpush
  congr 1
  apply Array.ext_getElem?
  intro i
  rw [Array.getElem?_setIfInBounds, Array.getElem?_push, Array.getElem?_push]
  by_cases hi : w.heap.size = i
  · subst hi; simp
  · rw [if_neg hi, if_neg (Ne.symm hi), if_neg (Ne.symm hi)]
theorem s2b_sound (ht : TRel n M S.T a.tmps) (hr : Rel M S.H w) (hd : a.defers = []) {src dst e : TypeId} {x : Operand} (ho : o.op = .convert src dst x) (hs : P.underlying src = some .string) (hds : P.underlying dst = some (.slice e)) (he : P.underlying e = some (.int .u8))
    {v : AV} (h1 : VRel M v (a.eval x)) (hv : vcE P .s2b [v] o.dst S K) : o.wp P a w (Fin n M S.H w K) Q := by
  cases v <;> (try (simp only [vcE] at hv; done))
  rename_i s
  simp only [vcE] at hv
  have hx := vr_str h1
  have hbytes : VRels M (s.data.toList.map byteV) (s.data.map fun b => Value.int .u8 b.toNat).toList := by
    simp only [Array.toList_map]
    induction s.data.toList with
    | nil => exact .nil
    | cons b l ih => exact .cons (by simp only [byteV, VRel]) ih
  let q := w.tape w.drawn (.appendCap s.size 0 e) % (2 ^ 63 - s.size)
  have hrun : ∃ fr, (execOp a.eval o).run P w = .ok (.value (.slice (some ⟨w.heap.size, 0, none⟩) s.size (s.size + q))) (wpush { w with drawn := w.drawn + 1 } (.cells ((s.data.map fun (b : UInt8) => Value.int .u8 b.toNat).toList ++ List.replicate q (Value.int .u8 0)).toArray e fr)) := by
    refine ⟨(s.size + q, s.size + q + 1), ?_⟩
    unfold execOp
    rw [ho]
    simp only [hx, convert, run_bind, run_underlying hs, run_underlying hds, run_underlying he, Conv.stringToBytes, run_appendCap, run_newRow, run_pure]
    have hcap : s.size + w.tape w.drawn (.appendCap s.size 0 e) % (2 ^ 63 - s.size) - s.size = q := by show s.size + q - s.size = q; omega
    rw [hcap]
    have hrep : ∀ c : Array Value, (wpush { w with drawn := w.drawn + 1 } (.cells c e (0, 0))).heap[w.heap.size]? = some (.cells c e (0, 0)) := fun c => wpush_new { w with drawn := w.drawn + 1 } _
    rw [run_mark (hrep _)]
    simp only []
    have hw := fun c o => wset_wpush { w with drawn := w.drawn + 1 } (.cells c e (0, 0)) o
    simp only at hw
    rw [hw]
    have hsz : s.data.size = s.size := rfl
    congr 3
    · apply Array.toList_inj.1; simp
    · simp [fzn, hsz]
  obtain ⟨fr, hrun⟩ := hrun
  refine newSlice_step ht hr hd (e := e) (fr := fr) hbytes (len := s.size) (cap := s.size + q) (by omega) true hrun (fun h => by cases h) ?_
  simp only [if_true]
  exact ⟨none, fun x hx => (by cases hx), hv⟩
end
end Go.Sf

end
section
/- The operations that make, write or call are right: appends, calls; and all of them together. -/
set_option linter.unusedVariables false
set_option linter.unusedSimpArgs false
namespace Go.Sf
section
variable {P : Program} {n : Nat} {o : Oper} {S : AS} {K : AS → Prop} {M : Mem} {a : Act} {w : World} {Q : Exit → Act → World → Prop}

/-- A live block's slice, held for good. -/
theorem hold_imm {H : Heap} (hr : Rel M H w) {b k : Nat} {cs : List AV} (hb : H b = some (.cells cs k)) {len cap : Nat} (hl : len ≤ cap) {c : Option Nat} (hc : ∀ x, c = some x → cap = x) :
    ∃ M', Rel M' (H.set b none) w ∧ Fr M H w M' (H.set b none) w ∧ VRel M' (.imm cs len c) (.slice (some ⟨b, 0, none⟩) len cap) := by
  obtain ⟨ob, hob, hbr⟩ := hr.live b _ hb
  simp only [BRel] at hbr
  obtain ⟨ca, e, fr, rfl, hcm, hlm, hfr, hrel⟩ := hbr
  obtain ⟨h1, h2⟩ := hr.hold hb hob
  refine ⟨_, h1, h2, ?_⟩
  simp only [VRel]
  refine ⟨_, ca.toList.take cs.length, cap, rfl, hc, hl, fun h => (by cases h), fun x hx => ?_, VRels.mono h2.mle _ _ hrel⟩
  cases hx
  refine ⟨fun _ => rfl, fun j u hj => ?_⟩
  simp only [madd, if_true, Nat.zero_add]
  rw [List.getElem?_take] at hj
  split at hj
  · exact hj
  · cases hj
theorem set_set (H : Heap) (b : Nat) (x y : Option Blk) : (H.set b x).set b y = H.set b y := by
  funext q
  unfold Heap.set
  split <;> rfl
theorem mark_sound (ht : TRel n M S.T a.tmps) (hr : Rel M S.H w) (hd : a.defers = []) {src dst e1 e : TypeId} {x : Operand} (ho : o.op = .convert src dst x) (hs : P.underlying src = some (.slice e1)) (hds : P.underlying dst = some (.slice e)) (he : P.underlying e = some (.int .u8)) (heq : src = dst)
    {v : AV} (h1 : VRel M v (a.eval x)) (hv : vcE P .mark [v] o.dst S K) : o.wp P a w (Fin n M S.H w K) Q := by
  cases v <;> (try (simp only [vcE] at hv; done))
  rename_i b off m c
  cases off with
  | succ off => simp only [vcE] at hv
  | zero =>
    simp only [vcE] at hv
    split at hv
    · rename_i cs k hb
      obtain ⟨rfl, rfl, hl, hK⟩ := hv
      obtain ⟨ob, hob, hbr⟩ := hr.live b _ hb
      have hbr0 := hbr
      simp only [BRel] at hbr
      obtain ⟨ca, el, fr, rfl, hcm, hlm, hfr, hrel⟩ := hbr
      have hx := vr_sl h1
      subst heq
      have hrun : (execOp a.eval o).run P w = .ok (.value (.slice (some ⟨b, 0, none⟩) c c)) (wset w b (.cells ca el (fzn ca.size fr))) := by
        unfold execOp
        rw [ho]
        simp only [hx, convert, run_bind, run_underlying hs, beq_self_eq_true, run_underlying hds]
        have he' : P.underlying e1 = some (.int .u8) := by rw [hs] at hds; cases hds; exact he
        rw [hs] at hds; cases hds
        simp only [run_underlying he, run_bind, run_mark hob, run_pure]
      obtain ⟨M', q1, q2, q3⟩ := hold_imm hr hb (Nat.le_refl c) (c := some c) (fun x hx => by cases hx; rfl)
      refine wp_value ht hd hrun q3 (q1.fz (Heap.set_self _ _ _) hob) ⟨rfl, rfl, rfl, by rw [wset_size]; exact Nat.le_refl _, q2.mle, fun b' hb' hn => ?_⟩ hK
      have hne : b' ≠ b := fun h => by rw [h, hb] at hn; cases hn
      obtain ⟨h1, h2, h3⟩ := q2.block b' hb' hn
      exact ⟨wset_ne w _ hne, h2, h3⟩
    · exact hv.elim

/-- What is put behind: its cells. -/
theorem source_read {H : Heap} (hr : Rel M H w) {sz : Nat} {v : AV} {x : Value} (h : VRel M v x) {cs : List AV} (e : cellsOf H sz v = some cs) {m : Nat} (hm : lenOf v = some m) :
    ∃ xs, VRels M cs xs ∧ xs.length = m * sz ∧ Builtin.lenOf x = Sem.pure m ∧ ∀ d, (Builtin.firstCells sz m x).run P { w with drawn := d } = .ok xs.toArray { w with drawn := d } := by
  by_cases hs : ∃ s, v = .str s
  · obtain ⟨s, rfl⟩ := hs
    simp only [cellsOf] at e
    split at e
    · rename_i hsz
      cases e
      simp only [lenOf, Option.some.injEq] at hm; subst hm
      have hx := vr_str h
      subst hx
      refine ⟨(s.data.map fun (b : UInt8) => Value.int .u8 b.toNat).toList, ?_, by simp [hsz], rfl, fun d => ?_⟩
      · simp only [Array.toList_map]
        induction s.data.toList with
        | nil => exact .nil
        | cons b l ih => exact .cons (by simp only [byteV, VRel]) ih
      · simp only [Builtin.firstCells, run_pure]
        congr 1
        apply Array.toList_inj.1
        simp
    · cases e
  · obtain ⟨A, k, c, xs, rfl, h1, h2, h3, h4, h5⟩ := cellsOf_read hr h (fun s hs' => hs ⟨s, hs'⟩) e
    rw [h1] at hm; cases hm
    refine ⟨xs, h3, h2, rfl, fun d => run_firstCells h2 (fun hA => (h4 hA).2) fun ad hA => ⟨(h5 ad hA).1, fun j u hj => (h5 ad hA).2 j u hj⟩⟩


theorem append_sound (ht : TRel n M S.T a.tmps) (hr : Rel M S.H w) (hd : a.defers = []) {args : Array Operand} {ts : Array TypeId} {s x : Operand} {t t2 e : TypeId} {sz bytes : Nat} {z : Value} (ho : o.op = .call { callee := .builtin .append, args := args, argTypes := ts }) (hargs : args = #[s, x]) (hts : ts = #[t, t2])
    (hu : P.underlying t = some (.slice e)) (h2 : (∃ e2, P.underlying t2 = some (.slice e2)) ∨ P.underlying t2 = some .string) (he : ElemOK P e sz bytes z)
    {v1 v2 : AV} (hs : VRel M v1 (a.eval s)) (hx : VRel M v2 (a.eval x)) {frozen : Bool} (hv : vcE P (.append frozen sz bytes) [v1, v2] o.dst S K) : o.wp P a w (Fin n M S.H w K) Q := by
  subst hargs; subst hts
  -- the operation is the built-in's run
  have hop : ∀ {v' : Value} {w' : World}, (Builtin.append_ #[t, t2] o.type #[a.eval s, a.eval x]).run P w = .ok v' w' → (execOp a.eval o).run P w = .ok (.value v') w' := by
    intro v' w' h
    have e1 : #[s, x].map a.eval = #[a.eval s, a.eval x] := by simp
    have e2 : execOp a.eval o = (do pure (.value (← Builtin.append_ #[t, t2] o.type (#[s, x].map a.eval)))) := by
      unfold execOp
      rw [ho]
      rfl
    rw [e2, e1, run_bind, h]; rfl
  simp only [vcE] at hv
  split at hv
  case h_3 => exact hv.elim
  case h_2 =>
    rename_i new k m q1 q2 q3 q4
    obtain ⟨hfz, hin⟩ := hv
    subst hfz
    obtain ⟨xs, hxs, hxl, hlx, hfx⟩ := source_read (P := P) hr hx q2 q4
    have hfx0 : (Builtin.firstCells sz m (a.eval x)).run P w = .ok xs.toArray w := hfx w.drawn
    unfold AppIn at hin
    split at hin
    · rename_i b k' c
      split at hin
      · rename_i vs kk hb
        obtain ⟨hone, hle, hk, hfit, hK⟩ := hin
        simp only [lenOf, Option.some.injEq] at q3
        subst q3
        subst hk
        have hones := ones_rel hxs hone
        have hA := vr_sl hs
        obtain ⟨ob', hob, hbr⟩ := hr.live b _ hb
        simp only [BRel] at hbr
        obtain ⟨ca, el, fr, rfl, hcm, hlm, hfr, hrel⟩ := hbr
        have hl := hxs.length
        have hxlen : k' * sz + xs.length ≤ ca.size := by
          rw [hxl, hcm, ← Nat.add_mul]; exact Nat.mul_le_mul_right _ hfit
        have hst := run_storeCells (P := P) (o := k' * sz) xs 0 w ca hob (by omega) (fr_ok (.inl hfr)) hones
        have hrun := hop (by rw [hA]; exact run_append_fits (ty := o.type) hu h2 he hlx hfx0 hfit (A := some ⟨b, 0, none⟩) (by simp only [add_off, Nat.zero_add]; exact hst))
        obtain ⟨n1, n2⟩ := write_rel hr hb hob hcm hlm hfr hrel hxs hle (by omega)
        exact wp_value ht hd hrun (by simp only [VRel]) n1 n2 hK
      · exact hin.elim
    · exact hin.elim
  rename_i old ob new k m q1 q2 q3 q4
  obtain ⟨hone, hbytes, hv⟩ := hv
  obtain ⟨xs, hxs, hxl, hlx, hfx⟩ := source_read (P := P) hr hx q2 q4
  have hfx0 : (Builtin.firstCells sz m (a.eval x)).run P w = .ok xs.toArray w := hfx w.drawn
  have hones := ones_rel hxs hone
  have hsz := he.sz
  -- a new array
  have grow : ∀ (A : Option Addr) (cap : Nat) (olds : List Value), a.eval s = .slice A k cap → cap < k + m → VRels M old olds → (∀ d, (Builtin.firstCells sz k (.slice A k cap)).run P { w with drawn := d } = .ok olds.toArray { w with drawn := d }) → olds.length = k * sz →
      (v1.isNils = true → new ≠ []) → o.wp P a w (Fin n M S.H w K) Q := by
    intro A cap olds hA hcap hold hfo hol hnn
    obtain ⟨cap', rest, d, g1, g2, g3⟩ := run_append_grow (P := P) (w := w) (ty := o.type) hu h2 he hlx hfo hfx hcap hbytes
    rw [← hA] at g3
    have hrun := hop g3
    rw [show olds ++ xs ++ rest = (olds ++ xs) ++ rest from rfl] at hrun
    have hlen : (olds ++ xs).length + rest.length = cap' * sz := by
      rw [List.length_append, hol, hxl, g2, ← Nat.add_mul, ← Nat.add_mul]
      congr 1; omega
    have sub : ∀ b, S.H.less ob b = S.H b ∨ S.H.less ob b = none := by
      intro b
      cases ob with
      | none => exact .inl rfl
      | some b' =>
        unfold Heap.less Heap.set
        by_cases hb : b = b'
        · exact .inr (if_pos hb)
        · exact .inl (if_neg hb)
    have hr' : Rel M (S.H.less ob) w := hr.forget sub
    have hf' : Fr M S.H w M (S.H.less ob) w := (Fr.refl M S.H w).forget sub
    cases frozen with
    | true =>
      simp only [if_true] at hv
      obtain ⟨p1, p2⟩ := (hr'.drawn d).push_hold ((olds ++ xs) ++ rest).toArray e (0, 0)
      refine wp_value ht hd hrun ?_ p1 (hf'.trans ((Fr.drawn M _ w d).trans p2)) hv
      simp only [VRel]
      refine ⟨_, olds ++ xs, cap', rfl, fun x hx => (by cases hx), g1, fun h => (by cases h), fun y hy => ?_, VRels.mono p2.mle _ _ (hold.append hxs)⟩
      cases hy
      refine ⟨fun _ => rfl, fun j u hj => ?_⟩
      simp only [madd, if_true, Nat.zero_add]
      have : j < (olds ++ xs).length := (List.getElem?_eq_some_iff.1 hj).1
      rw [List.getElem?_append_left this]; exact hj
    | false =>
      simp only [Bool.false_eq_true, if_false] at hv
      have hb := brel_cells (hold.append hxs) rest e
      rw [hlen] at hb
      refine wp_value ht hd hrun (v := .sl w.heap.size 0 (k + m) cap') (by simp only [VRel]) ((hr'.drawn d).push hb) (hf'.trans ((Fr.drawn M _ w d).trans (Fr.push _ _ _ _ _))) ?_
      refine hv.2.2 hnn _ cap' ?_ g1
      rcases sub w.heap.size with h | h
      · rw [h]; exact hr.fresh (Nat.le_refl _)
      · exact h
  unfold appOld at q1
  split at q1
  · -- nil
    cases q1
    simp only [lenOf, Option.some.injEq] at q3; subst q3
    have hA := vr_nils hs
    by_cases hm : m = 0
    · subst hm
      have hx0 : xs = [] := by simpa using hxl
      subst hx0
      have hn0 : new = [] := by simpa using hxs.length
      subst hn0
      have hrun := hop (by rw [hA]; exact run_append_fits (ty := o.type) hu h2 he hlx hfx0 (Nat.le_refl _) rfl)
      cases frozen with
      | true =>
        simp only [if_true] at hv
        refine wp_value ht hd hrun ?_ hr (.refl _ _ _) hv
        simp only [VRel]
        exact ⟨none, [], 0, rfl, fun x hx => (by cases hx), Nat.le_refl _, fun _ => ⟨rfl, rfl⟩, fun y hy => (by cases hy), .nil⟩
      | false =>
        simp only [Bool.false_eq_true, if_false] at hv
        refine wp_value ht hd hrun (v := .nils) ?_ hr (.refl _ _ _) (hv.1 (by first | trivial | rfl) (by first | trivial | rfl))
        simp only [VRel]
    · have hnn : new ≠ [] := by
        intro h
        have := hxs.length
        rw [h, hxl] at this
        rcases Nat.mul_eq_zero.1 this.symm with h | h <;> omega
      exact grow none 0 [] hA (by omega) .nil (fun d => rfl) (by simp) (fun _ => hnn)
  · -- held for good, cut at its end
    rename_i cs k' c
    split at q1
    · rename_i hc
      cases q1
      obtain ⟨rfl, hcl⟩ := hc
      simp only [lenOf, Option.some.injEq] at q3; subst q3
      have hs0 := hs
      simp only [VRel] at hs0
      obtain ⟨A, vs, kc, hA, u2, u3, u4, u5, u6⟩ := hs0
      have hkc := u2 _ rfl
      subst hkc
      by_cases hm : m = 0
      · subst hm
        have hx0 : xs = [] := by simpa using hxl
        subst hx0
        have hn0 : new = [] := by simpa using hxs.length
        subst hn0
        have hrun := hop (by rw [hA]; exact run_append_fits (ty := o.type) hu h2 he hlx hfx0 (Nat.le_refl _) (w' := w) (by cases A <;> rfl))
        cases frozen with
        | true =>
          simp only [if_true] at hv
          refine wp_value ht hd hrun ?_ hr (.refl _ _ _) hv
          simp only [VRel, List.append_nil, Nat.add_zero]
          exact ⟨A, vs, _, rfl, fun x hx => (by cases hx), Nat.le_refl _, u4, u5, u6⟩
        | false =>
          simp only [Bool.false_eq_true, if_false] at hv
          exact absurd rfl (hv.2.1 (by first | trivial | rfl))
      · refine grow A _ vs hA (by omega) u6 (fun d => run_firstCells (by rw [← u6.length, hcl]) (fun hA => (u4 hA).2) fun ad hA => ⟨(u5 ad hA).1, fun j u hj => ?_⟩) (by rw [← u6.length, hcl]) (fun h => by simp [AV.isNils] at h)
        exact (hr.mem _ _ _ ((u5 ad hA).2 j u hj)).2
    · cases q1
  · -- a row of the call's own
    rename_i b k' c
    split at q1
    · rename_i vs kk hb
      split at q1
      · rename_i hc
        cases q1
        obtain ⟨hvl, rfl, hkc⟩ := hc
        simp only [lenOf, Option.some.injEq] at q3; subst q3
        have hA := vr_sl hs
        obtain ⟨ob', hob, hbr⟩ := hr.live b _ hb
        simp only [BRel] at hbr
        obtain ⟨ca, el, fr, rfl, hcm, hlm, hfr, hrel⟩ := hbr
        have holds : ∀ j u, (ca.toList.take old.length)[j]? = some u → w.cell? ⟨b, 0 + j, none⟩ = some u := by
          intro j u hj
          rw [List.getElem?_take] at hj
          split at hj
          · rw [Nat.zero_add]; exact cells_at hob hj
          · cases hj
        by_cases hfit : k' + m ≤ c
        · have hxlen : k' * sz + xs.length ≤ ca.size := by
            rw [hxl, hcm, ← Nat.add_mul]; exact Nat.mul_le_mul_right _ hfit
          have hst := run_storeCells (P := P) (o := k' * sz) xs 0 w ca hob (by omega) (fr_ok (.inl hfr)) hones
          have hrun := hop (by rw [hA]; exact run_append_fits (ty := o.type) hu h2 he hlx hfx0 hfit (A := some ⟨b, 0, none⟩) (by simp only [add_off, Nat.zero_add]; exact hst))
          -- the world behind it, and what the heap tells of it
          have hnew : Rel M (S.H.set b (some (.cells (old ++ new) (c * sz)))) (if xs = [] then w else wset w b (.cells (splice ca.toList (k' * sz + 0) xs).toArray el fr)) ∧
              Fr M S.H w M (S.H.set b (some (.cells (old ++ new) (c * sz)))) (if xs = [] then w else wset w b (.cells (splice ca.toList (k' * sz + 0) xs).toArray el fr)) := by
            split
            · rename_i hx0
              subst hx0
              have hn0 : new = [] := by simpa using hxs.length
              subst hn0
              have : S.H.set b (some (.cells (old ++ []) (c * sz))) = S.H := by
                funext q
                unfold Heap.set
                by_cases hq : q = b
                · rw [if_pos hq, hq, hb, List.append_nil]
                · rw [if_neg hq]
              rw [this]
              exact ⟨hr, .refl _ _ _⟩
            · refine ⟨hr.wset hb ?_, Fr.wset hb _ _⟩
              simp only [BRel, Nat.add_zero]
              have hl2 := hxs.length
              refine ⟨_, el, fr, rfl, ?_, ?_, hfr, ?_⟩
              · simp only [List.size_toArray]; rw [splice_length (by simpa using hxlen)]; simpa using hcm
              · rw [List.length_append, hvl, hl2, hxl, ← Nat.add_mul]; exact Nat.mul_le_mul_right _ hfit
              · have : (splice ca.toList (k' * sz) xs).take (old ++ new).length = ca.toList.take old.length ++ xs := by
                  unfold splice
                  rw [hvl]
                  have e1 : (ca.toList.take (k' * sz) ++ xs).length = (old ++ new).length := by
                    simp only [List.length_append, List.length_take, Array.length_toList, hvl, hl2]
                    omega
                  rw [← e1, List.take_left]
                simp only []
                rw [this]
                exact hrel.append hxs
          obtain ⟨n1, n2⟩ := hnew
          cases frozen with
          | true =>
            simp only [if_true] at hv
            obtain ⟨M', p1, p2, p3⟩ := hold_imm n1 (Heap.set_self _ _ _) hfit (c := none) (fun x hx => by cases hx)
            rw [set_set] at p1 p2
            exact wp_value ht hd hrun p3 p1 (n2.trans p2) hv
          | false =>
            simp only [Bool.false_eq_true, if_false] at hv
            have := hv.2.2 (fun h => by simp [AV.isNils] at h) b c (Heap.set_self _ _ _) hfit
            simp only [Heap.less, set_set] at this
            exact wp_value ht hd hrun (by simp only [VRel]) n1 n2 this
        · exact grow _ c _ hA (by omega) hrel (fun d => run_firstCells (by simp [hvl]; rw [hcm]; exact Nat.min_eq_left (Nat.mul_le_mul_right _ hkc)) (fun h => by cases h) fun ad hA => by
            cases hA
            exact ⟨fun _ => rfl, holds⟩) (by simp [hvl]; rw [hcm]; exact Nat.min_eq_left (Nat.mul_le_mul_right _ hkc)) (fun h => by simp [AV.isNils] at h)
      · cases q1
    · cases q1
  · cases q1
end
end Go.Sf

end
section
/- The operations that write are right: copies, clears, a row made longer by zeros; slices that share no memory. -/
set_option linter.unusedVariables false
set_option linter.unusedSimpArgs false
namespace Go.Sf
section
variable {P : Program} {n : Nat} {o : Oper} {S : AS} {K : AS → Prop} {M : Mem} {a : Act} {w : World} {Q : Exit → Act → World → Prop}

/-- What is copied: its first cells. -/
theorem source_prefix {H : Heap} (hr : Rel M H w) {sz : Nat} {v : AV} {x : Value} (h : VRel M v x) {cs : List AV} (e : cellsOf H sz v = some cs) {m : Nat} (hm : lenOf v = some m) {q : Nat} (hq : q ≤ m) :
    ∃ xs, VRels M (cs.take (q * sz)) xs ∧ xs.length = q * sz ∧ Builtin.lenOf x = Sem.pure m ∧ (Builtin.firstCells sz q x).run P w = .ok xs.toArray w := by
  by_cases hs : ∃ s, v = .str s
  · obtain ⟨s, rfl⟩ := hs
    simp only [cellsOf] at e
    split at e
    · rename_i hsz
      cases e
      subst hsz
      simp only [lenOf, Option.some.injEq] at hm; subst hm
      have hx := vr_str h
      subst hx
      refine ⟨((s.data.toList.take q).map fun (b : UInt8) => Value.int .u8 b.toNat), ?_, by simp; exact Nat.min_eq_left hq, rfl, ?_⟩
      · rw [Nat.mul_one, ← List.map_take]
        induction s.data.toList.take q with
        | nil => exact .nil
        | cons b l ih => exact .cons (by simp only [byteV, VRel]) ih
      · simp only [Builtin.firstCells, run_pure]
        congr 1
        apply Array.toList_inj.1
        simp [ByteArray.extract, ByteArray.copySlice]
    · cases e
  · obtain ⟨A, k, c, xs, rfl, h1, h2, h3, h4, h5⟩ := cellsOf_read hr h (fun s hs' => hs ⟨s, hs'⟩) e
    rw [h1] at hm; cases hm
    have hle : q * sz ≤ m * sz := Nat.mul_le_mul_right _ hq
    refine ⟨xs.take (q * sz), h3.take _, by rw [List.length_take, h2]; omega, rfl, (show Builtin.firstCells sz q (.slice A m c) = Builtin.firstCells sz q (.slice A q c) by cases A <;> rfl) ▸ run_firstCells (by rw [List.length_take, h2]; exact Nat.min_eq_left hle) (fun hA => by rw [(h4 hA).2]; simp) fun ad hA => ⟨fun hq0 => (h5 ad hA).1 (show m ≠ 0 by omega), fun j u hj => ?_⟩⟩
    rw [List.getElem?_take] at hj
    split at hj
    · exact (h5 ad hA).2 j u hj
    · cases hj
theorem source_pre {H : Heap} (hr : Rel M H w) {sz : Nat} {v : AV} {x : Value} (h : VRel M v x) {m : Nat} (hm : lenOf v = some m) {q : Nat} (hq : q ≤ m) {cs : List AV} (e : cellsPre H sz v q = some cs) :
    ∃ xs, VRels M cs xs ∧ xs.length = q * sz ∧ Builtin.lenOf x = Sem.pure m ∧ (Builtin.firstCells sz q x).run P w = .ok xs.toArray w := by
  by_cases hs : ∃ b o' k c, v = .sl b o' k c
  · obtain ⟨b, o', k, c, rfl⟩ := hs
    simp only [lenOf, Option.some.injEq] at hm
    subst hm
    simp only [cellsPre] at e
    split at e
    · rename_i vs kk hb
      split at e
      · rename_i hle
        cases e
        have hx := vr_sl h
        subst hx
        have e2 : cellsOf H sz (.sl b o' q c) = some ((vs.drop o').take (q * sz)) := by
          simp only [cellsOf, hb]
          by_cases h0 : q = 0
          · subst h0; simp
          · rw [if_neg h0, if_pos hle]
        have := source_prefix (P := P) hr (v := .sl b o' q c) (x := .slice (some ⟨b, o', none⟩) q c) (by simp only [VRel]) e2 rfl (Nat.le_refl q)
        obtain ⟨xs, h1, h2, h3, h4⟩ := this
        refine ⟨xs, ?_, h2, rfl, h4⟩
        rwa [List.take_take, Nat.min_self] at h1
      · cases e
    · cases e
  · have e2 : (cellsOf H sz v).map (·.take (q * sz)) = some cs := by
      cases v <;> first | exact e | exact absurd ⟨_, _, _, _, rfl⟩ hs
    rw [Option.map_eq_some_iff] at e2
    obtain ⟨cs', e3, rfl⟩ := e2
    exact source_prefix hr h e3 hm hq
theorem copy_sound (ht : TRel n M S.T a.tmps) (hr : Rel M S.H w) (hd : a.defers = []) {args : Array Operand} {ts : Array TypeId} {s x : Operand} {t e : TypeId} {sz bytes : Nat} {z : Value} (ho : o.op = .call { callee := .builtin .copy, args := args, argTypes := ts }) (hargs : args = #[s, x]) (hts : ts[0]? = some t)
    (hu : P.underlying t = some (.slice e)) (he : ElemOK P e sz bytes z) {v1 v2 : AV} (hs : VRel M v1 (a.eval s)) (hx : VRel M v2 (a.eval x)) (hv : vcE P (.copy sz) [v1, v2] o.dst S K) : o.wp P a w (Fin n M S.H w K) Q := by
  subst hargs
  cases v1 <;> (try (simp only [vcE] at hv; done))
  rename_i b off len cap
  simp only [vcE] at hv
  split at hv
  · rename_i m hm
    split at hv
    case h_2 => exact hv.elim
    rename_i vs k new hb hnew
    obtain ⟨hone, hoff, hfit, hK⟩ := hv
    have hmin : Nat.min m len ≤ m := Nat.min_le_left _ _
    obtain ⟨xs, hxs, hxl, hlx, hfx⟩ := source_pre (P := P) hr hx hm hmin hnew
    obtain ⟨i, hi, hsz, hby, hz⟩ := he.info
    obtain ⟨ob', hob, hbr⟩ := hr.live b _ hb
    simp only [BRel] at hbr
    obtain ⟨ca, el, fr, rfl, hcm, hlm, hfr, hrel⟩ := hbr
    have hl := hxs.length
    have hA := vr_sl hs
    have hst := run_storeCells (P := P) (o := off) xs 0 w ca hob (by omega) (fr_ok (.inl hfr)) (ones_rel hxs hone)
    obtain ⟨n1, n2⟩ := write_rel hr hb hob hcm hlm hfr hrel hxs hoff (by omega)
    have hrun : (execOp a.eval o).run P w = .ok (.value (goInt (Nat.min m len))) (if xs = [] then w else wset w b (.cells (splice ca.toList off xs).toArray el fr)) := by
      have e1 : #[s, x].map a.eval = #[a.eval s, a.eval x] := by simp
      have e2 : execOp a.eval o = (do pure (.value (← Builtin.copy_ ts o.type (#[s, x].map a.eval)))) := by
        unfold execOp
        rw [ho]
        rfl
      rw [e2, e1, run_bind]
      have e3 : (Builtin.copy_ ts o.type #[a.eval s, a.eval x]).run P w = .ok (goInt (Nat.min m len)) (if xs = [] then w else wset w b (.cells (splice ca.toList off xs).toArray el fr)) := by
        unfold Builtin.copy_
        simp only [hts, List.getElem?_toArray, List.getElem?_cons_zero, List.getElem?_cons_succ, run_bind, run_underlying hu, hA, hlx, run_pure', run_pure, run_sizeOf hi, hsz, hfx, hst, Nat.add_zero]
      rw [e3]; rfl
    exact wp_value ht hd hrun (by simp only [VRel]; rfl) n1 n2 hK
  · exact hv.elim
theorem zeroCells_list {z : Value} {m : Nat} : (Builtin.zeroCells z.cells m).toList = (List.replicate m z.cells.toList).flatten := by
  unfold Builtin.zeroCells; exact replicate_cells z.cells m
theorem rep_len {α : Type} (m : Nat) (l : List α) : (List.replicate m l).flatten.length = m * l.length := by
  induction m with
  | zero => simp
  | succ m ih => rw [List.replicate_succ, List.flatten_cons, List.length_append, ih, Nat.add_mul]; omega
theorem clr_sound (ht : TRel n M S.T a.tmps) (hr : Rel M S.H w) (hd : a.defers = []) {args : Array Operand} {ts : Array TypeId} {s : Operand} {t e : TypeId} {sz bytes : Nat} {z : Value} (ho : o.op = .call { callee := .builtin .clear, args := args, argTypes := ts }) (hargs : args = #[s]) (hts : ts[0]? = some t)
    (hu : P.underlying t = some (.slice e)) (he : ElemOK P e sz bytes z) {v1 : AV} (hs : VRel M v1 (a.eval s)) (hv : vcE P (.clr (z.cells.toList.map ofCell)) [v1] o.dst S K) : o.wp P a w (Fin n M S.H w K) Q := by
  subst hargs
  obtain ⟨i, hi, hsz, hby, hz⟩ := he.info
  have hop : ∀ {v' : Value} {w' : World}, (Builtin.clear_ ts o.type #[a.eval s]).run P w = .ok v' w' → (execOp a.eval o).run P w = .ok (.value v') w' := by
    intro v' w' h
    have e1 : #[s].map a.eval = #[a.eval s] := by simp
    have e2 : execOp a.eval o = (do pure (.value (← Builtin.clear_ ts o.type (#[s].map a.eval)))) := by
      unfold execOp
      rw [ho]
      rfl
    rw [e2, e1, run_bind, h]; rfl
  cases v1 <;> (try (simp only [vcE] at hv; done))
  · simp only [vcE] at hv
    have hA := vr_nils hs
    refine wp_value ht hd (hop (v' := .tuple #[]) (w' := w) ?_) (by simp only [VRel]; exact ⟨#[], rfl, .nil⟩) hr (.refl _ _ _) hv
    unfold Builtin.clear_
    simp only [hts, List.getElem?_toArray, List.getElem?_cons_zero, run_bind, run_underlying hu, hA, run_pure]
  · rename_i b off len cap
    simp only [vcE] at hv
    split at hv
    · rename_i vs k hb
      obtain ⟨hone, hoff, hfit, hK⟩ := hv
      obtain ⟨ob', hob, hbr⟩ := hr.live b _ hb
      simp only [BRel] at hbr
      obtain ⟨ca, el, fr, rfl, hcm, hlm, hfr, hrel⟩ := hbr
      have hA := vr_sl hs
      have hxs : VRels M (List.replicate len (z.cells.toList.map ofCell)).flatten (List.replicate len z.cells.toList).flatten := rep_rel M z.cells.toList len
      have hl := hxs.length
      have hzl : (List.replicate len (z.cells.toList.map ofCell)).flatten.length = len * (z.cells.toList.map ofCell).length := rep_len _ _
      have hall : (List.replicate len (z.cells.toList.map ofCell)).flatten.all AV.one = true := by
        rw [List.all_eq_true] at hone ⊢
        intro y hy
        rw [List.mem_flatten] at hy
        obtain ⟨l, hl1, hl2⟩ := hy
        rw [(List.mem_replicate.1 hl1).2] at hl2
        exact hone y hl2
      have hst := run_storeCells (P := P) (o := off) (List.replicate len z.cells.toList).flatten 0 w ca hob (by omega) (fr_ok (.inl hfr)) (ones_rel hxs hall)
      obtain ⟨n1, n2⟩ := write_rel hr hb hob hcm hlm hfr hrel hxs hoff (by omega)
      refine wp_value ht hd (hop (v' := .tuple #[]) ?_) (by simp only [VRel]; exact ⟨#[], rfl, .nil⟩) n1 n2 hK
      unfold Builtin.clear_
      simp only [hts, List.getElem?_toArray, List.getElem?_cons_zero, run_bind, run_underlying hu, hA]
      cases len with
      | zero => simp [run_pure, run_bind]
      | succ len =>
        simp only [run_bind, run_zeroValue hi hz, zeroCells_list, hst, run_pure, Nat.add_zero]
    · exact hv.elim
theorem run_appz {P : Program} {w : World} {t t2 ty e : TypeId} {k2 : IntKind} {sz bytes : Nat} {z : Value} (ht : P.underlying t = some (.slice e)) (h2 : P.underlying t2 = some (.int k2)) (he : ElemOK P e sz bytes z)
    {A : Option Addr} {sLen sCap : Nat} {k3 : IntKind} {l : Int} {olds : List Value} (hl0 : 0 ≤ l) (hold : ∀ d, (Builtin.firstCells sz sLen (.slice A sLen sCap)).run P { w with drawn := d } = .ok olds.toArray { w with drawn := d })
    (hcap : (sCap : Int) < sLen + l) (hsc : sLen ≤ sCap) (hb : (sLen + l.toNat) * bytes ≤ 140737488355328) :
    ∃ cap' rest d, sLen + l.toNat ≤ cap' ∧ rest.length = (cap' - (sLen + l.toNat)) * sz ∧
      (Builtin.append_ #[t, t2] ty #[.slice A sLen sCap, .int k3 l]).run P w = .ok (.slice (some ⟨w.heap.size, 0, none⟩) (sLen + l.toNat) cap') (wpush { w with drawn := d } (.cells (olds ++ (List.replicate l.toNat z.cells.toList).flatten ++ rest).toArray e (0, 0))) := by
  obtain ⟨i, hi, hsz, hby, hz⟩ := he.info
  have hbp := he.bytes
  have hszp := he.sz
  obtain ⟨m, rfl⟩ : ∃ m : Nat, l = m := ⟨l.toNat, by omega⟩
  simp only [Int.toNat_natCast] at *
  have hm0 : 0 < m := by omega
  have hmb : m ≤ m * bytes := Nat.le_mul_of_pos_right _ hbp
  have hmle : m * bytes ≤ (sLen + m) * bytes := Nat.mul_le_mul_right _ (by omega)
  have hw : IntKind.i64.wrap (m : Int) = m := wrap_id (by omega) (by omega)
  have hmi : ¬ ((m : Int) * (bytes : Int) > 2 ^ 48) := by
    have : (m : Int) * (bytes : Int) = ((m * bytes : Nat) : Int) := by push_cast; rfl
    rw [this]; omega
  have has : ∀ w : World, (asInt (.int k3 (m : Int))).run P w = .ok (m : Int) w := fun _ => rfl
  have hms : ¬ (m * sz = 0) := by
    intro h
    rcases Nat.mul_eq_zero.1 h with h | h <;> omega
  have hne : (sLen + m) ≤ (sLen + m) * bytes := Nat.le_mul_of_pos_right _ hbp
  refine ⟨sLen + m + w.tape w.drawn (.appendCap (sLen + m) sCap e) % (2 ^ 63 - (sLen + m)), (Builtin.zeroCells z.cells (w.tape w.drawn (.appendCap (sLen + m) sCap e) % (2 ^ 63 - (sLen + m)))).toList, w.drawn + 1, by omega, ?_, ?_⟩
  · simp [Builtin.zeroCells, he.cells]
  · have hg : ¬ (Builtin.nextslicecap (sLen + m) sCap * bytes > 2 ^ 48) := by have := growslice_fits (show sCap < sLen + m by omega) hb; omega
    have hi64 : IntKind.i64.max = 9223372036854775807 := rfl
    unfold Builtin.append_
    simp only [List.getElem?_toArray, List.getElem?_cons_zero, List.getElem?_cons_succ, run_bind, run_underlying ht, run_sizeOf hi, run_underlying h2, run_pure, run_pure', hsz]
    simp only [Bool.false_eq_true, if_false, run_bind, run_pure', if_true, has, hw, if_neg (show ¬ (m : Int) < 0 by omega), run_typeInfo hi, hby, if_neg hmi, Int.toNat_natCast, if_neg (show ¬ sLen + m ≤ sCap by omega), if_neg (show ¬ (((sLen + m : Nat) : Int) > IntKind.i64.max ∧ (True ∨ bytes = 0)) by omega), if_neg hg, run_appendCap, run_ask, hold, run_zeroValue hi hz, run_newRow, run_pure, Bool.not_true, if_neg hms]
    congr 3
    all_goals rw [show sLen + m + w.tape w.drawn (.appendCap (sLen + m) sCap e) % (2 ^ 63 - (sLen + m)) - (sLen + m) = w.tape w.drawn (.appendCap (sLen + m) sCap e) % (2 ^ 63 - (sLen + m)) by omega]
    all_goals apply Array.toList_inj.1
    all_goals simp [zeroCells_list]
theorem appz_sound (ht : TRel n M S.T a.tmps) (hr : Rel M S.H w) (hd : a.defers = []) {args : Array Operand} {ts : Array TypeId} {s x : Operand} {t t2 e : TypeId} {k2 : IntKind} {sz bytes : Nat} {z : Value} (ho : o.op = .call { callee := .builtin .append, args := args, argTypes := ts }) (hargs : args = #[s, x]) (hts : ts = #[t, t2])
    (hu : P.underlying t = some (.slice e)) (h2 : P.underlying t2 = some (.int k2)) (he : ElemOK P e sz bytes z) {v1 v2 : AV} (hs : VRel M v1 (a.eval s)) (hx : VRel M v2 (a.eval x)) (hv : vcE P (.appz (z.cells.toList.map ofCell) bytes) [v1, v2] o.dst S K) : o.wp P a w (Fin n M S.H w K) Q := by
  subst hargs; subst hts
  cases v1 <;> (try (simp only [vcE] at hv; done))
  case nils =>
    cases v2 <;> (try (simp only [vcE] at hv; done))
    rename_i k3 l
    simp only [vcE] at hv
    obtain ⟨hl0, hbytes, hK⟩ := hv
    have hA := vr_nils hs
    have hX := vr_int hx
    have hzl : (z.cells.toList.map ofCell).length = sz := by rw [List.length_map]; simpa using he.cells
    rw [hzl] at hK
    have hold : ∀ d, (Builtin.firstCells sz 0 (.slice none 0 0)).run P { w with drawn := d } = .ok (([] : List Value).toArray) { w with drawn := d } := fun d =>
      run_firstCells (by simp) (fun _ => by simp) fun ad hA => by cases hA
    have hzs : VRels M (List.replicate l.toNat (z.cells.toList.map ofCell)).flatten (List.replicate l.toNat z.cells.toList).flatten := rep_rel M z.cells.toList l.toNat
    obtain ⟨cap', rest, d, g1, g2, g3⟩ := run_appz (P := P) (w := w) (ty := o.type) (A := none) (k3 := k3) hu h2 he (Int.le_of_lt hl0) hold (by omega) (Nat.le_refl 0) (by simpa using hbytes)
    have hrun : (execOp a.eval o).run P w = .ok (.value (.slice (some ⟨w.heap.size, 0, none⟩) (0 + l.toNat) cap')) (wpush { w with drawn := d } (.cells (([] : List Value) ++ (List.replicate l.toNat z.cells.toList).flatten ++ rest).toArray e)) := by
      have e2 : execOp a.eval o = (do pure (.value (← Builtin.append_ #[t, t2] o.type (#[s, x].map a.eval)))) := by
        unfold execOp
        rw [ho]
        rfl
      have e1 : #[s, x].map a.eval = #[a.eval s, a.eval x] := by simp
      rw [e2, e1, run_bind, hA, hX, g3]; rfl
    have hb' := brel_cells hzs rest e
    have hlen : ((List.replicate l.toNat z.cells.toList).flatten).length + rest.length = cap' * sz := by
      rw [rep_len, g2]
      have e1 : z.cells.toList.length = sz := by simpa using he.cells
      rw [e1, ← Nat.add_mul]
      congr 1; omega
    rw [hlen] at hb'
    rw [Nat.zero_add] at hrun g1
    exact wp_value ht hd hrun (v := .sl w.heap.size 0 l.toNat cap') (by simp only [VRel]) ((hr.drawn d).push hb') ((Fr.drawn M _ w d).trans (Fr.push _ _ _ _ _)) (hK _ cap' (hr.fresh (Nat.le_refl _)) g1)
  cases v2 <;> (try (simp only [vcE] at hv; done))
  rename_i b off len cap k3 l
  cases off with
  | succ off => simp only [vcE] at hv
  | zero =>
    simp only [vcE] at hv
    split at hv
    · rename_i vs kk hb
      obtain ⟨hsc, hle, hl0, hcap, hbytes, hK⟩ := hv
      have hA := vr_sl hs
      have hX := vr_int hx
      have hzl : (z.cells.toList.map ofCell).length = sz := by rw [List.length_map]; simpa using he.cells
      rw [hzl] at hle hK
      obtain ⟨ob', hob, hbr⟩ := hr.live b _ hb
      simp only [BRel] at hbr
      obtain ⟨ca, el, fr, rfl, hcm, hlm, hfr, hrel⟩ := hbr
      have holds : ∀ j u, (ca.toList.take (len * sz))[j]? = some u → w.cell? ⟨b, 0 + j, none⟩ = some u := by
        intro j u hj
        rw [List.getElem?_take] at hj
        split at hj
        · rw [Nat.zero_add]; exact cells_at hob hj
        · cases hj
      have hold : ∀ d, (Builtin.firstCells sz len (.slice (some ⟨b, 0, none⟩) len cap)).run P { w with drawn := d } = .ok (ca.toList.take (len * sz)).toArray { w with drawn := d } := fun d =>
        run_firstCells (by simp; omega) (fun h => by cases h) fun ad hA => by
          cases hA
          exact ⟨fun _ => rfl, fun j u hj => holds j u hj⟩
      have hvs : VRels M (vs.take (len * sz)) (ca.toList.take (len * sz)) := by
        have := hrel.take (len * sz)
        rwa [List.take_take, Nat.min_eq_left hle] at this
      have hzs : VRels M (List.replicate l.toNat (z.cells.toList.map ofCell)).flatten (List.replicate l.toNat z.cells.toList).flatten := rep_rel M z.cells.toList l.toNat
      obtain ⟨cap', rest, d, g1, g2, g3⟩ := run_appz (P := P) (w := w) (ty := o.type) (A := some ⟨b, 0, none⟩) (k3 := k3) hu h2 he hl0 hold hcap hsc hbytes
      have hrun : (execOp a.eval o).run P w = .ok (.value (.slice (some ⟨w.heap.size, 0, none⟩) (len + l.toNat) cap')) (wpush { w with drawn := d } (.cells (ca.toList.take (len * sz) ++ (List.replicate l.toNat z.cells.toList).flatten ++ rest).toArray e (0, 0))) := by
        have e2 : execOp a.eval o = (do pure (.value (← Builtin.append_ #[t, t2] o.type (#[s, x].map a.eval)))) := by
          unfold execOp
          rw [ho]
          rfl
        have e1 : #[s, x].map a.eval = #[a.eval s, a.eval x] := by simp
        rw [e2, e1, run_bind, hA, hX, g3]; rfl
      have hb' := brel_cells (hvs.append hzs) rest e
      have hlen : (ca.toList.take (len * sz) ++ (List.replicate l.toNat z.cells.toList).flatten).length + rest.length = cap' * sz := by
        rw [List.length_append, List.length_take, rep_len, g2]
        have e1 : z.cells.toList.length = sz := by simpa using he.cells
        have e2 : min (len * sz) ca.toList.length = len * sz := Nat.min_eq_left (by simp; omega)
        rw [e1, e2, ← Nat.add_mul, ← Nat.add_mul]
        congr 1; omega
      rw [hlen] at hb'
      exact wp_value ht hd hrun (v := .sl w.heap.size 0 (len + l.toNat) cap') (by simp only [VRel]) ((hr.drawn d).push hb') ((Fr.drawn M _ w d).trans (Fr.push _ _ _ _ _)) (hK _ cap' (hr.fresh (Nat.le_refl _)) g1)
    · exact hv.elim
theorem extf_sound (ht : TRel n M S.T a.tmps) (hr : Rel M S.H w) (hd : a.defers = []) {f : Nat} {args : Array Operand} {ts : Array TypeId} (ho : o.op = .call { callee := .value (.func f), args := args, argTypes := ts })
    {as : List AV} (hx : VRels M as (args.toList.map a.eval)) (hv : vcE P (.ext f) as o.dst S K) : o.wp P a w (Fin n M S.H w K) Q := by
  match as, hx, hv with
  | [], _, hv => simp only [vcE] at hv
  | [_], _, hv => simp only [vcE] at hv
  | v1 :: v2 :: v3 :: r, _, hv => cases v1 <;> cases v2 <;> simp only [vcE] at hv
  | [v1, v2], hx, hv =>
    cases v1 <;> (try (simp only [vcE] at hv; done))
    cases v2 <;> (try (simp only [vcE] at hv; done))
    rename_i cs m mc b off len cap
    simp only [vcE] at hv
    split at hv
    · rename_i vs k hb
      obtain ⟨⟨fn, tS, tR, e, i, f1, f2, f3, f4, f5, f6, f7⟩, hne, hk, hK⟩ := hv
      obtain ⟨ob', hob, hbr⟩ := hr.live b _ hb
      simp only [BRel] at hbr
      obtain ⟨ca, el, fr, rfl, hcm, hlm, hfr, hrel⟩ := hbr
      obtain ⟨x1, x2, hxs, h1, h2⟩ : ∃ x1 x2, args.toList.map a.eval = [x1, x2] ∧ VRel M (.imm cs m mc) x1 ∧ VRel M (.sl b off len cap) x2 := by
        simp only [VRels] at hx
        obtain ⟨x1, _, e1, h1, x2, _, rfl, h2, rfl⟩ := hx
        exact ⟨x1, x2, e1, h1, h2⟩
      have hargs : args.map a.eval = #[x1, x2] := by apply Array.toList_inj.1; simpa using hxs
      have hB := vr_sl h2
      simp only [VRel] at h1
      obtain ⟨A, us, kc, hA, u2, u3, u4, u5, u6⟩ := h1
      have hcl : 0 < cs.length := List.length_pos_iff.2 hne
      obtain ⟨ad, rfl⟩ : ∃ ad, A = some ad := by
        cases A with
        | none => have hul := u6.length; rw [(u4 rfl).2] at hul; simp at hul; exact absurd hul hne
        | some ad => exact ⟨ad, rfl⟩
      obtain ⟨u7, u8⟩ := u5 ad rfl
      have hul0 : 0 < us.length := by have := u6.length; omega
      obtain ⟨hM1, hM2⟩ := hr.mem ad.block ad.off us[0] (u8 0 us[0] (by rw [List.getElem?_eq_getElem]))
      have hab : ad.block ≠ b := fun h => by rw [h, hb] at hM1; cases hM1
      have hrun : (execOp a.eval o).run P w = .ok (.value (.bool false)) w := by
        have e2 : execOp a.eval o = callFunc f ((#[] ++ args.map a.eval) ++ #[]) := by
          unfold execOp
          rw [ho]
          rfl
        have e3 : (#[] ++ args.map a.eval) ++ #[] = #[x1, x2] := by rw [hargs]; rfl
        rw [e2, e3, run_callFunc_extern f1 f2 f3 f4 f5, hA, hB]
        have : ((Extern.SlicesOverlaps.overlaps #[tS, tS] #[tR] #[.slice (some ad) m kc, .slice (some ⟨b, off, none⟩) len cap]).run P w) = .ok (.bool false) w := by
          have hcell := hM2
          unfold World.cell? at hcell
          have hsb : w.shape? b = some (el, ca.size) := by simp only [World.shape?, hob]
          have hfb : ∀ q, w.frozen? ⟨b, q, none⟩ = false := fun q => by
            show (match w.heap[b]? with | some (.cells _ _ (lo, hi)) => decide (lo ≤ q) && decide (q < hi) | _ => false) = false
            rw [hob]
            show (decide (fr.1 ≤ q) && decide (q < fr.2)) = false
            rw [hfr]
            by_cases hq : fr.2 ≤ q
            · simp [hq, Nat.not_lt.2 hq]
            · simp [hq]
          obtain ⟨tA, kA, hsa, hkA⟩ : ∃ tA kA, w.shape? ad.block = some (tA, kA + 1) ∧ True := by
            simp only at hcell
            split at hcell
            · rename_i c e' fr' hob2
              refine ⟨e', c.size - 1, ?_, trivial⟩
              simp only [World.shape?, hob2]
              have hlt : ad.off < c.size := by
                rcases Nat.lt_or_ge ad.off c.size with h | h
                · exact h
                · simp [Array.getElem?_eq_none h] at hcell
              congr 2; omega
            · cases hcell
          have hnb : (ad.block != b) = true := by simpa using hab
          have hnb' : (ad.block == b) = false := by simpa using hab
          change Sem.run P (α := Value) (do
            let some t := (#[tS, tS] : Array TypeId)[0]? | stuck "slices.overlaps: no parameter types"
            let .slice elem ← underlying t | stuck "slices.overlaps: slice type expected"
            let size ← sizeOf elem
            match (some ad : Option Addr), (some (⟨b, off, none⟩ : Addr) : Option Addr) with
            | some a, some b =>
              if m = 0 ∨ len = 0 ∨ size = 0 then pure (Value.bool false)
              else if a.block != b.block && (← frozen a) && (← frozen b) then unsupported .addressObserved
              else do
                if a.block != b.block then do
                  noView a; noView b
                  if ← mayBeOne a b then return Value.bool ((← choose (.extern "sameAddr.stringBytes" 2)) == 1)
                pure (Value.bool (a.block == b.block && a.off < b.off + len * size && b.off < a.off + m * size))
            | _, _ => pure (Value.bool false)) w = _
          obtain ⟨kB, hkB⟩ : ∃ kB, ca.size = kB + 1 := ⟨ca.size - 1, by omega⟩
          rw [hkB] at hsb
          by_cases h0 : m = 0 ∨ len = 0 ∨ i.size = 0
          · simp [run_underlying f6, run_sizeOf f7, h0]
          · cases hfa : w.frozen? ad <;> cases hfe : w.frozen? ⟨ad.block, kA + 1, none⟩ <;>
              simp [run_underlying f6, run_sizeOf f7, h0, hnb, hnb', frozen, noView, viewAt, mayBeOne, stringish, shape, Sem.run, hsa, hsb, hfb, hfa, hfe]
        rw [this]; rfl
      exact wp_value ht hd hrun (by simp only [VRel]) hr (.refl _ _ _) hK
    · exact hv.elim
end
end Go.Sf

end
section
/- The operations that go through a map are right. -/
set_option linter.unusedVariables false
set_option linter.unusedSimpArgs false
namespace Go.Sf
section
variable {P : Program} {n : Nat} {o : Oper} {S : AS} {K : AS → Prop} {M : Mem} {a : Act} {w : World} {Q : Exit → Act → World → Prop}

theorem Rel.reblk {H : Heap} (r : Rel M H w) {b : Nat} {k k' : Blk} (hb : H b = some k) (h : ∀ o, w.heap[b]? = some o → BRel M k' o) : Rel M (H.set b (some k')) w :=
  ⟨fun b' i v e => by
    obtain ⟨h1, h2⟩ := r.mem b' i v e
    have hne : b' ≠ b := fun hbb => by subst hbb; rw [hb] at h1; cases h1
    exact ⟨by rw [Heap.set_ne _ _ hne]; exact h1, h2⟩, fun b' k2 e => by
    by_cases hbb : b' = b
    · subst hbb
      rw [Heap.set_self] at e; cases e
      obtain ⟨o', ho, _⟩ := r.live _ _ hb
      exact ⟨o', ho, h _ ho⟩
    · rw [Heap.set_ne _ _ hbb] at e; exact r.live _ _ e⟩
theorem Fr.reblk {H : Heap} {b : Nat} {k : Blk} (hb : H b = some k) (k' : Option Blk) : Fr M H w M (H.set b k') w :=
  ⟨rfl, rfl, rfl, Nat.le_refl _, MLe.refl M, fun b' hb' hn => by
    have hne : b' ≠ b := fun hbb => by subst hbb; rw [hb] at hn; cases hn
    exact ⟨rfl, by rw [Heap.set_ne _ _ hne]; exact hn, fun _ => rfl⟩⟩
theorem rng_sound (ht : TRel n M S.T a.tmps) (hr : Rel M S.H w) (hd : a.defers = []) {t kt et : TypeId} {x : Operand} (ho : o.op = .range t x) (hu : P.underlying t = some (.map kt et)) {v : AV} (h1 : VRel M v (a.eval x))
    (hv : vcE P .rng [v] o.dst S K) : o.wp P a w (Fin n M S.H w K) Q := by
  have hop : ∀ {v' : Value} {w' : World}, (Instr.range t (a.eval x)).run P w = .ok v' w' → (execOp a.eval o).run P w = .ok (.value v') w' := by
    intro v' w' h
    have e2 : execOp a.eval o = (do pure (.value (← Instr.range t (a.eval x)))) := by
      unfold execOp
      rw [ho]
    rw [e2, run_bind, h]; rfl
  have hnew : ∀ (ob : Obj), (newObj ob).run P w = .ok w.heap.size (wpush w ob) := fun ob => rfl
  cases v <;> (try (simp only [vcE] at hv; done))
  · simp only [vcE] at hv
    have hX := vr_nilm h1
    refine wp_value ht hd (hop (v' := .pointer (some ⟨w.heap.size, 0, none⟩)) (w' := wpush w (.mapIter none 0 #[] 0)) ?_) (by simp only [VRel]) (hr.push (k := .raw (.mapIter none 0 #[] 0)) (by simp only [BRel])) (Fr.push _ _ _ _ _) (hv _ (hr.fresh (Nat.le_refl _)))
    rw [hX]
    unfold Instr.range
    simp only [run_bind, run_underlying hu, run_pure', hnew, run_pure]
  · rename_i m
    simp only [vcE] at hv
    have hX := vr_mp h1
    have go : ∀ xs clock, w.heap[m]? = some (.map xs clock) → (Instr.range t (a.eval x)).run P w = .ok (.pointer (some ⟨w.heap.size, 0, none⟩)) (wpush w (.mapIter (some m) clock #[] clock)) := by
      intro xs clock hm
      rw [hX]
      unfold Instr.range
      simp only [run_bind, run_underlying hu, run_getMap hm, run_pure', hnew, run_pure]
    split at hv
    · rename_i es hm
      obtain ⟨o', ho', hrel⟩ := hr.live _ _ hm
      have hrel0 := hrel
      simp only [BRel] at hrel
      obtain ⟨xs, clock, rfl, hst, hk, hvv⟩ := hrel
      have hl := hk.length
      simp only [List.length_map] at hl
      obtain ⟨s1, s2, s3⟩ := (MapKept.stamped_iff _ _).1 hst
      have r1 : Rel M (S.H.set m (some (.mapS es (xs.toList.map (·.born)) clock))) w := hr.reblk hm fun o2 ho2 => by
        rw [ho'] at ho2; cases ho2
        simp only [BRel]
        exact ⟨xs, rfl, hst, hk, hvv, rfl⟩
      refine wp_value (v := .ptr w.heap.size 0) ht hd (hop (go xs clock ho')) (by simp only [VRel]) (r1.push (k := .raw (.mapIter (some m) clock #[] clock)) (by simp only [BRel])) ((Fr.reblk hm _).trans (Fr.push _ _ _ _ _)) ?_
      exact hv _ (xs.toList.map (·.born)) clock (hr.fresh (Nat.le_refl _)) (by rw [List.length_map]; omega) s2 (fun y hy => by
        obtain ⟨e, he, rfl⟩ := List.mem_map.1 hy
        exact s1 e he)
    · rename_i es bs clock hm
      obtain ⟨o', ho', hrel⟩ := hr.live _ _ hm
      simp only [BRel] at hrel
      obtain ⟨xs, rfl, hst, hk, hvv, hbs⟩ := hrel
      exact wp_value ht hd (hop (go xs clock ho')) (by simp only [VRel]) (hr.push (k := .raw (.mapIter (some m) clock #[] clock)) (by simp only [BRel])) (Fr.push _ _ _ _ _) (hv _ (hr.fresh (Nat.le_refl _)))
    · exact hv.elim
theorem run_mapNext (P : Program) (k : Nat) (hk : 0 < k) (w : World) : ∃ j d, j < k ∧ (choose (.mapNext k)).run P w = .ok j { w with drawn := d } := by
  by_cases h1 : k ≤ 1
  · refine ⟨0, w.drawn, hk, ?_⟩
    simp only [choose, Sem.run, Question.forced, h1, decide_true, if_true]
  · refine ⟨w.tape w.drawn (.mapNext k) % k, w.drawn + 1, Nat.mod_lt _ hk, ?_⟩
    simp only [choose, Sem.run, Question.forced, h1, decide_false, Bool.false_eq_true, if_false, Question.cut]
def notCells : Obj → Bool
  | .cells _ _ _ => false
  | _ => true
theorem run_getO {b : Nat} {ob : Obj} (h : w.heap[b]? = some ob) (hc : notCells ob = true) : (getObj b).run P w = .ok ob w := by
  cases ob <;> simp only [notCells, Bool.false_eq_true] at hc <;> simp only [getObj, Sem.run, h]
theorem run_setAny {b : Nat} {ob : Obj} (h : w.heap[b]? = some ob) (hc : notCells ob = true) (o' : Obj) : (setObj b o').run P w = .ok () (wset w b o') := by
  cases ob <;> simp only [notCells, Bool.false_eq_true] at hc <;> (simp only [setObj, Sem.run, h]; rfl)
theorem nxt_sound (ht : TRel n M S.T a.tmps) (hr : Rel M S.H w) (hd : a.defers = []) {x : Operand} (ho : o.op = .next x false) {v : AV} (h1 : VRel M v (a.eval x))
    (hv : vcE P .nxt [v] o.dst S K) : o.wp P a w (Fin n M S.H w K) Q := by
  have hop : ∀ {v' : Value} {w' : World}, (Instr.next (a.eval x) false o.type).run P w = .ok v' w' → (execOp a.eval o).run P w = .ok (.value v') w' := by
    intro v' w' h
    have e2 : execOp a.eval o = (do pure (.value (← Instr.next (a.eval x) false o.type))) := by
      unfold execOp
      rw [ho]
    rw [e2, run_bind, h]; rfl
  cases v <;> (try (simp only [vcE] at hv; done))
  rename_i b off
  cases off with
  | succ off => simp only [vcE] at hv
  | zero =>
    simp only [vcE] at hv
    have hX := vr_ptr h1
    split at hv
    · rename_i q1 q2 q3 hb
      obtain ⟨o', ho', hrel⟩ := hr.live _ _ hb
      simp only [BRel] at hrel
      subst hrel
      refine wp_value ht hd (hop (v' := .tuple #[.bool false]) (w' := w) ?_) ?_ hr (.refl _ _ _) hv
      · rw [hX]
        unfold Instr.next
        simp only [run_bind, run_getO ho' rfl, run_pure]
      · simp only [VRel]; exact ⟨_, rfl, .cons (by simp only [VRel]) .nil⟩
    · rename_i m since seen last hb
      split at hv
      · rename_i es bs clock hm
        obtain ⟨rfl, rfl, hK0, hK1⟩ := hv
        obtain ⟨o', ho', hrel⟩ := hr.live _ _ hb
        simp only [BRel] at hrel
        subst hrel
        obtain ⟨om, hom, hrm⟩ := hr.live _ _ hm
        simp only [BRel] at hrm
        obtain ⟨xs, rfl, hst, hk, hvv, hbs⟩ := hrm
        obtain ⟨s1, s2, s3⟩ := (MapKept.stamped_iff _ _).1 hst
        have hlt : ∀ e ∈ xs, e.born < last := fun e he => s1 e (by simpa using he)
        have hold : (xs.filter fun e => !seen.contains e.born).filter (fun e => decide (e.born < last)) = xs.filter fun e => !seen.contains e.born := by
          apply Array.filter_eq_self.2
          intro e he
          rw [Array.mem_filter] at he
          simpa using hlt e he.1
        have hnew : (xs.filter fun e => !seen.contains e.born).filter (fun e => decide (e.born ≥ last)) = #[] := by
          apply Array.filter_eq_empty_iff.2
          intro e he
          rw [Array.mem_filter] at he
          have := hlt e he.1
          simp; omega
        have hchk : (!seen.isEmpty && !xs.isEmpty && xs.all (fun e => decide (e.born ≥ last))) = false := by
          cases hx : xs.isEmpty with
          | true => simp
          | false =>
            have : xs.all (fun e => decide (e.born ≥ last)) = false := by
              rw [Array.all_eq_false]
              have h0 : 0 < xs.size := by
                rcases Nat.eq_zero_or_pos xs.size with h | h
                · rw [Array.isEmpty_eq_false_iff] at hx; exact absurd (Array.size_eq_zero_iff.1 h) hx
                · exact h
              exact ⟨0, h0, by have := hlt xs[0] (by simp); simp; omega⟩
            rw [this]; simp
        generalize hL : (xs.filter fun e => !seen.contains e.born) = L at *
        have hmem : ∀ e, e ∈ L ↔ e ∈ xs ∧ e.born ∉ seen.toList := fun e => by rw [← hL, Array.mem_filter]; simp
        by_cases he : L = #[]
        · refine wp_value ht hd (hop (v' := .tuple #[.bool false]) (w' := { w with drawn := w.drawn }) ?_) ?_ hr (.refl _ _ _) (hK0 fun y hy => ?_)
          · rw [hX]
            unfold Instr.next
            simp only [run_bind, run_getO ho' rfl, run_getO hom rfl, hchk, Bool.false_eq_true, if_false, hL, hold, hnew, he]
            simp [choose, Sem.run, Question.forced, run_pure]
          · simp only [VRel]; exact ⟨_, rfl, .cons (by simp only [VRel]) .nil⟩
          · rw [← hbs] at hy
            obtain ⟨e, he1, rfl⟩ := List.mem_map.1 hy
            exact Classical.byContradiction fun hc => by
              have := (hmem e).2 ⟨by simpa using he1, hc⟩
              rw [he] at this; simp at this
        · have hLs : 0 < L.size := Nat.pos_of_ne_zero fun h => he (Array.size_eq_zero_iff.1 h)
          obtain ⟨j, d, hj, hrun⟩ := run_mapNext P L.size hLs w
          obtain ⟨hx1, hx2⟩ := (hmem L[j]).1 (by simp)
          obtain ⟨i, hi, hxi⟩ := Array.getElem_of_mem hx1
          have hil : i < xs.toList.length := by simpa using hi
          have hkl := hk.length
          have hvl := hvv.length
          simp only [List.length_map] at hkl hvl
          have hie : i < es.length := by omega
          have hbi : bs[i]? = some L[j].born := by rw [← hbs, List.getElem?_map, List.getElem?_eq_getElem hil]; simp [hxi]
          obtain ⟨u1, hu1, hu2⟩ := hk.get (i := i) (a := es[i].1) (by simp [List.getElem?_eq_getElem hie])
          obtain ⟨u3, hu3, hu4⟩ := hvv.get (i := i) (a := es[i].2) (by simp [List.getElem?_eq_getElem hie])
          rw [List.getElem?_map, List.getElem?_eq_getElem hil] at hu1 hu3
          simp only [Option.map_some, Option.some.injEq, Array.getElem_toList, hxi] at hu1 hu3
          have hemp : L.isEmpty = false := by rw [Array.isEmpty_eq_false_iff]; exact he
          have ho2 : ({ w with drawn := d } : World).heap[b]? = some (.mapIter (some m) last seen last) := ho'
          refine wp_value ht hd (hop (v' := .tuple #[.bool true, L[j].key, L[j].val]) (w' := wset { w with drawn := d } b (.mapIter (some m) last (seen.push L[j].born) last)) ?_) ?_ ((hr.drawn d).wset hb (k' := .raw (.mapIter (some m) last (seen.push L[j].born) last)) (by simp only [BRel])) ((Fr.drawn M S.H w d).trans (Fr.wset hb _ _)) (hK1 i es[i] L[j].born (List.getElem?_eq_getElem hie) hbi hx2)
          · rw [hX]
            unfold Instr.next
            simp only [run_bind, run_getO ho' rfl, run_getO hom rfl, hchk, Bool.false_eq_true, if_false, hL, hold, hnew, hemp, Array.append_empty, Array.empty_append, Array.size_map, hrun, Array.getElem?_map, Array.getElem?_eq_getElem hj, Option.map_some, run_setAny ho2 rfl, run_pure]
          · simp only [VRel]
            refine ⟨_, rfl, .cons (by simp only [VRel]) (.cons (by rw [hu1]; exact hu2) (.cons (by rw [hu3]; exact hu4) .nil))⟩
      · exact hv.elim
    · exact hv.elim
theorem ent_sound (ht : TRel n M S.T a.tmps) (hr : Rel M S.H w) (hd : a.defers = []) {x : Operand} (ho : o.op = .entry x) {v : AV} (h1 : VRel M v (a.eval x))
    (hv : vcE P .ent [v] o.dst S K) : o.wp P a w (Fin n M S.H w K) Q := by
  have hop : ∀ {v' : Value} {w' : World}, (Instr.entry (a.eval x)).run P w = .ok v' w' → (execOp a.eval o).run P w = .ok (.value v') w' := by
    intro v' w' h
    have e2 : execOp a.eval o = (do pure (.value (← Instr.entry (a.eval x)))) := by
      unfold execOp
      rw [ho]
    rw [e2, run_bind, h]; rfl
  cases v <;> (try (simp only [vcE] at hv; done))
  rename_i b off
  cases off with
  | succ off => simp only [vcE] at hv
  | zero =>
    simp only [vcE] at hv
    have hX := vr_ptr h1
    split at hv
    · rename_i m since seen last hb
      split at hv
      · rename_i es bs clock hm
        obtain ⟨rfl, j, e, y, hy, hbj, hej, hK⟩ := hv
        obtain ⟨o', ho', hrel⟩ := hr.live _ _ hb
        simp only [BRel] at hrel
        subst hrel
        obtain ⟨om, hom, hrm⟩ := hr.live _ _ hm
        simp only [BRel] at hrm
        obtain ⟨xs, rfl, hst, hk, hvv, hbs⟩ := hrm
        obtain ⟨s1, s2, s3⟩ := (MapKept.stamped_iff _ _).1 hst
        obtain ⟨hje, rfl⟩ := List.getElem?_eq_some_iff.1 hej
        have hkl := hk.length
        have hvl := hvv.length
        simp only [List.length_map] at hkl hvl
        have hil : j < xs.toList.length := by omega
        have hjs : j < xs.size := by simpa using hil
        rw [← hbs, List.getElem?_map, List.getElem?_eq_getElem hil] at hbj
        simp only [Option.map_some, Option.some.injEq, Array.getElem_toList] at hbj
        obtain ⟨u1, hu1, hu2⟩ := hk.get (i := j) (a := es[j].1) (by simp [List.getElem?_eq_getElem hje])
        obtain ⟨u3, hu3, hu4⟩ := hvv.get (i := j) (a := es[j].2) (by simp [List.getElem?_eq_getElem hje])
        rw [List.getElem?_map, List.getElem?_eq_getElem hil] at hu1 hu3
        simp only [Option.map_some, Option.some.injEq, Array.getElem_toList] at hu1 hu3
        have hfind : xs.find? (fun e => e.born == y) = some xs[j] := by
          cases hf : xs.find? (fun e => e.born == y) with
          | none =>
            rw [Array.find?_eq_none] at hf
            exact absurd (hf xs[j] (by simp)) (by simp [hbj])
          | some z =>
            have hz1 : z.born = y := by have := Array.find?_some hf; simpa using this
            have hz2 : z ∈ xs := Array.mem_of_find?_eq_some hf
            obtain ⟨i, hi, hzi⟩ := Array.getElem_of_mem hz2
            have : i = j := by
              have hn := List.pairwise_iff_getElem.1 s2
              rcases Nat.lt_trichotomy i j with h | h | h
              · exfalso
                apply hn i j (by simpa using hi) (by simpa using hjs) h
                simp [hzi, hz1, hbj]
              · exact h
              · exfalso
                apply hn j i (by simpa using hjs) (by simpa using hi) h
                simp [hzi, hz1, hbj]
            subst this
            rw [hzi]
        have hback : seen.back? = some y := by rw [← Array.getLast?_toList]; exact hy
        refine wp_value ht hd (hop (v' := .tuple #[xs[j].key, xs[j].val]) (w' := w) ?_) ?_ hr (.refl _ _ _) hK
        · rw [hX]
          unfold Instr.entry
          simp only [run_bind, run_getO ho' rfl, hback, run_getO hom rfl, bne_self_eq_false, Bool.false_eq_true, if_false, hfind, run_pure]
        · simp only [VRel]
          exact ⟨_, rfl, .cons (by rw [hu1]; exact hu2) (.cons (by rw [hu3]; exact hu4) .nil)⟩
      · exact hv.elim
    · exact hv.elim
end
end Go.Sf

end
section
/- Calls; all operations together; regions in the text's order; code. -/
set_option linter.unusedVariables false
set_option linter.unusedSimpArgs false
namespace Go.Sf
section
variable {P : Program} {n : Nat} {o : Oper} {S : AS} {K : AS → Prop} {M : Mem} {a : Act} {w : World} {Q : Exit → Act → World → Prop}

theorem callB_spec {f : Nat} (h : callB P f = true) : ∃ fn, P.funcs[f]? = some fn ∧ fn.body.isSome = true ∧ (fn.name == "runtime.NumGoroutine") = false := by
  unfold callB at h
  split at h
  · rename_i fn hf
    simp only [Bool.and_eq_true, bne_iff_ne, ne_eq] at h
    exact ⟨fn, hf, h.1, by simpa using h.2⟩
  · cases h
theorem run_callFunc {f : Nat} (h : callB P f = true) (args : Array Value) (w : World) : (callFunc f args).run P w = .ok (.enter f args) w := by
  obtain ⟨fn, hf, hb, hn⟩ := callB_spec h
  unfold callFunc
  show Sem.run P (match P.funcs[f]? with | none => stuck "call: no such function" | some fn => _) w = _
  rw [hf]
  simp only [hn, Bool.false_eq_true, if_false]
  have : fn.body.isNone = false := by cases hfb : fn.body <;> simp_all
  simp only [this, Bool.false_eq_true, if_false, run_pure]
theorem call_step (ht : TRel n M S.T a.tmps) (hr : Rel M S.H w) (hd : a.defers = []) {f : Nat} {as : List AV} {vs : List Value} (hx : VRels M as vs)
    (hrun : (execOp a.eval o).run P w = .ok (.enter f vs.toArray) w) (hv : CC P f as S.H fun v H' => K ⟨put S.T o.dst v, H'⟩) : o.wp P a w (Fin n M S.H w K) Q := by
  unfold Oper.wp
  rw [hrun]
  refine (hv M w vs hx hr).mono fun e w' ⟨v, x, M', H', he, h1, h2, h3, h4⟩ => ?_
  subst he
  exact ⟨M', _, (ht.mono h3.mle).put o.dst h1, h2, put_defers hd _ _, h3, h4⟩
theorem map_toArray (args : Array Operand) (ρ : Operand → Value) : args.map ρ = (args.toList.map ρ).toArray := by apply Array.toList_inj.1; simp
theorem call_sound (ht : TRel n M S.T a.tmps) (hr : Rel M S.H w) (hd : a.defers = []) {f : Nat} {args : Array Operand} {ts : Array TypeId} (ho : o.op = .call { callee := .value (.func f), args := args, argTypes := ts }) (hf : callB P f = true)
    {as : List AV} (hx : VRels M as (args.toList.map a.eval)) (hv : vcE P (.call f) as o.dst S K) : o.wp P a w (Fin n M S.H w K) Q := by
  simp only [vcE] at hv
  refine call_step ht hr hd hx ?_ hv
  have : execOp a.eval o = callFunc f ((#[] ++ args.map a.eval) ++ #[]) := by
    unfold execOp
    rw [ho]
    rfl
  rw [this, run_callFunc hf]
  congr 2
  rw [← map_toArray]; simp
theorem callv_sound (ht : TRel n M S.T a.tmps) (hr : Rel M S.H w) (hd : a.defers = []) {t : Nat} {args : Array Operand} {ts : Array TypeId} (ho : o.op = .call { callee := .value (.tmp t), args := args, argTypes := ts })
    {as : List AV} (hx : VRels M as ((Operand.tmp t :: args.toList).map a.eval)) (hv : vcE P .callv as o.dst S K) : o.wp P a w (Fin n M S.H w K) Q := by
  obtain ⟨v, as', rfl, h1, h2⟩ := vrc hx
  cases v <;> (try (simp only [vcE] at hv; done))
  rename_i f first captured
  cases f <;> (try (simp only [vcE] at hv; done))
  rename_i f
  cases first with
  | cons _ _ => simp only [vcE] at hv
  | nil =>
    simp only [vcE] at hv
    simp only [VRel] at h1
    obtain ⟨xs, ys, h1, h3, h4⟩ := h1
    have hxs : xs = #[] := by apply Array.toList_inj.1; simpa only [VRels] using h3
    subst hxs
    refine call_step ht hr hd (h2.append h4) ?_ hv.2
    have : execOp a.eval o = (do let d ← Deferred.ofValue (a.eval (.tmp t)) (args.map a.eval); invoke d.target d.args) := by
      unfold execOp
      rw [ho]
      rfl
    rw [this, h1]
    show (callFunc f ((#[] ++ args.map a.eval) ++ ys)).run P w = _
    rw [run_callFunc hv.1]
    congr 2
    rw [map_toArray]; simp
/-- All of them. -/
theorem trE_sound {mt : Bool} {k : EK} {xs : List Operand} (e : trE P n mt o.op = some (k, xs)) (hdst : (∃ t x y, o.op = .store t x y) → o.dst = none) (ht : TRel n M S.T a.tmps) (hr : Rel M S.H w) (hd : a.defers = []) {as : List AV} (hx : VRels M as (xs.map a.eval))
    (hv : vcE P k as o.dst S K) : o.wp P a w (Fin n M S.H w K) Q := by
  cases hop : o.op <;> rw [hop] at e <;> simp only [trE, reduceCtorEq] at e
  case alloc el =>
    simp only [Option.map_eq_some_iff, Prod.mk.injEq] at e
    obtain ⟨z, hz, rfl, rfl⟩ := e
    simp only [List.map_nil] at hx
    have : as = [] := by cases as with | nil => rfl | cons _ _ => have := hx.length; simp at this
    subst this
    exact alloc_sound ht hr hd hop hz hv
  case box el x =>
    cases e
    obtain ⟨v, rfl, h1⟩ := vr1 hx
    exact box_sound ht hr hd hop h1 hv
  case buildSlice t len parts =>
    split at e
    · rename_i el hu
      split at e
      · rename_i s b z he
        split at e
        · rename_i hl; cases e; exact bslice_sound ht hr hd hop hu (elemT_spec he) hl hx hv
        · cases e
      · cases e
    · cases e
  case store t x y =>
    simp only [Option.bind_eq_some_iff] at e
    obtain ⟨sz, hs, kk, hk, e⟩ := e
    split at e
    · rename_i hc
      cases e
      obtain ⟨v1, v2, rfl, h1, h2⟩ := vr2 hx
      obtain ⟨i, hi, his⟩ := sizeT_spec hk
      exact store_sound ht hr hd hop (szT_spec hs) hi his hc (hdst ⟨_, _, _, hop⟩) h1 h2 hv
    · cases e
  case convert src dst x =>
    split at e
    · rename_i el h1 h2
      split at e
      · rename_i h3
        cases e
        obtain ⟨v, rfl, hv1⟩ := vr1 hx
        exact s2b_sound ht hr hd hop h1 h2 h3 hv1 hv
      · cases e
    · rename_i e1 el h1 h2
      split at e
      · rename_i h3
        split at e
        · rename_i heq
          cases e
          obtain ⟨v, rfl, hv1⟩ := vr1 hx
          exact mark_sound ht hr hd hop h1 h2 h3 heq hv1 hv
        · cases e
      · cases e
    · cases e
  case makeSlice t l c =>
    split at e
    · rename_i el hu
      split at e
      · rename_i s b z he
        cases e
        exact mkslice_sound ht hr hd hop hu (elemT_spec he) hx hv
      · cases e
    · cases e
  case makeMap t r =>
    cases r with
    | some _ => simp at e
    | none =>
      simp only [Option.some.injEq, Prod.mk.injEq] at e
      obtain ⟨rfl, rfl⟩ := e
      simp only [List.map_nil] at hx
      have : as = [] := by cases as with | nil => rfl | cons _ _ => have := hx.length; simp at this
      subst this
      exact mkmap_sound ht hr hd hop hv
  case mapUpdate t m k x =>
    split at e
    · rename_i kt et hu
      simp only [Option.map_eq_some_iff, Prod.mk.injEq] at e
      obtain ⟨sk, hs, rfl, rfl⟩ := e
      exact mset_sound ht hr hd hop hu hs hx hv
    · cases e
  case range t x =>
    split at e
    · rename_i kt et hu
      cases e
      obtain ⟨v, rfl, h1⟩ := vr1 hx
      exact rng_sound ht hr hd hop hu h1 hv
    · cases e
  case next x b =>
    cases b with
    | true => simp at e
    | false =>
      simp only [Option.some.injEq, Prod.mk.injEq] at e
      obtain ⟨rfl, rfl⟩ := e
      obtain ⟨v, rfl, h1⟩ := vr1 hx
      exact nxt_sound ht hr hd hop h1 hv
  case entry x =>
    cases e
    obtain ⟨v, rfl, h1⟩ := vr1 hx
    exact ent_sound ht hr hd hop h1 hv
  case call c =>
    obtain ⟨callee, args, ts⟩ := c
    cases callee with
    | invoke _ _ => simp at e
    | value f =>
      cases f with
      | func f =>
        simp only at e
        split at e
        · rename_i hf; cases e; exact call_sound ht hr hd hop hf hx hv
        · cases e; exact extf_sound ht hr hd hop hx hv
      | tmp t => simp only [Option.some.injEq, Prod.mk.injEq] at e; obtain ⟨rfl, rfl⟩ := e; exact callv_sound ht hr hd hop hx hv
      | const _ => simp at e
      | global _ => simp at e
    | builtin b =>
      cases b <;> simp only [reduceCtorEq] at e
      case delete =>
        split at e
        · rename_i m k t ha hts
          split at e
          · rename_i kt et hu
            simp only [Option.map_eq_some_iff, Prod.mk.injEq] at e
            obtain ⟨sk, hs, rfl, rfl⟩ := e
            exact mdel_sound ht hr hd hop ha hts hu hs hx hv
          · cases e
        · cases e
      case append =>
        split at e
        · rename_i s x t t2 ha hts
          have ha2 : args = #[s, x] := by apply Array.toList_inj.1; simpa using ha
          have ht2 : ts = #[t, t2] := by apply Array.toList_inj.1; simpa using hts
          split at e
          · rename_i el e2 hu h2
            split at e
            · rename_i s' b z he
              cases e
              obtain ⟨v1, v2, rfl, h1, h3⟩ := vr2 hx
              exact append_sound ht hr hd hop ha2 ht2 hu (.inl ⟨_, h2⟩) (elemT_spec he) h1 h3 hv
            · cases e
          · rename_i el hu h2
            split at e
            · rename_i s' b z he
              cases e
              obtain ⟨v1, v2, rfl, h1, h3⟩ := vr2 hx
              exact append_sound ht hr hd hop ha2 ht2 hu (.inr h2) (elemT_spec he) h1 h3 hv
            · cases e
          · rename_i el k2 hu h2
            split at e
            · rename_i s' b z he
              cases e
              obtain ⟨v1, v2, rfl, h1, h3⟩ := vr2 hx
              exact appz_sound ht hr hd hop ha2 ht2 hu h2 (elemT_spec he) h1 h3 hv
            · cases e
          · cases e
        · cases e
      case copy =>
        split at e
        · rename_i s x t ha hts
          have ha2 : args = #[s, x] := by apply Array.toList_inj.1; simpa using ha
          split at e
          · rename_i el hu
            split at e
            · rename_i s' b z he
              cases e
              obtain ⟨v1, v2, rfl, h1, h3⟩ := vr2 hx
              exact copy_sound ht hr hd hop ha2 hts hu (elemT_spec he) h1 h3 hv
            · cases e
          · cases e
        · cases e
      case clear =>
        split at e
        · rename_i s t ha hts
          have ha2 : args = #[s] := by apply Array.toList_inj.1; simpa using ha
          split at e
          · rename_i el hu
            split at e
            · rename_i s' b z he
              cases e
              obtain ⟨v1, rfl, h1⟩ := vr1 hx
              exact clr_sound ht hr hd hop ha2 hts hu (elemT_spec he) h1 hv
            · cases e
          · cases e
        · cases e
end
end Go.Sf

end
section
/- Regions in the text's order: their translation, and that it is right. -/
set_option linter.unusedVariables false
set_option linter.unusedSimpArgs false
namespace Go.Sf

def trG (n : Nat) (ops : Array Oper) : Option (Nat × Bool) → Option (Option (Nat × Bool))
  | none => some none
  | some (j, want) => match (ops[j]?).bind (·.dst) with
    | some t => if t < n then some (some (t, want)) else none
    | none => none
def storeDst (o : Oper) : Bool := match o.op with | .store _ _ _ => o.dst.isNone | _ => true
def trOp (P : Program) (n : Nat) (mt : Bool) (o : Op) : Option COp :=
  match trP P n o with
  | some c => some c
  | none => match trE P n mt o with
    | some (k, xs) => (trXs n xs).map (.e k)
    | none => some (.e .nope [])
def trCO (P : Program) (n : Nat) (md : Nat → Bool) (ops : Array Oper) (o : Oper) : Option CO :=
  match trG n ops o.guard, trOp P n ((o.dst.map md).getD false) o.op with
  | some g, some c => if storeDst o then some ⟨o.dst, g, c⟩ else none
  | _, _ => none
def trOps (P : Program) (n : Nat) (md : Nat → Bool) (ops : Array Oper) : List Oper → Option (List CO)
  | [] => some []
  | o :: l => match trCO P n md ops o, trOps P n md ops l with
    | some c, some cs => some (c :: cs)
    | _, _ => none
section
variable {P : Program} {n : Nat} {S : AS} {K : AS → Prop} {M : Mem} {a : Act} {w : World}

/-- One operation that is carried out. -/
theorem vcDo_sound {md : Nat → Bool} {ops : Array Oper} {o : Oper} {co : CO} (e : trCO P n md ops o = some co) (hv : vcDo P co S K) (ht : TRel n M S.T a.tmps) (hr : Rel M S.H w) (hd : a.defers = []) (Q : Exit → Act → World → Prop) :
    o.wp P a w (Fin n M S.H w K) Q := by
  unfold trCO at e
  split at e
  · rename_i g c hg hc
    split at e
    · rename_i hsd
      cases e
      unfold vcDo at hv
      simp only at hv
      split at hv
      · rename_i k xs
        unfold trOp at hc
        split at hc
        · rename_i c' hp
          cases hc
          -- a pure operation is never translated so
          exfalso
          unfold trP at hp
          split at hp
          · split at hp <;> simp at hp
          · split at hp
            · simp at hp
            · cases hp
        · split at hc
          · rename_i k' xs' he
            simp only [Option.map_eq_some_iff] at hc
            obtain ⟨cs, hcs, hkk⟩ := hc
            cases hkk
            refine trE_sound he (fun ⟨t, x, y, hop⟩ => ?_) ht hr hd (trXs_rel hcs ht hv.1) hv.2
            unfold storeDst at hsd
            rw [hop] at hsd
            simpa using hsd
          · cases hc
            simp only [vcE] at hv
            exact hv.2.elim
      · rename_i hne
        split at hv
        · rename_i p v hev
          have hp : trP P n o.op = some c := by
            unfold trOp at hc
            split at hc
            · rename_i h; cases hc; exact h
            · split at hc
              · simp only [Option.map_eq_some_iff] at hc
                obtain ⟨cs, _, rfl⟩ := hc
                exact absurd rfl (hne _ _)
              · cases hc
                exact absurd rfl (hne _ _)
          obtain ⟨x, h1, h2⟩ := trP_sound hp ht hr hev hv.1
          exact wp_value ht hd h1 h2 hr (.refl _ _ _) hv.2
        · exact hv.elim
    · cases e
  · cases e
/-- One operation, that may be guarded. -/
theorem vcOp_sound {md : Nat → Bool} {ops : Array Oper} {o : Oper} {co : CO} (e : trCO P n md ops o = some co) (hv : vcOp P co S K) (ht : TRel n M S.T a.tmps) (hr : Rel M S.H w) (hd : a.defers = []) (Q : Exit → Act → World → Prop) :
    if Region.wanted o (yielded ops a.tmps) then o.wp P a w (Fin n M S.H w K) Q else Fin n M S.H w K (a.put o.dst undef) w := by
  have e0 := e
  unfold trCO at e
  split at e
  · rename_i g c hg hc
    split at e
    · cases e
      unfold vcOp at hv
      simp only at hv
      cases hgo : o.guard with
      | none =>
        rw [hgo] at hg
        simp only [trG, Option.some.injEq] at hg; subst hg
        have : Region.wanted o (yielded ops a.tmps) = true := by unfold Region.wanted; rw [hgo]
        rw [this, if_pos rfl]
        exact vcDo_sound e0 hv ht hr hd Q
      | some jw =>
        obtain ⟨j, want⟩ := jw
        rw [hgo] at hg
        simp only [trG] at hg
        split at hg
        · rename_i t htj
          split at hg
          · rename_i htn
            simp only [Option.some.injEq] at hg; subst hg
            simp only at hv
            split at hv
            · rename_i c0 hu
              have hw : Region.wanted o (yielded ops a.tmps) = c0 := by
                unfold Region.wanted
                rw [hgo]
                simp only [yielded_get htj (by rw [ht.1]; exact htn)]
                exact gw_rel (ht.2 t htn) hu
              rw [hw]
              split at hv
              · rename_i k xs
                obtain ⟨h1, h2⟩ := hv
                cases c0 with
                | true =>
                  simp only [if_true]
                  exact vcDo_sound e0 (h1 rfl) ht hr hd Q
                | false =>
                  simp only [Bool.false_eq_true, if_false]
                  exact ⟨M, ⟨put S.T o.dst (.tup []), S.H⟩, ht.put o.dst (rel_undef M), hr, put_defers hd _ _, .refl _ _ _, h2 rfl⟩
              · rename_i hne
                split at hv
                · rename_i q v hev
                  obtain ⟨h1, h2⟩ := hv
                  cases c0 with
                  | true =>
                    simp only [if_true]
                    have hpp : trP P n o.op = some c := by
                      unfold trOp at hc
                      split at hc
                      · rename_i h; cases hc; exact h
                      · split at hc
                        · simp only [Option.map_eq_some_iff] at hc
                          obtain ⟨cs, _, rfl⟩ := hc
                          exact absurd rfl (hne _ _)
                        · cases hc
                          exact absurd rfl (hne _ _)
                    obtain ⟨x, g1, g2⟩ := trP_sound hpp ht hr hev (h1 rfl)
                    exact wp_value ht hd g1 (by simp only [VRel]; exact ⟨fun _ => g2, fun h => by cases h⟩) hr (.refl _ _ _) h2
                  | false =>
                    simp only [Bool.false_eq_true, if_false]
                    exact ⟨M, ⟨put S.T o.dst (.gd false v), S.H⟩, ht.put o.dst (by simp only [VRel]; exact ⟨(fun h => by cases h), fun _ => trivial⟩), hr, put_defers hd _ _, .refl _ _ _, h2⟩
                · obtain ⟨h1, h2⟩ := hv
                  subst h1
                  simp only [Bool.false_eq_true, if_false]
                  exact ⟨M, ⟨put S.T o.dst (.tup []), S.H⟩, ht.put o.dst (rel_undef M), hr, put_defers hd _ _, .refl _ _ _, h2⟩
            · exact hv.elim
          · cases hg
        · cases hg
    · cases e
  · cases e
/-- A region's operations, in the text's order. -/
theorem vcOps_sound {md : Nat → Bool} {ops : Array Oper} {Q : Exit → Act → World → Prop} : ∀ (l : List Oper) (cos : List CO) (i : Nat), (∀ j, l[j]? = ops[i + j]?) → trOps P n md ops l = some cos → ∀ (S : AS) (M : Mem) (a : Act) (w : World),
    vcOps P cos S K → TRel n M S.T a.tmps → Rel M S.H w → a.defers = [] → (∀ a' w', Fin n M S.H w K a' w' → Q .normal a' w') → wpOps P ops Q (List.range' i l.length) a w
  | [], cos, i, hl, e, S, M, a, w, hv, ht, hr, hd, hQ => by
    simp only [trOps, Option.some.injEq] at e; subst e
    simp only [List.length_nil, List.range'_zero, wpOps]
    exact hQ _ _ ⟨M, S, ht, hr, hd, .refl _ _ _, hv⟩
  | o :: l, cos, i, hl, e, S, M, a, w, hv, ht, hr, hd, hQ => by
    simp only [trOps] at e
    split at e
    · rename_i c cs e1 e2
      cases e
      simp only [List.length_cons, List.range'_succ]
      rw [wpOps_cons]
      have h0 : ops[i]? = some o := by simpa using (hl 0).symm
      have hl' : ∀ j, l[j]? = ops[i + 1 + j]? := fun j => by
        have := hl (j + 1)
        rw [show i + 1 + j = i + (j + 1) by omega]; simpa using this
      have hnext : ∀ a' w', Fin n M S.H w (fun S' => vcOps P cs S' K) a' w' → wpOps P ops Q (List.range' (i + 1) l.length) a' w' := by
        rintro a' w' ⟨M', S', k1, k2, k3, k4, k5⟩
        exact vcOps_sound l cs (i + 1) hl' e2 S' M' a' w' k5 k1 k2 k3 fun a2 w2 hf => hQ _ _ (hf.step k4)
      have hop := vcOp_sound (K := fun S' => vcOps P cs S' K) e1 hv ht hr hd Q
      unfold wpOp
      rw [h0]
      simp only
      split
      · rename_i hw
        rw [if_pos hw] at hop
        exact .inl (Oper.wp_mono hnext hop)
      · rename_i hw
        rw [if_neg hw] at hop
        exact hnext _ _ hop
    · cases e
theorem ops_sound {md : Nat → Bool} {ops : Array Oper} {cos : List CO} {id : Nat} (e : trOps P n md ops ops.toList = some cos) {Q : Exit → AS → Prop} (hv : vcOps P cos S (Q .normal)) : CT P n (.region id ops false) S Q := by
  intro M a w ht hr hd
  refine wp_region ?_
  rw [List.range_eq_range']
  have := vcOps_sound (Q := fun e => Fin n M S.H w (Q e)) ops.toList cos 0 (fun j => by simp) e S M a w hv ht hr hd (fun a' w' hf => hf)
  simpa using this
end
end Go.Sf

end
