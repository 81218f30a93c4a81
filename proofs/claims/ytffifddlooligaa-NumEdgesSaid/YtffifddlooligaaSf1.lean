/- The framework's values: abstract values, how they stand for the model's, what a heap of abstract blocks says of a world. No program is named here. -/
import Derived.Calls
import Derived.Orders
import Derived.MapKept
set_option linter.unusedVariables false
set_option linter.unusedSimpArgs false
namespace Go.Sf

/-- An abstract value. 'imm': a slice whose cells nobody writes any more, its cells written out; 'iptr': a pointer into such cells; 'gd b v': v where b holds. -/
inductive AV where
  | any
  | int (k : IntKind) (n : Int)
  | bool (b : Bool)
  | str (s : ByteArray)
  | nilp
  | ptr (b off : Nat)
  | iptr (cs : List AV) (i : Nat)
  | nils
  | sl (b off len cap : Nat)
  | imm (cs : List AV) (len : Nat) (cap : Option Nat)
  | nilm
  | mp (b : Nat)
  | nilf
  | fn (f : Fn) (first captured : List AV)
  | agg (cs : List AV)
  | tup (vs : List AV)
  | gd (b : Bool) (v : AV)
  deriving Inhabited

/-- Cells that nobody writes any more. -/
abbrev Mem := Nat → Nat → Option Value
def MLe (M M' : Mem) : Prop := ∀ b o v, M b o = some v → M' b o = some v
theorem MLe.refl (M : Mem) : MLe M M := fun _ _ _ h => h
theorem MLe.trans {A B C : Mem} (h : MLe A B) (k : MLe B C) : MLe A C := fun b o v e => k b o v (h b o v e)
/-- In M the cells from o on in block b are vs. -/
def MAt (M : Mem) (b o : Nat) (vs : List Value) : Prop := ∀ j u, vs[j]? = some u → M b (o + j) = some u
theorem MAt.mono {M M' : Mem} (h : MLe M M') {b o : Nat} {vs : List Value} (k : MAt M b o vs) : MAt M' b o vs := fun j u e => h _ _ _ (k j u e)

mutual
/-- The abstract value stands for the model's. -/
def VRel (M : Mem) : AV → Value → Prop
  | .any, _ => True
  | .int k n, v => v = .int k n
  | .bool b, v => v = .bool b
  | .str s, v => v = .string s
  | .nilp, v => v = .pointer none
  | .ptr b o, v => v = .pointer (some ⟨b, o, none⟩)
  | .iptr cs i, v => ∃ b o vs, v = .pointer (some ⟨b, o + i, none⟩) ∧ MAt M b o vs ∧ VRels M cs vs
  | .nils, v => v = .slice none 0 0
  | .sl b o n c, v => v = .slice (some ⟨b, o, none⟩) n c
  | .imm cs n c, v => ∃ a vs k, v = .slice a n k ∧ (∀ x, c = some x → k = x) ∧ n ≤ k ∧ (a = none → k = 0 ∧ vs = []) ∧ (∀ x, a = some x → x.spot = none ∧ MAt M x.block x.off vs) ∧ VRels M cs vs
  | .nilm, v => v = .map none
  | .mp b, v => v = .map (some b)
  | .nilf, v => v = .nilFunc
  | .fn f first captured, v => ∃ xs ys, v = .func f xs ys ∧ VRels M first xs.toList ∧ VRels M captured ys.toList
  | .agg cs, v => ∃ xs, v = .agg xs ∧ VRels M cs xs.toList
  | .tup vs, v => ∃ xs, v = .tuple xs ∧ VRels M vs xs.toList
  | .gd b x, v => (b = true → VRel M x v) ∧ (b = false → v = undef)
def VRels (M : Mem) : List AV → List Value → Prop
  | [], vs => vs = []
  | a :: as, vs => ∃ v vs', vs = v :: vs' ∧ VRel M a v ∧ VRels M as vs'
end

mutual
theorem VRel.mono {M M' : Mem} (h : MLe M M') : ∀ (a : AV) (v : Value), VRel M a v → VRel M' a v
  | .any, _, _ => by simp only [VRel]
  | .int k n, v, e => by simp only [VRel] at *; exact e
  | .bool b, v, e => by simp only [VRel] at *; exact e
  | .str s, v, e => by simp only [VRel] at *; exact e
  | .nilp, v, e => by simp only [VRel] at *; exact e
  | .ptr b o, v, e => by simp only [VRel] at *; exact e
  | .iptr cs i, v, e => by
    simp only [VRel] at *
    obtain ⟨b, o, vs, h1, h2, h3⟩ := e
    exact ⟨b, o, vs, h1, h2.mono h, VRels.mono h cs vs h3⟩
  | .nils, v, e => by simp only [VRel] at *; exact e
  | .sl b o n c, v, e => by simp only [VRel] at *; exact e
  | .imm cs n c, v, e => by
    simp only [VRel] at *
    obtain ⟨a, vs, k, h1, h2, h3, h4, h5, h6⟩ := e
    exact ⟨a, vs, k, h1, h2, h3, h4, fun x hx => ⟨(h5 x hx).1, (h5 x hx).2.mono h⟩, VRels.mono h cs vs h6⟩
  | .nilm, v, e => by simp only [VRel] at *; exact e
  | .mp b, v, e => by simp only [VRel] at *; exact e
  | .nilf, v, e => by simp only [VRel] at *; exact e
  | .fn f first captured, v, e => by
    simp only [VRel] at *
    obtain ⟨xs, ys, h1, h2, h3⟩ := e
    exact ⟨xs, ys, h1, VRels.mono h _ _ h2, VRels.mono h _ _ h3⟩
  | .agg cs, v, e => by
    simp only [VRel] at *
    obtain ⟨xs, h1, h2⟩ := e
    exact ⟨xs, h1, VRels.mono h _ _ h2⟩
  | .tup cs, v, e => by
    simp only [VRel] at *
    obtain ⟨xs, h1, h2⟩ := e
    exact ⟨xs, h1, VRels.mono h _ _ h2⟩
  | .gd b x, v, e => by simp only [VRel] at *; exact ⟨fun hb => VRel.mono h x v (e.1 hb), e.2⟩
theorem VRels.mono {M M' : Mem} (h : MLe M M') : ∀ (as : List AV) (vs : List Value), VRels M as vs → VRels M' as vs
  | [], _, e => by simp only [VRels] at *; exact e
  | a :: as, vs, e => by
    simp only [VRels] at *
    obtain ⟨v, vs', h1, h2, h3⟩ := e
    exact ⟨v, vs', h1, VRel.mono h a v h2, VRels.mono h as vs' h3⟩
end

theorem VRels.length {M : Mem} : ∀ {as : List AV} {vs : List Value}, VRels M as vs → as.length = vs.length
  | [], vs, e => by simp only [VRels] at e; simp [e]
  | a :: as, vs, e => by
    simp only [VRels] at e
    obtain ⟨v, vs', rfl, _, h3⟩ := e
    simp [VRels.length h3]
theorem VRels.get {M : Mem} : ∀ {as : List AV} {vs : List Value}, VRels M as vs → ∀ {i : Nat} {a : AV}, as[i]? = some a → ∃ v, vs[i]? = some v ∧ VRel M a v
  | [], vs, e, i, a, h => by simp at h
  | a :: as, vs, e, i, x, h => by
    simp only [VRels] at e
    obtain ⟨v, vs', rfl, h2, h3⟩ := e
    cases i with
    | zero => simp at h; subst h; exact ⟨v, by simp, h2⟩
    | succ i => simp at h; simpa using VRels.get h3 h
theorem VRels.nil {M : Mem} : VRels M [] [] := by simp only [VRels]
theorem VRels.cons {M : Mem} {a : AV} {v : Value} {as : List AV} {vs : List Value} (h : VRel M a v) (k : VRels M as vs) : VRels M (a :: as) (v :: vs) := by
  simp only [VRels]; exact ⟨v, vs, rfl, h, k⟩
theorem VRels.of_get {M : Mem} : ∀ {as : List AV} {vs : List Value}, as.length = vs.length → (∀ (i : Nat) (a : AV) (v : Value), as[i]? = some a → vs[i]? = some v → VRel M a v) → VRels M as vs
  | [], [], _, _ => .nil
  | [], _ :: _, h, _ => by simp at h
  | _ :: _, [], h, _ => by simp at h
  | a :: as, v :: vs, h, k => .cons (k 0 a v rfl rfl) (VRels.of_get (by simpa using h) fun i a' v' h1 h2 => k (i + 1) a' v' (by simpa using h1) (by simpa using h2))
theorem VRels.append {M : Mem} {as bs : List AV} {vs us : List Value} (h : VRels M as vs) (k : VRels M bs us) : VRels M (as ++ bs) (vs ++ us) := by
  induction as generalizing vs with
  | nil => simp only [VRels] at h; subst h; exact k
  | cons a as ih =>
    simp only [VRels] at h
    obtain ⟨v, vs', rfl, h2, h3⟩ := h
    exact .cons h2 (ih h3)
theorem VRels.drop {M : Mem} {as : List AV} {vs : List Value} (h : VRels M as vs) (n : Nat) : VRels M (as.drop n) (vs.drop n) :=
  .of_get (by simp [h.length]) fun i a v h1 h2 => by
    simp only [List.getElem?_drop] at h1 h2
    obtain ⟨u, hu, hr⟩ := h.get h1
    rw [hu] at h2; cases h2; exact hr
theorem VRels.take {M : Mem} {as : List AV} {vs : List Value} (h : VRels M as vs) (n : Nat) : VRels M (as.take n) (vs.take n) :=
  .of_get (by simp [h.length]) fun i a v h1 h2 => by
    simp only [List.getElem?_take] at h1 h2
    split at h1
    · rename_i hi
      rw [if_pos hi] at h2
      obtain ⟨u, hu, hr⟩ := h.get h1
      rw [hu] at h2; cases h2; exact hr
    · cases h1
theorem VRels.set {M : Mem} {as : List AV} {vs : List Value} (h : VRels M as vs) (n : Nat) {a : AV} {v : Value} (k : VRel M a v) : VRels M (as.set n a) (vs.set n v) :=
  .of_get (by simp [h.length]) fun i x u h1 h2 => by
    by_cases hi : n = i
    · subst hi
      rw [List.getElem?_set_self'] at h1 h2
      cases ha : as[n]? with
      | none => simp [ha] at h1
      | some a' =>
        obtain ⟨u', hu, _⟩ := h.get ha
        simp [ha] at h1; simp [hu] at h2; subst h1; subst h2; exact k
    · rw [List.getElem?_set_ne hi] at h1 h2
      obtain ⟨u', hu, hr⟩ := h.get h1
      rw [hu] at h2; cases h2; exact hr

/-! ### Heaps -/
/-- A block that may be written: its first cells, and how many cells it has in all; or a map: its entries. -/
inductive Blk where
  | cells (vs : List AV) (n : Nat)
  | map (es : List (AV × AV))
  | raw (o : Obj)
  deriving Inhabited
abbrev Heap := Nat → Option Blk
def Heap.nil : Heap := fun _ => none
def Heap.set (H : Heap) (b : Nat) (x : Option Blk) : Heap := fun k => if k = b then x else H k
theorem Heap.set_self (H : Heap) (b : Nat) (x : Option Blk) : H.set b x b = x := by simp [Heap.set]
theorem Heap.set_ne (H : Heap) {b k : Nat} (x : Option Blk) (h : k ≠ b) : H.set b x k = H k := by simp [Heap.set, h]
theorem Heap.nil_at (b : Nat) : Heap.nil b = none := rfl

def BRel (M : Mem) : Blk → Obj → Prop
  | .cells vs n, o => ∃ c e fr, o = .cells c e fr ∧ c.size = n ∧ vs.length ≤ n ∧ (fr.1 = fr.2 ∨ n ≤ fr.1) ∧ VRels M vs (c.toList.take vs.length)
  | .map es, o => ∃ xs clock, o = .map xs clock ∧ MapKept.Stamped xs clock ∧ VRels M (es.map (·.1)) (xs.toList.map (·.key)) ∧ VRels M (es.map (·.2)) (xs.toList.map (·.val))
  | .raw o', o => o = o'
theorem BRel.mono {M M' : Mem} (h : MLe M M') {k : Blk} {o : Obj} (r : BRel M k o) : BRel M' k o := by
  cases k with
  | cells vs n =>
    simp only [BRel] at *
    obtain ⟨c, e, fr, h1, h2, h3, h4, h5⟩ := r
    exact ⟨c, e, fr, h1, h2, h3, h4, VRels.mono h _ _ h5⟩
  | map es =>
    simp only [BRel] at *
    obtain ⟨xs, clock, h1, hs, h2, h3⟩ := r
    exact ⟨xs, clock, h1, hs, VRels.mono h _ _ h2, VRels.mono h _ _ h3⟩
  | raw o' => simp only [BRel] at *; exact r

structure Rel (M : Mem) (H : Heap) (w : World) : Prop where
  mem : ∀ b o v, M b o = some v → H b = none ∧ w.cell? ⟨b, o, none⟩ = some v
  live : ∀ b k, H b = some k → ∃ o, w.heap[b]? = some o ∧ BRel M k o

theorem Rel.lt {M : Mem} {H : Heap} {w : World} (r : Rel M H w) {b : Nat} {k : Blk} (h : H b = some k) : b < w.heap.size := by
  obtain ⟨o, ho, _⟩ := r.live b k h
  exact (Array.getElem?_eq_some_iff.1 ho).1
theorem Rel.mlt {M : Mem} {H : Heap} {w : World} (r : Rel M H w) {b o : Nat} {v : Value} (h : M b o = some v) : b < w.heap.size := by
  have := (r.mem b o v h).2
  simp only [World.cell?] at this
  rcases Nat.lt_or_ge b w.heap.size with hl | hl
  · exact hl
  · simp [Array.getElem?_eq_none hl] at this
theorem Rel.fresh {M : Mem} {H : Heap} {w : World} (r : Rel M H w) {b : Nat} (h : w.heap.size ≤ b) : H b = none := by
  cases e : H b with
  | none => rfl
  | some k => have := r.lt e; omega

/-- What is not told of the heap has not changed; what is new in the heap is new in the world. -/
structure Fr (M : Mem) (H : Heap) (w : World) (M' : Mem) (H' : Heap) (w' : World) : Prop where
  os : w'.os = w.os
  tape : w'.tape = w.tape
  output : w'.output = w.output
  size : w.heap.size ≤ w'.heap.size
  mle : MLe M M'
  block : ∀ b, b < w.heap.size → H b = none → w'.heap[b]? = w.heap[b]? ∧ H' b = none ∧ ∀ o, M' b o = M b o
theorem Fr.refl (M : Mem) (H : Heap) (w : World) : Fr M H w M H w := ⟨rfl, rfl, rfl, Nat.le_refl _, MLe.refl _, fun _ _ h => ⟨rfl, h, fun _ => rfl⟩⟩
theorem Fr.trans {M1 M2 M3 : Mem} {H1 H2 H3 : Heap} {w1 w2 w3 : World} (h : Fr M1 H1 w1 M2 H2 w2) (k : Fr M2 H2 w2 M3 H3 w3) : Fr M1 H1 w1 M3 H3 w3 :=
  ⟨k.os.trans h.os, k.tape.trans h.tape, k.output.trans h.output, Nat.le_trans h.size k.size, h.mle.trans k.mle, fun b hb hn => by
    obtain ⟨h1, h2, h3⟩ := h.block b hb hn
    obtain ⟨k1, k2, k3⟩ := k.block b (Nat.lt_of_lt_of_le hb h.size) h2
    exact ⟨k1.trans h1, k2, fun o => (k3 o).trans (h3 o)⟩⟩
/-- Blocks may be forgotten. -/
def Sub (H' H : Heap) : Prop := ∀ b, H' b = H b ∨ H' b = none
theorem Sub.refl (H : Heap) : Sub H H := fun _ => .inl rfl
theorem Sub.nil (H : Heap) : Sub Heap.nil H := fun _ => .inr rfl
theorem Rel.forget {M : Mem} {H H' : Heap} {w : World} (r : Rel M H w) (h : Sub H' H) : Rel M H' w :=
  ⟨fun b o v e => by
    obtain ⟨h1, h2⟩ := r.mem b o v e
    exact ⟨by rcases h b with h | h <;> rw [h]; exact h1, h2⟩, fun b k e => by
    rcases h b with h | h
    · rw [h] at e; exact r.live b k e
    · rw [h] at e; cases e⟩
theorem Fr.forget {M M' : Mem} {H H1 H2 : Heap} {w w' : World} (f : Fr M H w M' H1 w') (h : Sub H2 H1) : Fr M H w M' H2 w' :=
  ⟨f.os, f.tape, f.output, f.size, f.mle, fun b hb hn => by
    obtain ⟨h1, h2, h3⟩ := f.block b hb hn
    exact ⟨h1, by rcases h b with e | e <;> rw [e]; exact h2, h3⟩⟩
/-- The heap H, of which the part H1 has become H1'. -/
def Heap.over (H H1 H1' : Heap) : Heap := fun b => match H1 b, H b with | none, some k => some k | _, _ => H1' b
theorem Heap.over_out {H H1 H1' : Heap} {b : Nat} (h : H1 b = none) (k : H b ≠ none) : Heap.over H H1 H1' b = H b := by
  unfold Heap.over
  cases e : H b with
  | none => exact absurd e k
  | some x => simp [h]
theorem Heap.over_in {H H1 H1' : Heap} {b : Nat} (h : H1 b ≠ none) : Heap.over H H1 H1' b = H1' b := by
  unfold Heap.over
  cases e : H1 b with
  | none => exact absurd e h
  | some x => simp
theorem Heap.over_new {H H1 H1' : Heap} {b : Nat} (h : H b = none) : Heap.over H H1 H1' b = H1' b := by
  unfold Heap.over
  rw [h]; cases H1 b <;> rfl
theorem Rel.over {M M' : Mem} {H H1 H1' : Heap} {w w' : World} (r : Rel M H w) (h : Sub H1 H) (f : Fr M H1 w M' H1' w') (r' : Rel M' H1' w') : Rel M' (Heap.over H H1 H1') w' := by
  refine ⟨fun b o v e => ⟨?_, (r'.mem b o v e).2⟩, fun b k e => ?_⟩
  · by_cases hc : H1 b = none ∧ H b ≠ none
    · rw [Heap.over_out hc.1 hc.2]
      obtain ⟨k, hk⟩ := Option.ne_none_iff_exists'.1 hc.2
      have hb := r.lt hk
      rw [(f.block b hb hc.1).2.2 o] at e
      exact absurd (r.mem b o v e).1 hc.2
    · have : Heap.over H H1 H1' b = H1' b := by
        by_cases h1 : H1 b = none
        · exact Heap.over_new (Classical.byContradiction fun h2 => hc ⟨h1, h2⟩)
        · exact Heap.over_in h1
      rw [this]; exact (r'.mem b o v e).1
  · by_cases hc : H1 b = none ∧ H b ≠ none
    · rw [Heap.over_out hc.1 hc.2] at e
      obtain ⟨o, ho, hr⟩ := r.live b k e
      exact ⟨o, (f.block b (r.lt e) hc.1).1.trans ho, hr.mono f.mle⟩
    · have : Heap.over H H1 H1' b = H1' b := by
        by_cases h1 : H1 b = none
        · exact Heap.over_new (Classical.byContradiction fun h2 => hc ⟨h1, h2⟩)
        · exact Heap.over_in h1
      rw [this] at e; exact r'.live b k e
theorem Fr.over {M M' : Mem} {H H1 H1' : Heap} {w w' : World} (h : Sub H1 H) (f : Fr M H1 w M' H1' w') : Fr M H w M' (Heap.over H H1 H1') w' :=
  ⟨f.os, f.tape, f.output, f.size, f.mle, fun b hb hn => by
    have h1 : H1 b = none := by rcases h b with e | e <;> rw [e]; exact hn
    obtain ⟨k1, k2, k3⟩ := f.block b hb h1
    exact ⟨k1, by rw [Heap.over_new hn]; exact k2, k3⟩⟩

/-! ### Temporaries -/
def TRel (n : Nat) (M : Mem) (T : Nat → AV) (tmps : Array Value) : Prop := tmps.size = n ∧ ∀ i, i < n → VRel M (T i) (tmps.getD i undef)
def tset (T : Nat → AV) (d : Nat) (v : AV) : Nat → AV := fun i => if i = d then v else T i
theorem TRel.mono {n : Nat} {M M' : Mem} (h : MLe M M') {T : Nat → AV} {tmps : Array Value} (r : TRel n M T tmps) : TRel n M' T tmps := ⟨r.1, fun i hi => VRel.mono h _ _ (r.2 i hi)⟩
theorem TRel.set {n : Nat} {M : Mem} {T : Nat → AV} {tmps : Array Value} (r : TRel n M T tmps) {d : Nat} {v : AV} {x : Value} (h : VRel M v x) : TRel n M (tset T d v) (tmps.setIfInBounds d x) := by
  refine ⟨by simp [r.1], fun i hi => ?_⟩
  unfold tset
  by_cases e : i = d
  · subst e
    rw [if_pos rfl]
    simp [Array.getD_eq_getD_getElem?, Array.getElem?_setIfInBounds, r.1, hi, h]
  · rw [if_neg e]
    have := r.2 i hi
    simp only [Array.getD_eq_getD_getElem?] at *
    rwa [Array.getElem?_setIfInBounds_ne (Ne.symm e)]
theorem tset_self (T : Nat → AV) (d : Nat) (v : AV) : tset T d v d = v := by simp [tset]
theorem tset_ne (T : Nat → AV) {d i : Nat} (v : AV) (h : i ≠ d) : tset T d v i = T i := by simp [tset, h]
end Go.Sf
