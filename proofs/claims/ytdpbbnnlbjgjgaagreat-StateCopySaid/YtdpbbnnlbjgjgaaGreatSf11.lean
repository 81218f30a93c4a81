import Derived.Calls
import Derived.Orders
import Derived.MapKept
import Derived.Deep.LoopGhost
import Derived.Laws.StructEq
import Derived.Laws.BytesArg
import Derived.LaidEql
import Derived.WideKeyRuns
section
/- The framework's values: abstract values, how they stand for the model's, what a heap of abstract blocks says of a world. No program is named here. -/
set_option linter.unusedVariables false
set_option linter.unusedSimpArgs false
namespace Go.Sf

/-- An abstract value. 'imm': a slice whose cells nobody writes any more, its cells written out; 'iptr': a pointer into such cells; 'gd b v': v where b holds; 'emp': an empty slice that is not nil. -/
inductive AV where
  | any
  | int (k : IntKind) (n : Int)
  | bool (b : Bool)
  | str (s : ByteArray)
  | nilp
  | ptr (b off : Nat)
  | iptr (cs : List AV) (i : Nat)
  | nils
  | sl (b off len cap : Nat)
  | imm (cs : List AV) (len : Nat) (cap : Option Nat)
  | nilm
  | mp (b : Nat)
  | nilf
  | fn (f : Fn) (first captured : List AV)
  | agg (cs : List AV)
  | tup (vs : List AV)
  | gd (b : Bool) (v : AV)
  | emp
  deriving Inhabited

/-- Cells that nobody writes any more. -/
abbrev Mem := Nat → Nat → Option Value
def MLe (M M' : Mem) : Prop := ∀ b o v, M b o = some v → M' b o = some v
theorem MLe.refl (M : Mem) : MLe M M := fun _ _ _ h => h
theorem MLe.trans {A B C : Mem} (h : MLe A B) (k : MLe B C) : MLe A C := fun b o v e => k b o v (h b o v e)
/-- In M the cells from o on in block b are vs. -/
def MAt (M : Mem) (b o : Nat) (vs : List Value) : Prop := ∀ j u, vs[j]? = some u → M b (o + j) = some u
theorem MAt.mono {M M' : Mem} (h : MLe M M') {b o : Nat} {vs : List Value} (k : MAt M b o vs) : MAt M' b o vs := fun j u e => h _ _ _ (k j u e)

mutual
/-- The abstract value stands for the model's. -/
def VRel (M : Mem) : AV → Value → Prop
  | .any, _ => True
  | .int k n, v => v = .int k n
  | .bool b, v => v = .bool b
  | .str s, v => v = .string s
  | .nilp, v => v = .pointer none
  | .ptr b o, v => v = .pointer (some ⟨b, o, none⟩)
  | .iptr cs i, v => ∃ b o vs, v = .pointer (some ⟨b, o + i, none⟩) ∧ MAt M b o vs ∧ VRels M cs vs
  | .nils, v => v = .slice none 0 0
  | .sl b o n c, v => v = .slice (some ⟨b, o, none⟩) n c
  | .imm cs n c, v => ∃ a vs k, v = .slice a n k ∧ (∀ x, c = some x → k = x) ∧ n ≤ k ∧ (a = none → k = 0 ∧ vs = []) ∧ (∀ x, a = some x → (n ≠ 0 → x.spot = none) ∧ MAt M x.block x.off vs) ∧ VRels M cs vs
  | .nilm, v => v = .map none
  | .mp b, v => v = .map (some b)
  | .nilf, v => v = .nilFunc
  | .fn f first captured, v => ∃ xs ys, v = .func f xs ys ∧ VRels M first xs.toList ∧ VRels M captured ys.toList
  | .agg cs, v => ∃ xs, v = .agg xs ∧ VRels M cs xs.toList
  | .tup vs, v => ∃ xs, v = .tuple xs ∧ VRels M vs xs.toList
  | .gd b x, v => (b = true → VRel M x v) ∧ (b = false → v = undef)
  | .emp, v => ∃ a k, v = .slice (some a) 0 k
def VRels (M : Mem) : List AV → List Value → Prop
  | [], vs => vs = []
  | a :: as, vs => ∃ v vs', vs = v :: vs' ∧ VRel M a v ∧ VRels M as vs'
end

mutual
theorem VRel.mono {M M' : Mem} (h : MLe M M') : ∀ (a : AV) (v : Value), VRel M a v → VRel M' a v
  | .any, _, _ => by simp only [VRel]
  | .int k n, v, e => by simp only [VRel] at *; exact e
  | .bool b, v, e => by simp only [VRel] at *; exact e
  | .str s, v, e => by simp only [VRel] at *; exact e
  | .nilp, v, e => by simp only [VRel] at *; exact e
  | .ptr b o, v, e => by simp only [VRel] at *; exact e
  | .iptr cs i, v, e => by
    simp only [VRel] at *
    obtain ⟨b, o, vs, h1, h2, h3⟩ := e
    exact ⟨b, o, vs, h1, h2.mono h, VRels.mono h cs vs h3⟩
  | .nils, v, e => by simp only [VRel] at *; exact e
  | .sl b o n c, v, e => by simp only [VRel] at *; exact e
  | .imm cs n c, v, e => by
    simp only [VRel] at *
    obtain ⟨a, vs, k, h1, h2, h3, h4, h5, h6⟩ := e
    exact ⟨a, vs, k, h1, h2, h3, h4, fun x hx => ⟨(h5 x hx).1, (h5 x hx).2.mono h⟩, VRels.mono h cs vs h6⟩
  | .nilm, v, e => by simp only [VRel] at *; exact e
  | .mp b, v, e => by simp only [VRel] at *; exact e
  | .nilf, v, e => by simp only [VRel] at *; exact e
  | .fn f first captured, v, e => by
    simp only [VRel] at *
    obtain ⟨xs, ys, h1, h2, h3⟩ := e
    exact ⟨xs, ys, h1, VRels.mono h _ _ h2, VRels.mono h _ _ h3⟩
  | .agg cs, v, e => by
    simp only [VRel] at *
    obtain ⟨xs, h1, h2⟩ := e
    exact ⟨xs, h1, VRels.mono h _ _ h2⟩
  | .tup cs, v, e => by
    simp only [VRel] at *
    obtain ⟨xs, h1, h2⟩ := e
    exact ⟨xs, h1, VRels.mono h _ _ h2⟩
  | .gd b x, v, e => by simp only [VRel] at *; exact ⟨fun hb => VRel.mono h x v (e.1 hb), e.2⟩
  | .emp, v, e => by simp only [VRel] at *; exact e
theorem VRels.mono {M M' : Mem} (h : MLe M M') : ∀ (as : List AV) (vs : List Value), VRels M as vs → VRels M' as vs
  | [], _, e => by simp only [VRels] at *; exact e
  | a :: as, vs, e => by
    simp only [VRels] at *
    obtain ⟨v, vs', h1, h2, h3⟩ := e
    exact ⟨v, vs', h1, VRel.mono h a v h2, VRels.mono h as vs' h3⟩
end

theorem VRels.length {M : Mem} : ∀ {as : List AV} {vs : List Value}, VRels M as vs → as.length = vs.length
  | [], vs, e => by simp only [VRels] at e; simp [e]
  | a :: as, vs, e => by
    simp only [VRels] at e
    obtain ⟨v, vs', rfl, _, h3⟩ := e
    simp [VRels.length h3]
theorem VRels.get {M : Mem} : ∀ {as : List AV} {vs : List Value}, VRels M as vs → ∀ {i : Nat} {a : AV}, as[i]? = some a → ∃ v, vs[i]? = some v ∧ VRel M a v
  | [], vs, e, i, a, h => by simp at h
  | a :: as, vs, e, i, x, h => by
    simp only [VRels] at e
    obtain ⟨v, vs', rfl, h2, h3⟩ := e
    cases i with
    | zero => simp at h; subst h; exact ⟨v, by simp, h2⟩
    | succ i => simp at h; simpa using VRels.get h3 h
theorem VRels.nil {M : Mem} : VRels M [] [] := by simp only [VRels]
theorem VRels.cons {M : Mem} {a : AV} {v : Value} {as : List AV} {vs : List Value} (h : VRel M a v) (k : VRels M as vs) : VRels M (a :: as) (v :: vs) := by
  simp only [VRels]; exact ⟨v, vs, rfl, h, k⟩
theorem VRels.of_get {M : Mem} : ∀ {as : List AV} {vs : List Value}, as.length = vs.length → (∀ (i : Nat) (a : AV) (v : Value), as[i]? = some a → vs[i]? = some v → VRel M a v) → VRels M as vs
  | [], [], _, _ => .nil
  | [], _ :: _, h, _ => by simp at h
  | _ :: _, [], h, _ => by simp at h
  | a :: as, v :: vs, h, k => .cons (k 0 a v rfl rfl) (VRels.of_get (by simpa using h) fun i a' v' h1 h2 => k (i + 1) a' v' (by simpa using h1) (by simpa using h2))
theorem VRels.append {M : Mem} {as bs : List AV} {vs us : List Value} (h : VRels M as vs) (k : VRels M bs us) : VRels M (as ++ bs) (vs ++ us) := by
  induction as generalizing vs with
  | nil => simp only [VRels] at h; subst h; exact k
  | cons a as ih =>
    simp only [VRels] at h
    obtain ⟨v, vs', rfl, h2, h3⟩ := h
    exact .cons h2 (ih h3)
theorem VRels.drop {M : Mem} {as : List AV} {vs : List Value} (h : VRels M as vs) (n : Nat) : VRels M (as.drop n) (vs.drop n) :=
  .of_get (by simp [h.length]) fun i a v h1 h2 => by
    simp only [List.getElem?_drop] at h1 h2
    obtain ⟨u, hu, hr⟩ := h.get h1
    rw [hu] at h2; cases h2; exact hr
theorem VRels.take {M : Mem} {as : List AV} {vs : List Value} (h : VRels M as vs) (n : Nat) : VRels M (as.take n) (vs.take n) :=
  .of_get (by simp [h.length]) fun i a v h1 h2 => by
    simp only [List.getElem?_take] at h1 h2
    split at h1
    · rename_i hi
      rw [if_pos hi] at h2
      obtain ⟨u, hu, hr⟩ := h.get h1
      rw [hu] at h2; cases h2; exact hr
    · cases h1
theorem VRels.set {M : Mem} {as : List AV} {vs : List Value} (h : VRels M as vs) (n : Nat) {a : AV} {v : Value} (k : VRel M a v) : VRels M (as.set n a) (vs.set n v) :=
  .of_get (by simp [h.length]) fun i x u h1 h2 => by
    by_cases hi : n = i
    · subst hi
      rw [List.getElem?_set_self'] at h1 h2
      cases ha : as[n]? with
      | none => simp [ha] at h1
      | some a' =>
        obtain ⟨u', hu, _⟩ := h.get ha
        simp [ha] at h1; simp [hu] at h2; subst h1; subst h2; exact k
    · rw [List.getElem?_set_ne hi] at h1 h2
      obtain ⟨u', hu, hr⟩ := h.get h1
      rw [hu] at h2; cases h2; exact hr

/-! ### Heaps -/
/-- A block that may be written: its first cells, and how many cells it has in all; or a map: its entries. -/
inductive Blk where
  | cells (vs : List AV) (n : Nat)
  | map (es : List (AV × AV))
  | mapS (es : List (AV × AV)) (bs : List Nat) (clock : Nat)
  | raw (o : Obj)
  deriving Inhabited
abbrev Heap := Nat → Option Blk
def Heap.nil : Heap := fun _ => none
def Heap.set (H : Heap) (b : Nat) (x : Option Blk) : Heap := fun k => if k = b then x else H k
theorem Heap.set_self (H : Heap) (b : Nat) (x : Option Blk) : H.set b x b = x := by simp [Heap.set]
theorem Heap.set_ne (H : Heap) {b k : Nat} (x : Option Blk) (h : k ≠ b) : H.set b x k = H k := by simp [Heap.set, h]
theorem Heap.nil_at (b : Nat) : Heap.nil b = none := rfl

def BRel (M : Mem) : Blk → Obj → Prop
  | .cells vs n, o => ∃ c e fr, o = .cells c e fr ∧ c.size = n ∧ vs.length ≤ n ∧ fr.1 = fr.2 ∧ VRels M vs (c.toList.take vs.length)
  | .map es, o => ∃ xs clock, o = .map xs clock ∧ MapKept.Stamped xs clock ∧ VRels M (es.map (·.1)) (xs.toList.map (·.key)) ∧ VRels M (es.map (·.2)) (xs.toList.map (·.val))
  | .mapS es bs clock, o => ∃ xs, o = .map xs clock ∧ MapKept.Stamped xs clock ∧ VRels M (es.map (·.1)) (xs.toList.map (·.key)) ∧ VRels M (es.map (·.2)) (xs.toList.map (·.val)) ∧ xs.toList.map (·.born) = bs
  | .raw o', o => o = o'
theorem BRel.mono {M M' : Mem} (h : MLe M M') {k : Blk} {o : Obj} (r : BRel M k o) : BRel M' k o := by
  cases k with
  | cells vs n =>
    simp only [BRel] at *
    obtain ⟨c, e, fr, h1, h2, h3, h4, h5⟩ := r
    exact ⟨c, e, fr, h1, h2, h3, h4, VRels.mono h _ _ h5⟩
  | map es =>
    simp only [BRel] at *
    obtain ⟨xs, clock, h1, hs, h2, h3⟩ := r
    exact ⟨xs, clock, h1, hs, VRels.mono h _ _ h2, VRels.mono h _ _ h3⟩
  | mapS es bs clock =>
    simp only [BRel] at *
    obtain ⟨xs, h1, hs, h2, h3, h4⟩ := r
    exact ⟨xs, h1, hs, VRels.mono h _ _ h2, VRels.mono h _ _ h3, h4⟩
  | raw o' => simp only [BRel] at *; exact r

/-- A map's entries, whether its stamps are told or not. -/
def mapB : Option Blk → Option (List (AV × AV))
  | some (.map es) | some (.mapS es _ _) => some es
  | _ => none
theorem BRel.mapB {M : Mem} {k : Blk} {o : Obj} {es : List (AV × AV)} (h : Sf.mapB (some k) = some es) (r : BRel M k o) : BRel M (.map es) o := by
  cases k <;> simp only [Sf.mapB, Option.some.injEq, reduceCtorEq] at h
  · subst h; exact r
  · subst h
    simp only [BRel] at *
    obtain ⟨xs, h1, hs, h2, h3, h4⟩ := r
    exact ⟨xs, _, h1, hs, h2, h3⟩
theorem mapB_some {x : Option Blk} {es : List (AV × AV)} (h : mapB x = some es) : ∃ k, x = some k ∧ mapB (some k) = some es := by
  cases x with
  | none => simp [mapB] at h
  | some k => exact ⟨k, rfl, h⟩
structure Rel (M : Mem) (H : Heap) (w : World) : Prop where
  mem : ∀ b o v, M b o = some v → H b = none ∧ w.cell? ⟨b, o, none⟩ = some v
  live : ∀ b k, H b = some k → ∃ o, w.heap[b]? = some o ∧ BRel M k o

theorem Rel.lt {M : Mem} {H : Heap} {w : World} (r : Rel M H w) {b : Nat} {k : Blk} (h : H b = some k) : b < w.heap.size := by
  obtain ⟨o, ho, _⟩ := r.live b k h
  exact (Array.getElem?_eq_some_iff.1 ho).1
theorem Rel.mlt {M : Mem} {H : Heap} {w : World} (r : Rel M H w) {b o : Nat} {v : Value} (h : M b o = some v) : b < w.heap.size := by
  have := (r.mem b o v h).2
  simp only [World.cell?] at this
  rcases Nat.lt_or_ge b w.heap.size with hl | hl
  · exact hl
  · simp [Array.getElem?_eq_none hl] at this
theorem Rel.fresh {M : Mem} {H : Heap} {w : World} (r : Rel M H w) {b : Nat} (h : w.heap.size ≤ b) : H b = none := by
  cases e : H b with
  | none => rfl
  | some k => have := r.lt e; omega

/-- What is not told of the heap has not changed; what is new in the heap is new in the world. -/
structure Fr (M : Mem) (H : Heap) (w : World) (M' : Mem) (H' : Heap) (w' : World) : Prop where
  os : w'.os = w.os
  tape : w'.tape = w.tape
  output : w'.output = w.output
  size : w.heap.size ≤ w'.heap.size
  mle : MLe M M'
  block : ∀ b, b < w.heap.size → H b = none → w'.heap[b]? = w.heap[b]? ∧ H' b = none ∧ ∀ o, M' b o = M b o
theorem Fr.refl (M : Mem) (H : Heap) (w : World) : Fr M H w M H w := ⟨rfl, rfl, rfl, Nat.le_refl _, MLe.refl _, fun _ _ h => ⟨rfl, h, fun _ => rfl⟩⟩
theorem Fr.trans {M1 M2 M3 : Mem} {H1 H2 H3 : Heap} {w1 w2 w3 : World} (h : Fr M1 H1 w1 M2 H2 w2) (k : Fr M2 H2 w2 M3 H3 w3) : Fr M1 H1 w1 M3 H3 w3 :=
  ⟨k.os.trans h.os, k.tape.trans h.tape, k.output.trans h.output, Nat.le_trans h.size k.size, h.mle.trans k.mle, fun b hb hn => by
    obtain ⟨h1, h2, h3⟩ := h.block b hb hn
    obtain ⟨k1, k2, k3⟩ := k.block b (Nat.lt_of_lt_of_le hb h.size) h2
    exact ⟨k1.trans h1, k2, fun o => (k3 o).trans (h3 o)⟩⟩
/-- Blocks may be forgotten. -/
def Sub (H' H : Heap) : Prop := ∀ b, H' b = H b ∨ H' b = none
theorem Sub.refl (H : Heap) : Sub H H := fun _ => .inl rfl
theorem Sub.nil (H : Heap) : Sub Heap.nil H := fun _ => .inr rfl
theorem Rel.forget {M : Mem} {H H' : Heap} {w : World} (r : Rel M H w) (h : Sub H' H) : Rel M H' w :=
  ⟨fun b o v e => by
    obtain ⟨h1, h2⟩ := r.mem b o v e
    exact ⟨by rcases h b with h | h <;> rw [h]; exact h1, h2⟩, fun b k e => by
    rcases h b with h | h
    · rw [h] at e; exact r.live b k e
    · rw [h] at e; cases e⟩
theorem Fr.forget {M M' : Mem} {H H1 H2 : Heap} {w w' : World} (f : Fr M H w M' H1 w') (h : Sub H2 H1) : Fr M H w M' H2 w' :=
  ⟨f.os, f.tape, f.output, f.size, f.mle, fun b hb hn => by
    obtain ⟨h1, h2, h3⟩ := f.block b hb hn
    exact ⟨h1, by rcases h b with e | e <;> rw [e]; exact h2, h3⟩⟩
/-- The heap H, of which the part H1 has become H1'. -/
def Heap.over (H H1 H1' : Heap) : Heap := fun b => match H1 b, H b with | none, some k => some k | _, _ => H1' b
theorem Heap.over_out {H H1 H1' : Heap} {b : Nat} (h : H1 b = none) (k : H b ≠ none) : Heap.over H H1 H1' b = H b := by
  unfold Heap.over
  cases e : H b with
  | none => exact absurd e k
  | some x => simp [h]
theorem Heap.over_in {H H1 H1' : Heap} {b : Nat} (h : H1 b ≠ none) : Heap.over H H1 H1' b = H1' b := by
  unfold Heap.over
  cases e : H1 b with
  | none => exact absurd e h
  | some x => simp
theorem Heap.over_new {H H1 H1' : Heap} {b : Nat} (h : H b = none) : Heap.over H H1 H1' b = H1' b := by
  unfold Heap.over
  rw [h]; cases H1 b <;> rfl
theorem Rel.over {M M' : Mem} {H H1 H1' : Heap} {w w' : World} (r : Rel M H w) (h : Sub H1 H) (f : Fr M H1 w M' H1' w') (r' : Rel M' H1' w') : Rel M' (Heap.over H H1 H1') w' := by
  refine ⟨fun b o v e => ⟨?_, (r'.mem b o v e).2⟩, fun b k e => ?_⟩
  · by_cases hc : H1 b = none ∧ H b ≠ none
    · rw [Heap.over_out hc.1 hc.2]
      obtain ⟨k, hk⟩ := Option.ne_none_iff_exists'.1 hc.2
      have hb := r.lt hk
      rw [(f.block b hb hc.1).2.2 o] at e
      exact absurd (r.mem b o v e).1 hc.2
    · have : Heap.over H H1 H1' b = H1' b := by
        by_cases h1 : H1 b = none
        · exact Heap.over_new (Classical.byContradiction fun h2 => hc ⟨h1, h2⟩)
        · exact Heap.over_in h1
      rw [this]; exact (r'.mem b o v e).1
  · by_cases hc : H1 b = none ∧ H b ≠ none
    · rw [Heap.over_out hc.1 hc.2] at e
      obtain ⟨o, ho, hr⟩ := r.live b k e
      exact ⟨o, (f.block b (r.lt e) hc.1).1.trans ho, hr.mono f.mle⟩
    · have : Heap.over H H1 H1' b = H1' b := by
        by_cases h1 : H1 b = none
        · exact Heap.over_new (Classical.byContradiction fun h2 => hc ⟨h1, h2⟩)
        · exact Heap.over_in h1
      rw [this] at e; exact r'.live b k e
theorem Fr.over {M M' : Mem} {H H1 H1' : Heap} {w w' : World} (h : Sub H1 H) (f : Fr M H1 w M' H1' w') : Fr M H w M' (Heap.over H H1 H1') w' :=
  ⟨f.os, f.tape, f.output, f.size, f.mle, fun b hb hn => by
    have h1 : H1 b = none := by rcases h b with e | e <;> rw [e]; exact hn
    obtain ⟨k1, k2, k3⟩ := f.block b hb h1
    exact ⟨k1, by rw [Heap.over_new hn]; exact k2, k3⟩⟩

/-! ### Temporaries -/
def TRel (n : Nat) (M : Mem) (T : Nat → AV) (tmps : Array Value) : Prop := tmps.size = n ∧ ∀ i, i < n → VRel M (T i) (tmps.getD i undef)
def tset (T : Nat → AV) (d : Nat) (v : AV) : Nat → AV := fun i => if i = d then v else T i
theorem TRel.mono {n : Nat} {M M' : Mem} (h : MLe M M') {T : Nat → AV} {tmps : Array Value} (r : TRel n M T tmps) : TRel n M' T tmps := ⟨r.1, fun i hi => VRel.mono h _ _ (r.2 i hi)⟩
theorem TRel.set {n : Nat} {M : Mem} {T : Nat → AV} {tmps : Array Value} (r : TRel n M T tmps) {d : Nat} {v : AV} {x : Value} (h : VRel M v x) : TRel n M (tset T d v) (tmps.setIfInBounds d x) := by
  refine ⟨by simp [r.1], fun i hi => ?_⟩
  unfold tset
  by_cases e : i = d
  · subst e
    rw [if_pos rfl]
    simp [Array.getD_eq_getD_getElem?, Array.getElem?_setIfInBounds, r.1, hi, h]
  · rw [if_neg e]
    have := r.2 i hi
    simp only [Array.getD_eq_getD_getElem?] at *
    rwa [Array.getElem?_setIfInBounds_ne (Ne.symm e)]
theorem tset_self (T : Nat → AV) (d : Nat) (v : AV) : tset T d v d = v := by simp [tset]
theorem tset_ne (T : Nat → AV) {d i : Nat} (v : AV) (h : i ≠ d) : tset T d v i = T i := by simp [tset, h]
end Go.Sf

end
section
/- The framework's code: operations with their types resolved, what they give on abstract values, and the condition under which a piece of code does what is asked of it. No program is named here. -/
set_option linter.unusedVariables false
set_option linter.unusedSimpArgs false
namespace Go.Sf

inductive CX where
  | t (i : Nat)
  | c (v : AV)
  | f (i : Nat)
  deriving Inhabited

inductive SK where
  | b | i | s | k3
  deriving Inhabited, DecidableEq
/-- What '==' compares. -/
inductive EqT where
  | bool | ptr | slice | map | func | flat (ks : List SK)
  deriving Inhabited, DecidableEq

/-- What a length is asked of. -/
inductive LT where
  | s | a | m
  deriving Inhabited, DecidableEq
/-- Operations that look alone. -/
inductive PK where
  | mv
  | un (op : UnOp)
  | bin (op : BinOp)
  | eq (neg : Bool) (c : EqT)
  | cvt (k : IntKind)
  | cvtS
  | b2s
  | nilc
  | faddr (off : Nat)
  | iaddr (sz : Nat)
  | iarr (len sz : Nat)
  | load (sz : Option Nat)
  | field (off : Nat) (sz : Option Nat)
  | idxS
  | slc (sz : Nat) (lo hi mx : Bool)
  | slcS (lo hi : Bool)
  | ext (i : Nat)
  | len (c : LT)
  | cap
  | min
  | max
  | mkfn (f : Fn) (first : Nat)
  | lkp (sk : SK) (ok : Bool) (zero : AV)
  | build (zero : List AV) (places : List (Nat × Nat))
  deriving Inhabited

/-- Operations that make, write or call. -/
inductive EK where
  | alloc (zero : List AV)
  | box
  | bslice (frozen : Bool) (zero : List AV) (places : List (Nat × Nat)) (len : Nat)
  | store (sz : Option Nat)
  | append (frozen : Bool) (sz bytes : Nat)
  | s2b
  | mark
  | mkslice (frozen : Bool) (zero : List AV) (bytes : Nat)
  | mkmap
  | mset (sk : SK)
  | mdel (sk : SK)
  | nope
  | rng
  | nxt
  | ent
  | copy (sz : Nat)
  | clr (zero : List AV)
  | appz (zero : List AV) (bytes : Nat)
  | ext (f : Nat)
  | call (f : Nat)
  | callv
  deriving Inhabited

inductive COp where
  | p (k : PK) (xs : List CX)
  | pick (c a b : CX)
  | e (k : EK) (xs : List CX)
  deriving Inhabited

structure CO where
  dst : Option Nat
  g : Option (Nat × Bool)
  op : COp
  deriving Inhabited

/-- A region's operations in every order that may come: 'two' where the order is open. -/
inductive OT where
  | done
  | op (o : CO) (t : OT)
  | two (a b : OT)
  deriving Inhabited

inductive CCode where
  | skip
  | ops (l : List CO)
  | any (t : OT)
  | draw (h t : List CO)
  | drawF (h : List CO) (t : OT)
  | drawG (h : List CO) (t : OT)
  | drawA (h : List CO) (al : List (Nat × List AV)) (t : List CO)
  | seq (a b : CCode)
  | cond (c : CX) (a b : CCode)
  | block (id : Nat) (a : CCode)
  | loop (a : CCode)
  | exit (id : Nat)
  | ret
  | mark (a : CCode)
  deriving Inhabited

def un : AV → Prop × AV
  | .gd b v => (b = true ∧ (un v).1, (un v).2)
  | v => (True, v)
def CX.ev (x : CX) (T : Nat → AV) : AV := match x with | .t i => T i | .c v => v | .f i => .fn (.func i) [] []

/-- Whether what is guarded so is carried out. -/
def gw (want : Bool) : AV → Option Bool
  | .bool b => some (b == want)
  | .gd b v => match gw want v with
    | some c => some (b && c)
    | none => if b then none else some false
  | .tup [] => some false
  | _ => none

/-! ### Numbers, strings, equality -/
def bitsOf (k : IntKind) (f : BitVec k.bits → BitVec k.bits → BitVec k.bits) (a b : Int) : Int := k.wrap (f (BitVec.ofInt k.bits a) (BitVec.ofInt k.bits b)).toNat
def binInt (op : BinOp) (k : IntKind) (a b : Int) : Option (Prop × AV) :=
  match op with
  | .add => some (True, .int k (k.wrap (a + b)))
  | .sub => some (True, .int k (k.wrap (a - b)))
  | .mul => some (True, .int k (k.wrap (a * b)))
  | .quo => some (b ≠ 0, .int k (k.wrap (a.tdiv b)))
  | .rem => some (b ≠ 0, .int k (a.tmod b))
  | .and => some (True, .int k (bitsOf k (· &&& ·) a b))
  | .or => some (True, .int k (bitsOf k (· ||| ·) a b))
  | .xor => some (True, .int k (bitsOf k (· ^^^ ·) a b))
  | .eql => some (True, .bool (decide (a = b)))
  | .neq => some (True, .bool (decide (a ≠ b)))
  | .lss => some (True, .bool (decide (a < b)))
  | .leq => some (True, .bool (decide (a ≤ b)))
  | .gtr => some (True, .bool (decide (b < a)))
  | .geq => some (True, .bool (decide (b ≤ a)))
  | _ => none
def shiftInt (op : BinOp) (k : IntKind) (a b : Int) : Option (Prop × AV) :=
  match op with
  | .shl => some (0 ≤ b, .int k (k.wrap (a * 2 ^ (Nat.min b.toNat k.bits))))
  | .shr => some (0 ≤ b, .int k (a.fdiv (2 ^ (Nat.min b.toNat k.bits))))
  | _ => none
def strLt (a b : ByteArray) : Bool := Op.bytesLess a.data.toList b.data.toList
def binStr (op : BinOp) (a b : ByteArray) : Option (Prop × AV) :=
  match op with
  | .add => some (((a.size + b.size : Nat) : Int) ≤ 9223372036854775807, .str (a ++ b))
  | .eql => some (True, .bool (decide (a = b)))
  | .neq => some (True, .bool (decide (a ≠ b)))
  | .lss => some (True, .bool (strLt a b))
  | .gtr => some (True, .bool (!(strLt a b || decide (a = b))))
  | _ => none
def isShift : BinOp → Bool
  | .shl | .shr => true
  | _ => false
def binV (op : BinOp) (x y : AV) : Option (Prop × AV) :=
  match x, y with
  | .int k a, .int k' b => if isShift op then shiftInt op k a b else if k = k' then binInt op k a b else none
  | .str a, .str b => if isShift op then none else binStr op a b
  | _, _ => none
def scalEq : SK → AV → AV → Option Bool
  | .i, .int k a, .int k' b => if k = k' then some (decide (a = b)) else none
  | .b, .bool a, .bool b => some (decide (a = b))
  | .s, .str a, .str b => some (decide (a = b))
  | .k3, .agg [.int i1 a1, .int i2 a2, .int i3 a3], .agg [.int j1 b1, .int j2 b2, .int j3 b3] => if i1 = j1 ∧ i2 = j2 ∧ i3 = j3 then some (decide (a1 = b1) && (decide (a2 = b2) && decide (a3 = b3))) else none
  | _, _, _ => none
/-- A key of its kind's form. -/
def keyOK : SK → AV → Bool
  | .k3, .agg [.int _ _, .int _ _, .int _ _] => true
  | .k3, _ => false
  | _, _ => true
def flatEq : List SK → List AV → List AV → Option Bool
  | [], [], [] => some true
  | k :: ks, x :: xs, y :: ys => match scalEq k x y, flatEq ks xs ys with
    | some b, some c => some (b && c)
    | _, _ => none
  | _, _, _ => none
def eqV (c : EqT) (x y : AV) : Option Bool :=
  match c, x, y with
  | .bool, .bool a, .bool b => some (decide (a = b))
  | .ptr, .nilp, .nilp => some true
  | .ptr, .nilp, .ptr _ _ | .ptr, .ptr _ _, .nilp | .ptr, .nilp, .iptr _ _ | .ptr, .iptr _ _, .nilp => some false
  | .ptr, .ptr b o, .ptr b' o' => if b = b' ∧ o = o' then some true else none
  | .slice, .nils, .nils => some true
  | .slice, .nils, .sl _ _ _ _ | .slice, .sl _ _ _ _, .nils => some false
  | .slice, .nils, .imm _ (_ + 1) _ | .slice, .imm _ (_ + 1) _, .nils => some false
  | .slice, .nils, .emp | .slice, .emp, .nils => some false
  | .map, .nilm, .nilm => some true
  | .map, .nilm, .mp _ | .map, .mp _, .nilm => some false
  | .func, .nilf, .nilf => some true
  | .func, .nilf, .fn _ _ _ | .func, .fn _ _ _, .nilf => some false
  | .flat ks, .agg xs, .agg ys => flatEq ks xs ys
  | _, _, _ => none
def unV (op : UnOp) (x : AV) : Option (Prop × AV) :=
  match op, x with
  | .neg, .int k n => some (True, .int k (k.wrap (0 - n)))
  | .not, .bool b => some (True, .bool (!b))
  | _, _ => none

/-! ### Slices -/
def byteV (b : UInt8) : AV := .int .u8 b.toNat
def toBytes : List AV → Option (List UInt8)
  | [] => some []
  | .int .u8 x :: r => match toBytes r with
    | some l => some (UInt8.ofNat x.toNat :: l)
    | none => none
  | _ :: _ => none
/-- A slice's cells (the slice's elements have sz cells). -/
def cellsOf (H : Heap) (sz : Nat) (v : AV) : Option (List AV) :=
  match v with
  | .nils => some []
  | .imm cs n _ => if cs.length = n * sz then some cs else none
  | .sl b o n _ => if n = 0 then some [] else match H b with
    | some (.cells vs _) => if o + n * sz ≤ vs.length then some ((vs.drop o).take (n * sz)) else none
    | _ => none
  | .str s => if sz = 1 then some (s.data.toList.map byteV) else none
  | .emp => some []
  | _ => none
def lenOf : AV → Option Nat
  | .nils => some 0
  | .imm _ n _ | .sl _ _ n _ => some n
  | .str s => some s.size
  | .emp => some 0
  | _ => none
def optI (b : Bool) (xs : List AV) (d : Int) : Option (Int × List AV) :=
  if b then match xs with
    | .int _ n :: r => some (n, r)
    | _ => none
  else some (d, xs)
def slcV (sz : Nat) (mxb : Bool) (x : AV) (lo hi mx : Int) : Option (Prop × AV) :=
  match x with
  | .nils => some (0 ≤ lo ∧ lo ≤ hi ∧ hi ≤ 0 ∧ (mxb = true → hi ≤ mx ∧ mx ≤ 0), .nils)
  | .imm cs n c => if mxb then some (0 ≤ lo ∧ lo ≤ hi ∧ hi ≤ mx ∧ mx ≤ n ∧ cs.length = n * sz, .imm ((cs.drop (lo.toNat * sz)).take ((hi.toNat - lo.toNat) * sz)) (hi.toNat - lo.toNat) (some (mx.toNat - lo.toNat)))
    else some (0 ≤ lo ∧ lo ≤ hi ∧ hi ≤ n ∧ cs.length = n * sz, .imm ((cs.drop (lo.toNat * sz)).take ((hi.toNat - lo.toNat) * sz)) (hi.toNat - lo.toNat) (c.map (· - lo.toNat)))
  | .sl b o n c => let m : Int := if mxb then mx else c
    some (0 ≤ lo ∧ lo ≤ hi ∧ hi ≤ m ∧ m ≤ c, .sl b (if m.toNat = lo.toNat then o else o + lo.toNat * sz) (hi.toNat - lo.toNat) (m.toNat - lo.toNat))
  | _ => none
def AV.cellsL : AV → List AV
  | .agg xs => xs
  | v => [v]
def fillC (cells : List AV) : List (Nat × Nat) → List AV → Option (List AV)
  | [], [] => some cells
  | (off, sz) :: ps, v :: vs =>
    if v.cellsL.length = sz ∧ off + sz ≤ cells.length then fillC (cells.take off ++ v.cellsL ++ cells.drop (off + sz)) ps vs else none
  | _, _ => none
/-- One cell's value, or not known to be one. -/
def AV.one : AV → Bool
  | .any | .agg _ | .tup _ | .gd _ _ => false
  | _ => true
/-- A value whose shape is known: its cells can be told. -/
def AV.known : AV → Bool
  | .any | .tup _ | .gd _ _ => false
  | _ => true

/-! ### Maps -/
def mapOf (H : Heap) : AV → Option (List (AV × AV))
  | .nilm => some []
  | .mp b => mapB (H b)
  | _ => none
/-- At which place a key stands. -/
def findI (sk : SK) (k : AV) : List (AV × AV) → Option (Option Nat)
  | [] => if keyOK sk k = true then some none else none
  | e :: es => match scalEq sk k e.1 with
    | some true => some (some 0)
    | some false => match findI sk k es with
      | some r => some (r.map (· + 1))
      | none => none
    | none => none
def lkpV (ok : Bool) (zero : AV) (es : List (AV × AV)) (r : Option Nat) : AV :=
  let v := match r.bind (es[·]?) with
    | some e => e.2
    | none => zero
  if ok then .tup [v, .bool r.isSome] else v
def msetV (k v : AV) (es : List (AV × AV)) : Option Nat → List (AV × AV)
  | some j => es.set j (k, v)
  | none => es ++ [(k, v)]
def mdelV (es : List (AV × AV)) : Option Nat → List (AV × AV)
  | some j => es.eraseIdx j
  | none => es

def evK : PK → Heap → List AV → Option (Prop × AV)
  | .lkp sk ok zero, H, [m, k] => match mapOf H m with
    | some es => match findI sk k es with
      | some r => some (True, lkpV ok zero es r)
      | none => none
    | none => none
  | .mv, _, [v] => some (True, v)
  | .un op, _, [v] => unV op v
  | .bin op, _, [x, y] => binV op x y
  | .eq neg c, _, [x, y] => match eqV c x y with
    | some b => some (True, .bool (if neg then !b else b))
    | none => none
  | .cvt k, _, [.int _ n] => some (True, .int k (k.wrap n))
  | .cvtS, _, [.str s] => some (True, .str s)
  | .b2s, _, [.str _] => none
  | .b2s, H, [v] => match cellsOf H 1 v with
    | some cs => match toBytes cs with
      | some l => some (True, .str ⟨l.toArray⟩)
      | none => none
    | none => none
  | .nilc, _, [v] => match v with
    | .ptr _ _ | .iptr _ _ => some (True, v)
    | .fn (.func _) _ _ => some (True, v)
    | _ => none
  | .faddr off, _, [v] => match v with
    | .ptr b o => some (True, .ptr b (o + off))
    | .iptr cs i => some (True, .iptr cs (i + off))
    | _ => none
  | .iaddr sz, _, [v, .int _ i] => match v with
    | .imm cs n _ => some (0 ≤ i ∧ i < n, .iptr cs (i.toNat * sz))
    | .sl b o n _ => some (0 ≤ i ∧ i < n, .ptr b (o + i.toNat * sz))
    | _ => none
  | .iarr len sz, _, [v, .int _ i] => match v with
    | .ptr b o => some (0 ≤ i ∧ i < len, .ptr b (o + i.toNat * sz))
    | .iptr cs j => some (0 ≤ i ∧ i < len, .iptr cs (j + i.toNat * sz))
    | _ => none
  | .load none, H, [v] => match v with
    | .ptr b o => match H b with
      | some (.cells vs _) => match vs[o]? with
        | some x => some (True, x)
        | none => none
      | _ => none
    | .iptr cs i => match cs[i]? with
      | some x => some (True, x)
      | none => none
    | _ => none
  | .load (some k), H, [v] => match v with
    | .ptr b o => match H b with
      | some (.cells vs _) => some (o + k ≤ vs.length, .agg ((vs.drop o).take k))
      | _ => none
    | .iptr cs i => some (i + k ≤ cs.length, .agg ((cs.drop i).take k))
    | _ => none
  | .field off none, _, [.agg cs] => match cs[off]? with
    | some x => some (True, x)
    | none => none
  | .field off (some k), _, [.agg cs] => if off + k ≤ cs.length then some (True, .agg ((cs.drop off).take k)) else none
  | .idxS, _, [.str s, .int _ i] => some (0 ≤ i ∧ i < s.size, .int .u8 ((s.data.toList.getD i.toNat 0).toNat : Nat))
  | .slc sz l h m, H, v :: r => match lenOf v with
    | some n => match optI l r 0 with
      | some (lo, r) => match optI h r n with
        | some (hi, r) => match optI m r 0 with
          | some (mx, []) => slcV sz m v lo hi mx
          | _ => none
        | _ => none
      | _ => none
    | none => none
  | .slcS l h, _, .str s :: r => match optI l r 0 with
    | some (lo, r) => match optI h r s.size with
      | some (hi, []) => some (0 ≤ lo ∧ lo ≤ hi ∧ hi ≤ s.size, .str (s.extract lo.toNat hi.toNat))
      | _ => none
    | _ => none
  | .ext i, _, [.tup vs] => match vs[i]? with
    | some x => some (True, x)
    | none => none
  | .len .m, H, [v] => match v with
    | .nilm => some (True, .int .i64 0)
    | .mp b => match mapB (H b) with
      | some es => some (True, .int .i64 es.length)
      | none => none
    | _ => none
  | .len .s, H, [.str s] => some (True, .int .i64 s.size)
  | .len .a, H, [v] => match v with
    | .nils => some (True, .int .i64 0)
    | .imm _ n _ | .sl _ _ n _ => some (True, .int .i64 n)
    | _ => none
  | .cap, _, [v] => match v with
    | .nils => some (True, .int .i64 0)
    | .sl _ _ _ c => some (True, .int .i64 c)
    | .imm _ _ (some c) => some (True, .int .i64 c)
    | _ => none
  | .min, _, .int k a :: r => match r with
    | [.int _ b] => some (True, .int k (if b < a then b else a))
    | [.int _ b, .int _ c] => some (True, .int k (if c < (if b < a then b else a) then c else (if b < a then b else a)))
    | _ => none
  | .max, _, [.int k a, .int _ b] => some (True, .int k (if a < b then b else a))
  | .mkfn f n, _, xs => some (True, .fn f (xs.take n) (xs.drop n))
  | .build zero ps, _, xs => if xs.all AV.known then match fillC zero ps xs with
    | some cs => some (True, .agg cs)
    | none => none
    else none
  | _, _, _ => none

/-! ### Operations on a state -/
structure AS where
  T : Nat → AV
  H : Heap
def getAll (xs : List CX) (T : Nat → AV) : Prop × List AV := (xs.foldr (fun x p => (un (x.ev T)).1 ∧ p) True, xs.map fun x => (un (x.ev T)).2)
def pickV (x : Bool) (a b : AV) : AV :=
  match a, b with
  | .bool y, .bool z => .bool (bif x then y else z)
  | a, b => bif x then a else b
def evP (o : COp) (T : Nat → AV) (H : Heap) : Option (Prop × AV) :=
  match o with
  | .p k xs => match evK k H (getAll xs T).2 with
    | some (p, v) => some ((getAll xs T).1 ∧ p, v)
    | none => none
  | .pick c a b => match un (c.ev T) with
    | (p, .bool x) => some (p ∧ (x = true → (un (a.ev T)).1) ∧ (x = false → (un (b.ev T)).1), pickV x (un (a.ev T)).2 (un (b.ev T)).2)
    | _ => none
  | .e _ _ => none
def put (T : Nat → AV) (d : Option Nat) (v : AV) : Nat → AV := match d with | some d => tset T d v | none => T

/-- A contract: called so, the function returns v and leaves the heap H', for some v, H' of which Q holds; what the heap does not tell of is as it was. -/
def CC (P : Program) (f : FuncId) (args : List AV) (H : Heap) (Q : AV → Heap → Prop) : Prop :=
  ∀ M w vs, VRels M args vs → Rel M H w → Calls P f vs.toArray w fun e w' =>
    ∃ v x M' H', e = .returned x ∧ VRel M' v x ∧ Rel M' H' w' ∧ Fr M H w M' H' w' ∧ Q v H'

/-- A row of the call's own: nil, or a block of its own whose first cells are these. -/
def Own (H : Heap) (sz : Nat) (v : AV) (cs : List AV) : Prop :=
  (v = .nils ∧ cs = []) ∨ ∃ b n c, v = .sl b 0 n c ∧ H b = some (.cells cs (c * sz)) ∧ cs.length = n * sz ∧ n ≤ c
def Own.blk : AV → Option Nat
  | .sl b _ _ _ => some b
  | _ => none
/-- H' tells what H told, but for the block b. -/
def Keep (H H' : Heap) (bs : List Nat) : Prop := ∀ k, k ∉ bs → H k ≠ none → H' k = H k

def appOld (H : Heap) (sz : Nat) (s : AV) : Option (List AV × Option Nat) :=
  match s with
  | .nils => some ([], none)
  | .imm cs n (some c) => if c = n ∧ cs.length = n * sz then some (cs, none) else none
  | .sl b 0 n c => match H b with
    | some (.cells vs k) => if vs.length = n * sz ∧ k = c * sz ∧ n ≤ c then some (vs, some b) else none
    | _ => none
  | _ => none
def AV.isNils : AV → Bool
  | .nils => true
  | _ => false
def AV.isImm : AV → Bool
  | .imm _ _ _ => true
  | _ => false
def Heap.less (H : Heap) : Option Nat → Heap
  | some b => H.set b none
  | none => H
/-- A function that may be called so: it has a body, and no name that the model knows by itself. -/
def callB (P : Program) (f : Nat) : Bool :=
  match P.funcs[f]? with
  | some fn => fn.body.isSome && fn.name != "runtime.NumGoroutine"
  | none => false
/-- A slice's first q elements' cells. -/
def cellsPre (H : Heap) (sz : Nat) (v : AV) (q : Nat) : Option (List AV) :=
  match v with
  | .sl b o _ _ => match H b with
    | some (.cells vs _) => if o + q * sz ≤ vs.length then some ((vs.drop o).take (q * sz)) else none
    | _ => none
  | v => (cellsOf H sz v).map (·.take (q * sz))
/-- Cells written over a row's, from the place o on. -/
def splA (vs : List AV) (o : Nat) (new : List AV) : List AV := vs.take o ++ new ++ vs.drop (o + new.length)
/-- An append into the room that a row has behind its end (what lay there is written over). -/
def AppIn (sz : Nat) (s : AV) (new : List AV) (n m : Nat) (H : Heap) (K : AV → Heap → Prop) : Prop :=
  match s with
  | .sl b 0 _ c => match H b with
    | some (.cells vs k) => new.all AV.one = true ∧ n * sz ≤ vs.length ∧ k = c * sz ∧ n + m ≤ c ∧ K (.sl b 0 (n + m) c) (H.set b (some (.cells (splA vs (n * sz) new) k)))
    | _ => False
  | _ => False
/-- A function without a body that tells whether two slices share memory. -/
def OvlOK (P : Program) (f : Nat) : Prop :=
  ∃ fn tS tR e i, P.funcs[f]? = some fn ∧ (fn.name == "runtime.NumGoroutine") = false ∧ fn.body.isNone = true ∧ Extern.findNext fn = none ∧ Extern.find fn = some (Extern.SlicesOverlaps.overlaps #[tS, tS] #[tR]) ∧ P.underlying tS = some (.slice e) ∧ P.info? e = some i
def vcE (P : Program) (k : EK) (xs : List AV) (d : Option Nat) (S : AS) (K : AS → Prop) : Prop :=
  match k, xs with
  | .alloc zero, [] => ∀ b, S.H b = none → K ⟨put S.T d (.ptr b 0), S.H.set b (some (.cells zero zero.length))⟩
  | .box, [v] => v.known = true ∧ ∀ b, S.H b = none →
      K ⟨put S.T d (.ptr b 0), S.H.set b (some (.cells v.cellsL v.cellsL.length))⟩
  | .bslice frozen zero ps len, xs => xs.all AV.known = true ∧ match fillC zero ps xs with
    | some cs => if frozen then K ⟨put S.T d (.imm cs len (some len)), S.H⟩ else ∀ b, S.H b = none → K ⟨put S.T d (.sl b 0 len len), S.H.set b (some (.cells cs cs.length))⟩
    | none => False
  | .store none, [.ptr b o, v] => v.one = true ∧ match S.H b with
    | some (.cells vs n) => o < vs.length ∧ K ⟨S.T, S.H.set b (some (.cells (vs.set o v) n))⟩
    | _ => False
  | .store (some k), [.ptr b o, .agg cs] => cs.all AV.one = true ∧ cs.length = k ∧ match S.H b with
    | some (.cells vs n) => o + k ≤ vs.length ∧ K ⟨S.T, S.H.set b (some (.cells (vs.take o ++ cs ++ vs.drop (o + k)) n))⟩
    | _ => False
  | .append frozen sz bytes, [s, x] => match appOld S.H sz s, cellsOf S.H sz x, lenOf s, lenOf x with
    | some (old, ob), some new, some n, some m => new.all AV.one = true ∧ (n + m) * bytes ≤ 140737488355328 ∧
      if frozen then K ⟨put S.T d (.imm (old ++ new) (n + m) none), S.H.less ob⟩
      else (s.isNils = true → new = [] → K ⟨put S.T d .nils, S.H⟩) ∧ (s.isImm = true → new ≠ []) ∧
        ((s.isNils = true → new ≠ []) → ∀ b c, S.H.less ob b = none → n + m ≤ c → K ⟨put S.T d (.sl b 0 (n + m) c), (S.H.less ob).set b (some (.cells (old ++ new) (c * sz)))⟩)
    | none, some new, some n, some m => frozen = false ∧ AppIn sz s new n m S.H fun v H' => K ⟨put S.T d v, H'⟩
    | _, _, _, _ => False
  | .copy sz, [.sl b o n _, x] => match lenOf x with
    | some m => match S.H b, cellsPre S.H sz x (Nat.min m n) with
      | some (.cells vs k), some new => new.all AV.one = true ∧ o ≤ vs.length ∧ o + Nat.min m n * sz ≤ k ∧ K ⟨put S.T d (.int .i64 (Nat.min m n : Nat)), S.H.set b (some (.cells (splA vs o new) k))⟩
      | _, _ => False
    | none => False
  | .clr zero, [.sl b o n _] => match S.H b with
    | some (.cells vs k) => zero.all AV.one = true ∧ o ≤ vs.length ∧ o + n * zero.length ≤ k ∧ K ⟨put S.T d (.tup []), S.H.set b (some (.cells (splA vs o (List.replicate n zero).flatten) k))⟩
    | _ => False
  | .clr _, [.nils] => K ⟨put S.T d (.tup []), S.H⟩
  | .appz zero bytes, [.sl b 0 n c, .int _ z] => match S.H b with
    | some (.cells vs _) => n ≤ c ∧ n * zero.length ≤ vs.length ∧ 0 ≤ z ∧ (c : Int) < n + z ∧ (n + z.toNat) * bytes ≤ 140737488355328 ∧
        ∀ b' c', S.H b' = none → n + z.toNat ≤ c' → K ⟨put S.T d (.sl b' 0 (n + z.toNat) c'), S.H.set b' (some (.cells (vs.take (n * zero.length) ++ (List.replicate z.toNat zero).flatten) (c' * zero.length)))⟩
    | _ => False
  | .appz zero bytes, [.nils, .int _ z] => 0 < z ∧ z.toNat * bytes ≤ 140737488355328 ∧
        ∀ b' c', S.H b' = none → z.toNat ≤ c' → K ⟨put S.T d (.sl b' 0 z.toNat c'), S.H.set b' (some (.cells (List.replicate z.toNat zero).flatten (c' * zero.length)))⟩
  | .ext f, [.imm cs _ _, .sl b _ _ _] => match S.H b with
    | some (.cells _ k) => OvlOK P f ∧ cs ≠ [] ∧ 0 < k ∧ K ⟨put S.T d (.bool false), S.H⟩
    | _ => False
  | .mark, [.sl b 0 n c] => match S.H b with
    | some (.cells cs k) => k = n ∧ c = n ∧ cs.length = n ∧ K ⟨put S.T d (.imm cs n (some n)), S.H.set b none⟩
    | _ => False
  | .mkslice frozen zero bytes, [.int _ n, .int _ c] => 0 ≤ n ∧ n ≤ c ∧ c * bytes ≤ 140737488355328 ∧ c ≤ 9223372036854775807 ∧
      if frozen then K ⟨put S.T d (.imm (List.replicate n.toNat zero).flatten n.toNat (some c.toNat)), S.H⟩
      else ∀ b, S.H b = none → K ⟨put S.T d (.sl b 0 n.toNat c.toNat), S.H.set b (some (.cells (List.replicate n.toNat zero).flatten (c.toNat * zero.length)))⟩
  | .s2b, [.str s] => K ⟨put S.T d (.imm (s.data.toList.map byteV) s.size none), S.H⟩
  | .mkmap, [] => ∀ b, S.H b = none → K ⟨put S.T d (.mp b), S.H.set b (some (.map []))⟩
  | .mset sk, [.mp b, k, v] => match mapB (S.H b) with
    | some es => match findI sk k es with
      | some r => K ⟨put S.T d .any, S.H.set b (some (.map (msetV k v es r)))⟩
      | none => False
    | none => False
  | .mdel sk, [.mp b, k] => match mapB (S.H b) with
    | some es => match findI sk k es with
      | some r => K ⟨put S.T d (.tup []), S.H.set b (some (.map (mdelV es r)))⟩
      | none => False
    | none => False
  | .mdel sk, [.nilm, k] => keyOK sk k = true ∧ K ⟨put S.T d (.tup []), S.H⟩
  | .rng, [.nilm] => ∀ b, S.H b = none → K ⟨put S.T d (.ptr b 0), S.H.set b (some (.raw (.mapIter none 0 #[] 0)))⟩
  | .rng, [.mp m] => match S.H m with
    | some (.map es) => ∀ b bs clock, S.H b = none → bs.length = es.length → bs.Nodup → (∀ x ∈ bs, x < clock) →
        K ⟨put S.T d (.ptr b 0), (S.H.set m (some (.mapS es bs clock))).set b (some (.raw (.mapIter (some m) clock #[] clock)))⟩
    | some (.mapS _ _ clock) => ∀ b, S.H b = none → K ⟨put S.T d (.ptr b 0), S.H.set b (some (.raw (.mapIter (some m) clock #[] clock)))⟩
    | _ => False
  | .nxt, [.ptr b 0] => match S.H b with
    | some (.raw (.mapIter none _ _ _)) => K ⟨put S.T d (.tup [.bool false]), S.H⟩
    | some (.raw (.mapIter (some m) since seen last)) => match S.H m with
      | some (.mapS es bs clock) => since = clock ∧ last = clock ∧ ((∀ x ∈ bs, x ∈ seen.toList) → K ⟨put S.T d (.tup [.bool false]), S.H⟩) ∧
          ∀ (j : Nat) (e : AV × AV) (x : Nat), es[j]? = some e → bs[j]? = some x → x ∉ seen.toList → K ⟨put S.T d (.tup [.bool true, e.1, e.2]), S.H.set b (some (.raw (.mapIter (some m) clock (seen.push x) clock)))⟩
      | _ => False
    | _ => False
  | .ent, [.ptr b 0] => match S.H b with
    | some (.raw (.mapIter (some m) _ seen last)) => match S.H m with
      | some (.mapS es bs clock) => last = clock ∧ ∃ (j : Nat) (e : AV × AV) (x : Nat), seen.toList.getLast? = some x ∧ bs[j]? = some x ∧ es[j]? = some e ∧ K ⟨put S.T d (.tup [e.1, e.2]), S.H⟩
      | _ => False
    | _ => False
  | .call f, xs => CC P f xs S.H fun v H' => K ⟨put S.T d v, H'⟩
  | .callv, .fn (.func f) [] captured :: xs => callB P f = true ∧ CC P f (xs ++ captured) S.H fun v H' => K ⟨put S.T d v, H'⟩
  | _, _ => False
/-- One operation. -/
def vcDo (P : Program) (o : CO) (S : AS) (K : AS → Prop) : Prop :=
  match o.op with
  | .e k xs => (getAll xs S.T).1 ∧ vcE P k (getAll xs S.T).2 o.dst S K
  | op => match evP op S.T S.H with
    | some (p, v) => p ∧ K ⟨put S.T o.dst v, S.H⟩
    | none => False
def vcOp (P : Program) (o : CO) (S : AS) (K : AS → Prop) : Prop :=
  match o.g with
  | none => vcDo P o S K
  | some (t, want) => match gw want (S.T t) with
    | some c => (match o.op with
      | .e _ _ => (c = true → vcDo P o S K) ∧ (c = false → K ⟨put S.T o.dst (.tup []), S.H⟩)
      | op => match evP op S.T S.H with
        | some (p, v) => (c = true → p) ∧ K ⟨put S.T o.dst (.gd c v), S.H⟩
        | none => c = false ∧ K ⟨put S.T o.dst (.tup []), S.H⟩)
    | none => False
def vcOps (P : Program) : List CO → AS → (AS → Prop) → Prop
  | [], S, K => K S
  | o :: l, S, K => vcOp P o S fun S' => vcOps P l S' K
def vcT (P : Program) : OT → AS → (AS → Prop) → Prop
  | .done, S, K => K S
  | .op o t, S, K => vcOp P o S fun S' => vcT P t S' K
  | .two a b, S, K => vcT P a S K ∧ vcT P b S K
/-- The same, where some blocks stay as they are all the while. -/
def vcTR (P : Program) (R : Heap) : OT → AS → (AS → Prop) → Prop
  | .done, S, K => K S
  | .op o t, S, K => vcOp P o S fun S' => Sub R S'.H ∧ vcTR P R t S' K
  | .two a b, S, K => vcTR P R a S K ∧ vcTR P R b S K
end Go.Sf

end
section
/- The framework's logic: code on abstract states; contracts; how pieces of code are put together. -/
set_option linter.unusedVariables false
set_option linter.unusedSimpArgs false
namespace Go.Sf

def Fin (n : Nat) (M : Mem) (H : Heap) (w : World) (Q : AS → Prop) (a' : Act) (w' : World) : Prop :=
  ∃ M' S', TRel n M' S'.T a'.tmps ∧ Rel M' S'.H w' ∧ a'.defers = [] ∧ Fr M H w M' S'.H w' ∧ Q S'
theorem Fin.mono {n : Nat} {M : Mem} {H : Heap} {w : World} {Q Q' : AS → Prop} (h : ∀ S, Q S → Q' S) {a' : Act} {w' : World} (f : Fin n M H w Q a' w') : Fin n M H w Q' a' w' :=
  let ⟨M', S', h1, h2, h3, h4, h5⟩ := f
  ⟨M', S', h1, h2, h3, h4, h _ h5⟩
theorem Fin.step {n : Nat} {M M1 : Mem} {H H1 : Heap} {w w1 : World} {Q : AS → Prop} (f : Fr M H w M1 H1 w1) {a' : Act} {w' : World} (k : Fin n M1 H1 w1 Q a' w') : Fin n M H w Q a' w' :=
  let ⟨M', S', h1, h2, h3, h4, h5⟩ := k
  ⟨M', S', h1, h2, h3, f.trans h4, h5⟩

/-- From every state that S stands for, the code comes to an end of which Q holds. -/
def CT (P : Program) (n : Nat) (c : Code) (S : AS) (Q : Exit → AS → Prop) : Prop :=
  ∀ M a w, TRel n M S.T a.tmps → Rel M S.H w → a.defers = [] → c.wp P (fun e => Fin n M S.H w (Q e)) a w

def thenQ (K : AS → Prop) (Q : Exit → AS → Prop) : Exit → AS → Prop
  | .normal, S => K S
  | e, S => Q e S
def inBlockQ (id : Nat) (Q : Exit → AS → Prop) : Exit → AS → Prop
  | .exit i, S => if i = id then Q .normal S else Q (.exit i) S
  | e, S => Q e S

theorem CT.mono {P : Program} {n : Nat} {c : Code} {S : AS} {Q Q' : Exit → AS → Prop} (h : CT P n c S Q) (k : ∀ e S, Q e S → Q' e S) : CT P n c S Q' :=
  fun M a w h1 h2 h3 => wp_mono (h M a w h1 h2 h3) fun e a w f => f.mono (k e)
theorem CT.skip {P : Program} {n : Nat} {S : AS} {Q : Exit → AS → Prop} (h : Q .normal S) : CT P n .skip S Q :=
  fun M a w h1 h2 h3 => wp_skip ⟨M, S, h1, h2, h3, .refl _ _ _, h⟩
theorem CT.exit {P : Program} {n id : Nat} {S : AS} {Q : Exit → AS → Prop} (h : Q (.exit id) S) : CT P n (.exit id) S Q :=
  fun M a w h1 h2 h3 => wp_exit ⟨M, S, h1, h2, h3, .refl _ _ _, h⟩
theorem CT.ret {P : Program} {n : Nat} {S : AS} {Q : Exit → AS → Prop} (h : Q .ret S) : CT P n .ret S Q :=
  fun M a w h1 h2 h3 => wp_ret ⟨M, S, h1, h2, h3, .refl _ _ _, h⟩
theorem CT.seq {P : Program} {n : Nat} {x y : Code} {S : AS} {Q : Exit → AS → Prop} (h : CT P n x S (thenQ (fun S' => CT P n y S' Q) Q)) : CT P n (.seq x y) S Q :=
  fun M a w h1 h2 h3 => wp_seq (wp_mono (h M a w h1 h2 h3) fun e a' w' f => by
    cases e with
    | normal =>
      obtain ⟨M', S', k1, k2, k3, k4, k5⟩ := f
      exact wp_mono (k5 M' a' w' k1 k2 k3) fun e a2 w2 f2 => f2.step k4
    | exit id => exact f
    | goto l => exact f
    | ret => exact f
    | panic ch => exact f
    | outgrown => exact f)
theorem CT.block {P : Program} {n id : Nat} {x : Code} {S : AS} {Q : Exit → AS → Prop} (h : CT P n x S (inBlockQ id Q)) : CT P n (.block id x) S Q :=
  fun M a w h1 h2 h3 => wp_block (wp_mono (h M a w h1 h2 h3) fun e a' w' f => by
    cases e with
    | exit i =>
      simp only [Exit.inBlock]
      by_cases hi : i = id
      · rw [if_pos hi]; exact f.mono fun S hS => by simpa only [inBlockQ, if_pos hi] using hS
      · rw [if_neg hi]; exact f.mono fun S hS => by simpa only [inBlockQ, if_neg hi] using hS
    | normal => exact f
    | goto l => exact f
    | ret => exact f
    | panic ch => exact f
    | outgrown => exact f)
theorem CT.cond {P : Program} {n : Nat} {c : Operand} {x y : Code} {S : AS} {Q : Exit → AS → Prop} {b : Bool}
    (hc : ∀ (M : Mem) (a : Act), TRel n M S.T a.tmps → a.eval c = Value.bool b) (h : CT P n (if b then x else y) S Q) : CT P n (.cond c x y) S Q :=
  fun M a w h1 h2 h3 => wp_cond (hc M a h1) (h M a w h1 h2 h3)
/-- A loop: an invariant that bears a number, which every round lowers. -/
theorem CT.loop {P : Program} {n : Nat} {c : Code} {S : AS} {Q : Exit → AS → Prop} (I : Nat → AS → Prop) (k₀ : Nat) (h₀ : I k₀ S)
    (round : ∀ k S, I k S → CT P n c S (thenQ (fun S' => ∃ k', k' < k ∧ I k' S') Q)) : CT P n (.loop c) S Q := by
  intro M a w h1 h2 h3
  refine wp_loop_ghost (fun k a' w' => Fin n M S.H w (I k) a' w') k₀ ⟨M, S, h1, h2, h3, .refl _ _ _, h₀⟩ ?_
  rintro k a' w' ⟨M', S', k1, k2, k3, k4, k5⟩
  refine wp_mono (round k S' k5 M' a' w' k1 k2 k3) fun e a2 w2 f => ?_
  cases e with
  | normal =>
    obtain ⟨M2, S2, l1, l2, l3, l4, k', hk, hI⟩ := f
    exact ⟨k', hk, M2, S2, l1, l2, l3, k4.trans l4, hI⟩
  | exit id => exact f.step k4
  | goto l => exact f.step k4
  | ret => exact f.step k4
  | panic ch => exact f.step k4
  | outgrown => exact f.step k4

/-- S' says no more than S. -/
def Weak (S S' : AS) : Prop := ∀ n M a w, TRel n M S.T a → Rel M S.H w → ∃ M', TRel n M' S'.T a ∧ Rel M' S'.H w ∧ Fr M S.H w M' S'.H w
theorem Weak.refl (S : AS) : Weak S S := fun n M a w h1 h2 => ⟨M, h1, h2, .refl _ _ _⟩
theorem CT.weak {P : Program} {n : Nat} {c : Code} {S S' : AS} {Q : Exit → AS → Prop} (h : Weak S S') (k : CT P n c S' Q) : CT P n c S Q := by
  intro M a w h1 h2 h3
  obtain ⟨M', k1, k2, k3⟩ := h n M _ w h1 h2
  exact wp_mono (k M' a w k1 k2 h3) fun e a w f => f.step k3

/-! ### Contracts -/
theorem CC.mono {P : Program} {f : FuncId} {args : List AV} {H : Heap} {Q Q' : AV → Heap → Prop} (h : CC P f args H Q) (k : ∀ v H', Q v H' → Q' v H') : CC P f args H Q' :=
  fun M w vs h1 h2 => (h M w vs h1 h2).mono fun e w' ⟨v, x, M', H', e1, e2, e3, e4, e5⟩ => ⟨v, x, M', H', e1, e2, e3, e4, k _ _ e5⟩
theorem CC.frame {P : Program} {f : FuncId} {args : List AV} {H H1 : Heap} {Q : AV → Heap → Prop} {Q' : AV → Heap → Prop} (h : CC P f args H1 Q) (hs : Sub H1 H)
    (k : ∀ v H1', Q v H1' → Q' v (Heap.over H H1 H1')) : CC P f args H Q' :=
  fun M w vs h1 h2 => (h M w vs h1 (h2.forget hs)).mono fun e w' ⟨v, x, M', H', e1, e2, e3, e4, e5⟩ =>
    ⟨v, x, M', Heap.over H H1 H', e1, e2, h2.over hs e4 e3, Fr.over hs e4, k _ _ e5⟩
/-- A contract of a function that writes nothing that was there, and of whose own memory nothing is kept but what its result holds for good. -/
def CP (P : Program) (f : FuncId) (args : List AV) (R : AV → Prop) : Prop := CC P f args Heap.nil fun v _ => R v
theorem Heap.over_nil_nil (H : Heap) : Heap.over H Heap.nil Heap.nil = H := by
  funext b
  unfold Heap.over
  simp only [Heap.nil]
  cases H b <;> rfl
theorem CC.forget {P : Program} {f : FuncId} {args : List AV} {H : Heap} {Q Q' : AV → Heap → Prop} (h : CC P f args H Q) (k : ∀ v H', Q v H' → ∃ H2, Sub H2 H' ∧ Q' v H2) : CC P f args H Q' :=
  fun M w vs h1 h2 => (h M w vs h1 h2).mono fun e w' ⟨v, x, M', H', e1, e2, e3, e4, e5⟩ => by
    obtain ⟨H2, k1, k2⟩ := k _ _ e5
    exact ⟨v, x, M', H2, e1, e2, e3.forget k1, e4.forget k1, k2⟩
theorem CP.use {P : Program} {f : FuncId} {args : List AV} {R : AV → Prop} (h : CP P f args R) {H : Heap} {K : AV → Heap → Prop} (k : ∀ v, R v → K v H) : CC P f args H K := by
  have h' : CC P f args Heap.nil (fun v H' => H' = Heap.nil ∧ R v) := CC.forget h fun v H' hv => ⟨Heap.nil, Sub.nil _, rfl, hv⟩
  exact h'.frame (Sub.nil H) fun v H1' ⟨e, hv⟩ => by subst e; rw [Heap.over_nil_nil]; exact k v hv
theorem CP.mono {P : Program} {f : FuncId} {args : List AV} {R R' : AV → Prop} (h : CP P f args R) (k : ∀ v, R v → R' v) : CP P f args R' := CC.mono h fun v _ => k v

def argT (args : List AV) : Nat → AV := fun i => (args[i]?).getD .any
def resAV (T : Nat → AV) : List Nat → AV
  | [t] => T t
  | ts => .tup (ts.map T)
def resTmps : List ResultVar → Option (List Nat)
  | [] => some []
  | .tmp t :: r => (resTmps r).map (t :: ·)
  | .cell _ _ :: _ => none

theorem results_run {P : Program} {fn : Func} {ts : List Nat} (hr : resTmps fn.results.toList = some ts) (tmps : Array Value) (w : World) :
    (results fn tmps).run P w = .ok (match ts.map (tmps.getD · undef) with | [x] => x | xs => .tuple xs.toArray) w := by
  have key : ∀ (g : ResultVar → Sem Value), (∀ t, g (.tmp t) = Sem.pure (tmps.getD t undef)) → ∀ (l : List ResultVar) (ts : List Nat), resTmps l = some ts →
      l.mapM (m := Sem) g = Sem.pure (ts.map (tmps.getD · undef)) := by
    intro g hg l
    induction l with
    | nil => intro ts h; simp only [resTmps, Option.some.injEq] at h; subst h; rfl
    | cons r l ih =>
      intro ts h
      cases r with
      | tmp t =>
        simp only [resTmps] at h
        cases hl : resTmps l with
        | none => simp [hl] at h
        | some ts' =>
          simp [hl] at h; subst h
          simp only [List.mapM_cons]
          rw [ih ts' hl, hg]; rfl
      | cell a t => simp [resTmps] at h
  unfold results
  rw [← Array.toArray_toList (xs := fn.results)] 
  rw [List.mapM_toArray]
  rw [key _ (fun _ => rfl) _ _ hr]
  match ts with
  | [] => rfl
  | [t] => rfl
  | t :: t' :: r => rfl

theorem VRels.map_range {n : Nat} {M : Mem} {T : Nat → AV} {tmps : Array Value} (r : TRel n M T tmps) : ∀ {ts : List Nat}, (∀ t ∈ ts, t < n) → VRels M (ts.map T) (ts.map (tmps.getD · undef))
  | [], _ => .nil
  | t :: ts, h => .cons (r.2 t (h t (by simp))) (VRels.map_range r fun t' ht => h t' (by simp [ht]))

theorem resAV_rel {n : Nat} {M : Mem} {T : Nat → AV} {tmps : Array Value} (r : TRel n M T tmps) {ts : List Nat} (h : ∀ t ∈ ts, t < n) :
    VRel M (resAV T ts) (match ts.map (tmps.getD · undef) with | [x] => x | xs => .tuple xs.toArray) := by
  have := VRels.map_range r h
  match ts, h, this with
  | [], h, k => simp only [resAV, List.map_nil, VRel]; exact ⟨#[], rfl, .nil⟩
  | [t], h, k => exact r.2 t (h t (by simp))
  | t :: t' :: ts, h, k =>
    show VRel M (AV.tup ((t :: t' :: ts).map T)) (.tuple ((t :: t' :: ts).map (tmps.getD · undef)).toArray)
    simp only [VRel]
    exact ⟨_, rfl, by simpa using k⟩

/-- A function's contract, out of its body. -/
theorem CC.of_body {P : Program} {f : FuncId} {fn : Func} {c : Code} {ts : List Nat} {args : List AV} {H : Heap} {Q : AV → Heap → Prop}
    (hf : P.funcs[f]? = some fn) (hb : fn.body = some c) (hr : resTmps fn.results.toList = some ts) (hts : ∀ t ∈ ts, t < fn.ntmps) (ha : args.length ≤ fn.ntmps)
    (h : CT P fn.ntmps c ⟨argT args, H⟩ (fun e S => (e = .normal ∨ e = .ret) ∧ Q (resAV S.T ts) S.H)) : CC P f args H Q := by
  intro M w vs h1 h2
  refine calls_of_wp hf hb ?_
  have hl := h1.length
  have ht : TRel fn.ntmps M (argT args) (vs.toArray ++ Array.replicate (fn.ntmps - vs.toArray.size) undef) := by
    refine ⟨by simp; omega, fun i hi => ?_⟩
    unfold argT
    cases e : args[i]? with
    | none => simp [VRel]
    | some a =>
      obtain ⟨v, hv, hr⟩ := h1.get e
      have hlt : i < vs.length := (List.getElem?_eq_some_iff.1 hv).1
      simp only [Option.getD_some, Array.getD_eq_getD_getElem?]
      rw [Array.getElem?_append_left (by simpa using hlt)]
      simp [hv, hr]
  refine wp_mono (h M _ w ht h2 rfl) fun e a' w' f => ?_
  obtain ⟨M', S', k1, k2, k3, k4, k5, k6⟩ := f
  have hp : a'.defers = [] ∧ ∃ v, (results fn a'.tmps).run P w' = .ok v w' ∧
      ∃ v' x M' H', Ending.returned v = .returned x ∧ VRel M' v' x ∧ Rel M' H' w' ∧ Fr M H w M' H' w' ∧ Q v' H' :=
    ⟨k3, _, results_run hr _ _, _, _, M', S'.H, rfl, resAV_rel k1 hts, k2, k4, k6⟩
  rcases k5 with rfl | rfl
  · exact hp
  · exact hp
end Go.Sf

end
section
/- The framework's operations that look alone: what they are in the model's code, and that they give what the abstract ones say. -/
set_option linter.unusedVariables false
set_option linter.unusedSimpArgs false
namespace Go.Sf

theorem run_bind {α β : Type} (P : Program) (s : Sem α) (f : α → Sem β) (w : World) :
    (s >>= f).run P w = match s.run P w with | .ok a w' => (f a).run P w' | .halt h w' => .halt h w' := by
  show (Sem.bind s f).run P w = _
  induction s generalizing w with
  | pure a => rfl
  | load m a k ih =>
    simp only [Sem.bind, Sem.run]
    split
    · exact ih _ _
    · split
      · exact ih _ _
      · rfl
  | store m a v k ih =>
    cases v <;> simp only [Sem.bind, Sem.run] <;> first
      | rfl
      | (split
         · split
           · rfl
           · exact ih _
         · split
           · exact ih _
           · rfl)
  | new o k ih => exact ih _ _
  | shape r k ih => exact ih _ _
  | freeze a n k ih => exact ih _
  | frozen a k ih => exact ih _ _
  | getObj r k ih =>
    simp only [Sem.bind, Sem.run]
    split
    · rfl
    · exact ih _ _
    · rfl
  | setObj r o k ih =>
    simp only [Sem.bind, Sem.run]
    split
    · rfl
    · exact ih _
    · rfl
  | choose q k ih =>
    simp only [Sem.bind, Sem.run]
    split
    · exact ih _ _
    · exact ih _ _
  | sys c k ih => exact ih _ _
  | program k ih => exact ih _ _
  | mark m k ih => exact ih _
  | halt h => rfl
theorem run_pure {α : Type} (P : Program) (a : α) (w : World) : (pure a : Sem α).run P w = .ok a w := rfl
theorem run_pure' {α : Type} (P : Program) (a : α) (w : World) : (Sem.pure a : Sem α).run P w = .ok a w := rfl
theorem run_underlying {P : Program} {t : TypeId} {d : TypeDesc} (h : P.underlying t = some d) (w : World) : (underlying t).run P w = .ok d w := by
  show (match P.underlying t with | some d => (pure d : Sem TypeDesc) | none => stuck "no such type").run P w = _
  rw [h]; rfl
theorem run_typeInfo {P : Program} {t : TypeId} {i : TypeInfo} (h : P.info? t = some i) (w : World) : (typeInfo t).run P w = .ok i w := by
  show (match P.info? t with | some d => (pure d : Sem TypeInfo) | none => stuck "no such type").run P w = _
  rw [h]; rfl
theorem run_sizeOf {P : Program} {t : TypeId} {i : TypeInfo} (h : P.info? t = some i) (w : World) : (sizeOf t).run P w = .ok i.size w := by
  unfold sizeOf; rw [run_bind, run_typeInfo h]; rfl
theorem run_zeroValue {P : Program} {t : TypeId} {i : TypeInfo} {z : Value} (h : P.info? t = some i) (hz : i.zero = some z) (w : World) : (zeroValue t).run P w = .ok z w := by
  unfold zeroValue; rw [run_bind, run_typeInfo h]; simp only [hz]; rfl
def aggT (P : Program) (t : TypeId) : Option Bool :=
  match P.underlying t with
  | some (.struct _) | some (.array _ _) => some true
  | some _ => some false
  | none => none
theorem run_isAgg {P : Program} {t : TypeId} {b : Bool} (h : aggT P t = some b) (w : World) : (isAgg t).run P w = .ok b w := by
  unfold aggT at h
  unfold isAgg
  rw [run_bind]
  split at h
  · rename_i e; rw [run_underlying e]; cases h; rfl
  · rename_i e; rw [run_underlying e]; cases h; rfl
  · rename_i d h1 h2 e
    rw [run_underlying e]; cases h
    cases d <;> first | rfl | exact absurd rfl (h1 _) | exact absurd rfl (h2 _ _)
  · cases h

/-! ### Operands -/
def ofCell : Value → AV
  | .int k n => .int k n
  | .bool b => .bool b
  | .string s => .str s
  | .pointer none => .nilp
  | .slice none 0 0 => .nils
  | .map none => .nilm
  | .nilFunc => .nilf
  | _ => .any
def ofValue : Value → AV
  | .agg cs => .agg (cs.toList.map ofCell)
  | v => ofCell v
theorem ofCell_rel (M : Mem) (v : Value) : VRel M (ofCell v) v := by
  unfold ofCell
  split <;> simp only [VRel]
theorem ofCells_rel (M : Mem) : ∀ vs : List Value, VRels M (vs.map ofCell) vs
  | [] => .nil
  | v :: vs => .cons (ofCell_rel M v) (ofCells_rel M vs)
theorem ofValue_rel (M : Mem) (v : Value) : VRel M (ofValue v) v := by
  unfold ofValue
  split
  · simp only [VRel]; exact ⟨_, rfl, ofCells_rel M _⟩
  · exact ofCell_rel M v
def trX (n : Nat) : Operand → Option CX
  | .tmp t => if t < n then some (.t t) else none
  | .const v => some (.c (ofValue v))
  | .func f => some (.f f)
  | .global _ => none
theorem trX_rel {n : Nat} {x : Operand} {c : CX} (h : trX n x = some c) {M : Mem} {T : Nat → AV} {a : Act} (r : TRel n M T a.tmps) : VRel M (c.ev T) (a.eval x) := by
  cases x with
  | tmp t =>
    simp only [trX] at h
    split at h
    · rename_i ht; cases h; exact r.2 t ht
    · cases h
  | const v => simp only [trX] at h; cases h; exact ofValue_rel M v
  | func f => simp only [trX] at h; cases h; simp only [CX.ev, VRel]; exact ⟨#[], #[], rfl, .nil, .nil⟩
  | global g => simp [trX] at h
theorem un_rel {M : Mem} : ∀ {v : AV} {x : Value}, VRel M v x → (un v).1 → VRel M (un v).2 x
  | .gd b v, x, h, k => by
    simp only [un] at k ⊢
    simp only [VRel] at h
    exact un_rel (h.1 k.1) k.2
  | .any, x, h, k => h
  | .int _ _, x, h, k => h
  | .bool _, x, h, k => h
  | .str _, x, h, k => h
  | .nilp, x, h, k => h
  | .ptr _ _, x, h, k => h
  | .iptr _ _, x, h, k => h
  | .nils, x, h, k => h
  | .sl _ _ _ _, x, h, k => h
  | .imm _ _ _, x, h, k => h
  | .nilm, x, h, k => h
  | .mp _, x, h, k => h
  | .nilf, x, h, k => h
  | .fn _ _ _, x, h, k => h
  | .agg _, x, h, k => h
  | .tup _, x, h, k => h
  | .emp, x, h, k => h
def boolOf : Value → Option Bool
  | .bool b => some b
  | _ => none
theorem rel_undef (M : Mem) : VRel M (.tup []) undef := by simp only [VRel]; exact ⟨#[], rfl, .nil⟩
theorem gw_rel {M : Mem} {want : Bool} : ∀ {v : AV} {x : Value} {c : Bool}, VRel M v x → gw want v = some c → (boolOf x == some want) = c
  | .bool b, x, c, h, k => by
    simp only [VRel] at h; subst h
    simp only [gw, Option.some.injEq] at k; subst k
    cases b <;> cases want <;> rfl
  | .gd b v, x, c, h, k => by
    simp only [VRel] at h
    simp only [gw] at k
    cases b with
    | true =>
      split at k
      · rename_i c' hc
        simp only [Bool.true_and, Option.some.injEq] at k; subst k
        exact gw_rel (h.1 rfl) hc
      · simp at k
    | false =>
      have hx := h.2 rfl
      subst hx
      have hc : c = false := by
        split at k
        · simpa using k.symm
        · simpa using k.symm
      subst hc; rfl
  | .tup [], x, c, h, k => by
    simp only [VRel] at h
    obtain ⟨xs, rfl, _⟩ := h
    simp only [gw, Option.some.injEq] at k; subst k; rfl
  | .tup (_ :: _), x, c, h, k => by simp [gw] at k
  | .any, x, c, h, k => by simp [gw] at k
  | .int _ _, x, c, h, k => by simp [gw] at k
  | .str _, x, c, h, k => by simp [gw] at k
  | .nilp, x, c, h, k => by simp [gw] at k
  | .ptr _ _, x, c, h, k => by simp [gw] at k
  | .iptr _ _, x, c, h, k => by simp [gw] at k
  | .nils, x, c, h, k => by simp [gw] at k
  | .sl _ _ _ _, x, c, h, k => by simp [gw] at k
  | .imm _ _ _, x, c, h, k => by simp [gw] at k
  | .nilm, x, c, h, k => by simp [gw] at k
  | .mp _, x, c, h, k => by simp [gw] at k
  | .nilf, x, c, h, k => by simp [gw] at k
  | .fn _ _ _, x, c, h, k => by simp [gw] at k
  | .agg _, x, c, h, k => by simp [gw] at k
theorem yielded_get {ops : Array Oper} {tmps : Array Value} {j t : Nat} (h : (ops[j]?).bind (·.dst) = some t) (ht : t < tmps.size) : yielded ops tmps j = boolOf (tmps.getD t undef) := by
  unfold yielded
  rw [h]
  have e : tmps[t]? = some (tmps.getD t undef) := by rw [Array.getD_eq_getD_getElem?, Array.getElem?_eq_getElem ht]; rfl
  simp only [Option.bind_some, e]
  cases tmps.getD t undef <;> rfl
def trXs (n : Nat) : List Operand → Option (List CX)
  | [] => some []
  | x :: xs => match trX n x, trXs n xs with
    | some c, some cs => some (c :: cs)
    | _, _ => none
theorem trXs_rel {n : Nat} : ∀ {xs : List Operand} {cs : List CX}, trXs n xs = some cs → ∀ {M : Mem} {T : Nat → AV} {a : Act}, TRel n M T a.tmps → (getAll cs T).1 → VRels M (getAll cs T).2 (xs.map a.eval)
  | [], cs, h, M, T, a, r, k => by simp only [trXs] at h; cases h; exact .nil
  | x :: xs, cs, h, M, T, a, r, k => by
    simp only [trXs] at h
    split at h
    · rename_i c cs' e1 e2
      cases h
      simp only [getAll, List.foldr_cons] at k
      exact .cons (un_rel (trX_rel e1 r) k.1) (trXs_rel e2 r k.2)
    · cases h

/-! ### Memory -/
theorem add_off (b o j : Nat) : (⟨b, o, none⟩ : Addr).add j = ⟨b, o + j, none⟩ := by unfold Addr.add; split <;> simp_all
theorem add_spot {x : Addr} (h : x.spot = none) (j : Nat) : x.add j = ⟨x.block, x.off + j, none⟩ := by
  obtain ⟨b, o, s⟩ := x
  simp only at h; subst h
  exact add_off b o j
theorem Rel.cell {M : Mem} {H : Heap} {w : World} (r : Rel M H w) {b : Nat} {vs : List AV} {n : Nat} (h : H b = some (.cells vs n)) {o : Nat} {v : AV} (hv : vs[o]? = some v) :
    ∃ x, w.cell? ⟨b, o, none⟩ = some x ∧ VRel M v x := by
  obtain ⟨ob, ho, hb⟩ := r.live b _ h
  simp only [BRel] at hb
  obtain ⟨c, e, fr, rfl, hs, hl, hf, hr⟩ := hb
  obtain ⟨x, hx, hv'⟩ := hr.get hv
  refine ⟨x, ?_, hv'⟩
  simp only [World.cell?, ho]
  rw [List.getElem?_take] at hx
  split at hx
  · simpa using hx
  · cases hx
theorem Rel.icell {M : Mem} {H : Heap} {w : World} (r : Rel M H w) {b o : Nat} {cs : List AV} {vs : List Value} (h : MAt M b o vs) (k : VRels M cs vs) {i : Nat} {v : AV} (hv : cs[i]? = some v) :
    ∃ x, w.cell? ⟨b, o + i, none⟩ = some x ∧ VRel M v x := by
  obtain ⟨x, hx, hr⟩ := k.get hv
  exact ⟨x, (r.mem _ _ _ (h i x hx)).2, hr⟩
theorem run_load {P : Program} {w : World} {a : Addr} {x : Value} (h : w.cell? a = some x) : (load a).run P w = .ok x w := by
  simp only [load, Sem.run, h]
/-- Cells one behind the other are read. -/
theorem run_loadCellsFrom {P : Program} {w : World} {b o : Nat} : ∀ (n i : Nat) (acc : Array Value) (xs : List Value), xs.length = n → (∀ j u, xs[j]? = some u → w.cell? ⟨b, o + (i + j), none⟩ = some u) →
    (loadCellsFrom ⟨b, o, none⟩ i n acc).run P w = .ok (acc ++ xs.toArray) w := by
  intro n
  induction n with
  | zero => intro i acc xs hl h; cases xs with | nil => simp [loadCellsFrom, run_pure] | cons _ _ => simp at hl
  | succ n ih =>
    intro i acc xs hl h
    cases xs with
    | nil => simp at hl
    | cons x xs =>
      simp only [loadCellsFrom]
      rw [run_bind, add_off, run_load (by simpa using h 0 x rfl)]
      simp only []
      rw [ih (i + 1) (acc.push x) xs (by simpa using hl) fun j u hj => by
        have := h (j + 1) u (by simpa using hj)
        rw [show i + 1 + j = i + (j + 1) by omega]; exact this]
      simp
theorem run_loadCells {P : Program} {w : World} {b o : Nat} (xs : List Value) (h : ∀ j u, xs[j]? = some u → w.cell? ⟨b, o + j, none⟩ = some u) :
    (loadCells ⟨b, o, none⟩ xs.length).run P w = .ok xs.toArray w := by
  unfold loadCells
  rw [run_loadCellsFrom _ _ _ xs rfl (by simpa using h)]
  simp
/-- A list of abstract cells that are read: their values. -/
theorem cells_values {M : Mem} {w : World} {b o : Nat} {cs : List AV} (h : ∀ j v, cs[j]? = some v → ∃ x, w.cell? ⟨b, o + j, none⟩ = some x ∧ VRel M v x) :
    ∃ xs : List Value, xs.length = cs.length ∧ VRels M cs xs ∧ ∀ j u, xs[j]? = some u → w.cell? ⟨b, o + j, none⟩ = some u := by
  induction cs generalizing o with
  | nil => exact ⟨[], rfl, .nil, fun j u e => by simp at e⟩
  | cons c cs ih =>
    obtain ⟨x, hx, hr⟩ := h 0 c rfl
    obtain ⟨xs, h1, h2, h3⟩ := ih (o := o + 1) fun j v e => by
      have := h (j + 1) v (by simpa using e)
      rw [show o + 1 + j = o + (j + 1) by omega]; exact this
    refine ⟨x :: xs, by simp [h1], .cons hr h2, fun j u e => ?_⟩
    cases j with
    | zero => simp at e; subst e; exact hx
    | succ j => rw [show o + (j + 1) = o + 1 + j by omega]; exact h3 j u (by simpa using e)
end Go.Sf

end
section
/- The framework's operations that look alone: numbers, strings, equality, addresses, loads, slices. -/
set_option linter.unusedVariables false
set_option linter.unusedSimpArgs false
namespace Go.Sf

/-- What a computation that looks alone comes to. -/
def Gives (P : Program) (M : Mem) (w : World) (s : Sem Value) (v : AV) : Prop := ∃ x, s.run P w = .ok x w ∧ VRel M v x

theorem vr_int {M : Mem} {k : IntKind} {n : Int} {x : Value} (h : VRel M (.int k n) x) : x = .int k n := by simpa only [VRel] using h
theorem vr_bool {M : Mem} {b : Bool} {x : Value} (h : VRel M (.bool b) x) : x = .bool b := by simpa only [VRel] using h
theorem vr_str {M : Mem} {s : ByteArray} {x : Value} (h : VRel M (.str s) x) : x = .string s := by simpa only [VRel] using h
theorem gives_int {P : Program} {M : Mem} {w : World} {k : IntKind} {n : Int} : Gives P M w (pure (.int k n)) (.int k n) := ⟨_, rfl, by simp only [VRel]⟩
theorem gives_bool {P : Program} {M : Mem} {w : World} {b : Bool} : Gives P M w (pure (.bool b)) (.bool b) := ⟨_, rfl, by simp only [VRel]⟩
theorem gives_str {P : Program} {M : Mem} {w : World} {s : ByteArray} : Gives P M w (pure (.string s)) (.str s) := ⟨_, rfl, by simp only [VRel]⟩
theorem gives_ptr {P : Program} {M : Mem} {w : World} {b o : Nat} : Gives P M w (pure (.pointer (some ⟨b, o, none⟩))) (.ptr b o) := ⟨_, rfl, by simp only [VRel]⟩

theorem unV_sound {P : Program} {M : Mem} {w : World} {op : UnOp} {a : AV} {x : Value} (h : VRel M a x) {p : Prop} {v : AV} (e : unV op a = some (p, v)) (hp : p) : Gives P M w (Op.unary op x) v := by
  unfold unV at e
  split at e
  · cases e; rw [vr_int h]; exact gives_int
  · cases e; rw [vr_bool h]; exact gives_bool
  · cases e

theorem binInt_sound {P : Program} {M : Mem} {w : World} {op : BinOp} {k : IntKind} {a b : Int} {p : Prop} {v : AV} (e : binInt op k a b = some (p, v)) (hp : p) (hs : isShift op = false) (xt : TypeId) :
    Gives P M w (binOp op xt (.int k a) (.int k b)) v := by
  cases op <;> simp only [binInt, Option.some.injEq, Prod.mk.injEq, reduceCtorEq] at e <;> (try (obtain ⟨rfl, rfl⟩ := e)) <;> (try (simp only [isShift, reduceCtorEq] at hs)) <;> simp only [binOp, ne_eq, not_true_eq_false, if_false, Op.intArith, Op.intBits, Op.intCmp, Op.intDiv]
  case add => exact gives_int
  case sub => exact gives_int
  case mul => exact gives_int
  case quo => rw [if_neg hp]; exact gives_int
  case rem => rw [if_neg hp]; exact gives_int
  case and => exact gives_int
  case or => exact gives_int
  case xor => exact gives_int
  case eql => rw [show (a == b) = decide (a = b) by cases h : decide (a = b) <;> simp_all]; exact gives_bool
  case neq => rw [show (a != b) = decide (a ≠ b) by cases h : decide (a = b) <;> simp_all]; exact gives_bool
  case lss => exact gives_bool
  case leq => exact gives_bool
  case gtr => exact gives_bool
  case geq => exact gives_bool
theorem shiftInt_sound {P : Program} {M : Mem} {w : World} {op : BinOp} {k k' : IntKind} {a b : Int} {p : Prop} {v : AV} (e : shiftInt op k a b = some (p, v)) (hp : p) (xt : TypeId) :
    Gives P M w (binOp op xt (.int k a) (.int k' b)) v := by
  cases op <;> simp only [shiftInt, Option.some.injEq, Prod.mk.injEq, reduceCtorEq] at e <;> (try (obtain ⟨rfl, rfl⟩ := e)) <;> simp only [binOp, Op.shift]
  case shl => rw [if_neg (by omega)]; exact gives_int
  case shr => rw [if_neg (by omega)]; exact gives_int
theorem ba_toList (s : ByteArray) : s.toList = s.data.toList := by
  have hs : s.data.toList.length = s.size := Array.length_toList
  have key : ∀ (n i : Nat) (r : List UInt8), s.size - i = n → ByteArray.toList.loop s i r = r.reverse ++ s.data.toList.drop i := by
    intro n
    induction n with
    | zero =>
      intro i r h
      unfold ByteArray.toList.loop
      rw [if_neg (by omega), List.drop_eq_nil_of_le (by omega), List.append_nil]
    | succ n ih =>
      intro i r h
      have hi : i < s.size := by omega
      have hi' : i < s.data.size := hi
      unfold ByteArray.toList.loop
      rw [if_pos hi, ih (i + 1) _ (by omega)]
      have hd : s.data.toList.drop i = s.get! i :: s.data.toList.drop (i + 1) := by
        rw [List.drop_eq_getElem_cons (by omega)]
        congr 1
        show s.data.toList[i] = s.data[i]!
        rw [Array.getElem_toList, getElem!_pos s.data i hi']
      rw [hd, List.reverse_cons, List.append_assoc]; rfl
  have := key s.size 0 [] rfl
  rw [List.drop_zero, List.reverse_nil, List.nil_append] at this
  exact this
theorem ba_eq (a b : ByteArray) : (a.toList == b.toList) = decide (a = b) := by
  rw [ba_toList, ba_toList]
  cases h : decide (a = b) with
  | true => simp at h; subst h; simp
  | false =>
    simp at h
    simp only [beq_eq_false_iff_ne, ne_eq]
    intro e
    apply h
    cases a; cases b
    congr 1
    exact Array.toList_inj.1 e
theorem binStr_sound {P : Program} {M : Mem} {w : World} {op : BinOp} {a b : ByteArray} {p : Prop} {v : AV} (e : binStr op a b = some (p, v)) (hp : p) (hs : isShift op = false) (xt : TypeId) :
    Gives P M w (binOp op xt (.string a) (.string b)) v := by
  cases op <;> simp only [binStr, Option.some.injEq, Prod.mk.injEq, reduceCtorEq] at e <;> (try (obtain ⟨rfl, rfl⟩ := e)) <;> simp only [binOp, Op.stringOp]
  case add =>
    rw [if_neg (by simp [IntKind.max, IntKind.signed, IntKind.bits]; omega)]; exact gives_str
  case eql => rw [ba_eq]; exact gives_bool
  case neq => rw [ba_eq, show (!decide (a = b)) = decide (a ≠ b) by simp]; exact gives_bool
  case lss => rw [ba_toList, ba_toList]; exact gives_bool
  case gtr => rw [ba_eq, ba_toList, ba_toList]; exact gives_bool
theorem binV_sound {P : Program} {M : Mem} {w : World} {op : BinOp} {a b : AV} {x y : Value} (h : VRel M a x) (k : VRel M b y) {p : Prop} {v : AV} (e : binV op a b = some (p, v)) (hp : p) (xt : TypeId) :
    Gives P M w (binOp op xt x y) v := by
  unfold binV at e
  split at e
  · rw [vr_int h, vr_int k]
    split at e
    · exact shiftInt_sound e hp xt
    · rename_i hs
      split at e
      · rename_i hk; subst hk; exact binInt_sound e hp (by simpa using hs) xt
      · cases e
  · rw [vr_str h, vr_str k]
    split at e
    · cases e
    · rename_i hs; exact binStr_sound e hp (by simpa using hs) xt
  · cases e
/-- The guard ahead of a comparison lets all of these by. -/
theorem eqGuard_ok {P : Program} {w : World} (op : BinOp) (t : TypeId) (x y : Operand) {a b : Value} (h : a ≠ .nilIface) (k : (∃ xs, a = .agg xs) → P.eqGuardType P.depth t = false) : (eqGuard op t x y a b).run P w = .ok () w := by
  have key : ∀ xs ys, a = .agg xs → b = .agg ys → (do
      if !(← program).eqGuardType (← program).depth t then return
      if ← Op.eqGuardIn Op.maxDepth t a b then unsupported (.noEntry "binop/eql: two nil values of an interface type with methods, in a part of a struct or an array") : Sem Unit).run P w = .ok () w := by
    intro xs ys h1 h2
    show Sem.run P (if (!P.eqGuardType P.depth t) = true then _ else _) w = _
    rw [k ⟨_, h1⟩]; rfl
  cases op <;> first
    | rfl
    | (cases a <;> first
        | exact absurd rfl h
        | rfl
        | (cases b <;> first
            | rfl
            | exact key _ _ rfl rfl))
theorem vr_ne_nilIface {M : Mem} {a : AV} {x : Value} (h : VRel M a x) (ha : (∃ k n, a = .int k n) ∨ (∃ b, a = .bool b) ∨ (∃ s, a = .str s)) : x ≠ .nilIface ∧ ∀ xs, x ≠ .agg xs := by
  rcases ha with ⟨k, n, rfl⟩ | ⟨b, rfl⟩ | ⟨s, rfl⟩
  · rw [vr_int h]; simp
  · rw [vr_bool h]; simp
  · rw [vr_str h]; simp

/-! ### Addresses, loads -/
theorem run_sureAddr {P : Program} {w : World} (a : Addr) : (Instr.sureAddr (.pointer (some a))).run P w = .ok a w := rfl
theorem run_loadVar_one {P : Program} {w : World} {t : TypeId} {a : Addr} {x : Value} (ht : aggT P t = some false) (h : w.cell? a = some x) : (loadVar t a).run P w = .ok x w := by
  unfold loadVar
  rw [run_bind, run_isAgg ht]
  exact run_load h
theorem run_loadVar_agg {P : Program} {w : World} {t : TypeId} {b o : Nat} {i : TypeInfo} (ht : aggT P t = some true) (hi : P.info? t = some i) (xs : List Value) (hx : xs.length = i.size)
    (h : ∀ j u, xs[j]? = some u → w.cell? ⟨b, o + j, none⟩ = some u) : (loadVar t ⟨b, o, none⟩).run P w = .ok (.agg xs.toArray) w := by
  unfold loadVar
  rw [run_bind, run_isAgg ht]
  simp only []
  show Sem.run P (sizeOf t >>= _) w = _
  rw [run_bind, run_sizeOf hi]
  simp only []
  rw [run_bind, ← hx, run_loadCells xs h]; rfl
def SzP (P : Program) (t : TypeId) : Option Nat → Prop
  | none => aggT P t = some false
  | some k => aggT P t = some true ∧ ∃ i, P.info? t = some i ∧ i.size = k
theorem load_sound {P : Program} {M : Mem} {H : Heap} {w : World} (r : Rel M H w) {t : TypeId} {sz : Option Nat} {a : AV} {x : Value} (h : VRel M a x)
    (ht : SzP P t sz) {p : Prop} {v : AV} (e : evK (.load sz) H [a] = some (p, v)) (hp : p) :
    Gives P M w (Instr.loadAt t x) v := by
  have key : ∀ (b o : Nat) (cs : List AV), x = .pointer (some ⟨b, o, none⟩) → (∀ j v, cs[j]? = some v → ∃ x, w.cell? ⟨b, o + j, none⟩ = some x ∧ VRel M v x) →
      (sz = none → cs = [v]) → (∀ k, sz = some k → cs.length = k ∧ v = .agg cs) → Gives P M w (Instr.loadAt t x) v := by
    intro b o cs hx hc h1 h2
    subst hx
    unfold Instr.loadAt
    cases sz with
    | none =>
      obtain rfl := h1 rfl
      obtain ⟨y, hy, hr⟩ := hc 0 v rfl
      exact ⟨y, by rw [run_bind, run_sureAddr]; exact run_loadVar_one ht hy, hr⟩
    | some k =>
      obtain ⟨hk, rfl⟩ := h2 k rfl
      obtain ⟨ht, i, hi, his⟩ := ht
      obtain ⟨xs, e1, e2, e3⟩ := cells_values hc
      refine ⟨.agg xs.toArray, by rw [run_bind, run_sureAddr]; exact run_loadVar_agg ht hi xs (by omega) e3, ?_⟩
      simp only [VRel]
      exact ⟨_, rfl, by simpa using e2⟩
  cases sz with
  | none =>
    simp only [evK] at e
    split at e
    · rename_i b o
      split at e
      · rename_i vs n hb
        split at e
        · rename_i y hy
          cases e
          refine key b o [v] (by simpa only [VRel] using h) (fun j u hj => ?_) (fun _ => rfl) (fun k hk => by cases hk)
          cases j with
          | zero => simp at hj; subst hj; exact r.cell hb hy
          | succ j => simp at hj
        · cases e
      · cases e
    · rename_i cs i
      split at e
      · rename_i y hy
        cases e
        simp only [VRel] at h
        obtain ⟨b, o, vs, hx, hm, hr⟩ := h
        refine key b (o + i) [v] hx (fun j u hj => ?_) (fun _ => rfl) (fun k hk => by cases hk)
        cases j with
        | zero => simp at hj; subst hj; exact r.icell hm hr hy
        | succ j => simp at hj
      · cases e
    · cases e
  | some k =>
    simp only [evK] at e
    split at e
    · rename_i b o
      split at e
      · rename_i vs n hb
        cases e
        refine key b o ((vs.drop o).take k) (by simpa only [VRel] using h) (fun j u hj => ?_) (fun hk => by cases hk) (fun k' hk => by cases hk; exact ⟨by simp; omega, rfl⟩)
        rw [List.getElem?_take] at hj
        split at hj
        · rw [List.getElem?_drop] at hj; exact r.cell hb hj
        · cases hj
      · cases e
    · rename_i cs i
      cases e
      simp only [VRel] at h
      obtain ⟨b, o, vs, hx, hm, hr⟩ := h
      refine key b (o + i) ((cs.drop i).take k) hx (fun j u hj => ?_) (fun hk => by cases hk) (fun k' hk => by cases hk; exact ⟨by simp; omega, rfl⟩)
      rw [List.getElem?_take] at hj
      split at hj
      · rw [List.getElem?_drop] at hj
        have := r.icell hm hr hj
        rw [show o + i + j = o + (i + j) by omega]; exact this
      · cases hj
    · cases e
theorem faddr_sound {P : Program} {M : Mem} {H : Heap} {w : World} {s : TypeId} {f off : Nat} {fs : Array Field} {fl : Field} {i : TypeInfo} {a : AV} {x : Value} (h : VRel M a x)
    (hs : P.underlying s = some (.struct fs)) (hf : fs[f]? = some fl) (ho : fl.offset = off) (hi : P.info? fl.type = some i) (hz : i.size ≠ 0) {p : Prop} {v : AV} (e : evK (.faddr off) H [a] = some (p, v)) (hp : p) :
    Gives P M w (Instr.fieldAt s x f) v := by
  have key : ∀ b o, x = .pointer (some ⟨b, o, none⟩) → (Instr.fieldAt s x f).run P w = .ok (.pointer (some ⟨b, o + off, none⟩)) w := by
    intro b o hx
    subst hx
    unfold Instr.fieldAt
    rw [run_bind, run_underlying hs]
    simp only [hf]
    rw [run_bind, run_sureAddr]
    simp only []
    unfold fieldPlace
    rw [run_bind, run_bind, run_sizeOf hi]
    simp only [hz, if_false]
    rw [add_off, ho]; rfl
  simp only [evK] at e
  split at e
  · rename_i b o
    cases e
    exact ⟨_, key b o (by simpa only [VRel] using h), by simp only [VRel]⟩
  · rename_i cs j
    cases e
    simp only [VRel] at h
    obtain ⟨b, o, vs, hx, hm, hr⟩ := h
    refine ⟨_, key b (o + j) hx, ?_⟩
    simp only [VRel]
    exact ⟨b, o, vs, by rw [Nat.add_assoc], hm, hr⟩
  · cases e
theorem iaddr_sound {P : Program} {M : Mem} {H : Heap} {w : World} {t el : TypeId} {sz : Nat} {ti : TypeInfo} {a b : AV} {x y : Value} (h : VRel M a x) (k : VRel M b y)
    (ht : P.underlying t = some (.slice el)) (hi : P.info? el = some ti) (hz : ti.size = sz) {p : Prop} {v : AV} (e : evK (.iaddr sz) H [a, b] = some (p, v)) (hp : p) :
    Gives P M w (Instr.indexAt t x y) v := by
  cases b <;> simp only [evK, reduceCtorEq] at e
  rename_i kk i
  rw [vr_int k]
  have key : ∀ (A : Addr) (n c : Nat), A.spot = none → x = .slice (some A) n c → 0 ≤ i ∧ i < n → (Instr.indexAt t x (.int kk i)).run P w = .ok (.pointer (some ⟨A.block, A.off + i.toNat * sz, none⟩)) w := by
    intro A n c hs hx hin
    subst hx
    unfold Instr.indexAt
    simp only [asIntOf, run_bind, run_pure, run_underlying ht, if_pos hin, run_sizeOf hi, hz]
    rw [add_spot hs]
  split at e
  · rename_i cs n c
    cases e
    simp only [VRel] at h
    obtain ⟨A, vs, kc, hx, h2, h3, h4, h5, h6⟩ := h
    cases A with
    | none => have := (h4 rfl).1; omega
    | some A =>
      obtain ⟨hs, hm⟩ := h5 A rfl
      have hn0 : n ≠ 0 := by omega
      refine ⟨_, key A n kc (hs hn0) hx hp, ?_⟩
      simp only [VRel]
      exact ⟨A.block, A.off, vs, rfl, hm, h6⟩
  · rename_i bb o n c
    cases e
    refine ⟨_, key ⟨bb, o, none⟩ n c rfl (by simpa only [VRel] using h) hp, ?_⟩
    simp only [VRel]
  · cases e
theorem iarr_sound {P : Program} {M : Mem} {H : Heap} {w : World} {t el : TypeId} {len sz : Nat} {ti : TypeInfo} {a b : AV} {x y : Value} (h : VRel M a x) (k : VRel M b y)
    (ht : P.underlying t = some (.array len el)) (hi : P.info? el = some ti) (hz : ti.size = sz) {p : Prop} {v : AV} (e : evK (.iarr len sz) H [a, b] = some (p, v)) (hp : p) :
    Gives P M w (Instr.indexAt t x y) v := by
  cases b <;> simp only [evK, reduceCtorEq] at e
  rename_i kk i
  rw [vr_int k]
  have key : ∀ (b o : Nat), x = .pointer (some ⟨b, o, none⟩) → 0 ≤ i ∧ i < len → (Instr.indexAt t x (.int kk i)).run P w = .ok (.pointer (some ⟨b, o + i.toNat * sz, none⟩)) w := by
    intro b o hx hin
    subst hx
    unfold Instr.indexAt
    simp only [asIntOf, run_bind, run_pure, run_underlying ht, run_sureAddr, if_pos hin, run_sizeOf hi, hz]
    rw [add_off]
  split at e
  · rename_i bb o
    cases e
    refine ⟨_, key bb o (by simpa only [VRel] using h) hp, by simp only [VRel]⟩
  · rename_i cs j
    cases e
    simp only [VRel] at h
    obtain ⟨b, o, vs, hx, hm, hr⟩ := h
    refine ⟨_, key b (o + j) hx hp, ?_⟩
    simp only [VRel]
    exact ⟨b, o, vs, by rw [Nat.add_assoc], hm, hr⟩
  · cases e
end Go.Sf

end
section
/- The framework's operations that look alone: comparisons of structs, conversions, slices of slices, lengths, and the rest of them. -/
set_option linter.unusedVariables false
set_option linter.unusedSimpArgs false
namespace Go.Sf

mutual
/-- A type whose values are so many numbers, bools and strings, one behind the other. -/
def flat (P : Program) : Nat → TypeId → Option (List SK)
  | 0, _ => none
  | d + 1, t => match P.underlying t with
    | some .bool => some [.b]
    | some (.int _) => some [.i]
    | some .string => some [.s]
    | some (.struct fs) => if P.stoodInHeld t then none else flatFs P d fs.toList 0
    | _ => none
def flatFs (P : Program) : Nat → List Field → Nat → Option (List SK)
  | _, [], _ => some []
  | 0, _ :: _, _ => none
  | d + 1, f :: fs, off =>
    if f.name ≠ "_" ∧ f.offset = off then
      match flat P d f.type with
      | some ks => if (P.info? f.type).map (·.size) = some ks.length then
          match flatFs P d fs (off + ks.length) with
          | some r => some (ks ++ r)
          | none => none
        else none
      | none => none
    else none
end
theorem flatEq_split : ∀ {ks1 ks2 : List SK} {xs ys : List AV} {b : Bool}, flatEq (ks1 ++ ks2) xs ys = some b →
    ∃ b1 b2 x1 x2 y1 y2, xs = x1 ++ x2 ∧ ys = y1 ++ y2 ∧ x1.length = ks1.length ∧ y1.length = ks1.length ∧ flatEq ks1 x1 y1 = some b1 ∧ flatEq ks2 x2 y2 = some b2 ∧ b = (b1 && b2)
  | [], ks2, xs, ys, b, e => ⟨true, b, [], xs, [], ys, rfl, rfl, rfl, rfl, rfl, e, by simp⟩
  | k :: ks1, ks2, [], ys, b, e => by simp [flatEq] at e
  | k :: ks1, ks2, x :: xs, [], b, e => by simp [flatEq] at e
  | k :: ks1, ks2, x :: xs, y :: ys, b, e => by
    simp only [List.cons_append, flatEq] at e
    split at e
    · rename_i c1 c2 e1 e2
      cases e
      obtain ⟨b1, b2, x1, x2, y1, y2, rfl, rfl, h1, h2, k1, k2, rfl⟩ := flatEq_split e2
      refine ⟨c1 && b1, b2, x :: x1, x2, y :: y1, y2, rfl, rfl, by simp [h1], by simp [h2], ?_, k2, by simp [Bool.and_assoc]⟩
      simp only [flatEq, e1, k1]
    · cases e
theorem flatEq_length : ∀ {ks : List SK} {xs ys : List AV} {b : Bool}, flatEq ks xs ys = some b → xs.length = ks.length ∧ ys.length = ks.length
  | [], [], [], b, e => ⟨rfl, rfl⟩
  | [], _ :: _, _, b, e => by simp [flatEq] at e
  | [], [], _ :: _, b, e => by simp [flatEq] at e
  | _ :: _, [], _, b, e => by simp [flatEq] at e
  | _ :: _, _ :: _, [], b, e => by simp [flatEq] at e
  | k :: ks, x :: xs, y :: ys, b, e => by
    simp only [flatEq] at e
    split at e
    · rename_i e2; have := flatEq_length e2; simp [this.1, this.2]
    · cases e
/-- A value of so many cells: the cell itself, or the cells together. -/
def valT (agg : Bool) (X : List Value) : Value := if agg then .agg X.toArray else X.headD undef
theorem run_part {P : Program} {w : World} {t : TypeId} {g : Bool} {k : Nat} {i : TypeInfo} (hg : aggT P t = some g) (hi : P.info? t = some i) (hk : i.size = k) (h1 : g = false → k = 1) {pre mid post : List Value} (hm : mid.length = k) (X : Array Value) (hX : X.toList = pre ++ mid ++ post) :
    (part t X pre.length).run P w = .ok (valT g mid) w := by
  unfold part
  simp only [run_bind, run_isAgg hg]
  cases g with
  | true =>
    simp only [if_true, run_bind, run_sizeOf hi, run_pure, valT, hk]
    have : X.extract pre.length (pre.length + k) = mid.toArray := by
      apply Array.toList_inj.1
      simp only [Array.toList_extract, hX, List.extract_eq_take_drop]
      rw [List.append_assoc, List.drop_left]
      rw [show pre.length + k - pre.length = mid.length by omega, List.take_left]
    rw [this]
  | false =>
    have := h1 rfl
    match mid, hm with
    | [m], _ =>
      have hx : X[pre.length]? = some m := by rw [← Array.getElem?_toList, hX]; simp
      simp only [Bool.false_eq_true, if_false, hx, valT]; rfl
    | [], hm => simp at hm; omega
    | _ :: _ :: _, hm => simp at hm; omega
theorem flat_agg {P : Program} {d : Nat} {t : TypeId} {ks : List SK} (h : flat P d t = some ks) : ∃ g, aggT P t = some g ∧ (g = false → ks.length = 1) := by
  cases d with
  | zero => simp [flat] at h
  | succ d =>
    simp only [flat] at h
    unfold aggT
    split at h
    · rename_i e; rw [e]; cases h; exact ⟨false, rfl, fun _ => rfl⟩
    · rename_i e; rw [e]; cases h; exact ⟨false, rfl, fun _ => rfl⟩
    · rename_i e; rw [e]; cases h; exact ⟨false, rfl, fun _ => rfl⟩
    · rename_i e; rw [e]; exact ⟨true, rfl, fun h => by cases h⟩
    · cases h
theorem flat_one {P : Program} {M : Mem} {w : World} {d D : Nat} {t : TypeId} {k : SK} (ht : match k with | .b => P.underlying t = some .bool | .i => ∃ kk, P.underlying t = some (.int kk) | .s => P.underlying t = some .string | .k3 => False)
    {xs ys : List AV} {b : Bool} (e : flatEq [k] xs ys = some b) {X Y : List Value} (hx : VRels M xs X) (hy : VRels M ys Y) :
    (Op.equalIn (D + 1) t (valT false X) (valT false Y)).run P w = .ok b w := by
  match xs, ys, e with
  | [], _, e => simp [flatEq] at e
  | _ :: _, [], e => simp [flatEq] at e
  | [x], [y], e =>
    simp only [flatEq] at e
    obtain ⟨vx, X', rfl, h1, h2⟩ := (by simpa only [VRels] using hx : ∃ v vs', X = v :: vs' ∧ VRel M x v ∧ vs' = [])
    obtain ⟨vy, Y', rfl, k1, k2⟩ := (by simpa only [VRels] using hy : ∃ v vs', Y = v :: vs' ∧ VRel M y v ∧ vs' = [])
    simp only [valT, Bool.false_eq_true, if_false, List.headD_cons]
    cases hs : scalEq k x y with
    | none => simp [hs] at e
    | some c =>
      simp [hs] at e; subst e
      cases k with
      | b =>
        match x, y, hs with
        | .bool a, .bool a', hs =>
          simp only [scalEq, Option.some.injEq] at hs
          rw [vr_bool h1, vr_bool k1]
          simp only [Op.equalIn, run_bind, run_underlying ht, run_pure, ← hs]
          cases a <;> cases a' <;> rfl
      | i =>
        obtain ⟨kk, ht⟩ := ht
        match x, y, hs with
        | .int k a, .int k' a', hs =>
          simp only [scalEq] at hs
          split at hs
          · rename_i hk; subst hk
            simp only [Option.some.injEq] at hs
            rw [vr_int h1, vr_int k1]
            simp only [Op.equalIn, run_bind, run_underlying ht, run_pure, ← hs, if_true]
            rw [show (a == a') = decide (a = a') by cases h : decide (a = a') <;> simp_all]
          · cases hs
      | s =>
        match x, y, hs with
        | .str a, .str a', hs =>
          simp only [scalEq, Option.some.injEq] at hs
          rw [vr_str h1, vr_str k1]
          simp only [Op.equalIn, run_bind, run_underlying ht, run_pure, ← hs]
          rw [beq_toListBytes, ba_eq]
      | k3 => exact ht.elim
  | x :: x2 :: xs, [y], e => simp only [flatEq] at e; split at e <;> simp_all [flatEq]
  | x :: xs, y :: y2 :: ys, e => simp only [flatEq] at e; split at e <;> cases xs <;> simp_all [flatEq]
mutual
theorem flat_sound {P : Program} {M : Mem} : ∀ (d D : Nat) (t : TypeId) (ks : List SK), flat P d t = some ks → d ≤ D → ∀ (w : World) (g : Bool), aggT P t = some g →
    ∀ (xs ys : List AV) (b : Bool), flatEq ks xs ys = some b → ∀ (X Y : List Value), VRels M xs X → VRels M ys Y → (Op.equalIn D t (valT g X) (valT g Y)).run P w = .ok b w
  | 0, D, t, ks, h, hd, w, g, hg, xs, ys, b, e, X, Y, hx, hy => by simp [flat] at h
  | d + 1, 0, t, ks, h, hd, w, g, hg, xs, ys, b, e, X, Y, hx, hy => by omega
  | d + 1, D + 1, t, ks, h, hd, w, g, hg, xs, ys, b, e, X, Y, hx, hy => by
    simp only [flat] at h
    unfold aggT at hg
    split at h
    · rename_i hu; rw [hu] at hg; cases hg; cases h; exact flat_one (d := d) (k := .b) hu e hx hy
    · rename_i k hu; rw [hu] at hg; cases hg; cases h; exact flat_one (d := d) (k := .i) ⟨k, hu⟩ e hx hy
    · rename_i hu; rw [hu] at hg; cases hg; cases h; exact flat_one (d := d) (k := .s) hu e hx hy
    · rename_i fs hu
      rw [hu] at hg; cases hg
      split at h
      · cases h
      · rename_i hst
        have hf : P.fieldsOf t = fs := by simp only [Program.fieldsOf, hu]
        simp only [valT, if_true]
        rw [run_equalIn_struct w D t _ _ (by rw [hf]; exact hu) (by simpa using hst), hf]
        exact flatFs_sound d D fs.toList [] [] ks (by simpa using h) (by omega) w xs ys b e X Y hx hy _ _ (by simp) (by simp) rfl
    · cases h
theorem flatFs_sound {P : Program} {M : Mem} : ∀ (d D : Nat) (fs : List Field) (preX preY : List Value) (ks : List SK), flatFs P d fs preX.length = some ks → d ≤ D → ∀ (w : World),
    ∀ (xs ys : List AV) (b : Bool), flatEq ks xs ys = some b → ∀ (X Y : List Value), VRels M xs X → VRels M ys Y → ∀ (XA YA : Array Value), XA.toList = preX ++ X → YA.toList = preY ++ Y → preX.length = preY.length →
    (Op.eqFields D XA YA fs).run P w = .ok b w
  | d, D, [], preX, preY, ks, h, hd, w, xs, ys, b, e, X, Y, hx, hy, XA, YA, hXA, hYA, hp => by
    simp only [flatFs, Option.some.injEq] at h; subst h
    match xs, ys, e with
    | [], [], e => simp only [flatEq, Option.some.injEq] at e; subst e; rfl
    | [], _ :: _, e => simp [flatEq] at e
    | _ :: _, _, e => simp [flatEq] at e
  | 0, D, _ :: _, preX, preY, ks, h, hd, w, xs, ys, b, e, X, Y, hx, hy, XA, YA, hXA, hYA, hp => by simp [flatFs] at h
  | d + 1, D, f :: fs, preX, preY, ks, h, hd, w, xs, ys, b, e, X, Y, hx, hy, XA, YA, hXA, hYA, hp => by
    simp only [flatFs] at h
    split at h
    · rename_i hn
      split at h
      · rename_i ks1 h1
        split at h
        · rename_i hsz
          split at h
          · rename_i r h2
            cases h
            obtain ⟨b1, b2, x1, x2, y1, y2, rfl, rfl, l1, l2, k1, k2, rfl⟩ := flatEq_split e
            obtain ⟨i, hi, his⟩ := Option.map_eq_some_iff.1 hsz
            obtain ⟨g, hg, hg1⟩ := flat_agg h1
            have hxl := hx.length
            have hyl := hy.length
            simp only [List.length_append] at hxl hyl
            have hX1 : VRels M x1 (X.take ks1.length) := by have := hx.take x1.length; rwa [List.take_left, l1] at this
            have hX2 : VRels M x2 (X.drop ks1.length) := by have := hx.drop x1.length; rwa [List.drop_left, l1] at this
            have hY1 : VRels M y1 (Y.take ks1.length) := by have := hy.take y1.length; rwa [List.take_left, l2] at this
            have hY2 : VRels M y2 (Y.drop ks1.length) := by have := hy.drop y1.length; rwa [List.drop_left, l2] at this
            have lX : (X.take ks1.length).length = ks1.length := by simp; omega
            have lY : (Y.take ks1.length).length = ks1.length := by simp; omega
            simp only [Op.eqFields]
            rw [if_pos hn.1, hn.2]
            rw [run_bind, run_part hg hi his hg1 lX XA (post := X.drop ks1.length) (by rw [hXA, List.append_assoc, List.take_append_drop])]
            simp only []
            rw [run_bind, hp, run_part hg hi his hg1 lY YA (post := Y.drop ks1.length) (by rw [hYA, List.append_assoc, List.take_append_drop])]
            simp only []
            rw [run_bind, flat_sound d D f.type ks1 h1 (by omega) w g hg x1 y1 b1 k1 _ _ hX1 hY1]
            simp only []
            cases b1 with
            | false => rfl
            | true =>
              simp only [Bool.not_true, Bool.false_eq_true, if_false, Bool.true_and]
              exact flatFs_sound d D fs (preX ++ X.take ks1.length) (preY ++ Y.take ks1.length) r (by rw [List.length_append, lX]; exact h2) (by omega) w x2 y2 b2 k2 _ _ hX2 hY2 XA YA
                (by rw [hXA, List.append_assoc, List.take_append_drop]) (by rw [hYA, List.append_assoc, List.take_append_drop]) (by rw [List.length_append, List.length_append, lX, lY, hp])
          · cases h
        · cases h
      · cases h
    · cases h
end
end Go.Sf

end
section
/- The framework's operations that look alone: slices' cells, conversions, slicing, lengths; and all of them together. -/
set_option linter.unusedVariables false
set_option linter.unusedSimpArgs false
namespace Go.Sf

def EqTy (P : Program) (t : TypeId) : EqT → Prop
  | .bool => P.underlying t = some .bool
  | .ptr => ∃ e j, P.underlying t = some (.pointer e) ∧ P.info? e = some j
  | .slice => ∃ e, P.underlying t = some (.slice e)
  | .map => ∃ k e, P.underlying t = some (.map k e)
  | .func => ∃ p r v, P.underlying t = some (.func p r v)
  | .flat ks => flat P 1000 t = some ks ∧ aggT P t = some true
theorem vr_nilp {M : Mem} {x : Value} (h : VRel M .nilp x) : x = .pointer none := by simpa only [VRel] using h
theorem vr_ptr {M : Mem} {b o : Nat} {x : Value} (h : VRel M (.ptr b o) x) : x = .pointer (some ⟨b, o, none⟩) := by simpa only [VRel] using h
theorem vr_iptr {M : Mem} {cs : List AV} {i : Nat} {x : Value} (h : VRel M (.iptr cs i) x) : ∃ a, x = .pointer (some a) := by
  simp only [VRel] at h; obtain ⟨_, _, _, h, _⟩ := h; exact ⟨_, h⟩
theorem vr_nils {M : Mem} {x : Value} (h : VRel M .nils x) : x = .slice none 0 0 := by simpa only [VRel] using h
theorem vr_sl {M : Mem} {b o n c : Nat} {x : Value} (h : VRel M (.sl b o n c) x) : x = .slice (some ⟨b, o, none⟩) n c := by simpa only [VRel] using h
theorem vr_imm {M : Mem} {cs : List AV} {n : Nat} {c : Option Nat} {x : Value} (h : VRel M (.imm cs (n + 1) c) x) : ∃ a l k, x = .slice (some a) l k := by
  simp only [VRel] at h
  obtain ⟨A, vs, kc, h, k2, k3, k4, _⟩ := h
  cases A with
  | none => have := (k4 rfl).1; omega
  | some A => exact ⟨_, _, _, h⟩
theorem vr_nilm {M : Mem} {x : Value} (h : VRel M .nilm x) : x = .map none := by simpa only [VRel] using h
theorem vr_mp {M : Mem} {b : Nat} {x : Value} (h : VRel M (.mp b) x) : x = .map (some b) := by simpa only [VRel] using h
theorem vr_nilf {M : Mem} {x : Value} (h : VRel M .nilf x) : x = .nilFunc := by simpa only [VRel] using h
theorem vr_fn {M : Mem} {f : Fn} {xs ys : List AV} {x : Value} (h : VRel M (.fn f xs ys) x) : ∃ a b, x = .func f a b := by
  simp only [VRel] at h; obtain ⟨_, _, h, _⟩ := h; exact ⟨_, _, h⟩
theorem eqV_sound {P : Program} {M : Mem} {w : World} {c : EqT} {a b : AV} {x y : Value} (h : VRel M a x) (k : VRel M b y) {t : TypeId} (ht : EqTy P t c) {r : Bool} (e : eqV c a b = some r) :
    (Op.equal t x y).run P w = .ok r w := by
  unfold Op.equal
  suffices hh : ∀ D, 1000 ≤ D + 1 → (Op.equalIn (D + 1) t x y).run P w = .ok r w from hh 9999 (by omega)
  intro D hD
  cases c with
  | bool =>
    simp only [EqTy] at ht
    cases a <;> cases b <;> simp only [eqV, reduceCtorEq, Option.some.injEq] at e
    rw [vr_bool h, vr_bool k, ← e]
    simp only [Op.equalIn, run_bind, run_underlying ht, run_pure]
    rename_i a b
    cases a <;> cases b <;> rfl
  | ptr =>
    obtain ⟨el, j, ht, hj⟩ := ht
    cases a <;> cases b <;> simp only [eqV, reduceCtorEq, Option.some.injEq] at e
    · rw [vr_nilp h, vr_nilp k, ← e]; simp only [Op.equalIn, run_bind, run_underlying ht, run_pure, Option.isNone]
    · rw [vr_nilp h, vr_ptr k, ← e]; simp only [Op.equalIn, run_bind, run_underlying ht, run_pure, Option.isNone]
    · obtain ⟨_, k⟩ := vr_iptr k; rw [vr_nilp h, k, ← e]; simp only [Op.equalIn, run_bind, run_underlying ht, run_pure, Option.isNone]
    · rw [vr_ptr h, vr_nilp k, ← e]; simp only [Op.equalIn, run_bind, run_underlying ht, run_pure, Option.isNone]
    · split at e
      · rename_i hbo
        obtain ⟨rfl, rfl⟩ := hbo
        cases e
        rw [vr_ptr h, vr_ptr k]
        simp [Op.equalIn, run_underlying ht, sizeOf, typeInfo, hj, run_sameAddr_same]
      · cases e
    · obtain ⟨_, h⟩ := vr_iptr h; rw [h, vr_nilp k, ← e]; simp only [Op.equalIn, run_bind, run_underlying ht, run_pure, Option.isNone]
  | slice =>
    obtain ⟨el, ht⟩ := ht
    cases a <;> cases b <;> (try (rename_i n _; cases n)) <;> simp only [eqV, reduceCtorEq, Option.some.injEq] at e
    · rw [vr_nils h, vr_nils k, ← e]; simp only [Op.equalIn, run_bind, run_underlying ht, run_pure, Option.isNone]
    all_goals first
      | (rw [vr_nils h, vr_sl k, ← e]; simp only [Op.equalIn, run_bind, run_underlying ht, run_pure, Option.isNone]; done)
      | (rw [vr_sl h, vr_nils k, ← e]; simp only [Op.equalIn, run_bind, run_underlying ht, run_pure, Option.isNone]; done)
      | (obtain ⟨_, _, _, k⟩ := vr_imm k; rw [vr_nils h, k, ← e]; simp only [Op.equalIn, run_bind, run_underlying ht, run_pure, Option.isNone]; done)
      | (obtain ⟨_, _, _, h⟩ := vr_imm h; rw [h, vr_nils k, ← e]; simp only [Op.equalIn, run_bind, run_underlying ht, run_pure, Option.isNone]; done)
      | (simp only [VRel] at h; obtain ⟨_, _, h⟩ := h; rw [h, vr_nils k, ← e]; simp only [Op.equalIn, run_bind, run_underlying ht, run_pure, Option.isNone]; done)
      | (simp only [VRel] at k; obtain ⟨_, _, k⟩ := k; rw [vr_nils h, k, ← e]; simp only [Op.equalIn, run_bind, run_underlying ht, run_pure, Option.isNone]; done)
  | map =>
    obtain ⟨el, el2, ht⟩ := ht
    cases a <;> cases b <;> simp only [eqV, reduceCtorEq, Option.some.injEq] at e
    · rw [vr_nilm h, vr_nilm k, ← e]; simp only [Op.equalIn, run_bind, run_underlying ht, run_pure, Option.isNone]
    · rw [vr_nilm h, vr_mp k, ← e]; simp only [Op.equalIn, run_bind, run_underlying ht, run_pure, Option.isNone]
    · rw [vr_mp h, vr_nilm k, ← e]; simp only [Op.equalIn, run_bind, run_underlying ht, run_pure, Option.isNone]
  | func =>
    obtain ⟨el, el2, el3, ht⟩ := ht
    cases a <;> cases b <;> simp only [eqV, reduceCtorEq, Option.some.injEq] at e
    · rw [vr_nilf h, vr_nilf k, ← e]; simp only [Op.equalIn, run_bind, run_underlying ht, run_pure, Option.isNone]
    · obtain ⟨_, _, k⟩ := vr_fn k; rw [vr_nilf h, k, ← e]; simp only [Op.equalIn, run_bind, run_underlying ht, run_pure, Option.isNone]
    · obtain ⟨_, _, h⟩ := vr_fn h; rw [h, vr_nilf k, ← e]; simp only [Op.equalIn, run_bind, run_underlying ht, run_pure, Option.isNone]
  | flat ks =>
    cases a <;> cases b <;> simp only [eqV, reduceCtorEq] at e
    simp only [VRel] at h k
    obtain ⟨X, rfl, hX⟩ := h
    obtain ⟨Y, rfl, hY⟩ := k
    have := flat_sound 1000 (D + 1) t ks ht.1 hD w true ht.2 _ _ r e _ _ hX hY
    simpa [valT] using this

theorem cellsOf_read {M : Mem} {H : Heap} {w : World} (r : Rel M H w) {sz : Nat} {v : AV} {x : Value} (h : VRel M v x) (hv : ∀ s, v ≠ .str s) {cs : List AV} (e : cellsOf H sz v = some cs) :
    ∃ A n c xs, x = .slice A n c ∧ lenOf v = some n ∧ xs.length = n * sz ∧ VRels M cs xs ∧ (A = none → c = 0 ∧ xs = []) ∧
      ∀ a, A = some a → (n ≠ 0 → a.spot = none) ∧ ∀ j u, xs[j]? = some u → w.cell? ⟨a.block, a.off + j, none⟩ = some u := by
  unfold cellsOf at e
  split at e
  · cases e
    simp only [VRel] at h
    exact ⟨none, 0, 0, [], h, rfl, by simp, .nil, fun _ => ⟨rfl, rfl⟩, fun a ha => by cases ha⟩
  · rename_i cs' n c
    split at e
    · rename_i hl
      cases e
      simp only [VRel] at h
      obtain ⟨A, vs, k, h1, h2, h3, h4, h5, h6⟩ := h
      refine ⟨A, n, k, vs, h1, rfl, by rw [← h6.length, hl], h6, h4, fun a ha => ⟨(h5 a ha).1, fun j u hj => (r.mem _ _ _ ((h5 a ha).2 j u hj)).2⟩⟩
    · cases e
  · rename_i b o n c
    split at e
    · rename_i hn0
      cases e
      simp only [VRel] at h
      refine ⟨some ⟨b, o, none⟩, n, c, [], h, rfl, by simp [hn0], .nil, fun h => (by cases h), fun a ha => ?_⟩
      cases ha
      exact ⟨fun _ => rfl, fun j u hj => by simp at hj⟩
    split at e
    · rename_i vs k hb
      split at e
      · rename_i hl
        cases e
        simp only [VRel] at h
        obtain ⟨xs, e1, e2, e3⟩ := cells_values (w := w) (M := M) (b := b) (o := o) (cs := (vs.drop o).take (n * sz)) fun j u hj => by
          rw [List.getElem?_take] at hj
          split at hj
          · rw [List.getElem?_drop] at hj; exact r.cell hb hj
          · cases hj
        refine ⟨some ⟨b, o, none⟩, n, c, xs, h, rfl, by rw [e1]; simp; omega, e2, fun h => (by cases h), fun a ha => ?_⟩
        cases ha
        exact ⟨fun _ => rfl, e3⟩
      · cases e
    · cases e
  · exact absurd rfl (hv _)
  · cases e
    simp only [VRel] at h
    obtain ⟨a, k, h⟩ := h
    exact ⟨some a, 0, k, [], h, rfl, by simp, .nil, fun h => (by cases h), fun a ha => ⟨fun h => absurd rfl h, fun j u hj => by simp at hj⟩⟩
  · cases e
theorem run_firstCells {P : Program} {w : World} {A : Option Addr} {n c sz : Nat} {xs : List Value} (hl : xs.length = n * sz) (hn : A = none → xs = [])
    (hc : ∀ a, A = some a → (n ≠ 0 → a.spot = none) ∧ ∀ j u, xs[j]? = some u → w.cell? ⟨a.block, a.off + j, none⟩ = some u) : (Builtin.firstCells sz n (.slice A n c)).run P w = .ok xs.toArray w := by
  cases A with
  | none => rw [hn rfl]; rfl
  | some a =>
    obtain ⟨hs, hx⟩ := hc a rfl
    by_cases hn0 : n = 0
    · subst hn0
      have hxs : xs = [] := List.length_eq_zero_iff.1 (by simpa using hl)
      subst hxs
      simp [Builtin.firstCells, loadCells, loadCellsFrom, run_pure]
    have hs := hs hn0
    obtain ⟨b, o, s⟩ := a
    simp only at hs; subst hs
    simp only [Builtin.firstCells]
    rw [← hl]; exact run_loadCells xs hx

theorem toBytes_rel {M : Mem} : ∀ {cs : List AV} {l : List UInt8}, toBytes cs = some l → ∀ {xs : List Value}, VRels M cs xs → ∃ ns : List Int, xs = ns.map (Value.int .u8) ∧ ns.map (fun n => UInt8.ofNat n.toNat) = l
  | [], l, e, xs, h => by
    simp only [toBytes, Option.some.injEq] at e; subst e
    simp only [VRels] at h; subst h
    exact ⟨[], rfl, rfl⟩
  | c :: cs, l, e, xs, h => by
    simp only [VRels] at h
    obtain ⟨v, vs, rfl, h1, h2⟩ := h
    unfold toBytes at e
    split at e
    · cases ‹c :: cs = []›
    · rename_i x r hc
      cases hc
      split at e
      · rename_i l' hl
        cases e
        obtain ⟨ns, rfl, hns⟩ := toBytes_rel hl h2
        refine ⟨x :: ns, ?_, by simp [hns]⟩
        rw [vr_int h1]; rfl
      · cases e
    · cases e
theorem toBytes_bytes : ∀ l : List UInt8, toBytes (l.map byteV) = some l
  | [] => rfl
  | b :: l => by simp [byteV, toBytes, toBytes_bytes l]
theorem b2s_sound {P : Program} {M : Mem} {H : Heap} {w : World} (r : Rel M H w) {a : AV} {x : Value} (h : VRel M a x) {src dst el : TypeId} (hs : P.underlying src = some (.slice el)) (he : P.underlying el = some (.int .u8)) (hd : P.underlying dst = some .string)
    (ha : ∀ s, a ≠ .str s) {p : Prop} {v : AV} (e : evK .b2s H [a] = some (p, v)) (hp : p) : Gives P M w (convert src dst x) v := by
  replace e : (match cellsOf H 1 a with
    | some cs => match toBytes cs with
      | some l => some (True, AV.str ⟨l.toArray⟩)
      | none => none
    | none => none) = some (p, v) := by
    cases a <;> first
      | exact e
      | exact absurd rfl (ha _)
  split at e
  · rename_i cs hc
    split at e
    · rename_i l hl
      cases e
      obtain ⟨A, n, c, xs, rfl, _, h2, h3, h4, h5⟩ := cellsOf_read r h ha hc
      obtain ⟨ns, rfl, hns⟩ := toBytes_rel hl h3
      have hstr : (⟨l.toArray⟩ : ByteArray) = strOfNums ns := by unfold strOfNums; rw [hns]
      cases A with
      | none =>
        have h4' := (h4 rfl).2
        have hn0 : ns = [] := by simpa using h4'
        subst hn0
        simp only [List.map_nil] at hns
        subst hns
        exact ⟨_, run_convert_bytes_nil w src el hs he n c dst hd, by simp only [VRel]; rfl⟩
      | some ad =>
        obtain ⟨hsp, hx⟩ := h5 ad rfl
        by_cases hn0 : n = 0
        · subst hn0
          have hn0 : ns = [] := by simpa using h2
          subst hn0
          simp only [List.map_nil] at hns
          subst hns
          have hld : (loadCells ad 0).run P w = .ok (([] : List Int).map (Value.int .u8)).toArray w := by simp [loadCells, loadCellsFrom, run_pure]
          refine ⟨.string ByteArray.empty, ?_, by simp only [VRel]; rfl⟩
          rw [run_convert_bytes_string w src dst el _ 0 c hs he hd, run_bytesToString w _ 0 c [] hld, foldl_push_bytes]
          simp [ByteArray.empty, ByteArray.emptyWithCapacity]
        have hsp := hsp hn0
        obtain ⟨b, o, s⟩ := ad
        simp only at hsp; subst hsp
        refine ⟨_, run_convert_bytes_arg w src el hs he b o n c ns (by simpa using h2) (fun i hi => ?_) dst hd, by simp only [VRel, hstr]⟩
        have hl' : ns.length = n := by simpa using h2
        refine hx i _ ?_
        rw [List.getElem?_map, List.getElem?_eq_getElem (by omega)]
        simp [List.getD_eq_getElem?_getD, List.getElem?_eq_getElem (show i < ns.length by omega)]
    · cases e
  · cases e
/-! ### Slicing -/
def OptAt (o : Option Value) (d n : Int) : Prop := (o = none ∧ n = d) ∨ ∃ k, o = some (.int k n)
theorem run_sliceBound {P : Program} {w : World} {k : IntKind} {i : Int} {y : Nat} {c : BoundsCode} (h : 0 ≤ i ∧ i ≤ y) : (Instr.sliceBound (.int k i) y c).run P w = .ok i.toNat w := by
  unfold Instr.sliceBound
  simp only [asIntOf, run_bind, run_pure, if_pos h]
theorem run_sliceBounds {P : Program} {w : World} {b : Bool} {lo hi mx : Option Value} {l h m : Int} {len cap : Nat} (h1 : OptAt lo 0 l) (h2 : OptAt hi len h) (h3 : OptAt mx cap m) (h4 : mx = none ∨ hi ≠ none)
    (k1 : 0 ≤ l) (k2 : l ≤ h) (k3 : h ≤ m) (k4 : m ≤ cap) : (Instr.sliceBounds b len cap lo hi mx).run P w = .ok (l.toNat, h.toNat, m.toNat) w := by
  have hm : ((m.toNat : Nat) : Int) = m := by omega
  have hh : ((h.toNat : Nat) : Int) = h := by omega
  rcases h3 with ⟨rfl, rfl⟩ | ⟨km, rfl⟩
  · rcases h2 with ⟨rfl, rfl⟩ | ⟨kh, rfl⟩
    · rcases h1 with ⟨rfl, rfl⟩ | ⟨kl, rfl⟩
      · simp only [Instr.sliceBounds, run_bind, run_pure]; simp
      · simp only [Instr.sliceBounds, run_bind, run_pure, run_sliceBound ⟨k1, k2⟩]; try simp
    · rcases h1 with ⟨rfl, rfl⟩ | ⟨kl, rfl⟩
      · simp only [Instr.sliceBounds, run_bind, run_pure, run_sliceBound (show 0 ≤ h ∧ h ≤ (cap : Int) by omega)]; simp
      · simp only [Instr.sliceBounds, run_bind, run_pure, run_sliceBound (show 0 ≤ h ∧ h ≤ (cap : Int) by omega), run_sliceBound (show 0 ≤ l ∧ l ≤ (h.toNat : Int) by omega)]; simp
  · rcases h2 with ⟨rfl, rfl⟩ | ⟨kh, rfl⟩
    · rcases h4 with h4 | h4
      · cases h4
      · exact absurd rfl h4
    · rcases h1 with ⟨rfl, rfl⟩ | ⟨kl, rfl⟩
      · simp only [Instr.sliceBounds, run_bind, run_pure, run_sliceBound (show 0 ≤ m ∧ m ≤ (cap : Int) by omega), run_sliceBound (show 0 ≤ h ∧ h ≤ (m.toNat : Int) by omega)]; simp
      · simp only [Instr.sliceBounds, run_bind, run_pure, run_sliceBound (show 0 ≤ m ∧ m ≤ (cap : Int) by omega), run_sliceBound (show 0 ≤ h ∧ h ≤ (m.toNat : Int) by omega), run_sliceBound (show 0 ≤ l ∧ l ≤ (h.toNat : Int) by omega)]
theorem slcV_sound {P : Program} {M : Mem} {w : World} {sz : Nat} {mxb : Bool} {a : AV} {x : Value} (hr : VRel M a x) {lo hi mx : Option Value} {l h m : Int} {n : Nat} (hn : lenOf a = some n) (ha : ∀ s, a ≠ .str s)
    (h1 : OptAt lo 0 l) (h2 : OptAt hi n h) (h3 : if mxb then (∃ k, mx = some (.int k m)) ∧ hi ≠ none else mx = none) {t el : TypeId} {ti : TypeInfo}
    (ht : P.underlying t = some (.slice el)) (hi' : P.info? el = some ti) (hz : ti.size = sz) {p : Prop} {v : AV} (e : slcV sz mxb a l h m = some (p, v)) (hp : p) :
    Gives P M w (Instr.sliceAt t x lo hi mx) v := by
  have key : ∀ (A : Option Addr) (len cap : Nat) (mm : Int), x = .slice A len cap → len = n → 0 ≤ l → l ≤ h → h ≤ mm → mm ≤ cap → (mxb = true → mm = m) → (mxb = false → mm = cap) →
      (Instr.sliceAt t x lo hi mx).run P w = .ok (.slice (if mm.toNat = l.toNat then A else A.map (·.add (l.toNat * sz))) (h.toNat - l.toNat) (mm.toNat - l.toNat)) w := by
    intro A len cap mm hx hlen k1 k2 k3 k4 k5 k6
    subst hx; subst hlen
    have hb : (Instr.sliceBounds true len cap lo hi mx).run P w = .ok (l.toNat, h.toNat, mm.toNat) w := by
      cases mxb with
      | true =>
        simp only [if_true] at h3
        obtain ⟨⟨k, h3⟩, h4⟩ := h3
        exact run_sliceBounds h1 h2 (.inr ⟨k, by rw [h3, k5 rfl]⟩) (.inr h4) k1 k2 k3 k4
      | false =>
        simp only [Bool.false_eq_true, if_false] at h3
        exact run_sliceBounds h1 h2 (.inl ⟨h3, k6 rfl⟩) (.inl h3) k1 k2 k3 k4
    unfold Instr.sliceAt
    simp only [run_bind, run_underlying ht]
    unfold Instr.slice
    simp only [run_bind, run_underlying ht, hb, run_sizeOf hi', run_pure, hz]
  unfold slcV at e
  split at e
  · cases e
    obtain ⟨p1, p2, p3, p4⟩ := hp
    simp only [VRel] at hr
    simp only [lenOf, Option.some.injEq] at hn
    refine ⟨_, key none 0 0 (if mxb then m else 0) hr hn p1 p2 ?_ ?_ (fun e => by rw [e]; rfl) (fun e => by rw [e]; rfl), ?_⟩
    · split
      · rename_i hm; exact (p4 hm).1
      · exact p3
    · split
      · rename_i hm; simpa using (p4 hm).2
      · simp
    · simp only [VRel]
      have e1 : h.toNat - l.toNat = 0 := by omega
      have e2 : (if mxb = true then m else 0).toNat - l.toNat = 0 := by
        split
        · rename_i hm; have := (p4 hm).2; omega
        · simp
      rw [e1, e2]
      simp only [Option.map_none, ite_self]
  · rename_i cs n' c
    simp only [lenOf, Option.some.injEq] at hn; subst hn
    simp only [VRel] at hr
    obtain ⟨A, vs, k, rfl, g2, g3, g4, g5, g6⟩ := hr
    have fin : ∀ (mm : Int) (c' : Option Nat), 0 ≤ l → l ≤ h → h ≤ n' → h ≤ mm → mm ≤ k → cs.length = n' * sz → (mxb = true → mm = m) → (mxb = false → mm = (k : Nat)) → (∀ y, c' = some y → mm.toNat - l.toNat = y) →
        Gives P M w (Instr.sliceAt t (.slice A n' k) lo hi mx) (.imm ((cs.drop (l.toNat * sz)).take ((h.toNat - l.toNat) * sz)) (h.toNat - l.toNat) c') := by
      intro mm c' q1 q2 q3 q4 q5 q6 q7 q8 q9
      refine ⟨_, key A n' k mm rfl rfl q1 q2 q4 q5 q7 q8, ?_⟩
      simp only [VRel]
      refine ⟨_, (vs.drop (l.toNat * sz)).take ((h.toNat - l.toNat) * sz), _, rfl, q9, by omega, ?_, ?_, (g6.drop _).take _⟩
      · intro hA
        have hA' : A = none := by
          split at hA
          · exact hA
          · simpa using hA
        obtain ⟨rfl, rfl⟩ := g4 hA'
        exact ⟨by omega, by simp⟩
      · intro y hy
        split at hy
        · rename_i hml
          have : h.toNat - l.toNat = 0 := by omega
          rw [this]
          exact ⟨fun h => absurd rfl h, fun j u hj => by simp at hj⟩
        · cases A with
          | none => simp at hy
          | some A =>
            simp only [Option.map_some, Option.some.injEq] at hy
            subst hy
            obtain ⟨s1, s2⟩ := g5 A rfl
            by_cases hn0 : n' = 0
            · have e0 : h.toNat - l.toNat = 0 := by omega
              rw [e0]
              exact ⟨fun h => absurd rfl h, fun j u hj => by simp at hj⟩
            rw [add_spot (s1 hn0)]
            refine ⟨fun _ => rfl, fun j u hj => ?_⟩
            rw [List.getElem?_take] at hj
            split at hj
            · rw [List.getElem?_drop] at hj
              have := s2 _ _ hj
              simp only []
              rw [Nat.add_assoc]; exact this
            · cases hj
    cases mxb with
    | true =>
      simp only [if_true, Option.some.injEq, Prod.mk.injEq] at e
      obtain ⟨rfl, rfl⟩ := e
      obtain ⟨q1, q2, q3, q4, q5⟩ := hp
      exact fin m _ q1 q2 (by omega) q3 (by omega) q5 (fun _ => rfl) (fun h => by cases h) (fun y hy => by cases hy; rfl)
    | false =>
      simp only [Bool.false_eq_true, if_false, Option.some.injEq, Prod.mk.injEq] at e
      obtain ⟨rfl, rfl⟩ := e
      obtain ⟨q1, q2, q3, q4⟩ := hp
      refine fin k _ q1 q2 q3 (by omega) (by omega) q4 (fun h => by cases h) (fun _ => rfl) (fun y hy => ?_)
      cases c with
      | none => cases hy
      | some c => simp only [Option.map_some, Option.some.injEq] at hy; rw [← hy, g2 c rfl]; simp
  · rename_i b o n' c
    simp only [lenOf, Option.some.injEq] at hn; subst hn
    simp only [VRel] at hr
    cases e
    obtain ⟨q1, q2, q3, q4⟩ := hp
    refine ⟨_, key _ n' c (if mxb then m else c) hr rfl q1 q2 q3 q4 (fun e => by rw [e]; rfl) (fun e => by rw [e]; rfl), ?_⟩
    simp only [VRel]
    by_cases hq : (if mxb = true then m else (c : Int)).toNat = l.toNat
    · rw [if_pos hq, if_pos hq]
    · rw [if_neg hq, if_neg hq]; simp only [Option.map_some, add_off]
  · cases e
end Go.Sf

end
section
/- The framework's operations that look alone: the rest of them; and all of them together, as the model's code has them. -/
set_option linter.unusedVariables false
set_option linter.unusedSimpArgs false
namespace Go.Sf

theorem rel_int (M : Mem) (k : IntKind) (n : Int) : VRel M (.int k n) (.int k n) := by simp only [VRel]
theorem rel_bool (M : Mem) (b : Bool) : VRel M (.bool b) (.bool b) := by simp only [VRel]
theorem rel_str (M : Mem) (s : ByteArray) : VRel M (.str s) (.string s) := by simp only [VRel]
theorem cvt_sound {P : Program} {M : Mem} {H : Heap} {w : World} {a : AV} {x : Value} (h : VRel M a x) {src dst : TypeId} {d1 : TypeDesc} {k : IntKind} (hs : P.underlying src = some d1) (hd : P.underlying dst = some (.int k))
    {p : Prop} {v : AV} (e : evK (.cvt k) H [a] = some (p, v)) (hp : p) : Gives P M w (convert src dst x) v := by
  cases a <;> simp only [evK, reduceCtorEq, Option.some.injEq, Prod.mk.injEq] at e
  obtain ⟨_, rfl⟩ := e
  rw [vr_int h]
  refine ⟨_, ?_, rel_int _ _ _⟩
  simp only [convert, run_bind, run_underlying hs, run_underlying hd, Conv.intToInt, run_pure]
theorem cvtS_sound {P : Program} {M : Mem} {H : Heap} {w : World} {a : AV} {x : Value} (h : VRel M a x) {src dst : TypeId} {d1 : TypeDesc} (hs : P.underlying src = some d1) (hd : P.underlying dst = some .string)
    {p : Prop} {v : AV} (e : evK .cvtS H [a] = some (p, v)) (hp : p) : Gives P M w (convert src dst x) v := by
  cases a <;> simp only [evK, reduceCtorEq, Option.some.injEq, Prod.mk.injEq] at e
  obtain ⟨_, rfl⟩ := e
  rw [vr_str h]
  refine ⟨_, ?_, rel_str _ _⟩
  simp only [convert, run_bind, run_underlying hs, run_underlying hd, run_pure]
theorem szp_none {P : Program} {t : TypeId} (h : SzP P t none) : aggT P t = some false := h
theorem field_sound {P : Program} {M : Mem} {H : Heap} {w : World} {a : AV} {x : Value} (h : VRel M a x) {t : TypeId} {f off : Nat} {fs : Array Field} {fl : Field} {sz : Option Nat}
    (hs : P.underlying t = some (.struct fs)) (hf : fs[f]? = some fl) (ho : fl.offset = off) (ht : SzP P fl.type sz)
    {p : Prop} {v : AV} (e : evK (.field off sz) H [a] = some (p, v)) (hp : p) : Gives P M w (Instr.field t x f) v := by
  cases a <;> (try (cases sz <;> simp only [evK, reduceCtorEq] at e; done))
  rename_i cs
  simp only [VRel] at h
  obtain ⟨xs, rfl, hr⟩ := h
  unfold Instr.field
  cases sz with
  | none =>
    simp only [evK] at e
    split at e
    · rename_i y hy
      cases e
      obtain ⟨u, hu, hr'⟩ := hr.get hy
      refine ⟨u, ?_, hr'⟩
      have hu' : xs[off]? = some u := by rw [← Array.getElem?_toList]; exact hu
      simp only [run_bind, run_underlying hs, hf, asAgg, run_pure, part, run_isAgg (szp_none ht), ho, hu', Bool.false_eq_true, if_false]
    · cases e
  | some k =>
    simp only [evK] at e
    split at e
    · rename_i hl
      cases e
      obtain ⟨ht, i, hi, hk⟩ := ht
      refine ⟨_, by simp only [run_bind, run_underlying hs, hf, asAgg, run_pure, part, run_isAgg ht, run_sizeOf hi, ho, if_true]; rfl, ?_⟩
      simp only [VRel]
      refine ⟨_, rfl, ?_⟩
      rw [Array.toList_extract, List.extract_eq_take_drop, show off + i.size - off = k by omega]
      exact (hr.drop off).take k
    · cases e
theorem idxS_sound {P : Program} {M : Mem} {H : Heap} {w : World} {a b : AV} {x y : Value} (h : VRel M a x) (k : VRel M b y) {t : TypeId} (ht : P.underlying t = some .string)
    {p : Prop} {v : AV} (e : evK .idxS H [a, b] = some (p, v)) (hp : p) : Gives P M w (Instr.index t x y) v := by
  cases a <;> cases b <;> simp only [evK, reduceCtorEq, Option.some.injEq, Prod.mk.injEq] at e
  obtain ⟨rfl, rfl⟩ := e
  rename_i s kk i
  rw [vr_str h, vr_int k]
  have hi : i.toNat < s.size := by omega
  have hi' : i.toNat < s.data.size := hi
  refine ⟨.int .u8 (s.data.toList.getD i.toNat 0).toNat, ?_, by simp only [VRel]⟩
  have e1 : s[i.toNat]? = some (s.data.toList.getD i.toNat 0) := by
    rw [getElem?_pos s i.toNat hi]
    congr 1
    show s.data[i.toNat] = _
    simp [List.getD_eq_getElem?_getD, Array.getElem?_eq_getElem hi']
  simp only [Instr.index, asIntOf, run_bind, run_pure, run_underlying ht, if_pos hp.1, e1]
theorem slcS_sound {P : Program} {M : Mem} {w : World} {s : ByteArray} {lo hi : Option Value} {l h : Int} (h1 : OptAt lo 0 l) (h2 : OptAt hi s.size h) {t : TypeId} (ht : P.underlying t = some .string)
    (k1 : 0 ≤ l) (k2 : l ≤ h) (k3 : h ≤ s.size) : Gives P M w (Instr.sliceAt t (.string s) lo hi none) (.str (s.extract l.toNat h.toNat)) := by
  have hb : (Instr.sliceBounds false s.size s.size lo hi none).run P w = .ok (l.toNat, h.toNat, s.size) w := by
    have := run_sliceBounds (P := P) (w := w) (b := false) (mx := none) (m := (s.size : Int)) h1 h2 (.inl ⟨rfl, rfl⟩) (.inl rfl) k1 k2 k3 (Int.le_refl _)
    simpa using this
  refine ⟨.string (s.extract l.toNat h.toNat), ?_, by simp only [VRel]⟩
  unfold Instr.sliceAt
  simp only [run_bind, run_underlying ht]
  unfold Instr.slice
  simp only [run_bind, run_underlying ht, hb, run_pure, Option.isSome, Bool.false_eq_true, if_false]
theorem ext_sound {P : Program} {M : Mem} {H : Heap} {w : World} {a : AV} {x : Value} (h : VRel M a x) {i : Nat} {p : Prop} {v : AV} (e : evK (.ext i) H [a] = some (p, v)) (hp : p) : Gives P M w (Instr.extract x i) v := by
  cases a <;> simp only [evK, reduceCtorEq] at e
  split at e
  · rename_i y hy
    cases e
    simp only [VRel] at h
    obtain ⟨xs, rfl, hr⟩ := h
    obtain ⟨u, hu, hr'⟩ := hr.get hy
    have hu' : xs[i]? = some u := by rw [← Array.getElem?_toList]; exact hu
    exact ⟨u, by simp only [Instr.extract, hu', run_pure], hr'⟩
  · cases e
def lenTy (P : Program) (t : TypeId) : Bool :=
  match P.underlying t with
  | some .string | some (.slice _) | some (.map _ _) => true
  | _ => false
theorem run_getObj {P : Program} {w : World} {b : Nat} {o : Obj} (h : w.heap[b]? = some o) (hc : ∀ c e f, o ≠ .cells c e f) : (getObj b).run P w = .ok o w := by
  simp only [getObj, Sem.run, h]
  all_goals (cases o <;> first | rfl | exact absurd rfl (hc _ _ _))
def LenTy (P : Program) (t : TypeId) : LT → Prop
  | .s => P.underlying t = some .string
  | .a => ∃ e, P.underlying t = some (.slice e)
  | .m => ∃ k e, P.underlying t = some (.map k e)
theorem len_sound {P : Program} {M : Mem} {H : Heap} {w : World} (r : Rel M H w) {a : AV} {x : Value} (h : VRel M a x) {t : TypeId} {ts : Array TypeId} {ty : TypeId} (hts : ts[0]? = some t) {c : LT} (ht : LenTy P t c)
    {p : Prop} {v : AV} (e : evK (.len c) H [a] = some (p, v)) (hp : p) : Gives P M w (Builtin.len_ ts ty #[x]) v := by
  cases c with
  | a =>
    obtain ⟨el, ht⟩ := ht
    have key : ∀ (A : Option Addr) (n c : Nat), x = .slice A n c → Gives P M w (Builtin.len_ ts ty #[x]) (.int .i64 n) := by
      intro A n c hx
      subst hx
      refine ⟨.int .i64 n, ?_, by simp only [VRel]⟩
      unfold Builtin.len_
      simp only [hts, List.getElem?_toArray, List.getElem?_cons_zero, run_bind, run_underlying ht]; rfl
    simp only [evK] at e
    split at e
    · cases e; exact key _ 0 0 (vr_nils h)
    · cases e
      simp only [VRel] at h
      obtain ⟨A, vs, k, hx, _⟩ := h
      exact key A _ k hx
    · cases e; exact key _ _ _ (vr_sl h)
    · cases e
  | s =>
    simp only [LenTy] at ht
    cases a <;> simp only [evK, reduceCtorEq, Option.some.injEq, Prod.mk.injEq] at e
    obtain ⟨_, rfl⟩ := e
    rw [vr_str h]
    refine ⟨_, ?_, rel_int _ _ _⟩
    unfold Builtin.len_
    simp only [hts, List.getElem?_toArray, List.getElem?_cons_zero, run_bind, run_underlying ht]; rfl
  | m =>
    obtain ⟨k, el, ht⟩ := ht
    simp only [evK] at e
    split at e
    · cases e
      rw [vr_nilm h]
      refine ⟨.int .i64 0, ?_, by simp only [VRel]⟩
      unfold Builtin.len_
      simp only [hts, List.getElem?_toArray, List.getElem?_cons_zero, run_bind, run_underlying ht]; rfl
    · split at e
      · rename_i es hb
        cases e
        rw [vr_mp h]
        obtain ⟨kb, hb, hkb⟩ := mapB_some hb
        obtain ⟨o, ho, hr⟩ := r.live _ _ hb
        replace hr := hr.mapB hkb
        simp only [BRel] at hr
        obtain ⟨xs, clock, rfl, _, h1, h2⟩ := hr
        have hl : es.length = xs.size := by have := h1.length; simpa using this
        refine ⟨.int .i64 es.length, ?_, by simp only [VRel]⟩
        unfold Builtin.len_
        simp only [hts, List.getElem?_toArray, List.getElem?_cons_zero, run_bind, run_underlying ht, run_getObj ho (fun _ _ _ => by simp), run_pure, goInt, hl]
      · cases e
    · cases e
theorem cap_sound {P : Program} {M : Mem} {H : Heap} {w : World} {a : AV} {x : Value} (h : VRel M a x) {t el : TypeId} {ts : Array TypeId} {ty : TypeId} (hts : ts[0]? = some t) (ht : P.underlying t = some (.slice el))
    {p : Prop} {v : AV} (e : evK .cap H [a] = some (p, v)) (hp : p) : Gives P M w (Builtin.cap_ ts ty #[x]) v := by
  have key : ∀ (A : Option Addr) (n c : Nat), x = .slice A n c → (Builtin.cap_ ts ty #[x]).run P w = .ok (.int .i64 c) w := by
    intro A n c hx
    subst hx
    unfold Builtin.cap_
    simp only [hts, List.getElem?_toArray, List.getElem?_cons_zero, run_bind, run_underlying ht, run_pure, goInt]
  simp only [evK] at e
  split at e
  · cases e; exact ⟨_, key _ _ _ (vr_nils h), by simp only [VRel]; rfl⟩
  · cases e; exact ⟨_, key _ _ _ (vr_sl h), by simp only [VRel]⟩
  · cases e
    simp only [VRel] at h
    obtain ⟨A, vs, k, h1, h2, _⟩ := h
    exact ⟨_, key _ _ _ h1, by simp only [VRel]; rw [h2 _ rfl]⟩
  · cases e
/-! ### Maps -/
def intT (P : Program) (t : TypeId) : Bool := match P.underlying t, P.info? t with
  | some (.int _), some i => i.size == 1
  | _, _ => false
/-- A struct of three whole numbers. -/
def key3 (P : Program) (t : TypeId) : Bool := decide (flat P 9 t = some [.i, .i, .i]) && match P.underlying t with
  | some (.struct fs) => match fs.toList with
    | [a, b, c] => a.name != "_" && b.name != "_" && c.name != "_" && a.offset == 0 && b.offset == 1 && c.offset == 2 && intT P a.type && intT P b.type && intT P c.type
    | _ => false
  | _ => false
def skT (P : Program) (t : TypeId) : Option SK :=
  match P.underlying t with
  | some (.int _) => some .i
  | some .string => some .s
  | some .bool => some .b
  | some (.struct _) => if key3 P t = true then some .k3 else none
  | _ => none
def SKd : TypeDesc → SK → Prop
  | .int _, .i | .string, .s | .bool, .b => True
  | _, _ => False
theorem skT_spec {P : Program} {t : TypeId} {sk : SK} (h : skT P t = some sk) : (∃ d, P.underlying t = some d ∧ SKd d sk) ∨ (sk = .k3 ∧ key3 P t = true) := by
  unfold skT at h
  split at h
  · rename_i hu; cases h; exact .inl ⟨_, hu, trivial⟩
  · rename_i hu; cases h; exact .inl ⟨_, hu, trivial⟩
  · rename_i hu; cases h; exact .inl ⟨_, hu, trivial⟩
  · split at h
    · rename_i h3; cases h; exact .inr ⟨rfl, h3⟩
    · cases h
  · cases h
theorem intT_spec {P : Program} {t : TypeId} (h : intT P t = true) : ∃ k i, P.underlying t = some (.int k) ∧ P.info? t = some i ∧ i.size = 1 := by
  unfold intT at h
  split at h
  · rename_i k i hu hi; exact ⟨k, i, hu, hi, by simpa using h⟩
  · cases h
theorem key3_spec {P : Program} {t : TypeId} (h : key3 P t = true) : flat P 9 t = some [.i, .i, .i] ∧ ∃ fs a b c, P.underlying t = some (.struct fs) ∧ fs.toList = [a, b, c] ∧ a.name ≠ "_" ∧ b.name ≠ "_" ∧ c.name ≠ "_" ∧ a.offset = 0 ∧ b.offset = 1 ∧ c.offset = 2 ∧ intT P a.type = true ∧ intT P b.type = true ∧ intT P c.type = true := by
  unfold key3 at h
  rw [Bool.and_eq_true, decide_eq_true_eq] at h
  refine ⟨h.1, ?_⟩
  have h2 := h.2
  split at h2
  · rename_i fs hu
    split at h2
    · rename_i a b c hl
      simp only [Bool.and_eq_true, bne_iff_ne, ne_eq, beq_iff_eq] at h2
      obtain ⟨⟨⟨⟨⟨⟨⟨⟨q1, q2⟩, q3⟩, q4⟩, q5⟩, q6⟩, q7⟩, q8⟩, q9⟩ := h2
      exact ⟨fs, a, b, c, hu, hl, q1, q2, q3, q4, q5, q6, q7, q8, q9⟩
    · cases h2
  · cases h2
theorem scal_form {a b : AV} {r : Bool} (h : scalEq .k3 a b = some r) : ∃ i1 i2 i3 a1 a2 a3 b1 b2 b3, a = .agg [.int i1 a1, .int i2 a2, .int i3 a3] ∧ b = .agg [.int i1 b1, .int i2 b2, .int i3 b3] ∧ r = (decide (a1 = b1) && (decide (a2 = b2) && decide (a3 = b3))) := by
  unfold scalEq at h
  split at h <;> rename_i heq <;> try (cases heq)
  · split at h
    · rename_i hk
      obtain ⟨rfl, rfl, rfl⟩ := hk
      cases h
      exact ⟨_, _, _, _, _, _, _, _, _, rfl, rfl, rfl⟩
    · cases h
  · cases h
theorem scal_ok {sk : SK} {a b : AV} {r : Bool} (h : scalEq sk a b = some r) : keyOK sk a = true := by
  cases sk with
  | k3 =>
    obtain ⟨_, _, _, _, _, _, _, _, _, rfl, _, _⟩ := scal_form h
    rfl
  | b => rfl
  | i => rfl
  | s => rfl
theorem findI_ok {sk : SK} {k : AV} {r : Option Nat} : ∀ {es : List (AV × AV)}, findI sk k es = some r → keyOK sk k = true
  | [], h => by
    simp only [findI] at h
    split at h
    · assumption
    · cases h
  | e :: es, h => by
    simp only [findI] at h
    split at h
    · rename_i hs; exact scal_ok hs
    · rename_i hs; exact scal_ok hs
    · cases h
theorem keyOK3 {k : AV} (h : keyOK .k3 k = true) : ∃ i1 i2 i3 a1 a2 a3, k = .agg [.int i1 a1, .int i2 a2, .int i3 a3] := by
  unfold keyOK at h
  split at h
  · exact ⟨_, _, _, _, _, _, rfl⟩
  · cases h
  · exfalso; simp_all
theorem agg3 {M : Mem} {i1 i2 i3 : IntKind} {a1 a2 a3 : Int} {x : Value} (h : VRel M (.agg [.int i1 a1, .int i2 a2, .int i3 a3]) x) : x = .agg #[.int i1 a1, .int i2 a2, .int i3 a3] := by
  simp only [VRel] at h
  obtain ⟨xs, rfl, h⟩ := h
  simp only [VRels] at h
  obtain ⟨_, _, e1, rfl, _, _, rfl, rfl, _, _, rfl, rfl, rfl⟩ := h
  congr 1
  exact Array.toList_inj.1 (by rw [e1])
theorem scal_now {M : Mem} {sk : SK} {d : TypeDesc} (hd : SKd d sk) {a b : AV} {x y : Value} (ha : VRel M a x) (hb : VRel M b y) {r : Bool} (h : scalEq sk a b = some r) : Instr.sameNow d x y = some r := by
  cases sk with
  | k3 => cases d <;> exact hd.elim
  | i =>
    unfold scalEq at h
    split at h <;> rename_i heq <;> try (cases heq)
    · split at h
      · rename_i hk
        cases h; subst hk
        rw [vr_int ha, vr_int hb]
        cases d <;> simp only [SKd] at hd
        simp only [Instr.sameNow, if_true]
        rfl
      · cases h
    · cases h
  | b =>
    unfold scalEq at h
    split at h <;> rename_i heq <;> try (cases heq)
    · cases h
      rw [vr_bool ha, vr_bool hb]
      cases d <;> simp only [SKd] at hd
      simp only [Instr.sameNow]; rfl
    · cases h
  | s =>
    unfold scalEq at h
    split at h <;> rename_i heq <;> try (cases heq)
    · cases h
      rw [vr_str ha, vr_str hb]
      cases d <;> simp only [SKd] at hd
      simp only [Instr.sameNow, Option.some.injEq]
      rw [beq_toListBytes, ba_eq]
    · cases h
theorem find_now {M : Mem} {sk : SK} {d : TypeDesc} (hd : SKd d sk) {k : AV} {x : Value} (hk : VRel M k x) : ∀ (es : List (AV × AV)) (xs : List MapEntry) (i : Nat) {r : Option Nat}, VRels M (es.map (·.1)) (xs.map (·.key)) → findI sk k es = some r →
    Instr.findNow d x xs i = some (r.bind fun j => (xs[j]?).map fun e => (i + j, e.val))
  | [], xs, i, r, h, e => by
    simp only [List.map_nil, VRels, List.map_eq_nil_iff] at h; subst h
    simp only [findI] at e
    split at e
    · cases e; rfl
    · cases e
  | e0 :: es, [], i, r, h, e => by have := h.length; simp at this
  | e0 :: es, x0 :: xs, i, r, h, e => by
    simp only [List.map_cons, VRels] at h
    obtain ⟨_, _, h1, h2, h3⟩ := h
    cases h1
    simp only [findI] at e
    split at e
    · rename_i hs
      cases e
      simp only [Instr.findNow, scal_now hd hk h2 hs]
      simp
    · rename_i hs
      simp only [Instr.findNow, scal_now hd hk h2 hs]
      split at e
      · rename_i r' hr'
        cases e
        rw [find_now hd hk es xs (i + 1) h3 hr']
        cases r' with
        | none => rfl
        | some j => simp [show i + 1 + j = i + (j + 1) by omega]
      · cases e
    · cases e
theorem findI_lt {sk : SK} {k : AV} : ∀ {es : List (AV × AV)} {j : Nat}, findI sk k es = some (some j) → j < es.length
  | [], j, h => by
    simp only [findI] at h
    split at h <;> cases h
  | e :: es, j, h => by
    simp only [findI] at h
    split at h
    · cases h; simp
    · split at h
      · rename_i r hr
        cases r with
        | none => simp at h
        | some j' => simp at h; subst h; have := findI_lt hr; simp; omega
      · cases h
    · cases h
theorem run_checkInt {P : Program} {t : TypeId} {k : IntKind} (hu : P.underlying t = some (.int k)) (e : Bool) (n : Nat) (x : Value) (w : World) : (Instr.checkKey e (n + 1) t x).run P w = .ok () w := by
  unfold Instr.checkKey
  rw [run_bind, run_underlying hu]
  rfl
theorem run_part1 {P : Program} {w : World} {t : TypeId} (h : intT P t = true) {X : Array Value} {pre post : List Value} {x : Value} (hX : X.toList = pre ++ [x] ++ post) : (part t X pre.length).run P w = .ok x w := by
  obtain ⟨k, i, hu, hi, hs⟩ := intT_spec h
  have hg : aggT P t = some false := by unfold aggT; rw [hu]
  exact run_part hg hi hs (fun _ => rfl) (pre := pre) (mid := [x]) (post := post) rfl X hX
theorem run_checkKey {P : Program} {M : Mem} {sk : SK} {t : TypeId} (hs : skT P t = some sk) {k : AV} {x : Value} (hk : VRel M k x) (hok : keyOK sk k = true) (e : Bool) (w : World) : (Instr.checkKey e 10000 t x).run P w = .ok () w := by
  rcases skT_spec hs with ⟨d, hu, hd⟩ | ⟨rfl, h3⟩
  · unfold Instr.checkKey
    rw [run_bind, run_underlying hu]
    cases d <;> simp only [SKd] at hd <;> rfl
  · obtain ⟨i1, i2, i3, a1, a2, a3, rfl⟩ := keyOK3 hok
    have hx := agg3 hk
    subst hx
    obtain ⟨_, fs, a, b, c, hu, hl, q1, q2, q3, q4, q5, q6, q7, q8, q9⟩ := key3_spec h3
    obtain ⟨_, _, u1, _, _⟩ := intT_spec q7
    obtain ⟨_, _, u2, _, _⟩ := intT_spec q8
    obtain ⟨_, _, u3, _, _⟩ := intT_spec q9
    have p1 : ∀ w, (part a.type #[.int i1 a1, .int i2 a2, .int i3 a3] a.offset).run P w = .ok (.int i1 a1) w := fun w => by
      rw [q4]; exact run_part1 q7 (pre := []) (post := [.int i2 a2, .int i3 a3]) rfl
    have p2 : ∀ w, (part b.type #[.int i1 a1, .int i2 a2, .int i3 a3] b.offset).run P w = .ok (.int i2 a2) w := fun w => by
      rw [q5]; exact run_part1 q8 (pre := [.int i1 a1]) (post := [.int i3 a3]) rfl
    have p3 : ∀ w, (part c.type #[.int i1 a1, .int i2 a2, .int i3 a3] c.offset).run P w = .ok (.int i3 a3) w := fun w => by
      rw [q6]; exact run_part1 q9 (pre := [.int i1 a1, .int i2 a2]) (post := []) rfl
    have c1 := fun x w => run_checkInt (P := P) u1 e 9998 x w
    have c2 := fun x w => run_checkInt (P := P) u2 e 9998 x w
    have c3 := fun x w => run_checkInt (P := P) u3 e 9998 x w
    rw [show (10000 : Nat) = 9999 + 1 from rfl, Instr.checkKey]
    simp only [run_bind, run_underlying hu]
    rw [← Array.forIn_toList, hl]
    simp only [List.forIn_cons, List.forIn_nil, run_bind, q1, q2, q3, ne_eq, not_false_eq_true, if_true, p1, p2, p3, c1, c2, c3, run_pure]
theorem run_key3 {P : Program} {M : Mem} {t : TypeId} (h3 : key3 P t = true) {a b : AV} {x y : Value} (ha : VRel M a x) (hb : VRel M b y) {r : Bool} (h : scalEq .k3 a b = some r) (w : World) : (Op.equal t x y).run P w = .ok r w := by
  obtain ⟨i1, i2, i3, a1, a2, a3, b1, b2, b3, rfl, rfl, rfl⟩ := scal_form h
  have hx := agg3 ha
  have hy := agg3 hb
  subst hx; subst hy
  obtain ⟨hf, fs, _, _, _, hu, _⟩ := key3_spec h3
  have hg : aggT P t = some true := by unfold aggT; rw [hu]
  have := flat_sound (M := M) 9 Op.maxDepth t _ hf (by decide) w true hg [.int i1 a1, .int i2 a2, .int i3 a3] [.int i1 b1, .int i2 b2, .int i3 b3] (decide (a1 = b1) && (decide (a2 = b2) && decide (a3 = b3))) (by simp [flatEq, scalEq])
    [.int i1 a1, .int i2 a2, .int i3 a3] [.int i1 b1, .int i2 b2, .int i3 b3] (.cons (rel_int M i1 a1) (.cons (rel_int M i2 a2) (.cons (rel_int M i3 a3) .nil))) (.cons (rel_int M i1 b1) (.cons (rel_int M i2 b2) (.cons (rel_int M i3 b3) .nil)))
  exact this
theorem find_ask {P : Program} {M : Mem} {t : TypeId} (h3 : key3 P t = true) {k : AV} {x : Value} (hk : VRel M k x) (w : World) : ∀ (es : List (AV × AV)) (xs : List MapEntry) (i : Nat) {r : Option Nat}, VRels M (es.map (·.1)) (xs.map (·.key)) → findI .k3 k es = some r →
    (Instr.findAsking t x xs i).run P w = .ok (r.bind fun j => (xs[j]?).map fun e => (i + j, e.val)) w
  | [], xs, i, r, h, e => by
    simp only [List.map_nil, VRels, List.map_eq_nil_iff] at h; subst h
    simp only [findI] at e
    split at e
    · cases e; rfl
    · cases e
  | e0 :: es, [], i, r, h, e => by have := h.length; simp at this
  | e0 :: es, x0 :: xs, i, r, h, e => by
    simp only [List.map_cons, VRels] at h
    obtain ⟨_, _, h1, h2, h3'⟩ := h
    cases h1
    simp only [findI] at e
    split at e
    · rename_i hs
      cases e
      simp only [Instr.findAsking, run_bind, run_key3 h3 hk h2 hs w, if_true, run_pure]
      simp
    · rename_i hs
      simp only [Instr.findAsking, run_bind, run_key3 h3 hk h2 hs w, Bool.false_eq_true, if_false]
      split at e
      · rename_i r' hr'
        cases e
        rw [find_ask h3 hk w es xs (i + 1) h3' hr']
        cases r' with
        | none => rfl
        | some j => simp [show i + 1 + j = i + (j + 1) by omega]
      · cases e
    · cases e
theorem run_findKey {P : Program} {M : Mem} {sk : SK} {t : TypeId} (hs : skT P t = some sk) {k : AV} {x : Value} (hk : VRel M k x) {es : List (AV × AV)} {xs : List MapEntry} {r : Option Nat}
    (h : VRels M (es.map (·.1)) (xs.map (·.key))) (e : findI sk k es = some r) (w : World) : (Instr.findKey t x xs).run P w = .ok (r.bind fun j => (xs[j]?).map fun e => (j, e.val)) w := by
  rcases skT_spec hs with ⟨d, hu, hd⟩ | ⟨rfl, h3⟩
  · unfold Instr.findKey
    rw [run_bind, run_underlying hu]
    simp only [find_now hd hk es xs 0 h e, Nat.zero_add, run_pure]
  · obtain ⟨_, fs, _, _, _, hu, _⟩ := key3_spec h3
    rw [run_findKey_eq w (by rw [hu])]
    have := find_ask h3 hk w es xs 0 h e
    simpa only [Nat.zero_add] using this
theorem run_getMap {P : Program} {w : World} {b : Nat} {xs : Array MapEntry} {clock : Nat} (h : w.heap[b]? = some (.map xs clock)) : (getObj b).run P w = .ok (.map xs clock) w := by
  simp only [getObj, Sem.run, h]
theorem lkp_sound {P : Program} {M : Mem} {H : Heap} {w : World} (r : Rel M H w) {m k : AV} {x y : Value} (hm : VRel M m x) (hk : VRel M k y) {t kt et : TypeId} {sk : SK} {ok : Bool} {z : Value} (ht : P.underlying t = some (.map kt et)) (hs : skT P kt = some sk)
    {i : TypeInfo} (hi : P.info? et = some i) (hz : i.zero = some z) {p : Prop} {v : AV} (e : evK (.lkp sk ok (ofValue z)) H [m, k] = some (p, v)) (hp : p) : Gives P M w (Instr.lookup t x y ok) v := by
  simp only [evK] at e
  split at e
  · rename_i es hes
    split at e
    · rename_i rr hrr
      cases e
      have key : ∃ xs : Array MapEntry, VRels M (es.map (·.1)) (xs.toList.map (·.key)) ∧ VRels M (es.map (·.2)) (xs.toList.map (·.val)) ∧
          ((x = .map none ∧ xs = #[]) ∨ ∃ b clock, x = .map (some b) ∧ w.heap[b]? = some (.map xs clock)) := by
        unfold mapOf at hes
        split at hes
        · cases hes
          simp only [VRel] at hm; subst hm
          exact ⟨#[], by simp [VRels], by simp [VRels], .inl ⟨rfl, rfl⟩⟩
        · rename_i b
          obtain ⟨kb, hb, hkb⟩ := mapB_some hes
          simp only [VRel] at hm; subst hm
          obtain ⟨o, ho, hrel⟩ := r.live _ _ hb
          replace hrel := hrel.mapB hkb
          simp only [BRel] at hrel
          obtain ⟨xs, clock, rfl, _, h1, h2⟩ := hrel
          exact ⟨xs, h1, h2, .inr ⟨b, clock, rfl, ho⟩⟩
        · cases hes
      obtain ⟨xs, h1, h2, h3⟩ := key
      have hl := h2.length
      simp only [List.length_map] at hl
      refine ⟨if ok then .tuple #[(match rr.bind (xs.toList[·]?) with | some e => e.val | none => z), .bool rr.isSome] else (match rr.bind (xs.toList[·]?) with | some e => e.val | none => z), ?_, ?_⟩
      · have hfk := run_findKey (P := P) hs hk h1 hrr w
        unfold Instr.lookup
        rcases h3 with ⟨rfl, rfl⟩ | ⟨b, clock, rfl, hb⟩
        · cases rr with
          | none =>
            simp only [Option.bind_none] at hfk
            simp only [run_bind, run_underlying ht, run_pure, run_checkKey hs hk (findI_ok hrr), hfk, run_zeroValue hi hz, Option.bind_none]; rfl
          | some j =>
            have hj : j < (#[] : Array MapEntry).toList.length := by rw [← hl]; exact findI_lt hrr
            simp at hj
        · cases rr with
          | none =>
            simp only [Option.bind_none] at hfk
            simp only [run_bind, run_underlying ht, run_getMap hb, run_pure, run_checkKey hs hk (findI_ok hrr), hfk, run_zeroValue hi hz, Option.bind_none]; rfl
          | some j =>
            have hj : j < xs.toList.length := by rw [← hl]; exact findI_lt hrr
            simp only [Option.bind_some, List.getElem?_eq_getElem hj, Option.map_some] at hfk
            simp only [run_bind, run_underlying ht, run_getMap hb, run_pure, run_checkKey hs hk (findI_ok hrr), hfk, Option.bind_some, List.getElem?_eq_getElem hj]; rfl
      · have hv : VRel M (match rr.bind (es[·]?) with | some e => e.2 | none => ofValue z) (match rr.bind (xs.toList[·]?) with | some e => e.val | none => z) := by
          cases rr with
          | none => exact ofValue_rel M z
          | some j =>
            have hj' := findI_lt hrr
            have hj : j < xs.toList.length := by rw [← hl]; exact hj'
            simp only [Option.bind_some, List.getElem?_eq_getElem hj, List.getElem?_eq_getElem hj']
            have := h2.get (i := j) (a := es[j].2) (by simp [List.getElem?_eq_getElem hj'])
            obtain ⟨u, hu1, hu2⟩ := this
            rw [List.getElem?_map, List.getElem?_eq_getElem hj] at hu1
            simp only [Option.map_some, Option.some.injEq] at hu1
            rw [← hu1] at hu2; exact hu2
        unfold lkpV
        cases ok with
        | true =>
          simp only [if_true, VRel]
          exact ⟨_, rfl, .cons hv (.cons (rel_bool _ _) .nil)⟩
        | false => simp only [Bool.false_eq_true, if_false]; exact hv
    · cases e
  · cases e
end Go.Sf

end
section
/- The framework's operations that look alone: structs that are built, the least of numbers; the translation of all of them, and that it is right. -/
set_option linter.unusedVariables false
set_option linter.unusedSimpArgs false
namespace Go.Sf

theorem min_sound {P : Program} {M : Mem} {H : Heap} {w : World} {as : List AV} {xs : List Value} (h : VRels M as xs) {ts : Array TypeId} {ty : TypeId} {p : Prop} {v : AV} (e : evK .min H as = some (p, v)) (hp : p) :
    Gives P M w (Builtin.min_ ts ty xs.toArray) v := by
  match as, e with
  | [.int k a, .int k2 b], e =>
    simp only [evK, Option.some.injEq, Prod.mk.injEq] at e
    obtain ⟨_, rfl⟩ := e
    simp only [VRels, VRel] at h
    obtain ⟨_, _, rfl, rfl, _, _, rfl, rfl, rfl⟩ := h
    exact ⟨_, rfl, rel_int _ _ _⟩
  | [.int k a, .int k2 b, .int k3 c], e =>
    simp only [evK, Option.some.injEq, Prod.mk.injEq] at e
    obtain ⟨_, rfl⟩ := e
    simp only [VRels, VRel] at h
    obtain ⟨_, _, rfl, rfl, _, _, rfl, rfl, _, _, rfl, rfl, rfl⟩ := h
    exact ⟨_, rfl, rel_int _ _ _⟩
  | [.int k a], e => simp [evK] at e
  | .int k a :: .int k2 b :: .int k3 c :: d :: r, e => simp [evK] at e
theorem max_sound {P : Program} {M : Mem} {H : Heap} {w : World} {as : List AV} {xs : List Value} (h : VRels M as xs) {ts : Array TypeId} {ty : TypeId} {p : Prop} {v : AV} (e : evK .max H as = some (p, v)) (hp : p) :
    Gives P M w (Builtin.max_ ts ty xs.toArray) v := by
  match as, e with
  | [.int k a, .int k2 b], e =>
    simp only [evK, Option.some.injEq, Prod.mk.injEq] at e
    obtain ⟨_, rfl⟩ := e
    simp only [VRels, VRel] at h
    obtain ⟨_, _, rfl, rfl, _, _, rfl, rfl, rfl⟩ := h
    exact ⟨_, rfl, rel_int _ _ _⟩

/-! ### Built structs -/
theorem known_cells {M : Mem} {v : AV} {x : Value} (h : VRel M v x) (hk : v.known = true) : VRels M v.cellsL x.cells.toList := by
  cases v <;> simp only [AV.known, reduceCtorEq] at hk
  case agg cs => simp only [VRel] at h; obtain ⟨xs, rfl, hr⟩ := h; exact hr
  case iptr cs i => simp only [VRel] at h; obtain ⟨b, o, vs, rfl, h1, h2⟩ := h; exact .cons (by simp only [VRel]; exact ⟨b, o, vs, rfl, h1, h2⟩) .nil
  case imm cs n c => simp only [VRel] at h; obtain ⟨A, vs, k, rfl, h1⟩ := h; exact .cons (by simp only [VRel]; exact ⟨A, vs, k, rfl, h1⟩) .nil
  case emp => simp only [VRel] at h; obtain ⟨a, k, rfl⟩ := h; exact .cons (by simp only [VRel]; exact ⟨a, k, rfl⟩) .nil
  case fn f a b => simp only [VRel] at h; obtain ⟨xs, ys, rfl, h1⟩ := h; exact .cons (by simp only [VRel]; exact ⟨xs, ys, rfl, h1⟩) .nil
  all_goals (simp only [VRel] at h; subst h; exact .cons (by simp only [VRel]) .nil)
theorem foldl_fill (l : List Value) : ∀ (k off : Nat) (cs : Array Value), off + k + l.length ≤ cs.size →
    ((l.zipIdx k).foldl (fun cs (c, j) => cs.setIfInBounds (off + j) c) cs).toList = cs.toList.take (off + k) ++ l ++ cs.toList.drop (off + k + l.length) := by
  induction l with
  | nil => intro k off cs h; simp
  | cons x l ih =>
    intro k off cs h
    simp only [List.zipIdx_cons, List.foldl_cons]
    rw [ih (k + 1) off _ (by simp at h ⊢; omega)]
    simp only [List.length_cons] at h ⊢
    rw [Array.toList_setIfInBounds]
    have hlt : off + k < cs.toList.length := by simp; omega
    rw [show off + (k + 1) = off + k + 1 by omega, List.take_add_one, List.take_set_of_le (Nat.le_refl _), List.getElem?_set_self hlt, List.drop_set_of_lt (by omega)]
    simp only [Option.toList_some, List.append_assoc, List.singleton_append, List.cons_append, List.nil_append]
    rw [show off + k + 1 + l.length = off + k + (l.length + 1) by omega]
theorem fill_sound {M : Mem} {place : Nat → Option (Nat × Nat)} : ∀ (idx : List Nat) (ps : List (Nat × Nat)) (vs : List AV) (xs : List Value) (zero : List AV) (zs : Array Value) (cs : List AV),
    idx.map place = ps.map some → VRels M vs xs → vs.all AV.known = true → VRels M zero zs.toList → fillC zero ps vs = some cs → ∃ ys, Instr.fill place zs (idx.zip xs) = some ys ∧ VRels M cs ys.toList
  | [], [], [], xs, zero, zs, cs, h1, h2, h3, h4, e => by
    simp only [fillC, Option.some.injEq] at e; subst e
    exact ⟨zs, by simp [Instr.fill], h4⟩
  | [], [], v :: vs, xs, zero, zs, cs, h1, h2, h3, h4, e => by simp [fillC] at e
  | [], p :: ps, vs, xs, zero, zs, cs, h1, h2, h3, h4, e => by simp at h1
  | i :: idx, [], vs, xs, zero, zs, cs, h1, h2, h3, h4, e => by simp at h1
  | i :: idx, (off, sz) :: ps, [], xs, zero, zs, cs, h1, h2, h3, h4, e => by simp [fillC] at e
  | i :: idx, (off, sz) :: ps, v :: vs, xs, zero, zs, cs, h1, h2, h3, h4, e => by
    simp only [List.map_cons, List.cons.injEq] at h1
    simp only [VRels] at h2
    obtain ⟨x, xs', rfl, hx, hxs⟩ := h2
    simp only [List.all_cons, Bool.and_eq_true] at h3
    have hc := known_cells hx h3.1
    simp only [fillC] at e
    split at e
    · rename_i hcond
      have hl := hc.length
      have hz := h4.length
      have hxsz : x.cells.size = sz := by rw [← hcond.1, hl]; simp
      have hzs : off + sz ≤ zs.size := by have := hcond.2; simp at hz; omega
      have hf := foldl_fill x.cells.toList 0 off zs (by simp [hxsz]; omega)
      simp only [Nat.add_zero] at hf
      obtain ⟨ys, k1, k2⟩ := fill_sound idx ps vs xs' _ ((x.cells.toList.zipIdx 0).foldl (fun cs (c, j) => cs.setIfInBounds (off + j) c) zs) cs h1.2 hxs h3.2 (by
        rw [hf]
        refine VRels.append (VRels.append (h4.take off) hc) ?_
        have : x.cells.toList.length = sz := by simp [hxsz]
        rw [this]
        exact h4.drop (off + sz)) e
      refine ⟨ys, ?_, k2⟩
      simp only [List.zip_cons_cons, Instr.fill, h1.1, hxsz]
      rw [if_neg (by simp; omega)]
      rw [← k1]
      congr 1
      rw [← Array.foldl_toList, Array.toList_zipIdx]
    · cases e
end Go.Sf

end
section
/- The translation of the operations that look alone, and that it is right. -/
set_option linter.unusedVariables false
set_option linter.unusedSimpArgs false
namespace Go.Sf

def szT (P : Program) (t : TypeId) : Option (Option Nat) :=
  match aggT P t with
  | some false => some none
  | some true => (P.info? t).map fun i => some i.size
  | none => none
def sizeT (P : Program) (t : TypeId) : Option Nat := (P.info? t).map (·.size)
def trBin (P : Program) (op : BinOp) (t : TypeId) : Option PK :=
  if op = .eql ∨ op = .neq then
    match P.underlying t with
    | some (.int _) | some .string => some (.bin op)
    | some .bool => some (.eq (op == .neq) .bool)
    | some (.pointer e) => if (P.info? e).isSome then some (.eq (op == .neq) .ptr) else none
    | some (.slice _) => some (.eq (op == .neq) .slice)
    | some (.map _ _) => some (.eq (op == .neq) .map)
    | some (.func _ _ _) => some (.eq (op == .neq) .func)
    | some (.struct _) => match flat P 1000 t with
      | some ks => if P.eqGuardType P.depth t then none else some (.eq (op == .neq) (.flat ks))
      | none => none
    | _ => none
  else some (.bin op)
def trCvt (P : Program) (src dst : TypeId) : Option PK :=
  match P.underlying src, P.underlying dst with
  | some (.int _), some (.int k) => some (.cvt k)
  | some .string, some .string => some .cvtS
  | some (.slice e), some .string => match P.underlying e with
    | some (.int .u8) => some .b2s
    | _ => none
  | _, _ => none
def trBuild (P : Program) (t : TypeId) (idx : List Nat) : Option PK :=
  match P.underlying t, P.info? t with
  | some (.struct fs), some i => match i.zero with
    | some z => match fs.toList.mapM (fun f => (sizeT P f.type).map fun s => (f.offset, s)) with
      | some places => match idx.mapM (fun i => places[i]?) with
        | some ps => some (.build (z.cells.toList.map ofCell) ps)
        | none => none
      | none => none
    | none => none
  | _, _ => none
def trLen (P : Program) (t : TypeId) : Option LT :=
  match P.underlying t with
  | some .string => some .s
  | some (.slice _) => some .a
  | some (.map _ _) => some .m
  | _ => none
def trK (P : Program) (o : Op) : Option (PK × List Operand) :=
  match o with
  | .move x | .assign x => some (.mv, [x])
  | .load t a => (szT P t).map fun sz => (.load sz, [a])
  | .nilCheck x => some (.nilc, [x])
  | .binOp op t x y _ => (trBin P op t).map fun k => (k, [x, y])
  | .unOp op _ x => some (.un op, [x])
  | .convert src dst x => (trCvt P src dst).map fun k => (k, [x])
  | .makeFunc fn first captured => some (.mkfn fn first.size, first.toList ++ captured.toList)
  | .slice t x lo hi mx => match P.underlying t with
    | some (.slice e) => if mx.isSome ∧ hi.isNone then none else (sizeT P e).map fun s => (.slc s lo.isSome hi.isSome mx.isSome, x :: (lo.toList ++ hi.toList ++ mx.toList))
    | some .string => if mx.isSome then none else some (.slcS lo.isSome hi.isSome, x :: (lo.toList ++ hi.toList))
    | _ => none
  | .fieldAddr s x f => match P.underlying s with
    | some (.struct fs) => match fs[f]? with
      | some fl => match sizeT P fl.type with
        | some (k + 1) => some (.faddr fl.offset, [x])
        | _ => none
      | none => none
    | _ => none
  | .field s x f => match P.underlying s with
    | some (.struct fs) => match fs[f]? with
      | some fl => (szT P fl.type).map fun sz => (.field fl.offset sz, [x])
      | none => none
    | _ => none
  | .indexAddr t x i => match P.underlying t with
    | some (.slice e) => (sizeT P e).map fun s => (.iaddr s, [x, i])
    | some (.array n e) => (sizeT P e).map fun s => (.iarr n s, [x, i])
    | _ => none
  | .index t x i => match P.underlying t with
    | some .string => some (.idxS, [x, i])
    | _ => none
  | .extract x i => some (.ext i, [x])
  | .lookup t m k ok => match P.underlying t with
    | some (.map kt et) => match skT P kt, (P.info? et).bind (·.zero) with
      | some sk, some z => some (.lkp sk ok (ofValue z), [m, k])
      | _, _ => none
    | _ => none
  | .build t parts => (trBuild P t (parts.toList.map (·.1))).map fun k => (k, parts.toList.map (·.2))
  | .call { callee := .builtin .len, args, argTypes } => match args.toList, argTypes[0]? with
    | [x], some t => (trLen P t).map fun c => (.len c, [x])
    | _, _ => none
  | .call { callee := .builtin .cap, args, argTypes } => match args.toList, argTypes[0]? with
    | [x], some t => match P.underlying t with
      | some (.slice _) => some (.cap, [x])
      | _ => none
    | _, _ => none
  | .call { callee := .builtin .min, args, .. } => some (.min, args.toList)
  | .call { callee := .builtin .max, args, .. } => some (.max, args.toList)
  | _ => none
def trP (P : Program) (n : Nat) (o : Op) : Option COp :=
  match o with
  | .pick c a b => match trX n c, trX n a, trX n b with
    | some c, some a, some b => some (.pick c a b)
    | _, _, _ => none
  | o => match trK P o with
    | some (k, xs) => (trXs n xs).map (.p k)
    | none => none

/-- A computation that looks alone, as an operation carries it out. -/
def GivesOp (P : Program) (M : Mem) (w : World) (s : Sem Next) (v : AV) : Prop := ∃ x, s.run P w = .ok (.value x) w ∧ VRel M v x
theorem Gives.op {P : Program} {M : Mem} {w : World} {s : Sem Value} {v : AV} (h : Gives P M w s v) : GivesOp P M w (do pure (.value (← s))) v := by
  obtain ⟨x, h1, h2⟩ := h
  exact ⟨x, by rw [run_bind, h1]; rfl, h2⟩
theorem szT_spec {P : Program} {t : TypeId} {sz : Option Nat} (h : szT P t = some sz) : SzP P t sz := by
  unfold szT at h
  split at h
  · rename_i e; cases h; exact e
  · rename_i e
    cases hi : P.info? t with
    | none => simp [hi] at h
    | some i => simp [hi] at h; subst h; exact ⟨e, i, hi, rfl⟩
  · cases h
theorem sizeT_spec {P : Program} {t : TypeId} {k : Nat} (h : sizeT P t = some k) : ∃ i, P.info? t = some i ∧ i.size = k := by
  unfold sizeT at h
  cases hi : P.info? t with
  | none => simp [hi] at h
  | some i => simp [hi] at h; exact ⟨i, rfl, h⟩
theorem bin_step {P : Program} {M : Mem} {w : World} {op : BinOp} {t : TypeId} {x y : Operand} {a b : Value} {v : AV} (hg : (eqGuard op t x y a b).run P w = .ok () w) (h : Gives P M w (binOp op t a b) v) :
    Gives P M w (do eqGuard op t x y a b; binOp op t a b) v := by
  obtain ⟨u, h1, h2⟩ := h
  exact ⟨u, by rw [run_bind, hg]; exact h1, h2⟩
theorem trBin_sound {P : Program} {M : Mem} {H : Heap} {w : World} {op : BinOp} {t : TypeId} {k : PK} (e : trBin P op t = some k) {a b : AV} {x y : Value} (hx : VRel M a x) (hy : VRel M b y) (ox oy : Operand)
    {p : Prop} {v : AV} (ev : evK k H [a, b] = some (p, v)) (hp : p) : Gives P M w (do eqGuard op t ox oy x y; binOp op t x y) v := by
  have hbin : k = .bin op → Gives P M w (do eqGuard op t ox oy x y; binOp op t x y) v := by
    rintro rfl
    simp only [evK] at ev
    have ha : (∃ k n, a = .int k n) ∨ (∃ b, a = .bool b) ∨ (∃ s, a = .str s) := by
      unfold binV at ev
      split at ev
      · exact .inl ⟨_, _, rfl⟩
      · exact .inr (.inr ⟨_, rfl⟩)
      · cases ev
    obtain ⟨h1, h2⟩ := vr_ne_nilIface hx ha
    exact bin_step (eqGuard_ok op t ox oy h1 fun ⟨xs, h⟩ => absurd h (h2 xs)) (binV_sound hx hy ev hp t)
  have heq : ∀ c, (op = .eql ∨ op = .neq) → k = .eq (op == .neq) c → EqTy P t c → (∀ ks, c = .flat ks → P.eqGuardType P.depth t = false) → Gives P M w (do eqGuard op t ox oy x y; binOp op t x y) v := by
    rintro c hop rfl ht hfl
    simp only [evK] at ev
    split at ev
    · rename_i r hr
      cases ev
      have hrun := eqV_sound (w := w) hx hy ht hr
      have hne : x ≠ .nilIface ∧ ((∃ xs, x = .agg xs) → P.eqGuardType P.depth t = false) ∧ (∀ k n, x ≠ .int k n) ∧ (∀ s, x ≠ .string s) ∧ (∀ k n, x ≠ .float k n) ∧ (∀ k n m, x ≠ .complex k n m) := by
        unfold eqV at hr
        split at hr
        · rw [vr_bool hx]; simp
        · rw [vr_nilp hx]; simp
        · rw [vr_nilp hx]; simp
        · rw [vr_ptr hx]; simp
        · rw [vr_nilp hx]; simp
        · obtain ⟨_, hx⟩ := vr_iptr hx; rw [hx]; simp
        · rw [vr_ptr hx]; simp
        · rw [vr_nils hx]; simp
        · rw [vr_nils hx]; simp
        · rw [vr_sl hx]; simp
        · rw [vr_nils hx]; simp
        · obtain ⟨_, _, _, hx⟩ := vr_imm hx; rw [hx]; simp
        · rw [vr_nils hx]; simp
        · simp only [VRel] at hx; obtain ⟨_, _, hx⟩ := hx; rw [hx]; simp
        · rw [vr_nilm hx]; simp
        · rw [vr_nilm hx]; simp
        · rw [vr_mp hx]; simp
        · rw [vr_nilf hx]; simp
        · rw [vr_nilf hx]; simp
        · obtain ⟨_, _, hx⟩ := vr_fn hx; rw [hx]; simp
        · simp only [VRel] at hx
          obtain ⟨xs, hx, _⟩ := hx
          rw [hx]; simp [hfl _ rfl]
        · cases hr
      obtain ⟨n1, n2, n3, n4, n5, n6⟩ := hne
      refine bin_step (eqGuard_ok op t ox oy n1 n2) ?_
      rcases hop with rfl | rfl
      · refine ⟨.bool r, ?_, by simp only [VRel]; rfl⟩
        have : binOp .eql t x y = (do pure (.bool (← Op.equal t x y))) := by
          cases x <;> first
            | rfl
            | exact absurd rfl (n3 _ _)
            | exact absurd rfl (n4 _)
            | exact absurd rfl (n5 _ _)
            | exact absurd rfl (n6 _ _ _)
        rw [this, run_bind, hrun]; rfl
      · refine ⟨.bool (!r), ?_, by simp only [VRel]; rfl⟩
        have : binOp .neq t x y = (do pure (.bool (!(← Op.equal t x y)))) := by
          cases x <;> first
            | rfl
            | exact absurd rfl (n3 _ _)
            | exact absurd rfl (n4 _)
            | exact absurd rfl (n5 _ _)
            | exact absurd rfl (n6 _ _ _)
        rw [this, run_bind, hrun]; rfl
    · cases ev
  unfold trBin at e
  split at e
  · rename_i hop
    split at e
    · cases e; exact hbin rfl
    · cases e; exact hbin rfl
    · rename_i hu; cases e; exact heq .bool hop rfl hu fun _ h => by cases h
    · rename_i hu
      split at e
      · rename_i hj
        obtain ⟨j, hj⟩ := Option.isSome_iff_exists.1 hj
        cases e; exact heq .ptr hop rfl ⟨_, j, hu, hj⟩ fun _ h => by cases h
      · cases e
    · rename_i hu; cases e; exact heq .slice hop rfl ⟨_, hu⟩ fun _ h => by cases h
    · rename_i hu; cases e; exact heq .map hop rfl ⟨_, _, hu⟩ fun _ h => by cases h
    · rename_i hu; cases e; exact heq .func hop rfl ⟨_, _, _, hu⟩ fun _ h => by cases h
    · rename_i fs hu
      split at e
      · rename_i ks hf
        split at e
        · cases e
        · rename_i hg
          cases e
          exact heq (.flat ks) hop rfl ⟨hf, by unfold aggT; rw [hu]⟩ fun _ _ => by simpa using hg
      · cases e
    · cases e
  · cases e; exact hbin rfl
theorem vr1 {M : Mem} {as : List AV} {x : Value} (h : VRels M as [x]) : ∃ a, as = [a] ∧ VRel M a x := by
  match as, h with
  | [], h => simp [VRels] at h
  | [a], h => simp only [VRels] at h; obtain ⟨_, _, h1, h2, _⟩ := h; cases h1; exact ⟨a, rfl, h2⟩
  | _ :: _ :: _, h => have := h.length; simp at this
theorem vr2 {M : Mem} {as : List AV} {x y : Value} (h : VRels M as [x, y]) : ∃ a b, as = [a, b] ∧ VRel M a x ∧ VRel M b y := by
  match as, h with
  | [], h => simp [VRels] at h
  | [a], h => have := h.length; simp at this
  | [a, b], h => simp only [VRels] at h; obtain ⟨_, _, h1, h2, _, _, h3, h4, _⟩ := h; cases h1; cases h3; exact ⟨a, b, rfl, h2, h4⟩
  | _ :: _ :: _ :: _, h => have := h.length; simp at this
theorem vrc {M : Mem} {as : List AV} {x : Value} {xs : List Value} (h : VRels M as (x :: xs)) : ∃ a as', as = a :: as' ∧ VRel M a x ∧ VRels M as' xs := by
  match as, h with
  | [], h => simp [VRels] at h
  | a :: as, h => simp only [VRels] at h; obtain ⟨_, _, h1, h2, h3⟩ := h; cases h1; exact ⟨a, as, rfl, h2, h3⟩
end Go.Sf

end
section
/- The operations that look alone, translated, give what the abstract ones say. -/
set_option linter.unusedVariables false
set_option linter.unusedSimpArgs false
namespace Go.Sf

/-- What an operation comes to, by the values of its operands. -/
theorem optAt_of {M : Mem} {b : Bool} {as rest : List AV} {d n : Int} (e : optI b as d = some (n, rest)) {o : Option Operand} {ρ : Operand → Value} {xs : List Value} (hb : o.isSome = b)
    (h : VRels M as ((o.toList.map ρ) ++ xs)) : OptAt (o.map ρ) d n ∧ VRels M rest xs := by
  cases o with
  | none =>
    simp only [Option.isSome] at hb; subst hb
    simp only [optI, Bool.false_eq_true, if_false, Option.some.injEq, Prod.mk.injEq] at e
    obtain ⟨rfl, rfl⟩ := e
    exact ⟨.inl ⟨rfl, rfl⟩, by simpa using h⟩
  | some x =>
    simp only [Option.isSome] at hb; subst hb
    simp only [optI, if_true] at e
    obtain ⟨a, as', rfl, h1, h2⟩ := vrc (by simpa using h : VRels M as (ρ x :: xs))
    split at e
    · rename_i hh
      cases hh
      simp only [Option.some.injEq, Prod.mk.injEq] at e
      obtain ⟨rfl, rfl⟩ := e
      exact ⟨.inr ⟨_, by rw [Option.map_some, vr_int h1]⟩, h2⟩
    · cases e

theorem trCvt_sound {P : Program} {M : Mem} {H : Heap} {w : World} (r : Rel M H w) {src dst : TypeId} {k : PK} (e : trCvt P src dst = some k) {a : AV} {x : Value} (hx : VRel M a x)
    {p : Prop} {v : AV} (ev : evK k H [a] = some (p, v)) (hp : p) : Gives P M w (convert src dst x) v := by
  unfold trCvt at e
  split at e
  · rename_i h1 h2; cases e; exact cvt_sound hx h1 h2 ev hp
  · rename_i h1 h2; cases e; exact cvtS_sound hx h1 h2 ev hp
  · rename_i el h1 h2
    split at e
    · rename_i h3; cases e
      refine b2s_sound r hx h1 h3 h2 (fun s hs => ?_) ev hp
      subst hs
      simp [evK] at ev
    · cases e
  · cases e
theorem mapM_some {α β : Type} {f : α → Option β} : ∀ {l : List α} {r : List β}, l.mapM f = some r → l.map f = r.map some
  | [], r, h => by simp at h; subst h; rfl
  | a :: l, r, h => by
    simp only [List.mapM_cons, Option.bind_eq_bind, Option.bind_eq_some_iff] at h
    obtain ⟨b, hb, r', hr, h3⟩ := h
    cases h3
    simp [hb, mapM_some hr]
theorem run_mapM_fields {P : Program} {w : World} : ∀ {fs : List Field} {places : List (Nat × Nat)}, fs.mapM (fun f => (sizeT P f.type).map fun s => (f.offset, s)) = some places →
    (fs.mapM (m := Sem) fun f => do pure (f.offset, ← sizeOf f.type)).run P w = .ok places w
  | [], places, h => by simp at h; subst h; rfl
  | f :: fs, places, h => by
    simp only [List.mapM_cons, Option.bind_eq_bind, Option.bind_eq_some_iff, Option.map_eq_some_iff] at h
    obtain ⟨b, ⟨s, hs, rfl⟩, r', hr, h3⟩ := h
    cases h3
    obtain ⟨i, hi, rfl⟩ := sizeT_spec hs
    simp only [List.mapM_cons, run_bind, run_sizeOf hi, run_pure, run_mapM_fields hr]
theorem trBuild_sound {P : Program} {M : Mem} {H : Heap} {w : World} {t : TypeId} {idx : List Nat} {k : PK} (e : trBuild P t idx = some k) {as : List AV} {xs : List Value} (hx : VRels M as xs)
    {p : Prop} {v : AV} (ev : evK k H as = some (p, v)) (hp : p) (hl : idx.length = xs.length) : Gives P M w (Instr.build t (idx.zip xs).toArray) v := by
  unfold trBuild at e
  split at e
  · rename_i fs i hu hi
    split at e
    · rename_i z hz
      split at e
      · rename_i places hpl
        split at e
        · rename_i ps hps
          cases e
          simp only [evK] at ev
          split at ev
          · rename_i hk
            split at ev
            · rename_i cs hc
              cases ev
              obtain ⟨ys, h1, h2⟩ := fill_sound (M := M) (place := fun i => places[i]?) idx ps as xs _ z.cells cs (mapM_some hps) hx hk (ofCells_rel M _) hc
              refine ⟨.agg ys, ?_, by simp only [VRel]; exact ⟨ys, rfl, h2⟩⟩
              unfold Instr.build
              have hm : (fs.mapM (m := Sem) fun f => do pure (f.offset, ← sizeOf f.type)).run P w = .ok places.toArray w := by
                rw [← Array.toArray_toList (xs := fs), List.mapM_toArray]
                show Sem.run P (List.toArray <$> _) w = _
                rw [show (List.toArray <$> (fs.toList.mapM (m := Sem) fun f => do pure (f.offset, ← sizeOf f.type))) = (do pure (List.toArray (← fs.toList.mapM (m := Sem) fun f => do pure (f.offset, ← sizeOf f.type)))) from by
                  rw [bind_pure_comp]]
                rw [run_bind, run_mapM_fields hpl]; rfl
              simp only [run_bind, run_zeroValue hi hz, run_underlying hu, hm]
              have h1' : Instr.fill (fun x => places.toArray[x]?) z.cells (idx.zip xs) = some ys := by
                rw [← h1]; congr 1; funext i; simp
              simp only [h1', run_pure]
            · cases ev
          · cases ev
        · cases e
      · cases e
    · cases e
  · cases e
theorem trK_sound {P : Program} {M : Mem} {H : Heap} {w : World} (r : Rel M H w) {o : Oper} {k : PK} {xs : List Operand} (e : trK P o.op = some (k, xs)) {ρ : Operand → Value} {as : List AV} (hx : VRels M as (xs.map ρ))
    {p : Prop} {v : AV} (ev : evK k H as = some (p, v)) (hp : p) : GivesOp P M w (execOp ρ o) v := by
  obtain ⟨dst, op, type, pos, after, guard⟩ := o
  simp only at e
  cases op <;> simp only [trK, reduceCtorEq] at e
  case move x =>
    cases e
    obtain ⟨a, rfl, ha⟩ := vr1 hx
    simp only [evK, Option.some.injEq, Prod.mk.injEq] at ev
    obtain ⟨_, rfl⟩ := ev
    exact ⟨_, rfl, ha⟩
  case assign x =>
    cases e
    obtain ⟨a, rfl, ha⟩ := vr1 hx
    simp only [evK, Option.some.injEq, Prod.mk.injEq] at ev
    obtain ⟨_, rfl⟩ := ev
    exact ⟨_, rfl, ha⟩
  case load t a =>
    simp only [Option.map_eq_some_iff, Prod.mk.injEq] at e
    obtain ⟨sz, hs, rfl, rfl⟩ := e
    obtain ⟨b, rfl, hb⟩ := vr1 hx
    exact (load_sound r hb (szT_spec hs) ev hp).op
  case nilCheck x =>
    cases e
    obtain ⟨a, rfl, ha⟩ := vr1 hx
    simp only [evK] at ev
    split at ev
    · cases ev; have := vr_ptr ha; exact ⟨_, by simp only [execOp]; rw [this]; rfl, by simp only [VRel]⟩
    · cases ev; obtain ⟨A, hA⟩ := vr_iptr ha; exact ⟨_, by simp only [execOp]; rw [hA]; rfl, by rw [← hA]; exact ha⟩
    · cases ev; obtain ⟨A, B, hA⟩ := vr_fn ha; exact ⟨_, by simp only [execOp]; rw [hA]; rfl, by rw [← hA]; exact ha⟩
    · cases ev
  case binOp op t x y yt =>
    simp only [Option.map_eq_some_iff, Prod.mk.injEq] at e
    obtain ⟨k', hk, rfl, rfl⟩ := e
    obtain ⟨a, b, rfl, ha, hb⟩ := vr2 hx
    exact (trBin_sound hk ha hb x y ev hp).op
  case unOp op t x =>
    cases e
    obtain ⟨a, rfl, ha⟩ := vr1 hx
    exact (unV_sound ha ev hp).op
  case convert src dst x =>
    simp only [Option.map_eq_some_iff, Prod.mk.injEq] at e
    obtain ⟨k', hk, rfl, rfl⟩ := e
    obtain ⟨a, rfl, ha⟩ := vr1 hx
    exact (trCvt_sound r hk ha ev hp).op
  case makeFunc fn first captured =>
    cases e
    simp only [evK, Option.some.injEq, Prod.mk.injEq] at ev
    obtain ⟨_, rfl⟩ := ev
    refine ⟨.func fn (first.map ρ) (captured.map ρ), rfl, ?_⟩
    simp only [VRel]
    refine ⟨_, _, rfl, ?_, ?_⟩
    · have := hx.take first.size
      simpa [List.map_append, List.take_append] using this
    · have := hx.drop first.size
      simpa [List.map_append, List.drop_append] using this
  case slice t x lo hi mx =>
    split at e
    · rename_i el hu
      split at e
      · cases e
      · rename_i hmx
        simp only [Option.map_eq_some_iff, Prod.mk.injEq] at e
        obtain ⟨s, hs, rfl, rfl⟩ := e
        obtain ⟨i, hi', hz⟩ := sizeT_spec hs
        obtain ⟨a, as', rfl, ha, has⟩ := vrc hx
        simp only [evK] at ev
        split at ev
        · rename_i n hn
          split at ev
          · rename_i l r1 h1
            split at ev
            · rename_i h r2 h2
              split at ev
              · rename_i m h3
                simp only [List.map_append, List.append_assoc] at has
                obtain ⟨o1, has⟩ := optAt_of h1 rfl has
                obtain ⟨o2, has⟩ := optAt_of h2 rfl has
                obtain ⟨o3, _⟩ := optAt_of (xs := []) h3 rfl (by simpa using has)
                refine (slcV_sound ha hn (fun s hs => ?_) o1 o2 ?_ hu hi' hz ev hp).op
                · subst hs; simp [slcV] at ev
                · cases mx with
                  | none => simp
                  | some mx =>
                    simp only [Option.isSome, if_true, Option.map_some]
                    refine ⟨?_, ?_⟩
                    · rcases o3 with ⟨h, _⟩ | ⟨kk, h⟩
                      · cases h
                      · exact ⟨kk, h⟩
                    · cases hi with
                      | none => simp at hmx
                      | some hi => simp
              · cases ev
            · cases ev
          · cases ev
        · cases ev
    · rename_i hu
      split at e
      · cases e
      · rename_i hmx
        cases e
        obtain ⟨a, as', rfl, ha, has⟩ := vrc hx
        simp only [List.map_append] at has
        cases a <;> simp only [evK, reduceCtorEq] at ev
        rename_i s
        split at ev
        · rename_i l r1 h1
          split at ev
          · rename_i h h2
            obtain ⟨o1, has⟩ := optAt_of h1 rfl has
            obtain ⟨o2, _⟩ := optAt_of (xs := []) h2 rfl (by simpa using has)
            simp only [Option.some.injEq, Prod.mk.injEq] at ev
            obtain ⟨rfl, rfl⟩ := ev
            have hmx' : mx = none := by cases mx <;> simp_all
            subst hmx'
            have := slcS_sound (P := P) (M := M) (w := w) o1 o2 hu hp.1 hp.2.1 hp.2.2
            have hs := vr_str ha
            refine Gives.op ?_
            rw [hs]; exact this
          · cases ev
        · cases ev
    · cases e
  case fieldAddr s x f =>
    split at e
    · rename_i fs hu
      split at e
      · rename_i fl hf
        split at e
        · rename_i kk hk
          cases e
          obtain ⟨a, rfl, ha⟩ := vr1 hx
          obtain ⟨i, hi, hz⟩ := sizeT_spec hk
          exact (faddr_sound ha hu hf rfl hi (by omega) ev hp).op
        · cases e
      · cases e
    · cases e
  case field s x f =>
    split at e
    · rename_i fs hu
      split at e
      · rename_i fl hf
        simp only [Option.map_eq_some_iff, Prod.mk.injEq] at e
        obtain ⟨sz, hs, rfl, rfl⟩ := e
        obtain ⟨a, rfl, ha⟩ := vr1 hx
        exact (field_sound ha hu hf rfl (szT_spec hs) ev hp).op
      · cases e
    · cases e
  case indexAddr t x i =>
    split at e
    · rename_i el hu
      simp only [Option.map_eq_some_iff, Prod.mk.injEq] at e
      obtain ⟨s, hs, rfl, rfl⟩ := e
      obtain ⟨a, b, rfl, ha, hb⟩ := vr2 hx
      obtain ⟨i', hi, hz⟩ := sizeT_spec hs
      exact (iaddr_sound ha hb hu hi hz ev hp).op
    · rename_i n el hu
      simp only [Option.map_eq_some_iff, Prod.mk.injEq] at e
      obtain ⟨s, hs, rfl, rfl⟩ := e
      obtain ⟨a, b, rfl, ha, hb⟩ := vr2 hx
      obtain ⟨i', hi, hz⟩ := sizeT_spec hs
      exact (iarr_sound ha hb hu hi hz ev hp).op
    · cases e
  case index t x i =>
    split at e
    · rename_i hu
      cases e
      obtain ⟨a, b, rfl, ha, hb⟩ := vr2 hx
      exact (idxS_sound ha hb hu ev hp).op
    · cases e
  case extract x i =>
    cases e
    obtain ⟨a, rfl, ha⟩ := vr1 hx
    exact (ext_sound ha ev hp).op
  case lookup t m k ok =>
    split at e
    · rename_i kt et hu
      split at e
      · rename_i sk z hs hz
        cases e
        obtain ⟨a, b, rfl, ha, hb⟩ := vr2 hx
        obtain ⟨i, hi, hiz⟩ := Option.bind_eq_some_iff.1 hz
        exact (lkp_sound r ha hb hu hs hi hiz ev hp).op
      · cases e
    · cases e
  case build t parts =>
    simp only [Option.map_eq_some_iff, Prod.mk.injEq] at e
    obtain ⟨k', hk, rfl, rfl⟩ := e
    have := trBuild_sound (w := w) hk hx ev hp (by simp)
    refine Gives.op ?_
    have hz : ((parts.toList.map (·.1)).zip ((parts.toList.map (·.2)).map ρ)).toArray = parts.map fun (i, x) => (i, ρ x) := by
      apply Array.toList_inj.1
      simp only [Array.toList_map, List.map_map]
      induction parts.toList with
      | nil => rfl
      | cons a l ih => simp [ih]
    rw [hz] at this; exact this
  case call c =>
    obtain ⟨callee, args, argTypes⟩ := c
    cases callee with
    | value f => simp at e
    | invoke a b => simp at e
    | builtin b =>
      cases b <;> simp only [reduceCtorEq] at e
      case len =>
        split at e
        · rename_i x t hargs ht
          simp only [Option.map_eq_some_iff, Prod.mk.injEq] at e
          obtain ⟨c, hc, rfl, rfl⟩ := e
          obtain ⟨a, rfl, ha⟩ := vr1 hx
          have hl : LenTy P t c := by
            unfold trLen at hc
            split at hc
            · cases hc; assumption
            · cases hc; exact ⟨_, by assumption⟩
            · cases hc; exact ⟨_, _, by assumption⟩
            · cases hc
          have ha2 : args = #[x] := by rw [← hargs]
          subst ha2
          refine Gives.op (s := Builtin.len_ argTypes type (#[x].map ρ)) ?_
          rw [show #[x].map ρ = #[ρ x] by simp]
          exact len_sound r ha ht hl (ty := type) ev hp
        · cases e
      case cap =>
        split at e
        · rename_i x t hargs ht
          split at e
          · rename_i el hu
            cases e
            obtain ⟨a, rfl, ha⟩ := vr1 hx
            have ha2 : args = #[x] := by rw [← hargs]
            subst ha2
            refine Gives.op (s := Builtin.cap_ argTypes type (#[x].map ρ)) ?_
            rw [show #[x].map ρ = #[ρ x] by simp]
            exact cap_sound ha ht hu (ty := type) ev hp
          · cases e
        · cases e
      case min =>
        cases e
        have := min_sound (P := P) (w := w) (ts := argTypes) (ty := type) hx ev hp
        refine Gives.op (s := Builtin.min_ argTypes type (args.map ρ)) ?_
        rw [show args.map ρ = (args.toList.map ρ).toArray by apply Array.toList_inj.1; simp]; exact this
      case max =>
        cases e
        have := max_sound (P := P) (w := w) (ts := argTypes) (ty := type) hx ev hp
        refine Gives.op (s := Builtin.max_ argTypes type (args.map ρ)) ?_
        rw [show args.map ρ = (args.toList.map ρ).toArray by apply Array.toList_inj.1; simp]; exact this
theorem pickV_rel {M : Mem} {x : Bool} {a b : AV} {y z : Value} (h1 : x = true → VRel M a y) (h2 : x = false → VRel M b z) : VRel M (pickV x a b) (if x then y else z) := by
  cases x with
  | true =>
    have h := h1 rfl
    unfold pickV
    split
    · simpa using h
    · simpa using h
  | false =>
    have h := h2 rfl
    unfold pickV
    split
    · simpa using h
    · simpa using h
theorem trP_sound {P : Program} {n : Nat} {M : Mem} {w : World} {o : Oper} {c : COp} (e : trP P n o.op = some c) {T : Nat → AV} {H : Heap} {a : Act} (ht : TRel n M T a.tmps) (r : Rel M H w)
    {p : Prop} {v : AV} (ev : evP c T H = some (p, v)) (hp : p) : GivesOp P M w (execOp a.eval o) v := by
  have hk : (match trK P o.op with
    | some (k, xs) => (trXs n xs).map (.p k)
    | none => none) = some c → GivesOp P M w (execOp a.eval o) v := by
    intro e
    split at e
    · rename_i k xs h1
      cases hx : trXs n xs with
      | none => simp [hx] at e
      | some cs =>
        simp [hx] at e; subst e
        simp only [evP] at ev
        split at ev
        · rename_i q u hq
          cases ev
          exact trK_sound r h1 (trXs_rel hx ht hp.1) hq hp.2
        · cases ev
    · cases e
  unfold trP at e
  split at e
  · rename_i cc ca cb hop
    split at e
    · rename_i c1 c2 c3 e1 e2 e3
      cases e
      simp only [evP] at ev
      split at ev
      · rename_i q x hu
        cases ev
        have hc := trX_rel e1 ht
        have hc' := un_rel hc (by rw [hu]; exact hp.1)
        rw [hu] at hc'
        have hb := vr_bool hc'
        refine ⟨if x then a.eval ca else a.eval cb, ?_, pickV_rel (fun h => un_rel (trX_rel e2 ht) (hp.2.1 h)) (fun h => un_rel (trX_rel e3 ht) (hp.2.2 h))⟩
        unfold execOp
        rw [hop]
        simp only [hb, asBool, run_bind, run_pure]
      · cases ev
    · cases e
  · exact hk e
end Go.Sf

end
