/- The framework's operations that look alone: what they are in the model's code, and that they give what the abstract ones say. -/
import Derived.Test.YtffifddlooligaaSf3
set_option linter.unusedVariables false
set_option linter.unusedSimpArgs false
namespace Go.Sf

theorem run_bind {α β : Type} (P : Program) (s : Sem α) (f : α → Sem β) (w : World) :
    (s >>= f).run P w = match s.run P w with | .ok a w' => (f a).run P w' | .halt h w' => .halt h w' := by
  show (Sem.bind s f).run P w = _
  induction s generalizing w with
  | pure a => rfl
  | load m a k ih =>
    simp only [Sem.bind, Sem.run]
    split
    · exact ih _ _
    · split
      · exact ih _ _
      · rfl
  | store m a v k ih =>
    cases v <;> simp only [Sem.bind, Sem.run] <;> first
      | rfl
      | (split
         · split
           · rfl
           · exact ih _
         · split
           · exact ih _
           · rfl)
  | new o k ih => exact ih _ _
  | shape r k ih => exact ih _ _
  | freeze a n k ih => exact ih _
  | frozen a k ih => exact ih _ _
  | getObj r k ih =>
    simp only [Sem.bind, Sem.run]
    split
    · rfl
    · exact ih _ _
    · rfl
  | setObj r o k ih =>
    simp only [Sem.bind, Sem.run]
    split
    · rfl
    · exact ih _
    · rfl
  | choose q k ih =>
    simp only [Sem.bind, Sem.run]
    split
    · exact ih _ _
    · exact ih _ _
  | sys c k ih => exact ih _ _
  | program k ih => exact ih _ _
  | mark m k ih => exact ih _
  | halt h => rfl
theorem run_pure {α : Type} (P : Program) (a : α) (w : World) : (pure a : Sem α).run P w = .ok a w := rfl
theorem run_pure' {α : Type} (P : Program) (a : α) (w : World) : (Sem.pure a : Sem α).run P w = .ok a w := rfl
theorem run_underlying {P : Program} {t : TypeId} {d : TypeDesc} (h : P.underlying t = some d) (w : World) : (underlying t).run P w = .ok d w := by
  show (match P.underlying t with | some d => (pure d : Sem TypeDesc) | none => stuck "no such type").run P w = _
  rw [h]; rfl
theorem run_typeInfo {P : Program} {t : TypeId} {i : TypeInfo} (h : P.info? t = some i) (w : World) : (typeInfo t).run P w = .ok i w := by
  show (match P.info? t with | some d => (pure d : Sem TypeInfo) | none => stuck "no such type").run P w = _
  rw [h]; rfl
theorem run_sizeOf {P : Program} {t : TypeId} {i : TypeInfo} (h : P.info? t = some i) (w : World) : (sizeOf t).run P w = .ok i.size w := by
  unfold sizeOf; rw [run_bind, run_typeInfo h]; rfl
theorem run_zeroValue {P : Program} {t : TypeId} {i : TypeInfo} {z : Value} (h : P.info? t = some i) (hz : i.zero = some z) (w : World) : (zeroValue t).run P w = .ok z w := by
  unfold zeroValue; rw [run_bind, run_typeInfo h]; simp only [hz]; rfl
def aggT (P : Program) (t : TypeId) : Option Bool :=
  match P.underlying t with
  | some (.struct _) | some (.array _ _) => some true
  | some _ => some false
  | none => none
theorem run_isAgg {P : Program} {t : TypeId} {b : Bool} (h : aggT P t = some b) (w : World) : (isAgg t).run P w = .ok b w := by
  unfold aggT at h
  unfold isAgg
  rw [run_bind]
  split at h
  · rename_i e; rw [run_underlying e]; cases h; rfl
  · rename_i e; rw [run_underlying e]; cases h; rfl
  · rename_i d h1 h2 e
    rw [run_underlying e]; cases h
    cases d <;> first | rfl | exact absurd rfl (h1 _) | exact absurd rfl (h2 _ _)
  · cases h

/-! ### Operands -/
def ofCell : Value → AV
  | .int k n => .int k n
  | .bool b => .bool b
  | .string s => .str s
  | .pointer none => .nilp
  | .slice none 0 0 => .nils
  | .map none => .nilm
  | .nilFunc => .nilf
  | _ => .any
def ofValue : Value → AV
  | .agg cs => .agg (cs.toList.map ofCell)
  | v => ofCell v
theorem ofCell_rel (M : Mem) (v : Value) : VRel M (ofCell v) v := by
  unfold ofCell
  split <;> simp only [VRel]
theorem ofCells_rel (M : Mem) : ∀ vs : List Value, VRels M (vs.map ofCell) vs
  | [] => .nil
  | v :: vs => .cons (ofCell_rel M v) (ofCells_rel M vs)
theorem ofValue_rel (M : Mem) (v : Value) : VRel M (ofValue v) v := by
  unfold ofValue
  split
  · simp only [VRel]; exact ⟨_, rfl, ofCells_rel M _⟩
  · exact ofCell_rel M v
def trX (n : Nat) : Operand → Option CX
  | .tmp t => if t < n then some (.t t) else none
  | .const v => some (.c (ofValue v))
  | .func f => some (.f f)
  | .global _ => none
theorem trX_rel {n : Nat} {x : Operand} {c : CX} (h : trX n x = some c) {M : Mem} {T : Nat → AV} {a : Act} (r : TRel n M T a.tmps) : VRel M (c.ev T) (a.eval x) := by
  cases x with
  | tmp t =>
    simp only [trX] at h
    split at h
    · rename_i ht; cases h; exact r.2 t ht
    · cases h
  | const v => simp only [trX] at h; cases h; exact ofValue_rel M v
  | func f => simp only [trX] at h; cases h; simp only [CX.ev, VRel]; exact ⟨#[], #[], rfl, .nil, .nil⟩
  | global g => simp [trX] at h
theorem un_rel {M : Mem} : ∀ {v : AV} {x : Value}, VRel M v x → (un v).1 → VRel M (un v).2 x
  | .gd b v, x, h, k => by
    simp only [un] at k ⊢
    simp only [VRel] at h
    exact un_rel (h.1 k.1) k.2
  | .any, x, h, k => h
  | .int _ _, x, h, k => h
  | .bool _, x, h, k => h
  | .str _, x, h, k => h
  | .nilp, x, h, k => h
  | .ptr _ _, x, h, k => h
  | .iptr _ _, x, h, k => h
  | .nils, x, h, k => h
  | .sl _ _ _ _, x, h, k => h
  | .imm _ _ _, x, h, k => h
  | .nilm, x, h, k => h
  | .mp _, x, h, k => h
  | .nilf, x, h, k => h
  | .fn _ _ _, x, h, k => h
  | .agg _, x, h, k => h
  | .tup _, x, h, k => h
def boolOf : Value → Option Bool
  | .bool b => some b
  | _ => none
theorem rel_undef (M : Mem) : VRel M (.tup []) undef := by simp only [VRel]; exact ⟨#[], rfl, .nil⟩
theorem gw_rel {M : Mem} {want : Bool} : ∀ {v : AV} {x : Value} {c : Bool}, VRel M v x → gw want v = some c → (boolOf x == some want) = c
  | .bool b, x, c, h, k => by
    simp only [VRel] at h; subst h
    simp only [gw, Option.some.injEq] at k; subst k
    cases b <;> cases want <;> rfl
  | .gd b v, x, c, h, k => by
    simp only [VRel] at h
    simp only [gw] at k
    cases b with
    | true =>
      split at k
      · rename_i c' hc
        simp only [Bool.true_and, Option.some.injEq] at k; subst k
        exact gw_rel (h.1 rfl) hc
      · simp at k
    | false =>
      have hx := h.2 rfl
      subst hx
      have hc : c = false := by
        split at k
        · simpa using k.symm
        · simpa using k.symm
      subst hc; rfl
  | .tup [], x, c, h, k => by
    simp only [VRel] at h
    obtain ⟨xs, rfl, _⟩ := h
    simp only [gw, Option.some.injEq] at k; subst k; rfl
  | .tup (_ :: _), x, c, h, k => by simp [gw] at k
  | .any, x, c, h, k => by simp [gw] at k
  | .int _ _, x, c, h, k => by simp [gw] at k
  | .str _, x, c, h, k => by simp [gw] at k
  | .nilp, x, c, h, k => by simp [gw] at k
  | .ptr _ _, x, c, h, k => by simp [gw] at k
  | .iptr _ _, x, c, h, k => by simp [gw] at k
  | .nils, x, c, h, k => by simp [gw] at k
  | .sl _ _ _ _, x, c, h, k => by simp [gw] at k
  | .imm _ _ _, x, c, h, k => by simp [gw] at k
  | .nilm, x, c, h, k => by simp [gw] at k
  | .mp _, x, c, h, k => by simp [gw] at k
  | .nilf, x, c, h, k => by simp [gw] at k
  | .fn _ _ _, x, c, h, k => by simp [gw] at k
  | .agg _, x, c, h, k => by simp [gw] at k
theorem yielded_get {ops : Array Oper} {tmps : Array Value} {j t : Nat} (h : (ops[j]?).bind (·.dst) = some t) (ht : t < tmps.size) : yielded ops tmps j = boolOf (tmps.getD t undef) := by
  unfold yielded
  rw [h]
  have e : tmps[t]? = some (tmps.getD t undef) := by rw [Array.getD_eq_getD_getElem?, Array.getElem?_eq_getElem ht]; rfl
  simp only [Option.bind_some, e]
  cases tmps.getD t undef <;> rfl
def trXs (n : Nat) : List Operand → Option (List CX)
  | [] => some []
  | x :: xs => match trX n x, trXs n xs with
    | some c, some cs => some (c :: cs)
    | _, _ => none
theorem trXs_rel {n : Nat} : ∀ {xs : List Operand} {cs : List CX}, trXs n xs = some cs → ∀ {M : Mem} {T : Nat → AV} {a : Act}, TRel n M T a.tmps → (getAll cs T).1 → VRels M (getAll cs T).2 (xs.map a.eval)
  | [], cs, h, M, T, a, r, k => by simp only [trXs] at h; cases h; exact .nil
  | x :: xs, cs, h, M, T, a, r, k => by
    simp only [trXs] at h
    split at h
    · rename_i c cs' e1 e2
      cases h
      simp only [getAll, List.foldr_cons] at k
      exact .cons (un_rel (trX_rel e1 r) k.1) (trXs_rel e2 r k.2)
    · cases h

/-! ### Memory -/
theorem add_off (b o j : Nat) : (⟨b, o, none⟩ : Addr).add j = ⟨b, o + j, none⟩ := by unfold Addr.add; split <;> simp_all
theorem add_spot {x : Addr} (h : x.spot = none) (j : Nat) : x.add j = ⟨x.block, x.off + j, none⟩ := by
  obtain ⟨b, o, s⟩ := x
  simp only at h; subst h
  exact add_off b o j
theorem Rel.cell {M : Mem} {H : Heap} {w : World} (r : Rel M H w) {b : Nat} {vs : List AV} {n : Nat} (h : H b = some (.cells vs n)) {o : Nat} {v : AV} (hv : vs[o]? = some v) :
    ∃ x, w.cell? ⟨b, o, none⟩ = some x ∧ VRel M v x := by
  obtain ⟨ob, ho, hb⟩ := r.live b _ h
  simp only [BRel] at hb
  obtain ⟨c, e, fr, rfl, hs, hl, hf, hr⟩ := hb
  obtain ⟨x, hx, hv'⟩ := hr.get hv
  refine ⟨x, ?_, hv'⟩
  simp only [World.cell?, ho]
  rw [List.getElem?_take] at hx
  split at hx
  · simpa using hx
  · cases hx
theorem Rel.icell {M : Mem} {H : Heap} {w : World} (r : Rel M H w) {b o : Nat} {cs : List AV} {vs : List Value} (h : MAt M b o vs) (k : VRels M cs vs) {i : Nat} {v : AV} (hv : cs[i]? = some v) :
    ∃ x, w.cell? ⟨b, o + i, none⟩ = some x ∧ VRel M v x := by
  obtain ⟨x, hx, hr⟩ := k.get hv
  exact ⟨x, (r.mem _ _ _ (h i x hx)).2, hr⟩
theorem run_load {P : Program} {w : World} {a : Addr} {x : Value} (h : w.cell? a = some x) : (load a).run P w = .ok x w := by
  simp only [load, Sem.run, h]
/-- Cells one behind the other are read. -/
theorem run_loadCellsFrom {P : Program} {w : World} {b o : Nat} : ∀ (n i : Nat) (acc : Array Value) (xs : List Value), xs.length = n → (∀ j u, xs[j]? = some u → w.cell? ⟨b, o + (i + j), none⟩ = some u) →
    (loadCellsFrom ⟨b, o, none⟩ i n acc).run P w = .ok (acc ++ xs.toArray) w := by
  intro n
  induction n with
  | zero => intro i acc xs hl h; cases xs with | nil => simp [loadCellsFrom, run_pure] | cons _ _ => simp at hl
  | succ n ih =>
    intro i acc xs hl h
    cases xs with
    | nil => simp at hl
    | cons x xs =>
      simp only [loadCellsFrom]
      rw [run_bind, add_off, run_load (by simpa using h 0 x rfl)]
      simp only []
      rw [ih (i + 1) (acc.push x) xs (by simpa using hl) fun j u hj => by
        have := h (j + 1) u (by simpa using hj)
        rw [show i + 1 + j = i + (j + 1) by omega]; exact this]
      simp
theorem run_loadCells {P : Program} {w : World} {b o : Nat} (xs : List Value) (h : ∀ j u, xs[j]? = some u → w.cell? ⟨b, o + j, none⟩ = some u) :
    (loadCells ⟨b, o, none⟩ xs.length).run P w = .ok xs.toArray w := by
  unfold loadCells
  rw [run_loadCellsFrom _ _ _ xs rfl (by simpa using h)]
  simp
/-- A list of abstract cells that are read: their values. -/
theorem cells_values {M : Mem} {w : World} {b o : Nat} {cs : List AV} (h : ∀ j v, cs[j]? = some v → ∃ x, w.cell? ⟨b, o + j, none⟩ = some x ∧ VRel M v x) :
    ∃ xs : List Value, xs.length = cs.length ∧ VRels M cs xs ∧ ∀ j u, xs[j]? = some u → w.cell? ⟨b, o + j, none⟩ = some u := by
  induction cs generalizing o with
  | nil => exact ⟨[], rfl, .nil, fun j u e => by simp at e⟩
  | cons c cs ih =>
    obtain ⟨x, hx, hr⟩ := h 0 c rfl
    obtain ⟨xs, h1, h2, h3⟩ := ih (o := o + 1) fun j v e => by
      have := h (j + 1) v (by simpa using e)
      rw [show o + 1 + j = o + (j + 1) by omega]; exact this
    refine ⟨x :: xs, by simp [h1], .cons hr h2, fun j u e => ?_⟩
    cases j with
    | zero => simp at e; subst e; exact hx
    | succ j => rw [show o + (j + 1) = o + 1 + j by omega]; exact h3 j u (by simpa using e)
end Go.Sf
