/- The operations that make, write or call are right: slices, stores, appends, calls. -/
import Derived.Test.YtffifddlooligaaSf14
import Derived.IntWalk
set_option linter.unusedVariables false
set_option linter.unusedSimpArgs false
namespace Go.Sf
section
variable {P : Program} {n : Nat} {o : Oper} {S : AS} {K : AS → Prop} {M : Mem} {a : Act} {w : World} {Q : Exit → Act → World → Prop}

theorem foldl_size (off : Nat) : ∀ (zs : List (Value × Nat)) (cs : Array Value), (zs.foldl (fun cs x => cs.setIfInBounds (off + x.2) x.1) cs).size = cs.size
  | [], cs => rfl
  | z :: zs, cs => by rw [List.foldl_cons, foldl_size off zs]; simp
theorem fill_size {place : Nat → Option (Nat × Nat)} : ∀ (l : List (Nat × Value)) (cs ys : Array Value), Instr.fill place cs l = some ys → ys.size = cs.size
  | [], cs, ys, h => by simp only [Instr.fill, Option.some.injEq] at h; rw [h]
  | (i, v) :: l, cs, ys, h => by
    simp only [Instr.fill] at h
    split at h
    · cases h
    · rename_i off size hp
      split at h
      · cases h
      · have := fill_size l _ ys h
        rw [this]
        rw [← Array.foldl_toList]
        exact foldl_size _ _ _
theorem bslice_sound (ht : TRel n M S.T a.tmps) (hr : Rel M S.H w) (hd : a.defers = []) {t e : TypeId} {len : Nat} {parts : Array (Nat × Operand)} {s b : Nat} {z : Value} (ho : o.op = .buildSlice t len parts) (hu : P.underlying t = some (.slice e))
    (he : ElemOK P e s b z) (hl : len * s ≤ 16777216) {as : List AV} (hx : VRels M as ((parts.toList.map (·.2)).map a.eval)) {frozen : Bool}
    (hv : vcE P (.bslice frozen (((List.range (len * s)).map fun i => z.cells[i % z.cells.size]!).map ofCell) (parts.toList.map fun (i, _) => (i * s, s)) len) as o.dst S K) : o.wp P a w (Fin n M S.H w K) Q := by
  simp only [vcE] at hv
  obtain ⟨hk, hv⟩ := hv
  split at hv
  · rename_i cs hcs
    obtain ⟨i, hi, his, hib, hiz⟩ := he.info
    have hz0 : ((Array.range (len * s)).map fun i => z.cells[i % z.cells.size]!).toList = (List.range (len * s)).map fun i => z.cells[i % z.cells.size]! := by
      simp [Array.toList_range]
    obtain ⟨ys, h1, h2⟩ := fill_sound (M := M) (place := fun i => some (i * s, s)) (parts.toList.map (·.1)) (parts.toList.map fun (i, _) => (i * s, s)) as ((parts.toList.map (·.2)).map a.eval) _
      ((Array.range (len * s)).map fun i => z.cells[i % z.cells.size]!) cs (by simp [List.map_map, Function.comp_def]) hx hk (by rw [hz0]; exact ofCells_rel M _) hcs
    have hzip : ((parts.toList.map (·.1)).zip ((parts.toList.map (·.2)).map a.eval)) = (parts.map fun (i, x) => (i, a.eval x)).toList := by
      simp only [Array.toList_map, List.map_map]
      induction parts.toList with
      | nil => rfl
      | cons a l ih => simp [ih]
    rw [hzip] at h1
    have hysz : ys.size = len * s := by rw [fill_size _ _ _ h1]; simp
    have hcl : cs.length = len * s := by rw [h2.length]; simp [hysz]
    have hrun : (execOp a.eval o).run P w = .ok (.value (.slice (some ⟨w.heap.size, 0, none⟩) len len)) (wpush { w with drawn := w.drawn } (.cells (ys.toList ++ []).toArray e (0, 0))) := by
      unfold execOp
      rw [ho]
      simp only [Instr.buildSlice, run_bind, run_underlying hu, run_sizeOf hi, his, run_pure]
      rw [if_neg (show ¬ len * s > 2 ^ 24 by omega)]
      by_cases hz : len * s = 0
      · rw [if_pos hz]
        simp only [run_bind, run_pure]
        have hz0' : ((Array.range (len * s)).map fun i => (#[] : Array Value)[i % (#[] : Array Value).size]!) = ((Array.range (len * s)).map fun i => z.cells[i % z.cells.size]!) := by rw [hz]; simp
        rw [hz0', h1]
        simp only [run_bind, run_newRow, run_pure]
        simp
      · rw [if_neg hz]
        simp only [run_bind, run_zeroValue hi hiz, run_pure, h1, run_newRow]
        simp
    refine newSlice_step ht hr hd (e := e) (xs := ys.toList) (rest := []) (d := w.drawn) h2 (Nat.le_refl _) frozen hrun (fun _ => rfl) ?_
    cases frozen with
    | true => simp only [if_true] at hv ⊢; exact ⟨some len, fun x hx => by cases hx; rfl, hv⟩
    | false =>
      simp only [Bool.false_eq_true, if_false] at hv ⊢
      intro b hb
      have := hv b hb
      rw [hcl] at this
      simpa [hysz] using this
  · exact hv.elim
theorem replicate_cells (z : Array Value) (m : Nat) : ((Array.range (m * z.size)).map (z[· % z.size]!)).toList = (List.replicate m z.toList).flatten := by
  induction m with
  | zero => simp
  | succ m ih =>
    rw [List.replicate_succ', List.flatten_append, ← ih]
    simp only [Array.toList_map, Array.toList_range]
    rw [show (m + 1) * z.size = m * z.size + z.size by rw [Nat.succ_mul], List.range_add, List.map_append]
    congr 1
    apply List.ext_getElem
    · simp
    · intro i h1 h2
      simp only [List.getElem_map, List.getElem_range, List.map_map, Function.comp_apply]
      have hi : i < z.size := by simpa using h1
      rw [Nat.add_comm, Nat.add_mul_mod_self_right, Nat.mod_eq_of_lt hi, getElem!_pos z i hi]
      simp
theorem rep_rel (M : Mem) (z : List Value) (m : Nat) : VRels M (List.replicate m (z.map ofCell)).flatten (List.replicate m z).flatten := by
  induction m with
  | zero => exact .nil
  | succ m ih => simp only [List.replicate_succ, List.flatten_cons]; exact (ofCells_rel M z).append ih
theorem wrap_id {k : Int} (h0 : 0 ≤ k) (h1 : k ≤ 9223372036854775807) : IntKind.i64.wrap k = k := IntWalk.i64_in k (by omega)
theorem mkslice_sound (ht : TRel n M S.T a.tmps) (hr : Rel M S.H w) (hd : a.defers = []) {t e : TypeId} {l c : Operand} {s b : Nat} {z : Value} (ho : o.op = .makeSlice t l c) (hu : P.underlying t = some (.slice e))
    (he : ElemOK P e s b z) {as : List AV} (hx : VRels M as ([l, c].map a.eval)) {frozen : Bool} (hv : vcE P (.mkslice frozen (z.cells.toList.map ofCell) b) as o.dst S K) : o.wp P a w (Fin n M S.H w K) Q := by
  obtain ⟨v1, v2, rfl, h1, h2⟩ := vr2 hx
  cases v1 <;> cases v2 <;> simp only [vcE] at hv
  rename_i k1 nn k2 cc
  obtain ⟨p1, p2, p3, p4, hv⟩ := hv
  have e1 := vr_int h1
  have e2 := vr_int h2
  obtain ⟨i, hi, his, hib, hiz⟩ := he.info
  have hcz := he.cells
  have hbp := he.bytes
  have hcb : ¬ ((b : Int) * cc > 2 ^ 48) := by rw [Int.mul_comm]; omega
  have hnb : ¬ ((b : Int) * nn > 2 ^ 48) := by
    have : (b : Int) * nn ≤ b * cc := Int.mul_le_mul_of_nonneg_left p2 (by omega)
    omega
  obtain ⟨m, rfl⟩ := Int.eq_ofNat_of_zero_le p1
  obtain ⟨k, rfl⟩ := Int.eq_ofNat_of_zero_le (Int.le_trans p1 p2)
  have hmk : m ≤ k := by omega
  have hrun : (execOp a.eval o).run P w = .ok (.value (.slice (some ⟨w.heap.size, 0, none⟩) m k)) (wpush { w with drawn := w.drawn } (.cells ((List.replicate m z.cells.toList).flatten ++ (List.replicate (k - m) z.cells.toList).flatten).toArray e (0, 0))) := by
    unfold execOp
    rw [ho]
    simp only [Instr.makeSlice, e1, e2, run_bind, run_underlying hu, asInt, asIntOf, run_pure, run_typeInfo hi, hib, his, run_sizeOf hi, wrap_id p1 (show (m : Int) ≤ 9223372036854775807 by omega), wrap_id (Int.le_trans p1 p2) p4]
    rw [if_neg (by simp only [Bool.or_eq_true, decide_eq_true_eq]; omega)]
    simp only [run_bind, run_ask, run_pure, Int.toNat_natCast, run_sizeOf hi, his]
    have hcells : ∀ (zz : Array Value), (k * s = 0 → zz = #[]) → (k * s ≠ 0 → zz = z.cells) → ((Array.range (k * s)).map (zz[· % zz.size]!)) = ((List.replicate m z.cells.toList).flatten ++ (List.replicate (k - m) z.cells.toList).flatten).toArray := by
      intro zz q1 q2
      apply Array.toList_inj.1
      by_cases hks : k * s = 0
      · have hk0 : k = 0 := by
          rcases Nat.mul_eq_zero.1 hks with h | h
          · exact h
          · have := he.sz; omega
        have hm0 : m = 0 := by omega
        subst hk0; subst hm0; simp
      · rw [q2 hks, ← hcz, replicate_cells]
        simp only [← List.flatten_append, List.replicate_append_replicate]
        rw [show m + (k - m) = k by omega]
    by_cases hks : k * s = 0
    · rw [if_pos hks]
      simp only [run_bind, run_pure]
      rw [hcells #[] (fun _ => rfl) (fun h => absurd hks h)]
      simp only [run_newRow, run_pure]
    · rw [if_neg hks]
      simp only [run_bind, run_zeroValue hi hiz, run_pure]
      rw [hcells z.cells (fun h => absurd h hks) (fun _ => rfl)]
      simp only [run_newRow, run_pure]
  refine newSlice_step ht hr hd (e := e) (d := w.drawn) (rep_rel M z.cells.toList m) hmk frozen hrun (fun _ => rfl) ?_
  simp only [Int.toNat_natCast] at hv
  cases frozen with
  | true => simp only [if_true] at hv ⊢; exact ⟨some k, fun x hx => by cases hx; rfl, hv⟩
  | false =>
    simp only [Bool.false_eq_true, if_false] at hv ⊢
    intro b' hb'
    have := hv b' hb'
    have hlen : (List.replicate m z.cells.toList).flatten.length + (List.replicate (k - m) z.cells.toList).flatten.length = k * (z.cells.toList.map ofCell).length := by
      simp only [List.length_flatten, List.map_replicate, List.sum_replicate_nat, List.length_map, ← Nat.add_mul]
      rw [show m + (k - m) = k by omega]
    rw [hlen]; exact this
end
end Go.Sf
