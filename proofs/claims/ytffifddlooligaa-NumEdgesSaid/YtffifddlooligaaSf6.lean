/- The framework's operations that look alone: comparisons of structs, conversions, slices of slices, lengths, and the rest of them. -/
import Derived.Test.YtffifddlooligaaSf5
import Derived.Laws.StructEq
set_option linter.unusedVariables false
set_option linter.unusedSimpArgs false
namespace Go.Sf

mutual
/-- A type whose values are so many numbers, bools and strings, one behind the other. -/
def flat (P : Program) : Nat → TypeId → Option (List SK)
  | 0, _ => none
  | d + 1, t => match P.underlying t with
    | some .bool => some [.b]
    | some (.int _) => some [.i]
    | some .string => some [.s]
    | some (.struct fs) => if P.stoodInHeld t then none else flatFs P d fs.toList 0
    | _ => none
def flatFs (P : Program) : Nat → List Field → Nat → Option (List SK)
  | _, [], _ => some []
  | 0, _ :: _, _ => none
  | d + 1, f :: fs, off =>
    if f.name ≠ "_" ∧ f.offset = off then
      match flat P d f.type with
      | some ks => if (P.info? f.type).map (·.size) = some ks.length then
          match flatFs P d fs (off + ks.length) with
          | some r => some (ks ++ r)
          | none => none
        else none
      | none => none
    else none
end
theorem flatEq_split : ∀ {ks1 ks2 : List SK} {xs ys : List AV} {b : Bool}, flatEq (ks1 ++ ks2) xs ys = some b →
    ∃ b1 b2 x1 x2 y1 y2, xs = x1 ++ x2 ∧ ys = y1 ++ y2 ∧ x1.length = ks1.length ∧ y1.length = ks1.length ∧ flatEq ks1 x1 y1 = some b1 ∧ flatEq ks2 x2 y2 = some b2 ∧ b = (b1 && b2)
  | [], ks2, xs, ys, b, e => ⟨true, b, [], xs, [], ys, rfl, rfl, rfl, rfl, rfl, e, by simp⟩
  | k :: ks1, ks2, [], ys, b, e => by simp [flatEq] at e
  | k :: ks1, ks2, x :: xs, [], b, e => by simp [flatEq] at e
  | k :: ks1, ks2, x :: xs, y :: ys, b, e => by
    simp only [List.cons_append, flatEq] at e
    split at e
    · rename_i c1 c2 e1 e2
      cases e
      obtain ⟨b1, b2, x1, x2, y1, y2, rfl, rfl, h1, h2, k1, k2, rfl⟩ := flatEq_split e2
      refine ⟨c1 && b1, b2, x :: x1, x2, y :: y1, y2, rfl, rfl, by simp [h1], by simp [h2], ?_, k2, by simp [Bool.and_assoc]⟩
      simp only [flatEq, e1, k1]
    · cases e
theorem flatEq_length : ∀ {ks : List SK} {xs ys : List AV} {b : Bool}, flatEq ks xs ys = some b → xs.length = ks.length ∧ ys.length = ks.length
  | [], [], [], b, e => ⟨rfl, rfl⟩
  | [], _ :: _, _, b, e => by simp [flatEq] at e
  | [], [], _ :: _, b, e => by simp [flatEq] at e
  | _ :: _, [], _, b, e => by simp [flatEq] at e
  | _ :: _, _ :: _, [], b, e => by simp [flatEq] at e
  | k :: ks, x :: xs, y :: ys, b, e => by
    simp only [flatEq] at e
    split at e
    · rename_i e2; have := flatEq_length e2; simp [this.1, this.2]
    · cases e
/-- A value of so many cells: the cell itself, or the cells together. -/
def valT (agg : Bool) (X : List Value) : Value := if agg then .agg X.toArray else X.headD undef
theorem run_part {P : Program} {w : World} {t : TypeId} {g : Bool} {k : Nat} {i : TypeInfo} (hg : aggT P t = some g) (hi : P.info? t = some i) (hk : i.size = k) (h1 : g = false → k = 1) {pre mid post : List Value} (hm : mid.length = k) (X : Array Value) (hX : X.toList = pre ++ mid ++ post) :
    (part t X pre.length).run P w = .ok (valT g mid) w := by
  unfold part
  simp only [run_bind, run_isAgg hg]
  cases g with
  | true =>
    simp only [if_true, run_bind, run_sizeOf hi, run_pure, valT, hk]
    have : X.extract pre.length (pre.length + k) = mid.toArray := by
      apply Array.toList_inj.1
      simp only [Array.toList_extract, hX, List.extract_eq_take_drop]
      rw [List.append_assoc, List.drop_left]
      rw [show pre.length + k - pre.length = mid.length by omega, List.take_left]
    rw [this]
  | false =>
    have := h1 rfl
    match mid, hm with
    | [m], _ =>
      have hx : X[pre.length]? = some m := by rw [← Array.getElem?_toList, hX]; simp
      simp only [Bool.false_eq_true, if_false, hx, valT]; rfl
    | [], hm => simp at hm; omega
    | _ :: _ :: _, hm => simp at hm; omega
theorem flat_agg {P : Program} {d : Nat} {t : TypeId} {ks : List SK} (h : flat P d t = some ks) : ∃ g, aggT P t = some g ∧ (g = false → ks.length = 1) := by
  cases d with
  | zero => simp [flat] at h
  | succ d =>
    simp only [flat] at h
    unfold aggT
    split at h
    · rename_i e; rw [e]; cases h; exact ⟨false, rfl, fun _ => rfl⟩
    · rename_i e; rw [e]; cases h; exact ⟨false, rfl, fun _ => rfl⟩
    · rename_i e; rw [e]; cases h; exact ⟨false, rfl, fun _ => rfl⟩
    · rename_i e; rw [e]; exact ⟨true, rfl, fun h => by cases h⟩
    · cases h
theorem flat_one {P : Program} {M : Mem} {w : World} {d D : Nat} {t : TypeId} {k : SK} (ht : match k with | .b => P.underlying t = some .bool | .i => ∃ kk, P.underlying t = some (.int kk) | .s => P.underlying t = some .string)
    {xs ys : List AV} {b : Bool} (e : flatEq [k] xs ys = some b) {X Y : List Value} (hx : VRels M xs X) (hy : VRels M ys Y) :
    (Op.equalIn (D + 1) t (valT false X) (valT false Y)).run P w = .ok b w := by
  match xs, ys, e with
  | [], _, e => simp [flatEq] at e
  | _ :: _, [], e => simp [flatEq] at e
  | [x], [y], e =>
    simp only [flatEq] at e
    obtain ⟨vx, X', rfl, h1, h2⟩ := (by simpa only [VRels] using hx : ∃ v vs', X = v :: vs' ∧ VRel M x v ∧ vs' = [])
    obtain ⟨vy, Y', rfl, k1, k2⟩ := (by simpa only [VRels] using hy : ∃ v vs', Y = v :: vs' ∧ VRel M y v ∧ vs' = [])
    simp only [valT, Bool.false_eq_true, if_false, List.headD_cons]
    cases hs : scalEq k x y with
    | none => simp [hs] at e
    | some c =>
      simp [hs] at e; subst e
      cases k with
      | b =>
        match x, y, hs with
        | .bool a, .bool a', hs =>
          simp only [scalEq, Option.some.injEq] at hs
          rw [vr_bool h1, vr_bool k1]
          simp only [Op.equalIn, run_bind, run_underlying ht, run_pure, ← hs]
          cases a <;> cases a' <;> rfl
      | i =>
        obtain ⟨kk, ht⟩ := ht
        match x, y, hs with
        | .int k a, .int k' a', hs =>
          simp only [scalEq] at hs
          split at hs
          · rename_i hk; subst hk
            simp only [Option.some.injEq] at hs
            rw [vr_int h1, vr_int k1]
            simp only [Op.equalIn, run_bind, run_underlying ht, run_pure, ← hs, if_true]
            rw [show (a == a') = decide (a = a') by cases h : decide (a = a') <;> simp_all]
          · cases hs
      | s =>
        match x, y, hs with
        | .str a, .str a', hs =>
          simp only [scalEq, Option.some.injEq] at hs
          rw [vr_str h1, vr_str k1]
          simp only [Op.equalIn, run_bind, run_underlying ht, run_pure, ← hs]
          rw [beq_toListBytes, ba_eq]
  | x :: x2 :: xs, [y], e => simp only [flatEq] at e; split at e <;> simp_all [flatEq]
  | x :: xs, y :: y2 :: ys, e => simp only [flatEq] at e; split at e <;> cases xs <;> simp_all [flatEq]
mutual
theorem flat_sound {P : Program} {M : Mem} : ∀ (d D : Nat) (t : TypeId) (ks : List SK), flat P d t = some ks → d ≤ D → ∀ (w : World) (g : Bool), aggT P t = some g →
    ∀ (xs ys : List AV) (b : Bool), flatEq ks xs ys = some b → ∀ (X Y : List Value), VRels M xs X → VRels M ys Y → (Op.equalIn D t (valT g X) (valT g Y)).run P w = .ok b w
  | 0, D, t, ks, h, hd, w, g, hg, xs, ys, b, e, X, Y, hx, hy => by simp [flat] at h
  | d + 1, 0, t, ks, h, hd, w, g, hg, xs, ys, b, e, X, Y, hx, hy => by omega
  | d + 1, D + 1, t, ks, h, hd, w, g, hg, xs, ys, b, e, X, Y, hx, hy => by
    simp only [flat] at h
    unfold aggT at hg
    split at h
    · rename_i hu; rw [hu] at hg; cases hg; cases h; exact flat_one (d := d) (k := .b) hu e hx hy
    · rename_i k hu; rw [hu] at hg; cases hg; cases h; exact flat_one (d := d) (k := .i) ⟨k, hu⟩ e hx hy
    · rename_i hu; rw [hu] at hg; cases hg; cases h; exact flat_one (d := d) (k := .s) hu e hx hy
    · rename_i fs hu
      rw [hu] at hg; cases hg
      split at h
      · cases h
      · rename_i hst
        have hf : P.fieldsOf t = fs := by simp only [Program.fieldsOf, hu]
        simp only [valT, if_true]
        rw [run_equalIn_struct w D t _ _ (by rw [hf]; exact hu) (by simpa using hst), hf]
        exact flatFs_sound d D fs.toList [] [] ks (by simpa using h) (by omega) w xs ys b e X Y hx hy _ _ (by simp) (by simp) rfl
    · cases h
theorem flatFs_sound {P : Program} {M : Mem} : ∀ (d D : Nat) (fs : List Field) (preX preY : List Value) (ks : List SK), flatFs P d fs preX.length = some ks → d ≤ D → ∀ (w : World),
    ∀ (xs ys : List AV) (b : Bool), flatEq ks xs ys = some b → ∀ (X Y : List Value), VRels M xs X → VRels M ys Y → ∀ (XA YA : Array Value), XA.toList = preX ++ X → YA.toList = preY ++ Y → preX.length = preY.length →
    (Op.eqFields D XA YA fs).run P w = .ok b w
  | d, D, [], preX, preY, ks, h, hd, w, xs, ys, b, e, X, Y, hx, hy, XA, YA, hXA, hYA, hp => by
    simp only [flatFs, Option.some.injEq] at h; subst h
    match xs, ys, e with
    | [], [], e => simp only [flatEq, Option.some.injEq] at e; subst e; rfl
    | [], _ :: _, e => simp [flatEq] at e
    | _ :: _, _, e => simp [flatEq] at e
  | 0, D, _ :: _, preX, preY, ks, h, hd, w, xs, ys, b, e, X, Y, hx, hy, XA, YA, hXA, hYA, hp => by simp [flatFs] at h
  | d + 1, D, f :: fs, preX, preY, ks, h, hd, w, xs, ys, b, e, X, Y, hx, hy, XA, YA, hXA, hYA, hp => by
    simp only [flatFs] at h
    split at h
    · rename_i hn
      split at h
      · rename_i ks1 h1
        split at h
        · rename_i hsz
          split at h
          · rename_i r h2
            cases h
            obtain ⟨b1, b2, x1, x2, y1, y2, rfl, rfl, l1, l2, k1, k2, rfl⟩ := flatEq_split e
            obtain ⟨i, hi, his⟩ := Option.map_eq_some_iff.1 hsz
            obtain ⟨g, hg, hg1⟩ := flat_agg h1
            have hxl := hx.length
            have hyl := hy.length
            simp only [List.length_append] at hxl hyl
            have hX1 : VRels M x1 (X.take ks1.length) := by have := hx.take x1.length; rwa [List.take_left, l1] at this
            have hX2 : VRels M x2 (X.drop ks1.length) := by have := hx.drop x1.length; rwa [List.drop_left, l1] at this
            have hY1 : VRels M y1 (Y.take ks1.length) := by have := hy.take y1.length; rwa [List.take_left, l2] at this
            have hY2 : VRels M y2 (Y.drop ks1.length) := by have := hy.drop y1.length; rwa [List.drop_left, l2] at this
            have lX : (X.take ks1.length).length = ks1.length := by simp; omega
            have lY : (Y.take ks1.length).length = ks1.length := by simp; omega
            simp only [Op.eqFields]
            rw [if_pos hn.1, hn.2]
            rw [run_bind, run_part hg hi his hg1 lX XA (post := X.drop ks1.length) (by rw [hXA, List.append_assoc, List.take_append_drop])]
            simp only []
            rw [run_bind, hp, run_part hg hi his hg1 lY YA (post := Y.drop ks1.length) (by rw [hYA, List.append_assoc, List.take_append_drop])]
            simp only []
            rw [run_bind, flat_sound d D f.type ks1 h1 (by omega) w g hg x1 y1 b1 k1 _ _ hX1 hY1]
            simp only []
            cases b1 with
            | false => rfl
            | true =>
              simp only [Bool.not_true, Bool.false_eq_true, if_false, Bool.true_and]
              exact flatFs_sound d D fs (preX ++ X.take ks1.length) (preY ++ Y.take ks1.length) r (by rw [List.length_append, lX]; exact h2) (by omega) w x2 y2 b2 k2 _ _ hX2 hY2 XA YA
                (by rw [hXA, List.append_assoc, List.take_append_drop]) (by rw [hYA, List.append_assoc, List.take_append_drop]) (by rw [List.length_append, List.length_append, lX, lY, hp])
          · cases h
        · cases h
      · cases h
    · cases h
end
end Go.Sf
