/- Regions in the text's order: their translation, and that it is right. -/
import Derived.Test.YtffifddlooligaaSf18
set_option linter.unusedVariables false
set_option linter.unusedSimpArgs false
namespace Go.Sf

def trG (n : Nat) (ops : Array Oper) : Option (Nat × Bool) → Option (Option (Nat × Bool))
  | none => some none
  | some (j, want) => match (ops[j]?).bind (·.dst) with
    | some t => if t < n then some (some (t, want)) else none
    | none => none
def storeDst (o : Oper) : Bool := match o.op with | .store _ _ _ => o.dst.isNone | _ => true
def trOp (P : Program) (n : Nat) (mt : Bool) (o : Op) : Option COp :=
  match trP P n o with
  | some c => some c
  | none => match trE P n mt o with
    | some (k, xs) => (trXs n xs).map (.e k)
    | none => some (.e .nope [])
def trCO (P : Program) (n : Nat) (md : Nat → Bool) (ops : Array Oper) (o : Oper) : Option CO :=
  match trG n ops o.guard, trOp P n ((o.dst.map md).getD false) o.op with
  | some g, some c => if storeDst o then some ⟨o.dst, g, c⟩ else none
  | _, _ => none
def trOps (P : Program) (n : Nat) (md : Nat → Bool) (ops : Array Oper) : List Oper → Option (List CO)
  | [] => some []
  | o :: l => match trCO P n md ops o, trOps P n md ops l with
    | some c, some cs => some (c :: cs)
    | _, _ => none
section
variable {P : Program} {n : Nat} {S : AS} {K : AS → Prop} {M : Mem} {a : Act} {w : World}

/-- One operation that is carried out. -/
theorem vcDo_sound {md : Nat → Bool} {ops : Array Oper} {o : Oper} {co : CO} (e : trCO P n md ops o = some co) (hv : vcDo P co S K) (ht : TRel n M S.T a.tmps) (hr : Rel M S.H w) (hd : a.defers = []) (Q : Exit → Act → World → Prop) :
    o.wp P a w (Fin n M S.H w K) Q := by
  unfold trCO at e
  split at e
  · rename_i g c hg hc
    split at e
    · rename_i hsd
      cases e
      unfold vcDo at hv
      simp only at hv
      split at hv
      · rename_i k xs
        unfold trOp at hc
        split at hc
        · rename_i c' hp
          cases hc
          -- a pure operation is never translated so
          exfalso
          unfold trP at hp
          split at hp
          · split at hp <;> simp at hp
          · split at hp
            · simp at hp
            · cases hp
        · split at hc
          · rename_i k' xs' he
            simp only [Option.map_eq_some_iff] at hc
            obtain ⟨cs, hcs, hkk⟩ := hc
            cases hkk
            refine trE_sound he (fun ⟨t, x, y, hop⟩ => ?_) ht hr hd (trXs_rel hcs ht hv.1) hv.2
            unfold storeDst at hsd
            rw [hop] at hsd
            simpa using hsd
          · cases hc
            simp only [vcE] at hv
            exact hv.2.elim
      · rename_i hne
        split at hv
        · rename_i p v hev
          have hp : trP P n o.op = some c := by
            unfold trOp at hc
            split at hc
            · rename_i h; cases hc; exact h
            · split at hc
              · simp only [Option.map_eq_some_iff] at hc
                obtain ⟨cs, _, rfl⟩ := hc
                exact absurd rfl (hne _ _)
              · cases hc
                exact absurd rfl (hne _ _)
          obtain ⟨x, h1, h2⟩ := trP_sound hp ht hr hev hv.1
          exact wp_value ht hd h1 h2 hr (.refl _ _ _) hv.2
        · exact hv.elim
    · cases e
  · cases e
/-- One operation, that may be guarded. -/
theorem vcOp_sound {md : Nat → Bool} {ops : Array Oper} {o : Oper} {co : CO} (e : trCO P n md ops o = some co) (hv : vcOp P co S K) (ht : TRel n M S.T a.tmps) (hr : Rel M S.H w) (hd : a.defers = []) (Q : Exit → Act → World → Prop) :
    if Region.wanted o (yielded ops a.tmps) then o.wp P a w (Fin n M S.H w K) Q else Fin n M S.H w K (a.put o.dst undef) w := by
  have e0 := e
  unfold trCO at e
  split at e
  · rename_i g c hg hc
    split at e
    · cases e
      unfold vcOp at hv
      simp only at hv
      cases hgo : o.guard with
      | none =>
        rw [hgo] at hg
        simp only [trG, Option.some.injEq] at hg; subst hg
        have : Region.wanted o (yielded ops a.tmps) = true := by unfold Region.wanted; rw [hgo]
        rw [this, if_pos rfl]
        exact vcDo_sound e0 hv ht hr hd Q
      | some jw =>
        obtain ⟨j, want⟩ := jw
        rw [hgo] at hg
        simp only [trG] at hg
        split at hg
        · rename_i t htj
          split at hg
          · rename_i htn
            simp only [Option.some.injEq] at hg; subst hg
            simp only at hv
            split at hv
            · rename_i c0 hu
              have hw : Region.wanted o (yielded ops a.tmps) = c0 := by
                unfold Region.wanted
                rw [hgo]
                simp only [yielded_get htj (by rw [ht.1]; exact htn)]
                exact gw_rel (ht.2 t htn) hu
              rw [hw]
              split at hv
              · rename_i k xs
                obtain ⟨h1, h2⟩ := hv
                cases c0 with
                | true =>
                  simp only [if_true]
                  exact vcDo_sound e0 (h1 rfl) ht hr hd Q
                | false =>
                  simp only [Bool.false_eq_true, if_false]
                  exact ⟨M, ⟨put S.T o.dst (.tup []), S.H⟩, ht.put o.dst (rel_undef M), hr, put_defers hd _ _, .refl _ _ _, h2 rfl⟩
              · rename_i hne
                split at hv
                · rename_i q v hev
                  obtain ⟨h1, h2⟩ := hv
                  cases c0 with
                  | true =>
                    simp only [if_true]
                    have hpp : trP P n o.op = some c := by
                      unfold trOp at hc
                      split at hc
                      · rename_i h; cases hc; exact h
                      · split at hc
                        · simp only [Option.map_eq_some_iff] at hc
                          obtain ⟨cs, _, rfl⟩ := hc
                          exact absurd rfl (hne _ _)
                        · cases hc
                          exact absurd rfl (hne _ _)
                    obtain ⟨x, g1, g2⟩ := trP_sound hpp ht hr hev (h1 rfl)
                    exact wp_value ht hd g1 (by simp only [VRel]; exact ⟨fun _ => g2, fun h => by cases h⟩) hr (.refl _ _ _) h2
                  | false =>
                    simp only [Bool.false_eq_true, if_false]
                    exact ⟨M, ⟨put S.T o.dst (.gd false v), S.H⟩, ht.put o.dst (by simp only [VRel]; exact ⟨(fun h => by cases h), fun _ => trivial⟩), hr, put_defers hd _ _, .refl _ _ _, h2⟩
                · obtain ⟨h1, h2⟩ := hv
                  subst h1
                  simp only [Bool.false_eq_true, if_false]
                  exact ⟨M, ⟨put S.T o.dst (.tup []), S.H⟩, ht.put o.dst (rel_undef M), hr, put_defers hd _ _, .refl _ _ _, h2⟩
            · exact hv.elim
          · cases hg
        · cases hg
    · cases e
  · cases e
/-- A region's operations, in the text's order. -/
theorem vcOps_sound {md : Nat → Bool} {ops : Array Oper} {Q : Exit → Act → World → Prop} : ∀ (l : List Oper) (cos : List CO) (i : Nat), (∀ j, l[j]? = ops[i + j]?) → trOps P n md ops l = some cos → ∀ (S : AS) (M : Mem) (a : Act) (w : World),
    vcOps P cos S K → TRel n M S.T a.tmps → Rel M S.H w → a.defers = [] → (∀ a' w', Fin n M S.H w K a' w' → Q .normal a' w') → wpOps P ops Q (List.range' i l.length) a w
  | [], cos, i, hl, e, S, M, a, w, hv, ht, hr, hd, hQ => by
    simp only [trOps, Option.some.injEq] at e; subst e
    simp only [List.length_nil, List.range'_zero, wpOps]
    exact hQ _ _ ⟨M, S, ht, hr, hd, .refl _ _ _, hv⟩
  | o :: l, cos, i, hl, e, S, M, a, w, hv, ht, hr, hd, hQ => by
    simp only [trOps] at e
    split at e
    · rename_i c cs e1 e2
      cases e
      simp only [List.length_cons, List.range'_succ]
      rw [wpOps_cons]
      have h0 : ops[i]? = some o := by simpa using (hl 0).symm
      have hl' : ∀ j, l[j]? = ops[i + 1 + j]? := fun j => by
        have := hl (j + 1)
        rw [show i + 1 + j = i + (j + 1) by omega]; simpa using this
      have hnext : ∀ a' w', Fin n M S.H w (fun S' => vcOps P cs S' K) a' w' → wpOps P ops Q (List.range' (i + 1) l.length) a' w' := by
        rintro a' w' ⟨M', S', k1, k2, k3, k4, k5⟩
        exact vcOps_sound l cs (i + 1) hl' e2 S' M' a' w' k5 k1 k2 k3 fun a2 w2 hf => hQ _ _ (hf.step k4)
      have hop := vcOp_sound (K := fun S' => vcOps P cs S' K) e1 hv ht hr hd Q
      unfold wpOp
      rw [h0]
      simp only
      split
      · rename_i hw
        rw [if_pos hw] at hop
        exact .inl (Oper.wp_mono hnext hop)
      · rename_i hw
        rw [if_neg hw] at hop
        exact hnext _ _ hop
    · cases e
theorem ops_sound {md : Nat → Bool} {ops : Array Oper} {cos : List CO} {id : Nat} (e : trOps P n md ops ops.toList = some cos) {Q : Exit → AS → Prop} (hv : vcOps P cos S (Q .normal)) : CT P n (.region id ops false) S Q := by
  intro M a w ht hr hd
  refine wp_region ?_
  rw [List.range_eq_range']
  have := vcOps_sound (Q := fun e => Fin n M S.H w (Q e)) ops.toList cos 0 (fun j => by simp) e S M a w hv ht hr hd (fun a' w' hf => hf)
  simpa using this
end
end Go.Sf
