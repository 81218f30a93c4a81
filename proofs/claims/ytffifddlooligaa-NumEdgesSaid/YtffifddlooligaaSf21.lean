/- Regions whose order is open: the theorem. -/
import Derived.Test.YtffifddlooligaaSf20
set_option linter.unusedVariables false
set_option linter.unusedSimpArgs false
namespace Go.Sf
section
variable {P : Program} {n : Nat} {md : Region.Mode} {ops : Array Oper} {H : Heap}

def aOp (P : Program) (n : Nat) (ops : Array Oper) (H : Heap) (i : Nat) (K : (Nat → AV) → Prop) (T : Nat → AV) : Prop :=
  match ops[i]? with
  | none => K T
  | some o => ∃ v, QV P n ops o H T v ∧ K (put T o.dst v)
theorem aOp_mono {i : Nat} {T : Nat → AV} {K K' : (Nat → AV) → Prop} (h : ∀ T, K T → K' T) (hh : aOp P n ops H i K T) : aOp P n ops H i K' T := by
  unfold aOp at *
  split
  · rename_i e; rw [e] at hh; exact h _ hh
  · rename_i o e; rw [e] at hh; obtain ⟨v, h1, h2⟩ := hh; exact ⟨v, h1, h _ h2⟩
/-- Whatever order is picked among the operations ahead of number m: then L. -/
def aAny (P : Program) (n : Nat) (md : Region.Mode) (ops : Array Oper) (H : Heap) (m : Nat) (L : Array Bool → (Nat → AV) → Prop) : Nat → Array Bool → (Nat → AV) → Prop
  | 0, listed, T => L listed T
  | f + 1, listed, T => Region.ready md ops listed ≠ [] ∧ ∀ i ∈ Region.ready md ops listed, i < m ∧ aOp P n ops H i (aAny P n md ops H m L f (listed.setIfInBounds i true)) T
theorem aOp_put {j : Nat} {oi oj : Oper} {v : AV} (hj : ops[j]? = some oj) (hap : oi.apart ops oj = true) {K : (Nat → AV) → Prop} {T : Nat → AV}
    (hy : QV P n ops oi H T v) (h : aOp P n ops H j K (put T oi.dst v)) :
    aOp P n ops H j (fun T' => QV P n ops oi H T' v ∧ K (put T' oi.dst v)) T := by
  obtain ⟨h1, h2, h3⟩ := Oper.apart_spec hap
  unfold aOp at *
  simp only [hj] at *
  obtain ⟨u, hu, hK⟩ := h
  refine ⟨u, hu.congr fun t ht => ?_, hy.congr fun t ht => ?_, ?_⟩
  · symm; exact put_other fun e => h1 t e ht
  · exact put_other fun e => h3 t e ht
  · rw [← put_comm' v u h2]; exact hK
theorem aAny_first {m i : Nat} {oi : Oper} {v : AV} {L : Array Bool → (Nat → AV) → Prop} {HI : Array Bool → Prop} (hi : ops[i]? = some oi) (him : i < m)
    (htail : ∀ listed, HI listed → ∀ i, i < m → listed.getD i true = false → ∀ j ∈ Region.ready md ops listed, j < m)
    (hset : ∀ listed j, HI listed → j ∈ Region.ready md ops listed → j < m → HI (listed.setIfInBounds j true))
    (hdone : ∀ listed T, L listed T → ∀ j ∈ Region.ready md ops listed, m ≤ j) :
    ∀ (f : Nat) (listed : Array Bool) (T : Nat → AV), HI listed →
      (∀ j oj, ops[j]? = some oj → j ≠ i → listed.getD j true = false → (∀ e ∈ oj.after, Region.binds md e = true → e.on ≠ i) → oi.apart ops oj = true) →
      i ∈ Region.ready md ops listed → QV P n ops oi H T v →
      aAny P n md ops H m L f (listed.setIfInBounds i true) (put T oi.dst v) → aAny P n md ops H m L (f + 1) listed T := by
  intro f
  induction f with
  | zero =>
    intro listed T inv _ hr hy hh
    have hun := (mem_ready.1 hr).1
    refine ⟨fun h => (by rw [h] at hr; cases hr), fun j hj => ?_⟩
    have hjn := htail listed inv i him hun j hj
    refine ⟨hjn, ?_⟩
    by_cases hji : j = i
    · subst hji; unfold aOp; rw [hi]; exact ⟨v, hy, hh⟩
    · have := hdone _ _ hh j (ready_mono hj hji)
      omega
  | succ f ih =>
    intro listed T inv hfree hr hy hh
    have hun := (mem_ready.1 hr).1
    refine ⟨fun h => (by rw [h] at hr; cases hr), fun j hj => ?_⟩
    have hjn := htail listed inv i him hun j hj
    refine ⟨hjn, ?_⟩
    by_cases hji : j = i
    · subst hji; unfold aOp; rw [hi]; exact ⟨v, hy, hh⟩
    · have h1 := (hh.2 j (ready_mono hj hji)).2
      obtain ⟨hjun, oj, hoj, hall⟩ := mem_ready.1 hj
      have hnot : ∀ e ∈ oj.after, Region.binds md e = true → e.on ≠ i := fun e he hb heq => by
        have h1 := hall e he hb
        rw [heq, getD_both hun] at h1
        cases h1
      have h2 := aOp_put hoj (hfree j oj hoj hji hjun hnot) hy h1
      have hfree' : ∀ k ok, ops[k]? = some ok → k ≠ i → (listed.setIfInBounds j true).getD k true = false →
          (∀ e ∈ ok.after, Region.binds md e = true → e.on ≠ i) → oi.apart ops ok = true := fun k ok hk hki hun hno => by
        refine hfree k ok hk hki ?_ hno
        by_cases hjk : j = k
        · subst hjk; exact hjun
        · rw [getD_set_ne true hjk] at hun; exact hun
      refine aOp_mono (fun T' h3 => ih (listed.setIfInBounds j true) T' (hset _ _ inv hj hjn) hfree' (ready_mono hr (Ne.symm hji)) h3.1 ?_) h2
      rw [Array.setIfInBounds_comm _ _ hji]
      exact h3.2
/-- The abstract walk over the model's operations. -/
def qWalk (P : Program) (n : Nat) (ops : Array Oper) (H : Heap) : List Oper → (Nat → AV) → ((Nat → AV) → Prop) → Prop
  | [], T, K => K T
  | o :: l, T, K => ∃ v, QV P n ops o H T v ∧ qWalk P n ops H l (put T o.dst v) K
theorem qWalk_of_vcQ {mdn : Nat → Bool} : ∀ {l : List Oper} {cos : List CO}, trOps P n mdn ops l = some cos → ∀ {T : Nat → AV} {K : (Nat → AV) → Prop}, vcQ P H cos T K → qWalk P n ops H l T K
  | [], cos, e, T, K, h => by simp only [trOps, Option.some.injEq] at e; subst e; exact h
  | o :: l, cos, e, T, K, h => by
    simp only [trOps] at e
    split at e
    · rename_i c cs e1 e2
      cases e
      simp only [vcQ] at h
      obtain ⟨v, h1, h2⟩ := vcQ1_QV e1 h
      refine ⟨v, h1, qWalk_of_vcQ e2 ?_⟩
      have hd : c.dst = o.dst := by
        unfold trCO at e1
        split at e1
        · split at e1
          · cases e1; rfl
          · cases e1
        · cases e1
      rw [← hd]; exact h2
    · cases e
/-- What an operation that is quiet does, in a world. -/
theorem wpOp_of_aOp {i : Nat} {K : (Nat → AV) → Prop} {T : Nat → AV} {M : Mem} {a : Act} {w : World} {K' : Act → World → Prop} {Q : Exit → Act → World → Prop} (hh : aOp P n ops H i K T) (ht : TRel n M T a.tmps) (hr : Rel M H w) (hd : a.defers = [])
    (hK : ∀ T' M' a' w', K T' → TRel n M' T' a'.tmps → Rel M' H w' → a'.defers = [] → Fr M H w M' H w' → K' a' w') : wpOp P ops Q i K' a w := by
  unfold aOp at hh
  unfold wpOp
  split
  · rename_i e; rw [e] at hh; exact hK T M a w hh ht hr hd (.refl _ _ _)
  · rename_i o e
    rw [e] at hh
    obtain ⟨v, hq, hk⟩ := hh
    have := hq M a w (fun t _ htn => ht.2 t htn) ht.1 hr hd
    split
    · rename_i hw
      rw [if_pos hw] at this
      refine .inl (Oper.wp_mono (fun a' w' ⟨M', k1, ⟨x, k2⟩, k3, k4, k5⟩ => ?_) (this Q))
      refine hK _ M' a' w' hk ⟨?_, fun t htn => ?_⟩ k4 k3 k5
      · rw [k2]; cases o.dst <;> simp [Act.put, ht.1]
      · by_cases hdt : o.dst = some t
        · have h1 := k1 t hdt htn
          rw [hdt]; simpa [put, tset] using h1
        · rw [put_other hdt, k2]
          have h1 := VRel.mono k5.mle _ _ (ht.2 t htn)
          cases hod : o.dst with
          | none => exact h1
          | some d =>
            have hne : d ≠ t := fun e => hdt (by rw [hod, e])
            simp only [Act.put, Array.getD_eq_getD_getElem?] at h1 ⊢
            rwa [Array.getElem?_setIfInBounds_ne hne]
    · rename_i hw
      rw [if_neg hw] at this
      refine hK _ M _ w hk ?_ hr (put_defers hd _ _) (.refl _ _ _)
      exact ht.put o.dst this
theorem wpAny_of_aAny {m g : Nat} {L : Array Bool → (Nat → AV) → Prop} {M0 : Mem} {w0 : World} {Q' : Exit → Act → World → Prop}
    (hL : ∀ listed T M a w, L listed T → TRel n M T a.tmps → Rel M H w → a.defers = [] → Fr M0 H w0 M H w → wpAny P md ops Q' g listed a w) :
    ∀ (f : Nat) (listed : Array Bool) (T : Nat → AV) (M : Mem) (a : Act) (w : World), TRel n M T a.tmps → Rel M H w → a.defers = [] → Fr M0 H w0 M H w → aAny P n md ops H m L f listed T → wpAny P md ops Q' (f + g) listed a w
  | 0, listed, T, M, a, w, ht, hr, hd, hf, h => by rw [Nat.zero_add]; exact hL _ _ _ _ _ h ht hr hd hf
  | f + 1, listed, T, M, a, w, ht, hr, hd, hf, h => by
    rw [show f + 1 + g = (f + g) + 1 by omega]
    refine ⟨fun h0 => absurd h0 h.1, fun i hi => ?_⟩
    exact wpOp_of_aOp (h.2 i hi).2 ht hr hd fun T' M' a' w' hk t' r' d' f' => wpAny_of_aAny hL f _ T' M' a' w' t' r' d' (hf.trans f') hk
/-- All operations are quiet. -/
theorem aAny_lex {Kf : (Nat → AV) → Prop} (hsel : Region.noSelect ops = true) : ∀ (l : List Oper) (k : Nat) (listed : Array Bool) (T : Nat → AV), (∀ j, l[j]? = ops[k + j]?) → k + l.length = ops.size →
    Region.lexFrom md ops l.length k listed = true → qWalk P n ops H l T Kf → aAny P n md ops H ops.size (fun listed' T' => Region.ready md ops listed' = [] ∧ Kf T') l.length listed T
  | [], k, listed, T, hl, hk, hB, h => ⟨by simpa [Region.lexFrom] using hB, h⟩
  | o :: l, k, listed, T, hl, hk, hB, h => by
    have h0 : ops[k]? = some o := by simpa using (hl 0).symm
    simp only [List.length_cons, Region.lexFrom, Bool.and_eq_true] at hB
    obtain ⟨⟨hr, hf⟩, hB'⟩ := hB
    obtain ⟨v, hy, hK⟩ := h
    refine aAny_first (HI := fun _ => True) h0 (by simp only [List.length_cons] at hk; omega) (fun listed _ i hi hun j hj => ?_) (fun _ _ _ _ _ => trivial) (fun listed T hL j hj => by rw [hL.1] at hj; cases hj) l.length listed T trivial (Region.free_spec h0 hf) (by simpa using hr) hy
      (aAny_lex hsel l (k + 1) _ _ (fun j => by have := hl (j + 1); simpa [Nat.add_assoc, Nat.add_comm 1 j] using this) (by simp only [List.length_cons] at hk; omega) hB' hK)
    obtain ⟨_, oj, hoj, _⟩ := mem_ready.1 hj
    exact (Array.getElem?_eq_some_iff.1 hoj).1
theorem draw_sound {mdn : Nat → Bool} {cos : List CO} {id : Nat} {S : AS} {Q : Exit → AS → Prop} (hm : P.follows .mixedOrders = true) (hB : Region.lexB .any ops = true) (e : trOps P n mdn ops ops.toList = some cos)
    (hv : vcQ P S.H cos S.T fun T => Q .normal ⟨T, S.H⟩) : CT P n (.region id ops true) S Q := by
  intro M a w ht hr hd
  simp only [Region.lexB, Bool.and_eq_true] at hB
  refine wp_region_any hm ?_
  have hA := aAny_lex (P := P) (n := n) (H := S.H) (md := .any) hB.1 ops.toList 0 (Array.replicate ops.size false) S.T (by simp) (by simp) (by simpa using hB.2) (qWalk_of_vcQ e hv)
  have := wpAny_of_aAny (g := 0) (M0 := M) (w0 := w) (Q' := fun e => Fin n M S.H w (Q e)) (fun listed T M' a' w' hL t' r' d' f' => ⟨hL.1, ⟨M', ⟨T, S.H⟩, t', r', d', f', hL.2⟩⟩) ops.toList.length _ _ M a { w with drawn := w.drawn + 1 } ht (hr.drawn _) hd (Fr.drawn _ _ _ _) hA
  simpa using this
/-- The operations ahead of number m are quiet; those behind come in one order. -/
theorem aAnyT_lex {m g : Nat} {Kf : (Nat → AV) → Prop} (hsel : Region.noSelect ops = true) (hs : Region.sinkB md ops m = true) (hc : Region.chainB md ops m = true) (hn : m < ops.size) :
    ∀ (l : List Oper) (k : Nat) (listed : Array Bool) (T : Nat → AV), (∀ j, j < l.length → l[j]? = ops[k + j]?) → k + l.length = m → HeadInv md ops m listed →
    Region.lexHead md ops g l.length k listed = true → qWalk P n ops H l T Kf →
    aAny P n md ops H m (fun listed' T' => Region.seqB md ops g m listed' = true ∧ Kf T') l.length listed T
  | [], k, listed, T, _, hk, _, hB, h => by
    have : k = m := by simpa using hk
    subst this
    exact ⟨by simpa [Region.lexHead] using hB, h⟩
  | o :: l, k, listed, T, hl, hk, inv, hB, h => by
    have h0 : ops[k]? = some o := by simpa using (hl 0 (by simp)).symm
    simp only [List.length_cons, Region.lexHead, Bool.and_eq_true] at hB
    obtain ⟨⟨hr, hf⟩, hB'⟩ := hB
    have hkm : k < m := by simp only [List.length_cons] at hk; omega
    have hr' : k ∈ Region.ready md ops listed := by simpa using hr
    obtain ⟨v, hy, hK⟩ := h
    refine aAny_first (HI := HeadInv md ops m) h0 hkm (fun listed inv i hi hun j hj => ?_) (fun listed j inv hj hjm => inv.set hj hjm) (fun listed T hL => seqB_ready hL.1) l.length listed T inv (Region.free_spec h0 hf) hr' hy
      (aAnyT_lex hsel hs hc hn l (k + 1) _ _ (fun j hj => by have := hl (j + 1) (by simp; omega); simpa [Nat.add_assoc, Nat.add_comm 1 j] using this) (by simp only [List.length_cons] at hk; omega) (inv.set hr' hkm) hB' hK)
    rcases Nat.lt_or_ge j m with h | h
    · exact h
    · exact absurd hj (tail_waits hs hc hn inv _ i rfl hi hun j h)
end
end Go.Sf
