/- Code: its translation, the condition under which it does what is asked of it, and that this is right. -/
import Derived.Test.YtffifddlooligaaSf21a
set_option linter.unusedVariables false
set_option linter.unusedSimpArgs false
namespace Go.Sf
section
variable {P : Program} {n : Nat} {ops : Array Oper}

theorem wpAny_of_seq' {md : Region.Mode} {Q' : Exit → Act → World → Prop} : ∀ (l : List Oper) (k : Nat) (listed : Array Bool) (a : Act) (w : World), (∀ j, l[j]? = ops[k + j]?) →
    Region.seqB md ops l.length k listed = true → wpOps P ops Q' (List.range' k l.length) a w → wpAny P md ops Q' l.length listed a w
  | [], _, _, _, _, _, hB, h => ⟨by simpa [Region.seqB] using hB, by simpa [wpOps] using h⟩
  | o :: l, k, listed, a, w, hl, hB, h => by
    have h0 : ops[k]? = some o := by simpa using (hl 0).symm
    simp only [List.length_cons, Region.seqB, Bool.and_eq_true, decide_eq_true_eq] at hB
    simp only [List.length_cons, List.range'_succ] at h
    rw [wpOps_cons] at h
    refine ⟨fun h1 => (by rw [hB.1] at h1; cases h1), fun i hi => ?_⟩
    rw [hB.1] at hi
    have hik : i = k := by simpa using hi
    subst hik
    exact wpOp_mono (fun a' w' h' => wpAny_of_seq' l (i + 1) _ a' w' (fun j => by have := hl (j + 1); simpa [Nat.add_assoc, Nat.add_comm 1 j] using this) hB.2 h') h
theorem drawT_sound {mdn : Nat → Bool} {hs ts : List CO} {id m : Nat} {S : AS} {Q : Exit → AS → Prop} (hm : P.follows .mixedOrders = true) (hB : Region.lexTailB .any ops m = true) (e1 : trOps P n mdn ops (ops.toList.take m) = some hs)
    (e2 : trOps P n mdn ops (ops.toList.drop m) = some ts) (hv : vcQ P S.H hs S.T fun T => vcOps P ts ⟨T, S.H⟩ (Q .normal)) : CT P n (.region id ops true) S Q := by
  intro M a w ht hr hd
  simp only [Region.lexTailB, Bool.and_eq_true, decide_eq_true_eq] at hB
  obtain ⟨⟨⟨⟨hsel, hn⟩, hsk⟩, hc⟩, hlex⟩ := hB
  refine wp_region_any hm ?_
  have htl : (ops.toList.take m).length = m := by simp; omega
  have hdl : (ops.toList.drop m).length = ops.size - m := by simp
  have inv0 : HeadInv .any ops m (Array.replicate ops.size false) :=
    ⟨by simp, fun j oj _ hl => (by rw [getD_replicate_false] at hl; cases hl), fun t _ ht => getD_in (by simpa using ht) (getD_replicate_false _ _)⟩
  have hA := aAnyT_lex (P := P) (n := n) (H := S.H) (md := .any) (g := ops.size - m) hsel hsk hc hn (ops.toList.take m) 0 _ S.T (fun j hj => by
    have hj' : j < m := by rw [htl] at hj; exact hj
    simp [hj']) (by simpa using htl) inv0 (by rw [htl]; exact hlex) (qWalk_of_vcQ e1 hv)
  have := wpAny_of_aAny (g := ops.size - m) (M0 := M) (w0 := w) (Q' := fun e => Fin n M S.H w (Q e)) (fun listed T M' a' w' hL t' r' d' f' => by
    have h1 := vcOps_sound (Q := fun e => Fin n M S.H w (Q e)) (ops.toList.drop m) ts m (fun j => by simp [List.getElem?_drop]) e2 ⟨T, S.H⟩ M' a' w' hL.2 t' r' d' (fun a2 w2 hf => hf.step f')
    have h2 := wpAny_of_seq' (md := .any) (Q' := fun e => Fin n M S.H w (Q e)) (ops.toList.drop m) m listed a' w' (fun j => by simp [List.getElem?_drop]) (by rw [hdl]; exact hL.1) h1
    rwa [hdl] at h2) (ops.toList.take m).length _ _ M a { w with drawn := w.drawn + 1 } ht (hr.drawn _) hd (Fr.drawn _ _ _ _) hA
  rw [htl, show m + (ops.size - m) = ops.size by omega] at this
  exact this

/-- How a program's code is translated: by choices of the reader's: which new slices are to be written ('mt', by the temporary); how many operations of a region whose order is open are quiet ('hd', by the region; none: all; 0: every order that writes is walked); ahead of which regions the state may be weakened (wk). -/
structure Md where
  mt : Nat → Bool
  hd : Nat → Option Nat
  wk : Nat → Bool
def trC (P : Program) (n : Nat) (md : Md) : Code → Option CCode
  | .skip => some .skip
  | .region id ops false => (trOps P n md.mt ops ops.toList).map fun l => if md.wk id then .mark (.ops l) else .ops l
  | .region id ops true => match md.hd id with
    | none => if Region.lexB .any ops && P.follows .mixedOrders then (trOps P n md.mt ops ops.toList).map fun l => if md.wk id then .mark (.draw l []) else .draw l [] else none
    | some 0 => if Region.noSelect ops && P.follows .mixedOrders then (trT P n md.mt ops ops.size (Array.replicate ops.size false)).map fun t => if md.wk id then .mark (.any t) else .any t else none
    | some m => if Region.lexTailB .any ops m && P.follows .mixedOrders then
        match trOps P n md.mt ops (ops.toList.take m), trOps P n md.mt ops (ops.toList.drop m) with
        | some h, some t => some (if md.wk id then .mark (.draw h t) else .draw h t)
        | _, _ => none
      else none
  | .seq a b => match trC P n md a, trC P n md b with
    | some a, some b => some (.seq a b)
    | _, _ => none
  | .cond c a b => match trX n c, trC P n md a, trC P n md b with
    | some c, some a, some b => some (.cond c a b)
    | _, _, _ => none
  | .block id a => (trC P n md a).map (.block id)
  | .loop a => (trC P n md a).map .loop
  | .exit id => some (.exit id)
  | .ret => some .ret
  | _ => none
def LoopV (R : AS → (Exit → AS → Prop) → Prop) (S : AS) (Q : Exit → AS → Prop) : Prop :=
  ∃ (I : Nat → AS → Prop) (k : Nat), I k S ∧ ∀ k S, I k S → R S (thenQ (fun S' => ∃ k', k' < k ∧ I k' S') Q)
def MarkV (R : AS → (Exit → AS → Prop) → Prop) (S : AS) (Q : Exit → AS → Prop) : Prop := ∃ S', Weak S S' ∧ R S' Q
def vc (P : Program) : CCode → AS → (Exit → AS → Prop) → Prop
  | .skip, S, Q => Q .normal S
  | .ops l, S, Q => vcOps P l S (Q .normal)
  | .any t, S, Q => vcT P t S (Q .normal)
  | .draw h t, S, Q => vcQ P S.H h S.T fun T => vcOps P t ⟨T, S.H⟩ (Q .normal)
  | .seq a b, S, Q => vc P a S (thenQ (fun S' => vc P b S' Q) Q)
  | .cond c a b, S, Q => match un (c.ev S.T) with
    | (p, .bool x) => p ∧ (x = true → vc P a S Q) ∧ (x = false → vc P b S Q)
    | _ => False
  | .block id a, S, Q => vc P a S (inBlockQ id Q)
  | .loop a, S, Q => LoopV (vc P a) S Q
  | .exit id, S, Q => Q (.exit id) S
  | .ret, S, Q => Q .ret S
  | .mark a, S, Q => MarkV (vc P a) S Q
theorem vc_sound {md : Md} : ∀ {c : Code} {cc : CCode}, trC P n md c = some cc → ∀ {S : AS} {Q : Exit → AS → Prop}, vc P cc S Q → CT P n c S Q := by
  intro c
  induction c with
  | skip => intro cc e S Q h; simp only [trC, Option.some.injEq] at e; subst e; exact CT.skip h
  | region id ops draw =>
    intro cc e S Q h
    have mark : ∀ (b : Bool) (c' : CCode), cc = (if b then .mark c' else c') → (∀ S, vc P c' S Q → CT P n (.region id ops draw) S Q) → CT P n (.region id ops draw) S Q := by
      intro b c' hcc hk
      cases b with
      | true =>
        simp only [if_true] at hcc; subst hcc
        simp only [vc, MarkV] at h
        obtain ⟨S', h1, h2⟩ := h
        exact CT.weak h1 (hk S' h2)
      | false =>
        simp only [Bool.false_eq_true, if_false] at hcc; subst hcc
        exact hk S h
    cases draw with
    | false =>
      simp only [trC, Option.map_eq_some_iff] at e
      obtain ⟨l, hl, rfl⟩ := e
      exact mark _ _ rfl fun S h => ops_sound hl (by simpa only [vc] using h)
    | true =>
      simp only [trC] at e
      split at e
      · split at e
        · rename_i hb
          simp only [Bool.and_eq_true] at hb
          simp only [Option.map_eq_some_iff] at e
          obtain ⟨l, hl, rfl⟩ := e
          exact mark _ _ rfl fun S h => draw_sound hb.2 hb.1 hl (by simpa only [vc, vcOps] using h)
        · cases e
      · split at e
        · rename_i hb
          simp only [Bool.and_eq_true] at hb
          simp only [Option.map_eq_some_iff] at e
          obtain ⟨l, hl, rfl⟩ := e
          exact mark _ _ rfl fun S h => any_sound hb.2 hb.1 hl (by simpa only [vc] using h)
        · cases e
      · split at e
        · rename_i hb
          simp only [Bool.and_eq_true] at hb
          split at e
          · rename_i hh tt e1 e2
            cases e
            exact mark _ _ rfl fun S h => drawT_sound hb.2 hb.1 e1 e2 (by simpa only [vc] using h)
          · cases e
        · cases e
  | seq a b iha ihb =>
    intro cc e S Q h
    simp only [trC] at e
    split at e
    · rename_i ca cb e1 e2
      cases e
      simp only [vc] at h
      refine CT.seq ((iha e1 h).mono fun e S' hS => ?_)
      cases e <;> first | exact hS | exact ihb e2 hS
    · cases e
  | cond c a b iha ihb =>
    intro cc e S Q h
    simp only [trC] at e
    split at e
    · rename_i cx ca cb e0 e1 e2
      cases e
      simp only [vc] at h
      split at h
      · rename_i p x hu
        obtain ⟨hp, h1, h2⟩ := h
        refine CT.cond (b := x) (fun M a ht => ?_) ?_
        · have hc := un_rel (trX_rel e0 ht) (by rw [hu]; exact hp)
          rw [hu] at hc
          exact vr_bool hc
        · cases x with
          | true => exact iha e1 (h1 rfl)
          | false => exact ihb e2 (h2 rfl)
      · exact h.elim
    · cases e
  | block id a iha =>
    intro cc e S Q h
    simp only [trC, Option.map_eq_some_iff] at e
    obtain ⟨ca, e1, rfl⟩ := e
    exact CT.block (iha e1 (by simpa only [vc] using h))
  | loop a iha =>
    intro cc e S Q h
    simp only [trC, Option.map_eq_some_iff] at e
    obtain ⟨ca, e1, rfl⟩ := e
    simp only [vc, LoopV] at h
    obtain ⟨I, k, h0, h1⟩ := h
    exact CT.loop I k h0 fun k S hI => iha e1 (h1 k S hI)
  | exit id => intro cc e S Q h; simp only [trC, Option.some.injEq] at e; subst e; exact CT.exit h
  | ret => intro cc e S Q h; simp only [trC, Option.some.injEq] at e; subst e; exact CT.ret h
  | rangeFunc => intro cc e; simp [trC] at e
  | scope => intro cc e; simp [trC] at e
  | label => intro cc e; simp [trC] at e
  | goto => intro cc e; simp [trC] at e
  | refuse => intro cc e; simp [trC] at e

/-- A function that has been translated. -/
structure FnOK (P : Program) (f : Nat) (md : Md) (n : Nat) (cc : CCode) (ts : List Nat) : Prop where
  ok : ∃ fn c, P.funcs[f]? = some fn ∧ fn.body = some c ∧ fn.ntmps = n ∧ resTmps fn.results.toList = some ts ∧ trC P n md c = some cc
  res : ts.all (· < n) = true
theorem CC.of_vc {f : Nat} {md : Md} {cc : CCode} {ts : List Nat} (hf : FnOK P f md n cc ts) {args : List AV} {H : Heap} {Q : AV → Heap → Prop} (ha : args.length ≤ n)
    (h : vc P cc ⟨argT args, H⟩ fun e S => (e = .normal ∨ e = .ret) ∧ Q (resAV S.T ts) S.H) : CC P f args H Q := by
  obtain ⟨fn, c, h1, h2, h3, h4, h5⟩ := hf.ok
  subst h3
  exact CC.of_body h1 h2 h4 (fun t ht => by simpa using List.all_eq_true.1 hf.res t ht) ha (vc_sound h5 h)
end
end Go.Sf
