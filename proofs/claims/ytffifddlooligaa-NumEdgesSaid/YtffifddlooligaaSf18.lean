/- Calls; all operations together; regions in the text's order; code. -/
import Derived.Test.YtffifddlooligaaSf17
set_option linter.unusedVariables false
set_option linter.unusedSimpArgs false
namespace Go.Sf
section
variable {P : Program} {n : Nat} {o : Oper} {S : AS} {K : AS → Prop} {M : Mem} {a : Act} {w : World} {Q : Exit → Act → World → Prop}

theorem callB_spec {f : Nat} (h : callB P f = true) : ∃ fn, P.funcs[f]? = some fn ∧ fn.body.isSome = true ∧ (fn.name == "runtime.NumGoroutine") = false := by
  unfold callB at h
  split at h
  · rename_i fn hf
    simp only [Bool.and_eq_true, bne_iff_ne, ne_eq] at h
    exact ⟨fn, hf, h.1, by simpa using h.2⟩
  · cases h
theorem run_callFunc {f : Nat} (h : callB P f = true) (args : Array Value) (w : World) : (callFunc f args).run P w = .ok (.enter f args) w := by
  obtain ⟨fn, hf, hb, hn⟩ := callB_spec h
  unfold callFunc
  show Sem.run P (match P.funcs[f]? with | none => stuck "call: no such function" | some fn => _) w = _
  rw [hf]
  simp only [hn, Bool.false_eq_true, if_false]
  have : fn.body.isNone = false := by cases hfb : fn.body <;> simp_all
  simp only [this, Bool.false_eq_true, if_false, run_pure]
theorem call_step (ht : TRel n M S.T a.tmps) (hr : Rel M S.H w) (hd : a.defers = []) {f : Nat} {as : List AV} {vs : List Value} (hx : VRels M as vs)
    (hrun : (execOp a.eval o).run P w = .ok (.enter f vs.toArray) w) (hv : CC P f as S.H fun v H' => K ⟨put S.T o.dst v, H'⟩) : o.wp P a w (Fin n M S.H w K) Q := by
  unfold Oper.wp
  rw [hrun]
  refine (hv M w vs hx hr).mono fun e w' ⟨v, x, M', H', he, h1, h2, h3, h4⟩ => ?_
  subst he
  exact ⟨M', _, (ht.mono h3.mle).put o.dst h1, h2, put_defers hd _ _, h3, h4⟩
theorem map_toArray (args : Array Operand) (ρ : Operand → Value) : args.map ρ = (args.toList.map ρ).toArray := by apply Array.toList_inj.1; simp
theorem call_sound (ht : TRel n M S.T a.tmps) (hr : Rel M S.H w) (hd : a.defers = []) {f : Nat} {args : Array Operand} {ts : Array TypeId} (ho : o.op = .call { callee := .value (.func f), args := args, argTypes := ts }) (hf : callB P f = true)
    {as : List AV} (hx : VRels M as (args.toList.map a.eval)) (hv : vcE P (.call f) as o.dst S K) : o.wp P a w (Fin n M S.H w K) Q := by
  simp only [vcE] at hv
  refine call_step ht hr hd hx ?_ hv
  have : execOp a.eval o = callFunc f ((#[] ++ args.map a.eval) ++ #[]) := by
    unfold execOp
    rw [ho]
    rfl
  rw [this, run_callFunc hf]
  congr 2
  rw [← map_toArray]; simp
theorem callv_sound (ht : TRel n M S.T a.tmps) (hr : Rel M S.H w) (hd : a.defers = []) {t : Nat} {args : Array Operand} {ts : Array TypeId} (ho : o.op = .call { callee := .value (.tmp t), args := args, argTypes := ts })
    {as : List AV} (hx : VRels M as ((Operand.tmp t :: args.toList).map a.eval)) (hv : vcE P .callv as o.dst S K) : o.wp P a w (Fin n M S.H w K) Q := by
  obtain ⟨v, as', rfl, h1, h2⟩ := vrc hx
  cases v <;> (try (simp only [vcE] at hv; done))
  rename_i f first captured
  cases f <;> (try (simp only [vcE] at hv; done))
  rename_i f
  cases first with
  | cons _ _ => simp only [vcE] at hv
  | nil =>
    simp only [vcE] at hv
    simp only [VRel] at h1
    obtain ⟨xs, ys, h1, h3, h4⟩ := h1
    have hxs : xs = #[] := by apply Array.toList_inj.1; simpa only [VRels] using h3
    subst hxs
    refine call_step ht hr hd (h2.append h4) ?_ hv.2
    have : execOp a.eval o = (do let d ← Deferred.ofValue (a.eval (.tmp t)) (args.map a.eval); invoke d.target d.args) := by
      unfold execOp
      rw [ho]
      rfl
    rw [this, h1]
    show (callFunc f ((#[] ++ args.map a.eval) ++ ys)).run P w = _
    rw [run_callFunc hv.1]
    congr 2
    rw [map_toArray]; simp
/-- All of them. -/
theorem trE_sound {mt : Bool} {k : EK} {xs : List Operand} (e : trE P n mt o.op = some (k, xs)) (hdst : (∃ t x y, o.op = .store t x y) → o.dst = none) (ht : TRel n M S.T a.tmps) (hr : Rel M S.H w) (hd : a.defers = []) {as : List AV} (hx : VRels M as (xs.map a.eval))
    (hv : vcE P k as o.dst S K) : o.wp P a w (Fin n M S.H w K) Q := by
  cases hop : o.op <;> rw [hop] at e <;> simp only [trE, reduceCtorEq] at e
  case alloc el =>
    simp only [Option.map_eq_some_iff, Prod.mk.injEq] at e
    obtain ⟨z, hz, rfl, rfl⟩ := e
    simp only [List.map_nil] at hx
    have : as = [] := by cases as with | nil => rfl | cons _ _ => have := hx.length; simp at this
    subst this
    exact alloc_sound ht hr hd hop hz hv
  case box el x =>
    cases e
    obtain ⟨v, rfl, h1⟩ := vr1 hx
    exact box_sound ht hr hd hop h1 hv
  case buildSlice t len parts =>
    split at e
    · rename_i el hu
      split at e
      · rename_i s b z he
        split at e
        · rename_i hl; cases e; exact bslice_sound ht hr hd hop hu (elemT_spec he) hl hx hv
        · cases e
      · cases e
    · cases e
  case store t x y =>
    simp only [Option.bind_eq_some_iff] at e
    obtain ⟨sz, hs, kk, hk, e⟩ := e
    split at e
    · rename_i hc
      cases e
      obtain ⟨v1, v2, rfl, h1, h2⟩ := vr2 hx
      obtain ⟨i, hi, his⟩ := sizeT_spec hk
      exact store_sound ht hr hd hop (szT_spec hs) hi his hc (hdst ⟨_, _, _, hop⟩) h1 h2 hv
    · cases e
  case convert src dst x =>
    split at e
    · rename_i el h1 h2
      split at e
      · rename_i h3
        cases e
        obtain ⟨v, rfl, hv1⟩ := vr1 hx
        exact s2b_sound ht hr hd hop h1 h2 h3 hv1 hv
      · cases e
    · rename_i e1 el h1 h2
      split at e
      · rename_i h3
        split at e
        · rename_i heq
          cases e
          obtain ⟨v, rfl, hv1⟩ := vr1 hx
          exact mark_sound ht hr hd hop h1 h2 h3 heq hv1 hv
        · cases e
      · cases e
    · cases e
  case makeSlice t l c =>
    split at e
    · rename_i el hu
      split at e
      · rename_i s b z he
        cases e
        exact mkslice_sound ht hr hd hop hu (elemT_spec he) hx hv
      · cases e
    · cases e
  case makeMap t r =>
    cases r with
    | some _ => simp at e
    | none =>
      simp only [Option.some.injEq, Prod.mk.injEq] at e
      obtain ⟨rfl, rfl⟩ := e
      simp only [List.map_nil] at hx
      have : as = [] := by cases as with | nil => rfl | cons _ _ => have := hx.length; simp at this
      subst this
      exact mkmap_sound ht hr hd hop hv
  case mapUpdate t m k x =>
    split at e
    · rename_i kt et hu
      simp only [Option.map_eq_some_iff, Prod.mk.injEq] at e
      obtain ⟨sk, hs, rfl, rfl⟩ := e
      exact mset_sound ht hr hd hop hu hs hx hv
    · cases e
  case call c =>
    obtain ⟨callee, args, ts⟩ := c
    cases callee with
    | invoke _ _ => simp at e
    | value f =>
      cases f with
      | func f =>
        simp only at e
        split at e
        · rename_i hf; cases e; exact call_sound ht hr hd hop hf hx hv
        · cases e
      | tmp t => simp only [Option.some.injEq, Prod.mk.injEq] at e; obtain ⟨rfl, rfl⟩ := e; exact callv_sound ht hr hd hop hx hv
      | const _ => simp at e
      | global _ => simp at e
    | builtin b =>
      cases b <;> simp only [reduceCtorEq] at e
      case delete =>
        split at e
        · rename_i m k t ha hts
          split at e
          · rename_i kt et hu
            simp only [Option.map_eq_some_iff, Prod.mk.injEq] at e
            obtain ⟨sk, hs, rfl, rfl⟩ := e
            exact mdel_sound ht hr hd hop ha hts hu hs hx hv
          · cases e
        · cases e
      case append =>
        split at e
        · rename_i s x t t2 ha hts
          have ha2 : args = #[s, x] := by apply Array.toList_inj.1; simpa using ha
          have ht2 : ts = #[t, t2] := by apply Array.toList_inj.1; simpa using hts
          split at e
          · rename_i el e2 hu h2
            split at e
            · rename_i s' b z he
              cases e
              obtain ⟨v1, v2, rfl, h1, h3⟩ := vr2 hx
              exact append_sound ht hr hd hop ha2 ht2 hu (.inl ⟨_, h2⟩) (elemT_spec he) h1 h3 hv
            · cases e
          · rename_i el hu h2
            split at e
            · rename_i s' b z he
              cases e
              obtain ⟨v1, v2, rfl, h1, h3⟩ := vr2 hx
              exact append_sound ht hr hd hop ha2 ht2 hu (.inr h2) (elemT_spec he) h1 h3 hv
            · cases e
          · cases e
        · cases e
end
end Go.Sf
