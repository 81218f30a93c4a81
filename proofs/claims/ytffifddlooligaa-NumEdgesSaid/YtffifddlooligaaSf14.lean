/- The operations that make, write or call: their translation, and that it is right. -/
import Derived.Test.YtffifddlooligaaSf13
set_option linter.unusedVariables false
set_option linter.unusedSimpArgs false
namespace Go.Sf

def zeroT (P : Program) (t : TypeId) : Option Value := (P.info? t).bind (·.zero)
def elemT (P : Program) (e : TypeId) : Option (Nat × Nat × Value) :=
  match P.info? e with
  | some i => match i.zero with
    | some z => if z.cells.size = i.size ∧ 0 < i.size ∧ 0 < i.bytes then some (i.size, i.bytes, z) else none
    | none => none
  | none => none
def trCallee (n : Nat) (f : Operand) : Option (Option Nat) :=
  match f with
  | .func k => some (some k)
  | .tmp t => if t < n then some none else none
  | _ => none
def trE (P : Program) (n : Nat) (mt : Bool) (o : Op) : Option (EK × List Operand) :=
  match o with
  | .alloc e => (zeroT P e).map fun z => (.alloc (z.cells.toList.map ofCell), [])
  | .box _ x => some (.box, [x])
  | .buildSlice t len parts => match P.underlying t with
    | some (.slice e) => match elemT P e with
      | some (s, _, z) => if len * s ≤ 16777216 then some (.bslice (!mt) (((List.range (len * s)).map fun i => z.cells[i % z.cells.size]!).map ofCell) (parts.toList.map fun (i, _) => (i * s, s)) len, parts.toList.map (·.2)) else none
      | none => none
    | _ => none
  | .store t a x => (szT P t).bind fun sz => (sizeT P t).bind fun k => if sz = none → k = 1 then some (.store sz, [a, x]) else none
  | .convert src dst x => match P.underlying src, P.underlying dst with
    | some .string, some (.slice e) => match P.underlying e with
      | some (.int .u8) => some (.s2b, [x])
      | _ => none
    | some (.slice _), some (.slice e) => match P.underlying e with
      | some (.int .u8) => if src = dst then some (.mark, [x]) else none
      | _ => none
    | _, _ => none
  | .makeSlice t l c => match P.underlying t with
    | some (.slice e) => match elemT P e with
      | some (s, b, z) => some (.mkslice (!mt) (z.cells.toList.map ofCell) b, [l, c])
      | none => none
    | _ => none
  | .makeMap _ none => some (.mkmap, [])
  | .mapUpdate t m k x => match P.underlying t with
    | some (.map kt _) => (skT P kt).map fun sk => (.mset sk, [m, k, x])
    | _ => none
  | .call { callee := .builtin .delete, args, argTypes } => match args.toList, argTypes[0]? with
    | [m, k], some t => match P.underlying t with
      | some (.map kt _) => (skT P kt).map fun sk => (.mdel sk, [m, k])
      | _ => none
    | _, _ => none
  | .call { callee := .builtin .append, args, argTypes } => match args.toList, argTypes.toList with
    | [s, x], [t, t2] => match P.underlying t, P.underlying t2 with
      | some (.slice e), some (.slice _) | some (.slice e), some .string => match elemT P e with
        | some (s', b, z) => some (.append (!mt) s' b, [s, x])
        | none => none
      | _, _ => none
    | _, _ => none
  | .call { callee := .value f, args, .. } => match f with
    | .func k => if callB P k then some (.call k, args.toList) else none
    | .tmp t => some (.callv, .tmp t :: args.toList)
    | _ => none
  | _ => none

/-- From every state that S stands for, the operation does what K asks. -/
def StepOK (P : Program) (n : Nat) (o : Oper) (S : AS) (K : AS → Prop) : Prop :=
  ∀ M a w, TRel n M S.T a.tmps → Rel M S.H w → a.defers = [] → ∀ Q, o.wp P a w (Fin n M S.H w K) Q

theorem TRel.put {n : Nat} {M : Mem} {T : Nat → AV} {a : Act} (r : TRel n M T a.tmps) (d : Option Nat) {v : AV} {x : Value} (h : VRel M v x) : TRel n M (Sf.put T d v) (a.put d x).tmps := by
  cases d with
  | none => exact r
  | some d => exact r.set h
theorem put_defers {a : Act} (h : a.defers = []) (d : Option Nat) (x : Value) : (a.put d x).defers = [] := by cases d <;> exact h
/-- An operation that yields a value in a world. -/
theorem wp_value {P : Program} {n : Nat} {o : Oper} {S : AS} {K : AS → Prop} {M M' : Mem} {a : Act} {w w' : World} {x : Value} {v : AV} {H' : Heap} {Q : Exit → Act → World → Prop}
    (ht : TRel n M S.T a.tmps) (hd : a.defers = []) (hrun : (execOp a.eval o).run P w = .ok (.value x) w') (hv : VRel M' v x) (hr : Rel M' H' w') (hf : Fr M S.H w M' H' w')
    (hK : K ⟨put S.T o.dst v, H'⟩) : o.wp P a w (Fin n M S.H w K) Q := by
  unfold Oper.wp
  rw [hrun]
  exact ⟨M', _, (ht.mono hf.mle).put o.dst hv, hr, put_defers hd _ _, hf, hK⟩
theorem wp_skip' {P : Program} {n : Nat} {o : Oper} {S : AS} {K : AS → Prop} {M : Mem} {a : Act} {w w' : World} {H' : Heap} {Q : Exit → Act → World → Prop}
    (ht : TRel n M S.T a.tmps) (hd : a.defers = []) (hdst : o.dst = none) (hrun : (execOp a.eval o).run P w = .ok .skip w') (hr : Rel M H' w') (hf : Fr M S.H w M H' w')
    (hK : K ⟨S.T, H'⟩) : o.wp P a w (Fin n M S.H w K) Q := by
  unfold Oper.wp
  rw [hrun]
  refine ⟨M, ⟨S.T, H'⟩, ?_, hr, put_defers hd _ _, hf, hK⟩
  rw [hdst]; exact ht

theorem one_rel {M : Mem} {v : AV} {x : Value} (h : VRel M v x) (hv : v.one = true) : one1 x = true := by
  cases v <;> simp only [AV.one, reduceCtorEq] at hv <;> simp only [VRel] at h
  case iptr => obtain ⟨_, _, _, rfl, _⟩ := h; rfl
  case imm => obtain ⟨_, _, _, rfl, _⟩ := h; rfl
  case fn => obtain ⟨_, _, rfl, _⟩ := h; rfl
  all_goals (subst h; rfl)
theorem ones_rel {M : Mem} : ∀ {vs : List AV} {xs : List Value}, VRels M vs xs → vs.all AV.one = true → ∀ x ∈ xs, one1 x = true
  | [], xs, h, k, x, hx => by simp only [VRels] at h; subst h; cases hx
  | v :: vs, xs, h, k, x, hx => by
    simp only [VRels] at h
    obtain ⟨y, ys, rfl, h1, h2⟩ := h
    simp only [List.all_cons, Bool.and_eq_true] at k
    rcases List.mem_cons.1 hx with rfl | hx
    · exact one_rel h1 k.1
    · exact ones_rel h2 k.2 x hx
theorem elemT_spec {P : Program} {e : TypeId} {s b : Nat} {z : Value} (h : elemT P e = some (s, b, z)) : ElemOK P e s b z := by
  unfold elemT at h
  split at h
  · rename_i i hi
    split at h
    · rename_i z' hz
      split at h
      · rename_i hc
        cases h
        exact ⟨⟨i, hi, rfl, rfl, hz⟩, hc.1, hc.2.1, hc.2.2⟩
      · cases h
    · cases h
  · cases h
theorem take_full {c : List Value} {k : Nat} (h : c.length = k) : c.take k = c := by rw [← h]; simp
theorem brel_cells {M : Mem} {vs : List AV} {xs : List Value} (h : VRels M vs xs) (rest : List Value) (e : TypeId) : BRel M (.cells vs (xs.length + rest.length)) (.cells (xs ++ rest).toArray e (0, 0)) := by
  simp only [BRel]
  refine ⟨_, e, (0, 0), rfl, by simp, by rw [h.length]; omega, .inl rfl, ?_⟩
  rw [h.length]; simpa using h

/-- alloc, box: a new variable. -/
theorem newVar_step {P : Program} {n : Nat} {o : Oper} {S : AS} {K : AS → Prop} {M : Mem} {a : Act} {w : World} {Q : Exit → Act → World → Prop} (ht : TRel n M S.T a.tmps) (hr : Rel M S.H w) (hd : a.defers = [])
    {e : TypeId} {c : Array Value} {cs : List AV} (hc : VRels M cs c.toList) (hrun : (execOp a.eval o).run P w = .ok (.value (.pointer (some ⟨w.heap.size, 0, none⟩))) (wpush w (.cells c e (0, 0))))
    (hK : ∀ b, S.H b = none → K ⟨put S.T o.dst (.ptr b 0), S.H.set b (some (.cells cs cs.length))⟩) : o.wp P a w (Fin n M S.H w K) Q := by
  have hb : BRel M (.cells cs cs.length) (.cells c e (0, 0)) := by
    have := brel_cells hc [] e
    rw [hc.length]; simpa using this
  exact wp_value ht hd hrun (by simp only [VRel]) (hr.push hb) (Fr.push _ _ _ _ _) (hK _ (hr.fresh (Nat.le_refl _)))
theorem alloc_sound {P : Program} {n : Nat} {o : Oper} {S : AS} {K : AS → Prop} {M : Mem} {a : Act} {w : World} {Q : Exit → Act → World → Prop} (ht : TRel n M S.T a.tmps) (hr : Rel M S.H w) (hd : a.defers = [])
    {e : TypeId} {z : Value} (ho : o.op = .alloc e) (hz : zeroT P e = some z) (hv : vcE P (.alloc (z.cells.toList.map ofCell)) [] o.dst S K) : o.wp P a w (Fin n M S.H w K) Q := by
  obtain ⟨i, hi, hiz⟩ := Option.bind_eq_some_iff.1 hz
  refine newVar_step (e := e) (c := z.cells) ht hr hd (ofCells_rel M _) ?_ hv
  unfold execOp
  rw [ho]
  simp only [Instr.alloc, run_bind, run_zeroValue hi hiz, newVar, run_newRow, run_pure]
theorem box_sound {P : Program} {n : Nat} {o : Oper} {S : AS} {K : AS → Prop} {M : Mem} {a : Act} {w : World} {Q : Exit → Act → World → Prop} (ht : TRel n M S.T a.tmps) (hr : Rel M S.H w) (hd : a.defers = [])
    {e : TypeId} {x : Operand} (ho : o.op = .box e x) {v : AV} (hx : VRel M v (a.eval x)) (hv : vcE P .box [v] o.dst S K) : o.wp P a w (Fin n M S.H w K) Q := by
  simp only [vcE] at hv
  refine newVar_step (e := e) (c := (a.eval x).cells) ht hr hd (known_cells hx hv.1) ?_ hv.2
  unfold execOp
  rw [ho]
  simp only [Instr.box, run_bind, newVar, run_newRow, run_pure]
/-- A new slice: held for good, or to be written. -/
theorem newSlice_step {P : Program} {n : Nat} {o : Oper} {S : AS} {K : AS → Prop} {M : Mem} {a : Act} {w : World} {Q : Exit → Act → World → Prop} (ht : TRel n M S.T a.tmps) (hr : Rel M S.H w) (hd : a.defers = [])
    {e : TypeId} {xs rest : List Value} {cs : List AV} {fr : Nat × Nat} {d : Nat} (hc : VRels M cs xs) {len cap : Nat} (hlc : len ≤ cap) (frozen : Bool)
    (hrun : (execOp a.eval o).run P w = .ok (.value (.slice (some ⟨w.heap.size, 0, none⟩) len cap)) (wpush { w with drawn := d } (.cells (xs ++ rest).toArray e fr)))
    (hfr : frozen = false → fr = (0, 0))
    (hK : if frozen then ∃ c, (∀ x, c = some x → cap = x) ∧ K ⟨put S.T o.dst (.imm cs len c), S.H⟩ else ∀ b, S.H b = none → K ⟨put S.T o.dst (.sl b 0 len cap), S.H.set b (some (.cells cs (xs.length + rest.length)))⟩) :
    o.wp P a w (Fin n M S.H w K) Q := by
  cases frozen with
  | true =>
    simp only [if_true] at hK
    obtain ⟨c, hcc, hK⟩ := hK
    obtain ⟨h1, h2⟩ := (hr.drawn d).push_hold (xs ++ rest).toArray e fr
    refine wp_value ht hd hrun ?_ h1 ((Fr.drawn M S.H w d).trans h2) hK
    simp only [VRel]
    refine ⟨_, xs, cap, rfl, hcc, hlc, fun h => (by cases h), fun x hx => ?_, VRels.mono h2.mle _ _ hc⟩
    cases hx
    refine ⟨rfl, fun j u hj => ?_⟩
    simp only [madd, if_true, Nat.zero_add]
    have : j < xs.length := (List.getElem?_eq_some_iff.1 hj).1
    simp only [List.getElem?_append_left this]
    exact hj
  | false =>
    simp only [Bool.false_eq_true, if_false] at hK
    have hfr := hfr rfl
    subst hfr
    exact wp_value ht hd hrun (by simp only [VRel]) ((hr.drawn d).push (brel_cells hc rest e)) ((Fr.drawn M S.H w d).trans (Fr.push _ _ _ _ _)) (hK _ (hr.fresh (Nat.le_refl _)))
/-! ### Maps -/
theorem run_setObj {P : Program} {w : World} {b : Nat} {xs : Array MapEntry} {clock : Nat} (h : w.heap[b]? = some (.map xs clock)) (ys : Array MapEntry) (c : Nat) : (setObj b (.map ys c)).run P w = .ok () (wset w b (.map ys c)) := by
  simp only [setObj, Sem.run, h]
  rfl
theorem mkmap_sound {P : Program} {n : Nat} {o : Oper} {S : AS} {K : AS → Prop} {M : Mem} {a : Act} {w : World} {Q : Exit → Act → World → Prop} (ht : TRel n M S.T a.tmps) (hr : Rel M S.H w) (hd : a.defers = [])
    {t : TypeId} (ho : o.op = .makeMap t none) (hv : vcE P .mkmap [] o.dst S K) : o.wp P a w (Fin n M S.H w K) Q := by
  simp only [vcE] at hv
  refine wp_value (x := .map (some w.heap.size)) ht hd (w' := wpush w (.map #[] 0)) ?_ (by simp only [VRel]) (hr.push (k := .map []) ?_) (Fr.push _ _ _ _ _) (hv _ (hr.fresh (Nat.le_refl _)))
  · unfold execOp
    rw [ho]
    rfl
  · simp only [BRel]
    exact ⟨#[], 0, rfl, MapKept.stamped_empty 0, by simp [VRels], by simp [VRels]⟩
theorem wp_skipA {P : Program} {n : Nat} {o : Oper} {S : AS} {K : AS → Prop} {M : Mem} {a : Act} {w w' : World} {H' : Heap} {Q : Exit → Act → World → Prop}
    (ht : TRel n M S.T a.tmps) (hd : a.defers = []) (hrun : (execOp a.eval o).run P w = .ok .skip w') (hr : Rel M H' w') (hf : Fr M S.H w M H' w')
    (hK : K ⟨put S.T o.dst .any, H'⟩) : o.wp P a w (Fin n M S.H w K) Q := by
  unfold Oper.wp
  rw [hrun]
  exact ⟨M, ⟨put S.T o.dst .any, H'⟩, ht.put o.dst (by simp only [VRel]), hr, put_defers hd _ _, hf, hK⟩
theorem scal_same {M : Mem} {sk : SK} {a b : AV} {x y : Value} (ha : VRel M a x) (hb : VRel M b y) (h : scalEq sk a b = some true) : Instr.sameBits 10000 y x = true := by
  unfold scalEq at h
  split at h
  · split at h
    · rename_i hk
      subst hk
      simp only [Option.some.injEq, decide_eq_true_eq] at h; subst h
      rw [vr_int ha, vr_int hb]; simp [Instr.sameBits]
    · cases h
  · simp only [Option.some.injEq, decide_eq_true_eq] at h; subst h
    rw [vr_bool ha, vr_bool hb]; simp [Instr.sameBits]
  · simp only [Option.some.injEq, decide_eq_true_eq] at h; subst h
    rw [vr_str ha, vr_str hb]; simp only [Instr.sameBits]; rw [beq_toListBytes, ba_eq]; simp
  · cases h
theorem scal_val {M : Mem} {sk : SK} {a b : AV} {x y : Value} (ha : VRel M a x) (hb : VRel M b y) (h : scalEq sk a b = some true) : x = y := by
  unfold scalEq at h
  split at h
  · split at h
    · rename_i hk
      subst hk
      simp only [Option.some.injEq, decide_eq_true_eq] at h; subst h
      rw [vr_int ha, vr_int hb]
    · cases h
  · simp only [Option.some.injEq, decide_eq_true_eq] at h; subst h
    rw [vr_bool ha, vr_bool hb]
  · simp only [Option.some.injEq, decide_eq_true_eq] at h; subst h
    rw [vr_str ha, vr_str hb]
  · cases h
theorem scal_ne {M : Mem} {sk : SK} {a b : AV} {x y : Value} (ha : VRel M a x) (hb : VRel M b y) (h : scalEq sk a b = some false) : y ≠ x := by
  unfold scalEq at h
  split at h
  · split at h
    · rename_i hk
      subst hk
      simp only [Option.some.injEq, decide_eq_false_iff_not] at h
      rw [vr_int ha, vr_int hb]
      intro e; cases e; exact h rfl
    · cases h
  · simp only [Option.some.injEq, decide_eq_false_iff_not] at h
    rw [vr_bool ha, vr_bool hb]
    intro e; cases e; exact h rfl
  · simp only [Option.some.injEq, decide_eq_false_iff_not] at h
    rw [vr_str ha, vr_str hb]
    intro e; cases e; exact h rfl
  · cases h
theorem find_none {M : Mem} {sk : SK} {k : AV} {x : Value} (hk : VRel M k x) : ∀ {es : List (AV × AV)} {xs : List MapEntry}, VRels M (es.map (·.1)) (xs.map (·.key)) → findI sk k es = some none → ∀ e ∈ xs, e.key ≠ x
  | [], xs, h, e, y, hy => by
    simp only [List.map_nil, VRels, List.map_eq_nil_iff] at h; subst h; cases hy
  | e0 :: es, [], h, e, y, hy => by cases hy
  | e0 :: es, x0 :: xs, h, e, y, hy => by
    simp only [List.map_cons, VRels] at h
    obtain ⟨_, _, h1, h2, h3⟩ := h
    cases h1
    simp only [findI] at e
    split at e
    · simp at e
    · rename_i hs
      split at e
      · rename_i r hr
        simp only [Option.some.injEq, Option.map_eq_none_iff] at e
        subst e
        rcases List.mem_cons.1 hy with rfl | hy
        · exact scal_ne hk h2 hs
        · exact find_none hk h3 hr y hy
      · cases e
    · cases e
theorem findI_eq {sk : SK} {k : AV} : ∀ {es : List (AV × AV)} {j : Nat} {e : AV × AV}, findI sk k es = some (some j) → es[j]? = some e → scalEq sk k e.1 = some true
  | [], j, e, h, h' => by simp at h'
  | e0 :: es, j, e, h, h' => by
    simp only [findI] at h
    split at h
    · rename_i hs; cases h; simp at h'; subst h'; exact hs
    · split at h
      · rename_i r hr
        cases r with
        | none => simp at h
        | some j' => simp at h; subst h; exact findI_eq hr (by simpa using h')
      · cases h
    · cases h
theorem mset_sound {P : Program} {n : Nat} {o : Oper} {S : AS} {K : AS → Prop} {M : Mem} {a : Act} {w : World} {Q : Exit → Act → World → Prop} (ht : TRel n M S.T a.tmps) (hr : Rel M S.H w) (hd : a.defers = [])
    {t kt et : TypeId} {m k x : Operand} (ho : o.op = .mapUpdate t m k x) (hu : P.underlying t = some (.map kt et)) {sk : SK} (hs : skT P kt = some sk) {as : List AV} (hx : VRels M as ([m, k, x].map a.eval))
    (hv : vcE P (.mset sk) as o.dst S K) : o.wp P a w (Fin n M S.H w K) Q := by
  obtain ⟨d, hud, hd'⟩ := skT_spec hs
  obtain ⟨v1, as1, rfl, h1, hx⟩ := vrc hx
  obtain ⟨v2, as2, rfl, h2, hx⟩ := vrc hx
  obtain ⟨v3, as3, rfl, h3, hx⟩ := vrc hx
  simp only [List.map_nil] at hx
  have : as3 = [] := by cases as3 with | nil => rfl | cons _ _ => have := hx.length; simp at this
  subst this
  cases v1 <;> (try (simp only [vcE] at hv; done))
  rename_i b
  simp only [vcE] at hv
  split at hv
  · rename_i es hb
    split at hv
    · rename_i r hr'
      obtain ⟨o', ho', hrel⟩ := hr.live _ _ hb
      simp only [BRel] at hrel
      obtain ⟨xs, clock, rfl, hst, hk, hvv⟩ := hrel
      simp only [VRel] at h1
      have hl := hvv.length
      simp only [List.length_map] at hl
      have hfind := run_findKey hud hd' h2 hk hr' w
      have hbase : execOp a.eval o = (do Instr.mapUpdate t (a.eval m) (a.eval k) (a.eval x); pure .skip) := by
        unfold execOp; rw [ho]
      cases r with
      | none =>
        refine wp_skipA ht hd (w' := wset w b (.map (xs.push { key := a.eval k, val := a.eval x, born := clock }) (clock + 1))) ?_ (hr.wset hb (k' := .map (msetV v2 v3 es none)) ?_) (Fr.wset hb _ _) hv
        · rw [hbase, h1]
          unfold Instr.mapUpdate
          simp only [run_bind, run_underlying hu, run_getMap ho', run_checkKey hud hd', hfind, Option.bind_none, run_setObj ho', run_pure]
        · simp only [BRel, msetV]
          refine ⟨_, _, rfl, MapKept.stamped_push hst (find_none h2 hk hr'), ?_, ?_⟩
          · simp only [List.map_append, List.map_cons, List.map_nil, Array.toList_push]
            exact hk.append (.cons h2 .nil)
          · simp only [List.map_append, List.map_cons, List.map_nil, Array.toList_push]
            exact hvv.append (.cons h3 .nil)
      | some j =>
        have hj' := findI_lt hr'
        have hj : j < xs.toList.length := by rw [← hl]; exact hj'
        have hj2 : j < xs.size := by simpa using hj
        have hsame : Instr.sameBits 10000 xs[j].key (a.eval k) = true := by
          obtain ⟨u, hu1, hu2⟩ := hk.get (i := j) (a := es[j].1) (by simp [List.getElem?_eq_getElem hj'])
          rw [List.getElem?_map, List.getElem?_eq_getElem hj] at hu1
          simp only [Option.map_some, Option.some.injEq, Array.getElem_toList] at hu1
          rw [hu1]
          exact scal_same h2 hu2 (findI_eq hr' (List.getElem?_eq_getElem hj'))
        refine wp_skipA ht hd (w' := wset w b (.map (xs.modify j fun e => { e with key := a.eval k, val := a.eval x }) clock)) ?_ (hr.wset hb (k' := .map (msetV v2 v3 es (some j))) ?_) (Fr.wset hb _ _) hv
        · rw [hbase, h1]
          unfold Instr.mapUpdate
          simp only [run_bind, run_underlying hu, run_getMap ho', run_checkKey hud hd', hfind, Option.bind_some, List.getElem?_eq_getElem hj, Option.map_some, Instr.keyThatStays, Array.getElem?_eq_getElem hj2, Option.getD_some, hsame, if_true, run_setObj ho', run_pure]
        · simp only [BRel, msetV]
          refine ⟨_, _, rfl, MapKept.stamped_modify hst j _ (fun _ _ => rfl) (fun e _ he => ?_), ?_, ?_⟩
          · rw [Array.getElem?_eq_getElem hj2] at he
            cases he
            obtain ⟨u, hu1, hu2⟩ := hk.get (i := j) (a := es[j].1) (by simp [List.getElem?_eq_getElem hj'])
            rw [List.getElem?_map, List.getElem?_eq_getElem hj] at hu1
            simp only [Option.map_some, Option.some.injEq, Array.getElem_toList] at hu1
            show a.eval k = xs[j].key
            rw [hu1]
            exact scal_val h2 hu2 (findI_eq hr' (List.getElem?_eq_getElem hj'))
          · rw [modify_eq _ _ _ (Array.getElem?_eq_getElem hj2), Array.toList_setIfInBounds, List.map_set, List.map_set]
            exact hk.set j h2
          · rw [modify_eq _ _ _ (Array.getElem?_eq_getElem hj2), Array.toList_setIfInBounds, List.map_set, List.map_set]
            exact hvv.set j h3
    · exact hv.elim
  · exact hv.elim
theorem VRels.eraseIdx {M : Mem} {as : List AV} {vs : List Value} (h : VRels M as vs) (j : Nat) : VRels M (as.eraseIdx j) (vs.eraseIdx j) := by
  rw [List.eraseIdx_eq_take_drop_succ, List.eraseIdx_eq_take_drop_succ]
  exact (h.take j).append (h.drop (j + 1))
theorem map_erase {α β : Type} (f : α → β) (l : List α) (j : Nat) : (l.eraseIdx j).map f = (l.map f).eraseIdx j := by
  rw [List.eraseIdx_eq_take_drop_succ, List.eraseIdx_eq_take_drop_succ, List.map_append, List.map_take, List.map_drop]
theorem mdel_sound {P : Program} {n : Nat} {o : Oper} {S : AS} {K : AS → Prop} {M : Mem} {a : Act} {w : World} {Q : Exit → Act → World → Prop} (ht : TRel n M S.T a.tmps) (hr : Rel M S.H w) (hd : a.defers = [])
    {t kt et : TypeId} {args : Array Operand} {ts : Array TypeId} {m k : Operand} (ho : o.op = .call { callee := .builtin .delete, args := args, argTypes := ts }) (ha : args.toList = [m, k]) (hts : ts[0]? = some t) (hu : P.underlying t = some (.map kt et)) {sk : SK} (hs : skT P kt = some sk)
    {as : List AV} (hx : VRels M as ([m, k].map a.eval)) (hv : vcE P (.mdel sk) as o.dst S K) : o.wp P a w (Fin n M S.H w K) Q := by
  obtain ⟨d, hud, hd'⟩ := skT_spec hs
  obtain ⟨v1, v2, rfl, h1, h2⟩ := vr2 hx
  cases v1 <;> (try (simp only [vcE] at hv; done))
  rename_i b
  simp only [vcE] at hv
  split at hv
  · rename_i es hb
    split at hv
    · rename_i r hr'
      obtain ⟨o', ho', hrel⟩ := hr.live _ _ hb
      simp only [BRel] at hrel
      obtain ⟨xs, clock, rfl, hst, hk, hvv⟩ := hrel
      simp only [VRel] at h1
      have hl := hvv.length
      simp only [List.length_map] at hl
      have hfind := run_findKey hud hd' h2 hk hr' w
      have ha2 : args = #[m, k] := by apply Array.toList_inj.1; simpa using ha
      subst ha2
      have hbase : execOp a.eval o = (do pure (.value (← Builtin.delete_ ts o.type #[a.eval m, a.eval k]))) := by
        have e1 : #[m, k].map a.eval = #[a.eval m, a.eval k] := by simp
        have e2 : execOp a.eval o = (do pure (.value (← Builtin.delete_ ts o.type (#[m, k].map a.eval)))) := by
          unfold execOp; rw [ho]; rfl
        rw [e2, e1]
      have hts' : ts[0]? = some t := hts
      cases r with
      | none =>
        refine wp_value (x := .tuple #[]) ht hd (w' := wset w b (.map xs clock)) ?_ (by simp only [VRel]; exact ⟨#[], rfl, .nil⟩) (hr.wset hb (k' := .map (mdelV es none)) ?_) (Fr.wset hb _ _) hv
        · rw [hbase, h1]
          unfold Builtin.delete_
          simp only [hts', List.getElem?_toArray, List.getElem?_cons_zero, List.getElem?_cons_succ, run_bind, run_underlying hu, run_getMap ho', run_checkKey hud hd', hfind, Option.bind_none, run_setObj ho', run_pure]
        · simp only [BRel, mdelV]
          exact ⟨_, _, rfl, hst, hk, hvv⟩
      | some j =>
        have hj' := findI_lt hr'
        have hj : j < xs.toList.length := by rw [← hl]; exact hj'
        have hj2 : j < xs.size := by simpa using hj
        refine wp_value (x := .tuple #[]) ht hd (w' := wset w b (.map (xs.eraseIdxIfInBounds j) clock)) ?_ (by simp only [VRel]; exact ⟨#[], rfl, .nil⟩) (hr.wset hb (k' := .map (mdelV es (some j))) ?_) (Fr.wset hb _ _) hv
        · rw [hbase, h1]
          unfold Builtin.delete_
          simp only [hts', List.getElem?_toArray, List.getElem?_cons_zero, List.getElem?_cons_succ, run_bind, run_underlying hu, run_getMap ho', run_checkKey hud hd', hfind, Option.bind_some, List.getElem?_eq_getElem hj, Option.map_some, run_setObj ho', run_pure]
        · simp only [BRel, mdelV]
          have he : (xs.eraseIdxIfInBounds j).toList = xs.toList.eraseIdx j := by
            unfold Array.eraseIdxIfInBounds
            rw [dif_pos hj2, Array.toList_eraseIdx]
          refine ⟨_, _, rfl, MapKept.stamped_erase hst j, ?_, ?_⟩
          · rw [he, map_erase, map_erase]; exact hk.eraseIdx j
          · rw [he, map_erase, map_erase]; exact hvv.eraseIdx j
    · exact hv.elim
  · exact hv.elim
theorem wdrawn (w : World) : { w with drawn := w.drawn } = w := rfl
end Go.Sf
