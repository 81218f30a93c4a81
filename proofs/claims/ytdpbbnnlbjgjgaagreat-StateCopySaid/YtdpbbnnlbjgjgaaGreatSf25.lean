import Derived.Test.YtdpbbnnlbjgjgaaGreatSf19
import Derived.StillTail
section
/- Regions whose order is open: one walk in the text's order serves every order. -/
set_option linter.unusedVariables false
set_option linter.unusedSimpArgs false
namespace Go.Sf

/-- Operations that make or call and leave the heap as it is. -/
def vcQE (P : Program) (k : EK) (xs : List AV) (H : Heap) (K : AV → Prop) : Prop :=
  match k, xs with
  | .call f, xs => ∃ v, CC P f xs H (fun u H' => u = v ∧ H' = H) ∧ K v
  | .callv, .fn (.func f) [] captured :: xs => callB P f = true ∧ ∃ v, CC P f (xs ++ captured) H (fun u H' => u = v ∧ H' = H) ∧ K v
  | .bslice true zero ps len, xs => xs.all AV.known = true ∧ match fillC zero ps xs with
    | some cs => K (.imm cs len (some len))
    | none => False
  | .s2b, [.str s] => K (.imm (s.data.toList.map byteV) s.size none)
  | .append true sz bytes, [s, x] => match appOld H sz s, cellsOf H sz x, lenOf s, lenOf x with
    | some (old, none), some new, some n, some m => new.all AV.one = true ∧ (n + m) * bytes ≤ 140737488355328 ∧ K (.imm (old ++ new) (n + m) none)
    | _, _, _, _ => False
  | _, _ => False
theorem vcQE_spec {P : Program} {k : EK} {xs : List AV} {H : Heap} {K : AV → Prop} (h : vcQE P k xs H K) : ∃ v, K v ∧ ∀ (d : Option Nat) (T : Nat → AV), vcE P k xs d ⟨T, H⟩ fun S' => S'.H = H ∧ ∀ t, d = some t → S'.T t = v := by
  have hput : ∀ (v : AV) (d : Option Nat) (T : Nat → AV) (t : Nat), d = some t → put T d v t = v := by
    intro v d T t h; subst h; simp [put, tset]
  unfold vcQE at h
  split at h
  · obtain ⟨v, h1, h2⟩ := h
    exact ⟨v, h2, fun d T => by simp only [vcE]; exact h1.mono fun u H' hu => ⟨hu.2, fun t ht => by rw [hu.1]; exact hput _ d T t ht⟩⟩
  · obtain ⟨hb, v, h1, h2⟩ := h
    exact ⟨v, h2, fun d T => by simp only [vcE]; exact ⟨hb, h1.mono fun u H' hu => ⟨hu.2, fun t ht => by rw [hu.1]; exact hput _ d T t ht⟩⟩⟩
  · obtain ⟨hk, h⟩ := h
    split at h
    · rename_i cs hcs
      exact ⟨_, h, fun d T => by simp only [vcE, hcs, if_true]; exact ⟨hk, (by first | trivial | rfl), fun t ht => hput _ d T t ht⟩⟩
    · exact h.elim
  · exact ⟨_, h, fun d T => by simp only [vcE]; exact ⟨(by first | trivial | rfl), fun t ht => hput _ d T t ht⟩⟩
  · split at h
    · rename_i old new n m e1 e2 e3 e4
      obtain ⟨h1, h2, h3⟩ := h
      refine ⟨_, h3, fun d T => ?_⟩
      simp only [vcE, e1, e2, e3, e4, if_true, Heap.less]
      exact ⟨h1, h2, (by first | trivial | rfl), fun t ht => hput _ d T t ht⟩
    · exact h.elim
  · exact h.elim
def vcQ1 (P : Program) (H : Heap) (o : CO) (T : Nat → AV) (K : AV → Prop) : Prop :=
  match o.g with
  | none => match o.op with
    | .e k xs => (getAll xs T).1 ∧ vcQE P k (getAll xs T).2 H K
    | op => match evP op T H with
      | some (p, v) => p ∧ K v
      | none => False
  | some (t, want) => match gw want (T t) with
    | some c => (match o.op with
      | .e k xs => ∃ v, (c = true → (getAll xs T).1 ∧ vcQE P k (getAll xs T).2 H (fun u => u = v)) ∧ K (.gd c v)
      | op => match evP op T H with
        | some (p, v) => (c = true → p) ∧ K (.gd c v)
        | none => c = false ∧ K (.tup []))
    | none => False
def vcQ (P : Program) (H : Heap) : List CO → (Nat → AV) → ((Nat → AV) → Prop) → Prop
  | [], T, K => K T
  | o :: l, T, K => vcQ1 P H o T fun v => vcQ P H l (put T o.dst v) K

/-- In a state T, whatever the world, the operation yields what v stands for, and leaves the heap as it is. -/
def QV (P : Program) (n : Nat) (ops : Array Oper) (o : Oper) (H : Heap) (T : Nat → AV) (v : AV) : Prop :=
  ∀ M a w, (∀ t ∈ o.looksAt ops, t < n → VRel M (T t) (a.tmps.getD t undef)) → a.tmps.size = n → Rel M H w → a.defers = [] →
    if Region.wanted o (yielded ops a.tmps) then ∀ Q, o.wp P a w (fun a' w' => ∃ M', (∀ d, o.dst = some d → d < n → VRel M' v (a'.tmps.getD d undef)) ∧ (∃ x, a'.tmps = (a.put o.dst x).tmps) ∧ a'.defers = [] ∧ Rel M' H w' ∧ Fr M H w M' H w') Q
    else VRel M v undef
theorem QV.congr {P : Program} {n : Nat} {ops : Array Oper} {o : Oper} {H : Heap} {T T' : Nat → AV} {v : AV} (h : QV P n ops o H T v) (e : ∀ t ∈ o.looksAt ops, T' t = T t) : QV P n ops o H T' v :=
  fun M a w h1 h2 h3 h4 => h M a w (fun t ht hn => by rw [← e t ht]; exact h1 t ht hn) h2 h3 h4
theorem put_other {T : Nat → AV} {d : Option Nat} {v : AV} {t : Nat} (h : d ≠ some t) : put T d v t = T t := by
  cases d with
  | none => rfl
  | some d => simp only [put, tset]; rw [if_neg (fun e => h (by rw [e]))]
theorem put_comm' {T : Nat → AV} {x y : Option Nat} (v u : AV) (h : ∀ d, x = some d → y ≠ some d) : put (put T x v) y u = put (put T y u) x v := by
  funext t
  by_cases hx : x = some t
  · have hy : y ≠ some t := h t hx
    rw [put_other hy]
    subst hx; simp [put, tset]
  · rw [put_other hx]
    by_cases hy : y = some t
    · subst hy; simp [put, tset]
    · rw [put_other hy, put_other hy, put_other hx]
/-- What an operation leaves is the frame with one value put. -/
theorem wp_put {P : Program} {o : Oper} {a : Act} {w : World} {K : Act → World → Prop} {Q : Exit → Act → World → Prop} (h : o.wp P a w K Q) : o.wp P a w (fun a' w' => K a' w' ∧ ∃ x, a'.tmps = (a.put o.dst x).tmps) Q := by
  unfold Oper.wp at *
  generalize (execOp a.eval o).run P w = r at *
  cases r with
  | ok n w' =>
    cases n <;> simp only [Oper.upon] at h ⊢
    case value v => exact ⟨h, v, rfl⟩
    case skip => exact ⟨h, undef, rfl⟩
    case defer d => exact ⟨h, undef, by cases o.dst <;> rfl⟩
    case enter f args => exact h.mono fun e w'' he => by cases e <;> first | exact ⟨he, _, rfl⟩ | exact he
    case row f args => exact h.mono fun v w'' he => ⟨he, v, rfl⟩
  | halt x w' => cases x <;> simp only [Oper.upon] at h ⊢ <;> exact h
section
variable {P : Program} {n : Nat} {md : Nat → Bool} {ops : Array Oper} {H : Heap}

/-- The temporaries that an operation looks at, kept; the others forgotten. -/
def keepT (ts : List Nat) (T : Nat → AV) : Nat → AV := fun t => if t ∈ ts then T t else .any
theorem keepT_rel {M : Mem} {T : Nat → AV} {a : Act} {ts : List Nat} (h : ∀ t ∈ ts, t < n → VRel M (T t) (a.tmps.getD t undef)) (hn : a.tmps.size = n) : TRel n M (keepT ts T) a.tmps := by
  refine ⟨hn, fun i hi => ?_⟩
  unfold keepT
  split
  · rename_i hm; exact h i hm hi
  · simp only [VRel]
theorem cx_keep {x : Operand} {c : CX} (h : trX n x = some c) {ts : List Nat} (hm : ∀ t, x = .tmp t → t ∈ ts) (T : Nat → AV) : c.ev (keepT ts T) = c.ev T := by
  cases x with
  | tmp t =>
    simp only [trX] at h
    split at h
    · cases h; simp only [CX.ev, keepT]; rw [if_pos (hm t rfl)]
    · cases h
  | const v => simp only [trX] at h; cases h; rfl
  | func f => simp only [trX] at h; cases h; rfl
  | global g => simp [trX] at h
theorem cxs_keep : ∀ {xs : List Operand} {cs : List CX}, trXs n xs = some cs → ∀ {ts : List Nat}, (∀ t, Operand.tmp t ∈ xs → t ∈ ts) → ∀ T, getAll cs (keepT ts T) = getAll cs T
  | [], cs, h, ts, hm, T => by simp only [trXs] at h; cases h; rfl
  | x :: xs, cs, h, ts, hm, T => by
    simp only [trXs] at h
    split at h
    · rename_i c cs' e1 e2
      cases h
      have h1 := cx_keep e1 (ts := ts) (fun t ht => hm t (by rw [ht]; simp)) T
      have h2 := cxs_keep e2 (ts := ts) (fun t ht => hm t (by simp [ht])) T
      simp only [getAll, Prod.mk.injEq] at h2 ⊢
      simp only [List.foldr_cons, List.map_cons, h1, h2.1, h2.2]
      exact ⟨trivial, trivial⟩
    · cases h
theorem trK_operands {o : Op} {k : PK} {xs : List Operand} (e : trK P o = some (k, xs)) : ∀ x ∈ xs, x ∈ o.operands.toList := by
  cases o <;> simp only [trK, reduceCtorEq] at e
  case move x => cases e; intro y hy; simpa [Op.operands] using hy
  case assign x => cases e; intro y hy; simpa [Op.operands] using hy
  case load t a => simp only [Option.map_eq_some_iff, Prod.mk.injEq] at e; obtain ⟨_, _, _, rfl⟩ := e; intro y hy; simpa [Op.operands] using hy
  case nilCheck x => cases e; intro y hy; simpa [Op.operands] using hy
  case binOp op t x y yt => simp only [Option.map_eq_some_iff, Prod.mk.injEq] at e; obtain ⟨_, _, _, rfl⟩ := e; intro y hy; simpa [Op.operands] using hy
  case unOp op t x => cases e; intro y hy; simpa [Op.operands] using hy
  case convert src dst x => simp only [Option.map_eq_some_iff, Prod.mk.injEq] at e; obtain ⟨_, _, _, rfl⟩ := e; intro y hy; simpa [Op.operands] using hy
  case makeFunc fn first captured => cases e; intro y hy; simpa [Op.operands] using hy
  case slice t x lo hi mx =>
    split at e
    · split at e
      · cases e
      · simp only [Option.map_eq_some_iff, Prod.mk.injEq] at e
        obtain ⟨_, _, _, rfl⟩ := e
        intro y hy
        cases lo <;> cases hi <;> cases mx <;> simpa [Op.operands] using hy
    · split at e
      · cases e
      · rename_i hmx
        cases e
        intro y hy
        cases lo <;> cases hi <;> cases mx <;> simp [Op.operands] at hy hmx ⊢ <;> simp [hy]
    · cases e
  case fieldAddr s x f =>
    split at e
    · split at e
      · split at e
        · cases e; intro y hy; simpa [Op.operands] using hy
        · cases e
      · cases e
    · cases e
  case field s x f =>
    split at e
    · split at e
      · simp only [Option.map_eq_some_iff, Prod.mk.injEq] at e; obtain ⟨_, _, _, rfl⟩ := e; intro y hy; simpa [Op.operands] using hy
      · cases e
    · cases e
  case indexAddr t x i =>
    split at e
    · simp only [Option.map_eq_some_iff, Prod.mk.injEq] at e; obtain ⟨_, _, _, rfl⟩ := e; intro y hy; simpa [Op.operands] using hy
    · simp only [Option.map_eq_some_iff, Prod.mk.injEq] at e; obtain ⟨_, _, _, rfl⟩ := e; intro y hy; simpa [Op.operands] using hy
    · cases e
  case index t x i =>
    split at e
    · cases e; intro y hy; simpa [Op.operands] using hy
    · cases e
  case extract x i => cases e; intro y hy; simpa [Op.operands] using hy
  case lookup t m k ok =>
    split at e
    · split at e
      · cases e; intro y hy; simpa [Op.operands] using hy
      · cases e
    · cases e
  case build t parts =>
    simp only [Option.map_eq_some_iff, Prod.mk.injEq] at e; obtain ⟨_, _, _, rfl⟩ := e; intro y hy; simpa [Op.operands] using hy
  case call c =>
    obtain ⟨callee, args, ts⟩ := c
    cases callee with
    | value f => simp at e
    | invoke _ _ => simp at e
    | builtin b =>
      cases b <;> simp only [reduceCtorEq] at e
      case len =>
        split at e
        · rename_i x t ha ht
          simp only [Option.map_eq_some_iff, Prod.mk.injEq] at e; obtain ⟨_, _, _, rfl⟩ := e
          intro y hy
          simp only [Op.operands, Call.operands, Array.toList_append, List.mem_append]
          right; rw [ha]; exact hy
        · cases e
      case cap =>
        split at e
        · rename_i x t ha ht
          split at e
          · cases e
            intro y hy
            simp only [Op.operands, Call.operands, Array.toList_append, List.mem_append]
            right; rw [ha]; exact hy
          · cases e
        · cases e
      case min => cases e; intro y hy; simp only [Op.operands, Call.operands, Array.toList_append, List.mem_append]; exact .inr hy
      case max => cases e; intro y hy; simp only [Op.operands, Call.operands, Array.toList_append, List.mem_append]; exact .inr hy
theorem trE_operands {mt : Bool} {o : Op} {k : EK} {xs : List Operand} (e : trE P n mt o = some (k, xs)) : ∀ x ∈ xs, x ∈ o.operands.toList := by
  cases o <;> simp only [trE, reduceCtorEq] at e
  case alloc el => simp only [Option.map_eq_some_iff, Prod.mk.injEq] at e; obtain ⟨_, _, _, rfl⟩ := e; intro y hy; cases hy
  case box el x => cases e; intro y hy; simpa [Op.operands] using hy
  case buildSlice t len parts =>
    split at e
    · split at e
      · split at e
        · cases e; intro y hy; simpa [Op.operands] using hy
        · cases e
      · cases e
    · cases e
  case store t x y =>
    simp only [Option.bind_eq_some_iff] at e
    obtain ⟨sz, hs, kk, hk, e⟩ := e
    split at e
    · cases e; intro y hy; simpa [Op.operands] using hy
    · cases e
  case convert src dst x =>
    split at e
    · split at e
      · cases e; intro y hy; simpa [Op.operands] using hy
      · cases e
    · split at e
      · split at e
        · cases e; intro y hy; simpa [Op.operands] using hy
        · cases e
      · cases e
    · cases e
  case makeSlice t l c =>
    split at e
    · split at e
      · cases e; intro y hy; simpa [Op.operands] using hy
      · cases e
    · cases e
  case makeMap t r =>
    cases r with
    | some _ => simp at e
    | none => simp only [Option.some.injEq, Prod.mk.injEq] at e; obtain ⟨_, rfl⟩ := e; intro y hy; cases hy
  case mapUpdate t m k x =>
    split at e
    · simp only [Option.map_eq_some_iff, Prod.mk.injEq] at e; obtain ⟨_, _, _, rfl⟩ := e; intro y hy; simpa [Op.operands] using hy
    · cases e
  case range t x =>
    split at e
    · cases e; intro y hy; simpa [Op.operands] using hy
    · cases e
  case next x b =>
    cases b with
    | true => simp at e
    | false =>
      simp only [Option.some.injEq, Prod.mk.injEq] at e
      obtain ⟨rfl, rfl⟩ := e
      intro y hy; simpa [Op.operands] using hy
  case entry x => cases e; intro y hy; simpa [Op.operands] using hy
  case call c =>
    obtain ⟨callee, args, ts⟩ := c
    cases callee with
    | invoke _ _ => simp at e
    | value f =>
      cases f with
      | func f =>
        simp only at e
        split at e
        · cases e; intro y hy; simp only [Op.operands, Call.operands, Array.toList_append, List.mem_append]; exact .inr hy
        · cases e; intro y hy; simp only [Op.operands, Call.operands, Array.toList_append, List.mem_append]; exact .inr hy
      | tmp t =>
        simp only [Option.some.injEq, Prod.mk.injEq] at e
        obtain ⟨_, rfl⟩ := e
        intro y hy
        simp only [Op.operands, Call.operands, Array.toList_append, List.mem_append]
        rcases List.mem_cons.1 hy with rfl | hy
        · left; simp
        · exact .inr hy
      | const _ => simp at e
      | global _ => simp at e
    | builtin b =>
      cases b <;> simp only [reduceCtorEq] at e
      case delete =>
        split at e
        · rename_i m k t ha hts
          split at e
          · simp only [Option.map_eq_some_iff, Prod.mk.injEq] at e; obtain ⟨_, _, _, rfl⟩ := e
            intro y hy; simp only [Op.operands, Call.operands, Array.toList_append, List.mem_append]; right; rw [ha]; exact hy
          · cases e
        · cases e
      case append =>
        split at e
        · rename_i s x t t2 ha hts
          split at e
          · split at e
            · cases e; intro y hy; simp only [Op.operands, Call.operands, Array.toList_append, List.mem_append]; right; rw [ha]; exact hy
            · cases e
          · split at e
            · cases e; intro y hy; simp only [Op.operands, Call.operands, Array.toList_append, List.mem_append]; right; rw [ha]; exact hy
            · cases e
          · split at e
            · cases e; intro y hy; simp only [Op.operands, Call.operands, Array.toList_append, List.mem_append]; right; rw [ha]; exact hy
            · cases e
          · cases e
        · cases e
      case copy =>
        split at e
        · rename_i s x t ha hts
          split at e
          · split at e
            · cases e; intro y hy; simp only [Op.operands, Call.operands, Array.toList_append, List.mem_append]; right; rw [ha]; exact hy
            · cases e
          · cases e
        · cases e
      case clear =>
        split at e
        · rename_i s t ha hts
          split at e
          · split at e
            · cases e; intro y hy; simp only [Op.operands, Call.operands, Array.toList_append, List.mem_append]; right; rw [ha]; exact hy
            · cases e
          · cases e
        · cases e
theorem mem_looks {o : Oper} {t : Nat} (h : Operand.tmp t ∈ o.op.operands.toList) : t ∈ o.looksAt ops :=
  List.mem_append_left _ (List.mem_filterMap.2 ⟨.tmp t, h, rfl⟩)
theorem evP_keep {o : Oper} {c : COp} (e : trP P n o.op = some c) (T : Nat → AV) : evP c (keepT (o.looksAt ops) T) H = evP c T H := by
  unfold trP at e
  split at e
  · rename_i cc ca cb hop
    split at e
    · rename_i c1 c2 c3 e1 e2 e3
      cases e
      have hm : ∀ x, x = cc ∨ x = ca ∨ x = cb → ∀ t, x = Operand.tmp t → t ∈ o.looksAt ops := by
        intro x hx t ht
        refine mem_looks ?_
        rw [hop, ← ht]
        rcases hx with rfl | rfl | rfl <;> simp [Op.operands]
      simp only [evP, cx_keep e1 (hm cc (.inl rfl)), cx_keep e2 (hm ca (.inr (.inl rfl))), cx_keep e3 (hm cb (.inr (.inr rfl)))]
    · cases e
  · split at e
    · rename_i k xs hk
      simp only [Option.map_eq_some_iff] at e
      obtain ⟨cs, hcs, rfl⟩ := e
      simp only [evP, cxs_keep hcs (fun t ht => mem_looks (trK_operands hk _ ht))]
    · cases e
/-- What the walk in the text's order shows of one operation. -/
theorem vcQ1_QV {o : Oper} {co : CO} (e : trCO P n md ops o = some co) {T : Nat → AV} {K : AV → Prop} (h : vcQ1 P H co T K) : ∃ v, QV P n ops o H T v ∧ K v := by
  unfold trCO at e
  split at e
  · rename_i g c hg hc
    split at e
    · rename_i hsd
      cases e
      -- an operation that is carried out
      have pure_ok : ∀ {p : Prop} {v : AV}, (∀ k xs, c ≠ .e k xs) → evP c T H = some (p, v) → p → ∀ (M : Mem) (a : Act) (w : World), TRel n M (keepT (o.looksAt ops) T) a.tmps → Rel M H w → GivesOp P M w (execOp a.eval o) v := by
        intro p v hne hev hp M a w ht hr
        have hpp : trP P n o.op = some c := by
          unfold trOp at hc
          split at hc
          · rename_i h; cases hc; exact h
          · split at hc
            · simp only [Option.map_eq_some_iff] at hc
              obtain ⟨cs, _, rfl⟩ := hc
              exact absurd rfl (hne _ _)
            · cases hc
              exact absurd rfl (hne _ _)
        exact trP_sound hpp ht hr (by rw [evP_keep hpp]; exact hev) hp
      have eff_ok : ∀ {k : EK} {xs : List CX} {v : AV}, c = .e k xs → (getAll xs T).1 → (∀ (d : Option Nat) (T' : Nat → AV), vcE P k (getAll xs T).2 d ⟨T', H⟩ fun S' => S'.H = H ∧ ∀ t, d = some t → S'.T t = v) →
          ∀ (M : Mem) (a : Act) (w : World), TRel n M (keepT (o.looksAt ops) T) a.tmps → Rel M H w → a.defers = [] → ∀ Q, o.wp P a w (fun a' w' => Fin n M H w (fun S' => S'.H = H ∧ ∀ t, o.dst = some t → S'.T t = v) a' w' ∧ ∃ x, a'.tmps = (a.put o.dst x).tmps) Q := by
        rintro k xs v rfl hga hv M a w ht hr hd Q
        refine wp_put ?_
        have htE : trP P n o.op = none ∧ ∃ xs', trE P n ((o.dst.map md).getD false) o.op = some (k, xs') ∧ trXs n xs' = some xs := by
          unfold trOp at hc
          split at hc
          · rename_i hp
            cases hc
            exfalso
            unfold trP at hp
            split at hp
            · split at hp <;> simp at hp
            · split at hp
              · simp at hp
              · cases hp
          · rename_i hp
            split at hc
            · rename_i k' xs' he
              simp only [Option.map_eq_some_iff] at hc
              obtain ⟨cs, hcs, hkk⟩ := hc
              cases hkk
              exact ⟨hp, xs', he, hcs⟩
            · cases hc
              have := hv none T
              simp only [vcE] at this
        obtain ⟨_, xs', he, hcs⟩ := htE
        have hkp := cxs_keep hcs (ts := o.looksAt ops) (fun t ht => mem_looks (trE_operands he _ ht)) T
        exact trE_sound (S := ⟨keepT (o.looksAt ops) T, H⟩) he (fun ⟨t, x, y, hop⟩ => by
          unfold storeDst at hsd
          rw [hop] at hsd
          simpa using hsd) ht hr hd (trXs_rel hcs ht (by rw [hkp]; exact hga)) (by rw [hkp]; exact hv _ _)
      have fin_ok : ∀ {v : AV} {M : Mem} {a : Act} {w : World}, a.tmps.size = n → ∀ a' w', (Fin n M H w (fun S' => S'.H = H ∧ ∀ t, o.dst = some t → S'.T t = v) a' w' ∧ ∃ x, a'.tmps = (a.put o.dst x).tmps) →
          ∃ M', (∀ d, o.dst = some d → d < n → VRel M' v (a'.tmps.getD d undef)) ∧ (∃ x, a'.tmps = (a.put o.dst x).tmps) ∧ a'.defers = [] ∧ Rel M' H w' ∧ Fr M H w M' H w' := by
        rintro v M a w hn a' w' ⟨⟨M', S', k1, k2, k3, k4, k5, k6⟩, hx⟩
        rw [k5] at k2 k4
        exact ⟨M', fun d hd hdn => by rw [← k6 d hd]; exact k1.2 d hdn, hx, k3, k2, k4⟩
      have giv_ok : ∀ {v : AV} {M : Mem} {a : Act} {w : World}, a.tmps.size = n → Rel M H w → a.defers = [] → GivesOp P M w (execOp a.eval o) v → ∀ Q, o.wp P a w (fun a' w' => ∃ M', (∀ d, o.dst = some d → d < n → VRel M' v (a'.tmps.getD d undef)) ∧ (∃ x, a'.tmps = (a.put o.dst x).tmps) ∧ a'.defers = [] ∧ Rel M' H w' ∧ Fr M H w M' H w') Q := by
        rintro v M a w hn hr hd ⟨x, h1, h2⟩ Q
        unfold Oper.wp
        rw [h1]
        refine ⟨M, fun d hdd hdn => ?_, ⟨x, rfl⟩, put_defers hd _ _, hr, .refl _ _ _⟩
        rw [hdd]
        simp only [Act.put, Array.getD_eq_getD_getElem?, Array.getElem?_setIfInBounds, if_true]
        rw [if_pos (by rw [hn]; exact hdn)]
        exact h2
      unfold vcQ1 at h
      simp only at h
      cases hgo : o.guard with
      | none =>
        rw [hgo] at hg
        simp only [trG, Option.some.injEq] at hg; subst hg
        have hw : ∀ tmps, Region.wanted o (yielded ops tmps) = true := fun tmps => by unfold Region.wanted; rw [hgo]
        simp only at h
        split at h
        · rename_i k xs
          obtain ⟨v, hK, hv⟩ := vcQE_spec h.2
          refine ⟨v, fun M a w h1 h2 h3 h4 => ?_, hK⟩
          rw [if_pos (hw _)]
          intro Q
          exact Oper.wp_mono (fin_ok h2) (eff_ok rfl h.1 hv M a w (keepT_rel h1 h2) h3 h4 Q)
        · rename_i hne
          split at h
          · rename_i p v hev
            refine ⟨v, fun M a w h1 h2 h3 h4 => ?_, h.2⟩
            rw [if_pos (hw _)]
            exact giv_ok h2 h3 h4 (pure_ok hne hev h.1 M a w (keepT_rel h1 h2) h3)
          · exact h.elim
      | some jw =>
        obtain ⟨j, want⟩ := jw
        rw [hgo] at hg
        simp only [trG] at hg
        split at hg
        · rename_i t htj
          split at hg
          · rename_i htn
            simp only [Option.some.injEq] at hg; subst hg
            simp only at h
            split at h
            · rename_i c0 hu
              have htl : t ∈ o.looksAt ops := by
                unfold Oper.looksAt
                rw [hgo]
                refine List.mem_append_right _ ?_
                simp only [htj]; simp
              have hw : ∀ (M : Mem) (a : Act), (∀ t ∈ o.looksAt ops, t < n → VRel M (T t) (a.tmps.getD t undef)) → a.tmps.size = n → Region.wanted o (yielded ops a.tmps) = c0 := by
                intro M a h1 h2
                unfold Region.wanted
                rw [hgo]
                simp only [yielded_get htj (by rw [h2]; exact htn)]
                exact gw_rel (h1 t htl htn) hu
              have gd_ok : ∀ {v : AV} {M : Mem} {a : Act} {w : World} {Q : Exit → Act → World → Prop},
                  o.wp P a w (fun a' w' => ∃ M', (∀ d, o.dst = some d → d < n → VRel M' v (a'.tmps.getD d undef)) ∧ (∃ x, a'.tmps = (a.put o.dst x).tmps) ∧ a'.defers = [] ∧ Rel M' H w' ∧ Fr M H w M' H w') Q →
                  o.wp P a w (fun a' w' => ∃ M', (∀ d, o.dst = some d → d < n → VRel M' (.gd true v) (a'.tmps.getD d undef)) ∧ (∃ x, a'.tmps = (a.put o.dst x).tmps) ∧ a'.defers = [] ∧ Rel M' H w' ∧ Fr M H w M' H w') Q := by
                intro v M a w Q hh
                refine Oper.wp_mono (fun a' w' ⟨M', k1, k2⟩ => ⟨M', fun d hd hdn => ?_, k2⟩) hh
                simp only [VRel]
                exact ⟨fun _ => k1 d hd hdn, fun h => by cases h⟩
              have gd_no : ∀ (M : Mem) (v : AV), VRel M (.gd false v) undef := fun M v => by simp only [VRel]; exact ⟨(fun h => by cases h), fun _ => trivial⟩
              split at h
              · rename_i k xs
                obtain ⟨v, h1, hK⟩ := h
                refine ⟨_, fun M a w g1 g2 g3 g4 => ?_, hK⟩
                rw [hw M a g1 g2]
                cases c0 with
                | true =>
                  rw [if_pos rfl]
                  intro Q
                  obtain ⟨h2, h3⟩ := h1 rfl
                  obtain ⟨v', rfl, hv⟩ := vcQE_spec h3
                  exact gd_ok (Oper.wp_mono (fin_ok g2) (eff_ok rfl h2 hv M a w (keepT_rel g1 g2) g3 g4 Q))
                | false =>
                  rw [if_neg (by simp)]
                  exact gd_no _ _
              · rename_i hne
                split at h
                · rename_i p v hev
                  refine ⟨_, fun M a w g1 g2 g3 g4 => ?_, h.2⟩
                  rw [hw M a g1 g2]
                  cases c0 with
                  | true =>
                    rw [if_pos rfl]
                    intro Q
                    exact gd_ok (giv_ok g2 g3 g4 (pure_ok hne hev (h.1 rfl) M a w (keepT_rel g1 g2) g3) Q)
                  | false =>
                    rw [if_neg (by simp)]
                    exact gd_no _ _
                · refine ⟨_, fun M a w g1 g2 g3 g4 => ?_, h.2⟩
                  rw [hw M a g1 g2, h.1, if_neg (by simp)]
                  exact rel_undef _
            · exact h.elim
          · cases hg
        · cases hg
    · cases e
  · cases e
end
end Go.Sf

end
section
/- Regions whose order is open: the theorem. -/
set_option linter.unusedVariables false
set_option linter.unusedSimpArgs false
namespace Go.Sf
section
variable {P : Program} {n : Nat} {md : Region.Mode} {ops : Array Oper} {H : Heap}

def aOp (Y : Oper → (Nat → AV) → AV → Prop) (ops : Array Oper) (i : Nat) (K : (Nat → AV) → Prop) (T : Nat → AV) : Prop :=
  match ops[i]? with
  | none => K T
  | some o => ∃ v, Y o T v ∧ K (put T o.dst v)
/-- What is said of an operation rests on what it looks at. -/
def Cong (Y : Oper → (Nat → AV) → AV → Prop) (ops : Array Oper) : Prop := ∀ (o : Oper) (T T' : Nat → AV) (v : AV), Y o T v → (∀ t ∈ o.looksAt ops, T' t = T t) → Y o T' v
theorem aOp_mono {Y : Oper → (Nat → AV) → AV → Prop} {i : Nat} {T : Nat → AV} {K K' : (Nat → AV) → Prop} (h : ∀ T, K T → K' T) (hh : aOp Y ops i K T) : aOp Y ops i K' T := by
  unfold aOp at *
  split
  · rename_i e; rw [e] at hh; exact h _ hh
  · rename_i o e; rw [e] at hh; obtain ⟨v, h1, h2⟩ := hh; exact ⟨v, h1, h _ h2⟩
/-- Whatever order is picked among the operations ahead of number m: then L. -/
def aAny (Y : Oper → (Nat → AV) → AV → Prop) (md : Region.Mode) (ops : Array Oper) (m : Nat) (L : Array Bool → (Nat → AV) → Prop) : Nat → Array Bool → (Nat → AV) → Prop
  | 0, listed, T => L listed T
  | f + 1, listed, T => Region.ready md ops listed ≠ [] ∧ ∀ i ∈ Region.ready md ops listed, i < m ∧ aOp Y ops i (aAny Y md ops m L f (listed.setIfInBounds i true)) T
theorem aOp_put {Y : Oper → (Nat → AV) → AV → Prop} (hY : Cong Y ops) {j : Nat} {oi oj : Oper} {v : AV} (hj : ops[j]? = some oj) (hap : oi.apart ops oj = true) {K : (Nat → AV) → Prop} {T : Nat → AV}
    (hy : Y oi T v) (h : aOp Y ops j K (put T oi.dst v)) :
    aOp Y ops j (fun T' => Y oi T' v ∧ K (put T' oi.dst v)) T := by
  obtain ⟨h1, h2, h3⟩ := Oper.apart_spec hap
  unfold aOp at *
  simp only [hj] at *
  obtain ⟨u, hu, hK⟩ := h
  refine ⟨u, hY _ _ _ _ hu fun t ht => ?_, hY _ _ _ _ hy fun t ht => ?_, ?_⟩
  · symm; exact put_other fun e => h1 t e ht
  · exact put_other fun e => h3 t e ht
  · rw [← put_comm' v u h2]; exact hK
theorem aAny_first {Y : Oper → (Nat → AV) → AV → Prop} (hY : Cong Y ops) {m i : Nat} {oi : Oper} {v : AV} {L : Array Bool → (Nat → AV) → Prop} {HI : Array Bool → Prop} (hi : ops[i]? = some oi) (him : i < m)
    (htail : ∀ listed, HI listed → ∀ i, i < m → listed.getD i true = false → ∀ j ∈ Region.ready md ops listed, j < m)
    (hset : ∀ listed j, HI listed → j ∈ Region.ready md ops listed → j < m → HI (listed.setIfInBounds j true))
    (hdone : ∀ listed T, L listed T → ∀ j ∈ Region.ready md ops listed, m ≤ j) :
    ∀ (f : Nat) (listed : Array Bool) (T : Nat → AV), HI listed →
      (∀ j oj, ops[j]? = some oj → j ≠ i → listed.getD j true = false → (∀ e ∈ oj.after, Region.binds md e = true → e.on ≠ i) → oi.apart ops oj = true) →
      i ∈ Region.ready md ops listed → Y oi T v →
      aAny Y md ops m L f (listed.setIfInBounds i true) (put T oi.dst v) → aAny Y md ops m L (f + 1) listed T := by
  intro f
  induction f with
  | zero =>
    intro listed T inv _ hr hy hh
    have hun := (mem_ready.1 hr).1
    refine ⟨fun h => (by rw [h] at hr; cases hr), fun j hj => ?_⟩
    have hjn := htail listed inv i him hun j hj
    refine ⟨hjn, ?_⟩
    by_cases hji : j = i
    · subst hji; unfold aOp; rw [hi]; exact ⟨v, hy, hh⟩
    · have := hdone _ _ hh j (ready_mono hj hji)
      omega
  | succ f ih =>
    intro listed T inv hfree hr hy hh
    have hun := (mem_ready.1 hr).1
    refine ⟨fun h => (by rw [h] at hr; cases hr), fun j hj => ?_⟩
    have hjn := htail listed inv i him hun j hj
    refine ⟨hjn, ?_⟩
    by_cases hji : j = i
    · subst hji; unfold aOp; rw [hi]; exact ⟨v, hy, hh⟩
    · have h1 := (hh.2 j (ready_mono hj hji)).2
      obtain ⟨hjun, oj, hoj, hall⟩ := mem_ready.1 hj
      have hnot : ∀ e ∈ oj.after, Region.binds md e = true → e.on ≠ i := fun e he hb heq => by
        have h1 := hall e he hb
        rw [heq, getD_both hun] at h1
        cases h1
      have h2 := aOp_put hY hoj (hfree j oj hoj hji hjun hnot) hy h1
      have hfree' : ∀ k ok, ops[k]? = some ok → k ≠ i → (listed.setIfInBounds j true).getD k true = false →
          (∀ e ∈ ok.after, Region.binds md e = true → e.on ≠ i) → oi.apart ops ok = true := fun k ok hk hki hun hno => by
        refine hfree k ok hk hki ?_ hno
        by_cases hjk : j = k
        · subst hjk; exact hjun
        · rw [getD_set_ne true hjk] at hun; exact hun
      refine aOp_mono (fun T' h3 => ih (listed.setIfInBounds j true) T' (hset _ _ inv hj hjn) hfree' (ready_mono hr (Ne.symm hji)) h3.1 ?_) h2
      rw [Array.setIfInBounds_comm _ _ hji]
      exact h3.2
/-- The abstract walk over the model's operations. -/
def qWalk (Y : Oper → (Nat → AV) → AV → Prop) : List Oper → (Nat → AV) → ((Nat → AV) → Prop) → Prop
  | [], T, K => K T
  | o :: l, T, K => ∃ v, Y o T v ∧ qWalk Y l (put T o.dst v) K
/-- Quiet in the heap H. -/
def QY (P : Program) (n : Nat) (ops : Array Oper) (H : Heap) : Oper → (Nat → AV) → AV → Prop := fun o T v => QV P n ops o H T v
theorem QY.cong {H : Heap} : Cong (QY P n ops H) ops := fun _ _ _ _ h e => QV.congr h e
theorem qWalk_of_vcQ {mdn : Nat → Bool} : ∀ {l : List Oper} {cos : List CO}, trOps P n mdn ops l = some cos → ∀ {T : Nat → AV} {K : (Nat → AV) → Prop}, vcQ P H cos T K → qWalk (QY P n ops H) l T K
  | [], cos, e, T, K, h => by simp only [trOps, Option.some.injEq] at e; subst e; exact h
  | o :: l, cos, e, T, K, h => by
    simp only [trOps] at e
    split at e
    · rename_i c cs e1 e2
      cases e
      simp only [vcQ] at h
      obtain ⟨v, h1, h2⟩ := vcQ1_QV e1 h
      refine ⟨v, h1, qWalk_of_vcQ e2 ?_⟩
      have hd : c.dst = o.dst := by
        unfold trCO at e1
        split at e1
        · split at e1
          · cases e1; rfl
          · cases e1
        · cases e1
      rw [← hd]; exact h2
    · cases e
/-- What an operation that is quiet does, in a world. -/
theorem wpOp_of_aOp {H : Heap} {i : Nat} {K : (Nat → AV) → Prop} {T : Nat → AV} {M : Mem} {a : Act} {w : World} {K' : Act → World → Prop} {Q : Exit → Act → World → Prop} (hh : aOp (QY P n ops H) ops i K T) (ht : TRel n M T a.tmps) (hr : Rel M H w) (hd : a.defers = [])
    (hK : ∀ T' M' a' w', K T' → TRel n M' T' a'.tmps → Rel M' H w' → a'.defers = [] → Fr M H w M' H w' → K' a' w') : wpOp P ops Q i K' a w := by
  unfold aOp at hh
  unfold wpOp
  split
  · rename_i e; rw [e] at hh; exact hK T M a w hh ht hr hd (.refl _ _ _)
  · rename_i o e
    rw [e] at hh
    obtain ⟨v, hq, hk⟩ := hh
    have := hq M a w (fun t _ htn => ht.2 t htn) ht.1 hr hd
    split
    · rename_i hw
      rw [if_pos hw] at this
      refine .inl (Oper.wp_mono (fun a' w' ⟨M', k1, ⟨x, k2⟩, k3, k4, k5⟩ => ?_) (this Q))
      refine hK _ M' a' w' hk ⟨?_, fun t htn => ?_⟩ k4 k3 k5
      · rw [k2]; cases o.dst <;> simp [Act.put, ht.1]
      · by_cases hdt : o.dst = some t
        · have h1 := k1 t hdt htn
          rw [hdt]; simpa [put, tset] using h1
        · rw [put_other hdt, k2]
          have h1 := VRel.mono k5.mle _ _ (ht.2 t htn)
          cases hod : o.dst with
          | none => exact h1
          | some d =>
            have hne : d ≠ t := fun e => hdt (by rw [hod, e])
            simp only [Act.put, Array.getD_eq_getD_getElem?] at h1 ⊢
            rwa [Array.getElem?_setIfInBounds_ne hne]
    · rename_i hw
      rw [if_neg hw] at this
      refine hK _ M _ w hk ?_ hr (put_defers hd _ _) (.refl _ _ _)
      exact ht.put o.dst this
theorem wpAny_of_aAny {m g : Nat} {L : Array Bool → (Nat → AV) → Prop} {M0 : Mem} {w0 : World} {Q' : Exit → Act → World → Prop}
    (hL : ∀ listed T M a w, L listed T → TRel n M T a.tmps → Rel M H w → a.defers = [] → Fr M0 H w0 M H w → wpAny P md ops Q' g listed a w) :
    ∀ (f : Nat) (listed : Array Bool) (T : Nat → AV) (M : Mem) (a : Act) (w : World), TRel n M T a.tmps → Rel M H w → a.defers = [] → Fr M0 H w0 M H w → aAny (QY P n ops H) md ops m L f listed T → wpAny P md ops Q' (f + g) listed a w
  | 0, listed, T, M, a, w, ht, hr, hd, hf, h => by rw [Nat.zero_add]; exact hL _ _ _ _ _ h ht hr hd hf
  | f + 1, listed, T, M, a, w, ht, hr, hd, hf, h => by
    rw [show f + 1 + g = (f + g) + 1 by omega]
    refine ⟨fun h0 => absurd h0 h.1, fun i hi => ?_⟩
    exact wpOp_of_aOp (h.2 i hi).2 ht hr hd fun T' M' a' w' hk t' r' d' f' => wpAny_of_aAny hL f _ T' M' a' w' t' r' d' (hf.trans f') hk
/-- All operations are quiet. -/
theorem aAny_lex {Y : Oper → (Nat → AV) → AV → Prop} (hY : Cong Y ops) {Kf : (Nat → AV) → Prop} (hsel : Region.noSelect ops = true) : ∀ (l : List Oper) (k : Nat) (listed : Array Bool) (T : Nat → AV), (∀ j, l[j]? = ops[k + j]?) → k + l.length = ops.size →
    Region.lexFrom md ops l.length k listed = true → qWalk Y l T Kf → aAny Y md ops ops.size (fun listed' T' => Region.ready md ops listed' = [] ∧ Kf T') l.length listed T
  | [], k, listed, T, hl, hk, hB, h => ⟨by simpa [Region.lexFrom] using hB, h⟩
  | o :: l, k, listed, T, hl, hk, hB, h => by
    have h0 : ops[k]? = some o := by simpa using (hl 0).symm
    simp only [List.length_cons, Region.lexFrom, Bool.and_eq_true] at hB
    obtain ⟨⟨hr, hf⟩, hB'⟩ := hB
    obtain ⟨v, hy, hK⟩ := h
    refine aAny_first hY (HI := fun _ => True) h0 (by simp only [List.length_cons] at hk; omega) (fun listed _ i hi hun j hj => ?_) (fun _ _ _ _ _ => trivial) (fun listed T hL j hj => by rw [hL.1] at hj; cases hj) l.length listed T trivial (Region.free_spec h0 hf) (by simpa using hr) hy
      (aAny_lex hY hsel l (k + 1) _ _ (fun j => by have := hl (j + 1); simpa [Nat.add_assoc, Nat.add_comm 1 j] using this) (by simp only [List.length_cons] at hk; omega) hB' hK)
    obtain ⟨_, oj, hoj, _⟩ := mem_ready.1 hj
    exact (Array.getElem?_eq_some_iff.1 hoj).1
theorem draw_sound {mdn : Nat → Bool} {cos : List CO} {id : Nat} {S : AS} {Q : Exit → AS → Prop} (hm : P.follows .mixedOrders = true) (hB : Region.lexB .any ops = true) (e : trOps P n mdn ops ops.toList = some cos)
    (hv : vcQ P S.H cos S.T fun T => Q .normal ⟨T, S.H⟩) : CT P n (.region id ops true) S Q := by
  intro M a w ht hr hd
  simp only [Region.lexB, Bool.and_eq_true] at hB
  refine wp_region_any hm ?_
  have hA := aAny_lex (md := .any) (QY.cong (P := P) (n := n) (H := S.H)) hB.1 ops.toList 0 (Array.replicate ops.size false) S.T (by simp) (by simp) (by simpa using hB.2) (qWalk_of_vcQ e hv)
  have := wpAny_of_aAny (g := 0) (M0 := M) (w0 := w) (Q' := fun e => Fin n M S.H w (Q e)) (fun listed T M' a' w' hL t' r' d' f' => ⟨hL.1, ⟨M', ⟨T, S.H⟩, t', r', d', f', hL.2⟩⟩) ops.toList.length _ _ M a { w with drawn := w.drawn + 1 } ht (hr.drawn _) hd (Fr.drawn _ _ _ _) hA
  simpa using this
/-- The operations ahead of number m are quiet; those behind come in one order. -/
theorem aAnyT_lex {Y : Oper → (Nat → AV) → AV → Prop} (hY : Cong Y ops) {m g : Nat} {Kf : (Nat → AV) → Prop} (hsel : Region.noSelect ops = true) (hs : Region.sinkB md ops m = true) (hc : Region.chainB md ops m = true) (hn : m < ops.size) :
    ∀ (l : List Oper) (k : Nat) (listed : Array Bool) (T : Nat → AV), (∀ j, j < l.length → l[j]? = ops[k + j]?) → k + l.length = m → HeadInv md ops m listed → (∀ i, i < k → listed.getD i false = true) →
    Region.lexHead md ops g l.length k listed = true → qWalk Y l T Kf →
    aAny Y md ops m (fun listed' T' => Region.seqB md ops g m listed' = true ∧ Kf T' ∧ ∀ i, i < m → listed'.getD i false = true) l.length listed T
  | [], k, listed, T, _, hk, _, hall, hB, h => by
    have : k = m := by simpa using hk
    subst this
    exact ⟨by simpa [Region.lexHead] using hB, h, hall⟩
  | o :: l, k, listed, T, hl, hk, inv, hall, hB, h => by
    have h0 : ops[k]? = some o := by simpa using (hl 0 (by simp)).symm
    simp only [List.length_cons, Region.lexHead, Bool.and_eq_true] at hB
    obtain ⟨⟨hr, hf⟩, hB'⟩ := hB
    have hkm : k < m := by simp only [List.length_cons] at hk; omega
    have hr' : k ∈ Region.ready md ops listed := by simpa using hr
    obtain ⟨v, hy, hK⟩ := h
    have hall' : ∀ i, i < k + 1 → (listed.setIfInBounds k true).getD i false = true := fun i hi => by
      by_cases hik : k = i
      · subst hik
        have hs : k < listed.size := by rw [inv.size]; omega
        simp [Array.getD_eq_getD_getElem?, Array.getElem?_setIfInBounds, hs]
      · exact getD_set_true (hall i (by omega))
    refine aAny_first hY (HI := HeadInv md ops m) h0 hkm (fun listed inv i hi hun j hj => ?_) (fun listed j inv hj hjm => inv.set hj hjm) (fun listed T hL => seqB_ready hL.1) l.length listed T inv (Region.free_spec h0 hf) hr' hy
      (aAnyT_lex hY hsel hs hc hn l (k + 1) _ _ (fun j hj => by have := hl (j + 1) (by simp; omega); simpa [Nat.add_assoc, Nat.add_comm 1 j] using this) (by simp only [List.length_cons] at hk; omega) (inv.set hr' hkm) hall' hB' hK)
    rcases Nat.lt_or_ge j m with h | h
    · exact h
    · exact absurd hj (tail_waits hs hc hn inv _ i rfl hi hun j h)
end
end Go.Sf

end
section
/- Regions whose order is open and that write: every order that is left is walked. -/
set_option linter.unusedVariables false
set_option linter.unusedSimpArgs false
namespace Go.Sf
section
variable {P : Program} {n : Nat} {ops : Array Oper}

/-- Operations that ask the world nothing. -/
def hoistB (o : Oper) : Bool := match o.op with
  | .move _ | .assign _ | .nilCheck _ | .fieldAddr _ _ _ => true
  | _ => false
theorem faddr_all {M : Mem} {H : Heap} {s : TypeId} {f off : Nat} {fs : Array Field} {fl : Field} {i : TypeInfo} {a : AV} {x : Value} (h : VRel M a x)
    (hs : P.underlying s = some (.struct fs)) (hf : fs[f]? = some fl) (ho : fl.offset = off) (hi : P.info? fl.type = some i) (hz : i.size ≠ 0) {p : Prop} {v : AV} (e : evK (.faddr off) H [a] = some (p, v)) (hp : p) :
    ∃ y, VRel M v y ∧ ∀ w, (Instr.fieldAt s x f).run P w = .ok y w := by
  have key : ∀ b o, x = .pointer (some ⟨b, o, none⟩) → ∀ w, (Instr.fieldAt s x f).run P w = .ok (.pointer (some ⟨b, o + off, none⟩)) w := by
    intro b o hx w
    subst hx
    unfold Instr.fieldAt
    rw [run_bind, run_underlying hs]
    simp only [hf]
    rw [run_bind, run_sureAddr]
    simp only []
    unfold fieldPlace
    rw [run_bind, run_bind, run_sizeOf hi]
    simp only [hz, if_false]
    rw [add_off, ho]; rfl
  simp only [evK] at e
  split at e
  · rename_i b o
    cases e
    exact ⟨_, by simp only [VRel], key b o (by simpa only [VRel] using h)⟩
  · rename_i cs j
    cases e
    simp only [VRel] at h
    obtain ⟨b, o, vs, hx, hm, hr⟩ := h
    refine ⟨_, ?_, key b (o + j) hx⟩
    simp only [VRel]
    exact ⟨b, o, vs, by rw [Nat.add_assoc], hm, hr⟩
  · cases e
theorem hoistK {M : Mem} {H : Heap} {o : Oper} (hh : hoistB o = true) {k : PK} {xs : List Operand} (e : trK P o.op = some (k, xs)) {ρ : Operand → Value} {as : List AV} (hx : VRels M as (xs.map ρ))
    {p : Prop} {v : AV} (ev : evK k H as = some (p, v)) (hp : p) : ∃ y, VRel M v y ∧ ∀ w, (execOp ρ o).run P w = .ok (.value y) w := by
  obtain ⟨dst, op, type, pos, after, guard⟩ := o
  simp only [hoistB] at hh
  simp only at e
  cases op <;> simp only [reduceCtorEq, Bool.false_eq_true] at hh <;> simp only [trK, reduceCtorEq] at e
  case move x =>
    cases e
    obtain ⟨a, rfl, ha⟩ := vr1 hx
    simp only [evK, Option.some.injEq, Prod.mk.injEq] at ev
    obtain ⟨_, rfl⟩ := ev
    exact ⟨_, ha, fun w => rfl⟩
  case assign x =>
    cases e
    obtain ⟨a, rfl, ha⟩ := vr1 hx
    simp only [evK, Option.some.injEq, Prod.mk.injEq] at ev
    obtain ⟨_, rfl⟩ := ev
    exact ⟨_, ha, fun w => rfl⟩
  case nilCheck x =>
    cases e
    obtain ⟨a, rfl, ha⟩ := vr1 hx
    simp only [evK] at ev
    split at ev
    · cases ev; have := vr_ptr ha; exact ⟨ρ x, ha, fun w => by simp only [execOp]; rw [this]; rfl⟩
    · cases ev; obtain ⟨A, hA⟩ := vr_iptr ha; exact ⟨ρ x, ha, fun w => by simp only [execOp]; rw [hA]; rfl⟩
    · cases ev; obtain ⟨A, B, hA⟩ := vr_fn ha; exact ⟨ρ x, ha, fun w => by simp only [execOp]; rw [hA]; rfl⟩
    · cases ev
  case fieldAddr s x f =>
    split at e
    · rename_i fs hu
      split at e
      · rename_i fl hf
        split at e
        · rename_i kk hk
          cases e
          obtain ⟨a, rfl, ha⟩ := vr1 hx
          obtain ⟨i, hi, hz⟩ := sizeT_spec hk
          obtain ⟨y, h1, h2⟩ := faddr_all (P := P) ha hu hf rfl hi (by omega) ev hp
          exact ⟨y, h1, fun w => by simp only [execOp]; rw [run_bind, h2 w]; rfl⟩
        · cases e
      · cases e
    · cases e
theorem hoist_eff {mt : Bool} {o : Oper} (hh : hoistB o = true) {c : COp} (hc : trOp P n mt o.op = some c) : (∃ k xs cs, trK P o.op = some (k, xs) ∧ trXs n xs = some cs ∧ c = .p k cs) ∨ c = .e .nope [] := by
  have hnp : ∀ x y z, o.op ≠ .pick x y z := by
    intro x y z h
    simp only [hoistB, h, Bool.false_eq_true] at hh
  unfold trOp at hc
  split at hc
  · rename_i c2 hp
    cases hc
    unfold trP at hp
    split at hp
    · rename_i x y z ho; exact absurd ho (hnp _ _ _)
    · split at hp
      · rename_i k xs h1
        simp only [Option.map_eq_some_iff] at hp
        obtain ⟨cs, hcs, rfl⟩ := hp
        exact .inl ⟨k, xs, cs, h1, hcs, rfl⟩
      · cases hp
  · split at hc
    · rename_i k xs he
      exfalso
      obtain ⟨dst, op, type, pos, after, guard⟩ := o
      simp only at he
      cases op <;> simp only [hoistB, reduceCtorEq, Bool.false_eq_true] at hh <;> simp [trE] at he
    · cases hc; exact .inr rfl
theorem hoist_sound {mt : Nat → Bool} {M : Mem} {S : AS} {K : AS → Prop} {o : Oper} {c : CO} (hh : hoistB o = true) (e : trCO P n mt ops o = some c) {a : Act} (ht : TRel n M S.T a.tmps) (hv : vcOp P c S K) :
    ∃ v y, VRel M v y ∧ Yields P ops o y a ∧ K ⟨put S.T o.dst v, S.H⟩ := by
  unfold trCO at e
  split at e
  · rename_i g c' hg' hc
    split at e
    · cases e
      have hcc := hoist_eff hh hc
      cases hgo : o.guard with
      | none =>
        rw [hgo] at hg'
        simp only [trG, Option.some.injEq] at hg'; subst hg'
        unfold vcOp at hv
        simp only at hv
        rcases hcc with ⟨k, xs, cs, h1, hcs, rfl⟩ | rfl
        · unfold vcDo at hv
          simp only [evP] at hv
          split at hv
          · rename_i p v hev
            split at hev
            · rename_i q u hq
              cases hev
              obtain ⟨y, h2, h3⟩ := hoistK hh h1 (trXs_rel hcs ht hv.1.1) hq hv.1.2
              exact ⟨_, y, h2, .inl ⟨by unfold Region.wanted; rw [hgo], h3⟩, hv.2⟩
            · cases hev
          · exact hv.elim
        · simp only [vcDo, vcE] at hv
          exact hv.2.elim
      | some jw =>
        obtain ⟨j, want⟩ := jw
        rw [hgo] at hg'
        simp only [trG] at hg'
        split at hg'
        · rename_i t htj
          split at hg'
          · rename_i htn
            simp only [Option.some.injEq] at hg'; subst hg'
            unfold vcOp at hv
            simp only at hv
            split at hv
            · rename_i c0 hu
              have hw : Region.wanted o (yielded ops a.tmps) = c0 := by
                unfold Region.wanted
                rw [hgo]
                simp only [yielded_get htj (by rw [ht.1]; exact htn)]
                exact gw_rel (ht.2 t htn) hu
              rcases hcc with ⟨k, xs, cs, h1, hcs, rfl⟩ | rfl
              · simp only at hv
                split at hv
                · rename_i p v hev
                  obtain ⟨g1, g2⟩ := hv
                  cases c0 with
                  | true =>
                    simp only [evP] at hev
                    split at hev
                    · rename_i q u hq
                      cases hev
                      obtain ⟨y, h2, h3⟩ := hoistK hh h1 (trXs_rel hcs ht (g1 rfl).1) hq (g1 rfl).2
                      exact ⟨_, y, by simp only [VRel]; exact ⟨fun _ => h2, fun h => by cases h⟩, .inl ⟨hw, h3⟩, g2⟩
                    · cases hev
                  | false => exact ⟨.gd false v, undef, by simp only [VRel]; exact ⟨(fun h => by cases h), fun _ => trivial⟩, .inr ⟨hw, rfl⟩, g2⟩
                · obtain ⟨g1, g2⟩ := hv
                  subst g1
                  exact ⟨.tup [], undef, rel_undef M, .inr ⟨hw, rfl⟩, g2⟩
              · simp only at hv
                cases c0 with
                | true =>
                  have := hv.1 rfl
                  simp only [vcDo, vcE] at this
                  exact this.2.elim
                | false => exact ⟨.tup [], undef, rel_undef M, .inr ⟨hw, rfl⟩, hv.2 rfl⟩
            · exact hv.elim
          · cases hg'
        · cases hg'
    · cases e
  · cases e
def trOne (P : Program) (n : Nat) (mt : Nat → Bool) (ops : Array Oper) (rec : Array Bool → Option OT) (listed : Array Bool) (i : Nat) : Option OT :=
  match ops[i]? with
  | some o => match trCO P n mt ops o, rec (listed.setIfInBounds i true) with
    | some c, some t => some (.op c t)
    | _, _ => none
  | none => none
def trAll (P : Program) (n : Nat) (mt : Nat → Bool) (ops : Array Oper) (rec : Array Bool → Option OT) (listed : Array Bool) : List Nat → Option OT
  | [] => none
  | [i] => trOne P n mt ops rec listed i
  | i :: r => match trOne P n mt ops rec listed i, trAll P n mt ops rec listed r with
    | some a, some b => some (.two a b)
    | _, _ => none
def hoistF (gd : Bool) (o : Oper) : Bool := hoistB o && (gd || o.guard.isNone)
def trT (P : Program) (n : Nat) (mt : Nat → Bool) (ops : Array Oper) (gd : Bool) : Nat → Array Bool → Option OT
  | 0, listed => if (Region.ready .any ops listed).isEmpty then some .done else none
  | f + 1, listed => if (Region.ready .any ops listed).isEmpty then some .done else
    match (Region.ready .any ops listed).find? (fun i => (ops[i]?.map (hoistF gd)).getD false && Region.free .any ops listed i) with
    | some i => trOne P n mt ops (trT P n mt ops gd f) listed i
    | none => trAll P n mt ops (trT P n mt ops gd f) listed (Region.ready .any ops listed)

def QN (n : Nat) (M : Mem) (H : Heap) (w : World) (K : AS → Prop) (e : Exit) (a : Act) (w' : World) : Prop := e = .normal ∧ Fin n M H w K a w'
theorem trOne_sound {mt : Nat → Bool} {M0 : Mem} {H0 : Heap} {w0 : World} {K : AS → Prop} {rec : Array Bool → Option OT} {f : Nat}
    (ih : ∀ (listed : Array Bool) (t : OT) (S : AS) (M : Mem) (a : Act) (w : World), rec listed = some t → vcT P t S K → TRel n M S.T a.tmps → Rel M S.H w → a.defers = [] → Fr M0 H0 w0 M S.H w →
      wpAny P .any ops (QN n M0 H0 w0 K) f listed a w)
    {listed : Array Bool} {i : Nat} {t : OT} {S : AS} {M : Mem} {a : Act} {w : World} (e : trOne P n mt ops rec listed i = some t) (hv : vcT P t S K) (ht : TRel n M S.T a.tmps) (hr : Rel M S.H w) (hd : a.defers = []) (hf : Fr M0 H0 w0 M S.H w) :
    wpOp P ops (QN n M0 H0 w0 K) i (wpAny P .any ops (QN n M0 H0 w0 K) f (listed.setIfInBounds i true)) a w := by
  unfold trOne at e
  split at e
  · rename_i o ho
    split at e
    · rename_i c t' e1 e2
      cases e
      simp only [vcT] at hv
      have hop := vcOp_sound (K := fun S' => vcT P t' S' K) e1 hv ht hr hd (QN n M0 H0 w0 K)
      have hnext : ∀ a' w', Fin n M S.H w (fun S' => vcT P t' S' K) a' w' → wpAny P .any ops (QN n M0 H0 w0 K) f (listed.setIfInBounds i true) a' w' := by
        rintro a' w' ⟨M', S', k1, k2, k3, k4, k5⟩
        exact ih _ _ _ M' a' w' e2 k5 k1 k2 k3 (hf.trans k4)
      unfold wpOp
      rw [ho]
      simp only
      split
      · rename_i hw
        rw [if_pos hw] at hop
        exact .inl (Oper.wp_mono hnext hop)
      · rename_i hw
        rw [if_neg hw] at hop
        exact hnext _ _ hop
    · cases e
  · cases e
theorem trAll_sound {mt : Nat → Bool} {M0 : Mem} {H0 : Heap} {w0 : World} {K : AS → Prop} {rec : Array Bool → Option OT} {f : Nat}
    (ih : ∀ (listed : Array Bool) (t : OT) (S : AS) (M : Mem) (a : Act) (w : World), rec listed = some t → vcT P t S K → TRel n M S.T a.tmps → Rel M S.H w → a.defers = [] → Fr M0 H0 w0 M S.H w →
      wpAny P .any ops (QN n M0 H0 w0 K) f listed a w)
    {listed : Array Bool} {S : AS} {M : Mem} {a : Act} {w : World} (ht : TRel n M S.T a.tmps) (hr : Rel M S.H w) (hd : a.defers = []) (hf : Fr M0 H0 w0 M S.H w) :
    ∀ (l : List Nat) (t : OT), trAll P n mt ops rec listed l = some t → vcT P t S K → ∀ i ∈ l, wpOp P ops (QN n M0 H0 w0 K) i (wpAny P .any ops (QN n M0 H0 w0 K) f (listed.setIfInBounds i true)) a w
  | [], t, e, hv, i, hi => by cases hi
  | [j], t, e, hv, i, hi => by
    simp only [List.mem_singleton] at hi; subst hi
    exact trOne_sound ih e hv ht hr hd hf
  | j :: k :: r, t, e, hv, i, hi => by
    simp only [trAll] at e
    split at e
    · rename_i x y e1 e2
      cases e
      simp only [vcT] at hv
      rcases List.mem_cons.1 hi with rfl | hi
      · exact trOne_sound ih e1 hv.1 ht hr hd hf
      · exact trAll_sound ih ht hr hd hf (k :: r) y e2 hv.2 i hi
    · cases e
theorem trT_sound {mt : Nat → Bool} {gd : Bool} {M0 : Mem} {H0 : Heap} {w0 : World} {K : AS → Prop} (hs : Region.noSelect ops = true) : ∀ (f : Nat) (listed : Array Bool) (t : OT) (S : AS) (M : Mem) (a : Act) (w : World),
    trT P n mt ops gd f listed = some t → vcT P t S K → TRel n M S.T a.tmps → Rel M S.H w → a.defers = [] → Fr M0 H0 w0 M S.H w → wpAny P .any ops (QN n M0 H0 w0 K) f listed a w
  | 0, listed, t, S, M, a, w, e, hv, ht, hr, hd, hf => by
    simp only [trT] at e
    split at e
    · rename_i h
      cases e
      exact wpAny_done (by simpa using h) ⟨rfl, M, S, ht, hr, hd, hf, hv⟩ 0
    · cases e
  | f + 1, listed, t, S, M, a, w, e, hv, ht, hr, hd, hf => by
    simp only [trT] at e
    split at e
    · rename_i h
      cases e
      exact wpAny_done (by simpa using h) ⟨rfl, M, S, ht, hr, hd, hf, hv⟩ _
    · rename_i hne
      split at e
      · rename_i i hi
        have h1 := List.find?_some hi
        have h2 := List.mem_of_find?_eq_some hi
        simp only [Bool.and_eq_true] at h1
        unfold trOne at e
        split at e
        · rename_i o ho
          rw [ho] at h1
          simp only [Option.map_some, Option.getD_some] at h1
          split at e
          · rename_i c t' e1 e2
            cases e
            simp only [vcT] at hv
            obtain ⟨v, y, g1, g2, g3⟩ := hoist_sound (Bool.and_eq_true_iff.1 h1.1).1 e1 ht hv
            refine wpAny_take ho hs h1.2 (by simpa using h2) (fun c a w hq => by cases hq.1) g2 ?_
            exact trT_sound hs f _ _ ⟨put S.T o.dst v, S.H⟩ M _ _ e2 g3 (ht.put o.dst g1) hr (put_defers hd _ _) hf
          · cases e
        · cases e
      · exact wpAny_all rfl (by simpa using hne) (trAll_sound (fun listed t S M a w => trT_sound hs f listed t S M a w) ht hr hd hf _ t e hv)
theorem any_sound {mt : Nat → Bool} {gd : Bool} {t : OT} {id : Nat} {S : AS} {Q : Exit → AS → Prop} (hm : P.follows .mixedOrders = true) (hs : Region.noSelect ops = true) (e : trT P n mt ops gd ops.size (Array.replicate ops.size false) = some t)
    (hv : vcT P t S (Q .normal)) : CT P n (.region id ops true) S Q := by
  have : CT P n (.region id ops true) S (fun e S' => e = .normal ∧ Q .normal S') := by
    intro M a w ht hr hd
    have h := trT_sound (K := fun S' => Q .normal S') hs ops.size _ t S M a { w with drawn := w.drawn + 1 } e hv ht (hr.drawn _) hd (Fr.drawn M S.H w _)
    exact wp_mono (wp_region_any (id := id) hm h) fun e a w f => f.2.mono fun S' hq => ⟨f.1, hq⟩
  exact this.mono fun e S' h => by obtain ⟨rfl, h⟩ := h; exact h
end
end Go.Sf

end
section
/- Regions whose order is open and of which the quiet head has new cells made: they are made last, in thought. -/
set_option linter.unusedVariables false
set_option linter.unusedSimpArgs false
namespace Go.Sf
def alCO : CO → Option (Nat × List AV)
  | ⟨some d, none, .e (.alloc z) []⟩ => some (d, z)
  | _ => none
theorem alCO_some {c : CO} {d : Nat} {z : List AV} (h : alCO c = some (d, z)) : c = ⟨some d, none, .e (.alloc z) []⟩ := by
  unfold alCO at h
  split at h
  · simp only [Option.some.injEq, Prod.mk.injEq] at h
    obtain ⟨rfl, rfl⟩ := h
    rfl
  · cases h
def isAl (c : CO) : Bool := (alCO c).isSome
def hasK (d : Nat) (al : List (Nat × List AV)) : Bool := al.any fun x => x.1 == d
theorem hasK_iff {d : Nat} {al : List (Nat × List AV)} : hasK d al = true ↔ ∃ z, (d, z) ∈ al := by
  unfold hasK
  rw [List.any_eq_true]
  constructor
  · rintro ⟨x, h1, h2⟩
    have : x.1 = d := by simpa using h2
    subst this
    exact ⟨x.2, h1⟩
  · rintro ⟨z, h⟩
    exact ⟨_, h, by simp⟩
def anyT : List (Nat × List AV) → (Nat → AV) → Nat → AV
  | [], T => T
  | (d, _) :: al, T => anyT al (put T (some d) .any)
theorem anyT_spec : ∀ (al : List (Nat × List AV)) (T : Nat → AV) (t : Nat), anyT al T t = if hasK t al then .any else T t
  | [], T, t => rfl
  | (d, z) :: al, T, t => by
    rw [anyT, anyT_spec al]
    unfold hasK
    rw [List.any_cons]
    by_cases h : d = t
    · subst h
      simp [put, tset]
    · have h2 : ¬ t = d := fun e => h e.symm
      have h3 : (d == t) = false := by simpa using h
      simp only [put, tset, h3, h2, if_false, Bool.false_or]
/-- The new cells, made one behind the other. -/
def vcPend : List (Nat × List AV) → AS → (AS → Prop) → Prop
  | [], S, K => K S
  | (d, z) :: al, S, K => ∀ b, S.H b = none → vcPend al ⟨put S.T (some d) (.ptr b 0), S.H.set b (some (.cells z z.length))⟩ K
def nodupB : List (Nat × List AV) → Bool
  | [] => true
  | (d, _) :: al => !hasK d al && nodupB al
theorem nodup_one : ∀ {al : List (Nat × List AV)}, nodupB al = true → ∀ {d : Nat} {z z' : List AV}, (d, z) ∈ al → (d, z') ∈ al → z = z'
  | [], _, d, z, z', h, _ => by cases h
  | (k, y) :: al, hn, d, z, z', h1, h2 => by
    simp only [nodupB, Bool.and_eq_true, Bool.not_eq_true'] at hn
    obtain ⟨hk, hn⟩ := hn
    have no : ∀ y', (k, y') ∉ al := fun y' hy => by rw [hasK_iff.2 ⟨y', hy⟩] at hk; cases hk
    rcases List.mem_cons.1 h1 with e1 | h1
    · rcases List.mem_cons.1 h2 with e2 | h2
      · cases e1; cases e2; rfl
      · cases e1; exact absurd h2 (no _)
    · rcases List.mem_cons.1 h2 with e2 | h2
      · cases e2; exact absurd h1 (no _)
      · exact nodup_one hn h1 h2
/-- What is, while some of the new cells are made: in S; in T and H none is. -/
structure Pnd (al : List (Nat × List AV)) (H : Heap) (T : Nat → AV) (p : Nat → Option Nat) (S : AS) : Prop where
  tmp : ∀ t, (∀ z, (t, z) ∉ al) → S.T t = T t
  any : ∀ t z, (t, z) ∈ al → T t = .any
  pend : ∀ t z b, (t, z) ∈ al → p t = some b → S.T t = .ptr b 0 ∧ H b = none ∧ S.H b = some (.cells z z.length)
  inj : ∀ t t' b, p t = some b → p t' = some b → t = t'
  dom : ∀ t b, p t = some b → ∃ z, (t, z) ∈ al
  out : ∀ x, (∀ t, p t ≠ some x) → S.H x = H x
theorem Pnd.sub {al : List (Nat × List AV)} {H : Heap} {T : Nat → AV} {p : Nat → Option Nat} {S : AS} (h : Pnd al H T p S) : Sub H S.H := by
  intro b
  by_cases hp : ∃ t, p t = some b
  · obtain ⟨t, ht⟩ := hp
    obtain ⟨z, hz⟩ := h.dom t b ht
    exact .inr (h.pend t z b hz ht).2.1
  · exact .inl (h.out b fun t ht => hp ⟨t, ht⟩).symm
theorem vcPend_use {K : AS → Prop} : ∀ (al : List (Nat × List AV)) {T : Nat → AV} {H : Heap} {p : Nat → Option Nat} {S : AS}, nodupB al = true → Pnd al H T p S → (∀ t z, (t, z) ∈ al → ∃ b, p t = some b) → vcPend al ⟨T, H⟩ K → K S
  | [], T, H, p, S, _, h, _, hv => by
    have h1 : S.T = T := funext fun t => h.tmp t (fun z hz => by cases hz)
    have h2 : S.H = H := funext fun x => h.out x fun t ht => by obtain ⟨z, hz⟩ := h.dom t x ht; cases hz
    have : S = ⟨T, H⟩ := by cases S; simp only at h1 h2; rw [h1, h2]
    rw [this]; exact hv
  | (d, z) :: al, T, H, p, S, hn, h, hp, hv => by
    have hn' := hn
    simp only [nodupB, Bool.and_eq_true, Bool.not_eq_true'] at hn
    obtain ⟨hk, hn⟩ := hn
    have no : ∀ y', (d, y') ∉ al := fun y' hy => by rw [hasK_iff.2 ⟨y', hy⟩] at hk; cases hk
    obtain ⟨b, hb⟩ := hp d z (by simp)
    obtain ⟨g1, g2, g3⟩ := h.pend d z b (by simp) hb
    refine vcPend_use al (p := fun t => if t = d then none else p t) hn ?_ ?_ (hv b g2)
    · refine ⟨fun t ht => ?_, fun t y ht => ?_, fun t y b' ht hb' => ?_, fun t t' b' h1 h2 => ?_, fun t b' h1 => ?_, fun x hx => ?_⟩
      · by_cases htd : t = d
        · subst htd; simpa [put, tset] using g1
        · simp only [put, tset]; rw [if_neg htd]
          refine h.tmp t fun y hy => ?_
          rcases List.mem_cons.1 hy with e | hy
          · cases e; exact htd rfl
          · exact ht y hy
      · have htd : t ≠ d := fun e => by subst e; exact no _ ht
        simp only [put, tset]; rw [if_neg htd]; exact h.any t y (by simp [ht])
      · have htd : t ≠ d := fun e => by subst e; exact no _ ht
        simp only [if_neg htd] at hb'
        obtain ⟨q1, q2, q3⟩ := h.pend t y b' (by simp [ht]) hb'
        have hne : b' ≠ b := fun e => by subst e; exact htd (h.inj _ _ _ hb' hb)
        exact ⟨q1, by simp only []; rw [Heap.set_ne _ _ hne]; exact q2, q3⟩
      · have htd : t ≠ d := fun e => by simp [e] at h1
        have htd' : t' ≠ d := fun e => by simp [e] at h2
        simp only [if_neg htd] at h1
        simp only [if_neg htd'] at h2
        exact h.inj _ _ _ h1 h2
      · have htd : t ≠ d := fun e => by simp [e] at h1
        simp only [if_neg htd] at h1
        obtain ⟨y, hy⟩ := h.dom t b' h1
        rcases List.mem_cons.1 hy with e | hy
        · cases e; exact absurd rfl htd
        · exact ⟨y, hy⟩
      · simp only []
        by_cases hxb : x = b
        · subst hxb; rw [Heap.set_self]; exact g3
        · rw [Heap.set_ne _ _ hxb]
          refine h.out x fun t ht => ?_
          by_cases htd : t = d
          · subst htd; rw [hb] at ht; cases ht; exact hxb rfl
          · exact hx t (by simp only [if_neg htd]; exact ht)
    · intro t y ht
      have htd : t ≠ d := fun e => by subst e; exact no _ ht
      simp only [if_neg htd]
      exact hp t y (by simp [ht])
section
variable {P : Program} {n : Nat} {mdn : Nat → Bool} {md : Region.Mode} {ops : Array Oper} {H : Heap} {al : List (Nat × List AV)}
def AlO (P : Program) (n : Nat) (mdn : Nat → Bool) (ops : Array Oper) (o : Oper) (d : Nat) (z : List AV) : Prop := trCO P n mdn ops o = some ⟨some d, none, .e (.alloc z) []⟩
theorem trCO_dst {o : Oper} {c : CO} (e : trCO P n mdn ops o = some c) : c.dst = o.dst := by
  unfold trCO at e
  split at e
  · split at e
    · cases e; rfl
    · cases e
  · cases e
/-- Quiet, or cells made. -/
def QX (P : Program) (n : Nat) (mdn : Nat → Bool) (ops : Array Oper) (H : Heap) (al : List (Nat × List AV)) : Oper → (Nat → AV) → AV → Prop := fun o T v =>
  (QV P n ops o H T v ∧ ∀ d z, o.dst = some d → (d, z) ∉ al) ∨ ∃ d z, AlO P n mdn ops o d z ∧ (d, z) ∈ al ∧ v = .any
theorem QX.cong : Cong (QX P n mdn ops H al) ops := fun _ _ _ _ h e => h.elim (fun h => .inl ⟨QV.congr h.1 e, h.2⟩) .inr
theorem qWalk_of_vcQA : ∀ {l : List Oper} {cos : List CO}, trOps P n mdn ops l = some cos → (∀ c ∈ cos, ∀ d z, alCO c = some (d, z) → (d, z) ∈ al) → (∀ c ∈ cos, alCO c = none → ∀ d z, c.dst = some d → (d, z) ∉ al) →
    ∀ {T : Nat → AV} {K : (Nat → AV) → Prop}, (∀ d z, (d, z) ∈ al → T d = .any) → vcQ P H (cos.filter fun c => !isAl c) T K → qWalk (QX P n mdn ops H al) l T K
  | [], cos, e, _, _, T, K, _, h => by simp only [trOps, Option.some.injEq] at e; subst e; exact h
  | o :: l, cos, e, hA, hB, T, K, hT, h => by
    simp only [trOps] at e
    split at e
    · rename_i c cs e1 e2
      cases e
      have hd := trCO_dst e1
      have ih : ∀ {T : Nat → AV} {K : (Nat → AV) → Prop}, (∀ d z, (d, z) ∈ al → T d = .any) → vcQ P H (cs.filter fun c => !isAl c) T K → qWalk (QX P n mdn ops H al) l T K :=
        qWalk_of_vcQA e2 (fun c hc => hA c (by simp [hc])) (fun c hc => hB c (by simp [hc]))
      cases hal : alCO c with
      | none =>
        have hi : isAl c = false := by unfold isAl; rw [hal]; rfl
        rw [List.filter_cons, if_pos (by rw [hi]; rfl)] at h
        simp only [vcQ] at h
        obtain ⟨v, h1, h2⟩ := vcQ1_QV e1 h
        have hno := hB c (by simp) hal
        rw [hd] at hno h2
        refine ⟨v, .inl ⟨h1, hno⟩, ih (fun d z hz => ?_) h2⟩
        rw [put_other (fun e => hno d z e hz)]; exact hT d z hz
      | some dz =>
        obtain ⟨d, z⟩ := dz
        have hi : isAl c = true := by unfold isAl; rw [hal]; rfl
        rw [List.filter_cons, if_neg (by rw [hi]; simp)] at h
        have hm := hA c (by simp) d z hal
        have hc := alCO_some hal
        subst hc
        refine ⟨.any, .inr ⟨d, z, e1, hm, rfl⟩, ?_⟩
        have : put T o.dst .any = T := by
          rw [← hd]
          funext t
          simp only [put, tset]
          split
          · rename_i e; rw [e, hT d z hm]
          · rfl
        rw [this]
        exact ih hT h
    · cases e
structure AInv (P : Program) (n : Nat) (mdn : Nat → Bool) (ops : Array Oper) (H : Heap) (al : List (Nat × List AV)) (m : Nat) (M0 : Mem) (w0 : World) (listed : Array Bool) (T : Nat → AV) (M : Mem) (a : Act) (w : World) (S : AS) (p : Nat → Option Nat) : Prop where
  pnd : Pnd al H T p S
  t : TRel n M S.T a.tmps
  r : Rel M S.H w
  d : a.defers = []
  f : Fr M0 H w0 M S.H w
  l1 : ∀ i o d z, i < m → ops[i]? = some o → AlO P n mdn ops o d z → listed.getD i false = true → ∃ b, p d = some b
  l2 : ∀ d b, p d = some b → ∃ i o z, i < m ∧ ops[i]? = some o ∧ AlO P n mdn ops o d z ∧ listed.getD i false = true
theorem set_self_true {listed : Array Bool} {i : Nat} (h : listed.getD i true = false) : (listed.setIfInBounds i true).getD i false = true := by
  rcases Nat.lt_or_ge i listed.size with h' | h'
  · simp [Array.getD_eq_getD_getElem?, Array.getElem?_setIfInBounds, h']
  · simp [Array.getElem?_eq_none h'] at h
theorem wpAny_of_aAnyA {m g : Nat} {L : Array Bool → (Nat → AV) → Prop} {M0 : Mem} {w0 : World} {Q' : Exit → Act → World → Prop} (hN : nodupB al = true)
    (hal : ∀ i o d z, i < m → ops[i]? = some o → AlO P n mdn ops o d z → (d, z) ∈ al)
    (hU : ∀ i j o o' d, i < m → j < m → ops[i]? = some o → ops[j]? = some o' → o.dst = some d → o'.dst = some d → i = j)
    (hL : ∀ listed T M a w S p, L listed T → AInv P n mdn ops H al m M0 w0 listed T M a w S p → wpAny P md ops Q' g listed a w) :
    ∀ (f : Nat) (listed : Array Bool) (T : Nat → AV) (M : Mem) (a : Act) (w : World) (S : AS) (p : Nat → Option Nat), AInv P n mdn ops H al m M0 w0 listed T M a w S p → aAny (QX P n mdn ops H al) md ops m L f listed T → wpAny P md ops Q' (f + g) listed a w
  | 0, listed, T, M, a, w, S, p, inv, h => by rw [Nat.zero_add]; exact hL _ _ _ _ _ _ _ h inv
  | f + 1, listed, T, M, a, w, S, p, inv, h => by
    rw [show f + 1 + g = (f + g) + 1 by omega]
    refine ⟨fun h0 => absurd h0 h.1, fun i hi => ?_⟩
    obtain ⟨him, hop⟩ := h.2 i hi
    obtain ⟨hun, o, ho, _⟩ := mem_ready.1 hi
    unfold aOp at hop
    rw [ho] at hop
    obtain ⟨v, hq, hk⟩ := hop
    unfold wpOp
    rw [ho]
    simp only
    have next : ∀ T' M' a' w' S' p', aAny (QX P n mdn ops H al) md ops m L f (listed.setIfInBounds i true) T' → AInv P n mdn ops H al m M0 w0 (listed.setIfInBounds i true) T' M' a' w' S' p' → wpAny P md ops Q' (f + g) (listed.setIfInBounds i true) a' w' :=
      fun T' M' a' w' S' p' hk inv' => wpAny_of_aAnyA hN hal hU hL f _ _ _ _ _ _ _ inv' hk
    rcases hq with ⟨hq, hno⟩ | ⟨d, z, hA, hdz, rfl⟩
    · have hsub := inv.pnd.sub
      have hov : Heap.over S.H H H = S.H := by
        funext b
        rcases hsub b with e | e
        · by_cases hb : H b = none
          · rw [Heap.over_new (by rw [← e]; exact hb)]; exact e
          · rw [Heap.over_in hb]; exact e
        · by_cases hb : S.H b = none
          · rw [Heap.over_new hb, hb]; exact e
          · rw [Heap.over_out e hb]
      have hlook : ∀ t ∈ o.looksAt ops, t < n → VRel M (T t) (a.tmps.getD t undef) := fun t _ htn => by
        by_cases hta : ∃ z, (t, z) ∈ al
        · obtain ⟨z, hz⟩ := hta
          rw [inv.pnd.any t z hz]; simp only [VRel]
        · rw [← inv.pnd.tmp t fun z hz => hta ⟨z, hz⟩]; exact inv.t.2 t htn
      have hnal : ∀ d z, ¬ AlO P n mdn ops o d z := fun d z hA => hno d z (by have := trCO_dst hA; exact this.symm) (hal i o d z him ho hA)
      have newP : Pnd al H (put T o.dst v) p ⟨put S.T o.dst v, S.H⟩ := by
        have hne : ∀ t z, (t, z) ∈ al → o.dst ≠ some t := fun t z hz e => hno t z e hz
        refine ⟨fun t ht => ?_, fun t z hz => ?_, fun t z b hz hb => ?_, inv.pnd.inj, inv.pnd.dom, inv.pnd.out⟩
        · by_cases hdt : o.dst = some t
          · rw [hdt]; simp [put, tset]
          · simp only []; rw [put_other hdt, put_other hdt]; exact inv.pnd.tmp t ht
        · rw [put_other (hne t z hz)]; exact inv.pnd.any t z hz
        · simp only []; rw [put_other (hne t z hz)]; exact inv.pnd.pend t z b hz hb
      have l1' : ∀ i' o d z, i' < m → ops[i']? = some o → AlO P n mdn ops o d z → (listed.setIfInBounds i true).getD i' false = true → ∃ b, p d = some b := fun i' o' d z h1 h2 h3 h4 => by
        by_cases hii : i = i'
        · subst hii
          rw [ho] at h2; cases h2
          exact absurd h3 (hnal d z)
        · rw [getD_set_ne false hii] at h4
          exact inv.l1 i' o' d z h1 h2 h3 h4
      have l2' : ∀ d b, p d = some b → ∃ i' o z, i' < m ∧ ops[i']? = some o ∧ AlO P n mdn ops o d z ∧ (listed.setIfInBounds i true).getD i' false = true := fun d b hb => by
        obtain ⟨i', o', z, h1, h2, h3, h4⟩ := inv.l2 d b hb
        exact ⟨i', o', z, h1, h2, h3, getD_set_true h4⟩
      have := hq M a w hlook inv.t.1 (inv.r.forget hsub) inv.d
      split
      · rename_i hw
        rw [if_pos hw] at this
        refine .inl (Oper.wp_mono (fun a' w' ⟨M', k1, ⟨x, k2⟩, k3, k4, k5⟩ => ?_) (this Q'))
        have kr := inv.r.over hsub k5 k4
        rw [hov] at kr
        have kf := Fr.over hsub k5
        rw [hov] at kf
        refine next _ M' a' w' ⟨put S.T o.dst v, S.H⟩ p hk ⟨newP, ⟨?_, fun t htn => ?_⟩, kr, k3, inv.f.trans kf, l1', l2'⟩
        · rw [k2]; cases o.dst <;> simp [Act.put, inv.t.1]
        · by_cases hdt : o.dst = some t
          · have h1 := k1 t hdt htn
            simp only []
            rw [hdt]; simpa [put, tset] using h1
          · simp only []
            rw [put_other hdt, k2]
            have h1 := VRel.mono k5.mle _ _ (inv.t.2 t htn)
            cases hod : o.dst with
            | none => exact h1
            | some d =>
              have hne : d ≠ t := fun e => hdt (by rw [hod, e])
              simp only [Act.put, Array.getD_eq_getD_getElem?] at h1 ⊢
              rwa [Array.getElem?_setIfInBounds_ne hne]
      · rename_i hw
        rw [if_neg hw] at this
        exact next _ M _ w ⟨put S.T o.dst v, S.H⟩ p hk ⟨newP, inv.t.put o.dst this, inv.r, put_defers inv.d _ _, inv.f, l1', l2'⟩
    · have hdst : o.dst = some d := (trCO_dst hA).symm
      have hpd : p d = none := by
        cases hp : p d with
        | none => rfl
        | some b =>
          obtain ⟨i', o', z', h1, h2, h3, h4⟩ := inv.l2 d b hp
          have hdst' : o'.dst = some d := (trCO_dst h3).symm
          have := hU i i' o o' d him h1 ho h2 hdst hdst'
          subst this
          rw [getD_both hun] at h4; cases h4
      have hop := vcOp_sound (K := fun S' => ∃ b, S.H b = none ∧ S' = ⟨put S.T (some d) (.ptr b 0), S.H.set b (some (.cells z z.length))⟩) hA
        (by
          simp only [vcOp, vcDo, getAll, List.foldr_nil, List.map_nil, vcE]
          exact ⟨trivial, fun b hb => ⟨b, hb, rfl⟩⟩) inv.t inv.r inv.d Q'
      have hnext : ∀ a' w', Fin n M S.H w (fun S' => ∃ b, S.H b = none ∧ S' = ⟨put S.T (some d) (.ptr b 0), S.H.set b (some (.cells z z.length))⟩) a' w' → wpAny P md ops Q' (f + g) (listed.setIfInBounds i true) a' w' := by
        rintro a' w' ⟨M', S', k1, k2, k3, k4, b, hb, rfl⟩
        have hpb : ∀ t, p t ≠ some b := fun t ht => by
          obtain ⟨y, hy⟩ := inv.pnd.dom t b ht
          rw [(inv.pnd.pend t y b hy ht).2.2] at hb; cases hb
        have hHb : H b = none := by
          rcases inv.pnd.sub b with e | e
          · rw [e]; exact hb
          · exact e
        refine next _ M' a' w' _ (fun t => if t = d then some b else p t) hk ⟨⟨fun t ht => ?_, fun t y hy => ?_, fun t y b' hy hb' => ?_, fun t t' b' h1 h2 => ?_, fun t b' h1 => ?_, fun x hx => ?_⟩, k1, k2, k3, inv.f.trans k4, fun i' o' d' z' h1 h2 h3 h4 => ?_, fun d' b' hb' => ?_⟩
        · have htd : t ≠ d := fun e => by subst e; exact ht z hdz
          have htd2 : some d ≠ some t := fun e => htd (by cases e; rfl)
          simp only []
          rw [hdst, put_other htd2, put_other htd2]; exact inv.pnd.tmp t ht
        · rw [hdst]
          by_cases htd : t = d
          · subst htd; simp [put, tset]
          · rw [put_other (fun e => htd (by cases e; rfl))]; exact inv.pnd.any t y hy
        · simp only []
          by_cases htd : t = d
          · subst htd
            simp only [if_true, Option.some.injEq] at hb'
            subst hb'
            have hyz := nodup_one hN hy hdz
            subst hyz
            exact ⟨by simp [put, tset], hHb, by rw [Heap.set_self]⟩
          · simp only [if_neg htd] at hb'
            obtain ⟨q1, q2, q3⟩ := inv.pnd.pend t y b' hy hb'
            have hne : b' ≠ b := fun e => by subst e; exact hpb t hb'
            exact ⟨by rw [put_other (fun e => htd (by cases e; rfl))]; exact q1, q2, by rw [Heap.set_ne _ _ hne]; exact q3⟩
        · by_cases h3 : t = d
          · by_cases h4 : t' = d
            · rw [h3, h4]
            · simp only [h3, if_true, Option.some.injEq] at h1
              simp only [if_neg h4] at h2
              subst h1
              exact absurd h2 (hpb t')
          · by_cases h4 : t' = d
            · simp only [h4, if_true, Option.some.injEq] at h2
              simp only [if_neg h3] at h1
              subst h2
              exact absurd h1 (hpb t)
            · simp only [if_neg h3] at h1
              simp only [if_neg h4] at h2
              exact inv.pnd.inj _ _ _ h1 h2
        · by_cases htd : t = d
          · subst htd; exact ⟨z, hdz⟩
          · simp only [if_neg htd] at h1; exact inv.pnd.dom t b' h1
        · simp only []
          have hxb : x ≠ b := fun e => hx d (by simp [e])
          rw [Heap.set_ne _ _ hxb]
          refine inv.pnd.out x fun t ht => hx t ?_
          have htd : t ≠ d := fun e => by subst e; rw [hpd] at ht; cases ht
          simp only [if_neg htd]; exact ht
        · by_cases hdd : d' = d
          · exact ⟨b, by simp [hdd]⟩
          · have hii : i ≠ i' := fun e => by
              subst e
              rw [ho] at h2; cases h2
              unfold AlO at h3 hA
              rw [hA] at h3
              cases h3; exact hdd rfl
            rw [getD_set_ne false hii] at h4
            simp only [if_neg hdd]
            exact inv.l1 i' o' d' z' h1 h2 h3 h4
        · by_cases hdd : d' = d
          · subst hdd
            exact ⟨i, o, z, him, ho, hA, set_self_true hun⟩
          · simp only [if_neg hdd] at hb'
            obtain ⟨i', o', z', h1, h2, h3, h4⟩ := inv.l2 d' b' hb'
            exact ⟨i', o', z', h1, h2, h3, getD_set_true h4⟩
      split
      · rename_i hw
        rw [if_pos hw] at hop
        exact .inl (Oper.wp_mono hnext hop)
      · rename_i hw
        rw [if_neg hw] at hop
        exact hnext _ _ hop
/-- No two operations ahead of number m write the same temporary. -/
def dstsB (ops : Array Oper) (m : Nat) : Bool := (List.range m).all fun i => (List.range m).all fun j => decide (i = j) ||
  match ops[i]?, ops[j]? with
  | some a, some b => a.dst.isNone || decide (a.dst ≠ b.dst)
  | _, _ => true
theorem dstsB_spec {m : Nat} (h : dstsB ops m = true) : ∀ i j o o' d, i < m → j < m → ops[i]? = some o → ops[j]? = some o' → o.dst = some d → o'.dst = some d → i = j := by
  intro i j o o' d hi hj h1 h2 h3 h4
  unfold dstsB at h
  have := List.all_eq_true.1 (List.all_eq_true.1 h i (by simpa using hi)) j (by simpa using hj)
  rw [h1, h2] at this
  simpa [h3, h4] using this
def alB (cs : List CO) : Bool := nodupB (cs.filterMap alCO) && cs.all fun c => isAl c || match c.dst with
  | none => true
  | some d => !hasK d (cs.filterMap alCO)
theorem trOps_at : ∀ {l : List Oper} {cos : List CO}, trOps P n mdn ops l = some cos → ∀ (i : Nat) (o : Oper), l[i]? = some o → ∃ c, c ∈ cos ∧ trCO P n mdn ops o = some c
  | [], cos, e, i, o, h => by simp at h
  | x :: l, cos, e, i, o, h => by
    simp only [trOps] at e
    split at e
    · rename_i c cs e1 e2
      cases e
      cases i with
      | zero => simp only [List.getElem?_cons_zero, Option.some.injEq] at h; subst h; exact ⟨c, by simp, e1⟩
      | succ i =>
        obtain ⟨c', h1, h2⟩ := trOps_at e2 i o (by simpa using h)
        exact ⟨c', by simp [h1], h2⟩
    · cases e
theorem trOps_back : ∀ {l : List Oper} {cos : List CO}, trOps P n mdn ops l = some cos → ∀ c ∈ cos, ∃ (i : Nat) (o : Oper), l[i]? = some o ∧ trCO P n mdn ops o = some c
  | [], cos, e, c, h => by simp only [trOps, Option.some.injEq] at e; subst e; cases h
  | x :: l, cos, e, c, h => by
    simp only [trOps] at e
    split at e
    · rename_i c0 cs e1 e2
      cases e
      rcases List.mem_cons.1 h with rfl | h
      · exact ⟨0, x, rfl, e1⟩
      · obtain ⟨i, o, h1, h2⟩ := trOps_back e2 c h
        exact ⟨i + 1, o, by simpa using h1, h2⟩
    · cases e
end
end Go.Sf

end
section
/- Regions whose order is open: what looks at no block that may be written is taken first; of the rest every order is walked. -/
set_option linter.unusedVariables false
set_option linter.unusedSimpArgs false
namespace Go.Sf
theorem AppIn.mono {sz : Nat} {s : AV} {new : List AV} {n m : Nat} {H : Heap} {K K2 : AV → Heap → Prop} (h1 : ∀ v H', K v H' → K2 v H') (h : AppIn sz s new n m H K) : AppIn sz s new n m H K2 := by
  unfold AppIn at h
  split at h
  · simp only [AppIn]
    split at h
    · rename_i e
      (try simp only [e])
      exact ⟨h.1, h.2.1, h.2.2.1, h.2.2.2.1, h1 _ _ h.2.2.2.2⟩
    · exact h.elim
  · exact h.elim
/-- The condition of an operation rests on what it is given alone. -/
theorem vcE_map {P : Program} {k : EK} {as : List AV} {d : Option Nat} {T1 T2 : Nat → AV} {H : Heap} {K K2 : AS → Prop} (h1 : ∀ v H', K ⟨put T1 d v, H'⟩ → K2 ⟨put T2 d v, H'⟩) (h2 : ∀ H', K ⟨T1, H'⟩ → K2 ⟨T2, H'⟩)
    (h : vcE P k as d ⟨T1, H⟩ K) : vcE P k as d ⟨T2, H⟩ K2 := by
  unfold vcE at h
  split at h
  all_goals simp only [vcE]
  case h_1 => exact fun b hb => h1 _ _ (h b hb)
  case h_2 => exact ⟨h.1, fun b hb => h1 _ _ (h.2 b hb)⟩
  case h_3 =>
    obtain ⟨h0, h⟩ := h
    refine ⟨h0, ?_⟩
    split at h
    · rename_i e
      (try simp only [e])
      split at h
      · rename_i hf; rw [if_pos hf]; exact h1 _ _ h
      · rename_i hf; rw [if_neg hf]; exact fun b hb => h1 _ _ (h b hb)
    · exact h.elim
  case h_4 =>
    obtain ⟨h0, h⟩ := h
    refine ⟨h0, ?_⟩
    split at h
    · rename_i e; (try simp only at e); (try simp only [e]); exact ⟨h.1, h2 _ h.2⟩
    · exact h.elim
  case h_5 =>
    obtain ⟨h0, h3, h⟩ := h
    refine ⟨h0, h3, ?_⟩
    split at h
    · rename_i e; (try simp only at e); (try simp only [e]); exact ⟨h.1, h2 _ h.2⟩
    · exact h.elim
  case h_6 =>
    split at h
    · rename_i e1 e2 e3 e4
      (try simp only at e1 e2)
      (try simp only [e1, e2, e3, e4])
      obtain ⟨h3, h4, h⟩ := h
      refine ⟨h3, h4, ?_⟩
      split at h
      · rename_i hf; rw [if_pos hf]; exact h1 _ _ h
      · rename_i hf
        rw [if_neg hf]
        exact ⟨fun a b => h1 _ _ (h.1 a b), h.2.1, fun a b c hb hc => h1 _ _ (h.2.2 a b c hb hc)⟩
    · rename_i e1 e2 e3 e4
      (try simp only at e1 e2)
      (try simp only [e1, e2, e3, e4])
      exact ⟨h.1, AppIn.mono (fun v H' => h1 v H') h.2⟩
    · exact h.elim
  case h_7 =>
    split at h
    · rename_i e
      (try simp only [e])
      split at h
      · rename_i e1 e2
        (try simp only at e1 e2)
        (try simp only [e1, e2])
        exact ⟨h.1, h.2.1, h.2.2.1, h1 _ _ h.2.2.2⟩
      · exact h.elim
    · exact h.elim
  case h_8 =>
    split at h
    · rename_i e; (try simp only at e); (try simp only [e]); exact ⟨h.1, h.2.1, h.2.2.1, h1 _ _ h.2.2.2⟩
    · exact h.elim
  case h_9 => exact h1 _ _ h
  case h_10 =>
    split at h
    · rename_i e; (try simp only at e); (try simp only [e])
      exact ⟨h.1, h.2.1, h.2.2.1, h.2.2.2.1, h.2.2.2.2.1, fun b c hb hc => h1 _ _ (h.2.2.2.2.2 b c hb hc)⟩
    · exact h.elim
  case h_11 => exact ⟨h.1, h.2.1, fun b c hb hc => h1 _ _ (h.2.2 b c hb hc)⟩
  case h_12 =>
    split at h
    · rename_i e; (try simp only at e); (try simp only [e]); exact ⟨h.1, h.2.1, h.2.2.1, h1 _ _ h.2.2.2⟩
    · exact h.elim
  case h_13 =>
    split at h
    · rename_i e; (try simp only at e); (try simp only [e]); exact ⟨h.1, h.2.1, h.2.2.1, h1 _ _ h.2.2.2⟩
    · exact h.elim
  case h_14 =>
    obtain ⟨g1, g2, g3, g4, h⟩ := h
    refine ⟨g1, g2, g3, g4, ?_⟩
    split at h
    · rename_i hf; rw [if_pos hf]; exact h1 _ _ h
    · rename_i hf; rw [if_neg hf]; exact fun b hb => h1 _ _ (h b hb)
  case h_15 => exact h1 _ _ h
  case h_16 => exact fun b hb => h1 _ _ (h b hb)
  case h_17 =>
    split at h
    · rename_i e; (try simp only at e); (try simp only [e])
      split at h
      · rename_i e2; (try simp only [e2]); exact h1 _ _ h
      · exact h.elim
    · exact h.elim
  case h_18 =>
    split at h
    · rename_i e; (try simp only at e); (try simp only [e])
      split at h
      · rename_i e2; (try simp only [e2]); exact h1 _ _ h
      · exact h.elim
    · exact h.elim
  case h_19 => exact ⟨h.1, h1 _ _ h.2⟩
  case h_20 => exact fun b hb => h1 _ _ (h b hb)
  case h_21 =>
    split at h
    · rename_i e; (try simp only at e); (try simp only [e])
      exact fun b bs clock q1 q2 q3 q4 => h1 _ _ (h b bs clock q1 q2 q3 q4)
    · rename_i e; (try simp only at e); (try simp only [e])
      exact fun b hb => h1 _ _ (h b hb)
    · exact h.elim
  case h_22 =>
    split at h
    · rename_i e; (try simp only at e); (try simp only [e]); exact h1 _ _ h
    · rename_i e; (try simp only at e); (try simp only [e])
      split at h
      · rename_i e2; (try simp only at e2); (try simp only [e2])
        exact ⟨h.1, h.2.1, fun q => h1 _ _ (h.2.2.1 q), fun j e x a b c => h1 _ _ (h.2.2.2 j e x a b c)⟩
      · exact h.elim
    · exact h.elim
  case h_23 =>
    split at h
    · rename_i e; (try simp only at e); (try simp only [e])
      split at h
      · rename_i e2; (try simp only at e2); (try simp only [e2])
        obtain ⟨q1, j, e', x, q2, q3, q4, q5⟩ := h
        exact ⟨q1, j, e', x, q2, q3, q4, h1 _ _ q5⟩
      · exact h.elim
    · exact h.elim
  case h_24 => exact CC.mono h fun v H' q => h1 _ _ q
  case h_25 => exact ⟨h.1, CC.mono h.2 fun v H' q => h1 _ _ q⟩
  case h_26 => exact h.elim
section
variable {P : Program} {n : Nat} {mdn : Nat → Bool} {md : Region.Mode} {ops : Array Oper}
/-- An operation's condition rests on the temporaries that it looks at. -/
theorem vcOp_gen {o : Oper} {c : CO} (e : trCO P n mdn ops o = some c) {T1 T2 : Nat → AV} {H : Heap} {K K2 : AS → Prop} (hl : ∀ t ∈ o.looksAt ops, T1 t = T2 t)
    (h1 : ∀ v H', K ⟨put T1 o.dst v, H'⟩ → K2 ⟨put T2 o.dst v, H'⟩) (h2 : ∀ H', K ⟨T1, H'⟩ → K2 ⟨T2, H'⟩) (h : vcOp P c ⟨T1, H⟩ K) : vcOp P c ⟨T2, H⟩ K2 := by
  have hk : keepT (o.looksAt ops) T1 = keepT (o.looksAt ops) T2 := by
    funext t
    unfold keepT
    split
    · rename_i ht; exact hl t ht
    · rfl
  unfold trCO at e
  split at e
  · rename_i g c' hg hc
    split at e
    · cases e
      have hev : (∀ k xs, c' ≠ .e k xs) → evP c' T1 H = evP c' T2 H := fun hne => by
        have hpp : trP P n o.op = some c' := by
          unfold trOp at hc
          split at hc
          · rename_i h; cases hc; exact h
          · split at hc
            · simp only [Option.map_eq_some_iff] at hc
              obtain ⟨cs, _, rfl⟩ := hc
              exact absurd rfl (hne _ _)
            · cases hc
              exact absurd rfl (hne _ _)
        rw [← evP_keep (ops := ops) hpp T1, hk, evP_keep hpp]
      have hga : ∀ k xs, c' = .e k xs → getAll xs T1 = getAll xs T2 := fun k xs hcc => by
        subst hcc
        unfold trOp at hc
        split at hc
        · rename_i hp
          cases hc
          exfalso
          unfold trP at hp
          split at hp
          · split at hp <;> simp at hp
          · split at hp
            · simp at hp
            · cases hp
        · split at hc
          · rename_i k' xs' he
            simp only [Option.map_eq_some_iff] at hc
            obtain ⟨cs, hcs, hkk⟩ := hc
            cases hkk
            have := cxs_keep hcs (ts := o.looksAt ops) (fun t ht => mem_looks (trE_operands he _ ht))
            rw [← this T1, hk, this T2]
          · cases hc; rfl
      have hdo : vcDo P ⟨o.dst, g, c'⟩ ⟨T1, H⟩ K → vcDo P ⟨o.dst, g, c'⟩ ⟨T2, H⟩ K2 := by
        intro h
        cases c' with
        | e k xs =>
          simp only [vcDo] at h ⊢
          rw [← hga k xs rfl]
          exact ⟨h.1, vcE_map h1 h2 h.2⟩
        | p k xs =>
          have := hev (fun _ _ h => by cases h)
          simp only [vcDo] at h ⊢
          rw [← this]
          split at h
          · exact ⟨h.1, h1 _ _ h.2⟩
          · exact h.elim
        | pick x y z =>
          have := hev (fun _ _ h => by cases h)
          simp only [vcDo] at h ⊢
          rw [← this]
          split at h
          · exact ⟨h.1, h1 _ _ h.2⟩
          · exact h.elim
      cases hgo : o.guard with
      | none =>
        rw [hgo] at hg
        simp only [trG, Option.some.injEq] at hg; subst hg
        simp only [vcOp] at h ⊢
        exact hdo h
      | some jw =>
        obtain ⟨j, want⟩ := jw
        rw [hgo] at hg
        simp only [trG] at hg
        split at hg
        · rename_i t htj
          split at hg
          · rename_i htn
            simp only [Option.some.injEq] at hg; subst hg
            have htl : t ∈ o.looksAt ops := by
              unfold Oper.looksAt
              rw [hgo]
              refine List.mem_append_right _ ?_
              simp only [htj]; simp
            have ht := hl t htl
            cases c' with
            | e k xs =>
              simp only [vcOp] at h ⊢
              rw [← ht]
              split at h
              · exact ⟨fun q => hdo (h.1 q), fun q => h1 _ _ (h.2 q)⟩
              · exact h.elim
            | p k xs =>
              have := hev (fun _ _ h => by cases h)
              simp only [vcOp] at h ⊢
              rw [← ht, ← this]
              split at h
              · split at h
                · exact ⟨h.1, h1 _ _ h.2⟩
                · exact ⟨h.1, h1 _ _ h.2⟩
              · exact h.elim
            | pick x y z =>
              have := hev (fun _ _ h => by cases h)
              simp only [vcOp] at h ⊢
              rw [← ht, ← this]
              split at h
              · split at h
                · exact ⟨h.1, h1 _ _ h.2⟩
                · exact ⟨h.1, h1 _ _ h.2⟩
              · exact h.elim
          · cases hg
        · cases hg
    · cases e
  · cases e
def gOp (P : Program) (n : Nat) (mdn : Nat → Bool) (R : Heap) (ops : Array Oper) (i : Nat) (K : AS → Prop) (S : AS) : Prop :=
  match ops[i]? with
  | none => K S
  | some o => (∃ v, QV P n ops o R S.T v ∧ K ⟨put S.T o.dst v, S.H⟩) ∨ ∃ c, trCO P n mdn ops o = some c ∧ vcOp P c S (fun S' => Sub R S'.H ∧ K S')
theorem gOp_mono {R : Heap} {i : Nat} {S : AS} {K K' : AS → Prop} (h : ∀ S, K S → K' S) (hh : gOp P n mdn R ops i K S) : gOp P n mdn R ops i K' S := by
  unfold gOp at *
  split
  · rename_i e; rw [e] at hh; exact h _ hh
  · rename_i o e
    rw [e] at hh
    rcases hh with ⟨v, h1, h2⟩ | ⟨c, h1, h2⟩
    · exact .inl ⟨v, h1, h _ h2⟩
    · exact .inr ⟨c, h1, vcOp_gen h1 (T1 := S.T) (T2 := S.T) (fun _ _ => rfl) (fun v H' q => ⟨q.1, h _ q.2⟩) (fun H' q => ⟨q.1, h _ q.2⟩) h2⟩
def gAny (P : Program) (n : Nat) (mdn : Nat → Bool) (R : Heap) (md : Region.Mode) (ops : Array Oper) (K : AS → Prop) : Nat → Array Bool → AS → Prop
  | 0, listed, S => Region.ready md ops listed = [] ∧ K S
  | f + 1, listed, S => (Region.ready md ops listed = [] → K S) ∧ ∀ i ∈ Region.ready md ops listed, gOp P n mdn R ops i (gAny P n mdn R md ops K f (listed.setIfInBounds i true)) S
theorem gOp_put {R : Heap} {j : Nat} {oi oj : Oper} {v : AV} (hj : ops[j]? = some oj) (hap : oi.apart ops oj = true) {K : AS → Prop} {S : AS} (hy : QV P n ops oi R S.T v) (h : gOp P n mdn R ops j K ⟨put S.T oi.dst v, S.H⟩) :
    gOp P n mdn R ops j (fun S' => QV P n ops oi R S'.T v ∧ K ⟨put S'.T oi.dst v, S'.H⟩) S := by
  obtain ⟨h1, h2, h3⟩ := Oper.apart_spec hap
  unfold gOp at *
  simp only [hj] at *
  rcases h with ⟨u, hu, hK⟩ | ⟨c, hc, hv⟩
  · refine .inl ⟨u, hu.congr fun t ht => ?_, hy.congr fun t ht => ?_, ?_⟩
    · symm; exact put_other fun e => h1 t e ht
    · exact put_other fun e => h3 t e ht
    · rw [← put_comm' v u h2]; exact hK
  · refine .inr ⟨c, hc, vcOp_gen hc (fun t ht => put_other fun e => h1 t e ht) (fun u H' hK => ⟨hK.1, hy.congr fun t ht => put_other fun e => h3 t e ht, ?_⟩) (fun H' hK => ⟨hK.1, hy, hK.2⟩) hv⟩
    simp only []
    rw [← put_comm' v u h2]; exact hK.2
theorem gAny_first {R : Heap} {K : AS → Prop} {i : Nat} {oi : Oper} {v : AV} (hi : ops[i]? = some oi) :
    ∀ (f : Nat) (listed : Array Bool) (S : AS),
      (∀ j oj, ops[j]? = some oj → j ≠ i → listed.getD j true = false → (∀ e ∈ oj.after, Region.binds md e = true → e.on ≠ i) → oi.apart ops oj = true) →
      i ∈ Region.ready md ops listed → QV P n ops oi R S.T v →
      gAny P n mdn R md ops K f (listed.setIfInBounds i true) ⟨put S.T oi.dst v, S.H⟩ → gAny P n mdn R md ops K (f + 1) listed S := by
  intro f
  induction f with
  | zero =>
    intro listed S _ hr hy hh
    refine ⟨fun h => (by rw [h] at hr; cases hr), fun j hj => ?_⟩
    by_cases hji : j = i
    · subst hji; unfold gOp; rw [hi]; exact .inl ⟨v, hy, hh⟩
    · have := ready_mono hj hji
      rw [hh.1] at this; cases this
  | succ f ih =>
    intro listed S hfree hr hy hh
    have hun := (mem_ready.1 hr).1
    refine ⟨fun h => (by rw [h] at hr; cases hr), fun j hj => ?_⟩
    by_cases hji : j = i
    · subst hji; unfold gOp; rw [hi]; exact .inl ⟨v, hy, hh⟩
    · have h1 := hh.2 j (ready_mono hj hji)
      obtain ⟨hjun, oj, hoj, hall⟩ := mem_ready.1 hj
      have hnot : ∀ e ∈ oj.after, Region.binds md e = true → e.on ≠ i := fun e he hb heq => by
        have h1 := hall e he hb
        rw [heq, getD_both hun] at h1
        cases h1
      have h2 := gOp_put hoj (hfree j oj hoj hji hjun hnot) hy h1
      have hfree' : ∀ k ok, ops[k]? = some ok → k ≠ i → (listed.setIfInBounds j true).getD k true = false →
          (∀ e ∈ ok.after, Region.binds md e = true → e.on ≠ i) → oi.apart ops ok = true := fun k ok hk hki hun hno => by
        refine hfree k ok hk hki ?_ hno
        by_cases hjk : j = k
        · subst hjk; exact hjun
        · rw [getD_set_ne true hjk] at hun; exact hun
      refine gOp_mono (fun S' h3 => ih (listed.setIfInBounds j true) S' hfree' (ready_mono hr (Ne.symm hji)) h3.1 ?_) h2
      rw [Array.setIfInBounds_comm _ _ hji]
      exact h3.2
theorem qWalk_mono {Y : Oper → (Nat → AV) → AV → Prop} {K K' : (Nat → AV) → Prop} (h : ∀ T, K T → K' T) : ∀ {l : List Oper} {T : Nat → AV}, qWalk Y l T K → qWalk Y l T K'
  | [], T, hh => h _ hh
  | o :: l, T, hh => by obtain ⟨v, h1, h2⟩ := hh; exact ⟨v, h1, qWalk_mono h h2⟩
def headB (md : Region.Mode) (ops : Array Oper) : List Nat → Array Bool → Bool
  | [], _ => true
  | i :: is, listed => (Region.ready md ops listed).contains i && Region.free md ops listed i && headB md ops is (listed.setIfInBounds i true)
def setAll : List Nat → Array Bool → Array Bool
  | [], l => l
  | i :: is, l => setAll is (l.setIfInBounds i true)
theorem gAny_heads {R : Heap} {K : AS → Prop} {f : Nat} : ∀ (is : List Nat) (l : List Oper) (listed : Array Bool) (S : AS), is.map (fun i => ops[i]?) = l.map some → headB md ops is listed = true →
    qWalk (QY P n ops R) l S.T (fun T => gAny P n mdn R md ops K f (setAll is listed) ⟨T, S.H⟩) → gAny P n mdn R md ops K (f + is.length) listed S
  | [], l, listed, S, hl, _, h => by
    have : l = [] := by simpa using hl.symm
    subst this
    exact h
  | i :: is, l, listed, S, hl, hB, h => by
    cases l with
    | nil => simp at hl
    | cons o l =>
      simp only [List.map_cons, List.cons.injEq] at hl
      obtain ⟨h0, hl⟩ := hl
      simp only [headB, Bool.and_eq_true] at hB
      obtain ⟨⟨hr, hf⟩, hB⟩ := hB
      obtain ⟨v, hy, hK⟩ := h
      rw [List.length_cons, ← Nat.add_assoc]
      exact gAny_first h0 _ listed S (Region.free_spec h0 hf) (by simpa using hr) hy (gAny_heads is l _ ⟨put S.T o.dst v, S.H⟩ hl hB hK)
theorem Heap.over_self {R H : Heap} (h : Sub R H) : Heap.over H R R = H := by
  funext b
  unfold Heap.over
  rcases h b with e | e <;> rw [e]
  · cases H b <;> rfl
  · cases H b <;> rfl
theorem wpAny_of_gAny {R : Heap} {K : AS → Prop} {M0 : Mem} {H0 : Heap} {w0 : World} : ∀ (f : Nat) (listed : Array Bool) (S : AS) (M : Mem) (a : Act) (w : World), TRel n M S.T a.tmps → Rel M S.H w → a.defers = [] → Fr M0 H0 w0 M S.H w → Sub R S.H →
    gAny P n mdn R md ops K f listed S → wpAny P md ops (QN n M0 H0 w0 K) f listed a w
  | 0, listed, S, M, a, w, ht, hr, hd, hf, hs, h => ⟨h.1, rfl, M, S, ht, hr, hd, hf, h.2⟩
  | f + 1, listed, S, M, a, w, ht, hr, hd, hf, hs, h => by
    refine ⟨fun h0 => ⟨rfl, M, S, ht, hr, hd, hf, h.1 h0⟩, fun i hi => ?_⟩
    have hop := h.2 i hi
    unfold gOp at hop
    cases ho : ops[i]? with
    | none =>
      rw [ho] at hop
      unfold wpOp
      rw [ho]
      exact wpAny_of_gAny f _ S M a w ht hr hd hf hs hop
    | some o =>
      rw [ho] at hop
      rcases hop with ⟨v, hq, hk⟩ | ⟨c, hc, hv⟩
      · refine wpOp_of_aOp (H := R) (n := n) (T := S.T) (K := fun T' => gAny P n mdn R md ops K f (listed.setIfInBounds i true) ⟨T', S.H⟩) ?_ ht (hr.forget hs) hd fun T' M' a' w' hk t' r' d' f' => ?_
        · unfold aOp; rw [ho]; exact ⟨v, hq, hk⟩
        · have r2 := hr.over hs f' r'
          have f2 := Fr.over hs f'
          rw [Heap.over_self hs] at r2 f2
          exact wpAny_of_gAny f _ ⟨T', S.H⟩ M' a' w' t' r2 d' (hf.trans f2) hs hk
      · have hop := vcOp_sound hc hv ht hr hd (QN n M0 H0 w0 K)
        have hnext : ∀ a' w', Fin n M S.H w (fun S' => Sub R S'.H ∧ gAny P n mdn R md ops K f (listed.setIfInBounds i true) S') a' w' → wpAny P md ops (QN n M0 H0 w0 K) f (listed.setIfInBounds i true) a' w' := by
          rintro a' w' ⟨M', S', k1, k2, k3, k4, k5⟩
          exact wpAny_of_gAny f _ S' M' a' w' k1 k2 k3 (hf.trans k4) k5.1 k5.2
        unfold wpOp
        rw [ho]
        simp only
        split
        · rename_i hw
          rw [if_pos hw] at hop
          exact .inl (Oper.wp_mono hnext hop)
        · rename_i hw
          rw [if_neg hw] at hop
          exact hnext _ _ hop
/-- Every order of what is left. -/
def trU (P : Program) (n : Nat) (mt : Nat → Bool) (ops : Array Oper) : Nat → Array Bool → Option OT
  | 0, listed => if (Region.ready .any ops listed).isEmpty then some .done else none
  | f + 1, listed => if (Region.ready .any ops listed).isEmpty then some .done else trAll P n mt ops (trU P n mt ops f) listed (Region.ready .any ops listed)
theorem trAll_g {rec : Array Bool → Option OT} {listed : Array Bool} {S : AS} {K : AS → Prop} : ∀ (l : List Nat) (t : OT), trAll P n mdn ops rec listed l = some t → vcT P t S K → ∀ i ∈ l,
    ∃ o c t', ops[i]? = some o ∧ trCO P n mdn ops o = some c ∧ rec (listed.setIfInBounds i true) = some t' ∧ vcOp P c S (fun S' => vcT P t' S' K) := by
  have one : ∀ (i : Nat) (t : OT), trOne P n mdn ops rec listed i = some t → vcT P t S K → ∃ o c t', ops[i]? = some o ∧ trCO P n mdn ops o = some c ∧ rec (listed.setIfInBounds i true) = some t' ∧ vcOp P c S (fun S' => vcT P t' S' K) := by
    intro i t e hv
    unfold trOne at e
    split at e
    · rename_i o ho
      split at e
      · rename_i c t' e1 e2
        cases e
        simp only [vcT] at hv
        exact ⟨o, c, t', ho, e1, e2, hv⟩
      · cases e
    · cases e
  intro l
  induction l with
  | nil => intro t e hv i hi; cases hi
  | cons j l ih =>
    intro t e hv i hi
    cases l with
    | nil =>
      simp only [List.mem_singleton] at hi; subst hi
      exact one i t e hv
    | cons k r =>
      simp only [trAll] at e
      split at e
      · rename_i x y e1 e2
        cases e
        simp only [vcT] at hv
        rcases List.mem_cons.1 hi with rfl | hi
        · exact one i x e1 hv.1
        · exact ih y e2 hv.2 i hi
      · cases e
theorem gAny_of_trU {K : AS → Prop} : ∀ (f : Nat) (listed : Array Bool) (t : OT) (S : AS), trU P n mdn ops f listed = some t → vcT P t S K → gAny P n mdn Heap.nil .any ops K f listed S
  | 0, listed, t, S, e, hv => by
    simp only [trU] at e
    split at e
    · rename_i h
      cases e
      exact ⟨by simpa using h, hv⟩
    · cases e
  | f + 1, listed, t, S, e, hv => by
    simp only [trU] at e
    split at e
    · rename_i h
      cases e
      have h' : Region.ready .any ops listed = [] := by simpa using h
      exact ⟨fun _ => hv, fun i hi => by rw [h'] at hi; cases hi⟩
    · rename_i hne
      refine ⟨fun h0 => absurd h0 (by simpa using hne), fun i hi => ?_⟩
      obtain ⟨o, c, t', h1, h2, h3, h4⟩ := trAll_g _ t e hv i hi
      unfold gOp
      rw [h1]
      exact .inr ⟨c, h2, vcOp_gen h2 (T1 := S.T) (T2 := S.T) (fun _ _ => rfl) (fun v H' q => ⟨Sub.nil _, gAny_of_trU f _ t' _ h3 q⟩) (fun H' q => ⟨Sub.nil _, gAny_of_trU f _ t' _ h3 q⟩) h4⟩
theorem trAll_gR {R : Heap} {rec : Array Bool → Option OT} {listed : Array Bool} {S : AS} {K : AS → Prop} : ∀ (l : List Nat) (t : OT), trAll P n mdn ops rec listed l = some t → vcTR P R t S K → ∀ i ∈ l,
    ∃ o c t', ops[i]? = some o ∧ trCO P n mdn ops o = some c ∧ rec (listed.setIfInBounds i true) = some t' ∧ vcOp P c S (fun S' => Sub R S'.H ∧ vcTR P R t' S' K) := by
  have one : ∀ (i : Nat) (t : OT), trOne P n mdn ops rec listed i = some t → vcTR P R t S K → ∃ o c t', ops[i]? = some o ∧ trCO P n mdn ops o = some c ∧ rec (listed.setIfInBounds i true) = some t' ∧ vcOp P c S (fun S' => Sub R S'.H ∧ vcTR P R t' S' K) := by
    intro i t e hv
    unfold trOne at e
    split at e
    · rename_i o ho
      split at e
      · rename_i c t' e1 e2
        cases e
        simp only [vcTR] at hv
        exact ⟨o, c, t', ho, e1, e2, hv⟩
      · cases e
    · cases e
  intro l
  induction l with
  | nil => intro t e hv i hi; cases hi
  | cons j l ih =>
    intro t e hv i hi
    cases l with
    | nil =>
      simp only [List.mem_singleton] at hi; subst hi
      exact one i t e hv
    | cons k r =>
      simp only [trAll] at e
      split at e
      · rename_i x y e1 e2
        cases e
        simp only [vcTR] at hv
        rcases List.mem_cons.1 hi with rfl | hi
        · exact one i x e1 hv.1
        · exact ih y e2 hv.2 i hi
      · cases e
theorem gAny_of_trUR {R : Heap} {K : AS → Prop} : ∀ (f : Nat) (listed : Array Bool) (t : OT) (S : AS), trU P n mdn ops f listed = some t → vcTR P R t S K → gAny P n mdn R .any ops K f listed S
  | 0, listed, t, S, e, hv => by
    simp only [trU] at e
    split at e
    · rename_i h
      cases e
      exact ⟨by simpa using h, hv⟩
    · cases e
  | f + 1, listed, t, S, e, hv => by
    simp only [trU] at e
    split at e
    · rename_i h
      cases e
      have h' : Region.ready .any ops listed = [] := by simpa using h
      exact ⟨fun _ => hv, fun i hi => by rw [h'] at hi; cases hi⟩
    · rename_i hne
      refine ⟨fun h0 => absurd h0 (by simpa using hne), fun i hi => ?_⟩
      obtain ⟨o, c, t', h1, h2, h3, h4⟩ := trAll_gR _ t e hv i hi
      unfold gOp
      rw [h1]
      exact .inr ⟨c, h2, vcOp_gen h2 (T1 := S.T) (T2 := S.T) (fun _ _ => rfl) (fun v H' q => ⟨q.1, gAny_of_trUR f _ t' _ h3 q.2⟩) (fun H' q => ⟨q.1, gAny_of_trUR f _ t' _ h3 q.2⟩) h4⟩
/-- Which of the operations ahead of number m look only. -/
def lookI (P : Program) (n : Nat) (ops : Array Oper) (m : Nat) : List Nat := (List.range m).filter fun i => match ops[i]? with
  | some o => (trP P n o.op).isSome
  | none => false
theorem map_there : ∀ l : List Nat, (∀ i ∈ l, ops[i]? ≠ none) → l.map (fun i => ops[i]?) = (l.filterMap (fun i => ops[i]?)).map some
  | [], _ => rfl
  | i :: l, h => by
    have ih := map_there l fun j hj => h j (by simp [hj])
    cases ho : ops[i]? with
    | none => exact absurd ho (h i (by simp))
    | some o =>
      rw [List.map_cons, List.filterMap_cons]
      simp only [ho, List.map_cons, List.cons.injEq, true_and]
      exact ih
theorem lookI_map (m : Nat) : (lookI P n ops m).map (fun i => ops[i]?) = ((lookI P n ops m).filterMap (fun i => ops[i]?)).map some := by
  refine map_there _ fun i hi e => ?_
  have := (List.mem_filter.1 hi).2
  rw [e] at this
  cases this
theorem drawF_sound {is : List Nat} {l : List Oper} {hs : List CO} {t : OT} {id : Nat} {S : AS} {Q : Exit → AS → Prop} (hm : P.follows .mixedOrders = true) (hl : is.map (fun i => ops[i]?) = l.map some) (hB : headB .any ops is (Array.replicate ops.size false) = true)
    (hn : is.length ≤ ops.size) (e1 : trOps P n mdn ops l = some hs) (e2 : trU P n mdn ops (ops.size - is.length) (setAll is (Array.replicate ops.size false)) = some t)
    (hv : vcQ P Heap.nil hs S.T fun T => vcT P t ⟨T, S.H⟩ (Q .normal)) : CT P n (.region id ops true) S Q := by
  have : CT P n (.region id ops true) S (fun e S' => e = .normal ∧ Q .normal S') := by
    intro M a w ht hr hd
    have hq : qWalk (QY P n ops Heap.nil) l S.T (fun T => gAny P n mdn Heap.nil .any ops (Q .normal) (ops.size - is.length) (setAll is (Array.replicate ops.size false)) ⟨T, S.H⟩) :=
      qWalk_mono (fun T h => gAny_of_trU _ _ t _ e2 h) (qWalk_of_vcQ e1 hv)
    have hg := gAny_heads is l _ S hl hB hq
    rw [show ops.size - is.length + is.length = ops.size by omega] at hg
    have h := wpAny_of_gAny (M0 := M) (H0 := S.H) (w0 := w) ops.size _ S M a { w with drawn := w.drawn + 1 } ht (hr.drawn _) hd (Fr.drawn M S.H w _) (Sub.nil _) hg
    exact wp_mono (wp_region_any (id := id) hm h) fun e a w f => f.2.mono fun S' hq => ⟨f.1, hq⟩
  exact this.mono fun e S' h => by obtain ⟨rfl, h⟩ := h; exact h
theorem drawG_sound {is : List Nat} {l : List Oper} {hs : List CO} {t : OT} {id : Nat} {S : AS} {Q : Exit → AS → Prop} (hm : P.follows .mixedOrders = true) (hl : is.map (fun i => ops[i]?) = l.map some) (hB : headB .any ops is (Array.replicate ops.size false) = true)
    (hn : is.length ≤ ops.size) (e1 : trOps P n mdn ops l = some hs) (e2 : trU P n mdn ops (ops.size - is.length) (setAll is (Array.replicate ops.size false)) = some t)
    (hv : ∃ R, Sub R S.H ∧ vcQ P R hs S.T fun T => vcTR P R t ⟨T, S.H⟩ (Q .normal)) : CT P n (.region id ops true) S Q := by
  obtain ⟨R, hsub, hv⟩ := hv
  have : CT P n (.region id ops true) S (fun e S' => e = .normal ∧ Q .normal S') := by
    intro M a w ht hr hd
    have hq : qWalk (QY P n ops R) l S.T (fun T => gAny P n mdn R .any ops (Q .normal) (ops.size - is.length) (setAll is (Array.replicate ops.size false)) ⟨T, S.H⟩) :=
      qWalk_mono (fun T h => gAny_of_trUR _ _ t _ e2 h) (qWalk_of_vcQ e1 hv)
    have hg := gAny_heads is l _ S hl hB hq
    rw [show ops.size - is.length + is.length = ops.size by omega] at hg
    have h := wpAny_of_gAny (M0 := M) (H0 := S.H) (w0 := w) ops.size _ S M a { w with drawn := w.drawn + 1 } ht (hr.drawn _) hd (Fr.drawn M S.H w _) hsub hg
    exact wp_mono (wp_region_any (id := id) hm h) fun e a w f => f.2.mono fun S' hq => ⟨f.1, hq⟩
  exact this.mono fun e S' h => by obtain ⟨rfl, h⟩ := h; exact h
end
end Go.Sf

end
section
/- Code: its translation, the condition under which it does what is asked of it, and that this is right. -/
set_option linter.unusedVariables false
set_option linter.unusedSimpArgs false
namespace Go.Sf
section
variable {P : Program} {n : Nat} {ops : Array Oper}

theorem wpAny_of_seq' {md : Region.Mode} {Q' : Exit → Act → World → Prop} : ∀ (l : List Oper) (k : Nat) (listed : Array Bool) (a : Act) (w : World), (∀ j, l[j]? = ops[k + j]?) →
    Region.seqB md ops l.length k listed = true → wpOps P ops Q' (List.range' k l.length) a w → wpAny P md ops Q' l.length listed a w
  | [], _, _, _, _, _, hB, h => ⟨by simpa [Region.seqB] using hB, by simpa [wpOps] using h⟩
  | o :: l, k, listed, a, w, hl, hB, h => by
    have h0 : ops[k]? = some o := by simpa using (hl 0).symm
    simp only [List.length_cons, Region.seqB, Bool.and_eq_true, decide_eq_true_eq] at hB
    simp only [List.length_cons, List.range'_succ] at h
    rw [wpOps_cons] at h
    refine ⟨fun h1 => (by rw [hB.1] at h1; cases h1), fun i hi => ?_⟩
    rw [hB.1] at hi
    have hik : i = k := by simpa using hi
    subst hik
    exact wpOp_mono (fun a' w' h' => wpAny_of_seq' l (i + 1) _ a' w' (fun j => by have := hl (j + 1); simpa [Nat.add_assoc, Nat.add_comm 1 j] using this) hB.2 h') h
theorem drawT_sound {mdn : Nat → Bool} {hs ts : List CO} {id m : Nat} {S : AS} {Q : Exit → AS → Prop} (hm : P.follows .mixedOrders = true) (hB : Region.lexTailB .any ops m = true) (e1 : trOps P n mdn ops (ops.toList.take m) = some hs)
    (e2 : trOps P n mdn ops (ops.toList.drop m) = some ts) (hv : vcQ P S.H hs S.T fun T => vcOps P ts ⟨T, S.H⟩ (Q .normal)) : CT P n (.region id ops true) S Q := by
  intro M a w ht hr hd
  simp only [Region.lexTailB, Bool.and_eq_true, decide_eq_true_eq] at hB
  obtain ⟨⟨⟨⟨hsel, hn⟩, hsk⟩, hc⟩, hlex⟩ := hB
  refine wp_region_any hm ?_
  have htl : (ops.toList.take m).length = m := by simp; omega
  have hdl : (ops.toList.drop m).length = ops.size - m := by simp
  have inv0 : HeadInv .any ops m (Array.replicate ops.size false) :=
    ⟨by simp, fun j oj _ hl => (by rw [getD_replicate_false] at hl; cases hl), fun t _ ht => getD_in (by simpa using ht) (getD_replicate_false _ _)⟩
  have hA := aAnyT_lex (QY.cong (P := P) (n := n) (H := S.H)) (md := .any) (g := ops.size - m) hsel hsk hc hn (ops.toList.take m) 0 _ S.T (fun j hj => by
    have hj' : j < m := by rw [htl] at hj; exact hj
    simp [hj']) (by simpa using htl) inv0 (fun i hi => by omega) (by rw [htl]; exact hlex) (qWalk_of_vcQ e1 hv)
  have := wpAny_of_aAny (g := ops.size - m) (M0 := M) (w0 := w) (Q' := fun e => Fin n M S.H w (Q e)) (fun listed T M' a' w' hL t' r' d' f' => by
    have h1 := vcOps_sound (Q := fun e => Fin n M S.H w (Q e)) (ops.toList.drop m) ts m (fun j => by simp [List.getElem?_drop]) e2 ⟨T, S.H⟩ M' a' w' hL.2.1 t' r' d' (fun a2 w2 hf => hf.step f')
    have h2 := wpAny_of_seq' (md := .any) (Q' := fun e => Fin n M S.H w (Q e)) (ops.toList.drop m) m listed a' w' (fun j => by simp [List.getElem?_drop]) (by rw [hdl]; exact hL.1) h1
    rwa [hdl] at h2) (ops.toList.take m).length _ _ M a { w with drawn := w.drawn + 1 } ht (hr.drawn _) hd (Fr.drawn _ _ _ _) hA
  rw [htl, show m + (ops.size - m) = ops.size by omega] at this
  exact this

/-- The same, of which the head has cells made. -/
theorem drawA_sound {mdn : Nat → Bool} {cs ts : List CO} {id m : Nat} {S : AS} {Q : Exit → AS → Prop} (hm : P.follows .mixedOrders = true) (hB : Region.lexTailB .any ops m = true) (hD : dstsB ops m = true) (hA : alB cs = true) (e1 : trOps P n mdn ops (ops.toList.take m) = some cs)
    (e2 : trOps P n mdn ops (ops.toList.drop m) = some ts) (hv : vcQ P S.H (cs.filter fun c => !isAl c) (anyT (cs.filterMap alCO) S.T) fun T => vcPend (cs.filterMap alCO) ⟨T, S.H⟩ fun S' => vcOps P ts S' (Q .normal)) : CT P n (.region id ops true) S Q := by
  intro M a w ht hr hd
  simp only [Region.lexTailB, Bool.and_eq_true, decide_eq_true_eq] at hB
  obtain ⟨⟨⟨⟨hsel, hn⟩, hsk⟩, hc⟩, hlex⟩ := hB
  simp only [alB, Bool.and_eq_true] at hA
  obtain ⟨hN, hQ⟩ := hA
  refine wp_region_any hm ?_
  have htl : (ops.toList.take m).length = m := by simp; omega
  have hdl : (ops.toList.drop m).length = ops.size - m := by simp
  have hin : ∀ c ∈ cs, ∀ d z, alCO c = some (d, z) → (d, z) ∈ cs.filterMap alCO := fun c hcm d z h => List.mem_filterMap.2 ⟨c, hcm, h⟩
  have hqd : ∀ c ∈ cs, alCO c = none → ∀ d z, c.dst = some d → (d, z) ∉ cs.filterMap alCO := fun c hcm h d z hd hz => by
    have := List.all_eq_true.1 hQ c hcm
    simp only [isAl, h, Option.isSome_none, Bool.false_or, hd, Bool.not_eq_true'] at this
    rw [hasK_iff.2 ⟨z, hz⟩] at this; cases this
  have hany : ∀ d z, (d, z) ∈ cs.filterMap alCO → anyT (cs.filterMap alCO) S.T d = .any := fun d z h => by
    rw [anyT_spec, if_pos (hasK_iff.2 ⟨z, h⟩)]
  have hidx : ∀ i o, i < m → ops[i]? = some o → (ops.toList.take m)[i]? = some o := fun i o hi ho => by
    rw [List.getElem?_take, if_pos hi]; simpa using ho
  have inv0 : HeadInv .any ops m (Array.replicate ops.size false) :=
    ⟨by simp, fun j oj _ hl => (by rw [getD_replicate_false] at hl; cases hl), fun t _ ht => getD_in (by simpa using ht) (getD_replicate_false _ _)⟩
  have hAA := aAnyT_lex (QX.cong (P := P) (n := n) (mdn := mdn) (H := S.H) (al := cs.filterMap alCO)) (md := .any) (g := ops.size - m) hsel hsk hc hn (ops.toList.take m) 0 _ _ (fun j hj => by
    have hj' : j < m := by rw [htl] at hj; exact hj
    simp [hj']) (by simpa using htl) inv0 (fun i hi => by omega) (by rw [htl]; exact hlex) (qWalk_of_vcQA e1 hin hqd hany hv)
  have := wpAny_of_aAnyA (g := ops.size - m) (M0 := M) (w0 := w) (Q' := fun e => Fin n M S.H w (Q e)) hN
    (fun i o d z hi ho hAl => by
      obtain ⟨c, h1, h2⟩ := trOps_at e1 i o (hidx i o hi ho)
      unfold AlO at hAl
      rw [hAl] at h2; cases h2
      exact hin _ h1 d z rfl) (dstsB_spec hD)
    (fun listed T M' a' w' S' p hL inv => by
      have hall : ∀ t z, (t, z) ∈ cs.filterMap alCO → ∃ b, p t = some b := fun t z hz => by
        obtain ⟨c, h1, h2⟩ := List.mem_filterMap.1 hz
        obtain ⟨i, o, h3, h4⟩ := trOps_back e1 c h1
        have him : i < m := by
          rcases Nat.lt_or_ge i m with h | h
          · exact h
          · rw [List.getElem?_eq_none (by rw [htl]; exact h)] at h3; cases h3
        have hio : ops[i]? = some o := by rw [List.getElem?_take, if_pos him] at h3; simpa using h3
        have := alCO_some h2
        subst this
        exact inv.l1 i o t z him hio h4 (hL.2.2 i him)
      have hv' := vcPend_use _ hN inv.pnd hall hL.2.1
      have h1 := vcOps_sound (Q := fun e => Fin n M S.H w (Q e)) (ops.toList.drop m) ts m (fun j => by simp [List.getElem?_drop]) e2 S' M' a' w' hv' inv.t inv.r inv.d (fun a2 w2 hf => hf.step inv.f)
      have h2 := wpAny_of_seq' (md := .any) (Q' := fun e => Fin n M S.H w (Q e)) (ops.toList.drop m) m listed a' w' (fun j => by simp [List.getElem?_drop]) (by rw [hdl]; exact hL.1) h1
      rwa [hdl] at h2) (ops.toList.take m).length _ _ M a { w with drawn := w.drawn + 1 } S (fun _ => none)
    ⟨⟨fun t ht => by rw [anyT_spec, if_neg (fun h => by obtain ⟨z, hz⟩ := hasK_iff.1 h; exact ht z hz)], hany, fun t z b _ h => (by cases h), fun t t' b h => (by cases h), fun t b h => (by cases h), fun x _ => rfl⟩, ht, hr.drawn _, hd, Fr.drawn _ _ _ _, fun i o d z _ _ _ h => (by rw [getD_replicate_false] at h; cases h), fun d b h => (by cases h)⟩ hAA
  rw [htl, show m + (ops.size - m) = ops.size by omega] at this
  exact this

/-- How a program's code is translated: by choices of the reader's: which new slices are to be written ('mt', by the temporary); how many operations of a region whose order is open are quiet ('hd', by the region; none: all; 0: every order that writes is walked); ahead of which regions the state may be weakened (wk). -/
structure Md where
  mt : Nat → Bool
  hd : Nat → Option Nat
  wk : Nat → Bool
def trC (P : Program) (n : Nat) (md : Md) : Code → Option CCode
  | .skip => some .skip
  | .region id ops false => (trOps P n md.mt ops ops.toList).map fun l => if md.wk id then .mark (.ops l) else .ops l
  | .region id ops true => match md.hd id with
    | none => if Region.lexB .any ops && P.follows .mixedOrders then (trOps P n md.mt ops ops.toList).map fun l => if md.wk id then .mark (.draw l []) else .draw l [] else none
    | some 0 => if Region.noSelect ops && P.follows .mixedOrders then (trT P n md.mt ops false ops.size (Array.replicate ops.size false)).map fun t => if md.wk id then .mark (.any t) else .any t else none
    | some 1 => if Region.noSelect ops && P.follows .mixedOrders then (trT P n md.mt ops true ops.size (Array.replicate ops.size false)).map fun t => if md.wk id then .mark (.any t) else .any t else none
    | some m => if 2000 ≤ m then (if headB .any ops (lookI P n ops (m - 2000)) (Array.replicate ops.size false) && decide ((lookI P n ops (m - 2000)).length ≤ ops.size) && P.follows .mixedOrders then
        match trOps P n md.mt ops ((lookI P n ops (m - 2000)).filterMap fun i => ops[i]?), trU P n md.mt ops (ops.size - (lookI P n ops (m - 2000)).length) (setAll (lookI P n ops (m - 2000)) (Array.replicate ops.size false)) with
        | some h, some t => some (if md.wk id then .mark (.drawG h t) else .drawG h t)
        | _, _ => none
      else none) else if 1000 ≤ m then (if headB .any ops (lookI P n ops (m - 1000)) (Array.replicate ops.size false) && decide ((lookI P n ops (m - 1000)).length ≤ ops.size) && P.follows .mixedOrders then
        match trOps P n md.mt ops ((lookI P n ops (m - 1000)).filterMap fun i => ops[i]?), trU P n md.mt ops (ops.size - (lookI P n ops (m - 1000)).length) (setAll (lookI P n ops (m - 1000)) (Array.replicate ops.size false)) with
        | some h, some t => some (if md.wk id then .mark (.drawF h t) else .drawF h t)
        | _, _ => none
      else none) else if Region.lexTailB .any ops m && P.follows .mixedOrders then
        match trOps P n md.mt ops (ops.toList.take m), trOps P n md.mt ops (ops.toList.drop m) with
        | some h, some t => if h.any isAl then (if dstsB ops m && alB h then some (if md.wk id then .mark (.drawA (h.filter fun c => !isAl c) (h.filterMap alCO) t) else .drawA (h.filter fun c => !isAl c) (h.filterMap alCO) t) else none) else some (if md.wk id then .mark (.draw h t) else .draw h t)
        | _, _ => none
      else none
  | .seq a b => match trC P n md a, trC P n md b with
    | some a, some b => some (.seq a b)
    | _, _ => none
  | .cond c a b => match trX n c, trC P n md a, trC P n md b with
    | some c, some a, some b => some (.cond c a b)
    | _, _, _ => none
  | .block id a => (trC P n md a).map (.block id)
  | .loop a => (trC P n md a).map .loop
  | .exit id => some (.exit id)
  | .ret => some .ret
  | _ => none
def LoopV (R : AS → (Exit → AS → Prop) → Prop) (S : AS) (Q : Exit → AS → Prop) : Prop :=
  ∃ (I : Nat → AS → Prop) (k : Nat), I k S ∧ ∀ k S, I k S → R S (thenQ (fun S' => ∃ k', k' < k ∧ I k' S') Q)
def MarkV (R : AS → (Exit → AS → Prop) → Prop) (S : AS) (Q : Exit → AS → Prop) : Prop := ∃ S', Weak S S' ∧ R S' Q
def vc (P : Program) : CCode → AS → (Exit → AS → Prop) → Prop
  | .skip, S, Q => Q .normal S
  | .ops l, S, Q => vcOps P l S (Q .normal)
  | .any t, S, Q => vcT P t S (Q .normal)
  | .draw h t, S, Q => vcQ P S.H h S.T fun T => vcOps P t ⟨T, S.H⟩ (Q .normal)
  | .drawF h t, S, Q => vcQ P Heap.nil h S.T fun T => vcT P t ⟨T, S.H⟩ (Q .normal)
  | .drawG h t, S, Q => ∃ R, Sub R S.H ∧ vcQ P R h S.T fun T => vcTR P R t ⟨T, S.H⟩ (Q .normal)
  | .drawA h al t, S, Q => vcQ P S.H h (anyT al S.T) fun T => vcPend al ⟨T, S.H⟩ fun S' => vcOps P t S' (Q .normal)
  | .seq a b, S, Q => vc P a S (thenQ (fun S' => vc P b S' Q) Q)
  | .cond c a b, S, Q => match un (c.ev S.T) with
    | (p, .bool x) => p ∧ (x = true → vc P a S Q) ∧ (x = false → vc P b S Q)
    | _ => False
  | .block id a, S, Q => vc P a S (inBlockQ id Q)
  | .loop a, S, Q => LoopV (vc P a) S Q
  | .exit id, S, Q => Q (.exit id) S
  | .ret, S, Q => Q .ret S
  | .mark a, S, Q => MarkV (vc P a) S Q
theorem vc_sound {md : Md} : ∀ {c : Code} {cc : CCode}, trC P n md c = some cc → ∀ {S : AS} {Q : Exit → AS → Prop}, vc P cc S Q → CT P n c S Q := by
  intro c
  induction c with
  | skip => intro cc e S Q h; simp only [trC, Option.some.injEq] at e; subst e; exact CT.skip h
  | region id ops draw =>
    intro cc e S Q h
    have mark : ∀ (b : Bool) (c' : CCode), cc = (if b then .mark c' else c') → (∀ S, vc P c' S Q → CT P n (.region id ops draw) S Q) → CT P n (.region id ops draw) S Q := by
      intro b c' hcc hk
      cases b with
      | true =>
        simp only [if_true] at hcc; subst hcc
        simp only [vc, MarkV] at h
        obtain ⟨S', h1, h2⟩ := h
        exact CT.weak h1 (hk S' h2)
      | false =>
        simp only [Bool.false_eq_true, if_false] at hcc; subst hcc
        exact hk S h
    cases draw with
    | false =>
      simp only [trC, Option.map_eq_some_iff] at e
      obtain ⟨l, hl, rfl⟩ := e
      exact mark _ _ rfl fun S h => ops_sound hl (by simpa only [vc] using h)
    | true =>
      simp only [trC] at e
      split at e
      · split at e
        · rename_i hb
          simp only [Bool.and_eq_true] at hb
          simp only [Option.map_eq_some_iff] at e
          obtain ⟨l, hl, rfl⟩ := e
          exact mark _ _ rfl fun S h => draw_sound hb.2 hb.1 hl (by simpa only [vc, vcOps] using h)
        · cases e
      · split at e
        · rename_i hb
          simp only [Bool.and_eq_true] at hb
          simp only [Option.map_eq_some_iff] at e
          obtain ⟨l, hl, rfl⟩ := e
          exact mark _ _ rfl fun S h => any_sound hb.2 hb.1 hl (by simpa only [vc] using h)
        · cases e
      · split at e
        · rename_i hb
          simp only [Bool.and_eq_true] at hb
          simp only [Option.map_eq_some_iff] at e
          obtain ⟨l, hl, rfl⟩ := e
          exact mark _ _ rfl fun S h => any_sound hb.2 hb.1 hl (by simpa only [vc] using h)
        · cases e
      · split at e
        · split at e
          · rename_i hb
            simp only [Bool.and_eq_true, decide_eq_true_eq] at hb
            split at e
            · rename_i hh tt e1 e2
              cases e
              exact mark _ _ rfl fun S h => drawG_sound hb.2 (lookI_map _) hb.1.1 hb.1.2 e1 e2 (by simpa only [vc] using h)
            · cases e
          · cases e
        · split at e
          · split at e
            · rename_i hb
              simp only [Bool.and_eq_true, decide_eq_true_eq] at hb
              split at e
              · rename_i hh tt e1 e2
                cases e
                exact mark _ _ rfl fun S h => drawF_sound hb.2 (lookI_map _) hb.1.1 hb.1.2 e1 e2 (by simpa only [vc] using h)
              · cases e
            · cases e
          · split at e
            · rename_i hb
              simp only [Bool.and_eq_true] at hb
              split at e
              · rename_i hh tt e1 e2
                split at e
                · split at e
                  · rename_i hda
                    simp only [Bool.and_eq_true] at hda
                    cases e
                    exact mark _ _ rfl fun S h => drawA_sound hb.2 hb.1 hda.1 hda.2 e1 e2 (by simpa only [vc] using h)
                  · cases e
                · cases e
                  exact mark _ _ rfl fun S h => drawT_sound hb.2 hb.1 e1 e2 (by simpa only [vc] using h)
              · cases e
            · cases e
  | seq a b iha ihb =>
    intro cc e S Q h
    simp only [trC] at e
    split at e
    · rename_i ca cb e1 e2
      cases e
      simp only [vc] at h
      refine CT.seq ((iha e1 h).mono fun e S' hS => ?_)
      cases e <;> first | exact hS | exact ihb e2 hS
    · cases e
  | cond c a b iha ihb =>
    intro cc e S Q h
    simp only [trC] at e
    split at e
    · rename_i cx ca cb e0 e1 e2
      cases e
      simp only [vc] at h
      split at h
      · rename_i p x hu
        obtain ⟨hp, h1, h2⟩ := h
        refine CT.cond (b := x) (fun M a ht => ?_) ?_
        · have hc := un_rel (trX_rel e0 ht) (by rw [hu]; exact hp)
          rw [hu] at hc
          exact vr_bool hc
        · cases x with
          | true => exact iha e1 (h1 rfl)
          | false => exact ihb e2 (h2 rfl)
      · exact h.elim
    · cases e
  | block id a iha =>
    intro cc e S Q h
    simp only [trC, Option.map_eq_some_iff] at e
    obtain ⟨ca, e1, rfl⟩ := e
    exact CT.block (iha e1 (by simpa only [vc] using h))
  | loop a iha =>
    intro cc e S Q h
    simp only [trC, Option.map_eq_some_iff] at e
    obtain ⟨ca, e1, rfl⟩ := e
    simp only [vc, LoopV] at h
    obtain ⟨I, k, h0, h1⟩ := h
    exact CT.loop I k h0 fun k S hI => iha e1 (h1 k S hI)
  | exit id => intro cc e S Q h; simp only [trC, Option.some.injEq] at e; subst e; exact CT.exit h
  | ret => intro cc e S Q h; simp only [trC, Option.some.injEq] at e; subst e; exact CT.ret h
  | rangeFunc => intro cc e; simp [trC] at e
  | scope => intro cc e; simp [trC] at e
  | label => intro cc e; simp [trC] at e
  | goto => intro cc e; simp [trC] at e
  | refuse => intro cc e; simp [trC] at e

/-- A function that has been translated. -/
structure FnOK (P : Program) (f : Nat) (md : Md) (n : Nat) (cc : CCode) (ts : List Nat) : Prop where
  ok : ∃ fn c, P.funcs[f]? = some fn ∧ fn.body = some c ∧ fn.ntmps = n ∧ resTmps fn.results.toList = some ts ∧ trC P n md c = some cc
  res : ts.all (· < n) = true
theorem CC.of_vc {f : Nat} {md : Md} {cc : CCode} {ts : List Nat} (hf : FnOK P f md n cc ts) {args : List AV} {H : Heap} {Q : AV → Heap → Prop} (ha : args.length ≤ n)
    (h : vc P cc ⟨argT args, H⟩ fun e S => (e = .normal ∨ e = .ret) ∧ Q (resAV S.T ts) S.H) : CC P f args H Q := by
  obtain ⟨fn, c, h1, h2, h3, h4, h5⟩ := hf.ok
  subst h3
  exact CC.of_body h1 h2 h4 (fun t ht => by simpa using List.all_eq_true.1 hf.res t ht) ha (vc_sound h5 h)
end
end Go.Sf

end
section
/- The rules by which a proof's condition is reckoned out, what follows being kept closed. -/
set_option linter.unusedVariables false
set_option linter.unusedSimpArgs false
namespace Go.Sf
/-! Short names of the commonest operations. -/
abbrev qm (d s : Nat) : CO := ⟨some d, none, .p .mv [.t s]⟩
abbrev ql (d s : Nat) : CO := ⟨some d, none, .p (.load none) [.t s]⟩
abbrev qa (d f s : Nat) : CO := ⟨some d, none, .p (.faddr f) [.t s]⟩
abbrev qx (d z s i : Nat) : CO := ⟨some d, none, .p (.iaddr z) [.t s, .t i]⟩
abbrev qs (s v : Nat) : CO := ⟨none, none, .e (.store none) [.t s, .t v]⟩
abbrev qp (d : Nat) (k : PK) (xs : List CX) : CO := ⟨some d, none, .p k xs⟩
abbrev qe (d : Nat) (k : EK) (xs : List CX) : CO := ⟨some d, none, .e k xs⟩
/-- A row that repeats itself. -/
def zRep (n : Nat) (l : List AV) : List AV := (List.replicate n l).flatten
abbrev qi (n : Int) : CX := .c (.int .i64 n)
abbrev qn : Md := ⟨fun _ => false, fun _ => none, fun _ => false⟩
section
variable {P : Program}

def ContO (P : Program) (l : List CO) (K : AS → Prop) : AS → Prop := fun S => vcOps P l S K
def ContC (P : Program) (c : CCode) (Q : Exit → AS → Prop) : AS → Prop := fun S => vc P c S Q
def ContQ (P : Program) (H : Heap) (l : List CO) (T : Nat → AV) (d : Option Nat) (K : (Nat → AV) → Prop) : AV → Prop := fun v => vcQ P H l (put T d v) K
def ContT (P : Program) (l : List CO) (H : Heap) (Q : AS → Prop) : (Nat → AV) → Prop := fun T => vcOps P l ⟨T, H⟩ Q
def ContP (P : Program) (al : List (Nat × List AV)) (l : List CO) (H : Heap) (Q : AS → Prop) : (Nat → AV) → Prop := fun T => vcPend al ⟨T, H⟩ (ContO P l Q)
def ContA (P : Program) (t : OT) (K : AS → Prop) : AS → Prop := fun S => vcT P t S K
/-- A call: what is asked of its contract. -/
def CallK (P : Program) (f : Nat) (as : List AV) (T : Nat → AV) (H : Heap) (d : Option Nat) (K : AS → Prop) : Prop := CC P f as H fun v H' => K ⟨put T d v, H'⟩
def CallQ (P : Program) (f : Nat) (as : List AV) (H : Heap) (K : AV → Prop) : Prop := ∃ v, CC P f as H (fun u H' => u = v ∧ H' = H) ∧ K v
def vcM (e : Option (Prop × AV)) (T : Nat → AV) (H : Heap) (d : Option Nat) (K : AS → Prop) : Prop := match e with | some (p, v) => p ∧ K ⟨put T d v, H⟩ | none => False
def vcMg (c : Bool) (e : Option (Prop × AV)) (T : Nat → AV) (H : Heap) (d : Option Nat) (K : AS → Prop) : Prop := match e with | some (p, v) => (c = true → p) ∧ K ⟨put T d (.gd c v), H⟩ | none => c = false ∧ K ⟨put T d (.tup []), H⟩
def vcMq (e : Option (Prop × AV)) (K : AV → Prop) : Prop := match e with | some (p, v) => p ∧ K v | none => False
def vcMqg (c : Bool) (e : Option (Prop × AV)) (K : AV → Prop) : Prop := match e with | some (p, v) => (c = true → p) ∧ K (.gd c v) | none => c = false ∧ K (.tup [])
def vcG (P : Program) (u : Option Bool) (d : Option Nat) (op : COp) (T : Nat → AV) (H : Heap) (K : AS → Prop) : Prop :=
  match u with
  | some c => (match op with
      | .e k xs => (c = true → (getAll xs T).1 ∧ vcE P k (getAll xs T).2 d ⟨T, H⟩ K) ∧ (c = false → K ⟨put T d (.tup []), H⟩)
      | op => vcMg c (evP op T H) T H d K)
  | none => False
def vcGq (P : Program) (u : Option Bool) (op : COp) (T : Nat → AV) (H : Heap) (K : AV → Prop) : Prop :=
  match u with
  | some c => (match op with
      | .e k xs => ∃ v, (c = true → (getAll xs T).1 ∧ vcQE P k (getAll xs T).2 H (fun u => u = v)) ∧ K (.gd c v)
      | op => vcMqg c (evP op T H) K)
  | none => False
def vcIf (u : Prop × AV) (A B : Prop) : Prop := match u with | (p, .bool x) => p ∧ (x = true → A) ∧ (x = false → B) | _ => False

theorem s_skip (S : AS) (Q : Exit → AS → Prop) : vc P .skip S Q = Q .normal S := rfl
theorem s_ops (l : List CO) (S : AS) (Q : Exit → AS → Prop) : vc P (.ops l) S Q = vcOps P l S (Q .normal) := rfl
theorem s_draw (h t : List CO) (T : Nat → AV) (H : Heap) (Q : Exit → AS → Prop) : vc P (.draw h t) ⟨T, H⟩ Q = vcQ P H h T (ContT P t H (Q .normal)) := rfl
theorem s_drawA (h t : List CO) (al : List (Nat × List AV)) (T : Nat → AV) (H : Heap) (Q : Exit → AS → Prop) : vc P (.drawA h al t) ⟨T, H⟩ Q = vcQ P H h (anyT al T) (ContP P al t H (Q .normal)) := rfl
def ContTA (P : Program) (t : OT) (H : Heap) (Q : AS → Prop) : (Nat → AV) → Prop := fun T => vcT P t ⟨T, H⟩ Q
theorem s_drawF (h : List CO) (t : OT) (T : Nat → AV) (H : Heap) (Q : Exit → AS → Prop) : vc P (.drawF h t) ⟨T, H⟩ Q = vcQ P Heap.nil h T (ContTA P t H (Q .normal)) := rfl
theorem s_contTA (t : OT) (H : Heap) (Q : AS → Prop) (T : Nat → AV) : ContTA P t H Q T = vcT P t ⟨T, H⟩ Q := rfl
theorem s_contP (al : List (Nat × List AV)) (l : List CO) (H : Heap) (Q : AS → Prop) (T : Nat → AV) : ContP P al l H Q T = vcPend al ⟨T, H⟩ (ContO P l Q) := rfl
theorem s_pend0 (S : AS) (K : AS → Prop) : vcPend [] S K = K S := rfl
theorem s_pend1 (d : Nat) (z : List AV) (al : List (Nat × List AV)) (T : Nat → AV) (H : Heap) (K : AS → Prop) : vcPend ((d, z) :: al) ⟨T, H⟩ K = ∀ b, H b = none → vcPend al ⟨put T (some d) (.ptr b 0), H.set b (some (.cells z z.length))⟩ K := rfl
theorem s_anyT0 (T : Nat → AV) : anyT [] T = T := rfl
theorem s_anyT1 (d : Nat) (z : List AV) (al : List (Nat × List AV)) (T : Nat → AV) : anyT ((d, z) :: al) T = anyT al (put T (some d) .any) := rfl
theorem s_seq (a b : CCode) (S : AS) (Q : Exit → AS → Prop) : vc P (.seq a b) S Q = vc P a S (thenQ (ContC P b Q) Q) := rfl
theorem s_cond (c : CX) (a b : CCode) (T : Nat → AV) (H : Heap) (Q : Exit → AS → Prop) : vc P (.cond c a b) ⟨T, H⟩ Q = vcIf (un (c.ev T)) (vc P a ⟨T, H⟩ Q) (vc P b ⟨T, H⟩ Q) := rfl
theorem s_block (id : Nat) (a : CCode) (S : AS) (Q : Exit → AS → Prop) : vc P (.block id a) S Q = vc P a S (inBlockQ id Q) := rfl
theorem s_loop (a : CCode) (S : AS) (Q : Exit → AS → Prop) : vc P (.loop a) S Q = LoopV (vc P a) S Q := rfl
theorem s_exit (id : Nat) (S : AS) (Q : Exit → AS → Prop) : vc P (.exit id) S Q = Q (.exit id) S := rfl
theorem s_ret (S : AS) (Q : Exit → AS → Prop) : vc P .ret S Q = Q .ret S := rfl
theorem s_mark (a : CCode) (S : AS) (Q : Exit → AS → Prop) : vc P (.mark a) S Q = MarkV (vc P a) S Q := rfl
theorem s_then_n (K : AS → Prop) (Q : Exit → AS → Prop) (S : AS) : thenQ K Q .normal S = K S := rfl
theorem s_then_e (K : AS → Prop) (Q : Exit → AS → Prop) (id : Nat) (S : AS) : thenQ K Q (.exit id) S = Q (.exit id) S := rfl
theorem s_then_r (K : AS → Prop) (Q : Exit → AS → Prop) (S : AS) : thenQ K Q .ret S = Q .ret S := rfl
theorem s_in_n (id : Nat) (Q : Exit → AS → Prop) (S : AS) : inBlockQ id Q .normal S = Q .normal S := rfl
theorem s_in_e (id : Nat) (Q : Exit → AS → Prop) (i : Nat) (S : AS) : inBlockQ id Q (.exit i) S = if i = id then Q .normal S else Q (.exit i) S := rfl
theorem s_in_r (id : Nat) (Q : Exit → AS → Prop) (S : AS) : inBlockQ id Q .ret S = Q .ret S := rfl
theorem s_contC (c : CCode) (Q : Exit → AS → Prop) (S : AS) : ContC P c Q S = vc P c S Q := rfl
theorem s_contO (l : List CO) (K : AS → Prop) (S : AS) : ContO P l K S = vcOps P l S K := rfl
theorem s_contQ (H : Heap) (l : List CO) (T : Nat → AV) (d : Option Nat) (K : (Nat → AV) → Prop) (v : AV) : ContQ P H l T d K v = vcQ P H l (put T d v) K := rfl
theorem s_contT (l : List CO) (H : Heap) (Q : AS → Prop) (T : Nat → AV) : ContT P l H Q T = vcOps P l ⟨T, H⟩ Q := rfl
theorem s_nil (S : AS) (K : AS → Prop) : vcOps P [] S K = K S := rfl
theorem s_cons_p (d : Option Nat) (k : PK) (xs : List CX) (l : List CO) (T : Nat → AV) (H : Heap) (K : AS → Prop) :
    vcOps P (⟨d, none, .p k xs⟩ :: l) ⟨T, H⟩ K = vcM (evP (.p k xs) T H) T H d (ContO P l K) := rfl
theorem s_cons_pick (d : Option Nat) (c a b : CX) (l : List CO) (T : Nat → AV) (H : Heap) (K : AS → Prop) :
    vcOps P (⟨d, none, .pick c a b⟩ :: l) ⟨T, H⟩ K = vcM (evP (.pick c a b) T H) T H d (ContO P l K) := rfl
theorem s_cons_e (d : Option Nat) (k : EK) (xs : List CX) (l : List CO) (T : Nat → AV) (H : Heap) (K : AS → Prop) :
    vcOps P (⟨d, none, .e k xs⟩ :: l) ⟨T, H⟩ K = ((getAll xs T).1 ∧ vcE P k (getAll xs T).2 d ⟨T, H⟩ (ContO P l K)) := rfl
theorem s_cons_g (d : Option Nat) (t : Nat) (want : Bool) (op : COp) (l : List CO) (T : Nat → AV) (H : Heap) (K : AS → Prop) :
    vcOps P (⟨d, some (t, want), op⟩ :: l) ⟨T, H⟩ K = vcG P (gw want (T t)) d op T H (ContO P l K) := by
  show vcOp P ⟨d, some (t, want), op⟩ ⟨T, H⟩ (ContO P l K) = _
  unfold vcOp vcG
  simp only
  generalize gw want (T t) = u
  cases u <;> first
    | rfl
    | (cases op <;> rfl)
def ContG (P : Program) (R : Heap) (t : OT) (H : Heap) (Q : AS → Prop) : (Nat → AV) → Prop := fun T => vcTR P R t ⟨T, H⟩ Q
def ContAR (P : Program) (R : Heap) (t : OT) (K : AS → Prop) : AS → Prop := fun S => Sub R S.H ∧ vcTR P R t S K
theorem s_drawG (h : List CO) (t : OT) (T : Nat → AV) (H : Heap) (Q : Exit → AS → Prop) : vc P (.drawG h t) ⟨T, H⟩ Q = ∃ R, Sub R H ∧ vcQ P R h T (ContG P R t H (Q .normal)) := rfl
theorem s_contG (R : Heap) (t : OT) (H : Heap) (Q : AS → Prop) (T : Nat → AV) : ContG P R t H Q T = vcTR P R t ⟨T, H⟩ Q := rfl
theorem s_contAR (R : Heap) (t : OT) (K : AS → Prop) (T : Nat → AV) (H : Heap) : ContAR P R t K ⟨T, H⟩ = (Sub R H ∧ vcTR P R t ⟨T, H⟩ K) := rfl
theorem s_rdone (R : Heap) (S : AS) (K : AS → Prop) : vcTR P R .done S K = K S := rfl
theorem s_rtwo (R : Heap) (a b : OT) (S : AS) (K : AS → Prop) : vcTR P R (.two a b) S K = (vcTR P R a S K ∧ vcTR P R b S K) := rfl
theorem s_rop_p (R : Heap) (d : Option Nat) (k : PK) (xs : List CX) (t : OT) (T : Nat → AV) (H : Heap) (K : AS → Prop) :
    vcTR P R (.op ⟨d, none, .p k xs⟩ t) ⟨T, H⟩ K = vcM (evP (.p k xs) T H) T H d (ContAR P R t K) := rfl
theorem s_rop_e (R : Heap) (d : Option Nat) (k : EK) (xs : List CX) (t : OT) (T : Nat → AV) (H : Heap) (K : AS → Prop) :
    vcTR P R (.op ⟨d, none, .e k xs⟩ t) ⟨T, H⟩ K = ((getAll xs T).1 ∧ vcE P k (getAll xs T).2 d ⟨T, H⟩ (ContAR P R t K)) := rfl
theorem s_any (t : OT) (S : AS) (Q : Exit → AS → Prop) : vc P (.any t) S Q = vcT P t S (Q .normal) := rfl
theorem s_contA (t : OT) (K : AS → Prop) (S : AS) : ContA P t K S = vcT P t S K := rfl
theorem s_tdone (S : AS) (K : AS → Prop) : vcT P .done S K = K S := rfl
theorem s_ttwo (a b : OT) (S : AS) (K : AS → Prop) : vcT P (.two a b) S K = (vcT P a S K ∧ vcT P b S K) := rfl
theorem s_top_p (d : Option Nat) (k : PK) (xs : List CX) (t : OT) (T : Nat → AV) (H : Heap) (K : AS → Prop) :
    vcT P (.op ⟨d, none, .p k xs⟩ t) ⟨T, H⟩ K = vcM (evP (.p k xs) T H) T H d (ContA P t K) := rfl
theorem s_top_pick (d : Option Nat) (c a b : CX) (t : OT) (T : Nat → AV) (H : Heap) (K : AS → Prop) :
    vcT P (.op ⟨d, none, .pick c a b⟩ t) ⟨T, H⟩ K = vcM (evP (.pick c a b) T H) T H d (ContA P t K) := rfl
theorem s_top_e (d : Option Nat) (k : EK) (xs : List CX) (t : OT) (T : Nat → AV) (H : Heap) (K : AS → Prop) :
    vcT P (.op ⟨d, none, .e k xs⟩ t) ⟨T, H⟩ K = ((getAll xs T).1 ∧ vcE P k (getAll xs T).2 d ⟨T, H⟩ (ContA P t K)) := rfl
theorem s_top_g (d : Option Nat) (t : Nat) (want : Bool) (op : COp) (u : OT) (T : Nat → AV) (H : Heap) (K : AS → Prop) :
    vcT P (.op ⟨d, some (t, want), op⟩ u) ⟨T, H⟩ K = vcG P (gw want (T t)) d op T H (ContA P u K) := by
  show vcOp P ⟨d, some (t, want), op⟩ ⟨T, H⟩ (ContA P u K) = _
  unfold vcOp vcG
  simp only
  generalize gw want (T t) = u
  cases u <;> first
    | rfl
    | (cases op <;> rfl)
theorem s_qnil (H : Heap) (T : Nat → AV) (K : (Nat → AV) → Prop) : vcQ P H [] T K = K T := rfl
theorem s_qcons_p (d : Option Nat) (k : PK) (xs : List CX) (l : List CO) (T : Nat → AV) (H : Heap) (K : (Nat → AV) → Prop) :
    vcQ P H (⟨d, none, .p k xs⟩ :: l) T K = vcMq (evP (.p k xs) T H) (ContQ P H l T d K) := rfl
theorem s_qcons_pick (d : Option Nat) (c a b : CX) (l : List CO) (T : Nat → AV) (H : Heap) (K : (Nat → AV) → Prop) :
    vcQ P H (⟨d, none, .pick c a b⟩ :: l) T K = vcMq (evP (.pick c a b) T H) (ContQ P H l T d K) := rfl
theorem s_qcons_e (d : Option Nat) (k : EK) (xs : List CX) (l : List CO) (T : Nat → AV) (H : Heap) (K : (Nat → AV) → Prop) :
    vcQ P H (⟨d, none, .e k xs⟩ :: l) T K = ((getAll xs T).1 ∧ vcQE P k (getAll xs T).2 H (ContQ P H l T d K)) := rfl
theorem s_qcons_g (d : Option Nat) (t : Nat) (want : Bool) (op : COp) (l : List CO) (T : Nat → AV) (H : Heap) (K : (Nat → AV) → Prop) :
    vcQ P H (⟨d, some (t, want), op⟩ :: l) T K = vcGq P (gw want (T t)) op T H (ContQ P H l T d K) := by
  show vcQ1 P H ⟨d, some (t, want), op⟩ T (ContQ P H l T d K) = _
  unfold vcQ1 vcGq
  simp only
  generalize gw want (T t) = u
  cases u <;> first
    | rfl
    | (cases op <;> rfl)
theorem s_M (p : Prop) (v : AV) (T : Nat → AV) (H : Heap) (d : Option Nat) (K : AS → Prop) : vcM (some (p, v)) T H d K = (p ∧ K ⟨put T d v, H⟩) := rfl
theorem s_Mg (c : Bool) (p : Prop) (v : AV) (T : Nat → AV) (H : Heap) (d : Option Nat) (K : AS → Prop) : vcMg c (some (p, v)) T H d K = ((c = true → p) ∧ K ⟨put T d (.gd c v), H⟩) := rfl
theorem s_Mg_n (c : Bool) (T : Nat → AV) (H : Heap) (d : Option Nat) (K : AS → Prop) : vcMg c none T H d K = (c = false ∧ K ⟨put T d (.tup []), H⟩) := rfl
theorem s_Mqg_n (c : Bool) (K : AV → Prop) : vcMqg c none K = (c = false ∧ K (.tup [])) := rfl
theorem s_Mq (p : Prop) (v : AV) (K : AV → Prop) : vcMq (some (p, v)) K = (p ∧ K v) := rfl
theorem s_Mqg (c : Bool) (p : Prop) (v : AV) (K : AV → Prop) : vcMqg c (some (p, v)) K = ((c = true → p) ∧ K (.gd c v)) := rfl
theorem s_G_p (c : Bool) (d : Option Nat) (k : PK) (xs : List CX) (T : Nat → AV) (H : Heap) (K : AS → Prop) : vcG P (some c) d (.p k xs) T H K = vcMg c (evP (.p k xs) T H) T H d K := rfl
theorem s_G_pick (c : Bool) (d : Option Nat) (x y z : CX) (T : Nat → AV) (H : Heap) (K : AS → Prop) : vcG P (some c) d (.pick x y z) T H K = vcMg c (evP (.pick x y z) T H) T H d K := rfl
theorem s_G_e (c : Bool) (d : Option Nat) (k : EK) (xs : List CX) (T : Nat → AV) (H : Heap) (K : AS → Prop) :
    vcG P (some c) d (.e k xs) T H K = ((c = true → (getAll xs T).1 ∧ vcE P k (getAll xs T).2 d ⟨T, H⟩ K) ∧ (c = false → K ⟨put T d (.tup []), H⟩)) := rfl
theorem s_Gq_p (c : Bool) (k : PK) (xs : List CX) (T : Nat → AV) (H : Heap) (K : AV → Prop) : vcGq P (some c) (.p k xs) T H K = vcMqg c (evP (.p k xs) T H) K := rfl
theorem s_Gq_pick (c : Bool) (x y z : CX) (T : Nat → AV) (H : Heap) (K : AV → Prop) : vcGq P (some c) (.pick x y z) T H K = vcMqg c (evP (.pick x y z) T H) K := rfl
theorem s_Gq_e (c : Bool) (k : EK) (xs : List CX) (T : Nat → AV) (H : Heap) (K : AV → Prop) :
    vcGq P (some c) (.e k xs) T H K = (∃ v, (c = true → (getAll xs T).1 ∧ vcQE P k (getAll xs T).2 H (fun u => u = v)) ∧ K (.gd c v)) := rfl
theorem s_gw_b (want b : Bool) : gw want (.bool b) = some (b == want) := by simp only [gw]
theorem s_gw_u (want : Bool) : gw want (.tup []) = some false := by simp only [gw]
theorem s_gw_g (want b c : Bool) (v : AV) (h : gw want v = some c) : gw want (.gd b v) = some (b && c) := by simp only [gw, h]
theorem s_gw_gb (want b c : Bool) : gw want (.gd b (.bool c)) = some (b && (c == want)) := by simp only [gw]
theorem s_gw_f (want : Bool) (v : AV) : gw want (.gd false v) = some false := by
  simp only [gw]
  split <;> simp
theorem s_if (p : Prop) (x : Bool) (A B : Prop) : vcIf (p, .bool x) A B = (p ∧ (x = true → A) ∧ (x = false → B)) := rfl
theorem s_call (f : Nat) (xs : List AV) (d : Option Nat) (T : Nat → AV) (H : Heap) (K : AS → Prop) : vcE P (.call f) xs d ⟨T, H⟩ K = CallK P f xs T H d K := by unfold vcE; rfl
theorem s_callv (f : Nat) (captured xs : List AV) (d : Option Nat) (T : Nat → AV) (H : Heap) (K : AS → Prop) : vcE P .callv (.fn (.func f) [] captured :: xs) d ⟨T, H⟩ K = (callB P f = true ∧ CallK P f (xs ++ captured) T H d K) := by unfold vcE; rfl
theorem s_qcall (f : Nat) (xs : List AV) (H : Heap) (K : AV → Prop) : vcQE P (.call f) xs H K = CallQ P f xs H K := by unfold vcQE; rfl
theorem s_qcallv (f : Nat) (captured xs : List AV) (H : Heap) (K : AV → Prop) : vcQE P .callv (.fn (.func f) [] captured :: xs) H K = (callB P f = true ∧ CallQ P f (xs ++ captured) H K) := by unfold vcQE; rfl
theorem s_getAll_nil (T : Nat → AV) : getAll [] T = (True, []) := rfl
theorem s_getAll_cons (x : CX) (xs : List CX) (T : Nat → AV) : getAll (x :: xs) T = ((un (x.ev T)).1 ∧ (getAll xs T).1, (un (x.ev T)).2 :: (getAll xs T).2) := rfl
theorem s_put_some (T : Nat → AV) (d : Nat) (v : AV) (t : Nat) : put T (some d) v t = if t = d then v else T t := rfl
theorem s_put_none (T : Nat → AV) (v : AV) : put T none v = T := rfl
theorem s_un_gd (b : Bool) (v : AV) : un (.gd b v) = (b = true ∧ (un v).1, (un v).2) := by simp only [un]
theorem s_ev_t (i : Nat) (T : Nat → AV) : (CX.t i).ev T = T i := rfl
theorem s_ev_c (v : AV) (T : Nat → AV) : (CX.c v).ev T = v := rfl
theorem s_ev_f (i : Nat) (T : Nat → AV) : (CX.f i).ev T = .fn (.func i) [] [] := rfl
/-- A test that is known. -/
theorem s_gd_true (v : AV) : un (.gd true v) = un v := by simp [un]

/-! What makes or writes. -/
def vcAp (frozen : Bool) (sz bytes : Nat) (o : Option (List AV × Option Nat)) (c : Option (List AV)) (n m : Option Nat) (s : AV) (d : Option Nat) (T : Nat → AV) (H : Heap) (K : AS → Prop) : Prop :=
  match o, c, n, m with
  | some (old, ob), some new, some n, some m => new.all AV.one = true ∧ (n + m) * bytes ≤ 140737488355328 ∧
    if frozen then K ⟨put T d (.imm (old ++ new) (n + m) none), H.less ob⟩
    else (s.isNils = true → new = [] → K ⟨put T d .nils, H⟩) ∧ (s.isImm = true → new ≠ []) ∧
      ((s.isNils = true → new ≠ []) → ∀ b c, H.less ob b = none → n + m ≤ c → K ⟨put T d (.sl b 0 (n + m) c), (H.less ob).set b (some (.cells (old ++ new) (c * sz)))⟩)
  | none, some new, some n, some m => frozen = false ∧ AppIn sz s new n m H fun v H' => K ⟨put T d v, H'⟩
  | _, _, _, _ => False
/-- What follows an append to a row of the call's own. -/
def AppOwn (sz : Nat) (s : AV) (old new : List AV) (len : Nat) (d : Option Nat) (T : Nat → AV) (H Hm : Heap) (K : AS → Prop) : Prop :=
  (s.isNils = true → new = [] → K ⟨put T d .nils, H⟩) ∧ (s.isImm = true → new ≠ []) ∧
      ((s.isNils = true → new ≠ []) → ∀ b c, Hm b = none → len ≤ c → K ⟨put T d (.sl b 0 len c), Hm.set b (some (.cells (old ++ new) (c * sz)))⟩)
def NewB (H : Heap) (x : Nat → Blk) (v : Nat → AV) (d : Option Nat) (T : Nat → AV) (K : AS → Prop) : Prop := ∀ b, H b = none → K ⟨put T d (v b), H.set b (some (x b))⟩
def vcBs (frozen : Bool) (len : Nat) (c : Option (List AV)) (d : Option Nat) (T : Nat → AV) (H : Heap) (K : AS → Prop) : Prop :=
  match c with
  | some cs => if frozen then K ⟨put T d (.imm cs len (some len)), H⟩ else NewB H (fun _ => .cells cs cs.length) (fun b => .sl b 0 len len) d T K
  | none => False
def vcSt (x : Option Blk) (b o : Nat) (sz : Nat) (cs : List AV) (T : Nat → AV) (H : Heap) (K : AS → Prop) : Prop :=
  match x with
  | some (.cells vs n) => o + sz ≤ vs.length ∧ K ⟨T, H.set b (some (.cells (vs.take o ++ cs ++ vs.drop (o + sz)) n))⟩
  | _ => False
def vcSt1 (x : Option Blk) (b o : Nat) (v : AV) (T : Nat → AV) (H : Heap) (K : AS → Prop) : Prop :=
  match x with
  | some (.cells vs n) => o < vs.length ∧ K ⟨T, H.set b (some (.cells (vs.set o v) n))⟩
  | _ => False
theorem s_append (frozen : Bool) (sz bytes : Nat) (s x : AV) (d : Option Nat) (T : Nat → AV) (H : Heap) (K : AS → Prop) :
    vcE P (.append frozen sz bytes) [s, x] d ⟨T, H⟩ K = vcAp frozen sz bytes (appOld H sz s) (cellsOf H sz x) (lenOf s) (lenOf x) s d T H K := by
  unfold vcE vcAp; rfl
theorem s_Ap_t (sz bytes : Nat) (old new : List AV) (ob : Option Nat) (n m : Nat) (s : AV) (d : Option Nat) (T : Nat → AV) (H : Heap) (K : AS → Prop) :
    vcAp true sz bytes (some (old, ob)) (some new) (some n) (some m) s d T H K = (new.all AV.one = true ∧ (n + m) * bytes ≤ 140737488355328 ∧ K ⟨put T d (.imm (old ++ new) (n + m) none), H.less ob⟩) := by
  simp [vcAp]
theorem s_Ap_f (sz bytes : Nat) (old new : List AV) (ob : Option Nat) (n m : Nat) (s : AV) (d : Option Nat) (T : Nat → AV) (H : Heap) (K : AS → Prop) :
    vcAp false sz bytes (some (old, ob)) (some new) (some n) (some m) s d T H K = (new.all AV.one = true ∧ (n + m) * bytes ≤ 140737488355328 ∧ AppOwn sz s old new (n + m) d T H (H.less ob) K) := by
  simp [vcAp, AppOwn]
theorem s_Ap_in (frozen : Bool) (sz bytes : Nat) (new : List AV) (n m : Nat) (s : AV) (d : Option Nat) (T : Nat → AV) (H : Heap) (K : AS → Prop) :
    vcAp frozen sz bytes none (some new) (some n) (some m) s d T H K = (frozen = false ∧ AppIn sz s new n m H fun v H' => K ⟨put T d v, H'⟩) := rfl
theorem s_AppIn {sz : Nat} {new : List AV} {n m b c l k : Nat} {vs : List AV} {H : Heap} {K : AV → Heap → Prop} (h : H b = some (.cells vs k)) :
    AppIn sz (.sl b 0 l c) new n m H K = (new.all AV.one = true ∧ n * sz ≤ vs.length ∧ k = c * sz ∧ n + m ≤ c ∧ K (.sl b 0 (n + m) c) (H.set b (some (.cells (splA vs (n * sz) new) k)))) := by simp only [AppIn, h]
/-! Cells copied, cleared; a row made longer by zeros. -/
def vcCp (x : Option Blk) (b o q sz : Nat) (new : Option (List AV)) (d : Option Nat) (T : Nat → AV) (H : Heap) (K : AS → Prop) : Prop :=
  match x, new with
  | some (.cells vs k), some new => new.all AV.one = true ∧ o ≤ vs.length ∧ o + q * sz ≤ k ∧ K ⟨put T d (.int .i64 (q : Nat)), H.set b (some (.cells (splA vs o new) k))⟩
  | _, _ => False
theorem s_copy (sz b o n c : Nat) (x : AV) (m : Nat) (h : lenOf x = some m) (d : Option Nat) (T : Nat → AV) (H : Heap) (K : AS → Prop) :
    vcE P (.copy sz) [.sl b o n c, x] d ⟨T, H⟩ K = vcCp (H b) b o (Nat.min m n) sz (cellsPre H sz x (Nat.min m n)) d T H K := by unfold vcE vcCp; simp only [h]; rfl
theorem s_copy_i (sz b o n c : Nat) (cs : List AV) (m : Nat) (mc : Option Nat) (d : Option Nat) (T : Nat → AV) (H : Heap) (K : AS → Prop) :
    vcE P (.copy sz) [.sl b o n c, .imm cs m mc] d ⟨T, H⟩ K = vcCp (H b) b o (Nat.min m n) sz (cellsPre H sz (.imm cs m mc) (Nat.min m n)) d T H K := by unfold vcE vcCp; rfl
theorem s_copy_s (sz b o n c b' o' m c' : Nat) (d : Option Nat) (T : Nat → AV) (H : Heap) (K : AS → Prop) :
    vcE P (.copy sz) [.sl b o n c, .sl b' o' m c'] d ⟨T, H⟩ K = vcCp (H b) b o (Nat.min m n) sz (cellsPre H sz (.sl b' o' m c') (Nat.min m n)) d T H K := by unfold vcE vcCp; rfl
theorem s_Cp (vs : List AV) (k b o q sz : Nat) (new : List AV) (d : Option Nat) (T : Nat → AV) (H : Heap) (K : AS → Prop) :
    vcCp (some (.cells vs k)) b o q sz (some new) d T H K = (new.all AV.one = true ∧ o ≤ vs.length ∧ o + q * sz ≤ k ∧ K ⟨put T d (.int .i64 (q : Nat)), H.set b (some (.cells (splA vs o new) k))⟩) := rfl
theorem pre_imm (H : Heap) (sz : Nat) (cs : List AV) (m : Nat) (c : Option Nat) (q : Nat) (h : cs.length = m * sz) : cellsPre H sz (.imm cs m c) q = some (cs.take (q * sz)) := by
  simp only [cellsPre, cellsOf, if_pos h, Option.map_some]
theorem pre_sl {H : Heap} {b k : Nat} {vs : List AV} (hb : H b = some (.cells vs k)) (sz o m c q : Nat) (h : o + q * sz ≤ vs.length) : cellsPre H sz (.sl b o m c) q = some ((vs.drop o).take (q * sz)) := by
  simp only [cellsPre, hb, if_pos h]
def vcCl (x : Option Blk) (b o n : Nat) (zero : List AV) (d : Option Nat) (T : Nat → AV) (H : Heap) (K : AS → Prop) : Prop :=
  match x with
  | some (.cells vs k) => zero.all AV.one = true ∧ o ≤ vs.length ∧ o + n * zero.length ≤ k ∧ K ⟨put T d (.tup []), H.set b (some (.cells (splA vs o (List.replicate n zero).flatten) k))⟩
  | _ => False
theorem s_clr (zero : List AV) (b o n c : Nat) (d : Option Nat) (T : Nat → AV) (H : Heap) (K : AS → Prop) : vcE P (.clr zero) [.sl b o n c] d ⟨T, H⟩ K = vcCl (H b) b o n zero d T H K := by unfold vcE vcCl; rfl
theorem s_clrn (zero : List AV) (d : Option Nat) (T : Nat → AV) (H : Heap) (K : AS → Prop) : vcE P (.clr zero) [.nils] d ⟨T, H⟩ K = K ⟨put T d (.tup []), H⟩ := by unfold vcE; rfl
theorem s_Cl (vs : List AV) (k b o n : Nat) (zero : List AV) (d : Option Nat) (T : Nat → AV) (H : Heap) (K : AS → Prop) :
    vcCl (some (.cells vs k)) b o n zero d T H K = (zero.all AV.one = true ∧ o ≤ vs.length ∧ o + n * zero.length ≤ k ∧ K ⟨put T d (.tup []), H.set b (some (.cells (splA vs o (List.replicate n zero).flatten) k))⟩) := rfl
def vcAz (x : Option Blk) (n c : Nat) (z : Int) (zero : List AV) (bytes : Nat) (d : Option Nat) (T : Nat → AV) (H : Heap) (K : AS → Prop) : Prop :=
  match x with
  | some (.cells vs _) => n ≤ c ∧ n * zero.length ≤ vs.length ∧ 0 ≤ z ∧ (c : Int) < n + z ∧ (n + z.toNat) * bytes ≤ 140737488355328 ∧
        ∀ b' c', H b' = none → n + z.toNat ≤ c' → K ⟨put T d (.sl b' 0 (n + z.toNat) c'), H.set b' (some (.cells (vs.take (n * zero.length) ++ (List.replicate z.toNat zero).flatten) (c' * zero.length)))⟩
  | _ => False
theorem s_appz (zero : List AV) (bytes b n c : Nat) (k : IntKind) (z : Int) (d : Option Nat) (T : Nat → AV) (H : Heap) (K : AS → Prop) : vcE P (.appz zero bytes) [.sl b 0 n c, .int k z] d ⟨T, H⟩ K = vcAz (H b) n c z zero bytes d T H K := by unfold vcE vcAz; rfl
theorem s_appzn (zero : List AV) (bytes : Nat) (k : IntKind) (z : Int) (d : Option Nat) (T : Nat → AV) (H : Heap) (K : AS → Prop) : vcE P (.appz zero bytes) [.nils, .int k z] d ⟨T, H⟩ K = (0 < z ∧ z.toNat * bytes ≤ 140737488355328 ∧ ∀ b' c', H b' = none → z.toNat ≤ c' → K ⟨put T d (.sl b' 0 z.toNat c'), H.set b' (some (.cells (List.replicate z.toNat zero).flatten (c' * zero.length)))⟩) := by unfold vcE; rfl
theorem s_Az (vs : List AV) (k n c : Nat) (z : Int) (zero : List AV) (bytes : Nat) (d : Option Nat) (T : Nat → AV) (H : Heap) (K : AS → Prop) :
    vcAz (some (.cells vs k)) n c z zero bytes d T H K = (n ≤ c ∧ n * zero.length ≤ vs.length ∧ 0 ≤ z ∧ (c : Int) < n + z ∧ (n + z.toNat) * bytes ≤ 140737488355328 ∧
        ∀ b' c', H b' = none → n + z.toNat ≤ c' → K ⟨put T d (.sl b' 0 (n + z.toNat) c'), H.set b' (some (.cells (vs.take (n * zero.length) ++ (List.replicate z.toNat zero).flatten) (c' * zero.length)))⟩) := rfl
def vcOv (P : Program) (x : Option Blk) (f : Nat) (cs : List AV) (d : Option Nat) (T : Nat → AV) (H : Heap) (K : AS → Prop) : Prop :=
  match x with
  | some (.cells _ k) => OvlOK P f ∧ cs ≠ [] ∧ 0 < k ∧ K ⟨put T d (.bool false), H⟩
  | _ => False
theorem s_ext (f : Nat) (cs : List AV) (m : Nat) (mc : Option Nat) (b o n c : Nat) (d : Option Nat) (T : Nat → AV) (H : Heap) (K : AS → Prop) : vcE P (.ext f) [.imm cs m mc, .sl b o n c] d ⟨T, H⟩ K = vcOv P (H b) f cs d T H K := by unfold vcE vcOv; rfl
theorem s_Ov (vs : List AV) (k f : Nat) (cs : List AV) (d : Option Nat) (T : Nat → AV) (H : Heap) (K : AS → Prop) : vcOv P (some (.cells vs k)) f cs d T H K = (OvlOK P f ∧ cs ≠ [] ∧ 0 < k ∧ K ⟨put T d (.bool false), H⟩) := rfl
def vcMset (sk : SK) (b : Nat) (x : Option Blk) (k v : AV) (d : Option Nat) (T : Nat → AV) (H : Heap) (K : AS → Prop) : Prop :=
  match mapB x with
  | some es => match findI sk k es with
    | some r => K ⟨put T d .any, H.set b (some (.map (msetV k v es r)))⟩
    | none => False
  | none => False
def vcMdel (sk : SK) (b : Nat) (x : Option Blk) (k : AV) (d : Option Nat) (T : Nat → AV) (H : Heap) (K : AS → Prop) : Prop :=
  match mapB x with
  | some es => match findI sk k es with
    | some r => K ⟨put T d (.tup []), H.set b (some (.map (mdelV es r)))⟩
    | none => False
  | none => False
theorem s_mkmap (d : Option Nat) (T : Nat → AV) (H : Heap) (K : AS → Prop) : vcE P .mkmap [] d ⟨T, H⟩ K = NewB H (fun _ => .map []) (fun b => .mp b) d T K := by unfold vcE; rfl
theorem s_mset (sk : SK) (b : Nat) (k v : AV) (d : Option Nat) (T : Nat → AV) (H : Heap) (K : AS → Prop) : vcE P (.mset sk) [.mp b, k, v] d ⟨T, H⟩ K = vcMset sk b (H b) k v d T H K := by unfold vcE; rfl
theorem s_mdeln (sk : SK) (k : AV) (d : Option Nat) (T : Nat → AV) (H : Heap) (K : AS → Prop) : vcE P (.mdel sk) [.nilm, k] d ⟨T, H⟩ K = (keyOK sk k = true ∧ K ⟨put T d (.tup []), H⟩) := by unfold vcE; rfl
theorem s_mdel (sk : SK) (b : Nat) (k : AV) (d : Option Nat) (T : Nat → AV) (H : Heap) (K : AS → Prop) : vcE P (.mdel sk) [.mp b, k] d ⟨T, H⟩ K = vcMdel sk b (H b) k d T H K := by unfold vcE; rfl
theorem s_Mset {sk : SK} {k : AV} {es : List (AV × AV)} {r : Option Nat} (h : findI sk k es = some r) (b : Nat) (v : AV) (d : Option Nat) (T : Nat → AV) (H : Heap) (K : AS → Prop) :
    vcMset sk b (some (.map es)) k v d T H K = K ⟨put T d .any, H.set b (some (.map (msetV k v es r)))⟩ := by simp only [vcMset, mapB, h]
theorem s_Mdel {sk : SK} {k : AV} {es : List (AV × AV)} {r : Option Nat} (h : findI sk k es = some r) (b : Nat) (d : Option Nat) (T : Nat → AV) (H : Heap) (K : AS → Prop) :
    vcMdel sk b (some (.map es)) k d T H K = K ⟨put T d (.tup []), H.set b (some (.map (mdelV es r)))⟩ := by simp only [vcMdel, mapB, h]
/-! A map gone through. -/
theorem s_mapB (es : List (AV × AV)) : mapB (some (.map es)) = some es := rfl
theorem s_mapBS (es : List (AV × AV)) (bs : List Nat) (c : Nat) : mapB (some (.mapS es bs c)) = some es := rfl
def vcRn (x : Option Blk) (m : Nat) (d : Option Nat) (T : Nat → AV) (H : Heap) (K : AS → Prop) : Prop :=
  match x with
  | some (.map es) => ∀ b bs clock, H b = none → bs.length = es.length → bs.Nodup → (∀ x ∈ bs, x < clock) →
      K ⟨put T d (.ptr b 0), (H.set m (some (.mapS es bs clock))).set b (some (.raw (.mapIter (some m) clock #[] clock)))⟩
  | some (.mapS _ _ clock) => ∀ b, H b = none → K ⟨put T d (.ptr b 0), H.set b (some (.raw (.mapIter (some m) clock #[] clock)))⟩
  | _ => False
theorem s_rng (m : Nat) (d : Option Nat) (T : Nat → AV) (H : Heap) (K : AS → Prop) : vcE P .rng [.mp m] d ⟨T, H⟩ K = vcRn (H m) m d T H K := by unfold vcE vcRn; rfl
theorem s_rngn (d : Option Nat) (T : Nat → AV) (H : Heap) (K : AS → Prop) : vcE P .rng [.nilm] d ⟨T, H⟩ K = NewB H (fun _ => .raw (.mapIter none 0 #[] 0)) (fun b => .ptr b 0) d T K := by unfold vcE; rfl
theorem s_Rn (es : List (AV × AV)) (m : Nat) (d : Option Nat) (T : Nat → AV) (H : Heap) (K : AS → Prop) : vcRn (some (.map es)) m d T H K = ∀ b bs clock, H b = none → bs.length = es.length → bs.Nodup → (∀ x ∈ bs, x < clock) →
      K ⟨put T d (.ptr b 0), (H.set m (some (.mapS es bs clock))).set b (some (.raw (.mapIter (some m) clock #[] clock)))⟩ := rfl
def vcNx (x : Option Blk) (b : Nat) (d : Option Nat) (T : Nat → AV) (H : Heap) (K : AS → Prop) : Prop :=
  match x with
  | some (.raw (.mapIter none _ _ _)) => K ⟨put T d (.tup [.bool false]), H⟩
  | some (.raw (.mapIter (some m) since seen last)) => match H m with
    | some (.mapS es bs clock) => since = clock ∧ last = clock ∧ ((∀ x ∈ bs, x ∈ seen.toList) → K ⟨put T d (.tup [.bool false]), H⟩) ∧
        ∀ (j : Nat) (e : AV × AV) (x : Nat), es[j]? = some e → bs[j]? = some x → x ∉ seen.toList → K ⟨put T d (.tup [.bool true, e.1, e.2]), H.set b (some (.raw (.mapIter (some m) clock (seen.push x) clock)))⟩
    | _ => False
  | _ => False
theorem s_nxt (b : Nat) (d : Option Nat) (T : Nat → AV) (H : Heap) (K : AS → Prop) : vcE P .nxt [.ptr b 0] d ⟨T, H⟩ K = vcNx (H b) b d T H K := by unfold vcE vcNx; rfl
theorem s_Nx0 (a c : Nat) (seen : Array Nat) (b : Nat) (d : Option Nat) (T : Nat → AV) (H : Heap) (K : AS → Prop) : vcNx (some (.raw (.mapIter none a seen c))) b d T H K = K ⟨put T d (.tup [.bool false]), H⟩ := rfl
def vcEn (x : Option Blk) (d : Option Nat) (T : Nat → AV) (H : Heap) (K : AS → Prop) : Prop :=
  match x with
  | some (.raw (.mapIter (some m) _ seen last)) => match H m with
    | some (.mapS es bs clock) => last = clock ∧ ∃ (j : Nat) (e : AV × AV) (x : Nat), seen.toList.getLast? = some x ∧ bs[j]? = some x ∧ es[j]? = some e ∧ K ⟨put T d (.tup [e.1, e.2]), H⟩
    | _ => False
  | _ => False
theorem s_ent (b : Nat) (d : Option Nat) (T : Nat → AV) (H : Heap) (K : AS → Prop) : vcE P .ent [.ptr b 0] d ⟨T, H⟩ K = vcEn (H b) d T H K := by unfold vcE vcEn; rfl
theorem Nx.mk {H : Heap} {b m c : Nat} {seen : Array Nat} {es : List (AV × AV)} {bs : List Nat} {d : Option Nat} {T : Nat → AV} {K : AS → Prop} (hb : H b = some (.raw (.mapIter (some m) c seen c))) (hm : H m = some (.mapS es bs c))
    (h0 : (∀ x ∈ bs, x ∈ seen.toList) → K ⟨put T d (.tup [.bool false]), H⟩)
    (h1 : ∀ (j : Nat) (e : AV × AV) (x : Nat), es[j]? = some e → bs[j]? = some x → x ∉ seen.toList → K ⟨put T d (.tup [.bool true, e.1, e.2]), H.set b (some (.raw (.mapIter (some m) c (seen.push x) c)))⟩) : vcNx (H b) b d T H K := by
  unfold vcNx
  rw [hb]
  simp only [hm]
  exact ⟨trivial, trivial, h0, h1⟩
theorem En.mk {H : Heap} {b m c j x : Nat} {seen : Array Nat} {es : List (AV × AV)} {bs : List Nat} {e : AV × AV} {d : Option Nat} {T : Nat → AV} {K : AS → Prop} (hb : H b = some (.raw (.mapIter (some m) c (seen.push x) c))) (hm : H m = some (.mapS es bs c))
    (hj : bs[j]? = some x) (he : es[j]? = some e) (h : K ⟨put T d (.tup [e.1, e.2]), H⟩) : vcEn (H b) d T H K := by
  unfold vcEn
  rw [hb]
  simp only [hm]
  exact ⟨trivial, j, e, x, by simp, hj, he, h⟩
theorem s_alloc (zero : List AV) (d : Option Nat) (T : Nat → AV) (H : Heap) (K : AS → Prop) : vcE P (.alloc zero) [] d ⟨T, H⟩ K = NewB H (fun _ => .cells zero zero.length) (fun b => .ptr b 0) d T K := by unfold vcE; rfl
theorem s_box (v : AV) (d : Option Nat) (T : Nat → AV) (H : Heap) (K : AS → Prop) : vcE P .box [v] d ⟨T, H⟩ K = (v.known = true ∧ NewB H (fun _ => .cells v.cellsL v.cellsL.length) (fun b => .ptr b 0) d T K) := by unfold vcE; rfl
theorem s_bslice (frozen : Bool) (zero : List AV) (ps : List (Nat × Nat)) (len : Nat) (xs : List AV) (d : Option Nat) (T : Nat → AV) (H : Heap) (K : AS → Prop) :
    vcE P (.bslice frozen zero ps len) xs d ⟨T, H⟩ K = (xs.all AV.known = true ∧ vcBs frozen len (fillC zero ps xs) d T H K) := by unfold vcE; rfl
theorem s_Bs_t (len : Nat) (cs : List AV) (d : Option Nat) (T : Nat → AV) (H : Heap) (K : AS → Prop) : vcBs true len (some cs) d T H K = K ⟨put T d (.imm cs len (some len)), H⟩ := by simp [vcBs]
theorem s_Bs_f (len : Nat) (cs : List AV) (d : Option Nat) (T : Nat → AV) (H : Heap) (K : AS → Prop) : vcBs false len (some cs) d T H K = NewB H (fun _ => .cells cs cs.length) (fun b => .sl b 0 len len) d T K := by simp [vcBs]
theorem s_store1 (b o : Nat) (v : AV) (d : Option Nat) (T : Nat → AV) (H : Heap) (K : AS → Prop) : vcE P (.store none) [.ptr b o, v] d ⟨T, H⟩ K = (v.one = true ∧ vcSt1 (H b) b o v T H K) := by unfold vcE; rfl
theorem s_storeN (b o k : Nat) (cs : List AV) (d : Option Nat) (T : Nat → AV) (H : Heap) (K : AS → Prop) : vcE P (.store (some k)) [.ptr b o, .agg cs] d ⟨T, H⟩ K = (cs.all AV.one = true ∧ cs.length = k ∧ vcSt (H b) b o k cs T H K) := by unfold vcE; rfl
theorem s_St1 (vs : List AV) (n b o : Nat) (v : AV) (T : Nat → AV) (H : Heap) (K : AS → Prop) : vcSt1 (some (.cells vs n)) b o v T H K = (o < vs.length ∧ K ⟨T, H.set b (some (.cells (vs.set o v) n))⟩) := rfl
theorem s_St (vs : List AV) (n b o sz : Nat) (cs : List AV) (T : Nat → AV) (H : Heap) (K : AS → Prop) : vcSt (some (.cells vs n)) b o sz cs T H K = (o + sz ≤ vs.length ∧ K ⟨T, H.set b (some (.cells (vs.take o ++ cs ++ vs.drop (o + sz)) n))⟩) := rfl
theorem s_s2b (s : ByteArray) (d : Option Nat) (T : Nat → AV) (H : Heap) (K : AS → Prop) : vcE P .s2b [.str s] d ⟨T, H⟩ K = K ⟨put T d (.imm (s.data.toList.map byteV) s.size none), H⟩ := by unfold vcE; rfl
def vcMk (x : Option Blk) (b n c : Nat) (d : Option Nat) (T : Nat → AV) (H : Heap) (K : AS → Prop) : Prop :=
  match x with
  | some (.cells cs k) => k = n ∧ c = n ∧ cs.length = n ∧ K ⟨put T d (.imm cs n (some n)), H.set b none⟩
  | _ => False
theorem s_markb (b n c : Nat) (d : Option Nat) (T : Nat → AV) (H : Heap) (K : AS → Prop) : vcE P .mark [.sl b 0 n c] d ⟨T, H⟩ K = vcMk (H b) b n c d T H K := by unfold vcE; rfl
theorem s_Mk (cs : List AV) (k b n c : Nat) (d : Option Nat) (T : Nat → AV) (H : Heap) (K : AS → Prop) : vcMk (some (.cells cs k)) b n c d T H K = (k = n ∧ c = n ∧ cs.length = n ∧ K ⟨put T d (.imm cs n (some n)), H.set b none⟩) := rfl
theorem s_mkslice (frozen : Bool) (zero : List AV) (bytes : Nat) (k1 k2 : IntKind) (n c : Int) (d : Option Nat) (T : Nat → AV) (H : Heap) (K : AS → Prop) :
    vcE P (.mkslice frozen zero bytes) [.int k1 n, .int k2 c] d ⟨T, H⟩ K = (0 ≤ n ∧ n ≤ c ∧ c * bytes ≤ 140737488355328 ∧ c ≤ 9223372036854775807 ∧
      if frozen then K ⟨put T d (.imm (List.replicate n.toNat zero).flatten n.toNat (some c.toNat)), H⟩
      else NewB H (fun _ => .cells (List.replicate n.toNat zero).flatten (c.toNat * zero.length)) (fun b => .sl b 0 n.toNat c.toNat) d T K) := by unfold vcE; rfl
theorem s_qbslice (zero : List AV) (ps : List (Nat × Nat)) (len : Nat) (xs : List AV) (H : Heap) (K : AV → Prop) :
    vcQE P (.bslice true zero ps len) xs H K = (xs.all AV.known = true ∧ match fillC zero ps xs with | some cs => K (.imm cs len (some len)) | none => False) := by unfold vcQE; rfl
theorem s_qs2b (s : ByteArray) (H : Heap) (K : AV → Prop) : vcQE P .s2b [.str s] H K = K (.imm (s.data.toList.map byteV) s.size none) := by unfold vcQE; rfl
/-! The end of a function. -/
def Ret (ts : List Nat) (Q : AV → Heap → Prop) : Exit → AS → Prop
  | .normal, S => Q (resAV S.T ts) S.H
  | .ret, S => Q (resAV S.T ts) S.H
  | _, _ => False
theorem s_ret_n (ts : List Nat) (Q : AV → Heap → Prop) (T : Nat → AV) (H : Heap) : Ret ts Q .normal ⟨T, H⟩ = Q (resAV T ts) H := rfl
theorem s_ret_r (ts : List Nat) (Q : AV → Heap → Prop) (T : Nat → AV) (H : Heap) : Ret ts Q .ret ⟨T, H⟩ = Q (resAV T ts) H := rfl
theorem CC.by_vc {f n : Nat} {md : Md} {cc : CCode} {ts : List Nat} (hf : FnOK P f md n cc ts) {args : List AV} {H : Heap} {Q : AV → Heap → Prop} (ha : args.length ≤ n)
    (h : vc P cc ⟨argT args, H⟩ (Ret ts Q)) : CC P f args H Q := by
  refine CC.of_vc hf ha ?_
  have key : Ret ts Q = fun e S => (e = .normal ∨ e = .ret) ∧ Q (resAV S.T ts) S.H := by
    funext e S
    cases e <;> simp [Ret]
  rw [← key]; exact h
theorem CP.by_vc {f n : Nat} {md : Md} {cc : CCode} {ts : List Nat} (hf : FnOK P f md n cc ts) {args : List AV} {R : AV → Prop} (ha : args.length ≤ n)
    (h : vc P cc ⟨argT args, Heap.nil⟩ (Ret ts fun v _ => R v)) : CP P f args R := CC.by_vc hf ha h
/-! Loops. -/
def Again (I : Nat → AS → Prop) (k : Nat) : AS → Prop := fun S => ∃ k', k' < k ∧ I k' S
theorem Again.mk {I : Nat → AS → Prop} {k : Nat} {S : AS} (k' : Nat) (h : k' < k) (hI : I k' S) : Again I k S := ⟨k', h, hI⟩
theorem LoopV.mk {a : CCode} {S : AS} {Q : Exit → AS → Prop} (I : Nat → AS → Prop) (k₀ : Nat) (h₀ : I k₀ S) (round : ∀ k T H, I k ⟨T, H⟩ → vc P a ⟨T, H⟩ (thenQ (Again I k) Q)) : LoopV (vc P a) S Q :=
  ⟨I, k₀, h₀, fun k S hI => round k S.T S.H hI⟩
theorem CallK.pure {f : Nat} {as : List AV} {T : Nat → AV} {H : Heap} {d : Option Nat} {K : AS → Prop} {R : AV → Prop} (h : CP P f as R) (k : ∀ v, R v → K ⟨put T d v, H⟩) : CallK P f as T H d K := CP.use h k
theorem CallK.of {f : Nat} {as : List AV} {T : Nat → AV} {H : Heap} {d : Option Nat} {K : AS → Prop} {Q : AV → Heap → Prop} (h : CC P f as H Q) (k : ∀ v H', Q v H' → K ⟨put T d v, H'⟩) : CallK P f as T H d K := h.mono k
theorem CallQ.of {f : Nat} {as : List AV} {H : Heap} {K : AV → Prop} {v : AV} (h : CP P f as (fun u => u = v)) (k : K v) : CallQ P f as H K := ⟨v, CP.use h fun u hu => ⟨hu, rfl⟩, k⟩
theorem CallQ.ofH {f : Nat} {as : List AV} {H : Heap} {K : AV → Prop} {v : AV} (h : CC P f as H (fun u H' => u = v ∧ H' = H)) (k : K v) : CallQ P f as H K := ⟨v, h, k⟩
end
end Go.Sf

end
section
/- Rows of cells: a slice of the call's own, or one that is held for good; what an append makes of them; a result that is held for good from now on. -/
set_option linter.unusedVariables false
set_option linter.unusedSimpArgs false
namespace Go.Sf
section
variable {P : Program}

/-- A slice of n elements of the call's own: nil, or at the head of a block. -/
def OwnR (H : Heap) (sz n : Nat) (v : AV) (cs : List AV) : Prop :=
  cs.length = n * sz ∧ ((v = .nils ∧ n = 0) ∨ ∃ b c, v = .sl b 0 n c ∧ H b = some (.cells cs (c * sz)) ∧ n ≤ c)
/-- The same, or one that is held for good and cut at its end. -/
def RowR (H : Heap) (sz n : Nat) (v : AV) (cs : List AV) : Prop := OwnR H sz n v cs ∨ (cs.length = n * sz ∧ v = .imm cs n (some n))
def blkOf : AV → Option Nat
  | .sl b _ _ _ => some b
  | _ => none
/-- All blocks but one are as they were. -/
def KeepB (H H' : Heap) (o : Option Nat) : Prop := ∀ k, o ≠ some k → H k ≠ none → H' k = H k
theorem OwnR.lenOf {H : Heap} {sz n : Nat} {v : AV} {cs : List AV} (h : OwnR H sz n v cs) : Sf.lenOf v = some n := by
  obtain ⟨_, ⟨rfl, rfl⟩ | ⟨b, c, rfl, _⟩⟩ := h <;> rfl
theorem RowR.lenOf {H : Heap} {sz n : Nat} {v : AV} {cs : List AV} (h : RowR H sz n v cs) : Sf.lenOf v = some n := by
  rcases h with h | ⟨_, rfl⟩
  · exact h.lenOf
  · rfl
theorem OwnR.cells {H : Heap} {sz n : Nat} {v : AV} {cs : List AV} (h : OwnR H sz n v cs) : cellsOf H sz v = some cs := by
  obtain ⟨hl, ⟨rfl, rfl⟩ | ⟨b, c, rfl, hb, hc⟩⟩ := h
  · have : cs = [] := List.length_eq_zero_iff.1 (by simpa using hl)
    subst this; rfl
  · by_cases hn : n = 0
    · subst hn
      have : cs = [] := List.length_eq_zero_iff.1 (by simpa using hl)
      subst this; simp [cellsOf]
    · simp [cellsOf, hb, hl, hn, List.take_of_length_le (Nat.le_of_eq hl)]
theorem OwnR.keep {H H' : Heap} {sz n : Nat} {v : AV} {cs : List AV} {o : Option Nat} (h : OwnR H sz n v cs) (k : KeepB H H' o) (hne : ∀ b, blkOf v = some b → o ≠ some b) : OwnR H' sz n v cs := by
  obtain ⟨hl, h | ⟨b, c, rfl, hb, hc⟩⟩ := h
  · exact ⟨hl, .inl h⟩
  · exact ⟨hl, .inr ⟨b, c, rfl, by rw [k b (hne b rfl) (by rw [hb]; simp)]; exact hb, hc⟩⟩
/-- An append to a row. -/
theorem vcAp_row {H : Heap} {sz bytes n m : Nat} {v x : AV} {cs new : List AV} {d : Option Nat} {T : Nat → AV} {K : AS → Prop} (h : RowR H sz n v cs) (hx : cellsOf H sz x = some new) (hm : lenOf x = some m) (hml : new.length = m * sz) (hsz : 0 < sz)
    (h1 : new.all AV.one = true) (h2 : (n + m) * bytes ≤ 140737488355328) (h3 : new ≠ [] ∨ OwnR H sz n v cs)
    (k : ∀ v' H', OwnR H' sz (n + m) v' (cs ++ new) → KeepB H H' (blkOf v) → (∀ b, blkOf v' = some b → H b = none ∨ blkOf v = some b) → K ⟨put T d v', H'⟩) :
    vcAp false sz bytes (appOld H sz v) (cellsOf H sz x) (lenOf v) (lenOf x) v d T H K := by
  rw [hx, hm, h.lenOf]
  have hcl : (cs ++ new).length = (n + m) * sz := by
    have : cs.length = n * sz := by rcases h with h | h <;> exact h.1
    rw [List.length_append, this, hml, Nat.add_mul]
  rcases h with ⟨hl, ⟨rfl, rfl⟩ | ⟨b, c, rfl, hb, hc⟩⟩ | ⟨hl, rfl⟩
  · have hcs : cs = [] := List.length_eq_zero_iff.1 (by simpa using hl)
    subst hcs
    simp only [appOld]
    rw [s_Ap_f]
    refine ⟨h1, h2, fun _ hn => ?_, fun h => by simp [AV.isImm] at h, fun hn b c hb hc => ?_⟩
    · subst hn
      have hm0 : m = 0 := by
        have : m * sz = 0 := by simpa using hml.symm
        rcases Nat.mul_eq_zero.1 this with h | h
        · exact h
        · omega
      subst hm0
      exact k _ _ ⟨by simp, .inl ⟨rfl, rfl⟩⟩ (fun _ _ _ => rfl) (fun b hb => by cases hb)
    · simp only [Heap.less] at hb ⊢
      refine k _ _ ⟨hcl, .inr ⟨b, c, rfl, Heap.set_self _ _ _, hc⟩⟩ (fun q _ hq => ?_) (fun b' hb' => by cases hb'; exact .inl hb)
      rw [Heap.set_ne]
      intro e; subst e; exact hq hb
  · simp only [appOld, hb]
    rw [if_pos ⟨hl, trivial, hc⟩, s_Ap_f]
    refine ⟨h1, h2, fun h => by simp [AV.isNils] at h, fun h => by simp [AV.isImm] at h, fun hn b' c' hb' hc' => ?_⟩
    simp only [Heap.less] at hb' ⊢
    refine k _ _ ⟨hcl, .inr ⟨b', c', rfl, Heap.set_self _ _ _, hc'⟩⟩ (fun q hq hq2 => ?_) (fun b2 hb2 => ?_)
    · have hqb : q ≠ b := fun e => hq (by rw [e]; rfl)
      have hqb' : q ≠ b' := by
        intro e; subst e
        rw [Heap.set_ne _ _ hqb] at hb'
        exact hq2 hb'
      rw [Heap.set_ne _ _ hqb', Heap.set_ne _ _ hqb]
    · cases hb2
      by_cases e : b' = b
      · right; rw [e]; rfl
      · left; rw [Heap.set_ne _ _ e] at hb'; exact hb'
  · have hn : new ≠ [] := by
      rcases h3 with h3 | ⟨_, ⟨h3, _⟩ | ⟨_, _, h3, _⟩⟩
      · exact h3
      · cases h3
      · cases h3
    simp only [appOld]
    rw [if_pos ⟨trivial, hl⟩, s_Ap_f]
    refine ⟨h1, h2, fun h => by simp [AV.isNils] at h, fun _ => hn, fun _ b c hb hc => ?_⟩
    simp only [Heap.less] at hb ⊢
    refine k _ _ ⟨hcl, .inr ⟨b, c, rfl, Heap.set_self _ _ _, hc⟩⟩ (fun q _ hq => ?_) (fun b' hb' => by cases hb'; exact .inl hb)
    rw [Heap.set_ne]
    intro e; subst e; exact hq hb
/-- An append into the room behind a row's end, what lay there being written over. -/
theorem vcAp_in {H : Heap} {sz bytes b n c k m : Nat} {vs new : List AV} {x : AV} {d : Option Nat} {T : Nat → AV} {K : AS → Prop} (hb : H b = some (.cells vs k)) (hk : k = c * sz) (hne : vs.length ≠ n * sz) (hle : n * sz ≤ vs.length)
    (hx : cellsOf H sz x = some new) (hm : lenOf x = some m) (h1 : new.all AV.one = true) (hfit : n + m ≤ c) (h : K ⟨put T d (.sl b 0 (n + m) c), H.set b (some (.cells (splA vs (n * sz) new) k))⟩) :
    vcAp false sz bytes (appOld H sz (.sl b 0 n c)) (cellsOf H sz x) (some n) (lenOf x) (.sl b 0 n c) d T H K := by
  have e : appOld H sz (.sl b 0 n c) = none := by
    simp only [appOld, hb]
    rw [if_neg (fun h => hne h.1)]
  rw [e, hx, hm, s_Ap_in, s_AppIn hb]
  exact ⟨rfl, h1, hle, hk, hfit, h⟩
/-- An append whose result is held for good at once. -/
theorem vcAp_hold {H : Heap} {sz bytes n m : Nat} {v x : AV} {cs new : List AV} {d : Option Nat} {T : Nat → AV} {K : AS → Prop} (h : RowR H sz n v cs) (hx : cellsOf H sz x = some new) (hm : lenOf x = some m)
    (h1 : new.all AV.one = true) (h2 : (n + m) * bytes ≤ 140737488355328)
    (k : ∀ H', KeepB H H' (blkOf v) → K ⟨put T d (.imm (cs ++ new) (n + m) none), H'⟩) :
    vcAp true sz bytes (appOld H sz v) (cellsOf H sz x) (lenOf v) (lenOf x) v d T H K := by
  rw [hx, hm, h.lenOf]
  rcases h with ⟨hl, ⟨rfl, rfl⟩ | ⟨b, c, rfl, hb, hc⟩⟩ | ⟨hl, rfl⟩
  · have hcs : cs = [] := List.length_eq_zero_iff.1 (by simpa using hl)
    subst hcs
    simp only [appOld]
    rw [s_Ap_t]
    exact ⟨h1, h2, k _ fun _ _ _ => rfl⟩
  · simp only [appOld, hb]
    rw [if_pos ⟨hl, trivial, hc⟩, s_Ap_t]
    refine ⟨h1, h2, k _ fun q hq _ => ?_⟩
    simp only [Heap.less]
    rw [Heap.set_ne]
    intro e; exact hq (by rw [e]; rfl)
  · simp only [appOld]
    rw [if_pos ⟨trivial, hl⟩, s_Ap_t]
    exact ⟨h1, h2, k _ fun _ _ _ => rfl⟩
/-- Of a block's cells only the first are told from now on. -/
theorem Rel.trim {M : Mem} {H : Heap} {w : World} (r : Rel M H w) {b k m : Nat} {vs : List AV} (hb : H b = some (.cells vs k)) : Rel M (H.set b (some (.cells (vs.take m) k))) w :=
  ⟨fun b' o v e => by
    obtain ⟨h1, h2⟩ := r.mem b' o v e
    have hne : b' ≠ b := fun h => by rw [h, hb] at h1; cases h1
    exact ⟨by rw [Heap.set_ne _ _ hne]; exact h1, h2⟩, fun b' k' e => by
    by_cases hbb : b' = b
    · subst hbb
      rw [Heap.set_self] at e; cases e
      obtain ⟨o, ho, hr⟩ := r.live _ _ hb
      refine ⟨o, ho, ?_⟩
      simp only [BRel] at hr ⊢
      obtain ⟨c, e, fr, h1, h2, h3, h4, h5⟩ := hr
      refine ⟨c, e, fr, h1, h2, by rw [List.length_take]; omega, h4, ?_⟩
      have := VRels.take h5 m
      rwa [List.take_take, ← List.length_take] at this
    · rw [Heap.set_ne _ _ hbb] at e; exact r.live _ _ e⟩
theorem CC.trim {f : FuncId} {args : List AV} {H : Heap} {Q Q' : AV → Heap → Prop} (h : CC P f args H Q) (k : ∀ v H', Q v H' → ∃ b vs q m, H' b = some (.cells vs q) ∧ Q' v (H'.set b (some (.cells (vs.take m) q)))) : CC P f args H Q' :=
  fun M w vs h1 h2 => (h M w vs h1 h2).mono fun e w' ⟨v, x, M', H', e1, e2, e3, e4, e5⟩ => by
    obtain ⟨b, us, q, m, hb, hQ⟩ := k _ _ e5
    refine ⟨v, x, M', _, e1, e2, e3.trim hb, ⟨e4.os, e4.tape, e4.output, e4.size, e4.mle, fun b' hb' hn => ?_⟩, hQ⟩
    obtain ⟨g1, g2, g3⟩ := e4.block b' hb' hn
    have hne : b' ≠ b := fun h => by rw [h, hb] at g2; cases g2
    exact ⟨g1, by rw [Heap.set_ne _ _ hne]; exact g2, g3⟩
/-- A result of the call's own, held for good. -/
theorem CC.hold {f : FuncId} {args : List AV} {H : Heap} {Q : AV → Heap → Prop} {Q' : AV → Heap → Prop} (h : CC P f args H Q)
    (k : ∀ v H', Q v H' → ∃ sz n cs, OwnR H' sz n v cs ∧ Q' (.imm cs n none) (match blkOf v with | some b => H'.set b none | none => H')) : CC P f args H Q' :=
  fun M w vs h1 h2 => (h M w vs h1 h2).mono fun e w' ⟨v, x, M', H', e1, e2, e3, e4, e5⟩ => by
    obtain ⟨sz, n, cs, ⟨hl, ho⟩, hq⟩ := k _ _ e5
    rcases ho with ⟨rfl, rfl⟩ | ⟨b, c, rfl, hb, hc⟩
    · have hcs : cs = [] := List.length_eq_zero_iff.1 (by simpa using hl)
      subst hcs
      refine ⟨_, x, M', H', e1, ?_, e3, e4, hq⟩
      rw [vr_nils e2]
      simp only [VRel]
      exact ⟨none, [], 0, rfl, fun x hx => (by cases hx), Nat.le_refl _, fun _ => ⟨rfl, rfl⟩, fun y hy => (by cases hy), .nil⟩
    · obtain ⟨M2, p1, p2, p3⟩ := hold_imm e3 hb hc (c := none) (fun x hx => by cases hx)
      exact ⟨_, x, M2, _, e1, by rw [vr_sl e2]; exact p3, p1, e4.trans p2, hq⟩
theorem CP.hold {f : FuncId} {args : List AV} {sz n : Nat} {cs : List AV} (h : CC P f args Heap.nil fun v H' => OwnR H' sz n v cs) : CP P f args fun v => v = .imm cs n none :=
  CC.hold h fun v H' ho => ⟨sz, n, cs, ho, rfl⟩
/-! Bytes. -/
def bytesV (l : List UInt8) : List AV := l.map byteV
theorem bytesV_length (l : List UInt8) : (bytesV l).length = l.length := by simp [bytesV]
theorem bytesV_append (l m : List UInt8) : bytesV (l ++ m) = bytesV l ++ bytesV m := by simp [bytesV]
theorem bytesV_one (l : List UInt8) : (bytesV l).all AV.one = true := by simp [bytesV, List.all_eq_true, byteV, AV.one]
theorem bytesV_get {l : List UInt8} {i : Nat} (h : i < l.length) : (bytesV l)[i]? = some (byteV l[i]) := by simp [bytesV, h]
theorem bytesV_take (l : List UInt8) (n : Nat) : (bytesV l).take n = bytesV (l.take n) := by simp [bytesV, List.map_take]
theorem bytesV_drop (l : List UInt8) (n : Nat) : (bytesV l).drop n = bytesV (l.drop n) := by simp [bytesV, List.map_drop]
theorem bytesV_toBytes (l : List UInt8) : toBytes (bytesV l) = some l := toBytes_bytes l
/-- A slice of bytes, held for good. -/
def immB (l : List UInt8) (c : Option Nat) : AV := .imm (bytesV l) l.length c
theorem byteV_eq (b : UInt8) : byteV b = .int .u8 (b.toNat : Int) := rfl
end
end Go.Sf

end
section
/- Functions of which a result lies in a cell of its own. -/
set_option linter.unusedVariables false
set_option linter.unusedSimpArgs false
namespace Go.Sf

/-- Where the results lie: temporaries, and cells that temporaries point at. -/
def resC (P : Program) : List ResultVar → Option (List (Nat × Option (Option Nat)))
  | [] => some []
  | .tmp t :: r => (resC P r).map ((t, none) :: ·)
  | .cell a t :: r => match szT P t, resC P r with
    | some sz, some l => some ((a, some sz) :: l)
    | _, _ => none
def ldV (t : Nat) (sz : Option (Option Nat)) (T : Nat → AV) (H : Heap) : Option (Prop × AV) :=
  match sz with
  | none => some (True, T t)
  | some sz => evK (.load sz) H [T t]
def resVs (T : Nat → AV) (H : Heap) : List (Nat × Option (Option Nat)) → List AV → (List AV → Prop) → Prop
  | [], acc, K => K acc
  | (t, sz) :: r, acc, K => match ldV t sz T H with
    | some (p, v) => p ∧ resVs T H r (acc ++ [v]) K
    | none => False
theorem load_ptr {M : Mem} {sz : Option Nat} {H : Heap} {a : AV} {x : Value} {q : Prop × AV} (e : evK (.load sz) H [a] = some q) (h : VRel M a x) : ∃ ad, x = .pointer (some ad) := by
  cases a <;> cases sz <;> simp only [evK, reduceCtorEq] at e <;> simp only [VRel] at h
  · exact ⟨_, h⟩
  · exact ⟨_, h⟩
  · obtain ⟨b, o, vs, h, _⟩ := h; exact ⟨_, h⟩
  · obtain ⟨b, o, vs, h, _⟩ := h; exact ⟨_, h⟩
theorem resVs_rel {P : Program} {n : Nat} {M : Mem} {T : Nat → AV} {H : Heap} {w : World} {a : Act} (ht : TRel n M T a.tmps) (r : Rel M H w) (g : ResultVar → Sem Value) (hg1 : ∀ t, g (.tmp t) = Sem.pure (a.tmps.getD t undef)) (hg2 : ∀ x t ad, a.tmps.getD x undef = .pointer (some ad) → g (.cell x t) = Instr.loadAt t (a.tmps.getD x undef)) :
    ∀ (l : List ResultVar) (ts : List (Nat × Option (Option Nat))), resC P l = some ts → (∀ t ∈ ts, t.1 < n) → ∀ (acc : List AV) (K : List AV → Prop), resVs T H ts acc K →
      ∃ vs xs, (l.mapM (m := Sem) g).run P w = .ok xs w ∧ VRels M vs xs ∧ K (acc ++ vs)
  | [], ts, e, hts, acc, K, h => by
    simp only [resC, Option.some.injEq] at e; subst e
    exact ⟨[], [], rfl, .nil, by simpa [resVs] using h⟩
  | .tmp t :: l, ts, e, hts, acc, K, h => by
    simp only [resC, Option.map_eq_some_iff] at e
    obtain ⟨ts', e1, rfl⟩ := e
    simp only [resVs, ldV] at h
    obtain ⟨vs, xs, h1, h2, h3⟩ := resVs_rel ht r g hg1 hg2 l ts' e1 (fun t ht => hts t (by simp [ht])) _ K h.2
    refine ⟨T t :: vs, a.tmps.getD t undef :: xs, ?_, .cons (ht.2 t (hts (t, none) (by simp))) h2, by simpa using h3⟩
    simp only [List.mapM_cons]
    rw [run_bind, hg1]
    show (_ : Result _) = _
    simp only [Sem.run]
    rw [run_bind, h1]; rfl
  | .cell x t :: l, ts, e, hts, acc, K, h => by
    simp only [resC] at e
    split at e
    · rename_i sz ts' e0 e1
      cases e
      simp only [resVs, ldV] at h
      split at h
      · rename_i p v hev
        obtain ⟨hp, h⟩ := h
        obtain ⟨vs, xs, h1, h2, h3⟩ := resVs_rel ht r g hg1 hg2 l ts' e1 (fun t ht => hts t (by simp [ht])) _ K h
        obtain ⟨y, h4, h5⟩ := load_sound (P := P) r (ht.2 x (hts (x, some sz) (by simp))) (szT_spec e0) hev hp
        refine ⟨v :: vs, y :: xs, ?_, .cons h5 h2, by simpa using h3⟩
        simp only [List.mapM_cons]
        obtain ⟨ad, had⟩ := load_ptr hev (ht.2 x (hts (x, some sz) (by simp)))
        rw [run_bind, hg2 x t ad had, h4]
        show (_ : Result _) = _
        simp only
        rw [run_bind, h1]; rfl
      · exact h.elim
    · cases e
def tupOf : List AV → AV
  | [v] => v
  | vs => .tup vs
def tupX : List Value → Value
  | [x] => x
  | xs => .tuple xs.toArray
theorem tupOf_rel {M : Mem} {vs : List AV} {xs : List Value} (h : VRels M vs xs) : VRel M (tupOf vs) (tupX xs) := by
  match vs, xs, h with
  | [], xs, h => simp only [VRels] at h; subst h; simp only [tupOf, VRel]; exact ⟨#[], rfl, .nil⟩
  | [v], xs, h =>
    simp only [VRels] at h
    obtain ⟨x, xs', rfl, h1, rfl⟩ := h
    exact h1
  | v :: v' :: vs, xs, h =>
    have hl := h.length
    match xs, h with
    | [], h => simp at hl
    | [_], h => simp at hl
    | x :: x' :: xs, h =>
      show VRel M (AV.tup _) (.tuple _)
      simp only [VRel]
      exact ⟨_, rfl, by simpa using h⟩
structure FnOKc (P : Program) (f : Nat) (md : Md) (n : Nat) (cc : CCode) (ts : List (Nat × Option (Option Nat))) : Prop where
  ok : ∃ fn c, P.funcs[f]? = some fn ∧ fn.body = some c ∧ fn.ntmps = n ∧ resC P fn.results.toList = some ts ∧ trC P n md c = some cc
  res : ts.all (·.1 < n) = true
def RetC (ts : List (Nat × Option (Option Nat))) (Q : AV → Heap → Prop) : Exit → AS → Prop
  | .normal, S => resVs S.T S.H ts [] fun vs => Q (tupOf vs) S.H
  | .ret, S => resVs S.T S.H ts [] fun vs => Q (tupOf vs) S.H
  | _, _ => False
def RV (ts : List (Nat × Option (Option Nat))) (T : Nat → AV) (H : Heap) (acc : List AV) (Q : AV → Heap → Prop) : Prop := resVs T H ts acc fun vs => Q (tupOf vs) H
def RV1 (e : Option (Prop × AV)) (ts : List (Nat × Option (Option Nat))) (T : Nat → AV) (H : Heap) (acc : List AV) (Q : AV → Heap → Prop) : Prop := match e with | some (p, v) => p ∧ RV ts T H (acc ++ [v]) Q | none => False
theorem s_retc_n (ts : List (Nat × Option (Option Nat))) (Q : AV → Heap → Prop) (T : Nat → AV) (H : Heap) : RetC ts Q .normal ⟨T, H⟩ = RV ts T H [] Q := rfl
theorem s_retc_r (ts : List (Nat × Option (Option Nat))) (Q : AV → Heap → Prop) (T : Nat → AV) (H : Heap) : RetC ts Q .ret ⟨T, H⟩ = RV ts T H [] Q := rfl
theorem s_RV_nil (T : Nat → AV) (H : Heap) (acc : List AV) (Q : AV → Heap → Prop) : RV [] T H acc Q = Q (tupOf acc) H := rfl
theorem s_RV_t (t : Nat) (r : List (Nat × Option (Option Nat))) (T : Nat → AV) (H : Heap) (acc : List AV) (Q : AV → Heap → Prop) : RV ((t, none) :: r) T H acc Q = RV1 (some (True, T t)) r T H acc Q := rfl
theorem s_RV_c (t : Nat) (sz : Option Nat) (r : List (Nat × Option (Option Nat))) (T : Nat → AV) (H : Heap) (acc : List AV) (Q : AV → Heap → Prop) : RV ((t, some sz) :: r) T H acc Q = RV1 (evK (.load sz) H [T t]) r T H acc Q := rfl
theorem s_RV1 (p : Prop) (v : AV) (ts : List (Nat × Option (Option Nat))) (T : Nat → AV) (H : Heap) (acc : List AV) (Q : AV → Heap → Prop) : RV1 (some (p, v)) ts T H acc Q = (p ∧ RV ts T H (acc ++ [v]) Q) := rfl
theorem CC.by_vcC {P : Program} {f n : Nat} {md : Md} {cc : CCode} {ts : List (Nat × Option (Option Nat))} (hf : FnOKc P f md n cc ts) {args : List AV} {H : Heap} {Q : AV → Heap → Prop} (ha : args.length ≤ n)
    (h : vc P cc ⟨argT args, H⟩ (RetC ts Q)) : CC P f args H Q := by
  obtain ⟨fn, c, h1, h2, h3, h4, h5⟩ := hf.ok
  subst h3
  intro M w vs g1 g2
  refine calls_of_wp h1 h2 ?_
  have hl := g1.length
  have ht : TRel fn.ntmps M (argT args) (vs.toArray ++ Array.replicate (fn.ntmps - vs.toArray.size) undef) := by
    refine ⟨by simp; omega, fun i hi => ?_⟩
    unfold argT
    cases e : args[i]? with
    | none => simp [VRel]
    | some a =>
      obtain ⟨v, hv, hr⟩ := g1.get e
      have hlt : i < vs.length := (List.getElem?_eq_some_iff.1 hv).1
      simp only [Option.getD_some, Array.getD_eq_getD_getElem?]
      rw [Array.getElem?_append_left (by simpa using hlt)]
      simp [hv, hr]
  refine wp_mono (vc_sound h5 h M _ w ht g2 rfl) fun e a' w' f => ?_
  obtain ⟨M', S', k1, k2, k3, k4, k5⟩ := f
  have hp : resVs S'.T S'.H ts [] (fun vs => Q (tupOf vs) S'.H) → a'.defers = [] ∧ ∃ v, (results fn a'.tmps).run P w' = .ok v w' ∧
      ∃ v' x M' H', Ending.returned v = .returned x ∧ VRel M' v' x ∧ Rel M' H' w' ∧ Fr M H w M' H' w' ∧ Q v' H' := by
    intro k6
    have hres : ∀ t ∈ ts, t.1 < fn.ntmps := fun t ht => by simpa using List.all_eq_true.1 hf.res t ht
    obtain ⟨us, xs, e1, e2, e3⟩ := resVs_rel (P := P) (a := a') k1 k2 (fun r => match r with | .tmp t => Sem.pure (a'.tmps.getD t undef) | .cell x t => do loadVar t (← asAddr (a'.tmps.getD x undef))) (fun _ => rfl) (fun x t ad had => by simp only [had]; rfl) _ _ h4 hres [] _ k6
    refine ⟨k3, tupX xs, ?_, _, _, M', S'.H, rfl, tupOf_rel e2, k2, k4, by simpa using e3⟩
    unfold results
    rw [← Array.toArray_toList (xs := fn.results)]
    rw [List.mapM_toArray, run_bind]
    have e4 : ∀ (X : Sem (List Value)), X.run P w' = .ok xs w' → (List.toArray <$> X : Sem (Array Value)).run P w' = .ok xs.toArray w' := by
      intro X hX
      show ((X >>= fun l => Sem.pure l.toArray) : Sem (Array Value)).run P w' = _
      rw [run_bind, hX]; rfl
    erw [e4 _ e1]
    show (Sem.pure _).run P w' = _
    simp only [Sem.run]
    match xs with
    | [] => rfl
    | [x] => rfl
    | x :: x' :: r => rfl
  cases e with
  | normal => exact hp k5
  | ret => exact hp k5
  | _ => exact k5.elim
theorem CP.by_vcC {P : Program} {f n : Nat} {md : Md} {cc : CCode} {ts : List (Nat × Option (Option Nat))} (hf : FnOKc P f md n cc ts) {args : List AV} {R : AV → Prop} (ha : args.length ≤ n)
    (h : vc P cc ⟨argT args, Heap.nil⟩ (RetC ts fun v _ => R v)) : CP P f args R := CC.by_vcC hf ha h
end Go.Sf

end
