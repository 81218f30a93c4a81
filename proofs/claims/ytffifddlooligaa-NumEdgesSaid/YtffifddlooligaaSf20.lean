/- Regions whose order is open: one walk in the text's order serves every order. -/
import Derived.Test.YtffifddlooligaaSf19
import Derived.StillTail
set_option linter.unusedVariables false
set_option linter.unusedSimpArgs false
namespace Go.Sf

/-- Operations that make or call and leave the heap as it is. -/
def vcQE (P : Program) (k : EK) (xs : List AV) (H : Heap) (K : AV → Prop) : Prop :=
  match k, xs with
  | .call f, xs => ∃ v, CP P f xs (fun u => u = v) ∧ K v
  | .callv, .fn (.func f) [] captured :: xs => callB P f = true ∧ ∃ v, CP P f (xs ++ captured) (fun u => u = v) ∧ K v
  | .bslice true zero ps len, xs => xs.all AV.known = true ∧ match fillC zero ps xs with
    | some cs => K (.imm cs len (some len))
    | none => False
  | .s2b, [.str s] => K (.imm (s.data.toList.map byteV) s.size none)
  | .append true sz bytes, [s, x] => match appOld H sz s, cellsOf H sz x, lenOf s, lenOf x with
    | some (old, none), some new, some n, some m => new.all AV.one = true ∧ (n + m) * bytes ≤ 140737488355328 ∧ K (.imm (old ++ new) (n + m) none)
    | _, _, _, _ => False
  | _, _ => False
theorem vcQE_spec {P : Program} {k : EK} {xs : List AV} {H : Heap} {K : AV → Prop} (h : vcQE P k xs H K) : ∃ v, K v ∧ ∀ (d : Option Nat) (T : Nat → AV), vcE P k xs d ⟨T, H⟩ fun S' => S'.H = H ∧ ∀ t, d = some t → S'.T t = v := by
  have hput : ∀ (v : AV) (d : Option Nat) (T : Nat → AV) (t : Nat), d = some t → put T d v t = v := by
    intro v d T t h; subst h; simp [put, tset]
  unfold vcQE at h
  split at h
  · obtain ⟨v, h1, h2⟩ := h
    exact ⟨v, h2, fun d T => by simp only [vcE]; exact CP.use h1 fun u hu => ⟨rfl, fun t ht => by subst hu; exact hput _ d T t ht⟩⟩
  · obtain ⟨hb, v, h1, h2⟩ := h
    exact ⟨v, h2, fun d T => by simp only [vcE]; exact ⟨hb, CP.use h1 fun u hu => ⟨rfl, fun t ht => by subst hu; exact hput _ d T t ht⟩⟩⟩
  · obtain ⟨hk, h⟩ := h
    split at h
    · rename_i cs hcs
      exact ⟨_, h, fun d T => by simp only [vcE, hcs, if_true]; exact ⟨hk, (by first | trivial | rfl), fun t ht => hput _ d T t ht⟩⟩
    · exact h.elim
  · exact ⟨_, h, fun d T => by simp only [vcE]; exact ⟨(by first | trivial | rfl), fun t ht => hput _ d T t ht⟩⟩
  · split at h
    · rename_i old new n m e1 e2 e3 e4
      obtain ⟨h1, h2, h3⟩ := h
      refine ⟨_, h3, fun d T => ?_⟩
      simp only [vcE, e1, e2, e3, e4, if_true, Heap.less]
      exact ⟨h1, h2, (by first | trivial | rfl), fun t ht => hput _ d T t ht⟩
    · exact h.elim
  · exact h.elim
def vcQ1 (P : Program) (H : Heap) (o : CO) (T : Nat → AV) (K : AV → Prop) : Prop :=
  match o.g with
  | none => match o.op with
    | .e k xs => (getAll xs T).1 ∧ vcQE P k (getAll xs T).2 H K
    | op => match evP op T H with
      | some (p, v) => p ∧ K v
      | none => False
  | some (t, want) => match gw want (T t) with
    | some c => (match o.op with
      | .e k xs => ∃ v, (c = true → (getAll xs T).1 ∧ vcQE P k (getAll xs T).2 H (fun u => u = v)) ∧ K (.gd c v)
      | op => match evP op T H with
        | some (p, v) => (c = true → p) ∧ K (.gd c v)
        | none => c = false ∧ K (.tup []))
    | none => False
def vcQ (P : Program) (H : Heap) : List CO → (Nat → AV) → ((Nat → AV) → Prop) → Prop
  | [], T, K => K T
  | o :: l, T, K => vcQ1 P H o T fun v => vcQ P H l (put T o.dst v) K

/-- In a state T, whatever the world, the operation yields what v stands for, and leaves the heap as it is. -/
def QV (P : Program) (n : Nat) (ops : Array Oper) (o : Oper) (H : Heap) (T : Nat → AV) (v : AV) : Prop :=
  ∀ M a w, (∀ t ∈ o.looksAt ops, t < n → VRel M (T t) (a.tmps.getD t undef)) → a.tmps.size = n → Rel M H w → a.defers = [] →
    if Region.wanted o (yielded ops a.tmps) then ∀ Q, o.wp P a w (fun a' w' => ∃ M', (∀ d, o.dst = some d → d < n → VRel M' v (a'.tmps.getD d undef)) ∧ (∃ x, a'.tmps = (a.put o.dst x).tmps) ∧ a'.defers = [] ∧ Rel M' H w' ∧ Fr M H w M' H w') Q
    else VRel M v undef
theorem QV.congr {P : Program} {n : Nat} {ops : Array Oper} {o : Oper} {H : Heap} {T T' : Nat → AV} {v : AV} (h : QV P n ops o H T v) (e : ∀ t ∈ o.looksAt ops, T' t = T t) : QV P n ops o H T' v :=
  fun M a w h1 h2 h3 h4 => h M a w (fun t ht hn => by rw [← e t ht]; exact h1 t ht hn) h2 h3 h4
theorem put_other {T : Nat → AV} {d : Option Nat} {v : AV} {t : Nat} (h : d ≠ some t) : put T d v t = T t := by
  cases d with
  | none => rfl
  | some d => simp only [put, tset]; rw [if_neg (fun e => h (by rw [e]))]
theorem put_comm' {T : Nat → AV} {x y : Option Nat} (v u : AV) (h : ∀ d, x = some d → y ≠ some d) : put (put T x v) y u = put (put T y u) x v := by
  funext t
  by_cases hx : x = some t
  · have hy : y ≠ some t := h t hx
    rw [put_other hy]
    subst hx; simp [put, tset]
  · rw [put_other hx]
    by_cases hy : y = some t
    · subst hy; simp [put, tset]
    · rw [put_other hy, put_other hy, put_other hx]
/-- What an operation leaves is the frame with one value put. -/
theorem wp_put {P : Program} {o : Oper} {a : Act} {w : World} {K : Act → World → Prop} {Q : Exit → Act → World → Prop} (h : o.wp P a w K Q) : o.wp P a w (fun a' w' => K a' w' ∧ ∃ x, a'.tmps = (a.put o.dst x).tmps) Q := by
  unfold Oper.wp at *
  generalize (execOp a.eval o).run P w = r at *
  cases r with
  | ok n w' =>
    cases n <;> simp only [Oper.upon] at h ⊢
    case value v => exact ⟨h, v, rfl⟩
    case skip => exact ⟨h, undef, rfl⟩
    case defer d => exact ⟨h, undef, by cases o.dst <;> rfl⟩
    case enter f args => exact h.mono fun e w'' he => by cases e <;> first | exact ⟨he, _, rfl⟩ | exact he
    case row f args => exact h.mono fun v w'' he => ⟨he, v, rfl⟩
  | halt x w' => cases x <;> simp only [Oper.upon] at h ⊢ <;> exact h
section
variable {P : Program} {n : Nat} {md : Nat → Bool} {ops : Array Oper} {H : Heap}

/-- The temporaries that an operation looks at, kept; the others forgotten. -/
def keepT (ts : List Nat) (T : Nat → AV) : Nat → AV := fun t => if t ∈ ts then T t else .any
theorem keepT_rel {M : Mem} {T : Nat → AV} {a : Act} {ts : List Nat} (h : ∀ t ∈ ts, t < n → VRel M (T t) (a.tmps.getD t undef)) (hn : a.tmps.size = n) : TRel n M (keepT ts T) a.tmps := by
  refine ⟨hn, fun i hi => ?_⟩
  unfold keepT
  split
  · rename_i hm; exact h i hm hi
  · simp only [VRel]
theorem cx_keep {x : Operand} {c : CX} (h : trX n x = some c) {ts : List Nat} (hm : ∀ t, x = .tmp t → t ∈ ts) (T : Nat → AV) : c.ev (keepT ts T) = c.ev T := by
  cases x with
  | tmp t =>
    simp only [trX] at h
    split at h
    · cases h; simp only [CX.ev, keepT]; rw [if_pos (hm t rfl)]
    · cases h
  | const v => simp only [trX] at h; cases h; rfl
  | func f => simp only [trX] at h; cases h; rfl
  | global g => simp [trX] at h
theorem cxs_keep : ∀ {xs : List Operand} {cs : List CX}, trXs n xs = some cs → ∀ {ts : List Nat}, (∀ t, Operand.tmp t ∈ xs → t ∈ ts) → ∀ T, getAll cs (keepT ts T) = getAll cs T
  | [], cs, h, ts, hm, T => by simp only [trXs] at h; cases h; rfl
  | x :: xs, cs, h, ts, hm, T => by
    simp only [trXs] at h
    split at h
    · rename_i c cs' e1 e2
      cases h
      have h1 := cx_keep e1 (ts := ts) (fun t ht => hm t (by rw [ht]; simp)) T
      have h2 := cxs_keep e2 (ts := ts) (fun t ht => hm t (by simp [ht])) T
      simp only [getAll, Prod.mk.injEq] at h2 ⊢
      simp only [List.foldr_cons, List.map_cons, h1, h2.1, h2.2]
      exact ⟨trivial, trivial⟩
    · cases h
theorem trK_operands {o : Op} {k : PK} {xs : List Operand} (e : trK P o = some (k, xs)) : ∀ x ∈ xs, x ∈ o.operands.toList := by
  cases o <;> simp only [trK, reduceCtorEq] at e
  case move x => cases e; intro y hy; simpa [Op.operands] using hy
  case assign x => cases e; intro y hy; simpa [Op.operands] using hy
  case load t a => simp only [Option.map_eq_some_iff, Prod.mk.injEq] at e; obtain ⟨_, _, _, rfl⟩ := e; intro y hy; simpa [Op.operands] using hy
  case nilCheck x => cases e; intro y hy; simpa [Op.operands] using hy
  case binOp op t x y yt => simp only [Option.map_eq_some_iff, Prod.mk.injEq] at e; obtain ⟨_, _, _, rfl⟩ := e; intro y hy; simpa [Op.operands] using hy
  case unOp op t x => cases e; intro y hy; simpa [Op.operands] using hy
  case convert src dst x => simp only [Option.map_eq_some_iff, Prod.mk.injEq] at e; obtain ⟨_, _, _, rfl⟩ := e; intro y hy; simpa [Op.operands] using hy
  case makeFunc fn first captured => cases e; intro y hy; simpa [Op.operands] using hy
  case slice t x lo hi mx =>
    split at e
    · split at e
      · cases e
      · simp only [Option.map_eq_some_iff, Prod.mk.injEq] at e
        obtain ⟨_, _, _, rfl⟩ := e
        intro y hy
        cases lo <;> cases hi <;> cases mx <;> simpa [Op.operands] using hy
    · split at e
      · cases e
      · rename_i hmx
        cases e
        intro y hy
        cases lo <;> cases hi <;> cases mx <;> simp [Op.operands] at hy hmx ⊢ <;> simp [hy]
    · cases e
  case fieldAddr s x f =>
    split at e
    · split at e
      · split at e
        · cases e; intro y hy; simpa [Op.operands] using hy
        · cases e
      · cases e
    · cases e
  case field s x f =>
    split at e
    · split at e
      · simp only [Option.map_eq_some_iff, Prod.mk.injEq] at e; obtain ⟨_, _, _, rfl⟩ := e; intro y hy; simpa [Op.operands] using hy
      · cases e
    · cases e
  case indexAddr t x i =>
    split at e
    · simp only [Option.map_eq_some_iff, Prod.mk.injEq] at e; obtain ⟨_, _, _, rfl⟩ := e; intro y hy; simpa [Op.operands] using hy
    · simp only [Option.map_eq_some_iff, Prod.mk.injEq] at e; obtain ⟨_, _, _, rfl⟩ := e; intro y hy; simpa [Op.operands] using hy
    · cases e
  case index t x i =>
    split at e
    · cases e; intro y hy; simpa [Op.operands] using hy
    · cases e
  case extract x i => cases e; intro y hy; simpa [Op.operands] using hy
  case lookup t m k ok =>
    split at e
    · split at e
      · cases e; intro y hy; simpa [Op.operands] using hy
      · cases e
    · cases e
  case build t parts =>
    simp only [Option.map_eq_some_iff, Prod.mk.injEq] at e; obtain ⟨_, _, _, rfl⟩ := e; intro y hy; simpa [Op.operands] using hy
  case call c =>
    obtain ⟨callee, args, ts⟩ := c
    cases callee with
    | value f => simp at e
    | invoke _ _ => simp at e
    | builtin b =>
      cases b <;> simp only [reduceCtorEq] at e
      case len =>
        split at e
        · rename_i x t ha ht
          simp only [Option.map_eq_some_iff, Prod.mk.injEq] at e; obtain ⟨_, _, _, rfl⟩ := e
          intro y hy
          simp only [Op.operands, Call.operands, Array.toList_append, List.mem_append]
          right; rw [ha]; exact hy
        · cases e
      case cap =>
        split at e
        · rename_i x t ha ht
          split at e
          · cases e
            intro y hy
            simp only [Op.operands, Call.operands, Array.toList_append, List.mem_append]
            right; rw [ha]; exact hy
          · cases e
        · cases e
      case min => cases e; intro y hy; simp only [Op.operands, Call.operands, Array.toList_append, List.mem_append]; exact .inr hy
      case max => cases e; intro y hy; simp only [Op.operands, Call.operands, Array.toList_append, List.mem_append]; exact .inr hy
theorem trE_operands {mt : Bool} {o : Op} {k : EK} {xs : List Operand} (e : trE P n mt o = some (k, xs)) : ∀ x ∈ xs, x ∈ o.operands.toList := by
  cases o <;> simp only [trE, reduceCtorEq] at e
  case alloc el => simp only [Option.map_eq_some_iff, Prod.mk.injEq] at e; obtain ⟨_, _, _, rfl⟩ := e; intro y hy; cases hy
  case box el x => cases e; intro y hy; simpa [Op.operands] using hy
  case buildSlice t len parts =>
    split at e
    · split at e
      · split at e
        · cases e; intro y hy; simpa [Op.operands] using hy
        · cases e
      · cases e
    · cases e
  case store t x y =>
    simp only [Option.bind_eq_some_iff] at e
    obtain ⟨sz, hs, kk, hk, e⟩ := e
    split at e
    · cases e; intro y hy; simpa [Op.operands] using hy
    · cases e
  case convert src dst x =>
    split at e
    · split at e
      · cases e; intro y hy; simpa [Op.operands] using hy
      · cases e
    · split at e
      · split at e
        · cases e; intro y hy; simpa [Op.operands] using hy
        · cases e
      · cases e
    · cases e
  case makeSlice t l c =>
    split at e
    · split at e
      · cases e; intro y hy; simpa [Op.operands] using hy
      · cases e
    · cases e
  case makeMap t r =>
    cases r with
    | some _ => simp at e
    | none => simp only [Option.some.injEq, Prod.mk.injEq] at e; obtain ⟨_, rfl⟩ := e; intro y hy; cases hy
  case mapUpdate t m k x =>
    split at e
    · simp only [Option.map_eq_some_iff, Prod.mk.injEq] at e; obtain ⟨_, _, _, rfl⟩ := e; intro y hy; simpa [Op.operands] using hy
    · cases e
  case call c =>
    obtain ⟨callee, args, ts⟩ := c
    cases callee with
    | invoke _ _ => simp at e
    | value f =>
      cases f with
      | func f =>
        simp only at e
        split at e
        · cases e; intro y hy; simp only [Op.operands, Call.operands, Array.toList_append, List.mem_append]; exact .inr hy
        · cases e
      | tmp t =>
        simp only [Option.some.injEq, Prod.mk.injEq] at e
        obtain ⟨_, rfl⟩ := e
        intro y hy
        simp only [Op.operands, Call.operands, Array.toList_append, List.mem_append]
        rcases List.mem_cons.1 hy with rfl | hy
        · left; simp
        · exact .inr hy
      | const _ => simp at e
      | global _ => simp at e
    | builtin b =>
      cases b <;> simp only [reduceCtorEq] at e
      case delete =>
        split at e
        · rename_i m k t ha hts
          split at e
          · simp only [Option.map_eq_some_iff, Prod.mk.injEq] at e; obtain ⟨_, _, _, rfl⟩ := e
            intro y hy; simp only [Op.operands, Call.operands, Array.toList_append, List.mem_append]; right; rw [ha]; exact hy
          · cases e
        · cases e
      case append =>
        split at e
        · rename_i s x t t2 ha hts
          split at e
          · split at e
            · cases e; intro y hy; simp only [Op.operands, Call.operands, Array.toList_append, List.mem_append]; right; rw [ha]; exact hy
            · cases e
          · split at e
            · cases e; intro y hy; simp only [Op.operands, Call.operands, Array.toList_append, List.mem_append]; right; rw [ha]; exact hy
            · cases e
          · cases e
        · cases e
theorem mem_looks {o : Oper} {t : Nat} (h : Operand.tmp t ∈ o.op.operands.toList) : t ∈ o.looksAt ops :=
  List.mem_append_left _ (List.mem_filterMap.2 ⟨.tmp t, h, rfl⟩)
theorem evP_keep {o : Oper} {c : COp} (e : trP P n o.op = some c) (T : Nat → AV) : evP c (keepT (o.looksAt ops) T) H = evP c T H := by
  unfold trP at e
  split at e
  · rename_i cc ca cb hop
    split at e
    · rename_i c1 c2 c3 e1 e2 e3
      cases e
      have hm : ∀ x, x = cc ∨ x = ca ∨ x = cb → ∀ t, x = Operand.tmp t → t ∈ o.looksAt ops := by
        intro x hx t ht
        refine mem_looks ?_
        rw [hop, ← ht]
        rcases hx with rfl | rfl | rfl <;> simp [Op.operands]
      simp only [evP, cx_keep e1 (hm cc (.inl rfl)), cx_keep e2 (hm ca (.inr (.inl rfl))), cx_keep e3 (hm cb (.inr (.inr rfl)))]
    · cases e
  · split at e
    · rename_i k xs hk
      simp only [Option.map_eq_some_iff] at e
      obtain ⟨cs, hcs, rfl⟩ := e
      simp only [evP, cxs_keep hcs (fun t ht => mem_looks (trK_operands hk _ ht))]
    · cases e
/-- What the walk in the text's order shows of one operation. -/
theorem vcQ1_QV {o : Oper} {co : CO} (e : trCO P n md ops o = some co) {T : Nat → AV} {K : AV → Prop} (h : vcQ1 P H co T K) : ∃ v, QV P n ops o H T v ∧ K v := by
  unfold trCO at e
  split at e
  · rename_i g c hg hc
    split at e
    · rename_i hsd
      cases e
      -- an operation that is carried out
      have pure_ok : ∀ {p : Prop} {v : AV}, (∀ k xs, c ≠ .e k xs) → evP c T H = some (p, v) → p → ∀ (M : Mem) (a : Act) (w : World), TRel n M (keepT (o.looksAt ops) T) a.tmps → Rel M H w → GivesOp P M w (execOp a.eval o) v := by
        intro p v hne hev hp M a w ht hr
        have hpp : trP P n o.op = some c := by
          unfold trOp at hc
          split at hc
          · rename_i h; cases hc; exact h
          · split at hc
            · simp only [Option.map_eq_some_iff] at hc
              obtain ⟨cs, _, rfl⟩ := hc
              exact absurd rfl (hne _ _)
            · cases hc
              exact absurd rfl (hne _ _)
        exact trP_sound hpp ht hr (by rw [evP_keep hpp]; exact hev) hp
      have eff_ok : ∀ {k : EK} {xs : List CX} {v : AV}, c = .e k xs → (getAll xs T).1 → (∀ (d : Option Nat) (T' : Nat → AV), vcE P k (getAll xs T).2 d ⟨T', H⟩ fun S' => S'.H = H ∧ ∀ t, d = some t → S'.T t = v) →
          ∀ (M : Mem) (a : Act) (w : World), TRel n M (keepT (o.looksAt ops) T) a.tmps → Rel M H w → a.defers = [] → ∀ Q, o.wp P a w (fun a' w' => Fin n M H w (fun S' => S'.H = H ∧ ∀ t, o.dst = some t → S'.T t = v) a' w' ∧ ∃ x, a'.tmps = (a.put o.dst x).tmps) Q := by
        rintro k xs v rfl hga hv M a w ht hr hd Q
        refine wp_put ?_
        have htE : trP P n o.op = none ∧ ∃ xs', trE P n ((o.dst.map md).getD false) o.op = some (k, xs') ∧ trXs n xs' = some xs := by
          unfold trOp at hc
          split at hc
          · rename_i hp
            cases hc
            exfalso
            unfold trP at hp
            split at hp
            · split at hp <;> simp at hp
            · split at hp
              · simp at hp
              · cases hp
          · rename_i hp
            split at hc
            · rename_i k' xs' he
              simp only [Option.map_eq_some_iff] at hc
              obtain ⟨cs, hcs, hkk⟩ := hc
              cases hkk
              exact ⟨hp, xs', he, hcs⟩
            · cases hc
              have := hv none T
              simp only [vcE] at this
        obtain ⟨_, xs', he, hcs⟩ := htE
        have hkp := cxs_keep hcs (ts := o.looksAt ops) (fun t ht => mem_looks (trE_operands he _ ht)) T
        exact trE_sound (S := ⟨keepT (o.looksAt ops) T, H⟩) he (fun ⟨t, x, y, hop⟩ => by
          unfold storeDst at hsd
          rw [hop] at hsd
          simpa using hsd) ht hr hd (trXs_rel hcs ht (by rw [hkp]; exact hga)) (by rw [hkp]; exact hv _ _)
      have fin_ok : ∀ {v : AV} {M : Mem} {a : Act} {w : World}, a.tmps.size = n → ∀ a' w', (Fin n M H w (fun S' => S'.H = H ∧ ∀ t, o.dst = some t → S'.T t = v) a' w' ∧ ∃ x, a'.tmps = (a.put o.dst x).tmps) →
          ∃ M', (∀ d, o.dst = some d → d < n → VRel M' v (a'.tmps.getD d undef)) ∧ (∃ x, a'.tmps = (a.put o.dst x).tmps) ∧ a'.defers = [] ∧ Rel M' H w' ∧ Fr M H w M' H w' := by
        rintro v M a w hn a' w' ⟨⟨M', S', k1, k2, k3, k4, k5, k6⟩, hx⟩
        rw [k5] at k2 k4
        exact ⟨M', fun d hd hdn => by rw [← k6 d hd]; exact k1.2 d hdn, hx, k3, k2, k4⟩
      have giv_ok : ∀ {v : AV} {M : Mem} {a : Act} {w : World}, a.tmps.size = n → Rel M H w → a.defers = [] → GivesOp P M w (execOp a.eval o) v → ∀ Q, o.wp P a w (fun a' w' => ∃ M', (∀ d, o.dst = some d → d < n → VRel M' v (a'.tmps.getD d undef)) ∧ (∃ x, a'.tmps = (a.put o.dst x).tmps) ∧ a'.defers = [] ∧ Rel M' H w' ∧ Fr M H w M' H w') Q := by
        rintro v M a w hn hr hd ⟨x, h1, h2⟩ Q
        unfold Oper.wp
        rw [h1]
        refine ⟨M, fun d hdd hdn => ?_, ⟨x, rfl⟩, put_defers hd _ _, hr, .refl _ _ _⟩
        rw [hdd]
        simp only [Act.put, Array.getD_eq_getD_getElem?, Array.getElem?_setIfInBounds, if_true]
        rw [if_pos (by rw [hn]; exact hdn)]
        exact h2
      unfold vcQ1 at h
      simp only at h
      cases hgo : o.guard with
      | none =>
        rw [hgo] at hg
        simp only [trG, Option.some.injEq] at hg; subst hg
        have hw : ∀ tmps, Region.wanted o (yielded ops tmps) = true := fun tmps => by unfold Region.wanted; rw [hgo]
        simp only at h
        split at h
        · rename_i k xs
          obtain ⟨v, hK, hv⟩ := vcQE_spec h.2
          refine ⟨v, fun M a w h1 h2 h3 h4 => ?_, hK⟩
          rw [if_pos (hw _)]
          intro Q
          exact Oper.wp_mono (fin_ok h2) (eff_ok rfl h.1 hv M a w (keepT_rel h1 h2) h3 h4 Q)
        · rename_i hne
          split at h
          · rename_i p v hev
            refine ⟨v, fun M a w h1 h2 h3 h4 => ?_, h.2⟩
            rw [if_pos (hw _)]
            exact giv_ok h2 h3 h4 (pure_ok hne hev h.1 M a w (keepT_rel h1 h2) h3)
          · exact h.elim
      | some jw =>
        obtain ⟨j, want⟩ := jw
        rw [hgo] at hg
        simp only [trG] at hg
        split at hg
        · rename_i t htj
          split at hg
          · rename_i htn
            simp only [Option.some.injEq] at hg; subst hg
            simp only at h
            split at h
            · rename_i c0 hu
              have htl : t ∈ o.looksAt ops := by
                unfold Oper.looksAt
                rw [hgo]
                refine List.mem_append_right _ ?_
                simp only [htj]; simp
              have hw : ∀ (M : Mem) (a : Act), (∀ t ∈ o.looksAt ops, t < n → VRel M (T t) (a.tmps.getD t undef)) → a.tmps.size = n → Region.wanted o (yielded ops a.tmps) = c0 := by
                intro M a h1 h2
                unfold Region.wanted
                rw [hgo]
                simp only [yielded_get htj (by rw [h2]; exact htn)]
                exact gw_rel (h1 t htl htn) hu
              have gd_ok : ∀ {v : AV} {M : Mem} {a : Act} {w : World} {Q : Exit → Act → World → Prop},
                  o.wp P a w (fun a' w' => ∃ M', (∀ d, o.dst = some d → d < n → VRel M' v (a'.tmps.getD d undef)) ∧ (∃ x, a'.tmps = (a.put o.dst x).tmps) ∧ a'.defers = [] ∧ Rel M' H w' ∧ Fr M H w M' H w') Q →
                  o.wp P a w (fun a' w' => ∃ M', (∀ d, o.dst = some d → d < n → VRel M' (.gd true v) (a'.tmps.getD d undef)) ∧ (∃ x, a'.tmps = (a.put o.dst x).tmps) ∧ a'.defers = [] ∧ Rel M' H w' ∧ Fr M H w M' H w') Q := by
                intro v M a w Q hh
                refine Oper.wp_mono (fun a' w' ⟨M', k1, k2⟩ => ⟨M', fun d hd hdn => ?_, k2⟩) hh
                simp only [VRel]
                exact ⟨fun _ => k1 d hd hdn, fun h => by cases h⟩
              have gd_no : ∀ (M : Mem) (v : AV), VRel M (.gd false v) undef := fun M v => by simp only [VRel]; exact ⟨(fun h => by cases h), fun _ => trivial⟩
              split at h
              · rename_i k xs
                obtain ⟨v, h1, hK⟩ := h
                refine ⟨_, fun M a w g1 g2 g3 g4 => ?_, hK⟩
                rw [hw M a g1 g2]
                cases c0 with
                | true =>
                  rw [if_pos rfl]
                  intro Q
                  obtain ⟨h2, h3⟩ := h1 rfl
                  obtain ⟨v', rfl, hv⟩ := vcQE_spec h3
                  exact gd_ok (Oper.wp_mono (fin_ok g2) (eff_ok rfl h2 hv M a w (keepT_rel g1 g2) g3 g4 Q))
                | false =>
                  rw [if_neg (by simp)]
                  exact gd_no _ _
              · rename_i hne
                split at h
                · rename_i p v hev
                  refine ⟨_, fun M a w g1 g2 g3 g4 => ?_, h.2⟩
                  rw [hw M a g1 g2]
                  cases c0 with
                  | true =>
                    rw [if_pos rfl]
                    intro Q
                    exact gd_ok (giv_ok g2 g3 g4 (pure_ok hne hev (h.1 rfl) M a w (keepT_rel g1 g2) g3) Q)
                  | false =>
                    rw [if_neg (by simp)]
                    exact gd_no _ _
                · refine ⟨_, fun M a w g1 g2 g3 g4 => ?_, h.2⟩
                  rw [hw M a g1 g2, h.1, if_neg (by simp)]
                  exact rel_undef _
            · exact h.elim
          · cases hg
        · cases hg
    · cases e
  · cases e
end
end Go.Sf
