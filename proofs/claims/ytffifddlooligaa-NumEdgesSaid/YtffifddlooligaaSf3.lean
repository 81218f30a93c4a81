/- The framework's logic: code on abstract states; contracts; how pieces of code are put together. -/
import Derived.Test.YtffifddlooligaaSf2
import Derived.Deep.LoopGhost
set_option linter.unusedVariables false
set_option linter.unusedSimpArgs false
namespace Go.Sf

def Fin (n : Nat) (M : Mem) (H : Heap) (w : World) (Q : AS → Prop) (a' : Act) (w' : World) : Prop :=
  ∃ M' S', TRel n M' S'.T a'.tmps ∧ Rel M' S'.H w' ∧ a'.defers = [] ∧ Fr M H w M' S'.H w' ∧ Q S'
theorem Fin.mono {n : Nat} {M : Mem} {H : Heap} {w : World} {Q Q' : AS → Prop} (h : ∀ S, Q S → Q' S) {a' : Act} {w' : World} (f : Fin n M H w Q a' w') : Fin n M H w Q' a' w' :=
  let ⟨M', S', h1, h2, h3, h4, h5⟩ := f
  ⟨M', S', h1, h2, h3, h4, h _ h5⟩
theorem Fin.step {n : Nat} {M M1 : Mem} {H H1 : Heap} {w w1 : World} {Q : AS → Prop} (f : Fr M H w M1 H1 w1) {a' : Act} {w' : World} (k : Fin n M1 H1 w1 Q a' w') : Fin n M H w Q a' w' :=
  let ⟨M', S', h1, h2, h3, h4, h5⟩ := k
  ⟨M', S', h1, h2, h3, f.trans h4, h5⟩

/-- From every state that S stands for, the code comes to an end of which Q holds. -/
def CT (P : Program) (n : Nat) (c : Code) (S : AS) (Q : Exit → AS → Prop) : Prop :=
  ∀ M a w, TRel n M S.T a.tmps → Rel M S.H w → a.defers = [] → c.wp P (fun e => Fin n M S.H w (Q e)) a w

def thenQ (K : AS → Prop) (Q : Exit → AS → Prop) : Exit → AS → Prop
  | .normal, S => K S
  | e, S => Q e S
def inBlockQ (id : Nat) (Q : Exit → AS → Prop) : Exit → AS → Prop
  | .exit i, S => if i = id then Q .normal S else Q (.exit i) S
  | e, S => Q e S

theorem CT.mono {P : Program} {n : Nat} {c : Code} {S : AS} {Q Q' : Exit → AS → Prop} (h : CT P n c S Q) (k : ∀ e S, Q e S → Q' e S) : CT P n c S Q' :=
  fun M a w h1 h2 h3 => wp_mono (h M a w h1 h2 h3) fun e a w f => f.mono (k e)
theorem CT.skip {P : Program} {n : Nat} {S : AS} {Q : Exit → AS → Prop} (h : Q .normal S) : CT P n .skip S Q :=
  fun M a w h1 h2 h3 => wp_skip ⟨M, S, h1, h2, h3, .refl _ _ _, h⟩
theorem CT.exit {P : Program} {n id : Nat} {S : AS} {Q : Exit → AS → Prop} (h : Q (.exit id) S) : CT P n (.exit id) S Q :=
  fun M a w h1 h2 h3 => wp_exit ⟨M, S, h1, h2, h3, .refl _ _ _, h⟩
theorem CT.ret {P : Program} {n : Nat} {S : AS} {Q : Exit → AS → Prop} (h : Q .ret S) : CT P n .ret S Q :=
  fun M a w h1 h2 h3 => wp_ret ⟨M, S, h1, h2, h3, .refl _ _ _, h⟩
theorem CT.seq {P : Program} {n : Nat} {x y : Code} {S : AS} {Q : Exit → AS → Prop} (h : CT P n x S (thenQ (fun S' => CT P n y S' Q) Q)) : CT P n (.seq x y) S Q :=
  fun M a w h1 h2 h3 => wp_seq (wp_mono (h M a w h1 h2 h3) fun e a' w' f => by
    cases e with
    | normal =>
      obtain ⟨M', S', k1, k2, k3, k4, k5⟩ := f
      exact wp_mono (k5 M' a' w' k1 k2 k3) fun e a2 w2 f2 => f2.step k4
    | exit id => exact f
    | goto l => exact f
    | ret => exact f
    | panic ch => exact f
    | outgrown => exact f)
theorem CT.block {P : Program} {n id : Nat} {x : Code} {S : AS} {Q : Exit → AS → Prop} (h : CT P n x S (inBlockQ id Q)) : CT P n (.block id x) S Q :=
  fun M a w h1 h2 h3 => wp_block (wp_mono (h M a w h1 h2 h3) fun e a' w' f => by
    cases e with
    | exit i =>
      simp only [Exit.inBlock]
      by_cases hi : i = id
      · rw [if_pos hi]; exact f.mono fun S hS => by simpa only [inBlockQ, if_pos hi] using hS
      · rw [if_neg hi]; exact f.mono fun S hS => by simpa only [inBlockQ, if_neg hi] using hS
    | normal => exact f
    | goto l => exact f
    | ret => exact f
    | panic ch => exact f
    | outgrown => exact f)
theorem CT.cond {P : Program} {n : Nat} {c : Operand} {x y : Code} {S : AS} {Q : Exit → AS → Prop} {b : Bool}
    (hc : ∀ (M : Mem) (a : Act), TRel n M S.T a.tmps → a.eval c = Value.bool b) (h : CT P n (if b then x else y) S Q) : CT P n (.cond c x y) S Q :=
  fun M a w h1 h2 h3 => wp_cond (hc M a h1) (h M a w h1 h2 h3)
/-- A loop: an invariant that bears a number, which every round lowers. -/
theorem CT.loop {P : Program} {n : Nat} {c : Code} {S : AS} {Q : Exit → AS → Prop} (I : Nat → AS → Prop) (k₀ : Nat) (h₀ : I k₀ S)
    (round : ∀ k S, I k S → CT P n c S (thenQ (fun S' => ∃ k', k' < k ∧ I k' S') Q)) : CT P n (.loop c) S Q := by
  intro M a w h1 h2 h3
  refine wp_loop_ghost (fun k a' w' => Fin n M S.H w (I k) a' w') k₀ ⟨M, S, h1, h2, h3, .refl _ _ _, h₀⟩ ?_
  rintro k a' w' ⟨M', S', k1, k2, k3, k4, k5⟩
  refine wp_mono (round k S' k5 M' a' w' k1 k2 k3) fun e a2 w2 f => ?_
  cases e with
  | normal =>
    obtain ⟨M2, S2, l1, l2, l3, l4, k', hk, hI⟩ := f
    exact ⟨k', hk, M2, S2, l1, l2, l3, k4.trans l4, hI⟩
  | exit id => exact f.step k4
  | goto l => exact f.step k4
  | ret => exact f.step k4
  | panic ch => exact f.step k4
  | outgrown => exact f.step k4

/-- S' says no more than S. -/
def Weak (S S' : AS) : Prop := ∀ n M a w, TRel n M S.T a → Rel M S.H w → ∃ M', TRel n M' S'.T a ∧ Rel M' S'.H w ∧ Fr M S.H w M' S'.H w
theorem Weak.refl (S : AS) : Weak S S := fun n M a w h1 h2 => ⟨M, h1, h2, .refl _ _ _⟩
theorem CT.weak {P : Program} {n : Nat} {c : Code} {S S' : AS} {Q : Exit → AS → Prop} (h : Weak S S') (k : CT P n c S' Q) : CT P n c S Q := by
  intro M a w h1 h2 h3
  obtain ⟨M', k1, k2, k3⟩ := h n M _ w h1 h2
  exact wp_mono (k M' a w k1 k2 h3) fun e a w f => f.step k3

/-! ### Contracts -/
theorem CC.mono {P : Program} {f : FuncId} {args : List AV} {H : Heap} {Q Q' : AV → Heap → Prop} (h : CC P f args H Q) (k : ∀ v H', Q v H' → Q' v H') : CC P f args H Q' :=
  fun M w vs h1 h2 => (h M w vs h1 h2).mono fun e w' ⟨v, x, M', H', e1, e2, e3, e4, e5⟩ => ⟨v, x, M', H', e1, e2, e3, e4, k _ _ e5⟩
theorem CC.frame {P : Program} {f : FuncId} {args : List AV} {H H1 : Heap} {Q : AV → Heap → Prop} {Q' : AV → Heap → Prop} (h : CC P f args H1 Q) (hs : Sub H1 H)
    (k : ∀ v H1', Q v H1' → Q' v (Heap.over H H1 H1')) : CC P f args H Q' :=
  fun M w vs h1 h2 => (h M w vs h1 (h2.forget hs)).mono fun e w' ⟨v, x, M', H', e1, e2, e3, e4, e5⟩ =>
    ⟨v, x, M', Heap.over H H1 H', e1, e2, h2.over hs e4 e3, Fr.over hs e4, k _ _ e5⟩
/-- A contract of a function that writes nothing that was there, and of whose own memory nothing is kept but what its result holds for good. -/
def CP (P : Program) (f : FuncId) (args : List AV) (R : AV → Prop) : Prop := CC P f args Heap.nil fun v _ => R v
theorem Heap.over_nil_nil (H : Heap) : Heap.over H Heap.nil Heap.nil = H := by
  funext b
  unfold Heap.over
  simp only [Heap.nil]
  cases H b <;> rfl
theorem CC.forget {P : Program} {f : FuncId} {args : List AV} {H : Heap} {Q Q' : AV → Heap → Prop} (h : CC P f args H Q) (k : ∀ v H', Q v H' → ∃ H2, Sub H2 H' ∧ Q' v H2) : CC P f args H Q' :=
  fun M w vs h1 h2 => (h M w vs h1 h2).mono fun e w' ⟨v, x, M', H', e1, e2, e3, e4, e5⟩ => by
    obtain ⟨H2, k1, k2⟩ := k _ _ e5
    exact ⟨v, x, M', H2, e1, e2, e3.forget k1, e4.forget k1, k2⟩
theorem CP.use {P : Program} {f : FuncId} {args : List AV} {R : AV → Prop} (h : CP P f args R) {H : Heap} {K : AV → Heap → Prop} (k : ∀ v, R v → K v H) : CC P f args H K := by
  have h' : CC P f args Heap.nil (fun v H' => H' = Heap.nil ∧ R v) := CC.forget h fun v H' hv => ⟨Heap.nil, Sub.nil _, rfl, hv⟩
  exact h'.frame (Sub.nil H) fun v H1' ⟨e, hv⟩ => by subst e; rw [Heap.over_nil_nil]; exact k v hv
theorem CP.mono {P : Program} {f : FuncId} {args : List AV} {R R' : AV → Prop} (h : CP P f args R) (k : ∀ v, R v → R' v) : CP P f args R' := CC.mono h fun v _ => k v

def argT (args : List AV) : Nat → AV := fun i => (args[i]?).getD .any
def resAV (T : Nat → AV) : List Nat → AV
  | [t] => T t
  | ts => .tup (ts.map T)
def resTmps : List ResultVar → Option (List Nat)
  | [] => some []
  | .tmp t :: r => (resTmps r).map (t :: ·)
  | .cell _ _ :: _ => none

theorem results_run {P : Program} {fn : Func} {ts : List Nat} (hr : resTmps fn.results.toList = some ts) (tmps : Array Value) (w : World) :
    (results fn tmps).run P w = .ok (match ts.map (tmps.getD · undef) with | [x] => x | xs => .tuple xs.toArray) w := by
  have key : ∀ (g : ResultVar → Sem Value), (∀ t, g (.tmp t) = Sem.pure (tmps.getD t undef)) → ∀ (l : List ResultVar) (ts : List Nat), resTmps l = some ts →
      l.mapM (m := Sem) g = Sem.pure (ts.map (tmps.getD · undef)) := by
    intro g hg l
    induction l with
    | nil => intro ts h; simp only [resTmps, Option.some.injEq] at h; subst h; rfl
    | cons r l ih =>
      intro ts h
      cases r with
      | tmp t =>
        simp only [resTmps] at h
        cases hl : resTmps l with
        | none => simp [hl] at h
        | some ts' =>
          simp [hl] at h; subst h
          simp only [List.mapM_cons]
          rw [ih ts' hl, hg]; rfl
      | cell a t => simp [resTmps] at h
  unfold results
  rw [← Array.toArray_toList (xs := fn.results)] 
  rw [List.mapM_toArray]
  rw [key _ (fun _ => rfl) _ _ hr]
  match ts with
  | [] => rfl
  | [t] => rfl
  | t :: t' :: r => rfl

theorem VRels.map_range {n : Nat} {M : Mem} {T : Nat → AV} {tmps : Array Value} (r : TRel n M T tmps) : ∀ {ts : List Nat}, (∀ t ∈ ts, t < n) → VRels M (ts.map T) (ts.map (tmps.getD · undef))
  | [], _ => .nil
  | t :: ts, h => .cons (r.2 t (h t (by simp))) (VRels.map_range r fun t' ht => h t' (by simp [ht]))

theorem resAV_rel {n : Nat} {M : Mem} {T : Nat → AV} {tmps : Array Value} (r : TRel n M T tmps) {ts : List Nat} (h : ∀ t ∈ ts, t < n) :
    VRel M (resAV T ts) (match ts.map (tmps.getD · undef) with | [x] => x | xs => .tuple xs.toArray) := by
  have := VRels.map_range r h
  match ts, h, this with
  | [], h, k => simp only [resAV, List.map_nil, VRel]; exact ⟨#[], rfl, .nil⟩
  | [t], h, k => exact r.2 t (h t (by simp))
  | t :: t' :: ts, h, k =>
    show VRel M (AV.tup ((t :: t' :: ts).map T)) (.tuple ((t :: t' :: ts).map (tmps.getD · undef)).toArray)
    simp only [VRel]
    exact ⟨_, rfl, by simpa using k⟩

/-- A function's contract, out of its body. -/
theorem CC.of_body {P : Program} {f : FuncId} {fn : Func} {c : Code} {ts : List Nat} {args : List AV} {H : Heap} {Q : AV → Heap → Prop}
    (hf : P.funcs[f]? = some fn) (hb : fn.body = some c) (hr : resTmps fn.results.toList = some ts) (hts : ∀ t ∈ ts, t < fn.ntmps) (ha : args.length ≤ fn.ntmps)
    (h : CT P fn.ntmps c ⟨argT args, H⟩ (fun e S => (e = .normal ∨ e = .ret) ∧ Q (resAV S.T ts) S.H)) : CC P f args H Q := by
  intro M w vs h1 h2
  refine calls_of_wp hf hb ?_
  have hl := h1.length
  have ht : TRel fn.ntmps M (argT args) (vs.toArray ++ Array.replicate (fn.ntmps - vs.toArray.size) undef) := by
    refine ⟨by simp; omega, fun i hi => ?_⟩
    unfold argT
    cases e : args[i]? with
    | none => simp [VRel]
    | some a =>
      obtain ⟨v, hv, hr⟩ := h1.get e
      have hlt : i < vs.length := (List.getElem?_eq_some_iff.1 hv).1
      simp only [Option.getD_some, Array.getD_eq_getD_getElem?]
      rw [Array.getElem?_append_left (by simpa using hlt)]
      simp [hv, hr]
  refine wp_mono (h M _ w ht h2 rfl) fun e a' w' f => ?_
  obtain ⟨M', S', k1, k2, k3, k4, k5, k6⟩ := f
  have hp : a'.defers = [] ∧ ∃ v, (results fn a'.tmps).run P w' = .ok v w' ∧
      ∃ v' x M' H', Ending.returned v = .returned x ∧ VRel M' v' x ∧ Rel M' H' w' ∧ Fr M H w M' H' w' ∧ Q v' H' :=
    ⟨k3, _, results_run hr _ _, _, _, M', S'.H, rfl, resAV_rel k1 hts, k2, k4, k6⟩
  rcases k5 with rfl | rfl
  · exact hp
  · exact hp
end Go.Sf
