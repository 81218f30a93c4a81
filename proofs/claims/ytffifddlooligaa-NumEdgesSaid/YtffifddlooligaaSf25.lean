/- Functions of which a result lies in a cell of its own. -/
import Derived.Test.YtffifddlooligaaSf24
set_option linter.unusedVariables false
set_option linter.unusedSimpArgs false
namespace Go.Sf

/-- Where the results lie: temporaries, and cells that temporaries point at. -/
def resC (P : Program) : List ResultVar → Option (List (Nat × Option (Option Nat)))
  | [] => some []
  | .tmp t :: r => (resC P r).map ((t, none) :: ·)
  | .cell a t :: r => match szT P t, resC P r with
    | some sz, some l => some ((a, some sz) :: l)
    | _, _ => none
def ldV (t : Nat) (sz : Option (Option Nat)) (T : Nat → AV) (H : Heap) : Option (Prop × AV) :=
  match sz with
  | none => some (True, T t)
  | some sz => evK (.load sz) H [T t]
def resVs (T : Nat → AV) (H : Heap) : List (Nat × Option (Option Nat)) → List AV → (List AV → Prop) → Prop
  | [], acc, K => K acc
  | (t, sz) :: r, acc, K => match ldV t sz T H with
    | some (p, v) => p ∧ resVs T H r (acc ++ [v]) K
    | none => False
theorem load_ptr {M : Mem} {sz : Option Nat} {H : Heap} {a : AV} {x : Value} {q : Prop × AV} (e : evK (.load sz) H [a] = some q) (h : VRel M a x) : ∃ ad, x = .pointer (some ad) := by
  cases a <;> cases sz <;> simp only [evK, reduceCtorEq] at e <;> simp only [VRel] at h
  · exact ⟨_, h⟩
  · exact ⟨_, h⟩
  · obtain ⟨b, o, vs, h, _⟩ := h; exact ⟨_, h⟩
  · obtain ⟨b, o, vs, h, _⟩ := h; exact ⟨_, h⟩
theorem resVs_rel {P : Program} {n : Nat} {M : Mem} {T : Nat → AV} {H : Heap} {w : World} {a : Act} (ht : TRel n M T a.tmps) (r : Rel M H w) (g : ResultVar → Sem Value) (hg1 : ∀ t, g (.tmp t) = Sem.pure (a.tmps.getD t undef)) (hg2 : ∀ x t ad, a.tmps.getD x undef = .pointer (some ad) → g (.cell x t) = Instr.loadAt t (a.tmps.getD x undef)) :
    ∀ (l : List ResultVar) (ts : List (Nat × Option (Option Nat))), resC P l = some ts → (∀ t ∈ ts, t.1 < n) → ∀ (acc : List AV) (K : List AV → Prop), resVs T H ts acc K →
      ∃ vs xs, (l.mapM (m := Sem) g).run P w = .ok xs w ∧ VRels M vs xs ∧ K (acc ++ vs)
  | [], ts, e, hts, acc, K, h => by
    simp only [resC, Option.some.injEq] at e; subst e
    exact ⟨[], [], rfl, .nil, by simpa [resVs] using h⟩
  | .tmp t :: l, ts, e, hts, acc, K, h => by
    simp only [resC, Option.map_eq_some_iff] at e
    obtain ⟨ts', e1, rfl⟩ := e
    simp only [resVs, ldV] at h
    obtain ⟨vs, xs, h1, h2, h3⟩ := resVs_rel ht r g hg1 hg2 l ts' e1 (fun t ht => hts t (by simp [ht])) _ K h.2
    refine ⟨T t :: vs, a.tmps.getD t undef :: xs, ?_, .cons (ht.2 t (hts (t, none) (by simp))) h2, by simpa using h3⟩
    simp only [List.mapM_cons]
    rw [run_bind, hg1]
    show (_ : Result _) = _
    simp only [Sem.run]
    rw [run_bind, h1]; rfl
  | .cell x t :: l, ts, e, hts, acc, K, h => by
    simp only [resC] at e
    split at e
    · rename_i sz ts' e0 e1
      cases e
      simp only [resVs, ldV] at h
      split at h
      · rename_i p v hev
        obtain ⟨hp, h⟩ := h
        obtain ⟨vs, xs, h1, h2, h3⟩ := resVs_rel ht r g hg1 hg2 l ts' e1 (fun t ht => hts t (by simp [ht])) _ K h
        obtain ⟨y, h4, h5⟩ := load_sound (P := P) r (ht.2 x (hts (x, some sz) (by simp))) (szT_spec e0) hev hp
        refine ⟨v :: vs, y :: xs, ?_, .cons h5 h2, by simpa using h3⟩
        simp only [List.mapM_cons]
        obtain ⟨ad, had⟩ := load_ptr hev (ht.2 x (hts (x, some sz) (by simp)))
        rw [run_bind, hg2 x t ad had, h4]
        show (_ : Result _) = _
        simp only
        rw [run_bind, h1]; rfl
      · exact h.elim
    · cases e
def tupOf : List AV → AV
  | [v] => v
  | vs => .tup vs
def tupX : List Value → Value
  | [x] => x
  | xs => .tuple xs.toArray
theorem tupOf_rel {M : Mem} {vs : List AV} {xs : List Value} (h : VRels M vs xs) : VRel M (tupOf vs) (tupX xs) := by
  match vs, xs, h with
  | [], xs, h => simp only [VRels] at h; subst h; simp only [tupOf, VRel]; exact ⟨#[], rfl, .nil⟩
  | [v], xs, h =>
    simp only [VRels] at h
    obtain ⟨x, xs', rfl, h1, rfl⟩ := h
    exact h1
  | v :: v' :: vs, xs, h =>
    have hl := h.length
    match xs, h with
    | [], h => simp at hl
    | [_], h => simp at hl
    | x :: x' :: xs, h =>
      show VRel M (AV.tup _) (.tuple _)
      simp only [VRel]
      exact ⟨_, rfl, by simpa using h⟩
structure FnOKc (P : Program) (f : Nat) (md : Md) (n : Nat) (cc : CCode) (ts : List (Nat × Option (Option Nat))) : Prop where
  ok : ∃ fn c, P.funcs[f]? = some fn ∧ fn.body = some c ∧ fn.ntmps = n ∧ resC P fn.results.toList = some ts ∧ trC P n md c = some cc
  res : ts.all (·.1 < n) = true
def RetC (ts : List (Nat × Option (Option Nat))) (Q : AV → Heap → Prop) : Exit → AS → Prop
  | .normal, S => resVs S.T S.H ts [] fun vs => Q (tupOf vs) S.H
  | .ret, S => resVs S.T S.H ts [] fun vs => Q (tupOf vs) S.H
  | _, _ => False
def RV (ts : List (Nat × Option (Option Nat))) (T : Nat → AV) (H : Heap) (acc : List AV) (Q : AV → Heap → Prop) : Prop := resVs T H ts acc fun vs => Q (tupOf vs) H
def RV1 (e : Option (Prop × AV)) (ts : List (Nat × Option (Option Nat))) (T : Nat → AV) (H : Heap) (acc : List AV) (Q : AV → Heap → Prop) : Prop := match e with | some (p, v) => p ∧ RV ts T H (acc ++ [v]) Q | none => False
theorem s_retc_n (ts : List (Nat × Option (Option Nat))) (Q : AV → Heap → Prop) (T : Nat → AV) (H : Heap) : RetC ts Q .normal ⟨T, H⟩ = RV ts T H [] Q := rfl
theorem s_retc_r (ts : List (Nat × Option (Option Nat))) (Q : AV → Heap → Prop) (T : Nat → AV) (H : Heap) : RetC ts Q .ret ⟨T, H⟩ = RV ts T H [] Q := rfl
theorem s_RV_nil (T : Nat → AV) (H : Heap) (acc : List AV) (Q : AV → Heap → Prop) : RV [] T H acc Q = Q (tupOf acc) H := rfl
theorem s_RV_t (t : Nat) (r : List (Nat × Option (Option Nat))) (T : Nat → AV) (H : Heap) (acc : List AV) (Q : AV → Heap → Prop) : RV ((t, none) :: r) T H acc Q = RV1 (some (True, T t)) r T H acc Q := rfl
theorem s_RV_c (t : Nat) (sz : Option Nat) (r : List (Nat × Option (Option Nat))) (T : Nat → AV) (H : Heap) (acc : List AV) (Q : AV → Heap → Prop) : RV ((t, some sz) :: r) T H acc Q = RV1 (evK (.load sz) H [T t]) r T H acc Q := rfl
theorem s_RV1 (p : Prop) (v : AV) (ts : List (Nat × Option (Option Nat))) (T : Nat → AV) (H : Heap) (acc : List AV) (Q : AV → Heap → Prop) : RV1 (some (p, v)) ts T H acc Q = (p ∧ RV ts T H (acc ++ [v]) Q) := rfl
theorem CC.by_vcC {P : Program} {f n : Nat} {md : Md} {cc : CCode} {ts : List (Nat × Option (Option Nat))} (hf : FnOKc P f md n cc ts) {args : List AV} {H : Heap} {Q : AV → Heap → Prop} (ha : args.length ≤ n)
    (h : vc P cc ⟨argT args, H⟩ (RetC ts Q)) : CC P f args H Q := by
  obtain ⟨fn, c, h1, h2, h3, h4, h5⟩ := hf.ok
  subst h3
  intro M w vs g1 g2
  refine calls_of_wp h1 h2 ?_
  have hl := g1.length
  have ht : TRel fn.ntmps M (argT args) (vs.toArray ++ Array.replicate (fn.ntmps - vs.toArray.size) undef) := by
    refine ⟨by simp; omega, fun i hi => ?_⟩
    unfold argT
    cases e : args[i]? with
    | none => simp [VRel]
    | some a =>
      obtain ⟨v, hv, hr⟩ := g1.get e
      have hlt : i < vs.length := (List.getElem?_eq_some_iff.1 hv).1
      simp only [Option.getD_some, Array.getD_eq_getD_getElem?]
      rw [Array.getElem?_append_left (by simpa using hlt)]
      simp [hv, hr]
  refine wp_mono (vc_sound h5 h M _ w ht g2 rfl) fun e a' w' f => ?_
  obtain ⟨M', S', k1, k2, k3, k4, k5⟩ := f
  have hp : resVs S'.T S'.H ts [] (fun vs => Q (tupOf vs) S'.H) → a'.defers = [] ∧ ∃ v, (results fn a'.tmps).run P w' = .ok v w' ∧
      ∃ v' x M' H', Ending.returned v = .returned x ∧ VRel M' v' x ∧ Rel M' H' w' ∧ Fr M H w M' H' w' ∧ Q v' H' := by
    intro k6
    have hres : ∀ t ∈ ts, t.1 < fn.ntmps := fun t ht => by simpa using List.all_eq_true.1 hf.res t ht
    obtain ⟨us, xs, e1, e2, e3⟩ := resVs_rel (P := P) (a := a') k1 k2 (fun r => match r with | .tmp t => Sem.pure (a'.tmps.getD t undef) | .cell x t => do loadVar t (← asAddr (a'.tmps.getD x undef))) (fun _ => rfl) (fun x t ad had => by simp only [had]; rfl) _ _ h4 hres [] _ k6
    refine ⟨k3, tupX xs, ?_, _, _, M', S'.H, rfl, tupOf_rel e2, k2, k4, by simpa using e3⟩
    unfold results
    rw [← Array.toArray_toList (xs := fn.results)]
    rw [List.mapM_toArray, run_bind]
    have e4 : ∀ (X : Sem (List Value)), X.run P w' = .ok xs w' → (List.toArray <$> X : Sem (Array Value)).run P w' = .ok xs.toArray w' := by
      intro X hX
      show ((X >>= fun l => Sem.pure l.toArray) : Sem (Array Value)).run P w' = _
      rw [run_bind, hX]; rfl
    erw [e4 _ e1]
    show (Sem.pure _).run P w' = _
    simp only [Sem.run]
    match xs with
    | [] => rfl
    | [x] => rfl
    | x :: x' :: r => rfl
  cases e with
  | normal => exact hp k5
  | ret => exact hp k5
  | _ => exact k5.elim
theorem CP.by_vcC {P : Program} {f n : Nat} {md : Md} {cc : CCode} {ts : List (Nat × Option (Option Nat))} (hf : FnOKc P f md n cc ts) {args : List AV} {R : AV → Prop} (ha : args.length ≤ n)
    (h : vc P cc ⟨argT args, Heap.nil⟩ (RetC ts fun v _ => R v)) : CP P f args R := CC.by_vcC hf ha h
end Go.Sf
