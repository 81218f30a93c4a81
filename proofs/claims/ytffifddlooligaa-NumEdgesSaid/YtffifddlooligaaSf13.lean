/- The framework's worlds: what the built-in append does. -/
import Derived.Test.YtffifddlooligaaSf12
import Derived.Laws.Append
set_option linter.unusedVariables false
set_option linter.unusedSimpArgs false
namespace Go.Sf

theorem run_ask (P : Program) (n : Nat) (w : World) : (askRoom n).run P w = .ok () w := by unfold askRoom; split <;> rfl
theorem run_appendCap (P : Program) (need old : Nat) (e : TypeId) (w : World) : (choose (.appendCap need old e)).run P w = .ok (need + w.tape w.drawn (.appendCap need old e) % (2 ^ 63 - need)) { w with drawn := w.drawn + 1 } := by
  simp only [choose, Sem.run, Question.forced, Question.cut, Bool.false_eq_true, if_false]
theorem run_newRow (P : Program) (e : TypeId) (c : Array Value) (w : World) : (newRow e c).run P w = .ok ⟨w.heap.size, 0, none⟩ (wpush w (.cells c e (0, 0))) := rfl
/-- An element type that an append takes. -/
structure ElemOK (P : Program) (e : TypeId) (sz bytes : Nat) (z : Value) : Prop where
  info : ∃ i, P.info? e = some i ∧ i.size = sz ∧ i.bytes = bytes ∧ i.zero = some z
  cells : z.cells.size = sz
  sz : 0 < sz
  bytes : 0 < bytes
def notInt : TypeDesc → Bool
  | .int _ => false
  | _ => true
theorem run_append_grow {P : Program} {w : World} {t t2 ty e : TypeId} {sz bytes : Nat} {z : Value} (ht : P.underlying t = some (.slice e)) (h2 : (∃ e2, P.underlying t2 = some (.slice e2)) ∨ P.underlying t2 = some .string) (he : ElemOK P e sz bytes z)
    {A : Option Addr} {sLen sCap n : Nat} {x : Value} {olds xs : List Value} (hn : (Builtin.lenOf x) = Sem.pure n) (hold : ∀ d, (Builtin.firstCells sz sLen (.slice A sLen sCap)).run P { w with drawn := d } = .ok olds.toArray { w with drawn := d })
    (hnew : ∀ d, (Builtin.firstCells sz n x).run P { w with drawn := d } = .ok xs.toArray { w with drawn := d }) (hcap : sCap < sLen + n) (hb : (sLen + n) * bytes ≤ 140737488355328) :
    ∃ cap' rest d, sLen + n ≤ cap' ∧ rest.length = (cap' - (sLen + n)) * sz ∧
      (Builtin.append_ #[t, t2] ty #[.slice A sLen sCap, x]).run P w = .ok (.slice (some ⟨w.heap.size, 0, none⟩) (sLen + n) cap') (wpush { w with drawn := d } (.cells (olds ++ xs ++ rest).toArray e (0, 0))) := by
  obtain ⟨i, hi, hsz, hby, hz⟩ := he.info
  have hbp := he.bytes
  refine ⟨sLen + n + w.tape w.drawn (.appendCap (sLen + n) sCap e) % (2 ^ 63 - (sLen + n)), (Builtin.zeroCells z.cells (w.tape w.drawn (.appendCap (sLen + n) sCap e) % (2 ^ 63 - (sLen + n)))).toList, w.drawn + 1, by omega, ?_, ?_⟩
  · simp [Builtin.zeroCells, he.cells]
  · have hg : ¬ (Builtin.nextslicecap (sLen + n) sCap * bytes > 2 ^ 48) := by have := growslice_fits hcap hb; omega
    unfold Builtin.append_
    rcases h2 with ⟨e2, h2⟩ | h2
    all_goals simp only [List.getElem?_toArray, List.getElem?_cons_zero, List.getElem?_cons_succ, run_bind, run_underlying ht, run_sizeOf hi, run_underlying h2, run_pure, run_pure', hn, hsz]
    all_goals simp only [Bool.false_eq_true, if_false, run_bind, run_pure', if_neg (show ¬ sLen + n ≤ sCap by omega), run_typeInfo hi, hby, false_or, if_neg (show ¬ (((sLen + n : Nat) : Int) > IntKind.i64.max ∧ bytes = 0) by omega), if_neg hg, run_appendCap, run_ask, hold, hnew, run_zeroValue hi hz, run_newRow, run_pure, Bool.not_false, if_true]
    all_goals congr 3
    all_goals rw [show sLen + n + w.tape w.drawn (.appendCap (sLen + n) sCap e) % (2 ^ 63 - (sLen + n)) - (sLen + n) = w.tape w.drawn (.appendCap (sLen + n) sCap e) % (2 ^ 63 - (sLen + n)) by omega]
    all_goals apply Array.toList_inj.1
    all_goals simp
theorem run_append_fits {P : Program} {w : World} {t t2 ty e : TypeId} {sz bytes : Nat} {z : Value} (ht : P.underlying t = some (.slice e)) (h2 : (∃ e2, P.underlying t2 = some (.slice e2)) ∨ P.underlying t2 = some .string) (he : ElemOK P e sz bytes z)
    {A : Option Addr} {sLen sCap n : Nat} {x : Value} {xs : List Value} (hn : (Builtin.lenOf x) = Sem.pure n)
    (hnew : (Builtin.firstCells sz n x).run P w = .ok xs.toArray w) (hcap : sLen + n ≤ sCap) {w' : World} (hst : match A with | some a => (storeCells (a.add (sLen * sz)) xs).run P w = .ok () w' | none => w' = w) :
      (Builtin.append_ #[t, t2] ty #[.slice A sLen sCap, x]).run P w = .ok (.slice A (sLen + n) sCap) w' := by
  obtain ⟨i, hi, hsz, hby, hz⟩ := he.info
  unfold Builtin.append_
  rcases h2 with ⟨e2, h2⟩ | h2
  all_goals simp only [List.getElem?_toArray, List.getElem?_cons_zero, List.getElem?_cons_succ, run_bind, run_underlying ht, run_sizeOf hi, run_underlying h2, run_pure, run_pure', hn, hsz]
  all_goals simp only [Bool.false_eq_true, if_false, run_bind, run_pure', if_pos hcap, hnew, Bool.not_false, if_true]
  all_goals cases A with
  | none => simp only at hst; subst hst; rfl
  | some a => simp only at hst; simp only [run_bind, hst, run_pure]
end Go.Sf
