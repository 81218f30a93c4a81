/- Steps at keys, as they come in: their abstract values. No function of the program is named here. -/
import Derived.Test.YtdpbbnnlbjgjgaaGreatLQ
import Derived.Test.YtdpbbnnlbjgjgaaGreatGQ
set_option linter.unusedVariables false
set_option linter.unusedSimpArgs false
namespace Go.Proofs.YtdpbbnnlbjgjgaaGreat
open Go.Sf
abbrev shKop : Sh := .pair shI (.pair shKey (.pair shI (.pair shI (.pair (.slice shI) .unit))))
/-- A step at a key. -/
structure KopT where
  kind : Int
  key : K3T
  f : Int
  v : Int
  l : List Int
def kopCs (o : KopT) : List AV := [.int .i64 o.kind, .int .i64 o.key.1, .int .i64 o.key.2.1, .int .i64 o.key.2.2, .int .i64 o.f, .int .i64 o.v, immI o.l]
def okKop (o : KopT) : Prop := okI o.kind ∧ okI o.f ∧ okI o.v ∧ o.l.length < 2 ^ 63 ∧ ∀ x ∈ o.l, okI x
theorem good_intl {g : List AV} (h : Sf.Good (.slice shI) g) : ∃ l : List Int, g = [immI l] ∧ l.length < 2 ^ 63 ∧ ∀ x ∈ l, okI x := by
  obtain ⟨gs, rfl, h1, h2⟩ := h
  obtain ⟨ns, e1, e2, e3⟩ := good_ints h2
  have m1 : IntKind.i64.min = -9223372036854775808 := rfl
  have m2 : IntKind.i64.max = 9223372036854775807 := rfl
  exact ⟨ns, by unfold immI intsV; rw [e1, e2], by omega, fun x hx => by have := e3 x hx; unfold okI; omega⟩
theorem good_kop {g : List AV} (h : Sf.Good shKop g) : ∃ o : KopT, g = kopCs o ∧ okKop o := by
  obtain ⟨x, y, rfl, h1, z, u, rfl, h2, q, r, rfl, h3, s, t, rfl, h4, p, o, rfl, h5, rfl⟩ := h
  obtain ⟨k, rfl, hk⟩ := good_int h1
  obtain ⟨a, b, c, rfl, ha, hb, hc⟩ := good_key h2
  obtain ⟨f, rfl, hf⟩ := good_int h3
  obtain ⟨v, rfl, hv⟩ := good_int h4
  obtain ⟨l, rfl, hl, hm⟩ := good_intl h5
  exact ⟨⟨k, (a, b, c), f, v, l⟩, rfl, hk, hf, hv, hl, hm⟩
theorem good_kops : ∀ {gs : List (List AV)}, (∀ g ∈ gs, Sf.Good shKop g) → ∃ os : List KopT, gs.flatten = os.flatMap kopCs ∧ gs.length = os.length ∧ ∀ o ∈ os, okKop o
  | [], _ => ⟨[], rfl, rfl, by simp⟩
  | g :: gs, h => by
    obtain ⟨o, rfl, ho⟩ := good_kop (h g (by simp))
    obtain ⟨os, h1, h2, h3⟩ := good_kops (gs := gs) fun g hg => h g (by simp [hg])
    refine ⟨o :: os, by simp [h1], by simp [h2], fun x hx => ?_⟩
    simp at hx
    rcases hx with rfl | hx
    · exact ho
    · exact h3 x hx
theorem kopCs_length (o : KopT) : (kopCs o).length = 7 := rfl
theorem kop_at {os : List KopT} {i : Nat} {o : KopT} (h : os[i]? = some o) : ((os.flatMap kopCs).drop (i * 7)).take 7 = kopCs o ∧ i * 7 + 7 ≤ (os.flatMap kopCs).length := fm_at kopCs_length h
theorem kop_get {os : List KopT} {i : Nat} {o : KopT} (h : os[i]? = some o) : (os.flatMap kopCs)[i * 7]? = some (.int .i64 o.kind) ∧ (os.flatMap kopCs)[i * 7 + 4]? = some (.int .i64 o.f) ∧ (os.flatMap kopCs)[i * 7 + 5]? = some (.int .i64 o.v) ∧ (os.flatMap kopCs)[i * 7 + 6]? = some (immI o.l) := by
  have g := fun j (hj : j < 7) => fm_get kopCs_length h hj
  exact ⟨g 0 (by omega), g 4 (by omega), g 5 (by omega), g 6 (by omega)⟩
theorem kop_key {os : List KopT} {i : Nat} {o : KopT} (h : os[i]? = some o) : ((os.flatMap kopCs).drop (i * 7 + 1)).take 3 = k3 o.key := by
  have h1 := (kop_at h).1
  have h2 := congrArg (fun l : List AV => (l.drop 1).take 3) h1
  simp only [List.drop_take, List.drop_drop, List.take_take] at h2
  exact h2
end Go.Proofs.YtdpbbnnlbjgjgaaGreat
