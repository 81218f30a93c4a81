/- The law DiskSynced returns true at every input, and leaves its arguments as they were: no condition. -/
import Derived.Test.YtffifddlooligaaRows
import Derived.WalkKit
import Derived.ProofKit
import Derived.OpenShut
import Derived.ShutString
import Derived.ChangeOld
import Derived.Below
import Derived.Test.YtffifddlooligaaIO
import Derived.Test.YtffifddlooligaaM7
namespace Go.Proofs.Ytffifddlooligaa.diskSyncedDone
open Go.ChangeShapes Go.WideShapes Go.ChangeAt Go.RowKit Go.Sf
open Go.ChangeMaps (open_string shut_string)
set_option linter.unusedVariables false
set_option linter.unusedSimpArgs false
theorem own : ownKnob Try.prog.godebug = none := by kernel_rfl
theorem laidOut : laidOutB Try.prog = true := by kernel_rfl
theorem walk (v0 : Value) (g0 : List (List AV)) (v1 : Value) (g1 : List (List AV)) (a2 : Int) (w : World) (n0 : g0.length < 2 ^ 63) (s0 : ∀ g ∈ g0, Go.Sf.Good (.pair (.int .i64) (.pair .str (.pair (.slice (.int .u8)) (.pair (.int .i64) (.pair (.int .i64) .unit))))) g) (rv0 : VRel (memOf w) (.imm g0.flatten g0.length none) v0) (n1 : g1.length < 2 ^ 63) (s1 : ∀ g ∈ g1, Go.Sf.Good (.pair (.int .i64) (.pair .str (.pair (.slice (.int .u8)) (.pair (.int .i64) (.pair (.int .i64) .unit))))) g) (rv1 : VRel (memOf w) (.imm g1.flatten g1.length none) v1) (w2 : (Lit.int .i64 a2).wf = true) :
    Calls Try.prog 21 #[v0, v1, .int .i64 a2] w fun e w' => e = .returned (.bool true) ∧ Below w.heap.size w w' := by
  obtain ⟨l0, e0, q0, m0⟩ := good_ops s0
  rw [e0, q0] at rv0
  rw [q0] at n0
  obtain ⟨l1, e1, q1, m1⟩ := good_ops s1
  rw [e1, q1] at rv1
  rw [q1] at n1
  have b2 := wf_bounds w2
  exact law_of (p_DiskSynced l0 n0 m0 l1 n1 m1 a2 b2.1 b2.2) (.cons rv0 (.cons rv1 (.cons (by simp only [VRel]) .nil)))
set_option maxRecDepth 100000 in
theorem lifted (os : Os) (started : os.Started) (H : Type) (enc : TypeId × Value → H) :
    ReturnsInHanded {} Try.checked os 21 .any (Rows.diskSyncedSpec.pre6 enc Try.prog Try.f21 Rows.diskSyncedRow.domain false) (Rows.diskSyncedSpec.post enc Try.prog Try.f21 false true false false) := by
  refine returnsInHanded_of_change (C := Try.checked) own started (by kernel_rfl) Try.func21
    (ChangeSpec.witness6 (enc := enc) (C := Try.checked) false ⟨#[], #[.slice none 0 0, .slice none 0 0, .int .i64 0], []⟩ 8 (by kernel_rfl) (by kernel_rfl) (by kernel_rfl) (by kernel_rfl)) ?_
  intro W base args ds gs before hval0 hW hcnd _
  have hval : ∀ (j : Nat) t v, Try.f21.params[j]? = some t → args[j]? = some v → Value.okWide Try.prog W .any base t v := hval0
  have hW' := hW
  obtain ⟨p, q, hA0, hV, rfl, hfz, hnd⟩ := hW
  have hA : DataW.TrodAll enc Try.prog W 0 (fun _ => true) true Try.f21.params.toList args.toList ds p := hA0
  rw [Try.params21] at hA hval
  obtain ⟨v0, vs0, d0, ds0, p0, q0, hargs, rfl, rfl, h0, r0⟩ := trodAll_cons hA
  obtain ⟨v1, vs1, d1, ds1, p1, q1, rfl, rfl, rfl, h1, r1⟩ := trodAll_cons r0
  obtain ⟨v2, vs2, d2, ds2, p2, q2, rfl, rfl, rfl, h2, r2⟩ := trodAll_cons r1
  obtain ⟨rfl, rfl, rfl⟩ := trodAll_nil r2
  obtain rfl : args = #[v0, v1, v2] := by cases args; simp_all
  obtain ⟨rfl, rfl⟩ := trodVars_none hV
  have k0 := h0
  have lt0 : ∀ x ∈ p0, x.block < W.heap.size := by obtain ⟨m, hm⟩ := k0; exact DataW.trod_lt m _ _ _ hm
  obtain ⟨g0, n0, s0, rv0⟩ := open_sl (sh := (.pair (.int .i64) (.pair .str (.pair (.slice (.int .u8)) (.pair (.int .i64) (.pair (.int .i64) .unit)))))) (by kernel_rfl) Try.underlying67 (hval 0 67 v0 rfl rfl) h0
  have k1 := h1
  have lt1 : ∀ x ∈ p1, x.block < W.heap.size := by obtain ⟨m, hm⟩ := k1; exact DataW.trod_lt m _ _ _ hm
  obtain ⟨g1, n1, s1, rv1⟩ := open_sl (sh := (.pair (.int .i64) (.pair .str (.pair (.slice (.int .u8)) (.pair (.int .i64) (.pair (.int .i64) .unit)))))) (by kernel_rfl) Try.underlying67 (hval 1 67 v1 rfl rfl) h1
  obtain ⟨a2, rfl, rfl, rfl, w2⟩ := open_int Try.underlying3 (hval 2 3 v2 rfl rfl) h2
  clear hA0 hval0
  refine (walk v0 g0 v1 g1 a2 W n0 s0 rv0 n1 s1 rv1 w2).mono fun e W' ⟨he, bel⟩ => ?_
  subst he
  exact ⟨_, rfl, _, _, _, [], _, [], hW', trodAll_mk1 (shut_bool Try.underlying4 _), (trodAll_cons_mk (Below.trod laidOut (by kernel_rfl) (of_decide_eq_true (by kernel_rfl)) k0 bel lt0) (trodAll_cons_mk (Below.trod laidOut (by kernel_rfl) (of_decide_eq_true (by kernel_rfl)) k1 bel lt1) (trodAll_cons_mk (shut_int Try.underlying3 w2) trodAll_mk0))), rfl, bel.frame _, fun h => by cases h⟩
theorem closed : joinedFacts Try.prog 21 Try.f21 Rows.diskSyncedSpec Rows.diskSyncedRow = true := by
  unfold joinedFacts
  rw [Head.mayEnter, Head.liftsFinal, Head.make]
  kernel_rfl
theorem over : Rows.diskSyncedRow.holds Try.pinned (OpenSpec.ofChange Rows.diskSyncedSpec) :=
  OpenClaim.holds_of_wide 21 Try.f21 rfl rfl rfl rfl rfl rfl rfl ⟨rfl, rfl, rfl, rfl, rfl⟩ rfl rfl rfl rfl rfl (by kernel_rfl) Try.func21 closed
    (of_decide_eq_true (by kernel_rfl)) (by unfold Func.isWrapper; first | (rw [if_pos (by decide +kernel)]; kernel_rfl) | (rw [if_neg (by decide +kernel)]; exact ⟨rfl, rfl⟩))
    (fun os started H enc _ => lifted os started H enc)
theorem proved : Rows.DiskSyncedSaid := over
#print axioms proved
end Go.Proofs.Ytffifddlooligaa.diskSyncedDone
