/- The document's changes, read: what its reader finds is what the program's finds. -/
import Derived.Test.YtffifddlooligaaLM
set_option linter.unusedVariables false
set_option linter.unusedSimpArgs false
set_option maxRecDepth 100000
namespace Go.Proofs.Ytffifddlooligaa
open Go.Sf
attribute [local simp] s_skip s_ops s_draw s_any s_contA s_tdone s_ttwo s_top_p s_top_pick s_top_e s_top_g s_seq s_cond s_block s_loop s_exit s_ret s_mark s_then_n s_then_e s_then_r s_in_n s_in_e s_in_r s_contC s_contO s_contQ s_contT s_nil s_cons_p s_cons_pick s_cons_e s_cons_g s_qnil s_qcons_p s_qcons_pick s_qcons_e s_qcons_g s_M s_Mg s_Mq s_Mqg s_G_p s_G_pick s_G_e s_Gq_p s_Gq_pick s_Gq_e s_if s_call s_callv s_qcall s_qcallv s_getAll_nil s_getAll_cons s_put_some s_put_none s_ev_t s_ev_c s_ev_f un evP evK argT resAV lenOf_nils lenOf_imm lenOf_sl lenOf_str optI slcV binV isShift binInt binStr shiftInt pickV unV s_append s_alloc s_box s_bslice s_Bs_t s_Bs_f s_store1 s_storeN s_St1 s_St s_s2b s_markb s_Mk s_mkslice s_qbslice s_qs2b s_ret_n s_ret_r s_retc_n s_retc_r s_RV_nil s_RV_t s_RV_c s_RV1 tupOf fillC kn_int cl_int on_int kn_bool cl_bool on_bool kn_str cl_str on_str kn_nilp cl_nilp on_nilp kn_ptr cl_ptr on_ptr kn_iptr cl_iptr on_iptr kn_nils cl_nils on_nils kn_sl cl_sl on_sl kn_imm cl_imm on_imm kn_mp cl_mp on_mp kn_nilm cl_nilm on_nilm kn_fn cl_fn on_fn kn_nilf cl_nilf on_nilf kn_agg cl_agg scalEq flatEq eqV s_copy_i s_copy_s s_Cp s_clr s_clrn s_Cl s_appz s_Az s_ext s_Ov s_mkmap s_mset s_mdel mapOf s_Mg_n s_Mqg_n s_gw_b s_gw_u s_gw_gb s_gw_f
def sN (n : Nat) : Int := if 255 < n then -1 else n
theorem smallR_ok {l : List UInt8} {a n t : Nat} (h : num (l.drop a) = (n, t, 0)) : smallR l a 0 = (sN n, a + t, 0) := by
  unfold smallR sN; simp [h]
theorem smallR_bad {l : List UInt8} {a n t e : Nat} (h : num (l.drop a) = (n, t, e)) (he : e ≠ 0) : smallR l a 0 = (-1, a, e) := by
  have h2 := (num_bad (l := l.drop a) (by rw [h]; exact he)).2
  rw [h] at h2
  simp only at h2
  unfold smallR; simp [h, he, h2]
theorem smallR_err {l : List UInt8} {a e : Nat} (he : e ≠ 0) : smallR l a e = (-1, a, e) := by
  unfold smallR; simp [he]
theorem sN_clip (n : Nat) : sN n = (clipN n : Int) ∨ (sN n = -1 ∧ 255 < (clipN n : Int)) := by
  unfold sN clipN
  split <;> split <;> omega
theorem fieldsK_clip (n : Nat) : fieldsK (sN n) = decide (clipN n = 5 ∨ clipN n = 6) := by
  unfold fieldsK
  rw [Bool.eq_iff_iff]
  simp
  rcases sN_clip n with h | h <;> omega
theorem fieldsK_clip' (n : Nat) : fieldsK (sN n) = fieldsK (clipN n) := by
  unfold fieldsK
  rw [Bool.eq_iff_iff]
  simp
  rcases sN_clip n with h | h <;> omega
theorem valuesK_clip (n : Nat) : valuesK (sN n) = valuesK (clipN n) := by
  unfold valuesK
  rw [Bool.eq_iff_iff]
  simp
  rcases sN_clip n with h | h <;> omega
theorem chk_eq {a1 a2 a3 a4 b1 b2 b3 b4 f f' v : Int} (a : Nat) (h1 : a1 = b1 ∨ (a1 = -1 ∧ 255 < b1)) (h2 : a2 = b2 ∨ (a2 = -1 ∧ 255 < b2)) (h3 : a3 = b3 ∨ (a3 = -1 ∧ 255 < b3)) (h4 : a4 = b4 ∨ (a4 = -1 ∧ 255 < b4)) (h5 : f = f' ∨ (f = -1 ∧ 255 < f')) :
    chkM ⟨b1, b2, b3, b4, f', v⟩ a = if mayM ⟨a1, a2, a3, a4, f, v⟩ then (⟨a1, a2, a3, a4, f, v⟩, a, 0) else (zeroM, 0, 1) := by
  by_cases h : a1 = b1 ∧ a2 = b2 ∧ a3 = b3 ∧ a4 = b4 ∧ f = f'
  · obtain ⟨rfl, rfl, rfl, rfl, rfl⟩ := h; rfl
  · have A : mayM ⟨a1, a2, a3, a4, f, v⟩ = false := by
      cases hm : mayM ⟨a1, a2, a3, a4, f, v⟩ with
      | false => rfl
      | true =>
        have := mayM_nat hm
        simp only at this
        omega
    have B : mayM ⟨b1, b2, b3, b4, f', v⟩ = false := by
      cases hm : mayM ⟨b1, b2, b3, b4, f', v⟩ with
      | false => rfl
      | true =>
        have := mayM_nat hm
        simp only at this
        omega
    unfold chkM
    rw [A, B]; simp
theorem wantN_cons (n : Nat) (vs : List Nat) : wantN (clipN n :: vs) = if fieldsK (sN n) then 5 else 4 := by
  rw [fieldsK_clip]; simp [wantN]
theorem rGo_eq (l : List UInt8) : rGo l 5 [] 0 = getMutL l := by
  have hv : ∀ (x : Nat) (vs : List Nat) (a : Nat) (s2 s3 s4 f : Int), (s2 = (vs.getD 0 0 : Nat) ∨ (s2 = -1 ∧ 255 < ((vs.getD 0 0 : Nat) : Int))) → (s3 = (vs.getD 1 0 : Nat) ∨ (s3 = -1 ∧ 255 < ((vs.getD 1 0 : Nat) : Int))) →
      (s4 = (vs.getD 2 0 : Nat) ∨ (s4 = -1 ∧ 255 < ((vs.getD 2 0 : Nat) : Int))) → (f = (vs.getD 3 0 : Nat) ∨ (f = -1 ∧ 255 < ((vs.getD 3 0 : Nat) : Int))) →
      finM l (clipN x :: vs) a = (let v : Int × Nat × Nat := if valuesK (sN x) ∧ (0 : Nat) = 0 then (zag (num (l.drop a)).1, a + (num (l.drop a)).2.1, (num (l.drop a)).2.2) else (0, a, 0)
        if v.2.2 ≠ 0 then (zeroM, 0, v.2.2) else if mayM ⟨sN x, s2, s3, s4, f, v.1⟩ then (⟨sN x, s2, s3, s4, f, v.1⟩, v.2.1, 0) else (zeroM, 0, 1)) := by
    intro x vs a s2 s3 s4 f h2 h3 h4 h5
    unfold finM
    simp only [List.getD_cons_zero, List.getD_cons_succ]
    rw [← valuesK_clip]
    cases hV : valuesK (sN x) with
    | false =>
      simp only [Bool.false_eq_true, if_false, false_and]
      rw [chk_eq a (sN_clip x) h2 h3 h4 h5]
      simp
    | true =>
      simp only [if_true, true_and]
      by_cases he : (num (l.drop a)).2.2 = 0
      · simp only [he, ne_eq, not_true_eq_false, if_false]
        rw [chk_eq _ (sN_clip x) h2 h3 h4 h5]
      · simp [he]
  obtain ⟨⟨n1, t1, e1⟩, h1⟩ : ∃ r, num (l.drop 0) = r := ⟨_, rfl⟩
  simp only [rGo, h1, wantN, List.length_nil, List.nil_append, List.length_append, List.length_cons]
  by_cases E1 : e1 = 0
  rotate_left
  · have q1 := smallR_bad h1 E1
    unfold getMutL
    simp only [q1, smallR_err E1]
    simp [E1, fieldsK, valuesK]
  subst E1
  have q1 := smallR_ok h1
  simp only [Nat.zero_add] at q1
  obtain ⟨⟨n2, t2, e2⟩, h2⟩ : ∃ r, num (l.drop t1) = r := ⟨_, rfl⟩
  simp [wantN_cons, h2]
  rw [if_neg (by split <;> omega)]
  by_cases E2 : e2 = 0
  rotate_left
  · have q2 := smallR_bad h2 E2
    unfold getMutL
    simp only [q1, q2, smallR_err E2]
    cases fieldsK (sN n1) <;> simp [E2]
  subst E2
  have q2 := smallR_ok h2
  obtain ⟨⟨n3, t3, e3⟩, h3⟩ : ∃ r, num (l.drop (t1 + t2)) = r := ⟨_, rfl⟩
  simp [wantN_cons, h3]
  rw [if_neg (by split <;> omega)]
  by_cases E3 : e3 = 0
  rotate_left
  · have q3 := smallR_bad h3 E3
    unfold getMutL
    simp only [q1, q2, q3, smallR_err E3]
    cases fieldsK (sN n1) <;> simp [E3]
  subst E3
  have q3 := smallR_ok h3
  obtain ⟨⟨n4, t4, e4⟩, h4⟩ : ∃ r, num (l.drop (t1 + t2 + t3)) = r := ⟨_, rfl⟩
  simp [wantN_cons, h4]
  rw [if_neg (by split <;> omega)]
  by_cases E4 : e4 = 0
  rotate_left
  · have q4 := smallR_bad h4 E4
    unfold getMutL
    simp only [q1, q2, q3, q4, smallR_err E4]
    cases fieldsK (sN n1) <;> simp [E4]
  subst E4
  have q4 := smallR_ok h4
  unfold getMutL
  simp only [q1, q2, q3, q4]
  have hC : decide (clipN n1 = 5 ∨ clipN n1 = 6) = fieldsK (sN n1) := (fieldsK_clip n1).symm
  cases hF : fieldsK (sN n1) with
  | false =>
    rw [hF, decide_eq_false_iff_not] at hC
    simp only [if_neg hC]
    have := hv n1 [clipN n2, clipN n3, clipN n4] (t1 + t2 + t3 + t4) (sN n2) (sN n3) (sN n4) 0 (sN_clip _) (sN_clip _) (sN_clip _) (.inl rfl)
    simpa using this
  | true =>
    rw [hF, decide_eq_true_iff] at hC
    simp only [if_pos hC]
    obtain ⟨⟨n5, t5, e5⟩, h5⟩ : ∃ r, num (l.drop (t1 + t2 + t3 + t4)) = r := ⟨_, rfl⟩
    simp only [h5]
    by_cases E5 : e5 = 0
    rotate_left
    · have q5 := smallR_bad h5 E5
      simp only [q5]
      simp [E5]
    subst E5
    have q5 := smallR_ok h5
    simp only [q5]
    have := hv n1 [clipN n2, clipN n3, clipN n4, clipN n5] (t1 + t2 + t3 + t4 + t5) (sN n2) (sN n3) (sN n4) (sN n5) (sN_clip _) (sN_clip _) (sN_clip _) (sN_clip _)
    simpa using this
def u64s (vs : List Nat) : List AV := vs.map fun n : Nat => AV.int .u64 (n : Int)
def I_rgm (l : List UInt8) (b c : Nat) (W : MutT × Nat × Nat) (k : Nat) (T : Nat → AV) (H : Heap) : Prop :=
  ∃ (vs : List Nat) (a : Nat), vs.length + k = 5 ∧ T 0 = immB l none ∧ T 2 = .ptr b 0 ∧ T 5 = .ptr c 0 ∧ T 6 = .int .i64 a ∧ T 7 = .int .i64 (wantN vs : Nat) ∧ T 8 = .int .i64 vs.length ∧
    H b = some (.cells [.int .i64 0, .int .i64 0, .int .i64 0, .int .i64 0, .int .i64 0, .int .i64 0] 6) ∧ H c = some (.cells (u64s vs ++ List.replicate k (.int .u64 0)) 5) ∧ a ≤ l.length ∧ rGo l k vs a = W ∧ ∀ v ∈ vs, v ≤ 1000
end Go.Proofs.Ytffifddlooligaa
