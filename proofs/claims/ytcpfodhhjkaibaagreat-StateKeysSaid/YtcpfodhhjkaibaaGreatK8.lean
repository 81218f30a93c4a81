/- Changes. -/
import Derived.Test.YtcpfodhhjkaibaaGreatK7
set_option linter.unusedVariables false
set_option linter.unusedSimpArgs false
set_option maxRecDepth 100000
namespace Go.Proofs.YtcpfodhhjkaibaaGreat
open Go.Sf
attribute [local simp] s_skip s_ops s_draw s_any s_contA s_tdone s_ttwo s_top_p s_top_pick s_top_e s_top_g s_seq s_cond s_block s_loop s_exit s_ret s_mark s_then_n s_then_e s_then_r s_in_n s_in_e s_in_r s_contC s_contO s_contQ s_contT s_nil s_cons_p s_cons_pick s_cons_e s_cons_g s_qnil s_qcons_p s_qcons_pick s_qcons_e s_qcons_g s_M s_Mg s_Mq s_Mqg s_G_p s_G_pick s_G_e s_Gq_p s_Gq_pick s_Gq_e s_if s_call s_callv s_qcall s_qcallv s_getAll_nil s_getAll_cons s_put_some s_put_none s_ev_t s_ev_c s_ev_f un evP evK argT resAV lenOf_nils lenOf_imm lenOf_sl lenOf_str optI slcV binV isShift binInt binStr shiftInt pickV unV s_append s_alloc s_box s_bslice s_Bs_t s_Bs_f s_store1 s_storeN s_St1 s_St s_s2b s_markb s_Mk s_mkslice s_qbslice s_qs2b s_ret_n s_ret_r s_retc_n s_retc_r s_RV_nil s_RV_t s_RV_c s_RV1 tupOf fillC kn_int cl_int on_int kn_bool cl_bool on_bool kn_str cl_str on_str kn_nilp cl_nilp on_nilp kn_ptr cl_ptr on_ptr kn_iptr cl_iptr on_iptr kn_nils cl_nils on_nils kn_sl cl_sl on_sl kn_imm cl_imm on_imm kn_mp cl_mp on_mp kn_nilm cl_nilm on_nilm kn_fn cl_fn on_fn kn_nilf cl_nilf on_nilf kn_agg cl_agg scalEq flatEq eqV s_copy_i s_copy_s s_Cp s_clr s_clrn s_Cl s_appz s_Az s_ext s_Ov s_mapB s_mapBS s_rng s_rngn s_Rn s_nxt s_Nx0 s_ent s_mkmap s_mset s_mdel mapOf s_Mg_n s_Mqg_n s_gw_b s_gw_u s_gw_gb s_gw_f
theorem p_fields (k : Int) : CP PP F_mut_fields [.int .i64 k] (fun v => v = .bool (fieldsK k)) := by
  refine CP.by_vc ok_mut_fields (by simp) ?_
  unfold c_mut_fields
  simp [fieldsK]
theorem p_values (k : Int) : CP PP F_mut_values [.int .i64 k] (fun v => v = .bool (valuesK k)) := by
  refine CP.by_vc ok_mut_values (by simp) ?_
  unfold c_mut_values
  simp [valuesK]
theorem p_isK (g n i : Int) : CP PP F_mut_is [.agg [.int .i64 g, .int .i64 n, .int .i64 i]] (fun v => v = .bool (isK g n i)) := by
  refine CP.by_vc ok_mut_is (by simp) ?_
  unfold c_mut_is
  simp
  intro b hb
  simp [Heap.set_self, isK]
theorem p_may (m : MutT) : CP PP F_mut_May [.agg (mutCs m)] (fun v => v = .bool (mayM m)) := by
  refine CP.by_vc ok_mut_May (by simp) ?_
  unfold c_mut_May mutCs
  simp
  intro b hb
  by_cases hk : 1 ≤ m.k ∧ m.k ≤ 6
  · have k1 : ¬ m.k < 1 := by omega
    have k2 : ¬ 6 < m.k := by omega
    simp [Heap.set_self, k1, k2]
    refine CallK.pure (p_isK _ _ _) ?_
    rintro v rfl
    cases hK : isK m.g m.n m.i with
    | false =>
      simp [hK, k1, k2, mayM]
    | true =>
      simp [hK, k1, k2, Heap.set_self]
      refine CallK.pure (p_fields _) ?_
      rintro v rfl
      have hkk : decide (1 ≤ m.k) = true ∧ decide (m.k ≤ 6) = true := by simp [hk.1, hk.2]
      have fin : ∀ b : Bool, ((if fieldsK m.k then decide (0 ≤ m.f) && decide (m.f < 8) else decide (m.f = 0)) && (valuesK m.k || decide (m.v = 0))) = b → mayM m = b := fun b h => by
        unfold mayM; rw [hkk.1, hkk.2, hK]; simpa using h
      cases hF : fieldsK m.k with
      | true =>
        simp only [hF, if_true] at fin
        by_cases h0 : m.f < 0
        · simp [hF, Heap.set_self, h0]
          rw [fin false (by simp; omega)]
          try rfl
        · by_cases h8 : m.f < 8
          · simp [hF, Heap.set_self, h0, h8, show ¬ 8 ≤ m.f by omega]
            refine CallK.pure (p_fields _) ?_
            rintro v rfl
            simp [hF, Heap.set_self]
            refine CallK.pure (p_values _) ?_
            rintro v rfl
            rw [fin (valuesK m.k || decide (m.v = 0)) (by simp [h8, show 0 ≤ m.f by omega])]
            cases hV : valuesK m.k <;> simp [hV, Heap.set_self]
          · simp [hF, Heap.set_self, h0, h8, show 8 ≤ m.f by omega]
            rw [fin false (by simp [h8])]
            try rfl
      | false =>
        simp only [hF, Bool.false_eq_true, if_false] at fin
        simp [hF, Heap.set_self]
        refine CallK.pure (p_fields _) ?_
        rintro v rfl
        by_cases h0 : m.f = 0
        · simp [hF, Heap.set_self, h0]
          refine CallK.pure (p_values _) ?_
          rintro v rfl
          rw [fin (valuesK m.k || decide (m.v = 0)) (by simp [h0])]
          cases hV : valuesK m.k <;> simp [hV, Heap.set_self]
        · simp [hF, Heap.set_self, h0]
          rw [fin false (by simp [h0])]
          try rfl
  · have hm : mayM m = false := by unfold mayM; simp; omega
    have : m.k < 1 ∨ 6 < m.k := by omega
    rcases this with h | h
    · simp [Heap.set_self, hm, h, show ¬ 1 ≤ m.k by omega]
    · simp [Heap.set_self, hm, h, show ¬ m.k < 1 by omega, show ¬ m.k ≤ 6 by omega]
end Go.Proofs.YtcpfodhhjkaibaaGreat
