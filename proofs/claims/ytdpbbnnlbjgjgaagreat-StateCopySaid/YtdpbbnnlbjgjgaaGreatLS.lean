/- slices.Insert, slices.Delete: at a store's objects. -/
import Derived.Test.YtdpbbnnlbjgjgaaGreatC8
import Derived.Test.YtdpbbnnlbjgjgaaGreatGX
set_option linter.unusedVariables false
set_option linter.unusedSimpArgs false
set_option maxRecDepth 100000
set_option maxHeartbeats 4000000
namespace Go.Sf
theorem splA_mid (A R new : List AV) {o : Nat} (h : A.length = o) : splA (A ++ R) o new = A ++ (new ++ R.drop new.length) := by
  subst h
  unfold splA
  rw [List.take_left, ← List.drop_drop, List.drop_left, List.append_assoc]
theorem splA_ins {cs x : List AV} {o s : Nat} (hx : x.length = s) (h : o + s ≤ cs.length) : splA (splA cs (o + s) (cs.drop o)) o x = cs.take o ++ (x ++ cs.drop o) := by
  obtain ⟨A, B, hA, rfl⟩ : ∃ A B, A.length = o ∧ cs = A ++ B := ⟨cs.take o, cs.drop o, by rw [List.length_take]; omega, by simp⟩
  obtain ⟨C, D, hC, rfl⟩ : ∃ C D, C.length = s ∧ B = C ++ D := ⟨B.take s, B.drop s, by rw [List.length_append] at h; rw [List.length_take]; omega, by simp⟩
  subst hA
  rw [List.take_left, List.drop_left]
  have e1 : splA (A ++ (C ++ D)) (A.length + s) (C ++ D) = A ++ (C ++ (C ++ D)) := by
    rw [← List.append_assoc, splA_mid _ _ _ (by rw [List.length_append, hC]), List.drop_of_length_le (by simp)]
    simp
  rw [e1, splA_mid _ _ _ rfl, hx, ← hC, List.drop_left]
end Go.Sf
namespace Go.Proofs.YtdpbbnnlbjgjgaaGreat
open Go.Sf
attribute [local simp] s_skip s_ops s_draw s_any s_contA s_tdone s_ttwo s_top_p s_top_pick s_top_e s_top_g s_seq s_cond s_block s_loop s_exit s_ret s_mark s_then_n s_then_e s_then_r s_in_n s_in_e s_in_r s_contC s_contO s_contQ s_contT s_nil s_cons_p s_cons_pick s_cons_e s_cons_g s_qnil s_qcons_p s_qcons_pick s_qcons_e s_qcons_g s_M s_Mg s_Mq s_Mqg s_G_p s_G_pick s_G_e s_Gq_p s_Gq_pick s_Gq_e s_if s_call s_callv s_qcall s_qcallv s_getAll_nil s_getAll_cons s_put_some s_put_none s_ev_t s_ev_c s_ev_f un evP evK argT resAV lenOf_nils lenOf_imm lenOf_sl lenOf_str optI slcV binV isShift binInt binStr shiftInt pickV unV s_append s_alloc s_box s_bslice s_Bs_t s_Bs_f s_store1 s_storeN s_St1 s_St s_s2b s_markb s_Mk s_mkslice s_qbslice s_qs2b s_ret_n s_ret_r s_retc_n s_retc_r s_RV_nil s_RV_t s_RV_c s_RV1 tupOf fillC kn_int cl_int on_int kn_bool cl_bool on_bool kn_str cl_str on_str kn_nilp cl_nilp on_nilp kn_ptr cl_ptr on_ptr kn_iptr cl_iptr on_iptr kn_nils cl_nils on_nils kn_sl cl_sl on_sl kn_imm cl_imm on_imm kn_mp cl_mp on_mp kn_nilm cl_nilm on_nilm kn_fn cl_fn on_fn kn_nilf cl_nilf on_nilf kn_agg cl_agg scalEq flatEq eqV s_copy_i s_copy_s s_Cp s_clr s_clrn s_Cl s_appz s_Az s_ext s_Ov s_mapB s_mapBS s_rng s_rngn s_Rn s_nxt s_Nx0 s_ent s_mkmap s_mset s_mdel mapOf s_Mg_n s_Mqg_n s_gw_b s_gw_u s_gw_gb s_gw_f
end Go.Proofs.YtdpbbnnlbjgjgaaGreat
