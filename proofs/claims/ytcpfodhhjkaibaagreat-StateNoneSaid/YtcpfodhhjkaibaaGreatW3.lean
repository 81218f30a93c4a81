/- StateNone. -/
import Derived.Test.YtcpfodhhjkaibaaGreatSB
import Derived.Test.YtcpfodhhjkaibaaGreatCF
set_option linter.unusedVariables false
set_option linter.unusedSimpArgs false
set_option maxRecDepth 100000
set_option maxHeartbeats 8000000
namespace Go.Proofs.YtcpfodhhjkaibaaGreat
open Go.Sf
attribute [local simp] s_skip s_ops s_draw s_any s_contA s_tdone s_ttwo s_top_p s_top_pick s_top_e s_top_g s_seq s_cond s_block s_loop s_exit s_ret s_mark s_then_n s_then_e s_then_r s_in_n s_in_e s_in_r s_contC s_contO s_contQ s_contT s_nil s_cons_p s_cons_pick s_cons_e s_cons_g s_qnil s_qcons_p s_qcons_pick s_qcons_e s_qcons_g s_M s_Mg s_Mq s_Mqg s_G_p s_G_pick s_G_e s_Gq_p s_Gq_pick s_Gq_e s_if s_call s_callv s_qcall s_qcallv s_getAll_nil s_getAll_cons s_put_some s_put_none s_ev_t s_ev_c s_ev_f un evP evK argT resAV lenOf_nils lenOf_imm lenOf_sl lenOf_str optI slcV binV isShift binInt binStr shiftInt pickV unV s_append s_alloc s_box s_bslice s_Bs_t s_Bs_f s_store1 s_storeN s_St1 s_St s_s2b s_markb s_Mk s_mkslice s_qbslice s_qs2b s_ret_n s_ret_r s_retc_n s_retc_r s_RV_nil s_RV_t s_RV_c s_RV1 tupOf fillC kn_int cl_int on_int kn_bool cl_bool on_bool kn_str cl_str on_str kn_nilp cl_nilp on_nilp kn_ptr cl_ptr on_ptr kn_iptr cl_iptr on_iptr kn_nils cl_nils on_nils kn_sl cl_sl on_sl kn_imm cl_imm on_imm kn_mp cl_mp on_mp kn_nilm cl_nilm on_nilm kn_fn cl_fn on_fn kn_nilf cl_nilf on_nilf kn_agg cl_agg scalEq flatEq eqV s_copy_i s_copy_s s_Cp s_clr s_clrn s_Cl s_appz s_Az s_ext s_Ov s_mapB s_mapBS s_rng s_rngn s_Rn s_nxt s_Nx0 s_ent s_mkmap s_mset s_mdel mapOf s_Mg_n s_Mqg_n s_gw_b s_gw_u s_gw_gb s_gw_f
theorem n_vAt (k : K3T) : CP PP F_value_Values_at [.nilp, .agg (k3 k)] (fun v => v = .tup [.int .i64 0, .bool false]) := by
  refine CP.by_vc ok_value_Values_at (by simp) ?_
  unfold c_value_Values_at
  simp
  intro b hb
  simp
theorem n_lAt (k : K3T) : CP PP F_list_Lists_at [.nilp, .agg (k3 k)] (fun v => v = .tup [.int .i64 0, .bool false]) := by
  refine CP.by_vc ok_list_Lists_at (by simp) ?_
  unfold c_list_Lists_at
  simp
  intro b hb
  simp
theorem n_dAt (k : K3T) : CP PP F_dict_Dicts_at [.nilp, .agg (k3 k)] (fun v => v = .tup [.int .i64 0, .bool false]) := by
  refine CP.by_vc ok_dict_Dicts_at (by simp) ?_
  unfold c_dict_Dicts_at
  simp
  intro b hb
  simp
theorem n_vSet (k : K3T) (n : Int) : CP PP F_value_Values_Set [.nilp, .agg (k3 k), .int .i64 n] (fun v => v = .tup []) := by
  refine CP.by_vc ok_value_Values_Set (by simp) ?_
  unfold c_value_Values_Set
  simp
  intro b hb
  simp
theorem n_vValue (k : K3T) : CP PP F_value_Values_Value [.nilp, .agg (k3 k)] (fun v => v = .tup [.int .i64 0, .bool false]) := by
  refine CP.by_vc ok_value_Values_Value (by simp) ?_
  unfold c_value_Values_Value
  have hk3 : (k3 k).length = 3 := rfl
  simp
  intro b hb
  simp [Heap.set_self, hk3, tk3]
  refine CallK.pure (n_vAt k) ?_
  rintro _ rfl
  simp
theorem n_vUnset (k : K3T) : CP PP F_value_Values_Unset [.nilp, .agg (k3 k)] (fun v => v = .bool false) := by
  refine CP.by_vc ok_value_Values_Unset (by simp) ?_
  unfold c_value_Values_Unset
  have hk3 : (k3 k).length = 3 := rfl
  simp
  intro b hb
  simp [Heap.set_self, hk3, tk3]
  refine CallK.pure (n_vAt k) ?_
  rintro _ rfl
  simp
theorem n_vKeys : CP PP F_value_Values_ValueKeys [.nilp] (fun v => v = .nils) := by
  refine CP.by_vc ok_value_Values_ValueKeys (by simp) ?_
  unfold c_value_Values_ValueKeys
  simp
theorem n_lKeys : CP PP F_list_Lists_ListKeys [.nilp] (fun v => v = .nils) := by
  refine CP.by_vc ok_list_Lists_ListKeys (by simp) ?_
  unfold c_list_Lists_ListKeys
  simp
theorem n_dKeys : CP PP F_dict_Dicts_DictKeys [.nilp] (fun v => v = .nils) := by
  refine CP.by_vc ok_dict_Dicts_DictKeys (by simp) ?_
  unfold c_dict_Dicts_DictKeys
  simp
theorem n_lPush (k : K3T) (cs : List AV) (n : Nat) (c : Option Nat) : CP PP F_list_Lists_Push [.nilp, .agg (k3 k), .imm cs n c] (fun v => v = .int .i64 9) := by
  refine CP.by_vc ok_list_Lists_Push (by simp) ?_
  unfold c_list_Lists_Push
  simp
  intro b hb
  simp
theorem n_lClear (k : K3T) : CP PP F_list_Lists_Clear [.nilp, .agg (k3 k)] (fun v => v = .int .i64 0) := by
  refine CP.by_vc ok_list_Lists_Clear (by simp) ?_
  unfold c_list_Lists_Clear
  have hk3 : (k3 k).length = 3 := rfl
  simp
  intro b hb
  simp [Heap.set_self, hk3, tk3]
  refine CallK.pure (n_lAt k) ?_
  rintro _ rfl
  simp
theorem n_lList (k : K3T) : CP PP F_list_Lists_List [.nilp, .agg (k3 k)] (fun v => v = .nils) := by
  refine CP.by_vc ok_list_Lists_List (by simp) ?_
  unfold c_list_Lists_List
  have hk3 : (k3 k).length = 3 := rfl
  simp
  intro b hb
  simp [Heap.set_self, hk3, tk3]
  refine CallK.pure (n_lAt k) ?_
  rintro _ rfl
  simp
theorem n_dPut (k : K3T) (f n : Int) : CP PP F_dict_Dicts_PutField [.nilp, .agg (k3 k), .int .i64 f, .int .i64 n] (fun v => v = .int .i64 9) := by
  refine CP.by_vc ok_dict_Dicts_PutField (by simp) ?_
  unfold c_dict_Dicts_PutField
  simp
  intro b hb
  simp
theorem n_dCut (k : K3T) (f : Int) : CP PP F_dict_Dicts_CutField [.nilp, .agg (k3 k), .int .i64 f] (fun v => v = .bool false) := by
  refine CP.by_vc ok_dict_Dicts_CutField (by simp) ?_
  unfold c_dict_Dicts_CutField
  have hk3 : (k3 k).length = 3 := rfl
  simp
  intro b hb
  simp [Heap.set_self, hk3, tk3]
  refine CallK.pure (n_dAt k) ?_
  rintro _ rfl
  simp
theorem n_dDict (k : K3T) : CP PP F_dict_Dicts_Dict [.nilp, .agg (k3 k)] (fun v => v = .nils) := by
  refine CP.by_vc ok_dict_Dicts_Dict (by simp) ?_
  unfold c_dict_Dicts_Dict
  have hk3 : (k3 k).length = 3 := rfl
  simp
  intro b hb
  simp [Heap.set_self, hk3, tk3]
  refine CallK.pure (n_dAt k) ?_
  rintro _ rfl
  simp
theorem n_dField (k : K3T) (f : Int) : CP PP F_dict_Dicts_Field [.nilp, .agg (k3 k), .int .i64 f] (fun v => v = .tup [.int .i64 0, .bool false]) := by
  refine CP.by_vc ok_dict_Dicts_Field (by simp) ?_
  unfold c_dict_Dicts_Field
  have hk3 : (k3 k).length = 3 := rfl
  simp
  intro b hb
  simp [Heap.set_self, hk3, tk3]
  refine CallK.pure (n_dDict k) ?_
  rintro _ rfl
  simp
  refine CallK.of (k_inNil f) ?_
  rintro _ H' ⟨rfl, rfl⟩
  simp [posF, getF]
theorem n_do : CP PP F_state_State_Do [.nilp, .nils] (fun v => v = .int .i64 9) := by
  refine CP.by_vc ok_state_State_Do (by simp) ?_
  unfold c_state_State_Do
  simp
theorem n_load : CP PP F_state_State_Load [.nilp, .nils] (fun v => v = .int .i64 9) := by
  refine CP.by_vc ok_state_State_Load (by simp) ?_
  unfold c_state_State_Load
  simp
def I_n0 (m : Nat) (T : Nat → AV) (H : Heap) : Prop := T 6 = .nils ∧ T 7 = .int .i64 0 ∧ T 8 = .int .i64 0
theorem n_bad : CP PP F_slices_ContainsFunc_api_Mut_api_Mut [.nils, .fn (.func F_state_State_Do_1) [] []] (fun v => v = .bool false) := by
  have ix : CP PP F_slices_IndexFunc_api_Mut_api_Mut [.nils, .fn (.func F_state_State_Do_1) [] []] (fun v => v = .int .i64 (-1)) := by
    refine CP.by_vc ok_slices_IndexFunc_api_Mut_api_Mut (by simp) ?_
    unfold c_slices_IndexFunc_api_Mut_api_Mut
    simp
    refine LoopV.mk2 (fun m T H => T 7 = .int .i64 0 ∧ T 8 = .int .i64 0) 0 ⟨by simp, by simp⟩ ?_
    rintro m T H ⟨t7, t8⟩
    simp [t7, t8]
  refine CP.by_vc ok_slices_ContainsFunc_api_Mut_api_Mut (by simp) ?_
  unfold c_slices_ContainsFunc_api_Mut_api_Mut
  simp
  refine CallK.pure ix ?_
  rintro _ rfl
  simp
theorem n_full {H0 : Heap} {s : Nat} : CC PP F_state_State_full [.ptr s 0, .nils] H0 fun r H' => H' = H0 ∧ r = .bool false := by
  refine CC.back ?_
  refine CC.by_vc ok_state_State_full (by simp) ?_
  unfold c_state_State_full
  simp
  intro bm hbm
  simp
  refine LoopV.mk2 (fun m T H => T 12 = .int .i64 0 ∧ T 13 = .int .i64 0 ∧ ∀ x, H0 x ≠ none → H x = H0 x) 0 ⟨by simp, by simp, fun x hx => Heap.set_ne _ _ (fun e => hx (by rw [e]; exact hbm))⟩ ?_
  rintro m T H ⟨t12, t13, hold⟩
  simp [t12, t13]
  exact hold
theorem n_do1 {H0 : Heap} {s : Nat} : CC PP F_state_State_Do [.ptr s 0, .nils] H0 fun r H' => H' = H0 ∧ r = .int .i64 0 := by
  refine CC.back ?_
  refine CC.by_vc ok_state_State_Do (by simp) ?_
  unfold c_state_State_Do
  simp
  refine CallK.pure n_bad ?_
  rintro _ rfl
  simp
  refine CallK.of n_full ?_
  rintro _ H' ⟨rfl, rfl⟩
  simp
  refine LoopV.mk2 (fun m T H => T 15 = .int .i64 0 ∧ T 16 = .int .i64 0 ∧ ∀ x, H' x ≠ none → H x = H' x) 0 ⟨by simp, by simp, fun x hx => rfl⟩ ?_
  rintro m T H ⟨t15, t16, hold⟩
  simp [t15, t16]
  exact hold
theorem p_StateNone : CP PP F_Rlaw7_StateNone [] (fun v => v = .bool true) := by
  refine CP.by_vc ok_Rlaw7_StateNone (by simp) ?_
  unfold c_Rlaw7_StateNone
  simp
  refine CallK.pure (n_vSet (0, 0, 0) 1) ?_
  rintro _ rfl
  simp
  refine CallK.pure (n_vValue (0, 0, 0)) ?_
  rintro _ rfl
  simp
  refine CallK.pure (n_dField (0, 0, 0) 0) ?_
  rintro _ rfl
  simp
  refine CallK.pure p_begun7 ?_
  rintro _ rfl
  simp
  refine CallK.pure (n_vUnset (0, 0, 0)) ?_
  rintro _ rfl
  simp
  refine CallK.pure n_vKeys ?_
  rintro _ rfl
  simp
  refine CallK.pure (n_lPush (0, 0, 0) _ _ _) ?_
  rintro _ rfl
  simp
  refine CallK.pure (n_lClear (0, 0, 0)) ?_
  rintro _ rfl
  simp
  refine CallK.pure (n_lList (0, 0, 0)) ?_
  rintro _ rfl
  simp
  refine CallK.pure n_lKeys ?_
  rintro _ rfl
  simp
  refine CallK.pure (n_dPut (0, 0, 0) 0 1) ?_
  rintro _ rfl
  simp
  refine CallK.pure (n_dCut (0, 0, 0) 0) ?_
  rintro _ rfl
  simp
  refine CallK.pure (n_dDict (0, 0, 0)) ?_
  rintro _ rfl
  simp
  refine CallK.pure n_dKeys ?_
  rintro _ rfl
  simp
  refine CallK.pure n_do ?_
  rintro _ rfl
  simp
  refine CallK.pure n_load ?_
  rintro _ rfl
  simp
  refine CallK.of (k_cells (S := StT.nil) (.inr ⟨rfl, rfl⟩) (by decide)) ?_
  rintro _ H1 ⟨rfl, rfl⟩
  have hc0 : cellsS StT.nil = [] := rfl
  simp [immC, hc0]
  refine CallK.of (k_copy (S := StT.nil) (.inr ⟨rfl, rfl⟩) (by decide)) ?_
  rintro _ H2 ⟨t, Ft, rfl, c1, c2, c3⟩
  simp
  refine CallK.of k_stNew ?_
  rintro _ H3 ⟨t2, Ft2, rfl, c4, c5, c6⟩
  simp
  refine CallK.of (k_eqS (A := StT.nil) (.inr ⟨rfl, rfl⟩) (.inl ⟨t2, Ft2, rfl, c4⟩) (by decide) (by decide)) ?_
  rintro _ H4 ⟨rfl, rfl⟩
  rw [(eqS_iff StT.nil StT.nil).2 rfl]
  simp
  refine CallK.of k_stNew ?_
  rintro _ H5 ⟨t3, Ft3, rfl, c7, c8, c9⟩
  simp
  refine CallK.of n_do1 ?_
  rintro _ H6 ⟨rfl, rfl⟩
  simp
end Go.Proofs.YtcpfodhhjkaibaaGreat
