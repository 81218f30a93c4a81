/- Nothing: what the parts tell of nothing. -/
import Derived.Test.YtffifddlooligabCP
import Derived.Test.YtffifddlooligabKZ
import Derived.Test.YtffifddlooligabL0
set_option linter.unusedVariables false
set_option linter.unusedSimpArgs false
set_option maxRecDepth 100000
set_option maxHeartbeats 4000000
namespace Go.Proofs.Ytffifddlooligab
open Go.Sf
attribute [local simp] s_skip s_ops s_draw s_any s_contA s_tdone s_ttwo s_top_p s_top_pick s_top_e s_top_g s_seq s_cond s_block s_loop s_exit s_ret s_mark s_then_n s_then_e s_then_r s_in_n s_in_e s_in_r s_contC s_contO s_contQ s_contT s_nil s_cons_p s_cons_pick s_cons_e s_cons_g s_qnil s_qcons_p s_qcons_pick s_qcons_e s_qcons_g s_M s_Mg s_Mq s_Mqg s_G_p s_G_pick s_G_e s_Gq_p s_Gq_pick s_Gq_e s_if s_call s_callv s_qcall s_qcallv s_getAll_nil s_getAll_cons s_put_some s_put_none s_ev_t s_ev_c s_ev_f un evP evK argT resAV lenOf_nils lenOf_imm lenOf_sl lenOf_str optI slcV binV isShift binInt binStr shiftInt pickV unV s_append s_alloc s_box s_bslice s_Bs_t s_Bs_f s_store1 s_storeN s_St1 s_St s_s2b s_markb s_Mk s_mkslice s_qbslice s_qs2b s_ret_n s_ret_r s_retc_n s_retc_r s_RV_nil s_RV_t s_RV_c s_RV1 tupOf fillC kn_int cl_int on_int kn_bool cl_bool on_bool kn_str cl_str on_str kn_nilp cl_nilp on_nilp kn_ptr cl_ptr on_ptr kn_iptr cl_iptr on_iptr kn_nils cl_nils on_nils kn_sl cl_sl on_sl kn_imm cl_imm on_imm kn_mp cl_mp on_mp kn_nilm cl_nilm on_nilm kn_fn cl_fn on_fn kn_nilf cl_nilf on_nilf kn_agg cl_agg scalEq flatEq eqV s_copy_i s_copy_s s_Cp s_clr s_clrn s_Cl s_appz s_Az s_ext s_Ov s_mapB s_mapBS s_rng s_rngn s_Rn s_nxt s_Nx0 s_ent s_mkmap s_mset s_mdel mapOf s_Mg_n s_Mqg_n s_gw_b s_gw_u s_gw_gb s_gw_f
theorem n_value : CP PP F_sum_Sum_Value [.nilp] (fun v => v = .int .u32 1) := by
  refine CP.by_vc ok_sum_Sum_Value (by simp) ?_
  unfold c_sum_Sum_Value
  simp
theorem n_add {u : AV} (hu : un u = (True, u)) : CP PP F_sum_Sum_Add [.nilp, u] (fun v => v = .nilp) := by
  refine CP.by_vc ok_sum_Sum_Add (by simp) ?_
  unfold c_sum_Sum_Add
  simp
theorem n_get (s : ByteArray) : CP PP F_store_Store_Get [.nilp, .str s] (fun v => v = .tup [.nils, .int .i64 9]) := by
  refine CP.by_vc ok_store_Store_Get (by simp) ?_
  unfold c_store_Store_Get
  simp
theorem n_put (s : ByteArray) : CP PP F_store_Store_Put [.nilp, .str s, .nils, .bool false] (fun v => v = .int .i64 9) := by
  refine CP.by_vc ok_store_Store_Put (by simp) ?_
  unfold c_store_Store_Put
  simp
theorem n_drop (s : ByteArray) : CP PP F_store_Store_Drop [.nilp, .str s] (fun v => v = .int .i64 9) := by
  refine CP.by_vc ok_store_Store_Drop (by simp) ?_
  unfold c_store_Store_Drop
  simp
theorem n_list (s : ByteArray) : CP PP F_store_Store_List [.nilp, .str s] (fun v => v = .nils) := by
  refine CP.by_vc ok_store_Store_List (by simp) ?_
  unfold c_store_Store_List
  simp
theorem n_used : CP PP F_store_Store_Used [.nilp] (fun v => v = .int .i64 0) := by
  refine CP.by_vc ok_store_Store_Used (by simp) ?_
  unfold c_store_Store_Used
  simp
theorem n_has {u : AV} (hu : un u = (True, u)) : CP PP F_store_Store_Has [.nilp, u] (fun v => v = .bool false) := by
  refine CP.by_vc ok_store_Store_Has (by simp) ?_
  unfold c_store_Store_Has
  simp [hu]
  intro b hb
  simp [Heap.set_self]
theorem n_read (s : ByteArray) : CP PP F_disk_Disk_Read [.nilp, .str s] (fun v => v = .tup [.nils, .int .i64 9]) := by
  refine CP.by_vc ok_disk_Disk_Read (by simp) ?_
  unfold c_disk_Disk_Read
  simp
theorem n_append (s : ByteArray) : CP PP F_disk_Disk_Append [.nilp, .str s, .nils] (fun v => v = .int .i64 9) := by
  refine CP.by_vc ok_disk_Disk_Append (by simp) ?_
  unfold c_disk_Disk_Append
  simp
theorem n_loose : CP PP F_disk_Disk_Loose [.nilp] (fun v => v = .int .i64 0) := by
  refine CP.by_vc ok_disk_Disk_Loose (by simp) ?_
  unfold c_disk_Disk_Loose
  simp
theorem n_dlist : CP PP F_disk_Disk_List [.nilp] (fun v => v = .nils) := by
  refine CP.by_vc ok_disk_Disk_List (by simp) ?_
  unfold c_disk_Disk_List
  simp
theorem n_new : CP PP F_store_New [.int .i64 (-1)] (fun v => v = .nilp) := by
  refine CP.by_vc ok_store_New (by simp) ?_
  unfold c_store_New
  simp
theorem n_crash {H : Heap} : CC PP F_disk_Disk_Crash [.nilp, .int .i64 0, .int .i64 0] H fun v H' => ∃ d, v = .ptr d 0 := by
  refine CC.by_vc ok_disk_Disk_Crash (by simp) ?_
  unfold c_disk_Disk_Crash
  simp
  refine CallK.of k_diskNew ?_
  rintro v H1 ⟨d, f, k, rfl, _⟩
  simp
def I_na (k : Nat) (T : Nat → AV) (H : Heap) : Prop := k = 0 ∧ T 0 = .nils ∧ T 2 = .nils ∧ T 3 = .int .i64 0
theorem n_all : CP PP F_frame_All [.nils] (fun v => v = .tup [.nils, .int .i64 0, .int .i64 0]) := by
  refine CP.by_vc ok_frame_All (by simp) ?_
  unfold c_frame_All
  simp
  refine LoopV.mk2 I_na 0 ⟨rfl, by simp, by simp, by simp⟩ ?_
  rintro k T H ⟨rfl, t0, t2, t3⟩
  simp [t0, t2, t3]
theorem p_PartsNone : CP PP F_Rlaw1_PartsNone [] (fun v => v = .bool true) := by
  refine CP.by_vc ok_Rlaw1_PartsNone (by simp) ?_
  unfold c_Rlaw1_PartsNone
  simp
  refine CallK.pure (n_get _) ?_
  rintro _ rfl
  simp
  refine CallK.pure (n_read _) ?_
  rintro _ rfl
  simp
  refine CallK.pure (p_get .nil) ?_
  rintro _ rfl
  have h1 : num [] = (0, 0, 8) := by decide
  rw [h1]
  simp [resN]
  refine CallK.pure (p_frameGet .nil (by simp)) ?_
  rintro _ ⟨u, rfl, hu⟩
  have h2 : (getFrame []).2 = (0, 8) := by decide
  rw [h2]
  simp [hu.un]
  refine CallK.pure n_all ?_
  rintro _ rfl
  simp
  refine CallK.pure p_begun ?_
  rintro _ rfl
  simp
  refine CallK.pure n_value ?_
  rintro _ rfl
  simp
  refine CallK.pure (n_add rfl) ?_
  rintro _ rfl
  simp
  refine CallK.pure (n_put _) ?_
  rintro _ rfl
  simp
  refine CallK.pure (n_drop _) ?_
  rintro _ rfl
  simp
  refine CallK.pure (n_list _) ?_
  rintro _ rfl
  simp
  refine CallK.pure n_used ?_
  rintro _ rfl
  simp
  refine CallK.pure (n_has rfl) ?_
  rintro _ rfl
  simp
  refine CallK.pure (n_append _) ?_
  rintro _ rfl
  simp
  refine CallK.pure n_loose ?_
  rintro _ rfl
  simp
  refine CallK.pure n_dlist ?_
  rintro _ rfl
  simp
  refine CallK.of n_crash ?_
  rintro _ H1 ⟨d, rfl⟩
  simp
  refine CallK.pure (p_may ⟨0, 0, 0, 0, 0, 0⟩) ?_
  rintro _ rfl
  have h3 : mayM ⟨0, 0, 0, 0, 0, 0⟩ = false := by decide
  rw [h3]
  simp
  refine CallK.pure (p_mutPut .nil (vm := .imm [.int .i64 0, .int .i64 0, .int .i64 0, .int .i64 0, .int .i64 0, .int .i64 0] 1 (some 1)) (ms := [⟨0, 0, 0, 0, 0, 0⟩]) (.inr ⟨some 1, rfl⟩) (fun m hm => by simp at hm; subst hm; intro x hx; simp at hx; subst hx; omega) (by simp)) ?_
  intro v hv
  have h4 : putM [⟨0, 0, 0, 0, 0, 0⟩] = [] := by decide
  rw [h4] at hv
  rcases hv with ⟨rfl, _⟩ | ⟨c, rfl⟩
  · simp
    refine CallK.pure n_new ?_
    rintro _ rfl
    simp
  · simp [immB, bytesV]
    refine CallK.pure n_new ?_
    rintro _ rfl
    simp
end Go.Proofs.Ytffifddlooligab
