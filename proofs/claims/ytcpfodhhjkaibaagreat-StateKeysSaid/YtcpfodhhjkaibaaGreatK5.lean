/- The reference's sum, and the frames: what they compute. -/
import Derived.Test.YtcpfodhhjkaibaaGreatK4
set_option linter.unusedVariables false
set_option linter.unusedSimpArgs false
set_option maxRecDepth 100000
namespace Go.Proofs.YtcpfodhhjkaibaaGreat
open Go.Sf
attribute [local simp] s_skip s_ops s_draw s_any s_contA s_tdone s_ttwo s_top_p s_top_pick s_top_e s_top_g s_seq s_cond s_block s_loop s_exit s_ret s_mark s_then_n s_then_e s_then_r s_in_n s_in_e s_in_r s_contC s_contO s_contQ s_contT s_nil s_cons_p s_cons_pick s_cons_e s_cons_g s_qnil s_qcons_p s_qcons_pick s_qcons_e s_qcons_g s_M s_Mg s_Mq s_Mqg s_G_p s_G_pick s_G_e s_Gq_p s_Gq_pick s_Gq_e s_if s_call s_callv s_qcall s_qcallv s_getAll_nil s_getAll_cons s_put_some s_put_none s_ev_t s_ev_c s_ev_f un evP evK argT resAV lenOf_nils lenOf_imm lenOf_sl lenOf_str optI slcV binV isShift binInt binStr shiftInt pickV unV s_append s_alloc s_box s_bslice s_Bs_t s_Bs_f s_store1 s_storeN s_St1 s_St s_s2b s_markb s_Mk s_mkslice s_qbslice s_qs2b s_ret_n s_ret_r s_retc_n s_retc_r s_RV_nil s_RV_t s_RV_c s_RV1 tupOf fillC kn_int cl_int on_int kn_bool cl_bool on_bool kn_str cl_str on_str kn_nilp cl_nilp on_nilp kn_ptr cl_ptr on_ptr kn_iptr cl_iptr on_iptr kn_nils cl_nils on_nils kn_sl cl_sl on_sl kn_imm cl_imm on_imm kn_mp cl_mp on_mp kn_nilm cl_nilm on_nilm kn_fn cl_fn on_fn kn_nilf cl_nilf on_nilf kn_agg cl_agg scalEq flatEq eqV s_copy_i s_copy_s s_Cp s_clr s_clrn s_Cl s_appz s_Az s_ext s_Ov s_mapB s_mapBS s_rng s_rngn s_Rn s_nxt s_Nx0 s_ent s_mkmap s_mset s_mdel mapOf s_Mg_n s_Mqg_n s_gw_b s_gw_u s_gw_gb s_gw_f
def I_sumOf (s : Nat) (k : Nat) (T : Nat → AV) (H : Heap) : Prop :=
  ∃ (i : Nat) (v : AV), k + i = 4 ∧ T 3 = v ∧ T 4 = .int .i64 i ∧ T 5 = .int .u32 s ∧ OwnR H 1 i v (bytesV ((le4 s).take i))
theorem k_sumOf {a : AV} {l : List UInt8} (ha : IsB a l) (hl : l.length < 2 ^ 62) : CC PP F_frame_sumOf [a] Heap.nil (fun v H' => OwnR H' 1 4 v (bytesV (le4 (sumL l)))) := by
  refine CC.by_vc ok_frame_sumOf (by simp) ?_
  unfold c_frame_sumOf
  simp [ha.un, ha.known, ha.cellsL]
  refine CallK.pure (p_sumOf (ls := [l]) (.inr ⟨[a], some 1, rfl, rfl, ?_⟩) (by simp) (by simpa using hl)) ?_
  · intro i w l' h1 h2
    cases i with
    | zero => simp at h1 h2; subst h1; subst h2; exact ha
    | succ i => simp at h1
  rintro v rfl
  have hs := sumL_lt l
  simp only [List.flatten_cons, List.flatten_nil, List.append_nil]
  generalize sumL l = s at *
  simp
  refine LoopV.mk2 (I_sumOf s) 4 ⟨0, .nils, rfl, by simp, by simp, by simp, ⟨rfl, .inl ⟨rfl, rfl⟩⟩⟩ ?_
  rintro k T H ⟨i, v, hk, h3, h4, h5, hr⟩
  simp [h3, h4, h5, hr.un]
  refine ⟨fun hi => ⟨?_, ?_⟩, fun hi => ?_⟩
  · rw [wrap_i64 (by omega) (by omega)]; omega
  · have hi : i < 4 := by omega
    rw [sum_byte hs i hi]
    obtain ⟨x, hx⟩ : ∃ x, (le4 s).getD i 0 = x := ⟨_, rfl⟩
    have ht : (le4 s).take (i + 1) = (le4 s).take i ++ [x] := by
      rw [← hx, List.take_add_one]
      have : i = 0 ∨ i = 1 ∨ i = 2 ∨ i = 3 := by omega
      rcases this with rfl | rfl | rfl | rfl <;> rfl
    rw [hx]
    refine vcAp_row (.inl hr) (new := bytesV [x]) (m := 1) rfl rfl rfl (by omega) (bytesV_one _) (by omega) (.inl (by simp [bytesV])) ?_
    intro v' H' ho _ _
    simp [ho.un, h4]
    obtain ⟨k', rfl⟩ : ∃ k', k = k' + 1 := ⟨k - 1, by omega⟩
    refine Again2.mk k' (by omega) ⟨i + 1, v', by omega, by simp, ?_, by simp [h5], ?_⟩
    · simp; rw [wrap_i64 (by omega) (by omega)]
    · rw [ht, bytesV_append]; exact ho
  · have : i = 4 := by omega
    subst this
    exact hr
theorem p_sumOf4 {a : AV} {l : List UInt8} (ha : IsB a l) (hl : l.length < 2 ^ 62) : CP PP F_frame_sumOf [a] (fun v => v = immB (le4 (sumL l)) none) := CP.hold (k_sumOf ha hl)
end Go.Proofs.YtcpfodhhjkaibaaGreat
