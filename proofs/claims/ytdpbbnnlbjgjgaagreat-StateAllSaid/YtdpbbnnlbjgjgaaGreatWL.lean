/- StateAll. -/
import Derived.Test.YtdpbbnnlbjgjgaaGreatCU
import Derived.Test.YtdpbbnnlbjgjgaaGreatGR
set_option linter.unusedVariables false
set_option linter.unusedSimpArgs false
set_option maxRecDepth 100000
set_option maxHeartbeats 8000000
namespace Go.Proofs.YtdpbbnnlbjgjgaaGreat
open Go.Sf
attribute [local simp] s_skip s_ops s_draw s_any s_contA s_tdone s_ttwo s_top_p s_top_pick s_top_e s_top_g s_seq s_cond s_block s_loop s_exit s_ret s_mark s_then_n s_then_e s_then_r s_in_n s_in_e s_in_r s_contC s_contO s_contQ s_contT s_nil s_cons_p s_cons_pick s_cons_e s_cons_g s_qnil s_qcons_p s_qcons_pick s_qcons_e s_qcons_g s_M s_Mg s_Mq s_Mqg s_G_p s_G_pick s_G_e s_Gq_p s_Gq_pick s_Gq_e s_if s_call s_callv s_qcall s_qcallv s_getAll_nil s_getAll_cons s_put_some s_put_none s_ev_t s_ev_c s_ev_f un evP evK argT resAV lenOf_nils lenOf_imm lenOf_sl lenOf_str optI slcV binV isShift binInt binStr shiftInt pickV unV s_append s_alloc s_box s_bslice s_Bs_t s_Bs_f s_store1 s_storeN s_St1 s_St s_s2b s_markb s_Mk s_mkslice s_qbslice s_qs2b s_ret_n s_ret_r s_retc_n s_retc_r s_RV_nil s_RV_t s_RV_c s_RV1 tupOf fillC kn_int cl_int on_int kn_bool cl_bool on_bool kn_str cl_str on_str kn_nilp cl_nilp on_nilp kn_ptr cl_ptr on_ptr kn_iptr cl_iptr on_iptr kn_nils cl_nils on_nils kn_sl cl_sl on_sl kn_imm cl_imm on_imm kn_mp cl_mp on_mp kn_nilm cl_nilm on_nilm kn_fn cl_fn on_fn kn_nilf cl_nilf on_nilf kn_agg cl_agg scalEq flatEq eqV s_copy_i s_copy_s s_Cp s_clr s_clrn s_Cl s_appz s_Az s_ext s_Ov s_mapB s_mapBS s_rng s_rngn s_Rn s_nxt s_Nx0 s_ent s_mkmap s_mset s_mdel mapOf s_Mg_n s_Mqg_n s_gw_b s_gw_u s_gw_gb s_gw_f
def I_sa (L : List (List MutT)) (a w : Nat) (m : Nat) (T : Nat → AV) (H : Heap) : Prop :=
  ∃ (i : Nat) (S : StT) (F : Nat → Prop), i + m = L.length ∧ T 4 = .ptr a 0 ∧ T 5 = .ptr w 0 ∧ T 14 = immMM L ∧ T 15 = .int .i64 L.length ∧ T 16 = .int .i64 i ∧ TwoS H a w S F ∧ cntS S ≤ i * 12
theorem p_StateAll (ms : List (List MutT)) (hms : ms.length < 2 ^ 63) (hmo : ∀ l ∈ ms, l.length < 2 ^ 63 ∧ ∀ m ∈ l, okM m) : CP PP F_Rlaw7_StateAll [.imm (lmC ms) ms.length none] (fun v => v = .bool true) := by
  refine CP.by_vc ok_Rlaw7_StateAll (by simp) ?_
  unfold c_Rlaw7_StateAll
  simp
  refine CallK.pure p_begun7 ?_
  rintro _ rfl
  simp
  refine CallK.of k_stNew ?_
  rintro _ H1 ⟨a, F, rfl, a1, -, -⟩
  simp
  refine CallK.of k_rnew ?_
  rintro _ H2 ⟨w, rfl, w0, w1, u1⟩
  have hT := TwoS.new a1 w0 w1 u1
  simp
  have hcut := k_cut ms (H := H2)
  unfold immMM at hcut
  refine CallK.of hcut ?_
  rintro _ _ ⟨rfl, rfl⟩
  have hL := cutL_le ms ms.length
  have hL12 := fun l (h : l ∈ cutL ms ms.length) => cutL_12 h
  generalize cutL ms ms.length = L at *
  simp
  refine LoopV.mk2 (I_sa L a w) L.length ⟨0, StT.nil, F, by omega, by simp, by simp, by simp [immMM], by simp, by simp, hT, by simp [cntS, StT.nil]⟩ ?_
  clear a1 w0 w1 u1 hT
  rintro m T H ⟨i, S, F, him, t4, t5, t14, t15, t16, hT, hc⟩
  simp only [immMM] at t14
  by_cases hi : i < L.length
  case neg =>
    have hie : i = L.length := by omega
    subst hie
    simp [t4, t5, t14, t15, t16]
  obtain ⟨l, hl⟩ : ∃ l, L[i]? = some l := ⟨L[i], by simp [hi]⟩
  have hld : (lmC L)[i]? = some (immM l none) := by unfold lmC; rw [List.getElem?_map, hl]; rfl
  have hl12 := hL12 l (List.mem_of_getElem? hl)
  have wi : IntKind.i64.wrap ((i : Int) + 1) = ((i + 1 : Nat) : Int) := wrap_i64 (by omega) (by omega)
  have hum : un (immM l none) = (True, immM l none) := rfl
  simp [t4, t5, t14, t15, t16, hi, hld, hum]
  refine CallK.of (k_do0 hT.s (by omega) (by omega)) ?_
  rintro _ H2 ⟨rfl, F2, a2, u2⟩
  simp [t5, hum]
  refine CallK.of (k_rdo (hT.ref a2 u2) hT.ok (by omega)) ?_
  rintro _ H3 ⟨rfl, w3, u3⟩
  have hT3 := hT.step a2 u2 w3 u3 (keysOK_do hT.ok hT.k l)
  have hc3 : cntS (doS l S).1 ≤ (i + 1) * 12 := by have := cntS_do l S; omega
  generalize (doS l S).1 = S3 at *
  simp [t4]
  refine CallK.of (k_cells (.inl ⟨a, _, rfl, hT3.s⟩) (by omega)) ?_
  rintro _ _ ⟨rfl, rfl⟩
  have hcl := cells_len S3
  simp [t5]
  refine CallK.of (k_rcells hT3.r hT3.ok hT3.k) ?_
  rintro _ _ ⟨rfl, rfl⟩
  have huC : ∀ cs, un (immC cs) = (True, immC cs) := fun _ => rfl
  simp [huC]
  refine CallK.pure (p_eqS hT3.ok (by omega)) ?_
  rintro _ rfl
  simp [t16, wi]
  exact Again2.mk (m - 1) (by omega) ⟨i + 1, S3, F2, by omega, by simp [t4], by simp [t5], by simp [t14, immMM], by simp [t15], by simp, hT3, hc3⟩
end Go.Proofs.YtdpbbnnlbjgjgaaGreat
