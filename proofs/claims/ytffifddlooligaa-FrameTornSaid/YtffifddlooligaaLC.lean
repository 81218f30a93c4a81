/- A frame without its end is torn. -/
import Derived.Test.YtffifddlooligaaC5
import Derived.Test.YtffifddlooligaaLG
set_option linter.unusedVariables false
set_option linter.unusedSimpArgs false
set_option maxRecDepth 100000
namespace Go.Proofs.Ytffifddlooligaa
open Go.Sf
attribute [local simp] s_skip s_ops s_draw s_any s_contA s_tdone s_ttwo s_top_p s_top_pick s_top_e s_top_g s_seq s_cond s_block s_loop s_exit s_ret s_mark s_then_n s_then_e s_then_r s_in_n s_in_e s_in_r s_contC s_contO s_contQ s_contT s_nil s_cons_p s_cons_pick s_cons_e s_cons_g s_qnil s_qcons_p s_qcons_pick s_qcons_e s_qcons_g s_M s_Mg s_Mq s_Mqg s_G_p s_G_pick s_G_e s_Gq_p s_Gq_pick s_Gq_e s_if s_call s_callv s_qcall s_qcallv s_getAll_nil s_getAll_cons s_put_some s_put_none s_ev_t s_ev_c s_ev_f un evP evK argT resAV lenOf_nils lenOf_imm lenOf_sl lenOf_str optI slcV binV isShift binInt binStr shiftInt pickV unV s_append s_alloc s_box s_bslice s_Bs_t s_Bs_f s_store1 s_storeN s_St1 s_St s_s2b s_markb s_Mk s_mkslice s_qbslice s_qs2b s_ret_n s_ret_r s_retc_n s_retc_r s_RV_nil s_RV_t s_RV_c s_RV1 tupOf fillC kn_int cl_int on_int kn_bool cl_bool on_bool kn_str cl_str on_str kn_nilp cl_nilp on_nilp kn_ptr cl_ptr on_ptr kn_iptr cl_iptr on_iptr kn_nils cl_nils on_nils kn_sl cl_sl on_sl kn_imm cl_imm on_imm kn_mp cl_mp on_mp kn_nilm cl_nilm on_nilm kn_fn cl_fn on_fn kn_nilf cl_nilf on_nilf kn_agg cl_agg scalEq flatEq eqV s_mkmap s_mset s_mdel mapOf s_Mg_n s_Mqg_n s_gw_b s_gw_u s_gw_gb s_gw_f
theorem p_FrameTorn (lb : List UInt8) (hlb : lb.length < 2 ^ 63) (cut : Int) (hc0 : IntKind.i64.min ≤ cut) (hc1 : cut ≤ IntKind.i64.max) :
    CP PP F_Rlaw1_FrameTorn [immB lb none, .int .i64 cut] (fun v => v = .bool true) := by
  have hc0' : -9223372036854775808 ≤ cut := hc0
  have hc1' : cut ≤ 9223372036854775807 := hc1
  refine CP.by_vc ok_Rlaw1_FrameTorn (by simp) ?_
  unfold c_Rlaw1_FrameTorn
  simp
  refine CallK.pure p_begun ?_
  rintro _ rfl
  simp [immB]
  refine CallK.pure (CP.imm (p_short (a := immB lb none) (.inr ⟨none, rfl⟩) 200 (by omega) hlb)) ?_
  rintro _ rfl
  have h20 : (lb.take 200).length ≤ 200 := by simp; omega
  generalize lb.take 200 = t at *
  have hp : putL [] [t] = frameL t := by
    unfold putL; rw [if_pos (fun u hu => by simp at hu; subst hu; omega)]; simp
  have hfl : 5 ≤ (frameL t).length ∧ (frameL t).length ≤ 300 := by
    have := enc_len64 (n := t.length) (by omega)
    have := List.length_pos_iff.2 (enc_ne t.length)
    simp [frameL, le4_length]; omega
  simp [immB]
  refine CallK.pure (CP.imm (p_framePut (l := []) (ls := [t]) .nil ?_ (by rw [hp]; omega) (by simp))) ?_
  · have := bb_one t none (some 1)
    simpa [immB] using this
  rintro _ rfl
  rw [hp]
  have hgt := fun c hc => getFrame_torn (t := t) (c := c) (by omega) hc
  have hat := fun c hc => allFr_torn (t := t) (c := c) (by omega) hc
  generalize frameL t = f at *
  have hf5 : ¬ (f.length : Int) < 5 := by omega
  have hfn : f ≠ [] := fun e => by rw [e] at hfl; simp at hfl
  obtain ⟨i, hi, hpl⟩ := place hc0' hc1' (n := f.length) (by omega) (by omega)
  simp [immB, hf5, hfn, hpl]
  refine ⟨⟨by omega, bytesV_length _⟩, ?_⟩
  have htl : (f.take i).length = i := by simp; omega
  have hB : IsB (.imm (bytesV (f.take i)) i none) (f.take i) := .inr ⟨none, by simp only [immB, htl]⟩
  have hbt : List.take i (bytesV f) = bytesV (f.take i) := bytesV_take f i
  rw [hbt]
  refine CallK.pure (immF (p_frameGet hB (by omega))) ?_
  rw [hgt i hi]
  rintro _ rfl
  simp [immB]
  refine ⟨?_, ⟨by omega, bytesV_length _⟩, ?_⟩
  · skip
    refine app_row (IsB.imm f none) (by omega) ?_
    intro v1 H1 ho1 _
    simp [ho1.un, hbt]
    refine ⟨⟨by omega, bytesV_length _⟩, ?_⟩
    refine app_hold ho1 hB (by omega) ?_
    intro H2 _
    have hmin : min i f.length = i := by omega
    simp [immB, hmin]
    have hAll := p_frameAll (f ++ f.take i) (by simp; omega)
    rw [hat i hi] at hAll
    simp [immB, htl, RAll] at hAll
    refine CallK.pure hAll ?_
    rintro _ rfl
    simp [immB, bbV]
    by_cases h0 : i = 0
    · simp [h0]
    · simp [h0]; omega
  · skip
    refine app_row (IsB.imm f none) (by omega) ?_
    intro v1 H1 ho1 _
    simp [ho1.un, hbt]
    refine app_hold ho1 hB (by omega) ?_
    intro H2 _
    have hmin : min i f.length = i := by omega
    simp [immB, hmin]
    have hAll := p_frameAll (f ++ f.take i) (by simp; omega)
    rw [hat i hi] at hAll
    simp [immB, htl, RAll] at hAll
    refine CallK.pure hAll ?_
    rintro _ rfl
    simp [immB, bbV]
    by_cases h0 : i = 0
    · simp [h0]
    · simp [h0]; omega
end Go.Proofs.Ytffifddlooligaa
