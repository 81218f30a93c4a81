/- Texts with their lengths; too long, torn. -/
import Derived.Test.YtffifddlooligaaC5
import Derived.Test.YtffifddlooligaaKZ
import Derived.Test.YtffifddlooligaaL3
import Derived.Test.YtffifddlooligaaN3
set_option linter.unusedVariables false
set_option linter.unusedSimpArgs false
set_option maxRecDepth 100000
namespace Go.Proofs.Ytffifddlooligaa
open Go.Sf
attribute [local simp] s_skip s_ops s_draw s_any s_contA s_tdone s_ttwo s_top_p s_top_pick s_top_e s_top_g s_seq s_cond s_block s_loop s_exit s_ret s_mark s_then_n s_then_e s_then_r s_in_n s_in_e s_in_r s_contC s_contO s_contQ s_contT s_nil s_cons_p s_cons_pick s_cons_e s_cons_g s_qnil s_qcons_p s_qcons_pick s_qcons_e s_qcons_g s_M s_Mg s_Mq s_Mqg s_G_p s_G_pick s_G_e s_Gq_p s_Gq_pick s_Gq_e s_if s_call s_callv s_qcall s_qcallv s_getAll_nil s_getAll_cons s_put_some s_put_none s_ev_t s_ev_c s_ev_f un evP evK argT resAV lenOf_nils lenOf_imm lenOf_sl lenOf_str optI slcV binV isShift binInt binStr shiftInt pickV unV s_append s_alloc s_box s_bslice s_Bs_t s_Bs_f s_store1 s_storeN s_St1 s_St s_s2b s_markb s_Mk s_mkslice s_qbslice s_qs2b s_ret_n s_ret_r s_retc_n s_retc_r s_RV_nil s_RV_t s_RV_c s_RV1 tupOf fillC kn_int cl_int on_int kn_bool cl_bool on_bool kn_str cl_str on_str kn_nilp cl_nilp on_nilp kn_ptr cl_ptr on_ptr kn_iptr cl_iptr on_iptr kn_nils cl_nils on_nils kn_sl cl_sl on_sl kn_imm cl_imm on_imm kn_mp cl_mp on_mp kn_nilm cl_nilm on_nilm kn_fn cl_fn on_fn kn_nilf cl_nilf on_nilf kn_agg cl_agg scalEq flatEq eqV s_mkmap s_mset s_mdel mapOf s_Mg_n s_Mqg_n s_gw_b s_gw_u s_gw_gb s_gw_f
theorem p_NumText (s : ByteArray) (hs : s.size ≤ maxLen) (most : Int) (hm0 : IntKind.i64.min ≤ most) (hm1 : most ≤ IntKind.i64.max) (cut : Int) (hc0 : IntKind.i64.min ≤ cut) (hc1 : cut ≤ IntKind.i64.max) (lb : List UInt8) (hlb : lb.length < 2 ^ 63) :
    CP PP F_Rlaw1_NumText [.str s, .int .i64 most, .int .i64 cut, immB lb none] (fun v => v = .bool true) := by
  have hs' : s.size < 2 ^ 63 := by have : s.size ≤ 9223372036854775807 := hs
                                   omega
  have hm0' : -9223372036854775808 ≤ most := hm0
  have hm1' : most ≤ 9223372036854775807 := hm1
  have hc0' : -9223372036854775808 ≤ cut := hc0
  have hc1' : cut ≤ 9223372036854775807 := hc1
  refine CP.by_vc ok_Rlaw1_NumText (by simp) ?_
  unfold c_Rlaw1_NumText
  simp
  refine CallK.pure p_begun ?_
  rintro _ rfl
  simp [immB]
  refine CallK.pure (p_cut s 200 (by omega) hs') ?_
  rintro _ rfl
  have hsz : (s.extract 0 200).size ≤ 200 := by simp; omega
  generalize s.extract 0 200 = s at *
  simp [immB]
  refine CallK.pure (CP.imm (p_short (a := immB lb none) (.inr ⟨none, rfl⟩) 10 (by omega) hlb)) ?_
  rintro _ rfl
  have h20 : (lb.take 10).length ≤ 10 := by simp; omega
  generalize lb.take 10 = b at *
  simp [immB]
  refine CallK.pure (p_text (IsB.imm b none) s (by omega) (by omega)) ?_
  rintro _ rfl
  have hdl : s.data.toList.length = s.size := rfl
  have hw := getText_enc (most := most) (s := s.data.toList) (by omega)
  have htn := fun (hm : ¬ most < (s.data.toList.length : Int)) (c : Nat) (hc : c < (enc s.data.toList.length ++ s.data.toList).length) => getText_torn (most := most) (s := s.data.toList) (by omega) hm hc
  rw [hdl] at hw htn
  have hel := enc_len64 (n := s.size) (by omega)
  have hen := List.length_pos_iff.2 (enc_ne s.size)
  have hwl : (enc s.size ++ s.data.toList).length = (enc s.size).length + s.size := by rw [List.length_append, hdl]
  generalize hwv : enc s.size ++ s.data.toList = w at *
  simp [immB]
  refine app_row (IsB.imm b none) (by omega) ?_
  intro v1 H1 ho1 _
  simp [ho1.un]
  refine CallK.pure (p_rText s (by omega)) ?_
  rw [hwv]
  rintro _ rfl
  simp [immB, ho1.un]
  refine app_hold ho1 (IsB.imm w none) (by omega) ?_
  intro H2 _
  simp [immB]
  refine CallK.pure (p_same (l := b ++ w) (m := b ++ w) (.inr ⟨none, by simp [immB]⟩) (.inr ⟨none, by simp [immB]⟩)) ?_
  rintro _ rfl
  have d1 : List.drop b.length (bytesV (b ++ w)) = bytesV w := by rw [bytesV_append]; exact List.drop_left' (bytesV_length _)
  have t1 : ∀ l : List UInt8, List.take l.length (bytesV l) = bytesV l := fun l => List.take_of_length_le (by rw [bytesV_length]; omega)
  have e1 : ∀ a c : Nat, ((a : Int) + (c : Int)).toNat - a = c := fun a c => by omega
  simp [immB, d1, t1, bytesV_length, e1]
  refine ⟨by omega, ?_⟩
  refine CallK.pure (p_getText (l := w) (.inr ⟨none, by simp [immB]⟩) most hm0' (by omega) (by omega)) ?_
  rintro _ rfl
  rw [hw]
  by_cases hlong : most < (s.size : Int)
  · rw [if_pos hlong]
    simp [hlong, Go.Sf.strOf]
  · rw [if_neg hlong]
    obtain ⟨i, hi, hpl⟩ := place hc0' hc1' (n := w.length) (by omega) (by omega)
    have hwn : w ≠ [] := fun e => by rw [e] at hi; simp at hi
    have hse : Go.Sf.strOf s.data.toList = s := by unfold Go.Sf.strOf; rfl
    simp only [hse]
    simp [hlong, hpl, hwn]
    refine ⟨⟨by omega, bytesV_length _⟩, ?_⟩
    refine CallK.pure (p_getText (l := w.take i) (.inr ⟨none, by simp [immB, bytesV_take]; omega⟩) most hm0' (by omega) (by simp; omega)) ?_
    rintro _ rfl
    rw [htn hlong i hi]
    simp [Go.Sf.strOf]
end Go.Proofs.Ytffifddlooligaa
