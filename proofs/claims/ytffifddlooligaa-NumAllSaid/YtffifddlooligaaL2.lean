/- Laws of numbers. -/
import Derived.Test.YtffifddlooligaaL1
set_option linter.unusedVariables false
set_option linter.unusedSimpArgs false
set_option maxRecDepth 100000
namespace Go.Proofs.Ytffifddlooligaa
open Go.Sf
attribute [local simp] s_skip s_ops s_draw s_any s_contA s_tdone s_ttwo s_top_p s_top_pick s_top_e s_top_g s_seq s_cond s_block s_loop s_exit s_ret s_mark s_then_n s_then_e s_then_r s_in_n s_in_e s_in_r s_contC s_contO s_contQ s_contT s_nil s_cons_p s_cons_pick s_cons_e s_cons_g s_qnil s_qcons_p s_qcons_pick s_qcons_e s_qcons_g s_M s_Mg s_Mq s_Mqg s_G_p s_G_pick s_G_e s_Gq_p s_Gq_pick s_Gq_e s_if s_call s_callv s_qcall s_qcallv s_getAll_nil s_getAll_cons s_put_some s_put_none s_ev_t s_ev_c s_ev_f un evP evK argT resAV lenOf_nils lenOf_imm lenOf_sl lenOf_str optI slcV binV isShift binInt binStr shiftInt pickV unV s_append s_alloc s_box s_bslice s_Bs_t s_Bs_f s_store1 s_storeN s_St1 s_St s_s2b s_markb s_Mk s_mkslice s_qbslice s_qs2b s_ret_n s_ret_r s_retc_n s_retc_r s_RV_nil s_RV_t s_RV_c s_RV1 tupOf fillC kn_int cl_int on_int kn_bool cl_bool on_bool kn_str cl_str on_str kn_nilp cl_nilp on_nilp kn_ptr cl_ptr on_ptr kn_iptr cl_iptr on_iptr kn_nils cl_nils on_nils kn_sl cl_sl on_sl kn_imm cl_imm on_imm kn_mp cl_mp on_mp kn_nilm cl_nilm on_nilm kn_fn cl_fn on_fn kn_nilf cl_nilf on_nilf kn_agg cl_agg scalEq flatEq eqV s_mkmap s_mset s_mdel mapOf s_Mg_n s_Mqg_n s_gw_b s_gw_u s_gw_gb s_gw_f
theorem p_NumAll (n : Nat) (hn : n < 2 ^ 64) (x : Int) (hx0 : IntKind.i64.min ≤ x) (hx1 : x ≤ IntKind.i64.max) (lb : List UInt8) (hlb : lb.length < 2 ^ 63) (lm : List UInt8) (hlm : lm.length < 2 ^ 63) :
    CP PP F_Rlaw1_NumAll [.int .u64 n, .int .i64 x, immB lb none, immB lm none] (fun v => v = .bool true) := by
  have hx0' : -9223372036854775808 ≤ x := hx0
  have hx1' : x < 9223372036854775808 := by have : x ≤ 9223372036854775807 := hx1
                                            omega
  refine CP.by_vc ok_Rlaw1_NumAll (by simp) ?_
  unfold c_Rlaw1_NumAll
  simp
  refine CallK.pure p_begun ?_
  rintro _ rfl
  simp [immB]
  refine CallK.pure (CP.imm (p_short (a := immB lb none) (.inr ⟨none, rfl⟩) 20 (by omega) hlb)) ?_
  rintro _ rfl
  have h20 : (lb.take 20).length ≤ 20 := by simp; omega
  generalize lb.take 20 = b at *
  simp [immB]
  refine CallK.pure (CP.imm (p_short (a := immB lm none) (.inr ⟨none, rfl⟩) 20 (by omega) hlm)) ?_
  rintro _ rfl
  have h20m : (lm.take 20).length ≤ 20 := by simp; omega
  generalize lm.take 20 = m at *
  have hz := zig_lt hx0' hx1'
  have el := enc_len64 hn
  have ez := enc_len64 hz
  simp [immB]
  refine CallK.pure (p_put (IsB.imm b none) n hn (by omega)) ?_
  rintro _ rfl
  simp [immB]
  refine CallK.pure (k_putInt (IsB.imm b none) x hx0' hx1' (by omega)) ?_
  rintro _ rfl
  simp [immB]
  refine app_row (IsB.imm b none) (by omega) ?_
  intro v1 H1 ho1 _
  simp [ho1.un]
  refine CallK.pure (p_rNum n hn) ?_
  rintro _ rfl
  simp [immB, ho1.un]
  refine app_hold ho1 (IsB.imm (enc n) none) (by omega) ?_
  intro H2 _
  simp [immB]
  refine CallK.pure (p_same (l := b ++ enc n) (m := b ++ enc n) (.inr ⟨none, by simp [immB]⟩) (.inr ⟨none, by simp [immB]⟩)) ?_
  rintro _ rfl
  simp [immB]
  refine app_row (IsB.imm b none) (by omega) ?_
  intro v3 H3 ho3 _
  simp [ho3.un]
  refine CallK.pure (p_rInt x hx0' hx1') ?_
  rintro _ rfl
  simp [immB, ho3.un]
  refine app_hold ho3 (IsB.imm (enc (zig x)) none) (by omega) ?_
  intro H4 _
  simp [immB]
  refine CallK.pure (p_same (l := b ++ enc (zig x)) (m := b ++ enc (zig x)) (.inr ⟨none, by simp [immB]⟩) (.inr ⟨none, by simp [immB]⟩)) ?_
  rintro _ rfl
  have d1 : List.drop b.length (bytesV (b ++ enc n)) = bytesV (enc n) := by rw [bytesV_append]; exact List.drop_left' (bytesV_length _)
  have d2 : List.drop b.length (bytesV (b ++ enc (zig x))) = bytesV (enc (zig x)) := by rw [bytesV_append]; exact List.drop_left' (bytesV_length _)
  have t1 : ∀ l : List UInt8, List.take l.length (bytesV l) = bytesV l := fun l => List.take_of_length_le (by rw [bytesV_length]; omega)
  have e1 : ∀ a c : Nat, ((a : Int) + (c : Int)).toNat - a = c := fun a c => by omega
  simp [immB, d1, t1, bytesV_length, e1]
  refine ⟨by omega, ?_⟩
  refine app_row (l := enc n) (.inr ⟨none, by simp [immB]⟩) (by omega) ?_
  intro v5 H5 ho5 _
  simp [ho5.un]
  refine app_hold ho5 (IsB.imm m none) (by omega) ?_
  intro H6 _
  simp [immB]
  refine CallK.pure (p_get (l := enc n ++ m) (.inr ⟨none, by simp [immB]⟩)) ?_
  rintro _ rfl
  simp [immB, resN, num_enc hn, e1, d2, t1, bytesV_length]
  refine ⟨by omega, ?_⟩
  refine app_row (l := enc (zig x)) (.inr ⟨none, by simp [immB]⟩) (by omega) ?_
  intro v7 H7 ho7 _
  simp [ho7.un]
  refine app_hold ho7 (IsB.imm m none) (by omega) ?_
  intro H8 _
  simp [immB]
  refine CallK.pure (p_getInt (l := enc (zig x) ++ m) (.inr ⟨none, by simp [immB]⟩)) ?_
  rintro _ rfl
  have w1 : ∀ a c : Nat, a ≤ 20 → c ≤ 10 → IntKind.i64.wrap ((a : Int) + (c : Int) - (a : Int)) = c := fun a c h1 h2 => by rw [wrap_i64 (by omega) (by omega)]; omega
  simp [immB, resN, resI, num_enc hz, zag_zig, e1, w1 _ _ h20 el, w1 _ _ h20 ez]
  refine CallK.pure (p_get (IsB.imm m none)) ?_
  rintro _ rfl
  simp [immB, resN]
  refine CallK.pure (p_rGet (IsB.imm m none)) ?_
  rintro _ rfl
  simp [immB, resN]
  refine CallK.pure (p_getInt (IsB.imm m none)) ?_
  rintro _ rfl
  simp [immB, resN, resI]
  refine CallK.pure (p_rGetInt (IsB.imm m none)) ?_
  rintro _ rfl
  simp [immB, resN, resI]
end Go.Proofs.Ytffifddlooligaa
