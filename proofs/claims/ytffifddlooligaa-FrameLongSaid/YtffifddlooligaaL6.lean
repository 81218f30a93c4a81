/- Texts of four thousand and ninety-six bytes, and not one more. -/
import Derived.Test.YtffifddlooligaaLF
set_option linter.unusedVariables false
set_option linter.unusedSimpArgs false
set_option maxRecDepth 100000
namespace Go.Proofs.Ytffifddlooligaa
open Go.Sf
attribute [local simp] s_skip s_ops s_draw s_any s_contA s_tdone s_ttwo s_top_p s_top_pick s_top_e s_top_g s_seq s_cond s_block s_loop s_exit s_ret s_mark s_then_n s_then_e s_then_r s_in_n s_in_e s_in_r s_contC s_contO s_contQ s_contT s_nil s_cons_p s_cons_pick s_cons_e s_cons_g s_qnil s_qcons_p s_qcons_pick s_qcons_e s_qcons_g s_M s_Mg s_Mq s_Mqg s_G_p s_G_pick s_G_e s_Gq_p s_Gq_pick s_Gq_e s_if s_call s_callv s_qcall s_qcallv s_getAll_nil s_getAll_cons s_put_some s_put_none s_ev_t s_ev_c s_ev_f un evP evK argT resAV lenOf_nils lenOf_imm lenOf_sl lenOf_str optI slcV binV isShift binInt binStr shiftInt pickV unV s_append s_alloc s_box s_bslice s_Bs_t s_Bs_f s_store1 s_storeN s_St1 s_St s_s2b s_markb s_Mk s_mkslice s_qbslice s_qs2b s_ret_n s_ret_r s_retc_n s_retc_r s_RV_nil s_RV_t s_RV_c s_RV1 tupOf fillC kn_int cl_int on_int kn_bool cl_bool on_bool kn_str cl_str on_str kn_nilp cl_nilp on_nilp kn_ptr cl_ptr on_ptr kn_iptr cl_iptr on_iptr kn_nils cl_nils on_nils kn_sl cl_sl on_sl kn_imm cl_imm on_imm kn_mp cl_mp on_mp kn_nilm cl_nilm on_nilm kn_fn cl_fn on_fn kn_nilf cl_nilf on_nilf kn_agg cl_agg scalEq flatEq eqV s_mkmap s_mset s_mdel mapOf s_Mg_n s_Mqg_n s_gw_b s_gw_u s_gw_gb s_gw_f
def I_fl (x N b : Nat) (k : Nat) (T : Nat → AV) (H : Heap) : Prop :=
  ∃ j : Nat, j + k = N ∧ T 0 = .int .i64 N ∧ T 1 = .int .u8 x ∧ T 6 = .sl b 0 N N ∧ T 23 = .int .i64 N ∧ T 24 = .int .i64 j ∧ H b = some (.cells (bytesV (List.replicate j (UInt8.ofNat x) ++ List.replicate k 0)) N)
theorem p_FrameLong (n : Int) (hn0 : IntKind.i64.min ≤ n) (hn1 : n ≤ IntKind.i64.max) (x : Nat) (hx : x < 256) : CP PP F_Rlaw1_FrameLong [.int .i64 n, .int .u8 x] (fun v => v = .bool true) := by
  have hn0' : -9223372036854775808 ≤ n := hn0
  have hn1' : n ≤ 9223372036854775807 := hn1
  refine CP.by_vc ok_Rlaw1_FrameLong (by simp) ?_
  unfold c_Rlaw1_FrameLong
  simp
  refine CallK.pure p_begun ?_
  rintro _ rfl
  obtain ⟨r, hr, hpl⟩ := place hn0' hn1' (n := 12) (by omega) (by omega)
  simp at hpl
  obtain ⟨N, hN, w1⟩ : ∃ N : Nat, N = 4090 + r ∧ IntKind.i64.wrap (4090 + (r : Int)) = (N : Int) := ⟨4090 + r, rfl, by rw [wrap_i64 (by omega) (by omega)]; omega⟩
  simp [hpl, w1]
  refine ⟨by omega, by omega, ?_⟩
  intro b hb
  simp
  refine LoopV.mk2 (I_fl x N b) N ⟨0, by omega, by simp, by simp, by simp, by simp, by simp, ?_⟩ ?_
  · simp [Heap.set_self, bytesV, byteV]
  rintro k T H ⟨j, hj, t0, t1, t6, t23, t24, hH⟩
  by_cases hk : k = 0
  · subst hk
    have hj' : j = N := by omega
    subst hj'
    simp [t0, t1, t6, t23, t24]
    simp at hH
    have hlen : (List.replicate j (UInt8.ofNat x)).length = j := by simp
    generalize List.replicate j (UInt8.ofNat x) = t at *
    refine MarkV.frz 6 (b := b) (n := j) (c := j) (k := j) (cs := bytesV t) (by simp [t6]) hH (by omega) ?_
    simp
    subst hlen
    have hll : (putL [7] [t]).length ≤ 2 ^ 40 := by
      unfold putL
      split
      · have := enc_len64 (n := t.length) (by omega)
        simp [frameL, le4_length]; omega
      · simp
    refine CallK.pure (CP.imm (p_framePut (l := [7]) (ls := [t]) (.inr ⟨some 1, rfl⟩) ?_ hll (by simp))) ?_
    · have := bb_one t none (some 1)
      simpa [immB] using this
    rintro _ rfl
    by_cases h4 : 4096 < t.length
    · have hp : putL [7] [t] = [7] := if_neg (fun h => by have := h t (by simp); omega)
      rw [hp]
      have h4' : ¬ (t.length : Int) ≤ 4096 := by omega
      simp [t0, t1, immB, h4, h4']
      intro _
      refine CallK.pure (p_same (l := [7]) (m := [7]) (.inr ⟨none, ?_⟩) (.inr ⟨some 1, rfl⟩)) ?_
      · simp [immB]
      rintro _ rfl
      simp
    · have hp : putL [7] [t] = 7 :: frameL t := by
        unfold putL; rw [if_pos (fun u hu => by simp at hu; subst hu; omega)]; simp
      have h4' : ¬ (4096 : Int) < t.length := by omega
      have hg := getFrame_frameL (t := t) (by omega) []
      rw [List.append_nil] at hg
      have hfl : (frameL t).length ≤ 2 ^ 40 := by rw [hp] at hll; simp at hll; omega
      rw [hp]
      simp [t0, t1, immB, h4, h4']
      refine ⟨⟨by omega, bytesV_length _⟩, ?_⟩
      refine CallK.pure (immF (p_frameGet (l := frameL t) (.inr ⟨none, ?_⟩) hfl)) ?_
      · simp only [immB, bytesV, List.map_cons, List.tail_cons]
        rw [List.take_of_length_le (by simp)]
      rw [hg]
      rintro _ rfl
      have w2 : IntKind.i64.wrap ((frameL t).length : Int) = (frameL t).length := wrap_i64 (by omega) (by omega)
      simp [immB, t0, t1, t6, w2]
      refine CallK.pure (p_same (l := t) (m := t) (.inr ⟨none, rfl⟩) (.inr ⟨none, rfl⟩)) ?_
      rintro _ rfl
      simp
  · have hlt : (j : Int) < N := by omega
    obtain ⟨k, rfl⟩ : ∃ k', k = k' + 1 := ⟨k - 1, by omega⟩
    simp [t0, t1, t6, t23, t24, hlt, hH]
    refine ⟨by simp [bytesV_length], ?_⟩
    have hs : (bytesV (List.replicate j (UInt8.ofNat x) ++ List.replicate (k + 1) 0)).set j (AV.int .u8 x) = bytesV (List.replicate (j + 1) (UInt8.ofNat x) ++ List.replicate k 0) := by
      rw [u8_ofNat hx]
      unfold bytesV
      rw [← List.map_set, List.set_append_right _ _ (by simp), List.replicate_succ' (n := j)]
      simp [List.replicate_succ]
    rw [hs]
    refine Again2.mk k (by omega) ⟨j + 1, by omega, by simp [t0], by simp [t1], by simp [t6], by simp [t23], ?_, Heap.set_self _ _ _⟩
    simp
    rw [wrap_i64 (by omega) (by omega)]
end Go.Proofs.Ytffifddlooligaa
