/- What stands behind the end of what one writes behind is not touched. -/
import Derived.Test.YtffifddlooligaaC5
import Derived.Test.YtffifddlooligaaKZ
import Derived.Test.YtffifddlooligaaL3
set_option linter.unusedVariables false
set_option linter.unusedSimpArgs false
set_option maxRecDepth 100000
namespace Go.Proofs.Ytffifddlooligaa
open Go.Sf
attribute [local simp] s_skip s_ops s_draw s_any s_contA s_tdone s_ttwo s_top_p s_top_pick s_top_e s_top_g s_seq s_cond s_block s_loop s_exit s_ret s_mark s_then_n s_then_e s_then_r s_in_n s_in_e s_in_r s_contC s_contO s_contQ s_contT s_nil s_cons_p s_cons_pick s_cons_e s_cons_g s_qnil s_qcons_p s_qcons_pick s_qcons_e s_qcons_g s_M s_Mg s_Mq s_Mqg s_G_p s_G_pick s_G_e s_Gq_p s_Gq_pick s_Gq_e s_if s_call s_callv s_qcall s_qcallv s_getAll_nil s_getAll_cons s_put_some s_put_none s_ev_t s_ev_c s_ev_f un evP evK argT resAV lenOf_nils lenOf_imm lenOf_sl lenOf_str optI slcV binV isShift binInt binStr shiftInt pickV unV s_append s_alloc s_box s_bslice s_Bs_t s_Bs_f s_store1 s_storeN s_St1 s_St s_s2b s_markb s_Mk s_mkslice s_qbslice s_qs2b s_ret_n s_ret_r s_retc_n s_retc_r s_RV_nil s_RV_t s_RV_c s_RV1 tupOf fillC kn_int cl_int on_int kn_bool cl_bool on_bool kn_str cl_str on_str kn_nilp cl_nilp on_nilp kn_ptr cl_ptr on_ptr kn_iptr cl_iptr on_iptr kn_nils cl_nils on_nils kn_sl cl_sl on_sl kn_imm cl_imm on_imm kn_mp cl_mp on_mp kn_nilm cl_nilm on_nilm kn_fn cl_fn on_fn kn_nilf cl_nilf on_nilf kn_agg cl_agg scalEq flatEq eqV s_mkmap s_mset s_mdel mapOf s_Mg_n s_Mqg_n s_gw_b s_gw_u s_gw_gb s_gw_f
theorem app_nil {b : AV} {l : List UInt8} {H : Heap} (hb : IsB b l) (hl : l.length ≤ 2 ^ 40) {d : Option Nat} {T : Nat → AV} {K : AS → Prop} (k : K ⟨put T d (immB l none), H⟩) :
    vcAp true 1 1 (appOld H 1 .nils) (cellsOf H 1 b) (lenOf .nils) (lenOf b) .nils d T H K := by
  rw [hb.cells, hb.len, lenOf_nils]
  simp only [appOld]
  rw [s_Ap_t]
  exact ⟨bytesV_one _, by omega, by simpa [immB, Heap.less] using k⟩
def I_own (b : List UInt8) (n : Nat) (x : Int) (s : ByteArray) (k : Nat) (T : Nat → AV) (H : Heap) : Prop :=
  ∃ j : Nat, j + k = 3 ∧ T 0 = immB b none ∧ T 1 = .int .u64 n ∧ T 2 = .int .i64 x ∧ T 3 = .str s ∧ T 34 = .imm [.int .i64 0, .int .i64 (b.length / 2 : Nat), .int .i64 b.length] 3 (some 3) ∧ T 35 = .int .i64 3 ∧ T 36 = .int .i64 j ∧ H = Heap.nil
theorem p_NumOwn (lb : List UInt8) (hlb : lb.length < 2 ^ 63) (n : Nat) (hn : n < 2 ^ 64) (x : Int) (hx0 : IntKind.i64.min ≤ x) (hx1 : x ≤ IntKind.i64.max) (s : ByteArray) (hs : s.size ≤ maxLen) :
    CP PP F_Rlaw1_NumOwn [immB lb none, .int .u64 n, .int .i64 x, .str s] (fun v => v = .bool true) := by
  have hs' : s.size < 2 ^ 63 := by have : s.size ≤ 9223372036854775807 := hs
                                   omega
  have hx0' : -9223372036854775808 ≤ x := hx0
  have hx1' : x < 9223372036854775808 := by have : x ≤ 9223372036854775807 := hx1
                                            omega
  refine CP.by_vc ok_Rlaw1_NumOwn (by simp) ?_
  unfold c_Rlaw1_NumOwn
  simp
  refine CallK.pure p_begun ?_
  rintro _ rfl
  simp [immB]
  refine CallK.pure (CP.imm (p_short (a := immB lb none) (.inr ⟨none, rfl⟩) 30 (by omega) hlb)) ?_
  rintro _ rfl
  have h20 : (lb.take 30).length ≤ 30 := by simp; omega
  generalize lb.take 30 = b at *
  simp [immB]
  refine CallK.pure (p_cut s 20 (by omega) hs') ?_
  rintro _ rfl
  have hsz : (s.extract 0 20).size ≤ 20 := by simp; omega
  generalize s.extract 0 20 = s at *
  simp [immB]
  refine LoopV.mk2 (I_own b n x s) 3 ⟨0, by omega, by simp [immB], by simp, by simp, by simp, ?_, by simp, by simp, rfl⟩ ?_
  · simp
    exact wrap_i64 (by omega) (by omega)
  rintro k T H ⟨j, hj, t0, t1, t2, t3, t34, t35, t36, rfl⟩
  by_cases hk : k = 0
  · subst hk
    have hj' : j = 3 := by omega
    subst hj'
    simp [t0, t1, t2, t3, t35, t36]
    refine CallK.pure (p_put (l := [0, 0, 0, 0]) (.inr ⟨some 64, rfl⟩) n hn (by simp)) ?_
    rintro _ rfl
    simp [immB, t1]
    have hw : ∃ n1 : Nat, n1 < 2 ^ 64 ∧ IntKind.u64.wrap ((n : Int) + 1) = n1 := by
      by_cases h : n + 1 < 2 ^ 64
      · exact ⟨n + 1, h, by rw [wrap_u64 (by omega) (by omega)]; omega⟩
      · exact ⟨0, by omega, by rw [show n = 2 ^ 64 - 1 by omega]; rfl⟩
    obtain ⟨n1, hn1, hw⟩ := hw
    rw [hw]
    refine CallK.pure (p_put (l := [0, 0, 0, 0]) (.inr ⟨some 64, rfl⟩) n1 hn1 (by simp)) ?_
    rintro _ rfl
    have l1 := List.length_pos_iff.2 (enc_ne n)
    have l2 := List.length_pos_iff.2 (enc_ne n1)
    have q1 : ¬ ((enc n).length : Int) + 4 < 5 := by omega
    have q2 : ¬ ((enc n1).length : Int) + 4 < 5 := by omega
    have e4 : ∀ a : Nat, ((a : Int) + 1 + 1 + 1 + 1).toNat - 4 = a := fun a => by omega
    have hd : ∀ m : List UInt8, List.drop 4 (bytesV (0 :: 0 :: 0 :: 0 :: m)) = bytesV m := fun m => rfl
    have ht : ∀ m : List UInt8, List.take m.length (bytesV m) = bytesV m := fun m => List.take_of_length_le (by rw [bytesV_length]; omega)
    have hne1 : num (enc n) = (n, (enc n).length, 0) := by have := num_enc hn []; rwa [List.append_nil] at this
    have hne2 : num (enc n1) = (n1, (enc n1).length, 0) := by have := num_enc hn1 []; rwa [List.append_nil] at this
    simp [immB, t1, q1, q2, hw, e4, hd, ht]
    refine ⟨by omega, fun _ _ => ⟨⟨by omega, by rw [bytesV_length]; rfl⟩, ?_⟩⟩
    refine CallK.pure (p_get (l := enc n) (.inr ⟨none, rfl⟩)) ?_
    rw [hne1]
    rintro _ rfl
    simp [resN, immB, e4, hd, ht]
    refine ⟨⟨by omega, by rw [bytesV_length]; rfl⟩, ?_⟩
    refine CallK.pure (p_get (l := enc n1) (.inr ⟨none, rfl⟩)) ?_
    rw [hne2]
    rintro _ rfl
    simp [resN, t1, hw]
  · have hlt : (j : Int) < 3 := by omega
    obtain ⟨q, hq, hqe⟩ : ∃ q : Nat, q ≤ b.length ∧ [AV.int .i64 0, .int .i64 (b.length / 2 : Nat), .int .i64 b.length][j]? = some (.int .i64 q) := by
      have h3 : j = 0 ∨ j = 1 ∨ j = 2 := by omega
      rcases h3 with rfl | rfl | rfl
      · exact ⟨0, by omega, rfl⟩
      · exact ⟨b.length / 2, by omega, rfl⟩
      · exact ⟨b.length, by omega, rfl⟩
    generalize hks : [AV.int .i64 0, .int .i64 (b.length / 2 : Nat), .int .i64 b.length] = ks at *
    simp [t0, t1, t2, t3, t34, t35, t36, hlt, hqe, immB]
    refine app_nil (IsB.imm b none) (by omega) ?_
    have htl : (b.take q).length = q := by simp; omega
    have hB : IsB (.imm (bytesV (b.take q)) q none) (b.take q) := .inr ⟨none, by simp only [immB, htl]⟩
    have hbt : List.take q (bytesV b) = bytesV (b.take q) := bytesV_take b q
    simp [immB, hbt, bytesV_length, t1]
    refine ⟨hq, ?_⟩
    refine CallK.pure (p_put hB n hn (by omega)) ?_
    rintro _ rfl
    simp [immB, hbt, bytesV_length, t2]
    refine ⟨hq, ?_⟩
    refine CallK.pure (k_putInt hB x hx0' hx1' (by omega)) ?_
    rintro _ rfl
    simp [immB, hbt, bytesV_length, t3]
    refine ⟨hq, ?_⟩
    refine CallK.pure (p_text hB s (by omega) (by omega)) ?_
    rintro _ rfl
    simp [immB, hbt, bytesV_length, t3]
    refine ⟨hq, ?_⟩
    have hbs : IsBB (.imm [.imm (s.data.toList.map byteV) s.size none] 1 (some 1)) [s.data.toList] := bb_one s.data.toList none (some 1)
    have hsl : s.data.toList.length = s.size := rfl
    refine CallK.pure (p_framePut (l := b.take q) (ls := [s.data.toList]) hB hbs ?_ (by simp)) ?_
    · have := enc_len64 (n := s.size) (by omega)
      unfold putL
      split
      · simp [frameL, le4_length, hsl]; omega
      · omega
    intro w6 hw6
    simp [hw6.un, immB, hbt, bytesV_length, t2]
    refine ⟨hq, ?_⟩
    refine CallK.pure (p_mutPut (ms := [⟨1, 0, 0, 0, 0, x⟩]) hB (.inr ⟨some 1, rfl⟩) ?_ (by simp; omega)) ?_
    · intro m hm
      simp at hm; subst hm
      intro y hy
      simp at hy
      rcases hy with rfl | rfl | rfl <;> omega
    intro w7 hw7
    simp [hw7.un, immB, hbt, bytesV_length, t0]
    refine ⟨hq, ?_⟩
    refine CallQ.of (p_same hB hB) ?_
    simp [t36]
    refine Again2.mk (k - 1) (by omega) ⟨j + 1, by omega, by simp [t0, immB], by simp [t1], by simp [t2], by simp [t3], by rw [hks]; simp [t34], by simp [t35], ?_, rfl⟩
    simp
    rw [wrap_i64 (by omega) (by omega)]
end Go.Proofs.Ytffifddlooligaa
