/- Sums: what they compute. -/
import Derived.Test.YtcpfodhhjkaibaaGreatK3
set_option linter.unusedVariables false
set_option linter.unusedSimpArgs false
set_option maxRecDepth 100000
namespace Go.Proofs.YtcpfodhhjkaibaaGreat
open Go.Sf
attribute [local simp] s_skip s_ops s_draw s_any s_contA s_tdone s_ttwo s_top_p s_top_pick s_top_e s_top_g s_seq s_cond s_block s_loop s_exit s_ret s_mark s_then_n s_then_e s_then_r s_in_n s_in_e s_in_r s_contC s_contO s_contQ s_contT s_nil s_cons_p s_cons_pick s_cons_e s_cons_g s_qnil s_qcons_p s_qcons_pick s_qcons_e s_qcons_g s_M s_Mg s_Mq s_Mqg s_G_p s_G_pick s_G_e s_Gq_p s_Gq_pick s_Gq_e s_if s_call s_callv s_qcall s_qcallv s_getAll_nil s_getAll_cons s_put_some s_put_none s_ev_t s_ev_c s_ev_f un evP evK argT resAV lenOf_nils lenOf_imm lenOf_sl lenOf_str optI slcV binV isShift binInt binStr shiftInt pickV unV s_append s_alloc s_box s_bslice s_Bs_t s_Bs_f s_store1 s_storeN s_St1 s_St s_s2b s_markb s_Mk s_mkslice s_qbslice s_qs2b s_ret_n s_ret_r s_retc_n s_retc_r s_RV_nil s_RV_t s_RV_c s_RV1 tupOf fillC kn_int cl_int on_int kn_bool cl_bool on_bool kn_str cl_str on_str kn_nilp cl_nilp on_nilp kn_ptr cl_ptr on_ptr kn_iptr cl_iptr on_iptr kn_nils cl_nils on_nils kn_sl cl_sl on_sl kn_imm cl_imm on_imm kn_mp cl_mp on_mp kn_nilm cl_nilm on_nilm kn_fn cl_fn on_fn kn_nilf cl_nilf on_nilf kn_agg cl_agg scalEq flatEq eqV s_copy_i s_copy_s s_Cp s_clr s_clrn s_Cl s_appz s_Az s_ext s_Ov s_mapB s_mapBS s_rng s_rngn s_Rn s_nxt s_Nx0 s_ent s_mkmap s_mset s_mdel mapOf s_Mg_n s_Mqg_n s_gw_b s_gw_u s_gw_gb s_gw_f
def SumAt (H : Heap) (b : Nat) (p : Nat × Nat) : Prop := H b = some (.cells [.int .u32 p.1, .int .u32 p.2] 2)
theorem k_sumNew : CC PP F_sum_New [] Heap.nil (fun v H' => ∃ b, v = .ptr b 0 ∧ SumAt H' b (1, 0)) := by
  refine CC.by_vc ok_sum_New (by simp) ?_
  unfold c_sum_New
  simp
  intro b hb
  simp
  unfold SumAt
  rw [Heap.set_self]; rfl
def I_addI (b : Nat) (parts : AV) (np j : Int) (a : AV) (l : List UInt8) (q : Nat × Nat) (k : Nat) (T : Nat → AV) (H : Heap) : Prop :=
  ∃ (i : Nat) (p : Nat × Nat), k + i = l.length ∧ T 0 = .ptr b 0 ∧ T 11 = parts ∧ T 12 = .int .i64 np ∧ T 13 = .int .i64 j ∧ T 17 = a ∧ T 18 = .int .i64 l.length ∧ T 19 = .int .i64 i ∧ okA p ∧ SumAt H b p ∧ (l.drop i).foldl stepA p = q
def I_addO (b : Nat) (parts : AV) (ls : List (List UInt8)) (q : Nat × Nat) (k : Nat) (T : Nat → AV) (H : Heap) : Prop :=
  ∃ (j : Nat) (p : Nat × Nat), k + j = ls.length ∧ T 0 = .ptr b 0 ∧ T 11 = parts ∧ T 12 = .int .i64 ls.length ∧ T 13 = .int .i64 j ∧ okA p ∧ SumAt H b p ∧ (ls.drop j).flatten.foldl stepA p = q
theorem k_sumAdd {H : Heap} {b : Nat} {p : Nat × Nat} {v : AV} {ls : List (List UInt8)} (hv : IsBB v ls) (hp : okA p) (hb : SumAt H b p) (hl : ls.length < 2 ^ 62) (hls : ∀ l ∈ ls, l.length < 2 ^ 62) :
    CC PP F_sum_Sum_Add [.ptr b 0, v] H (fun u H' => u = .ptr b 0 ∧ SumAt H' b (ls.flatten.foldl stepA p)) := by
  generalize hq : ls.flatten.foldl stepA p = q
  refine CC.by_vc ok_sum_Sum_Add (by simp) ?_
  unfold c_sum_Sum_Add
  rcases hv with ⟨rfl, rfl⟩ | ⟨vs, c, rfl, hlen, hvs⟩
  · simp
    refine LoopV.mk2 (I_addO b .nils [] q) 0 ⟨0, p, rfl, by simp, by simp, by simp, by simp, hp, hb, hq⟩ ?_
    rintro k T H ⟨j, p, hk, h0, h11, h12, h13, hp, hb, hq⟩
    have : j = 0 := by simp at hk; omega
    subst this
    simp at hq; subst hq
    simp [h0, h12, h13]
    exact hb
  · simp
    refine LoopV.mk2 (I_addO b (.imm vs ls.length c) ls q) ls.length ⟨0, p, rfl, by simp, by simp, by simp, by simp, hp, hb, hq⟩ ?_
    rintro k T H ⟨j, p, hk, h0, h11, h12, h13, hp, hb, hq⟩
    rcases Nat.lt_or_ge j ls.length with hj | hj
    · have hjv : vs[j]? = some vs[j] := by simp [hlen, hj]
      have hw := hvs j vs[j] ls[j] hjv (by simp [hj])
      have hll := hls ls[j] (List.getElem_mem hj)
      have hd : ls.drop j = ls[j] :: ls.drop (j + 1) := List.drop_eq_getElem_cons hj
      generalize vs[j] = w at hjv hw
      generalize ls[j] = l at hw hll hd
      rw [hd] at hq
      simp only [List.flatten_cons, List.foldl_append] at hq
      have hp' := okA.fold l hp
      obtain ⟨k', rfl⟩ : ∃ k', k = k' + 1 := ⟨k - 1, by omega⟩
      simp [h0, h11, h12, h13, hj, hjv, hw.un]
      rcases hw with ⟨rfl, rfl⟩ | ⟨cw, rfl⟩
      · simp
        refine LoopV.mk2 (I_addI b (.imm vs ls.length c) ls.length j .nils [] p) 0 ⟨0, p, rfl, by simp [h0], by simp [h11], by simp [h12], by simp [h13], by simp, by simp, by simp, hp, hb, rfl⟩ ?_
        rintro k T H ⟨i, p2, hk, h0, h11, h12, h13, h17, h18, h19, hp2, hb2, hq2⟩
        have hi : i = 0 := by simp at hk; omega
        subst hi
        simp [h0, h11, h12, h13, h17, h18, h19]
        simp at hq2; subst hq2
        refine Again2.mk k' (by omega) ⟨j + 1, p2, by omega, by simp [h0], by simp [h11], by simp [h12], ?_, hp2, hb2, hq⟩
        simp; rw [wrap_i64 (by omega) (by omega)]
      · simp [immB]
        refine LoopV.mk2 (I_addI b (.imm vs ls.length c) ls.length j (immB l cw) l (l.foldl stepA p)) l.length ⟨0, p, by omega, by simp [h0], by simp [h11], by simp [h12], by simp [h13], by simp [immB], by simp, by simp, hp, hb, rfl⟩ ?_
        rintro k T H ⟨i, p2, hk, h0, h11, h12, h13, h17, h18, h19, hp2, hb2, hq2⟩
        rcases Nat.lt_or_ge i l.length with hi | hi
        · have hd2 : l.drop i = l[i] :: l.drop (i + 1) := List.drop_eq_getElem_cons hi
          generalize hxe : l[i] = x at hd2
          have hbx : (bytesV l)[i]? = some (.int .u8 x.toNat) := by rw [bytesV_get hi, hxe]; rfl
          obtain ⟨k2, rfl⟩ : ∃ k2, k = k2 + 1 := ⟨k - 1, by omega⟩
          rw [hd2] at hq2
          simp only [List.foldl_cons] at hq2
          unfold SumAt at hb2
          simp [h0, h11, h12, h13, h17, h18, h19, immB, hbx, hi, hb2, Heap.set_self]
          rw [add_u32 x hp2.1, add_u32' (Nat.mod_lt _ (by omega)) hp2.2]
          refine Again2.mk k2 (by omega) ⟨i + 1, stepA p2 x, by omega, by simp [h0], by simp [h11], by simp [h12], by simp [h13], by simp [h17, immB], by simp [h18], ?_, okA.step x, Heap.set_self _ _ _, hq2⟩
          simp; rw [wrap_i64 (by omega) (by omega)]
        · obtain rfl : k = 0 := by omega
          rw [List.drop_of_length_le hi] at hq2
          simp at hq2
          simp [h0, h11, h12, h13, h17, h18, h19, show ¬ i < l.length by omega]
          refine Again2.mk k' (by omega) ⟨j + 1, p2, by omega, by simp [h0], by simp [h11], by simp [h12], ?_, hp2, hb2, by rw [hq2]; exact hq⟩
          simp; rw [wrap_i64 (by omega) (by omega)]
    · obtain rfl : k = 0 := by omega
      rw [List.drop_of_length_le hj] at hq
      simp at hq; subst hq
      simp [h0, h11, h12, h13, show ¬ j < ls.length by omega]
      exact hb
theorem shl16 {b : Nat} (h : b < 65521) : IntKind.u32.wrap ((b : Int) * 2 ^ Nat.min 16 IntKind.u32.bits) = ((b * 65536 : Nat) : Int) := by
  rw [show (2 : Int) ^ Nat.min 16 IntKind.u32.bits = 65536 from rfl, wrap_u32 (by omega) (by omega)]; omega
theorem or16 {a b : Nat} (h : a < 65521) (k : b < 65521) : bitsOf .u32 (· ||| ·) ((b * 65536 : Nat) : Int) (a : Int) = ((b * 65536 + a : Nat) : Int) := by
  have h3 := Nat.shiftLeft_add_eq_or_of_lt (show a < 2 ^ 16 by omega) b
  rw [Nat.shiftLeft_eq] at h3
  show IntKind.u32.wrap ((BitVec.ofInt 32 ((b * 65536 : Nat) : Int) ||| BitVec.ofInt 32 (a : Int)).toNat : Int) = _
  have e1 : (BitVec.ofInt 32 ((b * 65536 : Nat) : Int) ||| BitVec.ofInt 32 (a : Int)).toNat = b * 65536 + a := by
    rw [BitVec.toNat_or, BitVec.ofInt_natCast, BitVec.ofInt_natCast, BitVec.toNat_ofNat, BitVec.toNat_ofNat, Nat.mod_eq_of_lt (by omega), Nat.mod_eq_of_lt (by omega)]
    exact h3.symm
  rw [e1, wrap_u32 (by omega) (by omega)]
theorem k_sumVal {H : Heap} {b : Nat} {p : Nat × Nat} (hp : okA p) (hb : SumAt H b p) : CC PP F_sum_Sum_Value [.ptr b 0] H (fun u H' => u = .int .u32 (p.2 * 65536 + p.1 : Nat)) := by
  refine CC.by_vc ok_sum_Sum_Value (by simp) ?_
  unfold c_sum_Sum_Value
  unfold SumAt at hb
  simp [hb]
  rw [shl16 hp.2, or16 hp.1 hp.2]
  omega
theorem p_sumOf {v : AV} {ls : List (List UInt8)} (hv : IsBB v ls) (hl : ls.length < 2 ^ 62) (hls : ∀ l ∈ ls, l.length < 2 ^ 62) : CP PP F_sum_Of [v] (fun u => u = .int .u32 (sumL ls.flatten : Nat)) := by
  refine CP.by_vc ok_sum_Of (by simp) ?_
  unfold c_sum_Of
  simp [hv.un]
  refine CallK.of k_sumNew ?_
  rintro u H' ⟨b, rfl, hb⟩
  simp [hv.un]
  refine CallK.of (k_sumAdd hv ⟨by omega, by omega⟩ hb hl hls) ?_
  rintro u H' ⟨rfl, hb⟩
  simp
  refine CallK.of (k_sumVal (sumP_ok ls.flatten) hb) ?_
  rintro u H' rfl
  simp
  rfl
end Go.Proofs.YtcpfodhhjkaibaaGreat
