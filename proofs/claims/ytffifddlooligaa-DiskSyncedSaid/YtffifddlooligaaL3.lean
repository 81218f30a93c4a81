/- Laws of numbers and sums. -/
import Derived.Test.YtffifddlooligaaL1
set_option linter.unusedVariables false
set_option linter.unusedSimpArgs false
set_option maxRecDepth 100000
namespace Go.Sf
theorem enc_count (n : Nat) : (enc n).length = 1 + (if n / 128 = 0 then 0 else (enc (n / 128)).length) := by
  rcases Nat.lt_or_ge n 128 with h | h
  · rw [enc_lt h, if_pos (by omega)]; rfl
  · rw [enc_ge h, if_neg (by omega)]; simp only [List.length_cons]; omega
theorem xor_u8 {y x : Nat} (hy : y < 256) (hx : x < 256) : bitsOf .u8 (· ^^^ ·) (y : Int) (x : Int) = ((y ^^^ x : Nat) : Int) := by
  have hz : y ^^^ x < 2 ^ 8 := Nat.xor_lt_two_pow hy hx
  unfold bitsOf
  show IntKind.u8.wrap ((BitVec.ofInt IntKind.u8.bits (y : Int) ^^^ BitVec.ofInt IntKind.u8.bits (x : Int)).toNat : Int) = _
  have e : (BitVec.ofInt IntKind.u8.bits (y : Int) ^^^ BitVec.ofInt IntKind.u8.bits (x : Int)).toNat = y ^^^ x := by
    rw [BitVec.toNat_xor, BitVec.ofInt_natCast, BitVec.ofInt_natCast, BitVec.toNat_ofNat, BitVec.toNat_ofNat]
    show (y % 2 ^ 8) ^^^ (x % 2 ^ 8) = _
    rw [Nat.mod_eq_of_lt hy, Nat.mod_eq_of_lt hx]
  rw [e, wrap_u8 (by omega)]
theorem xor_ne {y x : Nat} (h : x ≠ 0) : y ^^^ x ≠ y := fun e => h (by
  have := congrArg (y ^^^ ·) e
  simp only [← Nat.xor_assoc, Nat.xor_self, Nat.zero_xor] at this
  exact this)
theorem own_sl {H : Heap} {n : Nat} {v : AV} {cs : List AV} (h : OwnR H 1 n v cs) (hn : 0 < n) : ∃ b c, v = .sl b 0 n c ∧ H b = some (.cells cs c) ∧ n ≤ c ∧ cs.length = n := by
  obtain ⟨hl, ⟨rfl, rfl⟩ | ⟨b, c, rfl, hb, hc⟩⟩ := h
  · omega
  · exact ⟨b, c, rfl, by simpa using hb, hc, by simpa using hl⟩
/-- A place in a row, out of any number. -/
theorem place {at' : Int} {n : Nat} (h0 : -9223372036854775808 ≤ at') (h1 : at' ≤ 9223372036854775807) (hn : 0 < n) (hn2 : n < 2 ^ 40) : ∃ i : Nat, i < n ∧ (IntKind.i64.wrap (at'.tmod n + n)).tmod n = i := by
  have hb : (at'.tmod n).natAbs < n := by
    have := Int.natAbs_tmod at' (n : Int)
    rw [this]; simp; exact Nat.mod_lt _ hn
  have hw : IntKind.i64.wrap (at'.tmod n + n) = at'.tmod n + n := wrap_i64 (by omega) (by omega)
  rw [hw]
  have hpos : 0 ≤ at'.tmod n + n := by omega
  obtain ⟨k, hk⟩ := Int.eq_ofNat_of_zero_le hpos
  rw [hk]
  exact ⟨k % n, Nat.mod_lt _ hn, rfl⟩
end Go.Sf
namespace Go.Proofs.Ytffifddlooligaa
open Go.Sf
attribute [local simp] s_skip s_ops s_draw s_any s_contA s_tdone s_ttwo s_top_p s_top_pick s_top_e s_top_g s_seq s_cond s_block s_loop s_exit s_ret s_mark s_then_n s_then_e s_then_r s_in_n s_in_e s_in_r s_contC s_contO s_contQ s_contT s_nil s_cons_p s_cons_pick s_cons_e s_cons_g s_qnil s_qcons_p s_qcons_pick s_qcons_e s_qcons_g s_M s_Mg s_Mq s_Mqg s_G_p s_G_pick s_G_e s_Gq_p s_Gq_pick s_Gq_e s_if s_call s_callv s_qcall s_qcallv s_getAll_nil s_getAll_cons s_put_some s_put_none s_ev_t s_ev_c s_ev_f un evP evK argT resAV lenOf_nils lenOf_imm lenOf_sl lenOf_str optI slcV binV isShift binInt binStr shiftInt pickV unV s_append s_alloc s_box s_bslice s_Bs_t s_Bs_f s_store1 s_storeN s_St1 s_St s_s2b s_markb s_Mk s_mkslice s_qbslice s_qs2b s_ret_n s_ret_r s_retc_n s_retc_r s_RV_nil s_RV_t s_RV_c s_RV1 tupOf fillC kn_int cl_int on_int kn_bool cl_bool on_bool kn_str cl_str on_str kn_nilp cl_nilp on_nilp kn_ptr cl_ptr on_ptr kn_iptr cl_iptr on_iptr kn_nils cl_nils on_nils kn_sl cl_sl on_sl kn_imm cl_imm on_imm kn_mp cl_mp on_mp kn_nilm cl_nilm on_nilm kn_fn cl_fn on_fn kn_nilf cl_nilf on_nilf kn_agg cl_agg scalEq flatEq eqV s_copy_i s_copy_s s_Cp s_clr s_clrn s_Cl s_appz s_Az s_ext s_Ov s_mapB s_mapBS s_rng s_rngn s_Rn s_nxt s_Nx0 s_ent s_mkmap s_mset s_mdel mapOf s_Mg_n s_Mqg_n s_gw_b s_gw_u s_gw_gb s_gw_f
def I_ns (w : AV) (L : Nat) (k : Nat) (T : Nat → AV) (H : Heap) : Prop :=
  ∃ c : Nat, T 4 = w ∧ T 5 = .int .i64 c ∧ T 6 = .int .u64 k ∧ k < 2 ^ 64 ∧ c + (if k = 0 then 0 else (enc k).length) = L ∧ H = Heap.nil
theorem p_NumShort (n : Nat) (hn : n < 2 ^ 64) : CP PP F_Rlaw1_NumShort [.int .u64 n] (fun v => v = .bool true) := by
  have el := enc_len64 hn
  have e1 : 1 ≤ (enc n).length := List.length_pos_iff.2 (enc_ne n)
  refine CP.by_vc ok_Rlaw1_NumShort (by simp) ?_
  unfold c_Rlaw1_NumShort
  simp
  refine CallK.pure p_begun ?_
  rintro _ rfl
  simp
  refine CallK.pure (p_put .nil n hn (by simp)) ?_
  rintro _ rfl
  have hl1 : ¬ ((enc n).length : Int) < 1 := by omega
  have hl2 : ¬ (10 : Int) < (enc n).length := by omega
  simp [immB, hl1, hl2, div128 hn]
  refine LoopV.mk2 (I_ns (immB (enc n) none) (enc n).length) (n / 128) ⟨1, by simp [immB], by simp, by simp; exact wrap_u64 (by omega) (by omega), by omega, (enc_count n).symm, rfl⟩ ?_
  rintro k T H ⟨c, t4, t5, t6, hk, hc, rfl⟩
  by_cases hk0 : k = 0
  · subst hk0
    simp [t4, t5, t6, immB]
    refine app_row (IsB.imm (enc n) none) (by omega) ?_
    intro v1 H1 ho1 _
    obtain ⟨b, cp, rfl, hb, hcp, hlen⟩ := own_sl ho1 (by omega)
    have w1 : IntKind.i64.wrap (((enc n).length : Int) - 1) = (((enc n).length - 1 : Nat) : Int) := by rw [wrap_i64 (by omega) (by omega)]; omega
    have hlt : (enc n).length - 1 < (enc n).length := by omega
    have hx := enc_last n
    have hgx : (bytesV (enc n))[(enc n).length - 1]? = some (byteV ((enc n).getD ((enc n).length - 1) 0)) := by
      simp [bytesV, List.getD_eq_getElem?_getD, List.getElem?_eq_getElem hlt]
    generalize hxv : (enc n).getD ((enc n).length - 1) 0 = xv at *
    have hor := or128 ⟨xv.toNat, hx⟩
    have hor' : bitsOf .u8 (· ||| ·) (xv.toNat : Int) 128 = ((xv.toNat + 128 : Nat) : Int) := hor
    have hset : (bytesV (enc n)).set ((enc n).length - 1) (AV.int .u8 ((xv.toNat + 128 : Nat) : Int)) = bytesV ((enc n).set ((enc n).length - 1) (UInt8.ofNat (xv.toNat + 128))) := by
      rw [u8_ofNat (by omega)]; unfold bytesV; rw [List.map_set]
    simp [w1, hb, hor', hgx, byteV]
    have hbl := bytesV_length (enc n)
    refine ⟨by omega, by omega, ?_⟩
    have hset2 : (bytesV (enc n)).set ((enc n).length - 1) (AV.int .u8 ((xv.toNat : Int) + 128)) = bytesV ((enc n).set ((enc n).length - 1) (UInt8.ofNat (xv.toNat + 128))) := hset
    rw [hset2]
    have hlen2 : ((enc n).set ((enc n).length - 1) (UInt8.ofNat (xv.toNat + 128))).length = (enc n).length := by simp
    refine app_hold (l := (enc n).set ((enc n).length - 1) (UInt8.ofNat (xv.toNat + 128))) (m := [0]) ⟨?_, .inr ⟨b, cp, ?_, ?_, ?_⟩⟩ (.inr ⟨some 1, rfl⟩) ?_ ?_
    · simp [bytesV_length]
    · rw [hlen2]
    · unfold Heap.set; simp
    · rw [hlen2]; exact hcp
    · rw [hlen2]; simp; omega
    intro H2 _
    simp [immB]
    refine CallK.pure (p_get (l := longN n) (.inr ⟨none, ?_⟩)) ?_
    · rw [longN_eq n, hxv]; simp [immB]
    rintro _ rfl
    simp at hc
    simp [resN, num_long hn, t4, t5, immB, hc]
  · have hkp : 0 < k := by omega
    simp [t4, t5, t6, hkp, div128 hk]
    rw [if_neg hk0] at hc
    have hcl := enc_len64 hk
    refine Again2.mk (k / 128) (by omega) ⟨c + 1, by simp [t4], ?_, by simp; exact wrap_u64 (by omega) (by omega), by omega, ?_, rfl⟩
    · simp; rw [wrap_i64 (by omega) (by omega)]
    · rw [enc_count k] at hc; omega
end Go.Proofs.Ytffifddlooligaa
