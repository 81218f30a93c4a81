/- The numbers' functions: what they compute. -/
import Derived.Test.YtcpfodhhjkaibaaGreatC0
import Derived.Test.YtcpfodhhjkaibaaGreatN1
set_option linter.unusedVariables false
set_option linter.unusedSimpArgs false
set_option maxRecDepth 100000
namespace Go.Proofs.YtcpfodhhjkaibaaGreat
open Go.Sf
attribute [local simp] s_skip s_ops s_draw s_any s_contA s_tdone s_ttwo s_top_p s_top_pick s_top_e s_top_g s_seq s_cond s_block s_loop s_exit s_ret s_mark s_then_n s_then_e s_then_r s_in_n s_in_e s_in_r s_contC s_contO s_contQ s_contT s_nil s_cons_p s_cons_pick s_cons_e s_cons_g s_qnil s_qcons_p s_qcons_pick s_qcons_e s_qcons_g s_M s_Mg s_Mq s_Mqg s_G_p s_G_pick s_G_e s_Gq_p s_Gq_pick s_Gq_e s_if s_call s_callv s_qcall s_qcallv s_getAll_nil s_getAll_cons s_put_some s_put_none s_ev_t s_ev_c s_ev_f un evP evK argT resAV lenOf_nils lenOf_imm lenOf_sl lenOf_str optI slcV binV isShift binInt binStr shiftInt pickV unV s_append s_alloc s_box s_bslice s_Bs_t s_Bs_f s_store1 s_storeN s_St1 s_St s_s2b s_markb s_Mk s_mkslice s_qbslice s_qs2b s_ret_n s_ret_r s_retc_n s_retc_r s_RV_nil s_RV_t s_RV_c s_RV1 tupOf fillC kn_int cl_int on_int kn_bool cl_bool on_bool kn_str cl_str on_str kn_nilp cl_nilp on_nilp kn_ptr cl_ptr on_ptr kn_iptr cl_iptr on_iptr kn_nils cl_nils on_nils kn_sl cl_sl on_sl kn_imm cl_imm on_imm kn_mp cl_mp on_mp kn_nilm cl_nilm on_nilm kn_fn cl_fn on_fn kn_nilf cl_nilf on_nilf kn_agg cl_agg scalEq flatEq eqV s_copy_i s_copy_s s_Cp s_clr s_clrn s_Cl s_appz s_Az s_ext s_Ov s_mapB s_mapBS s_rng s_rngn s_Rn s_nxt s_Nx0 s_ent s_mkmap s_mset s_mdel mapOf s_Mg_n s_Mqg_n s_gw_b s_gw_u s_gw_gb s_gw_f
theorem k_clip {a : AV} {l : List UInt8} (ha : IsB a l) : CC PP F_slices_Clip_byte_byte [a] Heap.nil fun v H' => H' = Heap.nil ∧ RowR Heap.nil 1 l.length v (bytesV l) := by
  refine CC.by_vc ok_slices_Clip_byte_byte (by simp) ?_
  unfold c_slices_Clip_byte_byte
  rcases ha with ⟨rfl, rfl⟩ | ⟨c, rfl⟩
  · simp
    exact .inl ⟨rfl, .inl ⟨rfl, rfl⟩⟩
  · simp [immB, bytesV_length]
    refine .inr ⟨by simp [bytesV_length], ?_⟩
    rw [List.take_of_length_le (by simp [bytesV_length])]
def I_put (w : List UInt8) (k : Nat) (T : Nat → AV) (H : Heap) : Prop :=
  ∃ (pre : List UInt8) (v : AV), k < 2 ^ 64 ∧ T 0 = v ∧ T 1 = .int .u64 k ∧ RowR H 1 pre.length v (bytesV pre) ∧ pre ++ enc k = w
theorem k_put {a : AV} {l : List UInt8} (ha : IsB a l) (n : Nat) (hn : n < 2 ^ 64) (hl : l.length ≤ 2 ^ 40) : CC PP F_num_Put [a, .int .u64 n] Heap.nil fun v H' => OwnR H' 1 (l ++ enc n).length v (bytesV (l ++ enc n)) := by
  have hlen := enc_len64 hn
  have hw : (l ++ enc n).length ≤ 2 ^ 40 + 10 := by rw [List.length_append]; omega
  generalize hwe : l ++ enc n = w at *
  refine CC.by_vc ok_num_Put (by simp) ?_
  unfold c_num_Put
  simp [ha.un]
  refine CallK.of (k_clip ha) ?_
  rintro v H' ⟨rfl, hv⟩
  simp [hv.un]
  refine LoopV.mk2 (I_put w) n ⟨l, v, hn, by simp, by simp, hv, hwe⟩ ?_
  rintro k T H ⟨pre, v, hm, h0, h1, hr, he⟩
  have hk10 := enc_len64 hm
  have hpl : pre.length + (enc k).length = w.length := by rw [← he, List.length_append]
  simp [h0, h1, hr.un]
  refine ⟨fun hk => ?_, fun hk => ?_⟩
  · have hk : 128 ≤ k := by omega
    rw [put_byte, u8_ofNat (show k % 128 + 128 < 256 by omega)]
    have hek : enc k = UInt8.ofNat (k % 128 + 128) :: enc (k / 128) := enc_ge hk
    generalize UInt8.ofNat (k % 128 + 128) = x at hek ⊢
    refine vcAp_row hr (new := bytesV [x]) (m := 1) rfl rfl rfl (by omega) (bytesV_one _) (by omega) (.inl (by simp [bytesV])) ?_
    intro v' H' ho _ _
    simp [ho.un, h1]
    refine Again2.mk (k / 128) (by omega) ⟨pre ++ [x], v', by omega, by simp, ?_, ?_, ?_⟩
    · simp; rw [show (2 : Int) ^ Nat.min 7 IntKind.u64.bits = 128 from rfl, Int.fdiv_eq_ediv_of_nonneg _ (by omega)]
    · rw [bytesV_append]; exact Or.inl (by simpa using ho)
    · rw [← he, hek]; simp
  · have hk : k < 128 := by omega
    rw [wrap_u8 (by omega), u8_ofNat (by omega)]
    refine vcAp_row hr (new := bytesV [UInt8.ofNat k]) (m := 1) rfl rfl rfl (by omega) (bytesV_one _) (by omega) (.inl (by simp [bytesV])) ?_
    intro v' H' ho _ _
    simp [ho.un]
    rw [enc_lt hk] at he
    rw [← he, bytesV_append]; simpa using ho
theorem p_put {a : AV} {l : List UInt8} (ha : IsB a l) (n : Nat) (hn : n < 2 ^ 64) (hl : l.length ≤ 2 ^ 40) : CP PP F_num_Put [a, .int .u64 n] (fun v => v = immB (l ++ enc n) none) := CP.hold (k_put ha n hn hl)
def I_get (a : AV) (l : List UInt8) (k : Nat) (T : Nat → AV) (H : Heap) : Prop :=
  ∃ (i n : Nat), k + i = 10 ∧ i ≤ l.length ∧ n < 128 ^ i ∧ T 0 = a ∧ T 5 = .int .u64 n ∧ T 8 = .int .i64 i ∧ getN k i n (l.drop i) = num l
def resN (r : Nat × Nat × Nat) : AV := .tup [.int .u64 r.1, .int .i64 r.2.1, .int .i64 r.2.2]
theorem p_get {a : AV} {l : List UInt8} (ha : IsB a l) : CP PP F_num_Get [a] (fun v => v = resN (num l)) := by
  rcases ha with ⟨rfl, rfl⟩ | ⟨c, rfl⟩
  · refine CP.by_vc ok_num_Get (by simp) ?_
    unfold c_num_Get
    simp
    refine LoopV.mk2 (I_get .nils []) 10 ⟨0, 0, rfl, by simp, by omega, by simp, by simp, by simp, rfl⟩ ?_
    rintro k T H ⟨i, n, hk, hil, hn, h0, h5, h8, hg⟩
    have : i = 0 := by simpa using hil
    subst this
    simp [h0, h5, h8]
    rfl
  · refine CP.by_vc ok_num_Get (by simp) ?_
    unfold c_num_Get
    simp [immB]
    refine LoopV.mk2 (I_get (immB l c) l) 10 ⟨0, 0, rfl, by omega, by omega, by simp [immB], by simp, by simp, rfl⟩ ?_
    rintro k T H ⟨i, n, hk, hil, hn, h0, h5, h8, hg⟩
    rcases Nat.lt_or_ge i l.length with hlt | hge
    · have hd : l.drop i = l[i] :: l.drop (i + 1) := List.drop_eq_getElem_cons hlt
      generalize hxe : l[i] = x at hd
      have hb : (bytesV l)[i]? = some (.int .u8 x.toNat) := by rw [bytesV_get hlt, hxe]; rfl
      simp [h0, h5, h8, immB, hb, hlt]
      have hi : (i : Int) < 10 → i < 10 := by omega
      rw [hd] at hg
      refine ⟨fun h10 => ⟨fun h => by omega, by rw [get_sh (hi h10)]; omega, fun h9 hx => ?_, fun hx9 => ⟨fun hx => ?_, fun hx => ⟨fun h0' hl => ?_, fun hl => ?_⟩⟩⟩, fun h10 => ?_⟩
      · obtain ⟨rfl, rfl⟩ : i = 9 ∧ k = 1 := by omega
        rw [← hg]; simp [getN, show 1 < x.toNat by omega]; rfl
      · obtain ⟨j, rfl⟩ : ∃ j, k = j + 1 := ⟨k - 1, by omega⟩
        have hx9' : i = 9 → x.toNat ≤ 1 := fun h => by have := hx9 (by omega); omega
        have hi9 : i ≠ 9 := fun h => by have := hx9' h; omega
        refine Again2.mk j (by omega) ⟨i + 1, n + x.toNat % 128 * 128 ^ i, by omega, by omega, ?_, by simp [immB, h0], ?_, ?_, ?_⟩
        · rw [Nat.pow_succ]
          have : x.toNat % 128 * 128 ^ i ≤ 127 * 128 ^ i := Nat.mul_le_mul_right _ (by omega)
          omega
        · simp only [s_put_some, put]; simp [tset]; rw [get_or x (hi h10) hn hx9']; push_cast; rfl
        · simp; rw [wrap_i64 (by omega) (by omega)]
        · rw [← hg]; simp [getN, hi9, show 128 ≤ x.toNat by omega]
      · obtain ⟨j, rfl⟩ : ∃ j, k = j + 1 := ⟨k - 1, by omega⟩
        have hx9' : i = 9 → x.toNat ≤ 1 := fun h => by have := hx9 (by omega); omega
        rw [get_low] at hl
        have hn9 : ¬ (i = 9 ∧ 1 < x.toNat) := fun h => by have := hx9' h.1; omega
        rw [← hg]; unfold getN; rw [if_neg hn9, if_neg (by omega), if_pos ⟨h0', by omega⟩]; rfl
      · obtain ⟨j, rfl⟩ : ∃ j, k = j + 1 := ⟨k - 1, by omega⟩
        have hx9' : i = 9 → x.toNat ≤ 1 := fun h => by have := hx9 (by omega); omega
        rw [get_low] at hl
        have hn9 : ¬ (i = 9 ∧ 1 < x.toNat) := fun h => by have := hx9' h.1; omega
        rw [get_or x (hi h10) hn hx9', wrap_i64 (by omega) (by omega)]
        rw [← hg]; unfold getN; rw [if_neg hn9, if_neg (by omega), if_neg (fun h => hl h.1 (by omega))]; rfl
      · obtain rfl : k = 0 := by omega
        rw [← hg]; rfl
    · have : i = l.length := by omega
      subst this
      simp [h0, h5, h8, immB]
      refine ⟨fun h10 => ?_, fun h10 => ?_⟩
      · obtain ⟨j, rfl⟩ : ∃ j, k = j + 1 := ⟨k - 1, by omega⟩
        rw [← hg, List.drop_length]; rfl
      · obtain rfl : k = 0 := by omega
        rw [← hg]; rfl
theorem k_putInt {a : AV} {l : List UInt8} (ha : IsB a l) (x : Int) (h0 : -9223372036854775808 ≤ x) (h : x < 9223372036854775808) (hl : l.length ≤ 2 ^ 40) : CP PP F_num_PutInt [a, .int .i64 x] (fun v => v = immB (l ++ enc (zig x)) none) := by
  refine CP.by_vc ok_num_PutInt (by simp) ?_
  unfold c_num_PutInt
  simp [ha.un]
  rw [show (2 : Int) ^ Nat.min 1 IntKind.u64.bits = 2 from rfl, show (2 : Int) ^ Nat.min 63 IntKind.i64.bits = 9223372036854775808 from rfl]
  rw [zig_xor h0 h]
  refine CallK.pure (p_put ha _ (zig_lt h0 h) hl) ?_
  rintro v rfl
  simp [immB]
def resI (r : Nat × Nat × Nat) : AV := .tup [.int .i64 (zag r.1), .int .i64 r.2.1, .int .i64 r.2.2]
theorem p_getInt {a : AV} {l : List UInt8} (ha : IsB a l) : CP PP F_num_GetInt [a] (fun v => v = resI (num l)) := by
  refine CP.by_vc ok_num_GetInt (by simp) ?_
  unfold c_num_GetInt
  simp [ha.un]
  refine CallK.pure (p_get ha) ?_
  rintro v rfl
  simp [resN, resI]
  rw [show (2 : Int) ^ Nat.min 1 IntKind.u64.bits = 2 from rfl, zag_xor (num_lt l)]
end Go.Proofs.YtcpfodhhjkaibaaGreat
