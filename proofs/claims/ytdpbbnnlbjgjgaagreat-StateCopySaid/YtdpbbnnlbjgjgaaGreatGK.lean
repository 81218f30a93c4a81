/- The numbers' functions: what they compute. The reference's numbers: what they compute. The laws' own helpers: what they compute. Sums: what they compute. The reference's sum, and the frames: what they compute. Frames written. Slices compared; frames read. Changes. Changes written; a reader of small numbers. Changes read. Disks: what is done to files, what is noted. Disks: files by their names. -/
import Derived.Test.YtdpbbnnlbjgjgaaGreatC0
import Derived.Test.YtdpbbnnlbjgjgaaGreatN1
import Derived.Test.YtdpbbnnlbjgjgaaGreatC2
import Derived.Test.YtdpbbnnlbjgjgaaGreatC3
set_option linter.unusedVariables false
set_option linter.unusedSimpArgs false
set_option maxRecDepth 100000
open Go.Sf
attribute [local simp] s_skip s_ops s_draw s_any s_contA s_tdone s_ttwo s_top_p s_top_pick s_top_e s_top_g s_seq s_cond s_block s_loop s_exit s_ret s_mark s_then_n s_then_e s_then_r s_in_n s_in_e s_in_r s_contC s_contO s_contQ s_contT s_nil s_cons_p s_cons_pick s_cons_e s_cons_g s_qnil s_qcons_p s_qcons_pick s_qcons_e s_qcons_g s_M s_Mg s_Mq s_Mqg s_G_p s_G_pick s_G_e s_Gq_p s_Gq_pick s_Gq_e s_if s_call s_callv s_qcall s_qcallv s_getAll_nil s_getAll_cons s_put_some s_put_none s_ev_t s_ev_c s_ev_f un evP evK argT resAV lenOf_nils lenOf_imm lenOf_sl lenOf_str optI slcV binV isShift binInt binStr shiftInt pickV unV s_append s_alloc s_box s_bslice s_Bs_t s_Bs_f s_store1 s_storeN s_St1 s_St s_s2b s_markb s_Mk s_mkslice s_qbslice s_qs2b s_ret_n s_ret_r s_retc_n s_retc_r s_RV_nil s_RV_t s_RV_c s_RV1 tupOf fillC kn_int cl_int on_int kn_bool cl_bool on_bool kn_str cl_str on_str kn_nilp cl_nilp on_nilp kn_ptr cl_ptr on_ptr kn_iptr cl_iptr on_iptr kn_nils cl_nils on_nils kn_sl cl_sl on_sl kn_imm cl_imm on_imm kn_mp cl_mp on_mp kn_nilm cl_nilm on_nilm kn_fn cl_fn on_fn kn_nilf cl_nilf on_nilf kn_agg cl_agg scalEq flatEq eqV s_copy_i s_copy_s s_Cp s_clr s_clrn s_Cl s_appz s_Az s_ext s_Ov s_mapB s_mapBS s_rng s_rngn s_Rn s_nxt s_Nx0 s_ent s_mkmap s_mset s_mdel mapOf s_Mg_n s_Mqg_n s_gw_b s_gw_u s_gw_gb s_gw_f
namespace Go.Proofs.YtdpbbnnlbjgjgaaGreat
open Go.Sf
theorem k_clip {a : AV} {l : List UInt8} (ha : IsB a l) : CC PP F_slices_Clip_byte_byte [a] Heap.nil fun v H' => H' = Heap.nil ∧ RowR Heap.nil 1 l.length v (bytesV l) := by
  refine CC.by_vc ok_slices_Clip_byte_byte (by simp) ?_
  unfold c_slices_Clip_byte_byte
  rcases ha with ⟨rfl, rfl⟩ | ⟨c, rfl⟩
  · simp
    exact .inl ⟨rfl, .inl ⟨rfl, rfl⟩⟩
  · simp [immB, bytesV_length]
    refine .inr ⟨by simp [bytesV_length], ?_⟩
    rw [List.take_of_length_le (by simp [bytesV_length])]
def I_put (w : List UInt8) (k : Nat) (T : Nat → AV) (H : Heap) : Prop :=
  ∃ (pre : List UInt8) (v : AV), k < 2 ^ 64 ∧ T 0 = v ∧ T 1 = .int .u64 k ∧ RowR H 1 pre.length v (bytesV pre) ∧ pre ++ enc k = w
theorem k_put {a : AV} {l : List UInt8} (ha : IsB a l) (n : Nat) (hn : n < 2 ^ 64) (hl : l.length ≤ 2 ^ 40) : CC PP F_num_Put [a, .int .u64 n] Heap.nil fun v H' => OwnR H' 1 (l ++ enc n).length v (bytesV (l ++ enc n)) := by
  have hlen := enc_len64 hn
  have hw : (l ++ enc n).length ≤ 2 ^ 40 + 10 := by rw [List.length_append]; omega
  generalize hwe : l ++ enc n = w at *
  refine CC.by_vc ok_num_Put (by simp) ?_
  unfold c_num_Put
  simp [ha.un]
  refine CallK.of (k_clip ha) ?_
  rintro v H' ⟨rfl, hv⟩
  simp [hv.un]
  refine LoopV.mk2 (I_put w) n ⟨l, v, hn, by simp, by simp, hv, hwe⟩ ?_
  rintro k T H ⟨pre, v, hm, h0, h1, hr, he⟩
  have hk10 := enc_len64 hm
  have hpl : pre.length + (enc k).length = w.length := by rw [← he, List.length_append]
  simp [h0, h1, hr.un]
  refine ⟨fun hk => ?_, fun hk => ?_⟩
  · have hk : 128 ≤ k := by omega
    rw [put_byte, u8_ofNat (show k % 128 + 128 < 256 by omega)]
    have hek : enc k = UInt8.ofNat (k % 128 + 128) :: enc (k / 128) := enc_ge hk
    generalize UInt8.ofNat (k % 128 + 128) = x at hek ⊢
    refine vcAp_row hr (new := bytesV [x]) (m := 1) rfl rfl rfl (by omega) (bytesV_one _) (by omega) (.inl (by simp [bytesV])) ?_
    intro v' H' ho _ _
    simp [ho.un, h1]
    refine Again2.mk (k / 128) (by omega) ⟨pre ++ [x], v', by omega, by simp, ?_, ?_, ?_⟩
    · simp; rw [show (2 : Int) ^ Nat.min 7 IntKind.u64.bits = 128 from rfl, Int.fdiv_eq_ediv_of_nonneg _ (by omega)]
    · rw [bytesV_append]; exact Or.inl (by simpa using ho)
    · rw [← he, hek]; simp
  · have hk : k < 128 := by omega
    rw [wrap_u8 (by omega), u8_ofNat (by omega)]
    refine vcAp_row hr (new := bytesV [UInt8.ofNat k]) (m := 1) rfl rfl rfl (by omega) (bytesV_one _) (by omega) (.inl (by simp [bytesV])) ?_
    intro v' H' ho _ _
    simp [ho.un]
    rw [enc_lt hk] at he
    rw [← he, bytesV_append]; simpa using ho
theorem p_put {a : AV} {l : List UInt8} (ha : IsB a l) (n : Nat) (hn : n < 2 ^ 64) (hl : l.length ≤ 2 ^ 40) : CP PP F_num_Put [a, .int .u64 n] (fun v => v = immB (l ++ enc n) none) := CP.hold (k_put ha n hn hl)
def I_get (a : AV) (l : List UInt8) (k : Nat) (T : Nat → AV) (H : Heap) : Prop :=
  ∃ (i n : Nat), k + i = 10 ∧ i ≤ l.length ∧ n < 128 ^ i ∧ T 0 = a ∧ T 5 = .int .u64 n ∧ T 8 = .int .i64 i ∧ getN k i n (l.drop i) = num l
def resN (r : Nat × Nat × Nat) : AV := .tup [.int .u64 r.1, .int .i64 r.2.1, .int .i64 r.2.2]
theorem p_get {a : AV} {l : List UInt8} (ha : IsB a l) : CP PP F_num_Get [a] (fun v => v = resN (num l)) := by
  rcases ha with ⟨rfl, rfl⟩ | ⟨c, rfl⟩
  · refine CP.by_vc ok_num_Get (by simp) ?_
    unfold c_num_Get
    simp
    refine LoopV.mk2 (I_get .nils []) 10 ⟨0, 0, rfl, by simp, by omega, by simp, by simp, by simp, rfl⟩ ?_
    rintro k T H ⟨i, n, hk, hil, hn, h0, h5, h8, hg⟩
    have : i = 0 := by simpa using hil
    subst this
    simp [h0, h5, h8]
    rfl
  · refine CP.by_vc ok_num_Get (by simp) ?_
    unfold c_num_Get
    simp [immB]
    refine LoopV.mk2 (I_get (immB l c) l) 10 ⟨0, 0, rfl, by omega, by omega, by simp [immB], by simp, by simp, rfl⟩ ?_
    rintro k T H ⟨i, n, hk, hil, hn, h0, h5, h8, hg⟩
    rcases Nat.lt_or_ge i l.length with hlt | hge
    · have hd : l.drop i = l[i] :: l.drop (i + 1) := List.drop_eq_getElem_cons hlt
      generalize hxe : l[i] = x at hd
      have hb : (bytesV l)[i]? = some (.int .u8 x.toNat) := by rw [bytesV_get hlt, hxe]; rfl
      simp [h0, h5, h8, immB, hb, hlt]
      have hi : (i : Int) < 10 → i < 10 := by omega
      rw [hd] at hg
      refine ⟨fun h10 => ⟨fun h => by omega, by rw [get_sh (hi h10)]; omega, fun h9 hx => ?_, fun hx9 => ⟨fun hx => ?_, fun hx => ⟨fun h0' hl => ?_, fun hl => ?_⟩⟩⟩, fun h10 => ?_⟩
      · obtain ⟨rfl, rfl⟩ : i = 9 ∧ k = 1 := by omega
        rw [← hg]; simp [getN, show 1 < x.toNat by omega]; rfl
      · obtain ⟨j, rfl⟩ : ∃ j, k = j + 1 := ⟨k - 1, by omega⟩
        have hx9' : i = 9 → x.toNat ≤ 1 := fun h => by have := hx9 (by omega); omega
        have hi9 : i ≠ 9 := fun h => by have := hx9' h; omega
        refine Again2.mk j (by omega) ⟨i + 1, n + x.toNat % 128 * 128 ^ i, by omega, by omega, ?_, by simp [immB, h0], ?_, ?_, ?_⟩
        · rw [Nat.pow_succ]
          have : x.toNat % 128 * 128 ^ i ≤ 127 * 128 ^ i := Nat.mul_le_mul_right _ (by omega)
          omega
        · simp only [s_put_some, put]; simp [tset]; rw [get_or x (hi h10) hn hx9']; push_cast; rfl
        · simp; rw [wrap_i64 (by omega) (by omega)]
        · rw [← hg]; simp [getN, hi9, show 128 ≤ x.toNat by omega]
      · obtain ⟨j, rfl⟩ : ∃ j, k = j + 1 := ⟨k - 1, by omega⟩
        have hx9' : i = 9 → x.toNat ≤ 1 := fun h => by have := hx9 (by omega); omega
        rw [get_low] at hl
        have hn9 : ¬ (i = 9 ∧ 1 < x.toNat) := fun h => by have := hx9' h.1; omega
        rw [← hg]; unfold getN; rw [if_neg hn9, if_neg (by omega), if_pos ⟨h0', by omega⟩]; rfl
      · obtain ⟨j, rfl⟩ : ∃ j, k = j + 1 := ⟨k - 1, by omega⟩
        have hx9' : i = 9 → x.toNat ≤ 1 := fun h => by have := hx9 (by omega); omega
        rw [get_low] at hl
        have hn9 : ¬ (i = 9 ∧ 1 < x.toNat) := fun h => by have := hx9' h.1; omega
        rw [get_or x (hi h10) hn hx9', wrap_i64 (by omega) (by omega)]
        rw [← hg]; unfold getN; rw [if_neg hn9, if_neg (by omega), if_neg (fun h => hl h.1 (by omega))]; rfl
      · obtain rfl : k = 0 := by omega
        rw [← hg]; rfl
    · have : i = l.length := by omega
      subst this
      simp [h0, h5, h8, immB]
      refine ⟨fun h10 => ?_, fun h10 => ?_⟩
      · obtain ⟨j, rfl⟩ : ∃ j, k = j + 1 := ⟨k - 1, by omega⟩
        rw [← hg, List.drop_length]; rfl
      · obtain rfl : k = 0 := by omega
        rw [← hg]; rfl
theorem k_putInt {a : AV} {l : List UInt8} (ha : IsB a l) (x : Int) (h0 : -9223372036854775808 ≤ x) (h : x < 9223372036854775808) (hl : l.length ≤ 2 ^ 40) : CP PP F_num_PutInt [a, .int .i64 x] (fun v => v = immB (l ++ enc (zig x)) none) := by
  refine CP.by_vc ok_num_PutInt (by simp) ?_
  unfold c_num_PutInt
  simp [ha.un]
  rw [show (2 : Int) ^ Nat.min 1 IntKind.u64.bits = 2 from rfl, show (2 : Int) ^ Nat.min 63 IntKind.i64.bits = 9223372036854775808 from rfl]
  rw [zig_xor h0 h]
  refine CallK.pure (p_put ha _ (zig_lt h0 h) hl) ?_
  rintro v rfl
  simp [immB]
def resI (r : Nat × Nat × Nat) : AV := .tup [.int .i64 (zag r.1), .int .i64 r.2.1, .int .i64 r.2.2]
theorem p_getInt {a : AV} {l : List UInt8} (ha : IsB a l) : CP PP F_num_GetInt [a] (fun v => v = resI (num l)) := by
  refine CP.by_vc ok_num_GetInt (by simp) ?_
  unfold c_num_GetInt
  simp [ha.un]
  refine CallK.pure (p_get ha) ?_
  rintro v rfl
  simp [resN, resI]
  rw [show (2 : Int) ^ Nat.min 1 IntKind.u64.bits = 2 from rfl, zag_xor (num_lt l)]
end Go.Proofs.YtdpbbnnlbjgjgaaGreat
set_option linter.unusedVariables false
set_option linter.unusedSimpArgs false
set_option maxRecDepth 100000
namespace Go.Proofs.YtdpbbnnlbjgjgaaGreat
open Go.Sf
end Go.Proofs.YtdpbbnnlbjgjgaaGreat
set_option linter.unusedVariables false
set_option linter.unusedSimpArgs false
set_option maxRecDepth 100000
namespace Go.Proofs.YtdpbbnnlbjgjgaaGreat
open Go.Sf
end Go.Proofs.YtdpbbnnlbjgjgaaGreat
set_option linter.unusedVariables false
set_option linter.unusedSimpArgs false
set_option maxRecDepth 100000
namespace Go.Proofs.YtdpbbnnlbjgjgaaGreat
open Go.Sf
def SumAt (H : Heap) (b : Nat) (p : Nat × Nat) : Prop := H b = some (.cells [.int .u32 p.1, .int .u32 p.2] 2)
theorem k_sumNew : CC PP F_sum_New [] Heap.nil (fun v H' => ∃ b, v = .ptr b 0 ∧ SumAt H' b (1, 0)) := by
  refine CC.by_vc ok_sum_New (by simp) ?_
  unfold c_sum_New
  simp
  intro b hb
  simp
  unfold SumAt
  rw [Heap.set_self]; rfl
def I_addI (b : Nat) (parts : AV) (np j : Int) (a : AV) (l : List UInt8) (q : Nat × Nat) (k : Nat) (T : Nat → AV) (H : Heap) : Prop :=
  ∃ (i : Nat) (p : Nat × Nat), k + i = l.length ∧ T 0 = .ptr b 0 ∧ T 11 = parts ∧ T 12 = .int .i64 np ∧ T 13 = .int .i64 j ∧ T 17 = a ∧ T 18 = .int .i64 l.length ∧ T 19 = .int .i64 i ∧ okA p ∧ SumAt H b p ∧ (l.drop i).foldl stepA p = q
def I_addO (b : Nat) (parts : AV) (ls : List (List UInt8)) (q : Nat × Nat) (k : Nat) (T : Nat → AV) (H : Heap) : Prop :=
  ∃ (j : Nat) (p : Nat × Nat), k + j = ls.length ∧ T 0 = .ptr b 0 ∧ T 11 = parts ∧ T 12 = .int .i64 ls.length ∧ T 13 = .int .i64 j ∧ okA p ∧ SumAt H b p ∧ (ls.drop j).flatten.foldl stepA p = q
theorem k_sumAdd {H : Heap} {b : Nat} {p : Nat × Nat} {v : AV} {ls : List (List UInt8)} (hv : IsBB v ls) (hp : okA p) (hb : SumAt H b p) (hl : ls.length < 2 ^ 62) (hls : ∀ l ∈ ls, l.length < 2 ^ 62) :
    CC PP F_sum_Sum_Add [.ptr b 0, v] H (fun u H' => u = .ptr b 0 ∧ SumAt H' b (ls.flatten.foldl stepA p)) := by
  generalize hq : ls.flatten.foldl stepA p = q
  refine CC.by_vc ok_sum_Sum_Add (by simp) ?_
  unfold c_sum_Sum_Add
  rcases hv with ⟨rfl, rfl⟩ | ⟨vs, c, rfl, hlen, hvs⟩
  · simp
    refine LoopV.mk2 (I_addO b .nils [] q) 0 ⟨0, p, rfl, by simp, by simp, by simp, by simp, hp, hb, hq⟩ ?_
    rintro k T H ⟨j, p, hk, h0, h11, h12, h13, hp, hb, hq⟩
    have : j = 0 := by simp at hk; omega
    subst this
    simp at hq; subst hq
    simp [h0, h12, h13]
    exact hb
  · simp
    refine LoopV.mk2 (I_addO b (.imm vs ls.length c) ls q) ls.length ⟨0, p, rfl, by simp, by simp, by simp, by simp, hp, hb, hq⟩ ?_
    rintro k T H ⟨j, p, hk, h0, h11, h12, h13, hp, hb, hq⟩
    rcases Nat.lt_or_ge j ls.length with hj | hj
    · have hjv : vs[j]? = some vs[j] := by simp [hlen, hj]
      have hw := hvs j vs[j] ls[j] hjv (by simp [hj])
      have hll := hls ls[j] (List.getElem_mem hj)
      have hd : ls.drop j = ls[j] :: ls.drop (j + 1) := List.drop_eq_getElem_cons hj
      generalize vs[j] = w at hjv hw
      generalize ls[j] = l at hw hll hd
      rw [hd] at hq
      simp only [List.flatten_cons, List.foldl_append] at hq
      have hp' := okA.fold l hp
      obtain ⟨k', rfl⟩ : ∃ k', k = k' + 1 := ⟨k - 1, by omega⟩
      simp [h0, h11, h12, h13, hj, hjv, hw.un]
      rcases hw with ⟨rfl, rfl⟩ | ⟨cw, rfl⟩
      · simp
        refine LoopV.mk2 (I_addI b (.imm vs ls.length c) ls.length j .nils [] p) 0 ⟨0, p, rfl, by simp [h0], by simp [h11], by simp [h12], by simp [h13], by simp, by simp, by simp, hp, hb, rfl⟩ ?_
        rintro k T H ⟨i, p2, hk, h0, h11, h12, h13, h17, h18, h19, hp2, hb2, hq2⟩
        have hi : i = 0 := by simp at hk; omega
        subst hi
        simp [h0, h11, h12, h13, h17, h18, h19]
        simp at hq2; subst hq2
        refine Again2.mk k' (by omega) ⟨j + 1, p2, by omega, by simp [h0], by simp [h11], by simp [h12], ?_, hp2, hb2, hq⟩
        simp; rw [wrap_i64 (by omega) (by omega)]
      · simp [immB]
        refine LoopV.mk2 (I_addI b (.imm vs ls.length c) ls.length j (immB l cw) l (l.foldl stepA p)) l.length ⟨0, p, by omega, by simp [h0], by simp [h11], by simp [h12], by simp [h13], by simp [immB], by simp, by simp, hp, hb, rfl⟩ ?_
        rintro k T H ⟨i, p2, hk, h0, h11, h12, h13, h17, h18, h19, hp2, hb2, hq2⟩
        rcases Nat.lt_or_ge i l.length with hi | hi
        · have hd2 : l.drop i = l[i] :: l.drop (i + 1) := List.drop_eq_getElem_cons hi
          generalize hxe : l[i] = x at hd2
          have hbx : (bytesV l)[i]? = some (.int .u8 x.toNat) := by rw [bytesV_get hi, hxe]; rfl
          obtain ⟨k2, rfl⟩ : ∃ k2, k = k2 + 1 := ⟨k - 1, by omega⟩
          rw [hd2] at hq2
          simp only [List.foldl_cons] at hq2
          unfold SumAt at hb2
          simp [h0, h11, h12, h13, h17, h18, h19, immB, hbx, hi, hb2, Heap.set_self]
          rw [add_u32 x hp2.1, add_u32' (Nat.mod_lt _ (by omega)) hp2.2]
          refine Again2.mk k2 (by omega) ⟨i + 1, stepA p2 x, by omega, by simp [h0], by simp [h11], by simp [h12], by simp [h13], by simp [h17, immB], by simp [h18], ?_, okA.step x, Heap.set_self _ _ _, hq2⟩
          simp; rw [wrap_i64 (by omega) (by omega)]
        · obtain rfl : k = 0 := by omega
          rw [List.drop_of_length_le hi] at hq2
          simp at hq2
          simp [h0, h11, h12, h13, h17, h18, h19, show ¬ i < l.length by omega]
          refine Again2.mk k' (by omega) ⟨j + 1, p2, by omega, by simp [h0], by simp [h11], by simp [h12], ?_, hp2, hb2, by rw [hq2]; exact hq⟩
          simp; rw [wrap_i64 (by omega) (by omega)]
    · obtain rfl : k = 0 := by omega
      rw [List.drop_of_length_le hj] at hq
      simp at hq; subst hq
      simp [h0, h11, h12, h13, show ¬ j < ls.length by omega]
      exact hb
theorem shl16 {b : Nat} (h : b < 65521) : IntKind.u32.wrap ((b : Int) * 2 ^ Nat.min 16 IntKind.u32.bits) = ((b * 65536 : Nat) : Int) := by
  rw [show (2 : Int) ^ Nat.min 16 IntKind.u32.bits = 65536 from rfl, wrap_u32 (by omega) (by omega)]; omega
theorem or16 {a b : Nat} (h : a < 65521) (k : b < 65521) : bitsOf .u32 (· ||| ·) ((b * 65536 : Nat) : Int) (a : Int) = ((b * 65536 + a : Nat) : Int) := by
  have h3 := Nat.shiftLeft_add_eq_or_of_lt (show a < 2 ^ 16 by omega) b
  rw [Nat.shiftLeft_eq] at h3
  show IntKind.u32.wrap ((BitVec.ofInt 32 ((b * 65536 : Nat) : Int) ||| BitVec.ofInt 32 (a : Int)).toNat : Int) = _
  have e1 : (BitVec.ofInt 32 ((b * 65536 : Nat) : Int) ||| BitVec.ofInt 32 (a : Int)).toNat = b * 65536 + a := by
    rw [BitVec.toNat_or, BitVec.ofInt_natCast, BitVec.ofInt_natCast, BitVec.toNat_ofNat, BitVec.toNat_ofNat, Nat.mod_eq_of_lt (by omega), Nat.mod_eq_of_lt (by omega)]
    exact h3.symm
  rw [e1, wrap_u32 (by omega) (by omega)]
theorem k_sumVal {H : Heap} {b : Nat} {p : Nat × Nat} (hp : okA p) (hb : SumAt H b p) : CC PP F_sum_Sum_Value [.ptr b 0] H (fun u H' => u = .int .u32 (p.2 * 65536 + p.1 : Nat)) := by
  refine CC.by_vc ok_sum_Sum_Value (by simp) ?_
  unfold c_sum_Sum_Value
  unfold SumAt at hb
  simp [hb]
  rw [shl16 hp.2, or16 hp.1 hp.2]
  omega
theorem p_sumOf {v : AV} {ls : List (List UInt8)} (hv : IsBB v ls) (hl : ls.length < 2 ^ 62) (hls : ∀ l ∈ ls, l.length < 2 ^ 62) : CP PP F_sum_Of [v] (fun u => u = .int .u32 (sumL ls.flatten : Nat)) := by
  refine CP.by_vc ok_sum_Of (by simp) ?_
  unfold c_sum_Of
  simp [hv.un]
  refine CallK.of k_sumNew ?_
  rintro u H' ⟨b, rfl, hb⟩
  simp [hv.un]
  refine CallK.of (k_sumAdd hv ⟨by omega, by omega⟩ hb hl hls) ?_
  rintro u H' ⟨rfl, hb⟩
  simp
  refine CallK.of (k_sumVal (sumP_ok ls.flatten) hb) ?_
  rintro u H' rfl
  simp
  rfl
end Go.Proofs.YtdpbbnnlbjgjgaaGreat
set_option linter.unusedVariables false
set_option linter.unusedSimpArgs false
set_option maxRecDepth 100000
namespace Go.Proofs.YtdpbbnnlbjgjgaaGreat
open Go.Sf
def I_sumOf (s : Nat) (k : Nat) (T : Nat → AV) (H : Heap) : Prop :=
  ∃ (i : Nat) (v : AV), k + i = 4 ∧ T 3 = v ∧ T 4 = .int .i64 i ∧ T 5 = .int .u32 s ∧ OwnR H 1 i v (bytesV ((le4 s).take i))
theorem k_sumOf {a : AV} {l : List UInt8} (ha : IsB a l) (hl : l.length < 2 ^ 62) : CC PP F_frame_sumOf [a] Heap.nil (fun v H' => OwnR H' 1 4 v (bytesV (le4 (sumL l)))) := by
  refine CC.by_vc ok_frame_sumOf (by simp) ?_
  unfold c_frame_sumOf
  simp [ha.un, ha.known, ha.cellsL]
  refine CallK.pure (p_sumOf (ls := [l]) (.inr ⟨[a], some 1, rfl, rfl, ?_⟩) (by simp) (by simpa using hl)) ?_
  · intro i w l' h1 h2
    cases i with
    | zero => simp at h1 h2; subst h1; subst h2; exact ha
    | succ i => simp at h1
  rintro v rfl
  have hs := sumL_lt l
  simp only [List.flatten_cons, List.flatten_nil, List.append_nil]
  generalize sumL l = s at *
  simp
  refine LoopV.mk2 (I_sumOf s) 4 ⟨0, .nils, rfl, by simp, by simp, by simp, ⟨rfl, .inl ⟨rfl, rfl⟩⟩⟩ ?_
  rintro k T H ⟨i, v, hk, h3, h4, h5, hr⟩
  simp [h3, h4, h5, hr.un]
  refine ⟨fun hi => ⟨?_, ?_⟩, fun hi => ?_⟩
  · rw [wrap_i64 (by omega) (by omega)]; omega
  · have hi : i < 4 := by omega
    rw [sum_byte hs i hi]
    obtain ⟨x, hx⟩ : ∃ x, (le4 s).getD i 0 = x := ⟨_, rfl⟩
    have ht : (le4 s).take (i + 1) = (le4 s).take i ++ [x] := by
      rw [← hx, List.take_add_one]
      have : i = 0 ∨ i = 1 ∨ i = 2 ∨ i = 3 := by omega
      rcases this with rfl | rfl | rfl | rfl <;> rfl
    rw [hx]
    refine vcAp_row (.inl hr) (new := bytesV [x]) (m := 1) rfl rfl rfl (by omega) (bytesV_one _) (by omega) (.inl (by simp [bytesV])) ?_
    intro v' H' ho _ _
    simp [ho.un, h4]
    obtain ⟨k', rfl⟩ : ∃ k', k = k' + 1 := ⟨k - 1, by omega⟩
    refine Again2.mk k' (by omega) ⟨i + 1, v', by omega, by simp, ?_, by simp [h5], ?_⟩
    · simp; rw [wrap_i64 (by omega) (by omega)]
    · rw [ht, bytesV_append]; exact ho
  · have : i = 4 := by omega
    subst this
    exact hr
theorem p_sumOf4 {a : AV} {l : List UInt8} (ha : IsB a l) (hl : l.length < 2 ^ 62) : CP PP F_frame_sumOf [a] (fun v => v = immB (le4 (sumL l)) none) := CP.hold (k_sumOf ha hl)
end Go.Proofs.YtdpbbnnlbjgjgaaGreat
set_option linter.unusedVariables false
set_option linter.unusedSimpArgs false
set_option maxRecDepth 100000
namespace Go.Proofs.YtdpbbnnlbjgjgaaGreat
open Go.Sf
theorem p_tooLong {a : AV} {l : List UInt8} (ha : IsB a l) : CP PP F_frame_Put_1 [a] (fun v => v = .bool (decide (4096 < l.length))) := by
  refine CP.by_vc ok_frame_Put_1 (by simp) ?_
  unfold c_frame_Put_1
  rcases ha with ⟨rfl, rfl⟩ | ⟨c, rfl⟩
  · simp
  · simp [immB]; omega
def I_idx (v : AV) (ls : List (List UInt8)) (k : Nat) (T : Nat → AV) (H : Heap) : Prop :=
  ∃ (i : Nat), k + i = ls.length ∧ T 0 = v ∧ T 1 = .fn (.func F_frame_Put_1) [] [] ∧ T 7 = .int .i64 ls.length ∧ T 8 = .int .i64 i ∧ ∀ l ∈ ls.take i, l.length ≤ 4096
theorem p_idx {v : AV} {ls : List (List UInt8)} (hv : IsBB v ls) (hl : ls.length < 2 ^ 62) : CP PP F_slices_IndexFunc_byte_byte [v, .fn (.func F_frame_Put_1) [] []] (fun u => ∃ r : Int, u = .int .i64 r ∧ (r < 0 ↔ ∀ l ∈ ls, l.length ≤ 4096)) := by
  have hcall : callB PP F_frame_Put_1 = true := by kernel_rfl
  rcases hv with ⟨rfl, rfl⟩ | ⟨vs, c, rfl, hlen, hvs⟩
  · refine CP.by_vc ok_slices_IndexFunc_byte_byte (by simp) ?_
    unfold c_slices_IndexFunc_byte_byte
    simp
    refine LoopV.mk2 (I_idx .nils []) 0 ⟨0, rfl, by simp, by simp, by simp, by simp, by simp⟩ ?_
    rintro k T H ⟨i, hk, h0, h1, h7, h8, hall⟩
    have hi : i = 0 := by simp at hk; omega
    subst hi
    simp [h0, h1, h7, h8]
  · refine CP.by_vc ok_slices_IndexFunc_byte_byte (by simp) ?_
    unfold c_slices_IndexFunc_byte_byte
    simp
    refine LoopV.mk2 (I_idx (.imm vs ls.length c) ls) ls.length ⟨0, by omega, by simp, by simp, by simp, by simp, by simp⟩ ?_
    rintro k T H ⟨i, hk, h0, h1, h7, h8, hall⟩
    rcases Nat.lt_or_ge i ls.length with hi | hi
    · have hiv : vs[i]? = some vs[i] := by simp [hlen, hi]
      have hw := hvs i vs[i] ls[i] hiv (by simp [hi])
      have ht : ls.take (i + 1) = ls.take i ++ [ls[i]] := by rw [List.take_add_one]; simp [hi]
      have hm : ls[i] ∈ ls := List.getElem_mem hi
      generalize vs[i] = w at hiv hw
      generalize ls[i] = l at hw ht hm
      simp [h0, h1, h7, h8, hi, hiv, hw.un, hcall]
      refine CallK.pure (p_tooLong hw) ?_
      rintro v rfl
      simp
      obtain ⟨k', rfl⟩ : ∃ k', k = k' + 1 := ⟨k - 1, by omega⟩
      refine ⟨fun h => ⟨fun h2 => by omega, fun h2 => by have := h2 l hm; omega⟩, fun h => ?_⟩
      simp [h8]
      refine Again2.mk k' (by omega) ⟨i + 1, by omega, by simp [h0], by simp [h1], by simp [h7], ?_, ?_⟩
      · simp; rw [wrap_i64 (by omega) (by omega)]
      · intro l' hl'
        rw [ht] at hl'
        rcases List.mem_append.1 hl' with h2 | h2
        · exact hall l' h2
        · rw [List.mem_singleton.1 h2]; omega
    · obtain rfl : k = 0 := by omega
      rw [List.take_of_length_le hi] at hall
      simp [h0, h1, h7, h8, show ¬ i < ls.length by omega]
      exact hall
theorem p_contains {v : AV} {ls : List (List UInt8)} (hv : IsBB v ls) (hl : ls.length < 2 ^ 62) : CP PP F_slices_ContainsFunc_byte_byte [v, .fn (.func F_frame_Put_1) [] []] (fun u => u = .bool (decide (¬ ∀ l ∈ ls, l.length ≤ 4096))) := by
  refine CP.by_vc ok_slices_ContainsFunc_byte_byte (by simp) ?_
  unfold c_slices_ContainsFunc_byte_byte
  simp [hv.un]
  refine CallK.pure (p_idx hv hl) ?_
  rintro u ⟨r, rfl, hr⟩
  simp
  have := Decidable.not_iff_not.2 hr
  simp at this
  exact this
def putL (l : List UInt8) (ls : List (List UInt8)) : List UInt8 := if ∀ t ∈ ls, t.length ≤ 4096 then l ++ (ls.map frameL).flatten else l
def I_fput (v : AV) (ls : List (List UInt8)) (w : List UInt8) (k : Nat) (T : Nat → AV) (H : Heap) : Prop :=
  ∃ (i : Nat) (u : AV) (pre : List UInt8), k + i = ls.length ∧ T 13 = v ∧ T 14 = .int .i64 ls.length ∧ T 15 = .int .i64 i ∧ T 5 = u ∧ IsB u pre ∧ pre ++ ((ls.drop i).map frameL).flatten = w
theorem p_clip {a : AV} {l : List UInt8} (ha : IsB a l) : CP PP F_slices_Clip_byte_byte [a] (fun v => IsB v l) := by
  refine (k_clip ha).mono ?_
  rintro v H' ⟨_, ⟨hl, ⟨rfl, h0⟩ | ⟨b, c, _, hb, _⟩⟩ | ⟨_, rfl⟩⟩
  · have : l = [] := List.length_eq_zero_iff.1 h0
    subst this; exact .nil
  · cases hb
  · exact .inr ⟨_, rfl⟩
theorem p_framePut {a v : AV} {l : List UInt8} {ls : List (List UInt8)} (ha : IsB a l) (hv : IsBB v ls) (hl : (putL l ls).length ≤ 2 ^ 40) (hls : ls.length < 2 ^ 40) :
    CP PP F_frame_Put [a, v] (fun u => IsB u (putL l ls)) := by
  have hcb : decide (¬ ∀ t ∈ ls, t.length ≤ 4096) = true ∨ decide (¬ ∀ t ∈ ls, t.length ≤ 4096) = false := by
    cases decide (¬ ∀ t ∈ ls, t.length ≤ 4096) <;> simp
  refine CP.by_vc ok_frame_Put (by simp) ?_
  unfold c_frame_Put
  simp [ha.un, hv.un]
  refine CallK.pure (p_contains hv (by omega)) ?_
  rintro u rfl
  by_cases hall : ∀ t ∈ ls, t.length ≤ 4096
  · have hw : putL l ls = l ++ (ls.map frameL).flatten := if_pos hall
    have hd : decide (¬ ∀ t ∈ ls, t.length ≤ 4096) = false := by simp; exact hall
    rw [hd]
    simp [ha.un]
    refine CallK.pure (p_clip ha) ?_
    intro u hu
    generalize putL l ls = w at *
    rcases hv with ⟨rfl, rfl⟩ | ⟨vs, c, rfl, hlen, hvs⟩
    · simp [hu.un]
      refine LoopV.mk2 (I_fput .nils [] w) 0 ⟨0, u, l, rfl, by simp, by simp, by simp, by simp, hu, by rw [hw]; rfl⟩ ?_
      rintro k T H ⟨i, u, pre, hk, h13, h14, h15, h5, hu, he⟩
      have hi : i = 0 := by simp at hk; omega
      subst hi
      simp at he; subst he
      simp [h13, h14, h15, h5, hu.un]
      exact hu
    · simp [hu.un]
      refine LoopV.mk2 (I_fput (.imm vs ls.length c) ls w) ls.length ⟨0, u, l, by omega, by simp, by simp, by simp, by simp, hu, by rw [hw]; rfl⟩ ?_
      rintro k T H ⟨i, u, pre, hk, h13, h14, h15, h5, hu, he⟩
      rcases Nat.lt_or_ge i ls.length with hi | hi
      · have hiv : vs[i]? = some vs[i] := by simp [hlen, hi]
        have hx := hvs i vs[i] ls[i] hiv (by simp [hi])
        have hm : ls[i] ∈ ls := List.getElem_mem hi
        have hdr : ls.drop i = ls[i] :: ls.drop (i + 1) := List.drop_eq_getElem_cons hi
        have hml := hall _ hm
        generalize vs[i] = x at hiv hx
        generalize ls[i] = t at hx hm hdr hml
        rw [hdr] at he
        simp only [List.map_cons, List.flatten_cons] at he
        have htot : pre.length + (frameL t).length ≤ w.length := by rw [← he]; simp only [List.length_append]; omega
        have hfl : (frameL t).length = (enc t.length).length + (4 + t.length) := by unfold frameL; simp only [List.length_append]; rfl
        obtain ⟨k', rfl⟩ : ∃ k', k = k' + 1 := ⟨k - 1, by omega⟩
        have hxl : IsB x t := hx
        rcases hx with ⟨rfl, rfl⟩ | ⟨cx, rfl⟩
        · simp [h13, h14, h15, h5, hi, hiv, hu.un]
          rw [show IntKind.u64.wrap 0 = ((([] : List UInt8).length : Nat) : Int) from rfl]
          refine CallK.own (k_put hu (([] : List UInt8).length) (by simp) (by omega)) ?_
          intro v1 H1 ho1 _ _
          simp [ho1.un]
          refine CallK.pure (p_sumOf4 hxl (by simp; try omega)) ?_
          rintro v2 rfl
          simp [ho1.un, immB]
          have hl4 : (le4 (sumL [])).length = 4 := rfl
          refine vcAp_row (.inl ho1) (x := immB (le4 (sumL [])) none) (new := bytesV (le4 (sumL []))) (m := 4) ((IsB.imm _ _).cells _) rfl rfl (by omega) (bytesV_one _) (by simp only [List.length_append] at *; omega) (.inr ho1) ?_
          intro v2 H2 ho2 _ _
          simp [ho2.un]
          refine vcAp_hold (.inl ho2) (x := .nils) (hxl.cells _) hxl.len (bytesV_one _) (by simp only [List.length_append] at *; omega) ?_
          intro H3 _
          simp [h15]
          refine Again2.mk k' (by omega) ⟨i + 1, _, pre ++ frameL [], by omega, by simp [h13], by simp [h14], ?_, by simp; rfl, .inr ⟨none, ?_⟩, by rw [← he]; simp⟩
          · simp; rw [wrap_i64 (by omega) (by omega)]
          · simp [immB, frameL, bytesV_append]
            exact ⟨rfl, by have : (le4 (sumL [])).length = 4 := rfl; omega⟩
        · simp [h13, h14, h15, h5, hi, hiv, hu.un, immB]
          rw [wrap_u64 (n := (t.length : Int)) (by omega) (by omega)]
          refine CallK.own (k_put hu t.length (by omega) (by omega)) ?_
          intro v1 H1 ho1 _ _
          simp [ho1.un]
          refine CallK.pure (p_sumOf4 hxl (by simp; try omega)) ?_
          rintro v2 rfl
          simp [ho1.un, immB]
          have hl4 : (le4 (sumL t)).length = 4 := rfl
          refine vcAp_row (.inl ho1) (x := immB (le4 (sumL t)) none) (new := bytesV (le4 (sumL t))) (m := 4) ((IsB.imm _ _).cells _) rfl rfl (by omega) (bytesV_one _) (by simp only [List.length_append] at *; omega) (.inr ho1) ?_
          intro v2 H2 ho2 _ _
          simp [ho2.un]
          refine vcAp_hold (.inl ho2) (x := immB t cx) (hxl.cells _) hxl.len (bytesV_one _) (by simp only [List.length_append] at *; omega) ?_
          intro H3 _
          simp [h15]
          refine Again2.mk k' (by omega) ⟨i + 1, _, pre ++ frameL t, by omega, by simp [h13], by simp [h14], ?_, by simp; rfl, .inr ⟨none, ?_⟩, by rw [← he]; simp⟩
          · simp; rw [wrap_i64 (by omega) (by omega)]
          · simp [immB, frameL, bytesV_append]
            omega
      · obtain rfl : k = 0 := by omega
        rw [List.drop_of_length_le hi] at he
        simp at he; subst he
        simp [h13, h14, h15, h5, hu.un, show ¬ i < ls.length by omega]
        exact hu
  · have hw : putL l ls = l := if_neg hall
    have hd : decide (¬ ∀ t ∈ ls, t.length ≤ 4096) = true := by simpa using hall
    rw [hd, hw]
    simp [ha.un]
    exact ha
end Go.Proofs.YtdpbbnnlbjgjgaaGreat
set_option linter.unusedVariables false
set_option linter.unusedSimpArgs false
set_option maxRecDepth 100000
namespace Go.Proofs.YtdpbbnnlbjgjgaaGreat
open Go.Sf
def I_eql (a b : AV) (l m : List UInt8) (k : Nat) (T : Nat → AV) (H : Heap) : Prop :=
  ∃ (i : Nat), k + i = l.length ∧ T 0 = a ∧ T 1 = b ∧ T 12 = .int .i64 l.length ∧ T 13 = .int .i64 i ∧ l.take i = m.take i
theorem p_equal {a b : AV} {l m : List UInt8} (ha : IsB a l) (hb : IsB b m) (hl : l.length < 2 ^ 62) : CP PP F_slices_Equal_byte_byte [a, b] (fun v => v = .bool (decide (l = m))) := by
  refine CP.by_vc ok_slices_Equal_byte_byte (by simp) ?_
  unfold c_slices_Equal_byte_byte
  by_cases hlm : l.length = m.length
  · have hfin : l.take l.length = m.take l.length → l = m := fun h => by
      rw [List.take_length] at h
      rw [hlm, List.take_length] at h
      exact h
    rcases ha with ⟨rfl, rfl⟩ | ⟨c, rfl⟩
    · have hm : m = [] := List.length_eq_zero_iff.1 (by simpa using hlm.symm)
      subst hm
      have hb' : b = .nils ∨ ∃ d, b = .imm [] 0 d := by
        rcases hb with ⟨rfl, _⟩ | ⟨d, rfl⟩
        · exact .inl rfl
        · exact .inr ⟨d, rfl⟩
      rcases hb' with rfl | ⟨d, rfl⟩
      · simp
        refine LoopV.mk2 (I_eql .nils .nils [] []) 0 ⟨0, rfl, by simp, by simp, by simp, by simp, rfl⟩ ?_
        rintro k T H ⟨i, hk, h0, h1, h12, h13, hq⟩
        have hi : i = 0 := by simp at hk; omega
        subst hi
        simp [h0, h1, h12, h13]
      · simp
        refine LoopV.mk2 (I_eql .nils (.imm [] 0 d) [] []) 0 ⟨0, rfl, by simp, by simp, by simp, by simp, rfl⟩ ?_
        rintro k T H ⟨i, hk, h0, h1, h12, h13, hq⟩
        have hi : i = 0 := by simp at hk; omega
        subst hi
        simp [h0, h1, h12, h13]
    · rcases hb with ⟨rfl, rfl⟩ | ⟨d, rfl⟩
      · have hm : l = [] := List.length_eq_zero_iff.1 (by simpa using hlm)
        subst hm
        simp [immB, bytesV]
        refine LoopV.mk2 (I_eql (.imm [] 0 c) .nils [] []) 0 ⟨0, rfl, by simp, by simp, by simp, by simp, rfl⟩ ?_
        rintro k T H ⟨i, hk, h0, h1, h12, h13, hq⟩
        have hi : i = 0 := by simp at hk; omega
        subst hi
        simp [h0, h1, h12, h13]
      · simp [immB, hlm]
        refine LoopV.mk2 (I_eql (immB l c) (immB m d) l m) l.length ⟨0, by omega, by simp [immB, hlm], by simp [immB], by simp [hlm], by simp, by simp⟩ ?_
        rintro k T H ⟨i, hk, h0, h1, h12, h13, hq⟩
        rcases Nat.lt_or_ge i l.length with hi | hi
        · have him : i < m.length := by omega
          have hb1 : (bytesV l)[i]? = some (.int .u8 l[i].toNat) := by rw [bytesV_get hi]; rfl
          have hb2 : (bytesV m)[i]? = some (.int .u8 m[i].toNat) := by rw [bytesV_get him]; rfl
          obtain ⟨k', rfl⟩ : ∃ k', k = k' + 1 := ⟨k - 1, by omega⟩
          have hne : l[i] ≠ m[i] → l ≠ m := fun h e => by subst e; exact h rfl
          have hstep : l[i] = m[i] → l.take (i + 1) = m.take (i + 1) := fun h => by
            rw [List.take_add_one, List.take_add_one, hq]
            simp [hi, him, h]
          generalize l[i] = x at *
          generalize m[i] = y at *
          have hxy : x.toNat = y.toNat ↔ x = y := UInt8.toNat_inj
          simp [h0, h1, h12, h13, immB, hb1, hb2, hi, him]
          refine ⟨fun h => hne (fun e => h (by rw [e])), fun h => ?_⟩
          have hxy' : x = y := hxy.1 (by omega)
          refine Again2.mk k' (by omega) ⟨i + 1, by omega, by simp [h0, immB], by simp [h1, immB], by simp [h12], ?_, hstep hxy'⟩
          simp; rw [wrap_i64 (by omega) (by omega)]
        · obtain rfl : k = 0 := by omega
          have : i = l.length := by omega
          subst this
          simp [h0, h1, h12, h13]
          exact hfin hq
  · have hne : l ≠ m := fun e => hlm (by rw [e])
    rcases ha with ⟨rfl, rfl⟩ | ⟨c, rfl⟩ <;> rcases hb with ⟨rfl, rfl⟩ | ⟨d, rfl⟩
    · exact absurd rfl hlm
    · have : ¬ (0 : Int) = m.length := fun h => hlm (by simp; omega)
      simp [immB, this, hne]
    · have : ¬ (l.length : Int) = 0 := fun h => hlm (by simp only [List.length_nil]; omega)
      simp [immB, this, hne]
    · have : ¬ (l.length : Int) = m.length := fun h => hlm (by omega)
      simp [immB, this, hne]
def RFrame (r : List UInt8 × Nat × Nat) (u : AV) : Prop := ∃ v, u = .tup [v, .int .i64 r.2.1, .int .i64 r.2.2] ∧ IsB v r.1
theorem p_frameGet {a : AV} {l : List UInt8} (ha : IsB a l) (hl : l.length ≤ 2 ^ 40) : CP PP F_frame_Get [a] (RFrame (getFrame l)) := by
  rcases ha with ⟨rfl, rfl⟩ | ⟨c, rfl⟩
  · refine CP.by_vc ok_frame_Get (by simp) ?_
    unfold c_frame_Get
    simp
    refine CallK.pure (p_get .nil) ?_
    rintro v rfl
    simp [resN, show num [] = (0, 0, 8) from rfl]
    exact ⟨.nils, rfl, .nil⟩
  · refine CP.by_vc ok_frame_Get (by simp) ?_
    unfold c_frame_Get
    simp [immB]
    refine CallK.pure (p_get (.imm l c)) ?_
    rintro v rfl
    simp [resN]
    have hlt := num_lt l
    by_cases h8 : (num l).2.2 = 0
    · obtain ⟨h1, h2, h3⟩ := num_ok h8
      generalize hr : num l = r at *
      obtain ⟨n, k, e⟩ := r
      simp only at h8 h1 h2 h3 hlt
      subst h8
      have e1 : IntKind.i64.wrap ((l.length : Int) - (k : Int)) = ((l.length - k : Nat) : Int) := by rw [wrap_i64 (by omega) (by omega)]; omega
      by_cases hn : 4096 < n
      · simp [hn, show (4096 : Int) < n by omega, show ¬ (n : Int) ≤ 4096 by omega]
        refine ⟨.nils, ?_, ?_⟩ <;> simp [getFrame, hr, hn]
        exact .nil
      · have e2 : IntKind.i64.wrap (n : Int) = n := wrap_i64 (by omega) (by omega)
        have e3 : IntKind.i64.wrap (4 + (n : Int)) = ((4 + n : Nat) : Int) := by rw [wrap_i64 (by omega) (by omega)]; omega
        have e4 : IntKind.i64.wrap ((k : Int) + 4) = (k : Int) + 4 := wrap_i64 (by omega) (by omega)
        by_cases hs : l.length - k < 4 + n
        · simp [hn, show ¬ (4096 : Int) < n by omega, e1, e2, e3]
          refine fun _ => ⟨fun _ => ?_, fun h => absurd h (by omega)⟩
          refine ⟨.nils, ?_, ?_⟩ <;> simp [getFrame, hr, hn, hs]
          exact .nil
        · have e5 : IntKind.i64.wrap ((k : Int) + 4 + n) = (k : Int) + 4 + n := wrap_i64 (by omega) (by omega)
          have e6 : ((k : Int) + 4).toNat = k + 4 := by omega
          have e7 : ((k : Int) + 4 + n).toNat = k + 4 + n := by omega
          have e8 : k + 4 + n - (k + 4) = n := by omega
          have e9 : k + 4 - k = 4 := by omega
          have f1 : (0 : Int) ≤ (k : Int) + 4 ∧ (k : Int) + 4 + (n : Int) ≤ l.length := by omega
          have f2 : (k : Int) + 4 ≤ l.length := by omega
          simp [hn, show ¬ (4096 : Int) < n by omega, e1, e2, e3, e4, e5, e6, e7, e8, f1, bytesV_length, bytesV_take, bytesV_drop]
          refine fun _ => ⟨fun h => absurd h (by omega), fun h => ?_⟩
          generalize htt : (l.drop (k + 4)).take n = t
          have htl : t.length = n := by rw [← htt]; simp; omega
          rw [show AV.imm (bytesV t) n (c.map fun x => x - (k + 4)) = immB t (c.map fun x => x - (k + 4)) by unfold immB; rw [htl]]
          subst htl
          refine ⟨by omega, vcAp_hold (x := immB t (c.map fun x => x - (k + 4))) (v := .imm [] 0 (some 0)) (n := 0) (m := t.length) (.inr ⟨rfl, rfl⟩) ((IsB.imm t _).cells _) rfl (bytesV_one _) (by omega) ?_⟩
          intro H2 _
          simp
          have hB : IsB (.imm (bytesV t) t.length none) t := .inr ⟨none, rfl⟩
          refine CallQ.of (p_sumOf4 hB (by omega)) ?_
          simp [e6, e9, f1, f2, bytesV_length, bytesV_take, bytesV_drop]
          refine ⟨by omega, trivial, ?_⟩
          have h4 : ((l.drop k).take 4).length = 4 := by simp; omega
          have hB2 : IsB (.imm (bytesV ((l.drop k).take 4)) 4 (c.map fun x => x - k)) ((l.drop k).take 4) := by
            refine .inr ⟨c.map fun x => x - k, ?_⟩; unfold immB; rw [h4]
          refine CallQ.of (p_equal (.imm _ _) hB2 (by simp [le4])) ?_
          simp
          refine ⟨fun hne => ?_, fun heq => ?_⟩
          · refine ⟨.nils, ?_, ?_⟩ <;> simp [getFrame, hr, hn, hs, htt, hne]
            exact .nil
          · refine ⟨.imm (bytesV t) t.length none, ?_, ?_⟩ <;> simp [getFrame, hr, hn, hs, htt, heq]
            · rw [e2, e5]
            · exact hB
    · obtain ⟨h1, h2⟩ := num_bad h8
      simp [h8, h1, h2]
      refine ⟨.nils, ?_, ?_⟩ <;> simp [getFrame, h8]
      exact .nil
end Go.Proofs.YtdpbbnnlbjgjgaaGreat
set_option linter.unusedVariables false
set_option linter.unusedSimpArgs false
set_option maxRecDepth 100000
namespace Go.Proofs.YtdpbbnnlbjgjgaaGreat
open Go.Sf
theorem p_fields (k : Int) : CP PP F_mut_fields [.int .i64 k] (fun v => v = .bool (fieldsK k)) := by
  refine CP.by_vc ok_mut_fields (by simp) ?_
  unfold c_mut_fields
  simp [fieldsK]
theorem p_values (k : Int) : CP PP F_mut_values [.int .i64 k] (fun v => v = .bool (valuesK k)) := by
  refine CP.by_vc ok_mut_values (by simp) ?_
  unfold c_mut_values
  simp [valuesK]
theorem p_isK (g n i : Int) : CP PP F_mut_is [.agg [.int .i64 g, .int .i64 n, .int .i64 i]] (fun v => v = .bool (isK g n i)) := by
  refine CP.by_vc ok_mut_is (by simp) ?_
  unfold c_mut_is
  simp
  intro b hb
  simp [Heap.set_self, isK]
theorem p_may (m : MutT) : CP PP F_mut_May [.agg (mutCs m)] (fun v => v = .bool (mayM m)) := by
  refine CP.by_vc ok_mut_May (by simp) ?_
  unfold c_mut_May mutCs
  simp
  intro b hb
  by_cases hk : 1 ≤ m.k ∧ m.k ≤ 6
  · have k1 : ¬ m.k < 1 := by omega
    have k2 : ¬ 6 < m.k := by omega
    simp [Heap.set_self, k1, k2]
    refine CallK.pure (p_isK _ _ _) ?_
    rintro v rfl
    cases hK : isK m.g m.n m.i with
    | false =>
      simp [hK, k1, k2, mayM]
    | true =>
      simp [hK, k1, k2, Heap.set_self]
      refine CallK.pure (p_fields _) ?_
      rintro v rfl
      have hkk : decide (1 ≤ m.k) = true ∧ decide (m.k ≤ 6) = true := by simp [hk.1, hk.2]
      have fin : ∀ b : Bool, ((if fieldsK m.k then decide (0 ≤ m.f) && decide (m.f < 8) else decide (m.f = 0)) && (valuesK m.k || decide (m.v = 0))) = b → mayM m = b := fun b h => by
        unfold mayM; rw [hkk.1, hkk.2, hK]; simpa using h
      cases hF : fieldsK m.k with
      | true =>
        simp only [hF, if_true] at fin
        by_cases h0 : m.f < 0
        · simp [hF, Heap.set_self, h0]
          rw [fin false (by simp; omega)]
          try rfl
        · by_cases h8 : m.f < 8
          · simp [hF, Heap.set_self, h0, h8, show ¬ 8 ≤ m.f by omega]
            refine CallK.pure (p_fields _) ?_
            rintro v rfl
            simp [hF, Heap.set_self]
            refine CallK.pure (p_values _) ?_
            rintro v rfl
            rw [fin (valuesK m.k || decide (m.v = 0)) (by simp [h8, show 0 ≤ m.f by omega])]
            cases hV : valuesK m.k <;> simp [hV, Heap.set_self]
          · simp [hF, Heap.set_self, h0, h8, show 8 ≤ m.f by omega]
            rw [fin false (by simp [h8])]
            try rfl
      | false =>
        simp only [hF, Bool.false_eq_true, if_false] at fin
        simp [hF, Heap.set_self]
        refine CallK.pure (p_fields _) ?_
        rintro v rfl
        by_cases h0 : m.f = 0
        · simp [hF, Heap.set_self, h0]
          refine CallK.pure (p_values _) ?_
          rintro v rfl
          rw [fin (valuesK m.k || decide (m.v = 0)) (by simp [h0])]
          cases hV : valuesK m.k <;> simp [hV, Heap.set_self]
        · simp [hF, Heap.set_self, h0]
          rw [fin false (by simp [h0])]
          try rfl
  · have hm : mayM m = false := by unfold mayM; simp; omega
    have : m.k < 1 ∨ 6 < m.k := by omega
    rcases this with h | h
    · simp [Heap.set_self, hm, h, show ¬ 1 ≤ m.k by omega]
    · simp [Heap.set_self, hm, h, show ¬ m.k < 1 by omega, show ¬ m.k ≤ 6 by omega]
end Go.Proofs.YtdpbbnnlbjgjgaaGreat
set_option linter.unusedVariables false
set_option linter.unusedSimpArgs false
set_option maxRecDepth 100000
namespace Go.Proofs.YtdpbbnnlbjgjgaaGreat
open Go.Sf
def smallR (l : List UInt8) (n e : Nat) : Int × Nat × Nat :=
  if e ≠ 0 then (-1, n, e) else
    (if (num (l.drop n)).2.2 ≠ 0 ∨ 255 < (num (l.drop n)).1 then -1 else ((num (l.drop n)).1 : Int), n + (num (l.drop n)).2.1, (num (l.drop n)).2.2)
theorem isB_drop (l : List UInt8) (n : Nat) (c : Option Nat) : IsB (.imm (List.take (l.length - n) (List.drop n (bytesV l))) (l.length - n) c) (l.drop n) := by
  refine .inr ⟨c, ?_⟩
  rw [List.take_of_length_le (by simp [bytesV_length])]
  simp [immB, bytesV_drop]
theorem num_took (l : List UInt8) : (num l).2.1 ≤ 10 ∧ (num l).2.1 ≤ l.length := by
  by_cases h : (num l).2.2 = 0
  · exact ⟨(num_ok h).2.2, (num_ok h).2.1⟩
  · rw [(num_bad h).2]; omega
theorem Heap.set_same {H : Heap} {b : Nat} {x : Option Blk} (h : H b = x) : H.set b x = H := by
  funext k; unfold Heap.set; split
  · rename_i e; rw [e, h]
  · rfl
theorem Heap.set_set (H : Heap) (b : Nat) (x y : Option Blk) : (H.set b x).set b y = H.set b y := by
  funext k; unfold Heap.set; split <;> rfl
theorem k_small {v : AV} {l : List UInt8} (hv : IsB v l) {H : Heap} {b n e : Nat} (hH : H b = some (.cells [v, .int .i64 n, .int .i64 e] 3)) (hn : n ≤ l.length) (hl : l.length ≤ 2 ^ 40) :
    CC PP F_mut_reader_small [.ptr b 0] H fun r H' => r = .int .i64 (smallR l n e).1 ∧ H' = H.set b (some (.cells [v, .int .i64 (smallR l n e).2.1, .int .i64 (smallR l n e).2.2] 3)) := by
  refine CC.by_vc ok_mut_reader_small (by simp) ?_
  unfold c_mut_reader_small
  by_cases h0 : e = 0
  · subst h0
    have ht := num_took (l.drop n)
    have hlt := num_lt (l.drop n)
    rw [List.length_drop] at ht
    have e1 : IntKind.i64.wrap ((n : Int) + ((num (l.drop n)).2.1 : Int)) = ((n + (num (l.drop n)).2.1 : Nat) : Int) := by rw [wrap_i64 (by omega) (by omega)]; omega
    have key : ∀ x, IsB x (l.drop n) → CP PP F_num_Get [x] (fun v => v = resN (num (l.drop n))) := fun x hx => p_get hx
    rcases hv with ⟨rfl, rfl⟩ | ⟨c, rfl⟩
    · have hn0 : n = 0 := by simpa using hn
      subst hn0
      simp [hH]
      refine CallQ.of (p_get .nil) ?_
      simp [resN, hH, show num [] = (0, 0, 8) from rfl, Heap.set_self, Heap.set_set]
      simp [smallR, show num [] = (0, 0, 8) from rfl]
      try rfl
    · simp only [immB] at hH ⊢
      simp [hH, hn]
      refine ⟨bytesV_length _, ?_⟩
      refine CallQ.of (p_get (isB_drop l n _)) ?_
      simp [resN, hH, Heap.set_self, Heap.set_set, e1]
      by_cases h8 : (num (l.drop n)).2.2 = 0
      · by_cases h255 : 255 < (num (l.drop n)).1
        · simp [h8, smallR, h255, show (255 : Int) < (num (l.drop n)).1 by omega, show ¬ ((num (l.drop n)).1 : Int) ≤ 255 by omega]
        · have e2 : IntKind.i64.wrap ((num (l.drop n)).1 : Int) = (num (l.drop n)).1 := wrap_i64 (by omega) (by omega)
          simp [h8, smallR, h255, show ¬ (255 : Int) < (num (l.drop n)).1 by omega, show ((num (l.drop n)).1 : Int) ≤ 255 by omega, e2]
      · simp [h8, smallR]
  · have h0' : ¬ ((e : Int) = 0) := by omega
    simp [hH, h0, h0', smallR, Heap.set_same hH]
/-- Changes written. -/
def encM (m : MutT) : List UInt8 := enc m.k.toNat ++ (enc m.g.toNat ++ (enc m.n.toNat ++ (enc m.i.toNat ++ ((if fieldsK m.k then enc m.f.toNat else []) ++ (if valuesK m.k then enc (zig m.v) else [])))))
def putM (ms : List MutT) : List UInt8 := (ms.filter mayM).flatMap encM
def okM (m : MutT) : Prop := ∀ x ∈ [m.k, m.g, m.n, m.i, m.f, m.v], -9223372036854775808 ≤ x ∧ x < 9223372036854775808
def IsMM (v : AV) (ms : List MutT) : Prop := (v = .nils ∧ ms = []) ∨ ∃ c, v = .imm (ms.flatMap mutCs) ms.length c
theorem IsMM.un {v : AV} {ms : List MutT} (h : IsMM v ms) : Sf.un v = (True, v) := by
  rcases h with ⟨rfl, rfl⟩ | ⟨c, rfl⟩ <;> rfl
theorem mutCs_at (ms : List MutT) : ∀ (i : Nat) (m : MutT), ms[i]? = some m → ((ms.flatMap mutCs).drop (i * 6)).take 6 = mutCs m ∧ i * 6 + 6 ≤ (ms.flatMap mutCs).length := by
  induction ms with
  | nil => intro i m h; simp at h
  | cons a ms ih =>
    intro i m h
    cases i with
    | zero => simp at h; subst h; simp [mutCs]
    | succ i =>
      have := ih i m (by simpa using h)
      have e : (i + 1) * 6 = 6 + i * 6 := by omega
      rw [e]
      constructor
      · rw [List.flatMap_cons, ← List.drop_drop]
        rw [show (mutCs a ++ ms.flatMap mutCs).drop 6 = ms.flatMap mutCs from by rw [List.drop_left' (by rfl)]]
        exact this.1
      · rw [List.flatMap_cons, List.length_append, show (mutCs a).length = 6 from rfl]; omega
theorem mutCs_len (ms : List MutT) : (ms.flatMap mutCs).length = ms.length * 6 := by
  induction ms with
  | nil => rfl
  | cons a ms ih => rw [List.flatMap_cons, List.length_append, ih]; simp [mutCs]; omega
theorem encM_le (m : MutT) (h : okM m) (hm : mayM m = true) : (encM m).length ≤ 60 := by
  have e : ∀ n : Nat, n < 2 ^ 64 → (enc n).length ≤ 10 := fun n hn => enc_len64 hn
  have h1 := h m.k (by simp)
  have h2 := h m.g (by simp)
  have h3 := h m.n (by simp)
  have h4 := h m.i (by simp)
  have h5 := h m.f (by simp)
  have h6 := h m.v (by simp)
  have e1 := e m.k.toNat (by omega)
  have e2 := e m.g.toNat (by omega)
  have e3 := e m.n.toNat (by omega)
  have e4 := e m.i.toNat (by omega)
  have e5 := e m.f.toNat (by omega)
  have e6 := e (zig m.v) (zig_lt h6.1 h6.2)
  unfold encM
  simp only [List.length_append]
  cases fieldsK m.k <;> cases valuesK m.k <;> simp <;> omega
theorem putM_le : ∀ (ms : List MutT), (∀ m ∈ ms, okM m) → (putM ms).length ≤ 60 * ms.length
  | [], _ => by simp [putM]
  | m :: ms, h => by
    have ih := putM_le ms fun x hx => h x (by simp [hx])
    unfold putM at *
    cases hm : mayM m with
    | true =>
      have := encM_le m (h m (by simp)) hm
      simp only [List.filter_cons, hm, if_true, List.flatMap_cons, List.length_append, List.length_cons]; omega
    | false =>
      simp only [List.filter_cons, hm, Bool.false_eq_true, if_false, List.length_cons]; omega
theorem putM_succ {ms : List MutT} {i : Nat} {m : MutT} (h : ms[i]? = some m) : putM (ms.take (i + 1)) = putM (ms.take i) ++ (if mayM m then encM m else []) := by
  unfold putM
  rw [List.take_add_one, h, Option.toList_some, List.filter_append, List.flatMap_append]
  cases hm : mayM m <;> simp [List.filter_cons, hm]
def encF (xs : List Nat) : List UInt8 := xs.flatMap enc
def I_min (vm : AV) (n i : Nat) (x y z u f : Nat) (w : Int) (b : Nat) (l : List UInt8) (k : Nat) (T : Nat → AV) (H : Heap) : Prop :=
  ∃ (j : Nat) (v : AV), k + j = 4 ∧ T 9 = vm ∧ T 10 = .int .i64 n ∧ T 11 = .int .i64 i ∧ T 6 = .ptr b 0 ∧ T 29 = .imm [.int .i64 x, .int .i64 y, .int .i64 z, .int .i64 u] 4 (some 4) ∧ T 30 = .int .i64 4 ∧ T 31 = .int .i64 j ∧
    T 0 = v ∧ IsB v (l ++ encF (([x, y, z, u] : List Nat).take j)) ∧ H b = some (.cells [.int .i64 x, .int .i64 y, .int .i64 z, .int .i64 u, .int .i64 f, .int .i64 w] 6)
def I_mput (vm : AV) (ms : List MutT) (l : List UInt8) (k : Nat) (T : Nat → AV) (H : Heap) : Prop :=
  ∃ (i : Nat) (v : AV), k + i = ms.length ∧ T 9 = vm ∧ T 10 = .int .i64 ms.length ∧ T 11 = .int .i64 i ∧ T 0 = v ∧ IsB v (l ++ putM (ms.take i))
theorem mayM_nat {m : MutT} (h : mayM m = true) : 0 ≤ m.k ∧ m.k ≤ 6 ∧ 0 ≤ m.g ∧ m.g < 4 ∧ 0 ≤ m.n ∧ m.n < 2 ∧ 0 ≤ m.i ∧ m.i < 24 ∧ 0 ≤ m.f ∧ m.f < 8 := by
  unfold mayM isK at h
  simp only [Bool.and_eq_true, decide_eq_true_eq] at h
  obtain ⟨⟨⟨⟨h1, h2⟩, h3⟩, h4⟩, _⟩ := h
  refine ⟨by omega, h2, h3.1.1.1.1.1, h3.1.1.1.1.2, h3.1.1.1.2, h3.1.1.2, h3.1.2, h3.2, ?_⟩
  cases hf : fieldsK m.k <;> simp [hf] at h4 <;> omega
theorem p_mutPut {a vm : AV} {l : List UInt8} {ms : List MutT} (ha : IsB a l) (hm : IsMM vm ms) (hok : ∀ m ∈ ms, okM m) (hl : l.length + 60 * ms.length ≤ 2 ^ 40) : CP PP F_mut_Put [a, vm] (fun v => IsB v (l ++ putM ms)) := by
  refine CP.by_vc ok_mut_Put (by simp) ?_
  unfold c_mut_Put
  have hcs := mutCs_at ms
  have hlen := mutCs_len ms
  have hsz : ∀ i, (putM (ms.take i)).length ≤ 60 * i := fun i => by
    have := putM_le (ms.take i) (fun m h => hok m (List.mem_of_mem_take h))
    have h2 : (ms.take i).length ≤ i := by simp; omega
    omega
  rcases hm with ⟨rfl, rfl⟩ | ⟨c, rfl⟩
  · simp
    refine LoopV.mk2 (I_mput .nils [] l) 0 ⟨0, a, rfl, by simp, by simp, by simp, by simp, by simpa [putM] using ha⟩ ?_
    rintro k T H ⟨i, v, hk, h9, h10, h11, h0, hv⟩
    have hi : i = 0 := by simp at hk; omega
    subst hi
    simp [h9, h10, h11, h0, hv.un]
    simpa [putM] using hv
  · generalize ms.flatMap mutCs = cs at *
    simp
    refine LoopV.mk2 (I_mput _ ms l) ms.length ⟨0, a, by omega, by simp; rfl, by simp, by simp, by simp, by simpa [putM] using ha⟩ ?_
    rintro k T H ⟨i, v, hk, h9, h10, h11, h0, hv⟩
    rcases Nat.lt_or_ge i ms.length with hi | hi
    · obtain ⟨k', rfl⟩ : ∃ k', k = k' + 1 := ⟨k - 1, by omega⟩
      have hmi : ms[i]? = some ms[i] := by simp [hi]
      have hmm := hok _ (List.getElem_mem hi)
      have hsi := hsz i
      have hsu := hsz (i + 1)
      generalize ms[i] = m at hmi hmm
      obtain ⟨hc1, hc2⟩ := hcs i m hmi
      have hsucc := putM_succ hmi
      simp [h9, h10, h11, h0, hi, hc1, hc2, hv.un]
      intro b hb
      simp [Heap.set_self, mutCs]
      refine CallK.pure (p_may m) ?_
      rintro u rfl
      cases hM : mayM m with
      | false =>
        simp [hM, h11]
        refine Again2.mk k' (by omega) ⟨i + 1, v, by omega, by simp [h9], by simp [h10], ?_, by simp [h0], ?_⟩
        · simp; rw [wrap_i64 (by omega) (by omega)]
        · rw [hsucc, hM]; simpa using hv
      | true =>
        obtain ⟨n1, n2, n3, n4, n5, n6, n7, n8, n9, n10⟩ := mayM_nat hM
        have hme := encM_le m hmm hM
        have hv6 := hmm m.v (by simp)
        have hls : (l ++ putM (ms.take i)).length + 60 ≤ 2 ^ 40 := by rw [List.length_append]; omega
        rw [hM, if_pos rfl] at hsucc
        obtain ⟨mk, mg, mn, mi, mf, mv⟩ := m
        simp only at n1 n2 n3 n4 n5 n6 n7 n8 n9 n10 hv6
        obtain ⟨x, rfl⟩ := Int.eq_ofNat_of_zero_le n1
        obtain ⟨y, rfl⟩ := Int.eq_ofNat_of_zero_le n3
        obtain ⟨z, rfl⟩ := Int.eq_ofNat_of_zero_le n5
        obtain ⟨u, rfl⟩ := Int.eq_ofNat_of_zero_le n7
        obtain ⟨f, rfl⟩ := Int.eq_ofNat_of_zero_le n9
        have hE : encM ⟨x, y, z, u, f, mv⟩ = encF [x, y, z, u] ++ ((if fieldsK x then enc f else []) ++ (if valuesK x then enc (zig mv) else [])) := by
          simp [encM, encF]
        have hL : ∀ j, (encF (([x, y, z, u] : List Nat).take j)).length ≤ 40 := fun j => by
          have e1 := enc_len64 (n := x) (by omega)
          have e2 := enc_len64 (n := y) (by omega)
          have e3 := enc_len64 (n := z) (by omega)
          have e4 := enc_len64 (n := u) (by omega)
          have hj : j = 0 ∨ j = 1 ∨ j = 2 ∨ j = 3 ∨ 4 ≤ j := by omega
          rcases hj with rfl | rfl | rfl | rfl | hj
          · simp [encF]
          · simp [encF]; omega
          · simp [encF]; omega
          · simp [encF]; omega
          · rw [List.take_of_length_le (by simpa using hj)]; simp [encF]; omega
        simp [hM, Heap.set_self]
        generalize hpre : l ++ putM (ms.take i) = pre at *
        refine LoopV.mk2 (I_min (.imm cs ms.length c) ms.length i x y z u f mv b pre) 4 ⟨0, v, rfl, by simp [h9], by simp [h10], by simp [h11], by simp, by simp, by simp, by simp, by simp [h0], by simpa [encF] using hv, by simp [Heap.set_self]⟩ ?_
        rintro q T H ⟨j, v, hq, h9, h10, h11, h6, h29, h30, h31, h0, hv, hH⟩
        have hLj := hL j
        have hcap : (pre ++ encF (([x, y, z, u] : List Nat).take j)).length ≤ 2 ^ 40 := by
          rw [List.length_append]; omega
        have hj : j = 0 ∨ j = 1 ∨ j = 2 ∨ j = 3 ∨ j = 4 := by omega
        rcases hj with rfl | rfl | rfl | rfl | rfl
        · simp [h29, h30, h31, h0, hv.un]
          rw [wrap_u64 (n := (x : Int)) (by omega) (by omega)]
          refine CallK.pure (p_put hv x (by omega) hcap) ?_
          rintro _ rfl
          simp [h31, immB]
          refine Again2.mk 3 (by omega) ⟨1, _, rfl, by simp [h9], by simp [h10], by simp [h11], by simp [h6], by simp [h29], by simp [h30], ?_, by simp; rfl, ?_, hH⟩
          · simp; rfl
          · refine .inr ⟨none, ?_⟩
            simp [encF, immB, Nat.add_assoc]
        · simp [h29, h30, h31, h0, hv.un]
          rw [wrap_u64 (n := (y : Int)) (by omega) (by omega)]
          refine CallK.pure (p_put hv y (by omega) hcap) ?_
          rintro _ rfl
          simp [h31, immB]
          refine Again2.mk 2 (by omega) ⟨2, _, rfl, by simp [h9], by simp [h10], by simp [h11], by simp [h6], by simp [h29], by simp [h30], ?_, by simp; rfl, ?_, hH⟩
          · simp; rfl
          · refine .inr ⟨none, ?_⟩
            simp [encF, immB, Nat.add_assoc]
        · simp [h29, h30, h31, h0, hv.un]
          rw [wrap_u64 (n := (z : Int)) (by omega) (by omega)]
          refine CallK.pure (p_put hv z (by omega) hcap) ?_
          rintro _ rfl
          simp [h31, immB]
          refine Again2.mk 1 (by omega) ⟨3, _, rfl, by simp [h9], by simp [h10], by simp [h11], by simp [h6], by simp [h29], by simp [h30], ?_, by simp; rfl, ?_, hH⟩
          · simp; rfl
          · refine .inr ⟨none, ?_⟩
            simp [encF, immB, Nat.add_assoc]
        · simp [h29, h30, h31, h0, hv.un]
          rw [wrap_u64 (n := (u : Int)) (by omega) (by omega)]
          refine CallK.pure (p_put hv u (by omega) hcap) ?_
          rintro _ rfl
          simp [h31, immB]
          refine Again2.mk 0 (by omega) ⟨4, _, rfl, by simp [h9], by simp [h10], by simp [h11], by simp [h6], by simp [h29], by simp [h30], ?_, by simp; rfl, ?_, hH⟩
          · simp; rfl
          · refine .inr ⟨none, ?_⟩
            simp [encF, immB, Nat.add_assoc]
        · simp only [List.take_succ_cons, List.take_zero] at hv hcap
          have hEl : (encF [x, y, z, u]).length ≤ 40 := by simpa using hLj
          have hpl : pre.length + 60 ≤ 2 ^ 40 := hls
          have hel : ∀ w : List UInt8, w = pre ++ encM ⟨x, y, z, u, f, mv⟩ → l ++ putM (ms.take (i + 1)) = w := fun w hw => by
            rw [hw, hsucc, ← List.append_assoc, hpre]
          rw [hE] at hel
          generalize encF [x, y, z, u] = e4 at *
          simp [h29, h30, h31, h0, h6, hv.un, hH]
          refine CallK.pure (p_fields _) ?_
          rintro _ rfl
          have fin : ∀ (T : Nat → AV) (v : AV), T 9 = .imm cs ms.length c → T 10 = .int .i64 ms.length → T 11 = .int .i64 (i + 1 : Nat) → T 0 = v → IsB v (l ++ putM (ms.take (i + 1))) → I_mput (.imm cs ms.length c) ms l k' T H :=
            fun T v a1 a2 a3 a4 a5 => ⟨i + 1, v, by omega, a1, a2, a3, a4, a5⟩
          have hw11 : IntKind.i64.wrap ((i : Int) + 1) = ((i + 1 : Nat) : Int) := by rw [wrap_i64 (by omega) (by omega)]; omega
          cases hF : fieldsK x with
          | false =>
            simp [h6, h0, hv.un, hH]
            refine CallK.pure (p_values _) ?_
            rintro _ rfl
            cases hV : valuesK x with
            | false =>
              simp [h11]
              refine Again2.mk k' (by omega) (fin _ v (by simp [h9]) (by simp [h10]) (by simpa using hw11) (by simp [h0]) ?_)
              rw [hel _ (by simp [hF, hV]; rfl)]
              exact hv
            | true =>
              simp [h6, h0, hv.un, hH]
              refine CallK.pure (k_putInt hv mv hv6.1 hv6.2 hcap) ?_
              rintro _ rfl
              simp [h11, immB]
              refine Again2.mk k' (by omega) (fin _ _ (by simp [h9]) (by simp [h10]) (by simpa using hw11) (by simp; rfl) ?_)
              rw [hel _ (by simp [hF, hV]; rfl)]
              exact .inr ⟨none, by simp [immB]⟩
          | true =>
            simp [h6, h0, hv.un, hH]
            rw [wrap_u64 (n := (f : Int)) (by omega) (by omega)]
            refine CallK.pure (p_put hv f (by omega) hcap) ?_
            rintro _ rfl
            simp [h6, immB, hH]
            refine CallK.pure (p_values _) ?_
            rintro _ rfl
            cases hV : valuesK x with
            | false =>
              simp [h11]
              refine Again2.mk k' (by omega) (fin _ _ (by simp [h9]) (by simp [h10]) (by simpa using hw11) (by simp; rfl) ?_)
              rw [hel _ (by simp [hF, hV]; rfl)]
              exact .inr ⟨none, by simp [immB]⟩
            | true =>
              simp [h6, hH]
              have hlf := enc_len64 (n := f) (by omega)
              refine CallK.pure (k_putInt (a := .imm (bytesV (pre ++ (e4 ++ enc f))) (pre.length + (e4.length + (enc f).length)) none) (l := pre ++ (e4 ++ enc f)) (.inr ⟨none, by simp [immB]⟩) mv hv6.1 hv6.2 (by simp only [List.length_append] at *; omega)) ?_
              rintro _ rfl
              simp [h11, immB]
              refine Again2.mk k' (by omega) (fin _ _ (by simp [h9]) (by simp [h10]) (by simpa using hw11) (by simp; rfl) ?_)
              rw [hel _ (by simp [hF, hV]; rfl)]
              exact .inr ⟨none, by simp [immB]⟩
    · obtain rfl : k = 0 := by omega
      have : i = ms.length := by omega
      subst this
      simp [h9, h10, h11, h0, hv.un]
      rw [List.take_length] at hv
      exact hv
end Go.Proofs.YtdpbbnnlbjgjgaaGreat
set_option linter.unusedVariables false
set_option linter.unusedSimpArgs false
set_option maxRecDepth 100000
namespace Go.Proofs.YtdpbbnnlbjgjgaaGreat
open Go.Sf
def zeroM : MutT := ⟨0, 0, 0, 0, 0, 0⟩
def getMutL (l : List UInt8) : MutT × Nat × Nat :=
  let a := smallR l 0 0
  let b := smallR l a.2.1 a.2.2
  let c := smallR l b.2.1 b.2.2
  let d := smallR l c.2.1 c.2.2
  let f := if fieldsK a.1 then smallR l d.2.1 d.2.2 else (0, d.2)
  let v : Int × Nat × Nat := if valuesK a.1 ∧ f.2.2 = 0 then (zag (num (l.drop f.2.1)).1, f.2.1 + (num (l.drop f.2.1)).2.1, (num (l.drop f.2.1)).2.2) else (0, f.2)
  if v.2.2 ≠ 0 then (zeroM, 0, v.2.2) else if mayM ⟨a.1, b.1, c.1, d.1, f.1, v.1⟩ then (⟨a.1, b.1, c.1, d.1, f.1, v.1⟩, v.2.1, 0) else (zeroM, 0, 1)
theorem smallR_le {l : List UInt8} {n e : Nat} (h : n ≤ l.length) : (smallR l n e).2.1 ≤ l.length := by
  unfold smallR
  split
  · exact h
  · have := (num_took (l.drop n)).2
    rw [List.length_drop] at this
    simp only; omega
theorem Heap.fresh_ne {H : Heap} {b c : Nat} {x : Blk} (h : (H.set b (some x)) c = none) : c ≠ b ∧ H c = none := by
  unfold Heap.set at h
  split at h
  · cases h
  · exact ⟨by assumption, h⟩
theorem call_small {a : AV} {l : List UInt8} (ha : IsB a l) {n e v' n' e' : _} (hR : smallR l n e = (v', n', e')) {H : Heap} {b : Nat} {T : Nat → AV} {d : Option Nat} {K : AS → Prop} (hH : H b = some (.cells [a, .int .i64 n, .int .i64 e] 3)) (hn : n ≤ l.length) (hl : l.length ≤ 2 ^ 40)
    (k : ∀ H' : Heap, n' ≤ l.length → H' b = some (.cells [a, .int .i64 n', .int .i64 e'] 3) → (∀ c, c ≠ b → H' c = H c) → K ⟨put T d (.int .i64 v'), H'⟩) : CallK PP F_mut_reader_small [.ptr b 0] T H d K := by
  refine CallK.of (k_small ha hH hn hl) ?_
  rintro v H' ⟨rfl, rfl⟩
  rw [hR]
  have := smallR_le (l := l) (n := n) (e := e) hn
  rw [hR] at this
  exact k _ this (Heap.set_self _ _ _) (fun c hc => Heap.set_ne _ _ hc)
theorem p_mutGet {a : AV} {l : List UInt8} (ha : IsB a l) (hl : l.length ≤ 2 ^ 40) : CP PP F_mut_Get [a] (fun r => r = .tup [.agg (mutCs (getMutL l).1), .int .i64 (getMutL l).2.1, .int .i64 (getMutL l).2.2]) := by
  refine CP.by_vcC ok_mut_Get (by simp) ?_
  unfold c_mut_Get
  simp [ha.un]
  intro b2 hb2
  simp [ha.un, ha.known, ha.cellsL]
  intro b5 hb5
  simp
  obtain ⟨n52, -⟩ := Heap.fresh_ne hb5
  obtain ⟨⟨v1, p1, e1⟩, hA⟩ : ∃ r, smallR l 0 0 = r := ⟨_, rfl⟩
  obtain ⟨⟨v2, p2, e2⟩, hB⟩ : ∃ r, smallR l p1 e1 = r := ⟨_, rfl⟩
  obtain ⟨⟨v3, p3, e3⟩, hC⟩ : ∃ r, smallR l p2 e2 = r := ⟨_, rfl⟩
  obtain ⟨⟨v4, p4, e4⟩, hD⟩ : ∃ r, smallR l p3 e3 = r := ⟨_, rfl⟩
  refine call_small ha hA (Heap.set_self _ _ _) (by omega) hl ?_
  intro H1 hp1 h1 k1
  have g1 : H1 b2 = some (.cells [.int .i64 0, .int .i64 0, .int .i64 0, .int .i64 0, .int .i64 0, .int .i64 0] 6) := by
    rw [k1 b2 (Ne.symm n52), Heap.set_ne _ _ (Ne.symm n52), Heap.set_self]
  clear k1 hb5 hb2
  simp
  intro b6 hb6
  have n62 : b6 ≠ b2 := fun h => by rw [h, g1] at hb6; cases hb6
  have n65 : b6 ≠ b5 := fun h => by rw [h, h1] at hb6; cases hb6
  simp [Heap.set_self]
  refine call_small ha hB (b := b5) (by rw [Heap.set_ne _ _ (Ne.symm n65), Heap.set_ne _ _ (Ne.symm n65)]; exact h1) hp1 hl ?_
  intro H2 hp2 h2 k2
  have g2 : H2 b2 = some (.cells [.int .i64 0, .int .i64 0, .int .i64 0, .int .i64 0, .int .i64 0, .int .i64 0] 6) := by
    rw [k2 b2 (Ne.symm n52), Heap.set_ne _ _ (Ne.symm n62), Heap.set_ne _ _ (Ne.symm n62)]; exact g1
  have m2 : H2 b6 = some (.cells [.int .i64 v1, .int .i64 0, .int .i64 0, .int .i64 0, .int .i64 0, .int .i64 0] 6) := by
    rw [k2 b6 n65, Heap.set_self]
  clear k2 hb6 h1 g1
  simp
  refine call_small ha hC h2 hp2 hl ?_
  intro H3 hp3 h3 k3
  have g3 := (k3 b2 (Ne.symm n52)).trans g2
  have m3 := (k3 b6 n65).trans m2
  clear k3 h2 g2 m2
  simp
  refine call_small ha hD h3 hp3 hl ?_
  intro H4 hp4 h4 k4
  have g4 := (k4 b2 (Ne.symm n52)).trans g3
  have m4 := (k4 b6 n65).trans m3
  clear k4 h3 g3 m3
  simp [m4, Heap.set_self]
  refine CallK.pure (p_fields _) ?_
  rintro _ rfl
  obtain ⟨⟨v5, p5, e5⟩, hE⟩ : ∃ r, (if fieldsK v1 then smallR l p4 e4 else ((0 : Int), p4, e4)) = r := ⟨_, rfl⟩
  have h5 : (H4.set b6 (some (Blk.cells [.int .i64 v1, .int .i64 v2, .int .i64 v3, .int .i64 v4, .int .i64 0, .int .i64 0] 6))) b5 = some (.cells [a, .int .i64 p4, .int .i64 e4] 3) := by
    rw [Heap.set_ne _ _ (Ne.symm n65)]; exact h4
  have g5 : (H4.set b6 (some (Blk.cells [.int .i64 v1, .int .i64 v2, .int .i64 v3, .int .i64 v4, .int .i64 0, .int .i64 0] 6))) b2 = some (.cells [.int .i64 0, .int .i64 0, .int .i64 0, .int .i64 0, .int .i64 0, .int .i64 0] 6) := by
    rw [Heap.set_ne _ _ (Ne.symm n62)]; exact g4
  have m5 : (H4.set b6 (some (Blk.cells [.int .i64 v1, .int .i64 v2, .int .i64 v3, .int .i64 v4, .int .i64 0, .int .i64 0] 6))) b6 = some (.cells [.int .i64 v1, .int .i64 v2, .int .i64 v3, .int .i64 v4, .int .i64 0, .int .i64 0] 6) := Heap.set_self _ _ _
  clear m4 g4 h4
  generalize H4.set b6 (some (Blk.cells [.int .i64 v1, .int .i64 v2, .int .i64 v3, .int .i64 v4, .int .i64 0, .int .i64 0] 6)) = H5 at *
  have spec : getMutL l = (let v : Int × Nat × Nat := if valuesK v1 ∧ e5 = 0 then (zag (num (l.drop p5)).1, p5 + (num (l.drop p5)).2.1, (num (l.drop p5)).2.2) else (0, p5, e5)
      if v.2.2 ≠ 0 then (zeroM, 0, v.2.2) else if mayM ⟨v1, v2, v3, v4, v5, v.1⟩ then (⟨v1, v2, v3, v4, v5, v.1⟩, v.2.1, 0) else (zeroM, 0, 1)) := by
    unfold getMutL
    simp only [hA, hB, hC, hD]
    rw [hE]
  have e26 : ∀ c : Bool, fieldsK v1 = c → True := fun _ _ => trivial
  cases hF : fieldsK v1
  · rw [hF] at hE
    simp only [Bool.false_eq_true, if_false, Prod.mk.injEq] at hE
    obtain ⟨q1, q2, q3⟩ := hE
    rw [q2, q3] at h5
    have m5 : H5 b6 = some (.cells [.int .i64 v1, .int .i64 v2, .int .i64 v3, .int .i64 v4, .int .i64 v5, .int .i64 0] 6) := by rw [← q1]; exact m5
    rw [q2] at hp4
    clear q1 q2 q3
    simp [m5, hF]
    refine CallK.pure (p_values _) ?_
    rintro _ rfl
    have hp5 := hp4
    cases hV : valuesK v1
    · by_cases he : e5 = 0
      · subst he
        have spec2 : getMutL l = (if mayM ⟨v1, v2, v3, v4, v5, 0⟩ then (⟨v1, v2, v3, v4, v5, 0⟩, p5, 0) else (zeroM, 0, 1)) := by rw [spec]; simp [hV]
        simp [hV, h5, g5, m5]
        refine CallK.pure (p_may ⟨v1, v2, v3, v4, v5, 0⟩) ?_
        rintro _ rfl
        cases hM : mayM ⟨v1, v2, v3, v4, v5, 0⟩
        · rw [hM] at spec2
          simp [h5, g5, m5, Heap.set_self, Heap.set_ne, n52, n52.symm, n62, n62.symm, spec2, mutCs, zeroM]
        · rw [hM] at spec2
          simp [h5, g5, m5, Heap.set_self, Heap.set_ne, n52, n52.symm, n62, n62.symm, spec2, mutCs]
      · have he' : ¬ ((e5 : Int) = 0) := by omega
        have spec2 : getMutL l = (zeroM, 0, e5) := by rw [spec]; simp [hV, he]
        simp [hV, h5, g5, m5, he, he', Heap.set_self, Heap.set_ne, n52, n52.symm, n62, n62.symm, spec2, mutCs, zeroM]
    · by_cases he : e5 = 0
      · subst he
        simp [hV, h5, g5, m5, ha.un]
        have spec2 : getMutL l = (if (num (l.drop p5)).2.2 ≠ 0 then (zeroM, 0, (num (l.drop p5)).2.2) else if mayM ⟨v1, v2, v3, v4, v5, zag (num (l.drop p5)).1⟩ then (⟨v1, v2, v3, v4, v5, zag (num (l.drop p5)).1⟩, p5 + (num (l.drop p5)).2.1, 0) else (zeroM, 0, 1)) := by rw [spec]; simp [hV]
        have ht := (num_took (l.drop p5)).1
        obtain ⟨⟨nu, nk, ne⟩, hN⟩ : ∃ r, num (l.drop p5) = r := ⟨_, rfl⟩
        rw [hN] at spec2 ht
        simp only at spec2 ht
        have hw : IntKind.i64.wrap ((p5 : Int) + (nk : Int)) = ((p5 + nk : Nat) : Int) := by rw [wrap_i64 (by omega) (by omega)]; omega
        rcases ha with ⟨rfl, rfl⟩ | ⟨c, rfl⟩
        · obtain rfl : p5 = 0 := by simpa using hp5
          simp
          refine CallK.pure (p_getInt .nil) ?_
          rintro _ rfl
          have hN' : (0, 0, 8) = (nu, nk, ne) := hN
          simp only [Prod.mk.injEq] at hN'
          obtain ⟨rfl, rfl, rfl⟩ := hN'
          simp [resI, show num [] = (0, 0, 8) from rfl, h5, m5, g5, spec2, Heap.set_self, Heap.set_ne, n52, n52.symm, n62, n62.symm, n65, n65.symm, mutCs, zeroM]
        · simp [immB, hp5, bytesV_length]
          refine CallK.pure (p_getInt (isB_drop l p5 _)) ?_
          rintro _ rfl
          rw [hN]
          simp [resI, h5, m5, Heap.set_self, Heap.set_ne, n52, n52.symm, n62, n62.symm, n65, n65.symm, hw]
          refine ⟨fun hne => ?_, fun hne => ?_⟩
          · simp [g5, h5, m5, spec2, hne, Heap.set_self, Heap.set_ne, n52, n52.symm, n62, n62.symm, n65, n65.symm, mutCs, zeroM]
          · subst hne
            refine CallK.pure (p_may ⟨v1, v2, v3, v4, v5, zag nu⟩) ?_
            rintro _ rfl
            cases hM : mayM ⟨v1, v2, v3, v4, v5, zag nu⟩
            · rw [hM] at spec2
              simp [g5, h5, m5, spec2, Heap.set_self, Heap.set_ne, n52, n52.symm, n62, n62.symm, n65, n65.symm, mutCs, zeroM]
            · rw [hM] at spec2
              simp [g5, h5, m5, spec2, Heap.set_self, Heap.set_ne, n52, n52.symm, n62, n62.symm, n65, n65.symm, mutCs]
      · have he' : ¬ ((e5 : Int) = 0) := by omega
        have spec2 : getMutL l = (zeroM, 0, e5) := by rw [spec]; simp [hV, he]
        simp [hV, h5, g5, m5, he, he', Heap.set_self, Heap.set_ne, n52, n52.symm, n62, n62.symm, spec2, mutCs, zeroM]
  · rw [hF] at hE
    simp only [if_true] at hE
    simp [m5, hF]
    refine call_small ha hE h5 hp4 hl ?_
    intro H6 hp5 h6 k6
    have g6 := (k6 b2 (Ne.symm n52)).trans g5
    have m6 := (k6 b6 n65).trans m5
    clear k6 h5 g5 m5
    simp [m6, Heap.set_self]
    have h5 : (H6.set b6 (some (Blk.cells [.int .i64 v1, .int .i64 v2, .int .i64 v3, .int .i64 v4, .int .i64 v5, .int .i64 0] 6))) b5 = some (.cells [a, .int .i64 p5, .int .i64 e5] 3) := by
      rw [Heap.set_ne _ _ (Ne.symm n65)]; exact h6
    have g5 : (H6.set b6 (some (Blk.cells [.int .i64 v1, .int .i64 v2, .int .i64 v3, .int .i64 v4, .int .i64 v5, .int .i64 0] 6))) b2 = some (.cells [.int .i64 0, .int .i64 0, .int .i64 0, .int .i64 0, .int .i64 0, .int .i64 0] 6) := by
      rw [Heap.set_ne _ _ (Ne.symm n62)]; exact g6
    have m5 : (H6.set b6 (some (Blk.cells [.int .i64 v1, .int .i64 v2, .int .i64 v3, .int .i64 v4, .int .i64 v5, .int .i64 0] 6))) b6 = some (.cells [.int .i64 v1, .int .i64 v2, .int .i64 v3, .int .i64 v4, .int .i64 v5, .int .i64 0] 6) := Heap.set_self _ _ _
    clear m6 g6 h6
    generalize H6.set b6 (some (Blk.cells [.int .i64 v1, .int .i64 v2, .int .i64 v3, .int .i64 v4, .int .i64 v5, .int .i64 0] 6)) = H5 at *
    refine CallK.pure (p_values _) ?_
    rintro _ rfl
    cases hV : valuesK v1
    · by_cases he : e5 = 0
      · subst he
        have spec2 : getMutL l = (if mayM ⟨v1, v2, v3, v4, v5, 0⟩ then (⟨v1, v2, v3, v4, v5, 0⟩, p5, 0) else (zeroM, 0, 1)) := by rw [spec]; simp [hV]
        simp [hV, h5, g5, m5]
        refine CallK.pure (p_may ⟨v1, v2, v3, v4, v5, 0⟩) ?_
        rintro _ rfl
        cases hM : mayM ⟨v1, v2, v3, v4, v5, 0⟩
        · rw [hM] at spec2
          simp [h5, g5, m5, Heap.set_self, Heap.set_ne, n52, n52.symm, n62, n62.symm, spec2, mutCs, zeroM]
        · rw [hM] at spec2
          simp [h5, g5, m5, Heap.set_self, Heap.set_ne, n52, n52.symm, n62, n62.symm, spec2, mutCs]
      · have he' : ¬ ((e5 : Int) = 0) := by omega
        have spec2 : getMutL l = (zeroM, 0, e5) := by rw [spec]; simp [hV, he]
        simp [hV, h5, g5, m5, he, he', Heap.set_self, Heap.set_ne, n52, n52.symm, n62, n62.symm, spec2, mutCs, zeroM]
    · by_cases he : e5 = 0
      · subst he
        simp [hV, h5, g5, m5, ha.un]
        have spec2 : getMutL l = (if (num (l.drop p5)).2.2 ≠ 0 then (zeroM, 0, (num (l.drop p5)).2.2) else if mayM ⟨v1, v2, v3, v4, v5, zag (num (l.drop p5)).1⟩ then (⟨v1, v2, v3, v4, v5, zag (num (l.drop p5)).1⟩, p5 + (num (l.drop p5)).2.1, 0) else (zeroM, 0, 1)) := by rw [spec]; simp [hV]
        have ht := (num_took (l.drop p5)).1
        obtain ⟨⟨nu, nk, ne⟩, hN⟩ : ∃ r, num (l.drop p5) = r := ⟨_, rfl⟩
        rw [hN] at spec2 ht
        simp only at spec2 ht
        have hw : IntKind.i64.wrap ((p5 : Int) + (nk : Int)) = ((p5 + nk : Nat) : Int) := by rw [wrap_i64 (by omega) (by omega)]; omega
        rcases ha with ⟨rfl, rfl⟩ | ⟨c, rfl⟩
        · obtain rfl : p5 = 0 := by simpa using hp5
          simp
          refine CallK.pure (p_getInt .nil) ?_
          rintro _ rfl
          have hN' : (0, 0, 8) = (nu, nk, ne) := hN
          simp only [Prod.mk.injEq] at hN'
          obtain ⟨rfl, rfl, rfl⟩ := hN'
          simp [resI, show num [] = (0, 0, 8) from rfl, h5, m5, g5, spec2, Heap.set_self, Heap.set_ne, n52, n52.symm, n62, n62.symm, n65, n65.symm, mutCs, zeroM]
        · simp [immB, hp5, bytesV_length]
          refine CallK.pure (p_getInt (isB_drop l p5 _)) ?_
          rintro _ rfl
          rw [hN]
          simp [resI, h5, m5, Heap.set_self, Heap.set_ne, n52, n52.symm, n62, n62.symm, n65, n65.symm, hw]
          refine ⟨fun hne => ?_, fun hne => ?_⟩
          · simp [g5, h5, m5, spec2, hne, Heap.set_self, Heap.set_ne, n52, n52.symm, n62, n62.symm, n65, n65.symm, mutCs, zeroM]
          · subst hne
            refine CallK.pure (p_may ⟨v1, v2, v3, v4, v5, zag nu⟩) ?_
            rintro _ rfl
            cases hM : mayM ⟨v1, v2, v3, v4, v5, zag nu⟩
            · rw [hM] at spec2
              simp [g5, h5, m5, spec2, Heap.set_self, Heap.set_ne, n52, n52.symm, n62, n62.symm, n65, n65.symm, mutCs, zeroM]
            · rw [hM] at spec2
              simp [g5, h5, m5, spec2, Heap.set_self, Heap.set_ne, n52, n52.symm, n62, n62.symm, n65, n65.symm, mutCs]
      · have he' : ¬ ((e5 : Int) = 0) := by omega
        have spec2 : getMutL l = (zeroM, 0, e5) := by rw [spec]; simp [hV, he]
        simp [hV, h5, g5, m5, he, he', Heap.set_self, Heap.set_ne, n52, n52.symm, n62, n62.symm, spec2, mutCs, zeroM]
end Go.Proofs.YtdpbbnnlbjgjgaaGreat
set_option linter.unusedVariables false
set_option linter.unusedSimpArgs false
set_option maxRecDepth 100000
namespace Go.Sf
theorem q_append {P : Program} {sz bytes n m : Nat} {s x : AV} {old new : List AV} {H : Heap} {K : AV → Prop} (h1 : appOld H sz s = some (old, none)) (h2 : cellsOf H sz x = some new) (h3 : lenOf s = some n) (h4 : lenOf x = some m)
    (h5 : new.all AV.one = true) (h6 : (n + m) * bytes ≤ 140737488355328) (k : K (.imm (old ++ new) (n + m) none)) : vcQE P (.append true sz bytes) [s, x] H K := by
  simp only [vcQE, h1, h2, h3, h4]
  exact ⟨h5, h6, k⟩
/-- A slice of bytes of which it is known whether it is nil. -/
def IsB1 (v : AV) (l : List UInt8) : Prop := (v = .nils ∧ l = []) ∨ (l ≠ [] ∧ ∃ c, v = immB l c)
theorem IsB1.isB {v : AV} {l : List UInt8} (h : IsB1 v l) : IsB v l := h.elim .inl fun h => .inr h.2
theorem CP.imm_nil {P : Program} {f : Nat} {c : Option Nat} {R : AV → Prop} (h1 : CP P f [.nils] R) (h2 : CP P f [.emp] R) : CP P f [.imm [] 0 c] R := by
  intro M w vs hv hr
  simp only [VRels] at hv
  obtain ⟨x, _, rfl, hx, rfl⟩ := hv
  simp only [VRel] at hx
  obtain ⟨A, us, k, rfl, h3, h4, h5, h6, h7⟩ := hx
  cases A with
  | none =>
    obtain ⟨rfl, _⟩ := h5 rfl
    exact h1 M w _ (.cons (by simp only [VRel]) .nil) hr
  | some a =>
    exact h2 M w _ (.cons (by simp only [VRel]; exact ⟨a, k, rfl⟩) .nil) hr
/-- What stands at a key. -/
def valAt (F : List (AV × AV)) (r : Option Nat) : AV := lkpV false .nils F r
theorem lkp_t (z : AV) (F : List (AV × AV)) (r : Option Nat) : lkpV true z F r = .tup [lkpV false z F r, .bool r.isSome] := rfl
/-- A disk: its block, its files, what is kept, its acts. -/
structure DiskAt (H : Heap) (d f k : Nat) (F K : List (AV × AV)) (n : Nat) (av : AV) (acts : List AV) : Prop where
  hd : H d = some (.cells [.mp f, .mp k, av] 3)
  hf : H f = some (.map F)
  hk : H k = some (.map K)
  ha : OwnR H 4 n av acts
  fk : f ≠ k
  ad : blkOf av ≠ some d
theorem OwnR.keep2 {H H' : Heap} {sz n : Nat} {v : AV} {cs : List AV} (h : OwnR H sz n v cs) (k : ∀ b, blkOf v = some b → H' b = H b) : OwnR H' sz n v cs := by
  obtain ⟨hl, h | ⟨b, c, rfl, hb, hc⟩⟩ := h
  · exact ⟨hl, .inl h⟩
  · exact ⟨hl, .inr ⟨b, c, rfl, by rw [k b rfl]; exact hb, hc⟩⟩
theorem OwnR.one {H : Heap} {sz n : Nat} {v : AV} {cs : List AV} (h : OwnR H sz n v cs) : AV.one v = true := by
  obtain ⟨_, ⟨rfl, _⟩ | ⟨b, c, rfl, _⟩⟩ := h <;> rfl
theorem OwnR.blk_live {H : Heap} {sz n : Nat} {v : AV} {cs : List AV} (h : OwnR H sz n v cs) {b : Nat} (hb : blkOf v = some b) : ∃ cs k, H b = some (.cells cs k) := by
  obtain ⟨hl, ⟨rfl, _⟩ | ⟨b', c, rfl, hb', hc⟩⟩ := h
  · cases hb
  · cases hb; exact ⟨_, _, hb'⟩
end Go.Sf
namespace Go.Proofs.YtdpbbnnlbjgjgaaGreat
open Go.Sf
theorem p_clone1 {a : AV} {l : List UInt8} (ha : IsB1 a l) (hl : l.length ≤ 2 ^ 40) : CP PP F_slices_Clone_byte_byte [a] (fun v => IsB1 v l) := by
  refine CP.by_vc ok_slices_Clone_byte_byte (by simp) ?_
  unfold c_slices_Clone_byte_byte
  rcases ha with ⟨rfl, rfl⟩ | ⟨hne, c, rfl⟩
  · simp
    exact .inl ⟨rfl, rfl⟩
  · obtain ⟨n, hn⟩ : ∃ n, l.length = n + 1 := ⟨l.length - 1, by have := List.length_pos_iff.2 hne; omega⟩
    simp [immB, hn]
    refine vcAp_hold (n := 0) (cs := []) (.inr ⟨rfl, rfl⟩) (x := .imm (bytesV l) (n + 1) c) (new := bytesV l) (m := n + 1) (by rw [cellsOf_imm, if_pos (by rw [bytesV_length]; omega)]) rfl (bytesV_one _) (by omega) ?_
    intro H' _
    simp
    exact .inr ⟨hne, none, by simp [immB, hn]⟩
theorem p_clone {a : AV} {l : List UInt8} (ha : IsB a l) (hl : l.length ≤ 2 ^ 40) : CP PP F_slices_Clone_byte_byte [a] (fun v => IsB v l) := by
  by_cases hne : l = []
  · subst hne
    have h1 : CP PP F_slices_Clone_byte_byte [.nils] (fun v => IsB v []) := (p_clone1 (.inl ⟨rfl, rfl⟩) hl).mono fun v h => h.isB
    rcases ha with ⟨rfl, _⟩ | ⟨c, rfl⟩
    · exact h1
    · refine CP.imm_nil h1 ?_
      refine CP.by_vc ok_slices_Clone_byte_byte (by simp) ?_
      unfold c_slices_Clone_byte_byte
      simp
      refine vcAp_hold (n := 0) (cs := []) (.inr ⟨rfl, rfl⟩) (x := .emp) (new := []) (m := 0) (by simp [cellsOf]) rfl rfl (by omega) ?_
      intro H' _
      simp
      exact .inr ⟨none, rfl⟩
  · refine (p_clone1 (l := l) ?_ hl).mono fun v h => h.isB
    rcases ha with ⟨_, h⟩ | ⟨c, rfl⟩
    · exact absurd h hne
    · exact .inr ⟨hne, c, rfl⟩
theorem p_clipN : CP PP F_slices_Clip_byte_byte [.nils] (fun v => v = .nils) := by
  refine CP.by_vc ok_slices_Clip_byte_byte (by simp) ?_
  unfold c_slices_Clip_byte_byte
  simp
theorem p_clipI (l : List UInt8) (c : Option Nat) : CP PP F_slices_Clip_byte_byte [immB l c] (fun v => v = immB l (some l.length)) := by
  refine CP.by_vc ok_slices_Clip_byte_byte (by simp) ?_
  unfold c_slices_Clip_byte_byte
  simp [immB, bytesV_length]
  rw [List.take_of_length_le (by simp [bytesV_length])]
theorem k_do {H : Heap} {f : Nat} {F : List (AV × AV)} (hf : H f = some (.map F)) {name : ByteArray} {r : Option Nat} (hr : findI .s (.str name) F = some r) {lc lb : List UInt8} {b : AV} (hc : IsB (valAt F r) lc) (hb : IsB b lb) (n : Int)
    (hl : lc.length + lb.length ≤ 2 ^ 40) :
    CC PP F_disk_do [.mp f, .agg [.int .i64 0, .str name, b, .int .i64 n]] H fun v H' => ∃ w, IsB w (lc ++ lb) ∧ H' f = some (.map (msetV (.str name) w F r)) ∧ ∀ x, x ≠ f → H x ≠ none → H' x = H x := by
  refine CC.by_vc ok_disk_do (by simp) ?_
  unfold c_disk_do
  simp
  intro bx hbx
  have hfb : f ≠ bx := fun h => by rw [← h, hf] at hbx; cases hbx
  have hv : lkpV false .nils F r = valAt F r := rfl
  rcases hc with ⟨hc, rfl⟩ | ⟨c, hc⟩
  · simp [Heap.set_self, Heap.set_ne, hfb, hf, hr, hv, hc, hb.un]
    refine CallQ.of p_clipN ?_
    simp [Heap.set_self, hb.un]
    refine q_append (old := []) (n := 0) rfl (hb.cells _) rfl hb.len (bytesV_one _) (by simp at hl; omega) ?_
    simp [Heap.set_self, Heap.set_ne, hfb, hf, hr]
    rw [s_Mset hr]
    simp
    refine ⟨_, IsB.imm lb none, Heap.set_self _ _ _, fun x h1 h2 => ?_⟩
    rw [Heap.set_ne _ _ h1, Heap.set_ne _ _ (fun h => h2 (by rw [h]; exact hbx))]
  · simp [Heap.set_self, Heap.set_ne, hfb, hf, hr, hv, hc, hb.un, immB]
    refine CallQ.of (p_clipI lc c) ?_
    simp [Heap.set_self, hb.un, immB]
    refine q_append (old := bytesV lc) (n := lc.length) (by simp [appOld, bytesV_length]) (hb.cells _) rfl hb.len (bytesV_one _) (by omega) ?_
    simp [Heap.set_self, Heap.set_ne, hfb, hf, hr]
    rw [s_Mset hr]
    simp
    refine ⟨_, IsB.imm (lc ++ lb) none, ?_, fun x h1 h2 => ?_⟩
    · rw [Heap.set_self]; simp [immB, bytesV_append]
    · rw [Heap.set_ne _ _ h1, Heap.set_ne _ _ (fun h => h2 (by rw [h]; exact hbx))]
theorem k_done {H : Heap} {d f k : Nat} {F K : List (AV × AV)} {m : Nat} {av : AV} {acts : List AV} (hD : DiskAt H d f k F K m av acts) {name : ByteArray} {r : Option Nat} (hr : findI .s (.str name) F = some r) {lc lb : List UInt8} {b : AV}
    (hc : IsB (valAt F r) lc) (hb : IsB b lb) (n : Int) (hl : lc.length + lb.length ≤ 2 ^ 40) (hm : m < 2 ^ 30) :
    CC PP F_disk_Disk_done [.ptr d 0, .agg [.int .i64 0, .str name, b, .int .i64 n]] H fun v H' => v = .int .i64 0 ∧ ∃ w av', IsB w (lc ++ lb) ∧ DiskAt H' d f k (msetV (.str name) w F r) K (m + 1) av' (acts ++ [.int .i64 0, .str name, b, .int .i64 n]) ∧
      (blkOf av' = blkOf av ∨ ∀ x, blkOf av' = some x → H x = none) ∧ ∀ x, x ≠ d → x ≠ f → blkOf av ≠ some x → H x ≠ none → H' x = H x := by
  obtain ⟨hd, hf, hk, ha, fk, ad⟩ := hD
  refine CC.by_vc ok_disk_Disk_done (by simp) ?_
  unfold c_disk_Disk_done
  simp
  intro bx hbx
  have hdb : d ≠ bx := fun h => by rw [← h, hd] at hbx; cases hbx
  have hfb : f ≠ bx := fun h => by rw [← h, hf] at hbx; cases hbx
  have hdf : d ≠ f := fun h => by rw [h, hf] at hd; cases hd
  have hdk : d ≠ k := fun h => by rw [h, hk] at hd; cases hd
  simp [Heap.set_self, Heap.set_ne, hdb, hd]
  refine CallK.of (k_do (f := f) (by rw [Heap.set_ne _ _ hfb]; exact hf) hr hc hb n hl) ?_
  rintro v H1 ⟨w, hw, h1, h2⟩
  simp
  have hd1 : H1 d = some (.cells [.mp f, .mp k, av] 3) := by rw [h2 d hdf (by rw [Heap.set_ne _ _ hdb, hd]; simp), Heap.set_ne _ _ hdb]; exact hd
  have hb1 : H1 bx = some (.cells [.int .i64 0, .str name, b, .int .i64 n] 4) := by rw [h2 bx (Ne.symm hfb) (by rw [Heap.set_self]; simp), Heap.set_self]
  have hbf : ∀ x, blkOf av = some x → x ≠ f ∧ x ≠ k ∧ x ≠ bx := fun x hx => by
    obtain ⟨cs, q, hq⟩ := ha.blk_live hx
    exact ⟨(fun h => by rw [h, hf] at hq; cases hq), (fun h => by rw [h, hk] at hq; cases hq), (fun h => by rw [h, hbx] at hq; cases hq)⟩
  have old1 : ∀ x, x ≠ f → H x ≠ none → H1 x = H x := fun x hx hn => by
    have : x ≠ bx := fun h => hn (by rw [h]; exact hbx)
    rw [h2 x hx (by rw [Heap.set_ne _ _ this]; exact hn), Heap.set_ne _ _ this]
  have ha1 : OwnR H1 4 m av acts := ha.keep2 fun x hx => old1 x (hbf x hx).1 (by obtain ⟨cs, q, hq⟩ := ha.blk_live hx; rw [hq]; simp)
  have hk1 : H1 k = some (.map K) := by rw [old1 k (Ne.symm fk) (by rw [hk]; simp)]; exact hk
  have new1 : ([.int .i64 0, .str name, b, .int .i64 n] : List AV).all AV.one = true := by simp [hb.one]
  have nn : ∀ x, H x ≠ none → H1 x ≠ none := fun x hx => by
    by_cases hxf : x = f
    · rw [hxf, h1]; simp
    · rw [old1 x hxf hx]; exact hx
  have fin : ∀ (v' : AV) (H2 : Heap), OwnR H2 4 (m + 1) v' (acts ++ [.int .i64 0, .str name, b, .int .i64 n]) → KeepB H1 H2 (blkOf av) → (∀ b, blkOf v' = some b → H1 b = none ∨ blkOf av = some b) →
      H2 d = some (.cells [.mp f, .mp k, av] 3) ∧ ∃ w av', IsB w (lc ++ lb) ∧ DiskAt (H2.set d (some (.cells [.mp f, .mp k, v'] 3))) d f k (msetV (.str name) w F r) K (m + 1) av' (acts ++ [.int .i64 0, .str name, b, .int .i64 n]) ∧
      (blkOf av' = blkOf av ∨ ∀ x, blkOf av' = some x → H x = none) ∧ ∀ x, x ≠ d → x ≠ f → blkOf av ≠ some x → H x ≠ none → (H2.set d (some (.cells [.mp f, .mp k, v'] 3))) x = H x := by
    intro v' H2 ho hkeep hnew
    have hd2 : H2 d = some (.cells [.mp f, .mp k, av] 3) := by rw [hkeep d ad (by rw [hd1]; simp)]; exact hd1
    have hvd : blkOf v' ≠ some d := fun h => by
      rcases hnew d h with h | h
      · rw [hd1] at h; cases h
      · exact ad h
    refine ⟨hd2, w, v', hw, ⟨Heap.set_self _ _ _, ?_, ?_, ho.keep2 fun x hx => Heap.set_ne _ _ (fun h => hvd (by rw [← h]; exact hx)), fk, hvd⟩, ?_, fun x x1 x2 x3 x4 => ?_⟩
    · rw [Heap.set_ne _ _ (Ne.symm hdf), hkeep f (fun h => (hbf f h).1 rfl) (by rw [h1]; simp)]; exact h1
    · rw [Heap.set_ne _ _ (Ne.symm hdk), hkeep k (fun h => (hbf k h).2.1 rfl) (by rw [hk1]; simp)]; exact hk1
    · cases hv' : blkOf v' with
      | none => exact .inr fun x hx => by cases hx
      | some x =>
        rcases hnew x hv' with h | h
        · refine .inr fun y hy => ?_
          cases hy
          cases hx : H x with
          | none => rfl
          | some z => exact absurd h (nn x (by rw [hx]; simp))
        · exact .inl h.symm
    · rw [Heap.set_ne _ _ x1, hkeep x x3 (nn x x4), old1 x x2 x4]
  have step : ∀ (T : Nat → AV) (Q : AS → Prop), (∀ v' H2, OwnR H2 4 (m + 1) v' (acts ++ [.int .i64 0, .str name, b, .int .i64 n]) → KeepB H1 H2 (blkOf av) → (∀ b, blkOf v' = some b → H1 b = none ∨ blkOf av = some b) → Q ⟨put T (some 18) v', H2⟩) →
      vcAp false 4 56 (appOld H1 4 av) (cellsOf H1 4 (.imm [.int .i64 0, .str name, b, .int .i64 n] 1 (some 1))) (lenOf av) (some 1) av (some 18) T H1 Q := fun T Q h =>
    vcAp_row (.inl ha1) (x := .imm [.int .i64 0, .str name, b, .int .i64 n] 1 (some 1)) (new := [.int .i64 0, .str name, b, .int .i64 n]) (m := 1) rfl rfl rfl (by omega) new1 (by omega) (.inl (by simp)) h
  refine ⟨?_, ?_⟩
  · simp [hd1, hb1, ha1.un]
    refine step _ _ ?_
    intro v' H2 ho q1 q2
    obtain ⟨hd2, hfin⟩ := fin v' H2 ho q1 q2
    simp [hd2, ho.un, ho.one]
    simpa using hfin
  · simp [hd1, hb1, ha1.un]
    refine ⟨?_, ?_⟩
    · refine step _ _ ?_
      intro v' H2 ho q1 q2
      obtain ⟨hd2, hfin⟩ := fin v' H2 ho q1 q2
      simp [hd2, ho.un, ho.one]
      simpa using hfin
    · refine step _ _ ?_
      intro v' H2 ho q1 q2
      obtain ⟨hd2, hfin⟩ := fin v' H2 ho q1 q2
      simp [hd2, ho.un, ho.one]
      simpa using hfin
end Go.Proofs.YtdpbbnnlbjgjgaaGreat
set_option linter.unusedVariables false
set_option linter.unusedSimpArgs false
set_option maxRecDepth 100000
namespace Go.Sf
abbrev FileL := List (ByteArray × List UInt8)
def fidx (n : ByteArray) : FileL → Option Nat
  | [] => none
  | p :: F => if n = p.1 then some 0 else (fidx n F).map (· + 1)
def fget (n : ByteArray) (F : FileL) : List UInt8 := match (fidx n F).bind (F[·]?) with
  | some p => p.2
  | none => []
def fset (n : ByteArray) (l : List UInt8) (F : FileL) : FileL := match fidx n F with
  | some j => F.set j (n, l)
  | none => F ++ [(n, l)]
def fapp (F : FileL) (n : ByteArray) (l : List UInt8) : FileL := fset n (fget n F ++ l) F
/-- A map's entries stand for files. -/
def FsRel : List (AV × AV) → FileL → Prop
  | [], [] => True
  | e :: es, p :: F => e.1 = .str p.1 ∧ IsB e.2 p.2 ∧ FsRel es F
  | _, _ => False
theorem FsRel.length : ∀ {es : List (AV × AV)} {F : FileL}, FsRel es F → es.length = F.length
  | [], [], _ => rfl
  | [], _ :: _, h => h.elim
  | _ :: _, [], h => h.elim
  | e :: es, p :: F, h => by simp [FsRel.length h.2.2]
theorem FsRel.find {n : ByteArray} : ∀ {es : List (AV × AV)} {F : FileL}, FsRel es F → findI .s (.str n) es = some (fidx n F)
  | [], [], _ => rfl
  | [], _ :: _, h => h.elim
  | _ :: _, [], h => h.elim
  | (k, v) :: es, p :: F, h => by
    obtain ⟨h1, h2, h3⟩ := h
    simp only at h1
    subst h1
    simp only [findI, scalEq, fidx]
    by_cases hn : n = p.1
    · simp [hn]
    · simp [hn, FsRel.find h3]
theorem FsRel.get : ∀ {es : List (AV × AV)} {F : FileL}, FsRel es F → ∀ {j : Nat} {p : ByteArray × List UInt8}, F[j]? = some p → ∃ e, es[j]? = some e ∧ e.1 = .str p.1 ∧ IsB e.2 p.2
  | [], [], _, j, p, h => by simp at h
  | [], _ :: _, h, _, _, _ => h.elim
  | _ :: _, [], h, _, _, _ => h.elim
  | e :: es, q :: F, h, j, p, hj => by
    cases j with
    | zero => simp at hj; subst hj; exact ⟨e, rfl, h.1, h.2.1⟩
    | succ j => exact FsRel.get h.2.2 (by simpa using hj)
theorem fidx_lt {n : ByteArray} : ∀ {F : FileL} {j : Nat}, fidx n F = some j → j < F.length
  | [], j, h => by simp [fidx] at h
  | p :: F, j, h => by
    simp only [fidx] at h
    split at h
    · cases h; simp
    · cases hf : fidx n F with
      | none => simp [hf] at h
      | some k => simp [hf] at h; subst h; have := fidx_lt hf; simp; omega
theorem FsRel.val {es : List (AV × AV)} {F : FileL} (h : FsRel es F) (n : ByteArray) : IsB (valAt es (fidx n F)) (fget n F) := by
  unfold valAt lkpV fget
  cases hf : fidx n F with
  | none => exact .inl ⟨rfl, rfl⟩
  | some j =>
    have hj := fidx_lt hf
    obtain ⟨e, he, _, h2⟩ := h.get (j := j) (p := F[j]) (by simp [hj])
    simp only [Option.bind_some, he, List.getElem?_eq_getElem hj, Bool.false_eq_true, if_false]
    exact h2
theorem FsRel.snoc : ∀ {es : List (AV × AV)} {F : FileL} {n : ByteArray} {w : AV} {l : List UInt8}, FsRel es F → IsB w l → FsRel (es ++ [(.str n, w)]) (F ++ [(n, l)])
  | [], [], _, _, _, _, h => ⟨rfl, h, trivial⟩
  | [], _ :: _, _, _, _, h, _ => h.elim
  | _ :: _, [], _, _, _, h, _ => h.elim
  | e :: es, p :: F, n, w, l, h, k => ⟨h.1, h.2.1, FsRel.snoc h.2.2 k⟩
theorem FsRel.upd : ∀ {es : List (AV × AV)} {F : FileL} {j : Nat} {n : ByteArray} {w : AV} {l : List UInt8}, FsRel es F → IsB w l → FsRel (es.set j (.str n, w)) (F.set j (n, l))
  | [], [], _, _, _, _, h, k => trivial
  | [], _ :: _, _, _, _, _, h, _ => h.elim
  | _ :: _, [], _, _, _, _, h, _ => h.elim
  | e :: es, p :: F, 0, n, w, l, h, k => ⟨rfl, k, h.2.2⟩
  | e :: es, p :: F, j + 1, n, w, l, h, k => ⟨h.1, h.2.1, FsRel.upd h.2.2 k⟩
theorem FsRel.put {es : List (AV × AV)} {F : FileL} (h : FsRel es F) {n : ByteArray} {w : AV} {l : List UInt8} (k : IsB w l) : FsRel (msetV (.str n) w es (fidx n F)) (fset n l F) := by
  unfold msetV fset
  cases fidx n F with
  | none => exact h.snoc k
  | some j => exact h.upd k
/-- A slice's cells stand for acts: bytes put behind files. -/
def ActsRel (r : List AV) : FileL → Prop
  | [] => r = []
  | p :: A => ∃ b r', r = .int .i64 0 :: .str p.1 :: b :: .int .i64 0 :: r' ∧ IsB b p.2 ∧ ActsRel r' A
theorem ActsRel.snoc {n : ByteArray} {b : AV} {l : List UInt8} (k : IsB b l) : ∀ {A : FileL} {r : List AV}, ActsRel r A → ActsRel (r ++ [.int .i64 0, .str n, b, .int .i64 0]) (A ++ [(n, l)])
  | [], r, h => by simp only [ActsRel] at h; subst h; exact ⟨b, [], rfl, k, rfl⟩
  | p :: A, r, h => by
    simp only [ActsRel] at h
    obtain ⟨b', r', rfl, h1, h2⟩ := h
    exact ⟨b', _, rfl, h1, ActsRel.snoc k h2⟩
theorem ActsRel.at : ∀ {A : FileL} {r : List AV}, ActsRel r A → ∀ {i : Nat} {p : ByteArray × List UInt8}, A[i]? = some p → ∃ b, (r.drop (i * 4)).take 4 = [.int .i64 0, .str p.1, b, .int .i64 0] ∧ IsB b p.2 ∧ i * 4 + 4 ≤ r.length
  | [], r, h, i, p, hi => by simp at hi
  | q :: A, r, h, i, p, hi => by
    simp only [ActsRel] at h
    obtain ⟨b, r', rfl, h1, h2⟩ := h
    cases i with
    | zero => simp at hi; subst hi; exact ⟨b, by simp, h1, by simp⟩
    | succ i =>
      obtain ⟨b', e1, e2, e3⟩ := ActsRel.at h2 (i := i) (by simpa using hi)
      refine ⟨b', ?_, e2, by simp; omega⟩
      rw [show (i + 1) * 4 = 4 + i * 4 by omega, ← List.drop_drop]
      exact e1
theorem ActsRel.length : ∀ {A : FileL} {r : List AV}, ActsRel r A → r.length = A.length * 4
  | [], r, h => by simp only [ActsRel] at h; subst h; rfl
  | p :: A, r, h => by
    simp only [ActsRel] at h
    obtain ⟨b, r', rfl, h1, h2⟩ := h
    have := ActsRel.length h2
    simp only [List.length_cons]; omega
/-- A disk's blocks hold these files, these were kept, this was put behind since. -/
def DiskQ (H : Heap) (d f k : Nat) (av : AV) (F K A : FileL) : Prop := ∃ es ks acts, DiskAt H d f k es ks A.length av acts ∧ FsRel es F ∧ FsRel ks K ∧ ActsRel acts A
/-- All that was there is as it was, but for a disk's blocks. -/
def KeepD (H H' : Heap) (d f : Nat) (av : AV) : Prop := ∀ x, x ≠ d → x ≠ f → blkOf av ≠ some x → H x ≠ none → H' x = H x
end Go.Sf
namespace Go.Proofs.YtdpbbnnlbjgjgaaGreat
open Go.Sf
theorem k_diskNew {H : Heap} : CC PP F_disk_New [] H fun v H' => ∃ d f k, v = .ptr d 0 ∧ DiskQ H' d f k .nils [] [] [] ∧ H d = none ∧ H f = none ∧ H k = none ∧ ∀ x, H x ≠ none → H' x = H x := by
  refine CC.by_vc ok_disk_New (by simp) ?_
  unfold c_disk_New
  simp
  intro f hf
  simp
  intro k hk
  simp
  intro d hd
  simp
  obtain ⟨hdk, hd1⟩ := Heap.fresh_ne hd
  obtain ⟨hdf, hd0⟩ := Heap.fresh_ne hd1
  obtain ⟨hkf, hk0⟩ := Heap.fresh_ne hk
  refine ⟨f, k, ⟨[], [], [], ⟨Heap.set_self _ _ _, ?_, ?_, ⟨rfl, .inl ⟨rfl, rfl⟩⟩, Ne.symm hkf, by simp [blkOf]⟩, trivial, trivial, rfl⟩, hd0, hf, hk0, fun x hx => ?_⟩
  · rw [Heap.set_ne _ _ (Ne.symm hdf), Heap.set_ne _ _ (Ne.symm hkf), Heap.set_self]
  · rw [Heap.set_ne _ _ (Ne.symm hdk), Heap.set_self]
  · rw [Heap.set_ne _ _ (fun h => hx (by rw [h]; exact hd0)), Heap.set_ne _ _ (fun h => hx (by rw [h]; exact hk0)), Heap.set_ne _ _ (fun h => hx (by rw [h]; exact hf))]
theorem k_diskAppend {H : Heap} {d f k : Nat} {av : AV} {F K A : FileL} (hD : DiskQ H d f k av F K A) {name : ByteArray} {b : AV} {l : List UInt8} (hb : IsB b l) (hn0 : name ≠ ⟨#[]⟩) (hn : name.size ≤ 40) (hl : (fget name F).length + l.length ≤ 65536) (hA : A.length < 2 ^ 30) :
    CC PP F_disk_Disk_Append [.ptr d 0, .str name, b] H fun v H' => v = .int .i64 0 ∧ ∃ av', DiskQ H' d f k av' (fapp F name l) K (A ++ [(name, l)]) ∧ (blkOf av' = blkOf av ∨ ∀ x, blkOf av' = some x → H x = none) ∧ KeepD H H' d f av := by
  obtain ⟨es, ks, acts, hDA, hF, hK, hAc⟩ := hD
  have hfind := hF.find (n := name)
  have hval := hF.val name
  refine CC.by_vc ok_disk_Disk_Append (by simp) ?_
  unfold c_disk_Disk_Append
  have hs : ¬ (40 : Int) < name.size := by omega
  have hv : lkpV false .nils es (fidx name F) = valAt es (fidx name F) := rfl
  have hb' := hb
  have hval' := hval
  have hw : IntKind.i64.wrap (65536 - ((fget name F).length : Int)) = 65536 - ((fget name F).length : Int) := wrap_i64 (by omega) (by omega)
  have fin : ∀ u, IsB u l → CC PP F_disk_Disk_done [.ptr d 0, .agg [.int .i64 0, .str name, u, .int .i64 0]] H fun v H' => v = .int .i64 0 ∧ ∃ av', DiskQ H' d f k av' (fapp F name l) K (A ++ [(name, l)]) ∧ (blkOf av' = blkOf av ∨ ∀ x, blkOf av' = some x → H x = none) ∧ KeepD H H' d f av := fun u hu =>
    (k_done hDA hfind hval hu 0 (by omega) hA).mono fun v H' ⟨h1, w, av', h2, h3, h4, h5⟩ =>
      ⟨h1, av', ⟨_, _, _, by rw [List.length_append]; exact h3, hF.put h2, hK, hAc.snoc hu⟩, h4, h5⟩
  have hfindn := hfind
  rcases hb with ⟨rfl, rfl⟩ | ⟨c, rfl⟩ <;> rcases hval with ⟨hval, hg⟩ | ⟨cc, hval⟩
  · simp [hn0, hs, hDA.hd, hDA.hf, hfind, hv, hval, immB, show IntKind.i64.wrap 65536 = 65536 from rfl]
    refine CallK.pure (p_clone hb' (by simp at *; try omega)) ?_
    rintro u hu
    simp [hu.un, hu.known, hu.cellsL]
    refine CallK.of (fin u hu) ?_
    rintro v H' ⟨rfl, hq⟩
    simp
    exact hq
  · simp [hn0, hs, hDA.hd, hDA.hf, hfind, hv, hval, immB, hw]
    refine ⟨by omega, fun _ => ?_⟩
    refine CallK.pure (p_clone hb' (by simp at *; try omega)) ?_
    rintro u hu
    simp [hu.un, hu.known, hu.cellsL]
    refine CallK.of (fin u hu) ?_
    rintro v H' ⟨rfl, hq⟩
    simp
    exact hq
  · simp [hn0, hs, hDA.hd, hDA.hf, hfind, hv, hval, immB, hg, show IntKind.i64.wrap 65536 = 65536 from rfl]
    refine ⟨by omega, fun _ => ?_⟩
    refine CallK.pure (p_clone hb' (by simp at *; try omega)) ?_
    rintro u hu
    simp [hu.un, hu.known, hu.cellsL]
    refine CallK.of (fin u hu) ?_
    rintro v H' ⟨rfl, hq⟩
    simp
    exact hq
  · simp [hn0, hs, hDA.hd, hDA.hf, hfind, hv, hval, immB, hw]
    refine ⟨by omega, fun _ => ?_⟩
    refine CallK.pure (p_clone hb' (by simp at *; try omega)) ?_
    rintro u hu
    simp [hu.un, hu.known, hu.cellsL]
    refine CallK.of (fin u hu) ?_
    rintro v H' ⟨rfl, hq⟩
    simp
    exact hq
theorem k_diskRead {H : Heap} {d f k : Nat} {av : AV} {F K A : FileL} (hD : DiskQ H d f k av F K A) (name : ByteArray) (hl : (fget name F).length ≤ 2 ^ 40) :
    CC PP F_disk_Disk_Read [.ptr d 0, .str name] H fun v H' => H' = H ∧ match fidx name F with
      | some _ => ∃ u, v = .tup [u, .int .i64 0] ∧ IsB u (fget name F)
      | none => v = .tup [.nils, .int .i64 3] := by
  obtain ⟨es, ks, acts, hDA, hF, hK, hAc⟩ := hD
  have hfind := hF.find (n := name)
  have hval := hF.val name
  have hv : lkpV false .nils es (fidx name F) = valAt es (fidx name F) := rfl
  refine CC.by_vc ok_disk_Disk_Read (by simp) ?_
  unfold c_disk_Disk_Read
  simp [hDA.hd, hDA.hf, hfind, lkp_t]
  cases hi : fidx name F with
  | none =>
    rw [hi] at hv hfind hval
    simp [hv, hval.un]
  | some j =>
    rw [hi] at hv hfind hval
    simp [hv, hval.un]
    refine CallK.pure (p_clone hval hl) ?_
    rintro u hu
    simp [hu.un]
    exact hu
theorem k_diskNone {H : Heap} {d f k : Nat} {av : AV} {F K A : FileL} (hD : DiskQ H d f k av F K A) : H d = some (.cells [.mp f, .mp k, av] 3) := by
  obtain ⟨es, ks, acts, hDA, _⟩ := hD
  exact hDA.hd
end Go.Proofs.YtdpbbnnlbjgjgaaGreat
