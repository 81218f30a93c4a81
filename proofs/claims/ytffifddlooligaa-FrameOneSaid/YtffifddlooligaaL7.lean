/- A frame of which one byte is another one is not that frame. -/
import Derived.Test.YtffifddlooligaaLF
set_option linter.unusedVariables false
set_option linter.unusedSimpArgs false
set_option maxRecDepth 100000
namespace Go.Proofs.Ytffifddlooligaa
open Go.Sf
attribute [local simp] s_skip s_ops s_draw s_any s_contA s_tdone s_ttwo s_top_p s_top_pick s_top_e s_top_g s_seq s_cond s_block s_loop s_exit s_ret s_mark s_then_n s_then_e s_then_r s_in_n s_in_e s_in_r s_contC s_contO s_contQ s_contT s_nil s_cons_p s_cons_pick s_cons_e s_cons_g s_qnil s_qcons_p s_qcons_pick s_qcons_e s_qcons_g s_M s_Mg s_Mq s_Mqg s_G_p s_G_pick s_G_e s_Gq_p s_Gq_pick s_Gq_e s_if s_call s_callv s_qcall s_qcallv s_getAll_nil s_getAll_cons s_put_some s_put_none s_ev_t s_ev_c s_ev_f un evP evK argT resAV lenOf_nils lenOf_imm lenOf_sl lenOf_str optI slcV binV isShift binInt binStr shiftInt pickV unV s_append s_alloc s_box s_bslice s_Bs_t s_Bs_f s_store1 s_storeN s_St1 s_St s_s2b s_markb s_Mk s_mkslice s_qbslice s_qs2b s_ret_n s_ret_r s_retc_n s_retc_r s_RV_nil s_RV_t s_RV_c s_RV1 tupOf fillC kn_int cl_int on_int kn_bool cl_bool on_bool kn_str cl_str on_str kn_nilp cl_nilp on_nilp kn_ptr cl_ptr on_ptr kn_iptr cl_iptr on_iptr kn_nils cl_nils on_nils kn_sl cl_sl on_sl kn_imm cl_imm on_imm kn_mp cl_mp on_mp kn_nilm cl_nilm on_nilm kn_fn cl_fn on_fn kn_nilf cl_nilf on_nilf kn_agg cl_agg scalEq flatEq eqV s_mkmap s_mset s_mdel mapOf s_Mg_n s_Mqg_n s_gw_b s_gw_u s_gw_gb s_gw_f
theorem p_FrameOne (lb : List UInt8) (hlb : lb.length < 2 ^ 63) (at' : Int) (ha0 : IntKind.i64.min ≤ at') (ha1 : at' ≤ IntKind.i64.max) (x : Nat) (hx : x < 256) :
    CP PP F_Rlaw1_FrameOne [immB lb none, .int .i64 at', .int .u8 x] (fun v => v = .bool true) := by
  have ha0' : -9223372036854775808 ≤ at' := ha0
  have ha1' : at' ≤ 9223372036854775807 := ha1
  refine CP.by_vc ok_Rlaw1_FrameOne (by simp) ?_
  unfold c_Rlaw1_FrameOne
  simp
  refine CallK.pure p_begun ?_
  rintro _ rfl
  simp [immB]
  refine CallK.pure (CP.imm (p_short (a := immB lb none) (.inr ⟨none, rfl⟩) 100 (by omega) hlb)) ?_
  rintro _ rfl
  have h20 : (lb.take 100).length ≤ 100 := by simp; omega
  generalize lb.take 100 = t at *
  have hp : putL [] [t] = frameL t := by
    unfold putL; rw [if_pos (fun u hu => by simp at hu; subst hu; omega)]; simp
  have hfl : (frameL t).length = 5 + t.length := by rw [frame_short h20]; simp [le4_length]; omega
  simp [immB]
  refine CallK.pure (CP.imm (p_framePut (l := []) (ls := [t]) .nil ?_ (by rw [hp, hfl]; omega) (by simp))) ?_
  · have := bb_one t none (some 1)
    simpa [immB] using this
  rintro _ rfl
  rw [hp]
  have hne : frameL t ≠ [] := fun e => by rw [e] at hfl; simp at hfl; omega
  have hpos : (0 : Int) < (frameL t).length := by omega
  by_cases hx0 : x = 0
  · simp [hx0, immB, hne]
    omega
  simp [hx0, immB, hne]
  refine app_row (IsB.imm (frameL t) none) (by omega) ?_
  intro v1 H1 ho1 _
  obtain ⟨bk, cp, rfl, hb, hcp, hlen⟩ := own_sl ho1 (by omega)
  obtain ⟨i, hi, hpl⟩ := place ha0' ha1' (n := (frameL t).length) (by omega) (by omega)
  have hxor := xor_u8 (y := (frameL t)[i].toNat) (frameL t)[i].toNat_lt hx
  have hz : (frameL t)[i].toNat ^^^ x < 2 ^ 8 := Nat.xor_lt_two_pow (frameL t)[i].toNat_lt hx
  have hne2 : (frameL t)[i] ≠ UInt8.ofNat ((frameL t)[i].toNat ^^^ x) := fun e => xor_ne hx0 (by
    have := congrArg UInt8.toNat e
    rw [u8_small hz] at this; exact this.symm)
  have hset : (bytesV (frameL t)).set i (AV.int .u8 (((frameL t)[i].toNat ^^^ x : Nat) : Int)) = bytesV ((frameL t).set i (UInt8.ofNat ((frameL t)[i].toNat ^^^ x))) := by
    rw [u8_ofNat hz]; unfold bytesV; rw [List.map_set]
  have hge : (bytesV (frameL t))[i]'(by rw [bytesV_length]; exact hi) = .int .u8 (frameL t)[i].toNat := by simp [bytesV, byteV]
  generalize hyv : UInt8.ofNat ((frameL t)[i].toNat ^^^ x) = y at *
  simp [hpl, hb, hge, byteV, hxor, hset, hi, hne, bytesV_length]
  refine MarkV.frz 9 (b := bk) (n := (frameL t).length) (c := cp) (k := cp) (cs := bytesV ((frameL t).set i y)) (by simp) (Heap.set_self _ _ _) hcp ?_
  simp
  refine CallK.pure (immF (p_frameGet (l := (frameL t).set i y) (.inr ⟨none, by simp [immB]⟩) (by simp; omega))) ?_
  rintro _ rfl
  by_cases hi0 : i = 0
  · subst hi0
    have hc : (frameL t).set 0 y = y :: (le4 (sumL t) ++ t) := by rw [frame_short h20]; rfl
    have h0 : (frameL t)[0] = UInt8.ofNat t.length := by simp [frame_short h20]
    rw [hc]
    have := frame_turned0 h20 (y := y) (fun e => hne2 (by rw [h0, e]))
    generalize getFrame (y :: (le4 (sumL t) ++ t)) = r at *
    obtain ⟨u, k, e⟩ := r
    simp [immB]
    refine ⟨fun he => ⟨he, ?_⟩, fun he => ⟨he, by simp [he], by simp [he]⟩⟩
    have hut : u ≠ t := by rcases this with h | h
                           · exact absurd he h
                           · exact h
    refine CallK.pure (p_same (l := u) (m := t) (.inr ⟨none, rfl⟩) (.inr ⟨none, rfl⟩)) ?_
    rintro _ rfl
    simp [he, hut]
  · obtain ⟨j, rfl⟩ : ∃ j, i = j + 1 := ⟨i - 1, by omega⟩
    have hc : (frameL t).set (j + 1) y = UInt8.ofNat t.length :: (le4 (sumL t) ++ t).set j y := by rw [frame_short h20]; rfl
    have h0 : (frameL t)[j + 1]? = (le4 (sumL t) ++ t)[j]? := by rw [frame_short h20]; rfl
    rw [hc, frame_turned1 h20 (by omega) (fun e => hne2 (by
      rw [← h0, List.getElem?_eq_getElem hi] at e
      simpa using e))]
    simp [immB]
end Go.Proofs.Ytffifddlooligaa
