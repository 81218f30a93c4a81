/- The closed laws of numbers and sums; a number's length. -/
import Derived.Test.YtffifddlooligaaC4
import Derived.Test.YtffifddlooligaaKZ
import Derived.Test.YtffifddlooligaaL0
set_option linter.unusedVariables false
set_option linter.unusedSimpArgs false
set_option maxRecDepth 100000
namespace Go.Sf
theorem Weak.frz {T : Nat → AV} {H : Heap} {d b n c k : Nat} {cs : List AV} (hT : T d = .sl b 0 n c) (hb : H b = some (.cells cs k)) (hnc : n ≤ c) : Weak ⟨T, H⟩ ⟨put T (some d) (.imm cs n none), H.set b none⟩ := by
  intro m M a w h1 h2
  obtain ⟨o, ho, hr⟩ := h2.live _ _ hb
  simp only [BRel] at hr
  obtain ⟨arr, e, fr, rfl, hs, hl, hf, hv⟩ := hr
  obtain ⟨r', f'⟩ := h2.hold hb ho
  refine ⟨_, ⟨h1.1, fun i hi => ?_⟩, r', f'⟩
  simp only [put, tset]
  by_cases hid : i = d
  · subst hid
    rw [if_pos rfl]
    have hx : VRel M (T i) (a.getD i undef) := h1.2 i hi
    rw [hT] at hx
    simp only [VRel] at hx
    rw [hx]
    simp only [VRel]
    refine ⟨some ⟨b, 0, none⟩, arr.toList.take cs.length, c, rfl, fun x h => (by cases h), hnc, fun h => (by cases h), fun y hy => ?_, VRels.mono f'.mle _ _ hv⟩
    cases hy
    refine ⟨fun _ => rfl, fun j u hj => ?_⟩
    rw [List.getElem?_take] at hj
    split at hj
    · simp only [madd, if_true, Nat.zero_add]; exact hj
    · cases hj
  · rw [if_neg hid]
    exact VRel.mono f'.mle _ _ (h1.2 i hi)
theorem MarkV.frz {R : AS → (Exit → AS → Prop) → Prop} {Q : Exit → AS → Prop} {T : Nat → AV} {H : Heap} (d : Nat) {b n c k : Nat} {cs : List AV} (hT : T d = .sl b 0 n c) (hb : H b = some (.cells cs k)) (hnc : n ≤ c)
    (h : R ⟨put T (some d) (.imm cs n none), H.set b none⟩ Q) : MarkV R ⟨T, H⟩ Q := ⟨_, Weak.frz hT hb hnc, h⟩
end Go.Sf
namespace Go.Proofs.Ytffifddlooligaa
open Go.Sf
attribute [local simp] s_skip s_ops s_draw s_any s_contA s_tdone s_ttwo s_top_p s_top_pick s_top_e s_top_g s_seq s_cond s_block s_loop s_exit s_ret s_mark s_then_n s_then_e s_then_r s_in_n s_in_e s_in_r s_contC s_contO s_contQ s_contT s_nil s_cons_p s_cons_pick s_cons_e s_cons_g s_qnil s_qcons_p s_qcons_pick s_qcons_e s_qcons_g s_M s_Mg s_Mq s_Mqg s_G_p s_G_pick s_G_e s_Gq_p s_Gq_pick s_Gq_e s_if s_call s_callv s_qcall s_qcallv s_getAll_nil s_getAll_cons s_put_some s_put_none s_ev_t s_ev_c s_ev_f un evP evK argT resAV lenOf_nils lenOf_imm lenOf_sl lenOf_str optI slcV binV isShift binInt binStr shiftInt pickV unV s_append s_alloc s_box s_bslice s_Bs_t s_Bs_f s_store1 s_storeN s_St1 s_St s_s2b s_markb s_Mk s_mkslice s_qbslice s_qs2b s_ret_n s_ret_r s_retc_n s_retc_r s_RV_nil s_RV_t s_RV_c s_RV1 tupOf fillC kn_int cl_int on_int kn_bool cl_bool on_bool kn_str cl_str on_str kn_nilp cl_nilp on_nilp kn_ptr cl_ptr on_ptr kn_iptr cl_iptr on_iptr kn_nils cl_nils on_nils kn_sl cl_sl on_sl kn_imm cl_imm on_imm kn_mp cl_mp on_mp kn_nilm cl_nilm on_nilm kn_fn cl_fn on_fn kn_nilf cl_nilf on_nilf kn_agg cl_agg scalEq flatEq eqV s_copy_i s_copy_s s_Cp s_clr s_clrn s_Cl s_appz s_Az s_ext s_Ov s_mapB s_mapBS s_rng s_rngn s_Rn s_nxt s_Nx0 s_ent s_mkmap s_mset s_mdel mapOf s_Mg_n s_Mqg_n s_gw_b s_gw_u s_gw_gb s_gw_f
theorem p_NumEdges : CP PP F_Rlaw1_NumEdges [] (fun v => v = .bool true) := by
  refine CP.by_vc ok_Rlaw1_NumEdges (by simp) ?_
  unfold c_Rlaw1_NumEdges
  simp
  refine CallK.pure (k_putInt .nil (-9223372036854775808) (by omega) (by omega) (by simp)) ?_
  rintro _ rfl
  simp [immB]
  refine CallK.pure (p_getInt (l := enc (zig (-9223372036854775808))) (.inr ⟨none, rfl⟩)) ?_
  rintro _ rfl
  have lenM : (enc 18446744073709551615).length = 10 := by simp [enc_ge, enc_lt]
  have e1 : num (enc 18446744073709551615) = (18446744073709551615, 10, 0) := by
    have := num_enc (n := 18446744073709551615) (by omega) []
    rw [List.append_nil, lenM] at this; exact this
  rw [show zig (-9223372036854775808) = 18446744073709551615 from rfl, e1]
  simp [resI]
  refine CallK.pure (p_put .nil 18446744073709551615 (by omega) (by simp)) ?_
  rintro _ rfl
  simp [immB]
  refine CallK.pure (p_get (l := enc 18446744073709551615) (.inr ⟨none, rfl⟩)) ?_
  rintro _ rfl
  rw [e1]
  simp [resN]
  refine CallK.pure (p_get (l := [255, 255, 255, 255, 255, 255, 255, 255, 255, 2]) (.inr ⟨some 10, rfl⟩)) ?_
  rintro _ rfl
  rw [show num [255, 255, 255, 255, 255, 255, 255, 255, 255, 2] = (0, 0, 1) by decide +kernel]
  simp [resN]
  refine CallK.pure (p_get (l := [255, 255, 255, 255, 255, 255, 255, 255, 255, 255, 1]) (.inr ⟨some 11, rfl⟩)) ?_
  rintro _ rfl
  rw [show num [255, 255, 255, 255, 255, 255, 255, 255, 255, 255, 1] = (0, 0, 1) by decide +kernel]
  simp [resN]
  refine CallK.pure (p_get (l := [128]) (.inr ⟨some 1, rfl⟩)) ?_
  rintro _ rfl
  rw [show num [128] = (0, 0, 8) by decide +kernel]
  simp [resN]
  refine CallK.pure (p_get (l := [128, 0]) (.inr ⟨some 2, rfl⟩)) ?_
  rintro _ rfl
  rw [show num [128, 0] = (0, 0, 1) by decide +kernel]
  simp [resN]
  refine CallK.pure p_begun ?_
  rintro _ rfl
  simp [show zag 18446744073709551615 = -9223372036854775808 from rfl]
  refine CallK.pure (k_putInt .nil (-1) (by omega) (by omega) (by simp)) ?_
  rintro _ rfl
  simp [immB]
  refine CallK.pure (p_same (l := enc (zig (-1))) (m := [1]) (.inr ⟨none, rfl⟩) (.inr ⟨some 1, rfl⟩)) ?_
  rintro _ rfl
  rw [show enc (zig (-1)) = [1] from enc_lt (by decide)]
  simp
  refine CallK.pure (k_putInt .nil 1 (by omega) (by omega) (by simp)) ?_
  rintro _ rfl
  simp [immB]
  refine CallK.pure (p_same (l := enc (zig 1)) (m := [2]) (.inr ⟨none, rfl⟩) (.inr ⟨some 1, rfl⟩)) ?_
  rintro _ rfl
  rw [show enc (zig 1) = [2] from enc_lt (by decide)]
  simp
theorem bb_one (l : List UInt8) (c : Option Nat) (d : Option Nat) : IsBB (.imm [immB l c] 1 d) [l] := .inr ⟨_, d, rfl, rfl, fun i w m h1 h2 => by
  cases i with
  | zero => simp at h1 h2; subst h1; subst h2; exact .inr ⟨c, rfl⟩
  | succ i => simp at h1⟩
theorem p_SumKnown : CP PP F_Rlaw1_SumKnown [] (fun v => v = .bool true) := by
  refine CP.by_vc ok_Rlaw1_SumKnown (by simp) ?_
  unfold c_Rlaw1_SumKnown
  simp
  refine CallK.pure p_begun ?_
  rintro _ rfl
  simp
  intro b1 hb1
  simp [Heap.set_self, Heap.set_set, Heap.set_same hb1]
  refine CallK.pure (p_sumOf (bb_one [97] (some 1) (some 1)) (by simp) (by simp)) ?_
  rintro _ rfl
  rw [show sumL ([[97]] : List (List UInt8)).flatten = 6422626 by decide +kernel]
  simp
  intro b2 hb2
  simp [Heap.set_self, Heap.set_set, Heap.set_same hb2]
  refine CallK.pure (p_sumOf (bb_one [97, 98] (some 2) (some 1)) (by simp) (by simp)) ?_
  rintro _ rfl
  rw [show sumL ([[97, 98]] : List (List UInt8)).flatten = 19267780 by decide +kernel]
  simp
  refine CallK.pure (p_sumOf (bb_one [0, 0, 0] (some 3) (some 1)) (by simp) (by simp)) ?_
  rintro _ rfl
  rw [show sumL ([[0, 0, 0]] : List (List UInt8)).flatten = 196609 by decide +kernel]
  simp
  intro b3 hb3
  simp [Heap.set_self, Heap.set_set, Heap.set_same hb3]
  have bb3 : IsBB (.imm [.nils, immB [97] (some 1), .nils] 3 (some 3)) [[], [97], []] := .inr ⟨_, some 3, rfl, rfl, fun i w m h1 h2 => by
    rcases i with _ | _ | _ | i
    · simp at h1 h2; subst h1; subst h2; exact .nil
    · simp at h1 h2; subst h1; subst h2; exact .inr ⟨some 1, rfl⟩
    · simp at h1 h2; subst h1; subst h2; exact .nil
    · simp at h1⟩
  refine CallK.pure (p_sumOf bb3 (by simp) (by simp)) ?_
  rintro _ rfl
  rw [show sumL ([[], [97], []] : List (List UInt8)).flatten = 6422626 by decide +kernel]
  simp
  intro b4 hb4
  simp [Heap.set_self, Heap.set_set, Heap.set_same hb4]
  refine CallK.pure (p_sumOf (bb_one [97] (some 1) (some 1)) (by simp) (by simp)) ?_
  rintro _ rfl
  rw [show sumL ([[97]] : List (List UInt8)).flatten = 6422626 by decide +kernel]
  simp
end Go.Proofs.Ytffifddlooligaa
