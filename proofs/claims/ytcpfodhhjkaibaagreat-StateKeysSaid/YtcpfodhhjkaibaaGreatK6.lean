/- Frames written. -/
import Derived.Test.YtcpfodhhjkaibaaGreatK5
set_option linter.unusedVariables false
set_option linter.unusedSimpArgs false
set_option maxRecDepth 100000
namespace Go.Proofs.YtcpfodhhjkaibaaGreat
open Go.Sf
attribute [local simp] s_skip s_ops s_draw s_any s_contA s_tdone s_ttwo s_top_p s_top_pick s_top_e s_top_g s_seq s_cond s_block s_loop s_exit s_ret s_mark s_then_n s_then_e s_then_r s_in_n s_in_e s_in_r s_contC s_contO s_contQ s_contT s_nil s_cons_p s_cons_pick s_cons_e s_cons_g s_qnil s_qcons_p s_qcons_pick s_qcons_e s_qcons_g s_M s_Mg s_Mq s_Mqg s_G_p s_G_pick s_G_e s_Gq_p s_Gq_pick s_Gq_e s_if s_call s_callv s_qcall s_qcallv s_getAll_nil s_getAll_cons s_put_some s_put_none s_ev_t s_ev_c s_ev_f un evP evK argT resAV lenOf_nils lenOf_imm lenOf_sl lenOf_str optI slcV binV isShift binInt binStr shiftInt pickV unV s_append s_alloc s_box s_bslice s_Bs_t s_Bs_f s_store1 s_storeN s_St1 s_St s_s2b s_markb s_Mk s_mkslice s_qbslice s_qs2b s_ret_n s_ret_r s_retc_n s_retc_r s_RV_nil s_RV_t s_RV_c s_RV1 tupOf fillC kn_int cl_int on_int kn_bool cl_bool on_bool kn_str cl_str on_str kn_nilp cl_nilp on_nilp kn_ptr cl_ptr on_ptr kn_iptr cl_iptr on_iptr kn_nils cl_nils on_nils kn_sl cl_sl on_sl kn_imm cl_imm on_imm kn_mp cl_mp on_mp kn_nilm cl_nilm on_nilm kn_fn cl_fn on_fn kn_nilf cl_nilf on_nilf kn_agg cl_agg scalEq flatEq eqV s_copy_i s_copy_s s_Cp s_clr s_clrn s_Cl s_appz s_Az s_ext s_Ov s_mapB s_mapBS s_rng s_rngn s_Rn s_nxt s_Nx0 s_ent s_mkmap s_mset s_mdel mapOf s_Mg_n s_Mqg_n s_gw_b s_gw_u s_gw_gb s_gw_f
theorem p_tooLong {a : AV} {l : List UInt8} (ha : IsB a l) : CP PP F_frame_Put_1 [a] (fun v => v = .bool (decide (4096 < l.length))) := by
  refine CP.by_vc ok_frame_Put_1 (by simp) ?_
  unfold c_frame_Put_1
  rcases ha with ⟨rfl, rfl⟩ | ⟨c, rfl⟩
  · simp
  · simp [immB]; omega
def I_idx (v : AV) (ls : List (List UInt8)) (k : Nat) (T : Nat → AV) (H : Heap) : Prop :=
  ∃ (i : Nat), k + i = ls.length ∧ T 0 = v ∧ T 1 = .fn (.func F_frame_Put_1) [] [] ∧ T 7 = .int .i64 ls.length ∧ T 8 = .int .i64 i ∧ ∀ l ∈ ls.take i, l.length ≤ 4096
theorem p_idx {v : AV} {ls : List (List UInt8)} (hv : IsBB v ls) (hl : ls.length < 2 ^ 62) : CP PP F_slices_IndexFunc_byte_byte [v, .fn (.func F_frame_Put_1) [] []] (fun u => ∃ r : Int, u = .int .i64 r ∧ (r < 0 ↔ ∀ l ∈ ls, l.length ≤ 4096)) := by
  have hcall : callB PP F_frame_Put_1 = true := by kernel_rfl
  rcases hv with ⟨rfl, rfl⟩ | ⟨vs, c, rfl, hlen, hvs⟩
  · refine CP.by_vc ok_slices_IndexFunc_byte_byte (by simp) ?_
    unfold c_slices_IndexFunc_byte_byte
    simp
    refine LoopV.mk2 (I_idx .nils []) 0 ⟨0, rfl, by simp, by simp, by simp, by simp, by simp⟩ ?_
    rintro k T H ⟨i, hk, h0, h1, h7, h8, hall⟩
    have hi : i = 0 := by simp at hk; omega
    subst hi
    simp [h0, h1, h7, h8]
  · refine CP.by_vc ok_slices_IndexFunc_byte_byte (by simp) ?_
    unfold c_slices_IndexFunc_byte_byte
    simp
    refine LoopV.mk2 (I_idx (.imm vs ls.length c) ls) ls.length ⟨0, by omega, by simp, by simp, by simp, by simp, by simp⟩ ?_
    rintro k T H ⟨i, hk, h0, h1, h7, h8, hall⟩
    rcases Nat.lt_or_ge i ls.length with hi | hi
    · have hiv : vs[i]? = some vs[i] := by simp [hlen, hi]
      have hw := hvs i vs[i] ls[i] hiv (by simp [hi])
      have ht : ls.take (i + 1) = ls.take i ++ [ls[i]] := by rw [List.take_add_one]; simp [hi]
      have hm : ls[i] ∈ ls := List.getElem_mem hi
      generalize vs[i] = w at hiv hw
      generalize ls[i] = l at hw ht hm
      simp [h0, h1, h7, h8, hi, hiv, hw.un, hcall]
      refine CallK.pure (p_tooLong hw) ?_
      rintro v rfl
      simp
      obtain ⟨k', rfl⟩ : ∃ k', k = k' + 1 := ⟨k - 1, by omega⟩
      refine ⟨fun h => ⟨fun h2 => by omega, fun h2 => by have := h2 l hm; omega⟩, fun h => ?_⟩
      simp [h8]
      refine Again2.mk k' (by omega) ⟨i + 1, by omega, by simp [h0], by simp [h1], by simp [h7], ?_, ?_⟩
      · simp; rw [wrap_i64 (by omega) (by omega)]
      · intro l' hl'
        rw [ht] at hl'
        rcases List.mem_append.1 hl' with h2 | h2
        · exact hall l' h2
        · rw [List.mem_singleton.1 h2]; omega
    · obtain rfl : k = 0 := by omega
      rw [List.take_of_length_le hi] at hall
      simp [h0, h1, h7, h8, show ¬ i < ls.length by omega]
      exact hall
theorem p_contains {v : AV} {ls : List (List UInt8)} (hv : IsBB v ls) (hl : ls.length < 2 ^ 62) : CP PP F_slices_ContainsFunc_byte_byte [v, .fn (.func F_frame_Put_1) [] []] (fun u => u = .bool (decide (¬ ∀ l ∈ ls, l.length ≤ 4096))) := by
  refine CP.by_vc ok_slices_ContainsFunc_byte_byte (by simp) ?_
  unfold c_slices_ContainsFunc_byte_byte
  simp [hv.un]
  refine CallK.pure (p_idx hv hl) ?_
  rintro u ⟨r, rfl, hr⟩
  simp
  have := Decidable.not_iff_not.2 hr
  simp at this
  exact this
def putL (l : List UInt8) (ls : List (List UInt8)) : List UInt8 := if ∀ t ∈ ls, t.length ≤ 4096 then l ++ (ls.map frameL).flatten else l
def I_fput (v : AV) (ls : List (List UInt8)) (w : List UInt8) (k : Nat) (T : Nat → AV) (H : Heap) : Prop :=
  ∃ (i : Nat) (u : AV) (pre : List UInt8), k + i = ls.length ∧ T 13 = v ∧ T 14 = .int .i64 ls.length ∧ T 15 = .int .i64 i ∧ T 5 = u ∧ IsB u pre ∧ pre ++ ((ls.drop i).map frameL).flatten = w
theorem p_clip {a : AV} {l : List UInt8} (ha : IsB a l) : CP PP F_slices_Clip_byte_byte [a] (fun v => IsB v l) := by
  refine (k_clip ha).mono ?_
  rintro v H' ⟨_, ⟨hl, ⟨rfl, h0⟩ | ⟨b, c, _, hb, _⟩⟩ | ⟨_, rfl⟩⟩
  · have : l = [] := List.length_eq_zero_iff.1 h0
    subst this; exact .nil
  · cases hb
  · exact .inr ⟨_, rfl⟩
theorem p_framePut {a v : AV} {l : List UInt8} {ls : List (List UInt8)} (ha : IsB a l) (hv : IsBB v ls) (hl : (putL l ls).length ≤ 2 ^ 40) (hls : ls.length < 2 ^ 40) :
    CP PP F_frame_Put [a, v] (fun u => IsB u (putL l ls)) := by
  have hcb : decide (¬ ∀ t ∈ ls, t.length ≤ 4096) = true ∨ decide (¬ ∀ t ∈ ls, t.length ≤ 4096) = false := by
    cases decide (¬ ∀ t ∈ ls, t.length ≤ 4096) <;> simp
  refine CP.by_vc ok_frame_Put (by simp) ?_
  unfold c_frame_Put
  simp [ha.un, hv.un]
  refine CallK.pure (p_contains hv (by omega)) ?_
  rintro u rfl
  by_cases hall : ∀ t ∈ ls, t.length ≤ 4096
  · have hw : putL l ls = l ++ (ls.map frameL).flatten := if_pos hall
    have hd : decide (¬ ∀ t ∈ ls, t.length ≤ 4096) = false := by simp; exact hall
    rw [hd]
    simp [ha.un]
    refine CallK.pure (p_clip ha) ?_
    intro u hu
    generalize putL l ls = w at *
    rcases hv with ⟨rfl, rfl⟩ | ⟨vs, c, rfl, hlen, hvs⟩
    · simp [hu.un]
      refine LoopV.mk2 (I_fput .nils [] w) 0 ⟨0, u, l, rfl, by simp, by simp, by simp, by simp, hu, by rw [hw]; rfl⟩ ?_
      rintro k T H ⟨i, u, pre, hk, h13, h14, h15, h5, hu, he⟩
      have hi : i = 0 := by simp at hk; omega
      subst hi
      simp at he; subst he
      simp [h13, h14, h15, h5, hu.un]
      exact hu
    · simp [hu.un]
      refine LoopV.mk2 (I_fput (.imm vs ls.length c) ls w) ls.length ⟨0, u, l, by omega, by simp, by simp, by simp, by simp, hu, by rw [hw]; rfl⟩ ?_
      rintro k T H ⟨i, u, pre, hk, h13, h14, h15, h5, hu, he⟩
      rcases Nat.lt_or_ge i ls.length with hi | hi
      · have hiv : vs[i]? = some vs[i] := by simp [hlen, hi]
        have hx := hvs i vs[i] ls[i] hiv (by simp [hi])
        have hm : ls[i] ∈ ls := List.getElem_mem hi
        have hdr : ls.drop i = ls[i] :: ls.drop (i + 1) := List.drop_eq_getElem_cons hi
        have hml := hall _ hm
        generalize vs[i] = x at hiv hx
        generalize ls[i] = t at hx hm hdr hml
        rw [hdr] at he
        simp only [List.map_cons, List.flatten_cons] at he
        have htot : pre.length + (frameL t).length ≤ w.length := by rw [← he]; simp only [List.length_append]; omega
        have hfl : (frameL t).length = (enc t.length).length + (4 + t.length) := by unfold frameL; simp only [List.length_append]; rfl
        obtain ⟨k', rfl⟩ : ∃ k', k = k' + 1 := ⟨k - 1, by omega⟩
        have hxl : IsB x t := hx
        rcases hx with ⟨rfl, rfl⟩ | ⟨cx, rfl⟩
        · simp [h13, h14, h15, h5, hi, hiv, hu.un]
          rw [show IntKind.u64.wrap 0 = ((([] : List UInt8).length : Nat) : Int) from rfl]
          refine CallK.own (k_put hu (([] : List UInt8).length) (by simp) (by omega)) ?_
          intro v1 H1 ho1 _ _
          simp [ho1.un]
          refine CallK.pure (p_sumOf4 hxl (by simp; try omega)) ?_
          rintro v2 rfl
          simp [ho1.un, immB]
          have hl4 : (le4 (sumL [])).length = 4 := rfl
          refine vcAp_row (.inl ho1) (x := immB (le4 (sumL [])) none) (new := bytesV (le4 (sumL []))) (m := 4) ((IsB.imm _ _).cells _) rfl rfl (by omega) (bytesV_one _) (by simp only [List.length_append] at *; omega) (.inr ho1) ?_
          intro v2 H2 ho2 _ _
          simp [ho2.un]
          refine vcAp_hold (.inl ho2) (x := .nils) (hxl.cells _) hxl.len (bytesV_one _) (by simp only [List.length_append] at *; omega) ?_
          intro H3 _
          simp [h15]
          refine Again2.mk k' (by omega) ⟨i + 1, _, pre ++ frameL [], by omega, by simp [h13], by simp [h14], ?_, by simp; rfl, .inr ⟨none, ?_⟩, by rw [← he]; simp⟩
          · simp; rw [wrap_i64 (by omega) (by omega)]
          · simp [immB, frameL, bytesV_append]
            exact ⟨rfl, by have : (le4 (sumL [])).length = 4 := rfl; omega⟩
        · simp [h13, h14, h15, h5, hi, hiv, hu.un, immB]
          rw [wrap_u64 (n := (t.length : Int)) (by omega) (by omega)]
          refine CallK.own (k_put hu t.length (by omega) (by omega)) ?_
          intro v1 H1 ho1 _ _
          simp [ho1.un]
          refine CallK.pure (p_sumOf4 hxl (by simp; try omega)) ?_
          rintro v2 rfl
          simp [ho1.un, immB]
          have hl4 : (le4 (sumL t)).length = 4 := rfl
          refine vcAp_row (.inl ho1) (x := immB (le4 (sumL t)) none) (new := bytesV (le4 (sumL t))) (m := 4) ((IsB.imm _ _).cells _) rfl rfl (by omega) (bytesV_one _) (by simp only [List.length_append] at *; omega) (.inr ho1) ?_
          intro v2 H2 ho2 _ _
          simp [ho2.un]
          refine vcAp_hold (.inl ho2) (x := immB t cx) (hxl.cells _) hxl.len (bytesV_one _) (by simp only [List.length_append] at *; omega) ?_
          intro H3 _
          simp [h15]
          refine Again2.mk k' (by omega) ⟨i + 1, _, pre ++ frameL t, by omega, by simp [h13], by simp [h14], ?_, by simp; rfl, .inr ⟨none, ?_⟩, by rw [← he]; simp⟩
          · simp; rw [wrap_i64 (by omega) (by omega)]
          · simp [immB, frameL, bytesV_append]
            omega
      · obtain rfl : k = 0 := by omega
        rw [List.drop_of_length_le hi] at he
        simp at he; subst he
        simp [h13, h14, h15, h5, hu.un, show ¬ i < ls.length by omega]
        exact hu
  · have hw : putL l ls = l := if_neg hall
    have hd : decide (¬ ∀ t ∈ ls, t.length ≤ 4096) = true := by simpa using hall
    rw [hd, hw]
    simp [ha.un]
    exact ha
end Go.Proofs.YtcpfodhhjkaibaaGreat
