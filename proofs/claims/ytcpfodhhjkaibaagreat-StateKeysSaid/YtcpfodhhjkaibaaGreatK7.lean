/- Slices compared; frames read. -/
import Derived.Test.YtcpfodhhjkaibaaGreatK6
set_option linter.unusedVariables false
set_option linter.unusedSimpArgs false
set_option maxRecDepth 100000
namespace Go.Proofs.YtcpfodhhjkaibaaGreat
open Go.Sf
attribute [local simp] s_skip s_ops s_draw s_any s_contA s_tdone s_ttwo s_top_p s_top_pick s_top_e s_top_g s_seq s_cond s_block s_loop s_exit s_ret s_mark s_then_n s_then_e s_then_r s_in_n s_in_e s_in_r s_contC s_contO s_contQ s_contT s_nil s_cons_p s_cons_pick s_cons_e s_cons_g s_qnil s_qcons_p s_qcons_pick s_qcons_e s_qcons_g s_M s_Mg s_Mq s_Mqg s_G_p s_G_pick s_G_e s_Gq_p s_Gq_pick s_Gq_e s_if s_call s_callv s_qcall s_qcallv s_getAll_nil s_getAll_cons s_put_some s_put_none s_ev_t s_ev_c s_ev_f un evP evK argT resAV lenOf_nils lenOf_imm lenOf_sl lenOf_str optI slcV binV isShift binInt binStr shiftInt pickV unV s_append s_alloc s_box s_bslice s_Bs_t s_Bs_f s_store1 s_storeN s_St1 s_St s_s2b s_markb s_Mk s_mkslice s_qbslice s_qs2b s_ret_n s_ret_r s_retc_n s_retc_r s_RV_nil s_RV_t s_RV_c s_RV1 tupOf fillC kn_int cl_int on_int kn_bool cl_bool on_bool kn_str cl_str on_str kn_nilp cl_nilp on_nilp kn_ptr cl_ptr on_ptr kn_iptr cl_iptr on_iptr kn_nils cl_nils on_nils kn_sl cl_sl on_sl kn_imm cl_imm on_imm kn_mp cl_mp on_mp kn_nilm cl_nilm on_nilm kn_fn cl_fn on_fn kn_nilf cl_nilf on_nilf kn_agg cl_agg scalEq flatEq eqV s_copy_i s_copy_s s_Cp s_clr s_clrn s_Cl s_appz s_Az s_ext s_Ov s_mapB s_mapBS s_rng s_rngn s_Rn s_nxt s_Nx0 s_ent s_mkmap s_mset s_mdel mapOf s_Mg_n s_Mqg_n s_gw_b s_gw_u s_gw_gb s_gw_f
def I_eql (a b : AV) (l m : List UInt8) (k : Nat) (T : Nat → AV) (H : Heap) : Prop :=
  ∃ (i : Nat), k + i = l.length ∧ T 0 = a ∧ T 1 = b ∧ T 12 = .int .i64 l.length ∧ T 13 = .int .i64 i ∧ l.take i = m.take i
theorem p_equal {a b : AV} {l m : List UInt8} (ha : IsB a l) (hb : IsB b m) (hl : l.length < 2 ^ 62) : CP PP F_slices_Equal_byte_byte [a, b] (fun v => v = .bool (decide (l = m))) := by
  refine CP.by_vc ok_slices_Equal_byte_byte (by simp) ?_
  unfold c_slices_Equal_byte_byte
  by_cases hlm : l.length = m.length
  · have hfin : l.take l.length = m.take l.length → l = m := fun h => by
      rw [List.take_length] at h
      rw [hlm, List.take_length] at h
      exact h
    rcases ha with ⟨rfl, rfl⟩ | ⟨c, rfl⟩
    · have hm : m = [] := List.length_eq_zero_iff.1 (by simpa using hlm.symm)
      subst hm
      have hb' : b = .nils ∨ ∃ d, b = .imm [] 0 d := by
        rcases hb with ⟨rfl, _⟩ | ⟨d, rfl⟩
        · exact .inl rfl
        · exact .inr ⟨d, rfl⟩
      rcases hb' with rfl | ⟨d, rfl⟩
      · simp
        refine LoopV.mk2 (I_eql .nils .nils [] []) 0 ⟨0, rfl, by simp, by simp, by simp, by simp, rfl⟩ ?_
        rintro k T H ⟨i, hk, h0, h1, h12, h13, hq⟩
        have hi : i = 0 := by simp at hk; omega
        subst hi
        simp [h0, h1, h12, h13]
      · simp
        refine LoopV.mk2 (I_eql .nils (.imm [] 0 d) [] []) 0 ⟨0, rfl, by simp, by simp, by simp, by simp, rfl⟩ ?_
        rintro k T H ⟨i, hk, h0, h1, h12, h13, hq⟩
        have hi : i = 0 := by simp at hk; omega
        subst hi
        simp [h0, h1, h12, h13]
    · rcases hb with ⟨rfl, rfl⟩ | ⟨d, rfl⟩
      · have hm : l = [] := List.length_eq_zero_iff.1 (by simpa using hlm)
        subst hm
        simp [immB, bytesV]
        refine LoopV.mk2 (I_eql (.imm [] 0 c) .nils [] []) 0 ⟨0, rfl, by simp, by simp, by simp, by simp, rfl⟩ ?_
        rintro k T H ⟨i, hk, h0, h1, h12, h13, hq⟩
        have hi : i = 0 := by simp at hk; omega
        subst hi
        simp [h0, h1, h12, h13]
      · simp [immB, hlm]
        refine LoopV.mk2 (I_eql (immB l c) (immB m d) l m) l.length ⟨0, by omega, by simp [immB, hlm], by simp [immB], by simp [hlm], by simp, by simp⟩ ?_
        rintro k T H ⟨i, hk, h0, h1, h12, h13, hq⟩
        rcases Nat.lt_or_ge i l.length with hi | hi
        · have him : i < m.length := by omega
          have hb1 : (bytesV l)[i]? = some (.int .u8 l[i].toNat) := by rw [bytesV_get hi]; rfl
          have hb2 : (bytesV m)[i]? = some (.int .u8 m[i].toNat) := by rw [bytesV_get him]; rfl
          obtain ⟨k', rfl⟩ : ∃ k', k = k' + 1 := ⟨k - 1, by omega⟩
          have hne : l[i] ≠ m[i] → l ≠ m := fun h e => by subst e; exact h rfl
          have hstep : l[i] = m[i] → l.take (i + 1) = m.take (i + 1) := fun h => by
            rw [List.take_add_one, List.take_add_one, hq]
            simp [hi, him, h]
          generalize l[i] = x at *
          generalize m[i] = y at *
          have hxy : x.toNat = y.toNat ↔ x = y := UInt8.toNat_inj
          simp [h0, h1, h12, h13, immB, hb1, hb2, hi, him]
          refine ⟨fun h => hne (fun e => h (by rw [e])), fun h => ?_⟩
          have hxy' : x = y := hxy.1 (by omega)
          refine Again2.mk k' (by omega) ⟨i + 1, by omega, by simp [h0, immB], by simp [h1, immB], by simp [h12], ?_, hstep hxy'⟩
          simp; rw [wrap_i64 (by omega) (by omega)]
        · obtain rfl : k = 0 := by omega
          have : i = l.length := by omega
          subst this
          simp [h0, h1, h12, h13]
          exact hfin hq
  · have hne : l ≠ m := fun e => hlm (by rw [e])
    rcases ha with ⟨rfl, rfl⟩ | ⟨c, rfl⟩ <;> rcases hb with ⟨rfl, rfl⟩ | ⟨d, rfl⟩
    · exact absurd rfl hlm
    · have : ¬ (0 : Int) = m.length := fun h => hlm (by simp; omega)
      simp [immB, this, hne]
    · have : ¬ (l.length : Int) = 0 := fun h => hlm (by simp only [List.length_nil]; omega)
      simp [immB, this, hne]
    · have : ¬ (l.length : Int) = m.length := fun h => hlm (by omega)
      simp [immB, this, hne]
def RFrame (r : List UInt8 × Nat × Nat) (u : AV) : Prop := ∃ v, u = .tup [v, .int .i64 r.2.1, .int .i64 r.2.2] ∧ IsB v r.1
theorem p_frameGet {a : AV} {l : List UInt8} (ha : IsB a l) (hl : l.length ≤ 2 ^ 40) : CP PP F_frame_Get [a] (RFrame (getFrame l)) := by
  rcases ha with ⟨rfl, rfl⟩ | ⟨c, rfl⟩
  · refine CP.by_vc ok_frame_Get (by simp) ?_
    unfold c_frame_Get
    simp
    refine CallK.pure (p_get .nil) ?_
    rintro v rfl
    simp [resN, show num [] = (0, 0, 8) from rfl]
    exact ⟨.nils, rfl, .nil⟩
  · refine CP.by_vc ok_frame_Get (by simp) ?_
    unfold c_frame_Get
    simp [immB]
    refine CallK.pure (p_get (.imm l c)) ?_
    rintro v rfl
    simp [resN]
    have hlt := num_lt l
    by_cases h8 : (num l).2.2 = 0
    · obtain ⟨h1, h2, h3⟩ := num_ok h8
      generalize hr : num l = r at *
      obtain ⟨n, k, e⟩ := r
      simp only at h8 h1 h2 h3 hlt
      subst h8
      have e1 : IntKind.i64.wrap ((l.length : Int) - (k : Int)) = ((l.length - k : Nat) : Int) := by rw [wrap_i64 (by omega) (by omega)]; omega
      by_cases hn : 4096 < n
      · simp [hn, show (4096 : Int) < n by omega, show ¬ (n : Int) ≤ 4096 by omega]
        refine ⟨.nils, ?_, ?_⟩ <;> simp [getFrame, hr, hn]
        exact .nil
      · have e2 : IntKind.i64.wrap (n : Int) = n := wrap_i64 (by omega) (by omega)
        have e3 : IntKind.i64.wrap (4 + (n : Int)) = ((4 + n : Nat) : Int) := by rw [wrap_i64 (by omega) (by omega)]; omega
        have e4 : IntKind.i64.wrap ((k : Int) + 4) = (k : Int) + 4 := wrap_i64 (by omega) (by omega)
        by_cases hs : l.length - k < 4 + n
        · simp [hn, show ¬ (4096 : Int) < n by omega, e1, e2, e3]
          refine fun _ => ⟨fun _ => ?_, fun h => absurd h (by omega)⟩
          refine ⟨.nils, ?_, ?_⟩ <;> simp [getFrame, hr, hn, hs]
          exact .nil
        · have e5 : IntKind.i64.wrap ((k : Int) + 4 + n) = (k : Int) + 4 + n := wrap_i64 (by omega) (by omega)
          have e6 : ((k : Int) + 4).toNat = k + 4 := by omega
          have e7 : ((k : Int) + 4 + n).toNat = k + 4 + n := by omega
          have e8 : k + 4 + n - (k + 4) = n := by omega
          have e9 : k + 4 - k = 4 := by omega
          have f1 : (0 : Int) ≤ (k : Int) + 4 ∧ (k : Int) + 4 + (n : Int) ≤ l.length := by omega
          have f2 : (k : Int) + 4 ≤ l.length := by omega
          simp [hn, show ¬ (4096 : Int) < n by omega, e1, e2, e3, e4, e5, e6, e7, e8, f1, bytesV_length, bytesV_take, bytesV_drop]
          refine fun _ => ⟨fun h => absurd h (by omega), fun h => ?_⟩
          generalize htt : (l.drop (k + 4)).take n = t
          have htl : t.length = n := by rw [← htt]; simp; omega
          rw [show AV.imm (bytesV t) n (c.map fun x => x - (k + 4)) = immB t (c.map fun x => x - (k + 4)) by unfold immB; rw [htl]]
          subst htl
          refine ⟨by omega, vcAp_hold (x := immB t (c.map fun x => x - (k + 4))) (v := .imm [] 0 (some 0)) (n := 0) (m := t.length) (.inr ⟨rfl, rfl⟩) ((IsB.imm t _).cells _) rfl (bytesV_one _) (by omega) ?_⟩
          intro H2 _
          simp
          have hB : IsB (.imm (bytesV t) t.length none) t := .inr ⟨none, rfl⟩
          refine CallQ.of (p_sumOf4 hB (by omega)) ?_
          simp [e6, e9, f1, f2, bytesV_length, bytesV_take, bytesV_drop]
          refine ⟨by omega, trivial, ?_⟩
          have h4 : ((l.drop k).take 4).length = 4 := by simp; omega
          have hB2 : IsB (.imm (bytesV ((l.drop k).take 4)) 4 (c.map fun x => x - k)) ((l.drop k).take 4) := by
            refine .inr ⟨c.map fun x => x - k, ?_⟩; unfold immB; rw [h4]
          refine CallQ.of (p_equal (.imm _ _) hB2 (by simp [le4])) ?_
          simp
          refine ⟨fun hne => ?_, fun heq => ?_⟩
          · refine ⟨.nils, ?_, ?_⟩ <;> simp [getFrame, hr, hn, hs, htt, hne]
            exact .nil
          · refine ⟨.imm (bytesV t) t.length none, ?_, ?_⟩ <;> simp [getFrame, hr, hn, hs, htt, heq]
            · rw [e2, e5]
            · exact hB
    · obtain ⟨h1, h2⟩ := num_bad h8
      simp [h8, h1, h2]
      refine ⟨.nils, ?_, ?_⟩ <;> simp [getFrame, h8]
      exact .nil
end Go.Proofs.YtcpfodhhjkaibaaGreat
