/- StateLoad. -/
import Derived.Test.YtdpbbnnlbjgjgaaGreatCY
import Derived.Test.YtdpbbnnlbjgjgaaGreatGR
set_option linter.unusedVariables false
set_option linter.unusedSimpArgs false
set_option maxRecDepth 100000
set_option maxHeartbeats 8000000
namespace Go.Proofs.YtdpbbnnlbjgjgaaGreat
open Go.Sf
attribute [local simp] s_skip s_ops s_draw s_any s_contA s_tdone s_ttwo s_top_p s_top_pick s_top_e s_top_g s_seq s_cond s_block s_loop s_exit s_ret s_mark s_then_n s_then_e s_then_r s_in_n s_in_e s_in_r s_contC s_contO s_contQ s_contT s_nil s_cons_p s_cons_pick s_cons_e s_cons_g s_qnil s_qcons_p s_qcons_pick s_qcons_e s_qcons_g s_M s_Mg s_Mq s_Mqg s_G_p s_G_pick s_G_e s_Gq_p s_Gq_pick s_Gq_e s_if s_call s_callv s_qcall s_qcallv s_getAll_nil s_getAll_cons s_put_some s_put_none s_ev_t s_ev_c s_ev_f un evP evK argT resAV lenOf_nils lenOf_imm lenOf_sl lenOf_str optI slcV binV isShift binInt binStr shiftInt pickV unV s_append s_alloc s_box s_bslice s_Bs_t s_Bs_f s_store1 s_storeN s_St1 s_St s_s2b s_markb s_Mk s_mkslice s_qbslice s_qs2b s_ret_n s_ret_r s_retc_n s_retc_r s_RV_nil s_RV_t s_RV_c s_RV1 tupOf fillC kn_int cl_int on_int kn_bool cl_bool on_bool kn_str cl_str on_str kn_nilp cl_nilp on_nilp kn_ptr cl_ptr on_ptr kn_iptr cl_iptr on_iptr kn_nils cl_nils on_nils kn_sl cl_sl on_sl kn_imm cl_imm on_imm kn_mp cl_mp on_mp kn_nilm cl_nilm on_nilm kn_fn cl_fn on_fn kn_nilf cl_nilf on_nilf kn_agg cl_agg scalEq flatEq eqV s_copy_i s_copy_s s_Cp s_clr s_clrn s_Cl s_appz s_Az s_ext s_Ov s_mapB s_mapBS s_rng s_rngn s_Rn s_nxt s_Nx0 s_ent s_mkmap s_mset s_mdel mapOf s_Mg_n s_Mqg_n s_gw_b s_gw_u s_gw_gb s_gw_f
theorem p_StateLoad (cs : List RawC) (hcl : cs.length < 2 ^ 63) (hcs : ∀ c ∈ cs, okRaw c) (ms : List MutT) (hml : ms.length < 2 ^ 63) (hmo : ∀ m ∈ ms, okM m) : CP PP F_Rlaw7_StateLoad [.imm (cs.flatMap encR) cs.length none, .imm (ms.flatMap mutCs) ms.length none] (fun v => v = .bool true) := by
  refine CP.by_vc ok_Rlaw7_StateLoad (by simp) ?_
  unfold c_Rlaw7_StateLoad
  simp
  refine CallK.pure p_begun7 ?_
  rintro _ rfl
  obtain ⟨q, hq⟩ : ∃ q, q = min cs.length 12 := ⟨_, rfl⟩
  obtain ⟨p, hp⟩ : ∃ p, p = min ms.length 12 := ⟨_, rfl⟩
  have hqz : (if (12 : Int) < (cs.length : Int) then (12 : Int) else (cs.length : Int)) = (q : Int) := by split <;> omega
  have hpz : (if (12 : Int) < (ms.length : Int) then (12 : Int) else (ms.length : Int)) = (p : Int) := by split <;> omega
  have hql : q ≤ cs.length := by omega
  have hpl : p ≤ ms.length := by omega
  have l1 := fm_length (enc := encR) encR_length cs
  have l2 := fm_length (enc := mutCs) mutCs_six ms
  have v1 : AV.imm ((cs.flatMap encR).take (q * 7)) q none = immR (cs.take q) := by
    unfold immR
    rw [fm_take (enc := encR) encR_length cs, List.length_take, Nat.min_eq_left hql]
  have v2 : AV.imm ((ms.flatMap mutCs).take (p * 6)) p none = immM (ms.take p) none := by
    unfold immM
    rw [fm_take (enc := mutCs) mutCs_six ms, List.length_take, Nat.min_eq_left hpl]
  have hcs2 : ∀ c ∈ cs.take q, okRaw c := fun c hc => hcs c (List.mem_of_mem_take hc)
  have n1 : (cs.take q).length ≤ 12 := by rw [List.length_take]; omega
  have n2 : (ms.take p).length ≤ 12 := by rw [List.length_take]; omega
  generalize cs.take q = C at *
  generalize ms.take p = M at *
  generalize cs.flatMap encR = X at *
  generalize ms.flatMap mutCs = Y at *
  have hur : ∀ l, un (immR l) = (True, immR l) := fun _ => rfl
  have hum : ∀ l, un (immM l none) = (True, immM l none) := fun _ => rfl
  have huC : ∀ l, un (immC l) = (True, immC l) := fun _ => rfl
  simp [hqz, hpz, hql, hpl, l1, l2, v1, v2, hur, hum]
  refine CallK.of k_stNew ?_
  rintro _ H1 ⟨a, F, rfl, a1, -, -⟩
  simp
  refine CallK.of k_rnew ?_
  rintro _ H2 ⟨w, rfl, w0, w1, u1⟩
  have hT := TwoS.new a1 w0 w1 u1
  have hc0 : cntS StT.nil = 0 := rfl
  simp [hum]
  refine CallK.of (k_do0 hT.s (by omega) (by omega)) ?_
  rintro _ H3 ⟨rfl, F2, a2, u2⟩
  simp [hum]
  refine CallK.of (k_rdo (hT.ref a2 u2) hT.ok (by omega)) ?_
  rintro _ H4 ⟨rfl, w3, u3⟩
  have hT3 := hT.step a2 u2 w3 u3 (keysOK_do hT.ok hT.k M)
  have hc3 : cntS (doS M StT.nil).1 ≤ 12 := by have := cntS_do M StT.nil; omega
  generalize (doS M StT.nil).1 = S at *
  simp [hur]
  refine CallK.of (k_load hT3.s C hcs2 (by omega)) ?_
  rintro _ H5 ⟨rfl, F5, a5, u5⟩
  have w5 := hT3.ref a5 u5
  simp [hur]
  refine CallK.pure (p_mayCells C hcs2 (by omega)) ?_
  rintro _ rfl
  by_cases hm : mayCs none C = true
  case neg =>
    have hmf : mayCs none C = false := by simpa using hm
    rw [if_neg hm] at a5
    simp [hmf]
    refine CallK.of (k_cells (.inl ⟨a, _, rfl, a5⟩) (by omega)) ?_
    rintro _ _ ⟨rfl, rfl⟩
    have hcl := cells_len S
    simp
    refine CallK.of (k_rcells w5 hT3.ok hT3.k) ?_
    rintro _ _ ⟨rfl, rfl⟩
    simp [huC]
    refine CallK.pure (p_eqS hT3.ok (by omega)) ?_
    rintro _ rfl
    simp
  rw [if_pos hm] at a5
  obtain ⟨o1, o2, o3⟩ := load_ok hm
  have hcl : (cellsS (loadS C)).length = C.length := by rw [← List.length_map (f := rawC), o2]
  have hcc : cntS (loadS C) < 2 ^ 20 := by
    have := cntS_puts (C.map ofRaw) StT.nil fun x hx => by
      obtain ⟨z, hz, rfl⟩ := List.mem_map.1 hx
      exact okCell_of ((mayCs_iff.1 hm).2.2 z hz)
    rw [List.length_map] at this
    unfold loadS; omega
  simp [hm]
  refine CallK.of (k_cells (.inl ⟨a, _, rfl, a5⟩) hcc) ?_
  rintro _ _ ⟨rfl, rfl⟩
  have heq := p_eqR C C hcs2 (by omega)
  have hic : immC (cellsS (loadS C)) = immR C := by rw [immC_raw, o2]
  rw [hic]
  simp [hur]
  refine CallK.pure heq ?_
  rintro _ rfl
  simp
end Go.Proofs.YtdpbbnnlbjgjgaaGreat
