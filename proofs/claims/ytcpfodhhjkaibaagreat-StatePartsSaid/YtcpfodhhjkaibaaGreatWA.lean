/- StateParts. -/
import Derived.Test.YtcpfodhhjkaibaaGreatSB
import Derived.Test.YtcpfodhhjkaibaaGreatLQ
import Derived.Test.YtcpfodhhjkaibaaGreatCM
import Derived.Test.YtcpfodhhjkaibaaGreatWR
set_option linter.unusedVariables false
set_option linter.unusedSimpArgs false
set_option maxRecDepth 100000
set_option maxHeartbeats 8000000
namespace Go.Proofs.YtcpfodhhjkaibaaGreat
open Go.Sf
attribute [local simp] s_skip s_ops s_draw s_any s_contA s_tdone s_ttwo s_top_p s_top_pick s_top_e s_top_g s_seq s_cond s_block s_loop s_exit s_ret s_mark s_then_n s_then_e s_then_r s_in_n s_in_e s_in_r s_contC s_contO s_contQ s_contT s_nil s_cons_p s_cons_pick s_cons_e s_cons_g s_qnil s_qcons_p s_qcons_pick s_qcons_e s_qcons_g s_M s_Mg s_Mq s_Mqg s_G_p s_G_pick s_G_e s_Gq_p s_Gq_pick s_Gq_e s_if s_call s_callv s_qcall s_qcallv s_getAll_nil s_getAll_cons s_put_some s_put_none s_ev_t s_ev_c s_ev_f un evP evK argT resAV lenOf_nils lenOf_imm lenOf_sl lenOf_str optI slcV binV isShift binInt binStr shiftInt pickV unV s_append s_alloc s_box s_bslice s_Bs_t s_Bs_f s_store1 s_storeN s_St1 s_St s_s2b s_markb s_Mk s_mkslice s_qbslice s_qs2b s_ret_n s_ret_r s_retc_n s_retc_r s_RV_nil s_RV_t s_RV_c s_RV1 tupOf fillC kn_int cl_int on_int kn_bool cl_bool on_bool kn_str cl_str on_str kn_nilp cl_nilp on_nilp kn_ptr cl_ptr on_ptr kn_iptr cl_iptr on_iptr kn_nils cl_nils on_nils kn_sl cl_sl on_sl kn_imm cl_imm on_imm kn_mp cl_mp on_mp kn_nilm cl_nilm on_nilm kn_fn cl_fn on_fn kn_nilf cl_nilf on_nilf kn_agg cl_agg scalEq flatEq eqV s_copy_i s_copy_s s_Cp s_clr s_clrn s_Cl s_appz s_Az s_ext s_Ov s_mapB s_mapBS s_rng s_rngn s_Rn s_nxt s_Nx0 s_ent s_mkmap s_mset s_mdel mapOf s_Mg_n s_Mqg_n s_gw_b s_gw_u s_gw_gb s_gw_f
theorem k_doNil {H : Heap} {s : Nat} {S : StT} {F : Nat → Prop} (hS : StQ H s S F) (hc : cntS S < 2 ^ 18) :
    CC PP F_state_State_Do [.ptr s 0, .nils] H fun r H' => r = .int .i64 0 ∧ ∃ F', StQ H' s S F' ∧ UpdF F F' H H' := by
  intro M w vs h1 h2
  refine k_do0 hS hc (ms := []) (by simp) (c := none) M w vs ?_ h2
  simp only [VRels] at h1 ⊢
  obtain ⟨v1, vs1, rfl, g1, v2, vs2, rfl, g2, rfl⟩ := h1
  have := nil_imm g2
  exact ⟨v1, _, rfl, g1, v2, _, rfl, by simpa [immB, bytesV, immM] using this, rfl⟩
def I_p1 (ms : List MutT) (cuts : List Int) (m : Nat) (T : Nat → AV) (H : Heap) : Prop :=
  ∃ (i : Nat) (u : AV), i + m = 30 ∧ T 0 = immM ms none ∧ T 1 = .imm (intsV cuts) cuts.length none ∧ T 6 = u ∧ T 7 = .int .i64 i ∧ OwnR H 6 (mayL ms i).length u ((mayL ms i).flatMap mutCs)
def I_p2 (l : List MutT) (cuts : List Int) (a b : Nat) (F : Nat → Prop) (m : Nat) (T : Nat → AV) (H : Heap) : Prop :=
  ∃ (j i : Nat) (G : Nat → Prop), j + m = l.length ∧ i ≤ j ∧ T 1 = .imm (intsV cuts) cuts.length none ∧ T 6 = immM (l.drop j) none ∧ T 8 = .ptr a 0 ∧ T 9 = .ptr b 0 ∧ T 10 = .int .i64 i ∧
    StQ H a (doneS l StT.nil) F ∧ StQ H b (doneS (l.take j) StT.nil) G ∧ ∀ x, F x → ¬ G x
theorem p_StateParts (ms : List MutT) (hms : ms.length < 2 ^ 63) (hmo : ∀ m ∈ ms, okM m) (cuts : List Int) (hcl : cuts.length < 2 ^ 63) (hcb : ∀ n ∈ cuts, IntKind.i64.min ≤ n ∧ n ≤ IntKind.i64.max) :
    CP PP F_Rlaw7_StateParts [.imm (ms.flatMap mutCs) ms.length none, .imm (intsV cuts) cuts.length none] (fun v => v = .bool true) := by
  refine CP.by_vc ok_Rlaw7_StateParts (by simp) ?_
  unfold c_Rlaw7_StateParts
  have hiv := intsV_length cuts
  simp
  refine CallK.pure p_begun7 ?_
  rintro _ rfl
  simp
  refine LoopV.mk2 (I_p1 ms cuts) 30 ⟨0, .nils, by omega, by simp [immM], by simp, by simp, by simp, ⟨by simp [mayL], .inl ⟨rfl, by simp [mayL]⟩⟩⟩ ?_
  rintro m T H ⟨i, u, him, t0, t1, t6, t7, hO⟩
  simp only [immM] at t0
  have hun := hO.un
  have ll := mayL_le ms i
  by_cases hlt : i < ms.length ∧ i < 30
  · obtain ⟨hi, h20⟩ := hlt
    obtain ⟨mu, hmu⟩ : ∃ mu, ms[i]? = some mu := ⟨ms[i], by simp [hi]⟩
    obtain ⟨f1, f2⟩ := fm_at (enc := mutCs) mutCs_six hmu
    have h20z : (i : Int) < 30 := by omega
    have m6 := mutCs_six mu
    have hst := mayL_step hmu
    generalize hXe : ms.flatMap mutCs = X at *
    simp [t0, t6, t7, hi, h20z, f1, f2]
    refine CallK.pure (p_rMayMut mu) ?_
    rintro _ rfl
    by_cases hm : mayM mu = true
    · rw [if_pos hm] at hst
      have hc6 : cellsOf H 6 (.imm (mutCs mu) 1 (some 1)) = some (mutCs mu) := by rw [cellsOf_imm]; exact if_pos rfl
      simp [hm, t0, t6, t7, hi, f1, f2, hun, m6]
      refine vcAp_row (x := .imm (mutCs mu) 1 (some 1)) (n := (mayL ms i).length) (m := 1) (new := mutCs mu) (.inl hO) hc6 rfl rfl (by omega) rfl (by omega) (.inl (by simp [mutCs])) ?_
      intro u2 H2 g1 g2 g3
      have hun2 := g1.un
      simp [hun2, t7]
      refine Again2.mk (m - 1) (by omega) ⟨i + 1, u2, by omega, by simp [t0, immM, hXe], by simp [t1], by simp, ?_, ?_⟩
      · simp; rw [wrap_i64 (by omega) (by omega)]
      · rw [hst, List.length_append, List.flatMap_append]; simpa using g1
    · have hmf : mayM mu = false := by simpa using hm
      rw [if_neg hm, List.append_nil] at hst
      simp [hmf, t7]
      refine Again2.mk (m - 1) (by omega) ⟨i + 1, u, by omega, by simp [t0, immM, hXe], by simp [t1], by simp [t6], ?_, by rw [hst]; exact hO⟩
      simp; rw [wrap_i64 (by omega) (by omega)]
  · by_cases hi : i < ms.length
    case' pos =>
      have h20z : ¬ (i : Int) < 30 := by omega
      simp [t0, t6, t7, hi, h20z]
    case' neg =>
      simp [t0, t6, t7, hi]
    all_goals
      refine MarkV.ownS (sz := 6) 6 (by simp [t6]) hO ?_
      intro H2 hk2
      obtain ⟨l, hl⟩ : ∃ l, l = mayL ms i := ⟨_, rfl⟩
      have hll : l.length ≤ 30 := by rw [hl]; omega
      have hlm : ∀ m ∈ l, mayM m = true := by rw [hl]; exact mayL_may
      rw [← hl]
      clear hO hun hl hk2
      have hEE : AV.imm (l.flatMap mutCs) l.length none = immM l none := rfl
      rw [hEE]
      have hum : ∀ l : List MutT, un (immM l none) = (True, immM l none) := fun l => rfl
      have hrun : okRun StT.nil l = true := okRun_few l StT.nil 0 okS_nil (fun k => by simp [listK, StT.nil, getK]) (by omega)
      have hcn : ∀ j, cntS (doneS (l.take j) StT.nil) ≤ 30 := fun j => by
        have := cntS_done (l.take j) StT.nil
        rw [List.length_take] at this
        simp [cntS, StT.nil] at this ⊢; omega
      have hcnl : cntS (doneS l StT.nil) ≤ 30 := by have := hcn l.length; rwa [List.take_length] at this
      simp
      refine CallK.of k_stNew ?_
      rintro _ H3 ⟨a, F, rfl, a1, -, -⟩
      simp
      refine CallK.of k_stNew ?_
      rintro _ H4 ⟨b, G, rfl, b1, n1, n2⟩
      have a2 : StQ H4 a StT.nil F := a1.keep fun x hx => n1 x (a1.live hx)
      have dis : ∀ x, F x → ¬ G x := fun x hx hg => a1.live hx (n2 x hg)
      clear n1 n2 a1
      have hdo := k_do0 a2 (by decide) (ms := l) (by omega) (c := none)
      rw [doS_run okS_nil hlm, if_pos hrun] at hdo
      simp [hum]
      refine CallK.of hdo ?_
      rintro _ H5 ⟨rfl, F2, a3, u3⟩
      obtain ⟨kb, kn⟩ := keepO u3 (F := G) (fun x hx e => dis x e hx) (fun x hx => b1.live hx)
      have b2 := b1.keep kb
      simp
      refine LoopV.mk2 (I_p2 l cuts a b F2) l.length ⟨0, 0, G, by omega, by omega, by simp [t1], by simp, by simp, by simp, by simp, a3, b2, fun x hx hg => kn x hg hx⟩ ?_
      clear a2 a3 b1 b2 u3 kb kn dis hdo t0 t1 t6 t7
      rintro m T H ⟨j, i', G, hjm, hij, t1, t6, t8, t9, t10, a1, b1, dis⟩
      simp only [immM] at t6
      have hdl : (l.drop j).length = l.length - j := List.length_drop
      have hcj := hcn j
      by_cases hj : j < l.length
      · obtain ⟨q, hq⟩ : ∃ q, q = l.length - j := ⟨_, rfl⟩
        have hq0 : 0 < q := by omega
        have hqn : ¬ q = 0 := by omega
        rw [← hq] at hdl
        rw [hdl] at t6
        have hX6 := fm_length (enc := mutCs) mutCs_six (l.drop j)
        have htk := fun n => fm_take (enc := mutCs) mutCs_six (l.drop j) n
        have hdp := fun n => fm_drop (enc := mutCs) mutCs_six (l.drop j) n
        rw [hdl] at hX6
        have hbr : okRun (doneS (l.take j) StT.nil) (l.drop j) = true := by
          have := hrun
          rw [← List.take_append_drop j l, okRun_append, Bool.and_eq_true] at this
          exact this.2
        have hbm : ∀ m ∈ l.drop j, mayM m = true := fun m hm => hlm m (List.mem_of_mem_drop hm)
        have step : ∀ n, n ≤ q → (doS ((l.drop j).take n) (doneS (l.take j) StT.nil)) = (doneS (l.take (j + n)) StT.nil, 0) := fun n hn => by
          have h2 := hbr
          rw [← List.take_append_drop n (l.drop j), okRun_append, Bool.and_eq_true] at h2
          rw [doS_run (okS_done okS_nil) (fun m hm => hbm m (List.mem_of_mem_take hm)), if_pos h2.1, ← doneS_append, ← List.take_add]
        have hEE : ∀ n, n ≤ q → AV.imm (((l.drop j).flatMap mutCs).take (n * 6)) n none = immM ((l.drop j).take n) none := fun n hn => by
          unfold immM; rw [htk, List.length_take, hdl, Nat.min_eq_left hn]
        have hDD : ∀ n, n ≤ q → AV.imm (((l.drop j).flatMap mutCs).drop (n * 6)) (q - n) none = immM (l.drop (j + n)) none := fun n hn => by
          unfold immM; rw [hdp, List.drop_drop, List.length_drop, show l.length - (j + n) = q - n by omega]
        generalize (l.drop j).flatMap mutCs = X at *
        by_cases hic : i' < cuts.length
        case' pos =>
          obtain ⟨c, hc⟩ : ∃ c, cuts[i']? = some c := ⟨cuts[i'], by simp [hic]⟩
          have hcv : (intsV cuts)[i']? = some (.int .i64 c) := by unfold intsV; rw [List.getElem?_map, hc]; rfl
          have hb : -6 < c.tmod 6 ∧ c.tmod 6 < 6 := tmod_b c 6 (by omega)
          have hb2 : (c.tmod 6 + 6).tmod 6 = (c.tmod 6 + 6) % 6 := Int.tmod_eq_emod_of_nonneg (by omega)
          obtain ⟨r, hr, hr0, hr6⟩ : ∃ r, (c.tmod 6 + 6).tmod 6 = r ∧ 0 ≤ r ∧ r < 6 := ⟨_, rfl, by omega, by omega⟩
          have v1 : IntKind.i64.wrap (c.tmod 6 + 6) = c.tmod 6 + 6 := wrap_i64 (by omega) (by omega)
          have v2 : IntKind.i64.wrap (1 + r) = 1 + r := wrap_i64 (by omega) (by omega)
          obtain ⟨n, hn⟩ : ∃ n, n = min q (1 + r.toNat) := ⟨_, rfl⟩
          have hn1 : 1 ≤ n := by omega
          have hnq : n ≤ q := by omega
          have hif : (if 1 + r < (q : Int) then 1 + r else (q : Int)) = (n : Int) := by split <;> omega
          have hE := hEE n hnq
          have hD : AV.imm ((X.drop (n * 6)).take ((q - n) * 6)) (q - n) none = immM (l.drop (j + n)) none := by
            rw [List.take_of_length_le (by rw [List.length_drop, hX6]; omega)]; exact hDD n hnq
          generalize hYe : intsV cuts = Y at *
          have hyg : ∀ h : i' < Y.length, Y[i']'h = .int .i64 c := fun h => (List.getElem?_eq_some_iff.1 hcv).2
          have t10' : T 10 = .int .i64 i' := t10
          simp [t1, t6, t8, t9, t10, hq0, hqn, hic, hiv, hyg, v1, v2, hr, hif, hnq, hX6]
        case' neg =>
          obtain ⟨n, hn⟩ : ∃ n, n = q := ⟨_, rfl⟩
          have hn1 : 1 ≤ n := by omega
          have hnq : n ≤ q := by omega
          have hE : AV.imm (X.take (q * 6)) q none = immM ((l.drop j).take n) none := by rw [← hEE n hnq, hn]
          have hD : AV.imm [] 0 none = immM (l.drop (j + n)) none := by rw [List.drop_eq_nil_of_le (by omega)]; rfl
          have hYe : True := trivial
          simp [t1, t6, t8, t9, t10, hq0, hqn, hic, hiv, hX6]
        all_goals
          rw [hE]
          have hst := step n hnq
          have hcj2 := hcn (j + n)
          have hdo := k_do0 b1 (Nat.lt_of_le_of_lt hcj (by decide)) (ms := (l.drop j).take n) (by rw [List.length_take]; omega) (c := none)
          rw [hst] at hdo
          refine CallK.of hdo ?_
          rintro _ H8 ⟨rfl, G2, b3, u8⟩
          obtain ⟨kb, kn2⟩ := keepO u8 (F := F2) dis (fun x hx => a1.live hx)
          have a3 := a1.keep kb
          have wi : IntKind.i64.wrap ((i' : Int) + 1) = ((i' + 1 : Nat) : Int) := wrap_i64 (by omega) (by omega)
        case' pos =>
          simp [t1, t6, t8, t9, t10, hic, hnq, hX6, wi]
        case' neg =>
          simp [t1, t6, t8, t9, t10, hic, hX6, wi]
        all_goals
          refine Again2.mk (m - n) (by omega) ⟨j + n, i' + 1, G2, by omega, by omega, ?_, ?_, ?_, ?_, ?_, a3, b3, kn2⟩
          all_goals first
            | (simp [t1, t8, t9, t10, hYe]; done)
            | (simp [t1, t8, t9, t10, hYe]; exact hD)
      · have hje : j = l.length := by omega
        have hz : l.length - j = 0 := by omega
        rw [hje, List.take_length] at b1
        simp [t6, t8, t9, hz]
        refine CallK.of (k_eqS (.inl ⟨a, F2, rfl, a1⟩) (.inl ⟨b, G, rfl, b1⟩) (Nat.lt_of_le_of_lt hcnl (by decide)) (Nat.lt_of_le_of_lt hcnl (by decide))) ?_
        rintro _ _ ⟨rfl, rfl⟩
        have heq : eqS (doneS l StT.nil) (doneS l StT.nil) = true := (eqS_iff _ _).2 rfl
        simp [heq, t6, t8, t9]
        refine CallK.of (k_doNil b1 (Nat.lt_of_le_of_lt hcnl (by decide))) ?_
        rintro _ H8 ⟨rfl, G2, b3, u8⟩
        obtain ⟨kb, kn2⟩ := keepO u8 (F := F2) dis (fun x hx => a1.live hx)
        have a3 := a1.keep kb
        simp [t6, t8, t9]
        refine CallK.of (k_eqS (.inl ⟨a, F2, rfl, a3⟩) (.inl ⟨b, G2, rfl, b3⟩) (Nat.lt_of_le_of_lt hcnl (by decide)) (Nat.lt_of_le_of_lt hcnl (by decide))) ?_
        rintro _ _ ⟨rfl, rfl⟩
        simp [heq]
end Go.Proofs.YtcpfodhhjkaibaaGreat
