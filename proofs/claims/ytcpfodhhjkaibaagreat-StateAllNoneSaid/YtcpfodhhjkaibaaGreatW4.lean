/- StateAllNone. -/
import Derived.Test.YtcpfodhhjkaibaaGreatSB
import Derived.Test.YtcpfodhhjkaibaaGreatLQ
import Derived.Test.YtcpfodhhjkaibaaGreatCG
import Derived.Test.YtcpfodhhjkaibaaGreatWR
set_option linter.unusedVariables false
set_option linter.unusedSimpArgs false
set_option maxRecDepth 100000
set_option maxHeartbeats 8000000
namespace Go.Proofs.YtcpfodhhjkaibaaGreat
open Go.Sf
attribute [local simp] s_skip s_ops s_draw s_any s_contA s_tdone s_ttwo s_top_p s_top_pick s_top_e s_top_g s_seq s_cond s_block s_loop s_exit s_ret s_mark s_then_n s_then_e s_then_r s_in_n s_in_e s_in_r s_contC s_contO s_contQ s_contT s_nil s_cons_p s_cons_pick s_cons_e s_cons_g s_qnil s_qcons_p s_qcons_pick s_qcons_e s_qcons_g s_M s_Mg s_Mq s_Mqg s_G_p s_G_pick s_G_e s_Gq_p s_Gq_pick s_Gq_e s_if s_call s_callv s_qcall s_qcallv s_getAll_nil s_getAll_cons s_put_some s_put_none s_ev_t s_ev_c s_ev_f un evP evK argT resAV lenOf_nils lenOf_imm lenOf_sl lenOf_str optI slcV binV isShift binInt binStr shiftInt pickV unV s_append s_alloc s_box s_bslice s_Bs_t s_Bs_f s_store1 s_storeN s_St1 s_St s_s2b s_markb s_Mk s_mkslice s_qbslice s_qs2b s_ret_n s_ret_r s_retc_n s_retc_r s_RV_nil s_RV_t s_RV_c s_RV1 tupOf fillC kn_int cl_int on_int kn_bool cl_bool on_bool kn_str cl_str on_str kn_nilp cl_nilp on_nilp kn_ptr cl_ptr on_ptr kn_iptr cl_iptr on_iptr kn_nils cl_nils on_nils kn_sl cl_sl on_sl kn_imm cl_imm on_imm kn_mp cl_mp on_mp kn_nilm cl_nilm on_nilm kn_fn cl_fn on_fn kn_nilf cl_nilf on_nilf kn_agg cl_agg scalEq flatEq eqV s_copy_i s_copy_s s_Cp s_clr s_clrn s_Cl s_appz s_Az s_ext s_Ov s_mapB s_mapBS s_rng s_rngn s_Rn s_nxt s_Nx0 s_ent s_mkmap s_mset s_mdel mapOf s_Mg_n s_Mqg_n s_gw_b s_gw_u s_gw_gb s_gw_f
def I_sn (ms : List MutT) (bad : MutT) (at' : Int) (m : Nat) (T : Nat → AV) (H : Heap) : Prop :=
  ∃ (i b : Nat) (u : AV), i + m = 20 ∧ T 0 = immM ms none ∧ T 1 = .int .i64 at' ∧ T 5 = .ptr b 0 ∧ T 8 = u ∧ T 9 = .int .i64 i ∧ OwnR H 6 (mayL ms i).length u ((mayL ms i).flatMap mutCs) ∧ H b = some (.cells (mutCs bad) 6) ∧ blkOf u ≠ some b
theorem p_StateAllNone (ms : List MutT) (hms : ms.length < 2 ^ 63) (hmo : ∀ m ∈ ms, okM m) (at' : Int) (h0 : IntKind.i64.min ≤ at') (h1 : at' ≤ IntKind.i64.max) (bad : MutT) (hbo : okM bad) :
    CP PP F_Rlaw7_StateAllNone [.imm (ms.flatMap mutCs) ms.length none, .int .i64 at', .agg (mutCs bad)] (fun v => v = .bool true) := by
  refine CP.by_vc ok_Rlaw7_StateAllNone (by simp) ?_
  unfold c_Rlaw7_StateAllNone
  have b6 := mutCs_six bad
  have bt6 : (mutCs bad).take 6 = mutCs bad := rfl
  simp
  intro b hb
  simp
  refine CallK.pure p_begun7 ?_
  rintro _ rfl
  simp [b6]
  refine LoopV.mk2 (I_sn ms bad at') 20 ⟨0, b, .nils, by omega, by simp [immM], by simp, by simp, by simp, by simp, ⟨by simp [mayL], .inl ⟨rfl, by simp [mayL]⟩⟩, by simp [Heap.set_self, b6], (fun e => by cases e)⟩ ?_
  rintro m T H ⟨i, b, u, him, t0, t1, t5, t8, t9, hO, hB, hub⟩
  simp only [immM] at t0
  have hun := hO.un
  by_cases hi : i < ms.length
  · by_cases h20 : i < 20
    · obtain ⟨mu, hmu⟩ : ∃ mu, ms[i]? = some mu := ⟨ms[i], by simp [hi]⟩
      obtain ⟨f1, f2⟩ := fm_at (enc := mutCs) mutCs_six hmu
      have h20z : (i : Int) < 20 := by omega
      have m6 := mutCs_six mu
      have ll : (mayL ms i).length ≤ 20 := by unfold mayL; have := List.length_filter_le mayM (ms.take i); rw [List.length_take] at this; omega
      have hst : mayL ms (i + 1) = mayL ms i ++ (if mayM mu = true then [mu] else []) := by
        unfold mayL
        rw [List.take_add_one, hmu, List.filter_append]
        by_cases hm : mayM mu = true <;> simp [hm]
      generalize hXe : ms.flatMap mutCs = X at *
      simp [t0, t8, t9, hi, h20z, f1, f2]
      refine CallK.pure (p_rMayMut mu) ?_
      rintro _ rfl
      by_cases hm : mayM mu = true
      · rw [if_pos hm] at hst
        have hc6 : cellsOf H 6 (.imm (mutCs mu) 1 (some 1)) = some (mutCs mu) := by rw [cellsOf_imm]; exact if_pos rfl
        simp [hm, t0, t8, t9, hi, f1, f2, hun, m6]
        refine vcAp_row (x := .imm (mutCs mu) 1 (some 1)) (n := (mayL ms i).length) (m := 1) (new := mutCs mu) (.inl hO) hc6 rfl rfl (by omega) rfl (by omega) (.inl (by simp [mutCs])) ?_
        intro u2 H2 g1 g2 g3
        have hun2 := g1.un
        simp [hun2, t9]
        refine Again2.mk (m - 1) (by omega) ⟨i + 1, b, u2, by omega, by simp [t0, immM, hXe], by simp [t1], by simp [t5], by simp, ?_, ?_, ?_, ?_⟩
        · simp; rw [wrap_i64 (by omega) (by omega)]
        · rw [hst, List.length_append, List.flatMap_append]; simpa using g1
        · rw [g2 b hub (by rw [hB]; simp)]; exact hB
        · intro e
          rcases g3 b e with h | h
          · rw [hB] at h; cases h
          · exact hub h
      · have hmf : mayM mu = false := by simpa using hm
        rw [if_neg hm, List.append_nil] at hst
        simp [hmf, t9]
        refine Again2.mk (m - 1) (by omega) ⟨i + 1, b, u, by omega, by simp [t0, immM, hXe], by simp [t1], by simp [t5], by simp [t8], ?_, by rw [hst]; exact hO, hB, hub⟩
        simp; rw [wrap_i64 (by omega) (by omega)]
    · have h20z : ¬ (i : Int) < 20 := by omega
      simp [t0, t8, t9, hi, h20z]
      refine MarkV.ownS (sz := 6) 8 (by simp [t8]) hO ?_
      intro H2 hk2
      have hB2 : H2 b = some (.cells (mutCs bad) 6) := by rw [hk2 b hub]; exact hB
      obtain ⟨l, hl⟩ : ∃ l, l = mayL ms i := ⟨_, rfl⟩
      have hll : l.length ≤ 20 := by rw [hl]; unfold mayL; have := List.length_filter_le mayM (ms.take i); rw [List.length_take] at this; omega
      rw [← hl]
      clear hO hun hB hub hl hk2
      generalize hXe : l.flatMap mutCs = X
      simp [t5, hB2, b6]
      have hbx : ∃ (bad' : MutT) (H3 : Heap), mayM bad' = false ∧ H3 b = some (.cells (mutCs bad') 6) ∧ (if mayM bad = true then H3 = H2.set b (some (.cells ((mutCs bad).set 0 (.int .i64 9)) 6)) else H3 = H2) := by
        by_cases hbm : mayM bad = true
        · refine ⟨{ bad with k := 9 }, _, ?_, ?_, by rw [if_pos hbm]⟩
          · unfold mayM; simp
          · rw [Heap.set_self]; rfl
        · exact ⟨bad, H2, by simpa using hbm, hB2, by rw [if_neg hbm]⟩
      obtain ⟨bad', H3, hbf, hB3, hH3⟩ := hbx
      have b6' := mutCs_six bad'
      have bt6' : (mutCs bad').take 6 = mutCs bad' := rfl
      rw [bt6]
      refine CallK.pure (p_rMayMut bad) ?_
      rintro _ rfl
      obtain ⟨kk, hkk, hkl⟩ : ∃ kk : Nat, (at'.tmod ((l.length : Int) + 1) + l.length + 1).tmod ((l.length : Int) + 1) = kk ∧ kk ≤ l.length := by
        have hb := tmod_b at' (l.length + 1) (by omega)
        have e : ((l.length + 1 : Nat) : Int) = (l.length : Int) + 1 := by omega
        rw [e] at hb
        have hnn : 0 ≤ at'.tmod ((l.length : Int) + 1) + l.length + 1 := by omega
        rw [Int.tmod_eq_emod_of_nonneg hnn]
        obtain ⟨kk, hkk⟩ := Int.eq_ofNat_of_zero_le (Int.emod_nonneg (at'.tmod ((l.length : Int) + 1) + l.length + 1) (show (l.length : Int) + 1 ≠ 0 by omega))
        have := Int.emod_lt_of_pos (at'.tmod ((l.length : Int) + 1) + l.length + 1) (show 0 < (l.length : Int) + 1 by omega)
        exact ⟨kk, hkk, by omega⟩
      have hb := tmod_b at' (l.length + 1) (by omega)
      rw [show ((l.length + 1 : Nat) : Int) = (l.length : Int) + 1 by omega] at hb
      have w1 : IntKind.i64.wrap ((l.length : Int) + 1) = (l.length : Int) + 1 := wrap_i64 (by omega) (by omega)
      have w2 : IntKind.i64.wrap (at'.tmod ((l.length : Int) + 1) + l.length) = at'.tmod ((l.length : Int) + 1) + l.length := wrap_i64 (by omega) (by omega)
      have w3 : IntKind.i64.wrap (at'.tmod ((l.length : Int) + 1) + l.length + 1) = at'.tmod ((l.length : Int) + 1) + l.length + 1 := wrap_i64 (by omega) (by omega)
      have hnz : ¬ (l.length : Int) + 1 = 0 := by omega
      have hXl : X.length = l.length * 6 := by rw [← hXe]; exact fm_length (enc := mutCs) mutCs_six l
      cases hbm : mayM bad
      case' true =>
        rw [hbm, if_pos rfl] at hH3
        simp [hB2, b6, t5, t1, w1, w2, w3, hkk, hnz]
        rw [← hH3]
      case' false =>
        rw [hbm] at hH3
        simp only [Bool.false_eq_true, if_false] at hH3
        simp [t1, w1, w2, w3, hkk, hnz]
        rw [← hH3]
      all_goals
        clear hH3
        have hkl6 : kk * 6 ≤ l.length * 6 := by omega
        have hA1 : cellsOf H3 6 (.imm (X.take (kk * 6)) kk none) = some (X.take (kk * 6)) := by rw [cellsOf_imm, if_pos (by rw [List.length_take]; omega)]
        have hall : X.all AV.one = true := by rw [← hXe]; simp [List.all_flatMap, mutCs]
        have hallt : (X.take (kk * 6)).all AV.one = true := by rw [List.all_eq_true] at hall ⊢; exact fun x hx => hall x (List.mem_of_mem_take hx)
        have halld : (X.drop (kk * 6)).all AV.one = true := by rw [List.all_eq_true] at hall ⊢; exact fun x hx => hall x (List.mem_of_mem_drop hx)
        have htk : (X.drop (kk * 6)).take ((l.length - kk) * 6) = X.drop (kk * 6) := List.take_of_length_le (by rw [List.length_drop]; omega)
        have hA2 : ∀ H', cellsOf H' 6 (.imm (mutCs bad') 1 (some 1)) = some (mutCs bad') := fun H' => by rw [cellsOf_imm]; exact if_pos rfl
        have hA3 : ∀ H', cellsOf H' 6 (.imm (X.drop (kk * 6)) (l.length - kk) none) = some (X.drop (kk * 6)) := fun H' => by rw [cellsOf_imm, if_pos (by rw [List.length_drop]; omega)]
        obtain ⟨ms2, hms2⟩ : ∃ ms2, ms2 = l.take kk ++ [bad'] ++ l.drop kk := ⟨_, rfl⟩
        have hl2 : ms2.length < 2 ^ 18 := by rw [hms2]; simp; omega
        have hEE : AV.imm (X.take (kk * 6) ++ mutCs bad' ++ X.drop (kk * 6)) (kk + 1 + (l.length - kk)) none = immM ms2 none := by
          unfold immM; rw [hms2, ← hXe, List.flatMap_append, List.flatMap_append, fm_take (enc := mutCs) mutCs_six, fm_drop (enc := mutCs) mutCs_six]; simp; omega
        have hdo : doS ms2 StT.nil = (StT.nil, 1) := by unfold doS; rw [if_pos (by rw [hms2]; simp [hbf])]
        have hc0 : cellsS StT.nil = [] := rfl
        have hum : un (immM ms2 none) = (True, immM ms2 none) := rfl
        simp [hB3, b6', t5, bt6', hkl, hXl, htk]
        try simp only [put_swap (i := 54) (j := 53) (by decide), put_swap (i := 55) (j := 53) (by decide), put_swap (i := 55) (j := 54) (by decide), put_swap (i := 56) (j := 53) (by decide), put_swap (i := 56) (j := 54) (by decide), put_swap (i := 56) (j := 55) (by decide), put_swap (i := 57) (j := 53) (by decide), put_swap (i := 57) (j := 54) (by decide), put_swap (i := 57) (j := 55) (by decide), put_swap (i := 57) (j := 56) (by decide), put_swap (i := 58) (j := 53) (by decide), put_swap (i := 58) (j := 54) (by decide), put_swap (i := 58) (j := 55) (by decide), put_swap (i := 58) (j := 56) (by decide), put_swap (i := 58) (j := 57) (by decide), put_swap (i := 59) (j := 53) (by decide), put_swap (i := 59) (j := 54) (by decide), put_swap (i := 59) (j := 55) (by decide), put_swap (i := 59) (j := 56) (by decide), put_swap (i := 59) (j := 57) (by decide), put_swap (i := 59) (j := 58) (by decide), put_swap (i := 60) (j := 53) (by decide), put_swap (i := 60) (j := 54) (by decide), put_swap (i := 60) (j := 55) (by decide), put_swap (i := 60) (j := 56) (by decide), put_swap (i := 60) (j := 57) (by decide), put_swap (i := 60) (j := 58) (by decide), put_swap (i := 60) (j := 59) (by decide), put_swap (i := 61) (j := 53) (by decide), put_swap (i := 61) (j := 54) (by decide), put_swap (i := 61) (j := 55) (by decide), put_swap (i := 61) (j := 56) (by decide), put_swap (i := 61) (j := 57) (by decide), put_swap (i := 61) (j := 58) (by decide), put_swap (i := 61) (j := 59) (by decide), put_swap (i := 61) (j := 60) (by decide), put_swap (i := 62) (j := 53) (by decide), put_swap (i := 62) (j := 54) (by decide), put_swap (i := 62) (j := 55) (by decide), put_swap (i := 62) (j := 56) (by decide), put_swap (i := 62) (j := 57) (by decide), put_swap (i := 62) (j := 58) (by decide), put_swap (i := 62) (j := 59) (by decide), put_swap (i := 62) (j := 60) (by decide), put_swap (i := 62) (j := 61) (by decide), put_swap (i := 63) (j := 53) (by decide), put_swap (i := 63) (j := 54) (by decide), put_swap (i := 63) (j := 55) (by decide), put_swap (i := 63) (j := 56) (by decide), put_swap (i := 63) (j := 57) (by decide), put_swap (i := 63) (j := 58) (by decide), put_swap (i := 63) (j := 59) (by decide), put_swap (i := 63) (j := 60) (by decide), put_swap (i := 63) (j := 61) (by decide), put_swap (i := 63) (j := 62) (by decide)]
        try simp only [and_self]
        repeat' (refine And.intro ?_ ?_)
      all_goals
        refine vcAp_row (x := .imm (X.take (kk * 6)) kk none) (n := 0) (m := kk) (new := X.take (kk * 6)) (cs := []) (.inl ⟨rfl, .inl ⟨rfl, rfl⟩⟩) hA1 rfl (by rw [List.length_take]; omega) (by omega) hallt (by omega) (.inr ⟨rfl, .inl ⟨rfl, rfl⟩⟩) ?_
        intro u1 H4 g1 g2 g3
        have hB4 : H4 b = some (.cells (mutCs bad') 6) := by rw [g2 b (by simp [blkOf]) (by rw [hB3]; simp)]; exact hB3
        have hun1 := g1.un
        simp [hB4, b6', t5, bt6', hkl, hXl, hun1, htk]
        try simp only [put_swap (i := 54) (j := 53) (by decide), put_swap (i := 55) (j := 53) (by decide), put_swap (i := 55) (j := 54) (by decide), put_swap (i := 56) (j := 53) (by decide), put_swap (i := 56) (j := 54) (by decide), put_swap (i := 56) (j := 55) (by decide), put_swap (i := 57) (j := 53) (by decide), put_swap (i := 57) (j := 54) (by decide), put_swap (i := 57) (j := 55) (by decide), put_swap (i := 57) (j := 56) (by decide), put_swap (i := 58) (j := 53) (by decide), put_swap (i := 58) (j := 54) (by decide), put_swap (i := 58) (j := 55) (by decide), put_swap (i := 58) (j := 56) (by decide), put_swap (i := 58) (j := 57) (by decide), put_swap (i := 59) (j := 53) (by decide), put_swap (i := 59) (j := 54) (by decide), put_swap (i := 59) (j := 55) (by decide), put_swap (i := 59) (j := 56) (by decide), put_swap (i := 59) (j := 57) (by decide), put_swap (i := 59) (j := 58) (by decide), put_swap (i := 60) (j := 53) (by decide), put_swap (i := 60) (j := 54) (by decide), put_swap (i := 60) (j := 55) (by decide), put_swap (i := 60) (j := 56) (by decide), put_swap (i := 60) (j := 57) (by decide), put_swap (i := 60) (j := 58) (by decide), put_swap (i := 60) (j := 59) (by decide), put_swap (i := 61) (j := 53) (by decide), put_swap (i := 61) (j := 54) (by decide), put_swap (i := 61) (j := 55) (by decide), put_swap (i := 61) (j := 56) (by decide), put_swap (i := 61) (j := 57) (by decide), put_swap (i := 61) (j := 58) (by decide), put_swap (i := 61) (j := 59) (by decide), put_swap (i := 61) (j := 60) (by decide), put_swap (i := 62) (j := 53) (by decide), put_swap (i := 62) (j := 54) (by decide), put_swap (i := 62) (j := 55) (by decide), put_swap (i := 62) (j := 56) (by decide), put_swap (i := 62) (j := 57) (by decide), put_swap (i := 62) (j := 58) (by decide), put_swap (i := 62) (j := 59) (by decide), put_swap (i := 62) (j := 60) (by decide), put_swap (i := 62) (j := 61) (by decide), put_swap (i := 63) (j := 53) (by decide), put_swap (i := 63) (j := 54) (by decide), put_swap (i := 63) (j := 55) (by decide), put_swap (i := 63) (j := 56) (by decide), put_swap (i := 63) (j := 57) (by decide), put_swap (i := 63) (j := 58) (by decide), put_swap (i := 63) (j := 59) (by decide), put_swap (i := 63) (j := 60) (by decide), put_swap (i := 63) (j := 61) (by decide), put_swap (i := 63) (j := 62) (by decide)]
        try simp only [and_self]
        repeat' (refine And.intro ?_ ?_)
      all_goals
        simp only [Nat.zero_add, List.nil_append] at g1
        refine vcAp_row (x := .imm (mutCs bad') 1 (some 1)) (n := kk) (m := 1) (new := mutCs bad') (.inl g1) (hA2 _) rfl rfl (by omega) rfl (by omega) (.inl (by simp [mutCs])) ?_
        intro u2 H5 q1 q2 q3
        have hun2 := q1.un
        simp [t5, hkl, hXl, hun2, htk]
        refine vcAp_hold (bytes := 48) (x := .imm (X.drop (kk * 6)) (l.length - kk) none) (.inl q1) (hA3 _) rfl halld (by omega) ?_
        intro H6 q4
        rw [hEE]
        simp [hum]
        refine CallK.of k_stNew ?_
        rintro _ H7 ⟨s, F, rfl, e1, e2, e3⟩
        simp [hum]
        refine CallK.of (k_do0 e1 (by decide) (ms := ms2) hl2 (c := none)) ?_
        rintro _ H8 ⟨rfl, F', e4, e5⟩
        rw [hdo] at e4
        simp [hdo]
        refine CallK.of (k_cells (.inl ⟨s, F', rfl, e4⟩) (by decide)) ?_
        rintro _ H9 ⟨rfl, rfl⟩
        simp [immC, hc0]
  · simp [t0, t8, t9, hi]
    refine MarkV.ownS (sz := 6) 8 (by simp [t8]) hO ?_
    intro H2 hk2
    have hB2 : H2 b = some (.cells (mutCs bad) 6) := by rw [hk2 b hub]; exact hB
    obtain ⟨l, hl⟩ : ∃ l, l = mayL ms i := ⟨_, rfl⟩
    have hll : l.length ≤ 20 := by rw [hl]; unfold mayL; have := List.length_filter_le mayM (ms.take i); rw [List.length_take] at this; omega
    rw [← hl]
    clear hO hun hB hub hl hk2
    generalize hXe : l.flatMap mutCs = X
    simp [t5, hB2, b6]
    have hbx : ∃ (bad' : MutT) (H3 : Heap), mayM bad' = false ∧ H3 b = some (.cells (mutCs bad') 6) ∧ (if mayM bad = true then H3 = H2.set b (some (.cells ((mutCs bad).set 0 (.int .i64 9)) 6)) else H3 = H2) := by
      by_cases hbm : mayM bad = true
      · refine ⟨{ bad with k := 9 }, _, ?_, ?_, by rw [if_pos hbm]⟩
        · unfold mayM; simp
        · rw [Heap.set_self]; rfl
      · exact ⟨bad, H2, by simpa using hbm, hB2, by rw [if_neg hbm]⟩
    obtain ⟨bad', H3, hbf, hB3, hH3⟩ := hbx
    have b6' := mutCs_six bad'
    have bt6' : (mutCs bad').take 6 = mutCs bad' := rfl
    rw [bt6]
    refine CallK.pure (p_rMayMut bad) ?_
    rintro _ rfl
    obtain ⟨kk, hkk, hkl⟩ : ∃ kk : Nat, (at'.tmod ((l.length : Int) + 1) + l.length + 1).tmod ((l.length : Int) + 1) = kk ∧ kk ≤ l.length := by
      have hb := tmod_b at' (l.length + 1) (by omega)
      have e : ((l.length + 1 : Nat) : Int) = (l.length : Int) + 1 := by omega
      rw [e] at hb
      have hnn : 0 ≤ at'.tmod ((l.length : Int) + 1) + l.length + 1 := by omega
      rw [Int.tmod_eq_emod_of_nonneg hnn]
      obtain ⟨kk, hkk⟩ := Int.eq_ofNat_of_zero_le (Int.emod_nonneg (at'.tmod ((l.length : Int) + 1) + l.length + 1) (show (l.length : Int) + 1 ≠ 0 by omega))
      have := Int.emod_lt_of_pos (at'.tmod ((l.length : Int) + 1) + l.length + 1) (show 0 < (l.length : Int) + 1 by omega)
      exact ⟨kk, hkk, by omega⟩
    have hb := tmod_b at' (l.length + 1) (by omega)
    rw [show ((l.length + 1 : Nat) : Int) = (l.length : Int) + 1 by omega] at hb
    have w1 : IntKind.i64.wrap ((l.length : Int) + 1) = (l.length : Int) + 1 := wrap_i64 (by omega) (by omega)
    have w2 : IntKind.i64.wrap (at'.tmod ((l.length : Int) + 1) + l.length) = at'.tmod ((l.length : Int) + 1) + l.length := wrap_i64 (by omega) (by omega)
    have w3 : IntKind.i64.wrap (at'.tmod ((l.length : Int) + 1) + l.length + 1) = at'.tmod ((l.length : Int) + 1) + l.length + 1 := wrap_i64 (by omega) (by omega)
    have hnz : ¬ (l.length : Int) + 1 = 0 := by omega
    have hXl : X.length = l.length * 6 := by rw [← hXe]; exact fm_length (enc := mutCs) mutCs_six l
    cases hbm : mayM bad
    case' true =>
      rw [hbm, if_pos rfl] at hH3
      simp [hB2, b6, t5, t1, w1, w2, w3, hkk, hnz]
      rw [← hH3]
    case' false =>
      rw [hbm] at hH3
      simp only [Bool.false_eq_true, if_false] at hH3
      simp [t1, w1, w2, w3, hkk, hnz]
      rw [← hH3]
    all_goals
      clear hH3
      have hkl6 : kk * 6 ≤ l.length * 6 := by omega
      have hA1 : cellsOf H3 6 (.imm (X.take (kk * 6)) kk none) = some (X.take (kk * 6)) := by rw [cellsOf_imm, if_pos (by rw [List.length_take]; omega)]
      have hall : X.all AV.one = true := by rw [← hXe]; simp [List.all_flatMap, mutCs]
      have hallt : (X.take (kk * 6)).all AV.one = true := by rw [List.all_eq_true] at hall ⊢; exact fun x hx => hall x (List.mem_of_mem_take hx)
      have halld : (X.drop (kk * 6)).all AV.one = true := by rw [List.all_eq_true] at hall ⊢; exact fun x hx => hall x (List.mem_of_mem_drop hx)
      have htk : (X.drop (kk * 6)).take ((l.length - kk) * 6) = X.drop (kk * 6) := List.take_of_length_le (by rw [List.length_drop]; omega)
      have hA2 : ∀ H', cellsOf H' 6 (.imm (mutCs bad') 1 (some 1)) = some (mutCs bad') := fun H' => by rw [cellsOf_imm]; exact if_pos rfl
      have hA3 : ∀ H', cellsOf H' 6 (.imm (X.drop (kk * 6)) (l.length - kk) none) = some (X.drop (kk * 6)) := fun H' => by rw [cellsOf_imm, if_pos (by rw [List.length_drop]; omega)]
      obtain ⟨ms2, hms2⟩ : ∃ ms2, ms2 = l.take kk ++ [bad'] ++ l.drop kk := ⟨_, rfl⟩
      have hl2 : ms2.length < 2 ^ 18 := by rw [hms2]; simp; omega
      have hEE : AV.imm (X.take (kk * 6) ++ mutCs bad' ++ X.drop (kk * 6)) (kk + 1 + (l.length - kk)) none = immM ms2 none := by
        unfold immM; rw [hms2, ← hXe, List.flatMap_append, List.flatMap_append, fm_take (enc := mutCs) mutCs_six, fm_drop (enc := mutCs) mutCs_six]; simp; omega
      have hdo : doS ms2 StT.nil = (StT.nil, 1) := by unfold doS; rw [if_pos (by rw [hms2]; simp [hbf])]
      have hc0 : cellsS StT.nil = [] := rfl
      have hum : un (immM ms2 none) = (True, immM ms2 none) := rfl
      simp [hB3, b6', t5, bt6', hkl, hXl, htk]
      try simp only [put_swap (i := 54) (j := 53) (by decide), put_swap (i := 55) (j := 53) (by decide), put_swap (i := 55) (j := 54) (by decide), put_swap (i := 56) (j := 53) (by decide), put_swap (i := 56) (j := 54) (by decide), put_swap (i := 56) (j := 55) (by decide), put_swap (i := 57) (j := 53) (by decide), put_swap (i := 57) (j := 54) (by decide), put_swap (i := 57) (j := 55) (by decide), put_swap (i := 57) (j := 56) (by decide), put_swap (i := 58) (j := 53) (by decide), put_swap (i := 58) (j := 54) (by decide), put_swap (i := 58) (j := 55) (by decide), put_swap (i := 58) (j := 56) (by decide), put_swap (i := 58) (j := 57) (by decide), put_swap (i := 59) (j := 53) (by decide), put_swap (i := 59) (j := 54) (by decide), put_swap (i := 59) (j := 55) (by decide), put_swap (i := 59) (j := 56) (by decide), put_swap (i := 59) (j := 57) (by decide), put_swap (i := 59) (j := 58) (by decide), put_swap (i := 60) (j := 53) (by decide), put_swap (i := 60) (j := 54) (by decide), put_swap (i := 60) (j := 55) (by decide), put_swap (i := 60) (j := 56) (by decide), put_swap (i := 60) (j := 57) (by decide), put_swap (i := 60) (j := 58) (by decide), put_swap (i := 60) (j := 59) (by decide), put_swap (i := 61) (j := 53) (by decide), put_swap (i := 61) (j := 54) (by decide), put_swap (i := 61) (j := 55) (by decide), put_swap (i := 61) (j := 56) (by decide), put_swap (i := 61) (j := 57) (by decide), put_swap (i := 61) (j := 58) (by decide), put_swap (i := 61) (j := 59) (by decide), put_swap (i := 61) (j := 60) (by decide), put_swap (i := 62) (j := 53) (by decide), put_swap (i := 62) (j := 54) (by decide), put_swap (i := 62) (j := 55) (by decide), put_swap (i := 62) (j := 56) (by decide), put_swap (i := 62) (j := 57) (by decide), put_swap (i := 62) (j := 58) (by decide), put_swap (i := 62) (j := 59) (by decide), put_swap (i := 62) (j := 60) (by decide), put_swap (i := 62) (j := 61) (by decide), put_swap (i := 63) (j := 53) (by decide), put_swap (i := 63) (j := 54) (by decide), put_swap (i := 63) (j := 55) (by decide), put_swap (i := 63) (j := 56) (by decide), put_swap (i := 63) (j := 57) (by decide), put_swap (i := 63) (j := 58) (by decide), put_swap (i := 63) (j := 59) (by decide), put_swap (i := 63) (j := 60) (by decide), put_swap (i := 63) (j := 61) (by decide), put_swap (i := 63) (j := 62) (by decide)]
      try simp only [and_self]
      repeat' (refine And.intro ?_ ?_)
    all_goals
      refine vcAp_row (x := .imm (X.take (kk * 6)) kk none) (n := 0) (m := kk) (new := X.take (kk * 6)) (cs := []) (.inl ⟨rfl, .inl ⟨rfl, rfl⟩⟩) hA1 rfl (by rw [List.length_take]; omega) (by omega) hallt (by omega) (.inr ⟨rfl, .inl ⟨rfl, rfl⟩⟩) ?_
      intro u1 H4 g1 g2 g3
      have hB4 : H4 b = some (.cells (mutCs bad') 6) := by rw [g2 b (by simp [blkOf]) (by rw [hB3]; simp)]; exact hB3
      have hun1 := g1.un
      simp [hB4, b6', t5, bt6', hkl, hXl, hun1, htk]
      try simp only [put_swap (i := 54) (j := 53) (by decide), put_swap (i := 55) (j := 53) (by decide), put_swap (i := 55) (j := 54) (by decide), put_swap (i := 56) (j := 53) (by decide), put_swap (i := 56) (j := 54) (by decide), put_swap (i := 56) (j := 55) (by decide), put_swap (i := 57) (j := 53) (by decide), put_swap (i := 57) (j := 54) (by decide), put_swap (i := 57) (j := 55) (by decide), put_swap (i := 57) (j := 56) (by decide), put_swap (i := 58) (j := 53) (by decide), put_swap (i := 58) (j := 54) (by decide), put_swap (i := 58) (j := 55) (by decide), put_swap (i := 58) (j := 56) (by decide), put_swap (i := 58) (j := 57) (by decide), put_swap (i := 59) (j := 53) (by decide), put_swap (i := 59) (j := 54) (by decide), put_swap (i := 59) (j := 55) (by decide), put_swap (i := 59) (j := 56) (by decide), put_swap (i := 59) (j := 57) (by decide), put_swap (i := 59) (j := 58) (by decide), put_swap (i := 60) (j := 53) (by decide), put_swap (i := 60) (j := 54) (by decide), put_swap (i := 60) (j := 55) (by decide), put_swap (i := 60) (j := 56) (by decide), put_swap (i := 60) (j := 57) (by decide), put_swap (i := 60) (j := 58) (by decide), put_swap (i := 60) (j := 59) (by decide), put_swap (i := 61) (j := 53) (by decide), put_swap (i := 61) (j := 54) (by decide), put_swap (i := 61) (j := 55) (by decide), put_swap (i := 61) (j := 56) (by decide), put_swap (i := 61) (j := 57) (by decide), put_swap (i := 61) (j := 58) (by decide), put_swap (i := 61) (j := 59) (by decide), put_swap (i := 61) (j := 60) (by decide), put_swap (i := 62) (j := 53) (by decide), put_swap (i := 62) (j := 54) (by decide), put_swap (i := 62) (j := 55) (by decide), put_swap (i := 62) (j := 56) (by decide), put_swap (i := 62) (j := 57) (by decide), put_swap (i := 62) (j := 58) (by decide), put_swap (i := 62) (j := 59) (by decide), put_swap (i := 62) (j := 60) (by decide), put_swap (i := 62) (j := 61) (by decide), put_swap (i := 63) (j := 53) (by decide), put_swap (i := 63) (j := 54) (by decide), put_swap (i := 63) (j := 55) (by decide), put_swap (i := 63) (j := 56) (by decide), put_swap (i := 63) (j := 57) (by decide), put_swap (i := 63) (j := 58) (by decide), put_swap (i := 63) (j := 59) (by decide), put_swap (i := 63) (j := 60) (by decide), put_swap (i := 63) (j := 61) (by decide), put_swap (i := 63) (j := 62) (by decide)]
      try simp only [and_self]
      repeat' (refine And.intro ?_ ?_)
    all_goals
      simp only [Nat.zero_add, List.nil_append] at g1
      refine vcAp_row (x := .imm (mutCs bad') 1 (some 1)) (n := kk) (m := 1) (new := mutCs bad') (.inl g1) (hA2 _) rfl rfl (by omega) rfl (by omega) (.inl (by simp [mutCs])) ?_
      intro u2 H5 q1 q2 q3
      have hun2 := q1.un
      simp [t5, hkl, hXl, hun2, htk]
      refine vcAp_hold (bytes := 48) (x := .imm (X.drop (kk * 6)) (l.length - kk) none) (.inl q1) (hA3 _) rfl halld (by omega) ?_
      intro H6 q4
      rw [hEE]
      simp [hum]
      refine CallK.of k_stNew ?_
      rintro _ H7 ⟨s, F, rfl, e1, e2, e3⟩
      simp [hum]
      refine CallK.of (k_do0 e1 (by decide) (ms := ms2) hl2 (c := none)) ?_
      rintro _ H8 ⟨rfl, F', e4, e5⟩
      rw [hdo] at e4
      simp [hdo]
      refine CallK.of (k_cells (.inl ⟨s, F', rfl, e4⟩) (by decide)) ?_
      rintro _ H9 ⟨rfl, rfl⟩
      simp [immC, hc0]
end Go.Proofs.YtcpfodhhjkaibaaGreat
