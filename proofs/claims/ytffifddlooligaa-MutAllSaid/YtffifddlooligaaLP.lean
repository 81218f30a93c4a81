/- The document's changes, read: its reader walked. -/
import Derived.Test.YtffifddlooligaaLN
set_option linter.unusedVariables false
set_option linter.unusedSimpArgs false
set_option maxRecDepth 100000
set_option maxHeartbeats 4000000
namespace Go.Proofs.Ytffifddlooligaa
open Go.Sf
attribute [local simp] s_skip s_ops s_draw s_any s_contA s_tdone s_ttwo s_top_p s_top_pick s_top_e s_top_g s_seq s_cond s_block s_loop s_exit s_ret s_mark s_then_n s_then_e s_then_r s_in_n s_in_e s_in_r s_contC s_contO s_contQ s_contT s_nil s_cons_p s_cons_pick s_cons_e s_cons_g s_qnil s_qcons_p s_qcons_pick s_qcons_e s_qcons_g s_M s_Mg s_Mq s_Mqg s_G_p s_G_pick s_G_e s_Gq_p s_Gq_pick s_Gq_e s_if s_call s_callv s_qcall s_qcallv s_getAll_nil s_getAll_cons s_put_some s_put_none s_ev_t s_ev_c s_ev_f un evP evK argT resAV lenOf_nils lenOf_imm lenOf_sl lenOf_str optI slcV binV isShift binInt binStr shiftInt pickV unV s_append s_alloc s_box s_bslice s_Bs_t s_Bs_f s_store1 s_storeN s_St1 s_St s_s2b s_markb s_Mk s_mkslice s_qbslice s_qs2b s_ret_n s_ret_r s_retc_n s_retc_r s_RV_nil s_RV_t s_RV_c s_RV1 tupOf fillC kn_int cl_int on_int kn_bool cl_bool on_bool kn_str cl_str on_str kn_nilp cl_nilp on_nilp kn_ptr cl_ptr on_ptr kn_iptr cl_iptr on_iptr kn_nils cl_nils on_nils kn_sl cl_sl on_sl kn_imm cl_imm on_imm kn_mp cl_mp on_mp kn_nilm cl_nilm on_nilm kn_fn cl_fn on_fn kn_nilf cl_nilf on_nilf kn_agg cl_agg scalEq flatEq eqV s_copy_i s_copy_s s_Cp s_clr s_clrn s_Cl s_appz s_Az s_ext s_Ov s_mkmap s_mset s_mdel mapOf s_Mg_n s_Mqg_n s_gw_b s_gw_u s_gw_gb s_gw_f
theorem clipN_le (n : Nat) : clipN n ≤ 1000 := by unfold clipN; split <;> omega
def resM (r : MutT × Nat × Nat) : AV := .tup [.agg (mutCs r.1), .int .i64 r.2.1, .int .i64 r.2.2]
theorem p_rGetMut (l : List UInt8) (hl : l.length ≤ 2 ^ 40) : CP PP F_Rref1_GetMut [immB l none] (fun r => r = resM (getMutL l)) := by
  refine CP.by_vcC ok_Rref1_GetMut (by simp) ?_
  unfold c_Rref1_GetMut
  rw [← rGo_eq]
  simp
  intro b hb
  simp
  intro c hc
  obtain ⟨ncb, hc0⟩ := Heap.fresh_ne hc
  have nbc : b ≠ c := fun h => ncb h.symm
  simp
  refine LoopV.mk2 (I_rgm l b c (rGo l 5 [] 0)) 5 ⟨[], 0, rfl, by simp, by simp, by simp, by simp, by simp [wantN], by simp, by rw [Heap.set_ne _ _ nbc, Heap.set_self], by rw [Heap.set_self]; rfl, by omega, rfl, by simp⟩ ?_
  rintro k T H ⟨vs, a, hk, t0, t2, t5, t6, t7, t8, hB, hC, ha, hW, hvs⟩
  generalize rGo l 5 [] 0 = W at *
  have isd := isB_drop l a none
  have hnt := num_took (l.drop a)
  rw [List.length_drop] at hnt
  have hnl := num_lt (l.drop a)
  have hgo : ∀ f, rGo l (f + 1) vs a = if wantN vs ≤ vs.length then finM l vs a else if (num (l.drop a)).2.2 ≠ 0 then (zeroM, 0, (num (l.drop a)).2.2) else rGo l f (vs ++ [clipN (num (l.drop a)).1]) (a + (num (l.drop a)).2.1) := fun f => rfl
  have hget : ∀ (K : AV → Heap → Prop) (H : Heap), K (resN (num (l.drop a))) H → CC PP F_Rref1_GetNum [.imm (List.take (l.length - a) (List.drop a (bytesV l))) (l.length - a) none] H K := fun K H hK => CP.use (p_rGet isd) fun v hv => by rw [hv]; exact hK
  obtain ⟨⟨n, t, e⟩, hN⟩ : ∃ r, num (l.drop a) = r := ⟨_, rfl⟩
  rw [hN] at hget hgo hnt hnl
  simp only at hgo hnt hnl
  have w6 : IntKind.i64.wrap ((a : Int) + (t : Int)) = ((a + t : Nat) : Int) := by rw [wrap_i64 (by omega) (by omega)]; omega
  have hcl : clipN n = if 1000 < n then 1000 else n := rfl
  have hcln := clipN_le n
  match vs, hk, t7, t8, hC, hW, hvs, hgo with
  | [], hk, t7, t8, hC, hW, hvs, hgo =>
    obtain rfl : k = 5 := by simp at hk; omega
    rw [hgo] at hW
    simp [wantN, u64s] at t7 t8 hC hW
    simp [t0, t2, t5, t6, t7, t8, immB, ha, bytesV_length]
    refine hget _ _ ?_
    by_cases he : e = 0
    rotate_left
    · have he' : ¬ ((e : Int) = 0) := by omega
      rw [if_neg he] at hW
      subst hW
      simp [resN, he, he', t2, hB, Heap.set_self, resM, mutCs, zeroM]
    subst he
    rw [if_pos rfl] at hW
    simp [resN, t5, t6, t7, t8, hB, hC, w6]
    by_cases hk9 : 1000 < n
    · rw [show clipN n = 1000 by unfold clipN; rw [if_pos hk9]] at hW
      simp [show (1000 : Int) < (n : Int) by omega, show ¬ (n : Int) ≤ 1000 by omega, Heap.set_self, Heap.set_set, t5, t8, show ¬ n = 5 by omega, show ¬ n = 6 by omega, show ¬ ((n : Int) = 5) by omega, show ¬ ((n : Int) = 6) by omega]
      refine Again2.mk 4 (by omega) ⟨[1000], a + t, rfl, by simp [t0, immB], by simp [t2], by simp [t5], by simp, by simp [t7, wantN], by simp; rfl, by simp [Heap.set_ne _ _ nbc, hB], by simp [Heap.set_self, u64s], by omega, by simpa using hW, by simp at hvs ⊢ <;> omega⟩
    · rw [show clipN n = n by unfold clipN; rw [if_neg hk9]] at hW
      by_cases h5 : n = 5
      · subst h5
        simp [Heap.set_self, Heap.set_set, t5, t8]
        refine Again2.mk 4 (by omega) ⟨[5], a + t, rfl, by simp [t0, immB], by simp [t2], by simp [t5], by simp, by simp [wantN], by simp; rfl, by simp [Heap.set_ne _ _ nbc, hB], by simp [Heap.set_self, u64s], by omega, by simpa using hW, by simp at hvs ⊢ <;> omega⟩
      · by_cases h6 : n = 6
        · subst h6
          simp [Heap.set_self, Heap.set_set, t5, t8]
          refine Again2.mk 4 (by omega) ⟨[6], a + t, rfl, by simp [t0, immB], by simp [t2], by simp [t5], by simp, by simp [wantN], by simp; rfl, by simp [Heap.set_ne _ _ nbc, hB], by simp [Heap.set_self, u64s], by omega, by simpa using hW, by simp at hvs ⊢ <;> omega⟩
        · simp [show ¬ (1000 : Int) < (n : Int) by omega, show (n : Int) ≤ 1000 by omega, Heap.set_self, Heap.set_set, t5, t8, h5, h6, show ¬ ((n : Int) = 5) by omega, show ¬ ((n : Int) = 6) by omega]
          refine Again2.mk 4 (by omega) ⟨[n], a + t, rfl, by simp [t0, immB], by simp [t2], by simp [t5], by simp, by simp [t7, wantN, h5, h6], by simp; rfl, by simp [Heap.set_ne _ _ nbc, hB], by simp [Heap.set_self, u64s], by omega, by simpa using hW, by simp at hvs ⊢ <;> omega⟩
  | [x], hk, t7, t8, hC, hW, hvs, hgo =>
    obtain rfl : k = 4 := by simp at hk; omega
    rw [hgo] at hW
    have hw : wantN [x] = 4 ∨ wantN [x] = 5 := by simp only [wantN]; split <;> simp
    have hw2 : ¬ wantN [x] ≤ 1 := by omega
    have hw3 : (1 : Int) < ((wantN [x] : Nat) : Int) := by omega
    rw [if_neg (by simpa using hw2)] at hW
    simp [u64s] at t8 hC hW
    simp [t0, t2, t5, t6, t7, t8, immB, ha, bytesV_length, hw3]
    refine hget _ _ ?_
    by_cases he : e = 0
    rotate_left
    · have he' : ¬ ((e : Int) = 0) := by omega
      rw [if_neg he] at hW
      subst hW
      simp [resN, he, he', t2, hB, Heap.set_self, resM, mutCs, zeroM]
    subst he
    rw [if_pos rfl] at hW
    simp [resN, t5, t6, t7, t8, hB, hC, w6]
    by_cases hk9 : 1000 < n
    · rw [show clipN n = 1000 by unfold clipN; rw [if_pos hk9]] at hW
      simp [show (1000 : Int) < (n : Int) by omega, show ¬ (n : Int) ≤ 1000 by omega, Heap.set_self, Heap.set_set, t5, t8]
      refine Again2.mk 3 (by omega) ⟨[x, 1000], a + t, rfl, by simp [t0, immB], by simp [t2], by simp [t5], by simp, by simp [t7, wantN], by simp; rfl, by simp [Heap.set_ne _ _ nbc, hB], by simp [Heap.set_self, u64s], by omega, by simpa using hW, by simp at hvs ⊢ <;> omega⟩
    · rw [show clipN n = n by unfold clipN; rw [if_neg hk9]] at hW
      simp [show ¬ (1000 : Int) < (n : Int) by omega, show (n : Int) ≤ 1000 by omega, Heap.set_self, Heap.set_set, t5, t8]
      refine Again2.mk 3 (by omega) ⟨[x, n], a + t, rfl, by simp [t0, immB], by simp [t2], by simp [t5], by simp, by simp [t7, wantN], by simp; rfl, by simp [Heap.set_ne _ _ nbc, hB], by simp [Heap.set_self, u64s], by omega, by simpa using hW, by simp at hvs ⊢ <;> omega⟩
  | [x, y], hk, t7, t8, hC, hW, hvs, hgo =>
    obtain rfl : k = 3 := by simp at hk; omega
    rw [hgo] at hW
    have hw : wantN [x, y] = 4 ∨ wantN [x, y] = 5 := by simp only [wantN]; split <;> simp
    have hw2 : ¬ wantN [x, y] ≤ 2 := by omega
    have hw3 : (2 : Int) < ((wantN [x, y] : Nat) : Int) := by omega
    rw [if_neg (by simpa using hw2)] at hW
    simp [u64s] at t8 hC hW
    simp [t0, t2, t5, t6, t7, t8, immB, ha, bytesV_length, hw3]
    refine hget _ _ ?_
    by_cases he : e = 0
    rotate_left
    · have he' : ¬ ((e : Int) = 0) := by omega
      rw [if_neg he] at hW
      subst hW
      simp [resN, he, he', t2, hB, Heap.set_self, resM, mutCs, zeroM]
    subst he
    rw [if_pos rfl] at hW
    simp [resN, t5, t6, t7, t8, hB, hC, w6]
    by_cases hk9 : 1000 < n
    · rw [show clipN n = 1000 by unfold clipN; rw [if_pos hk9]] at hW
      simp [show (1000 : Int) < (n : Int) by omega, show ¬ (n : Int) ≤ 1000 by omega, Heap.set_self, Heap.set_set, t5, t8]
      refine Again2.mk 2 (by omega) ⟨[x, y, 1000], a + t, rfl, by simp [t0, immB], by simp [t2], by simp [t5], by simp, by simp [t7, wantN], by simp; rfl, by simp [Heap.set_ne _ _ nbc, hB], by simp [Heap.set_self, u64s], by omega, by simpa using hW, by simp at hvs ⊢ <;> omega⟩
    · rw [show clipN n = n by unfold clipN; rw [if_neg hk9]] at hW
      simp [show ¬ (1000 : Int) < (n : Int) by omega, show (n : Int) ≤ 1000 by omega, Heap.set_self, Heap.set_set, t5, t8]
      refine Again2.mk 2 (by omega) ⟨[x, y, n], a + t, rfl, by simp [t0, immB], by simp [t2], by simp [t5], by simp, by simp [t7, wantN], by simp; rfl, by simp [Heap.set_ne _ _ nbc, hB], by simp [Heap.set_self, u64s], by omega, by simpa using hW, by simp at hvs ⊢ <;> omega⟩
  | [x, y, z], hk, t7, t8, hC, hW, hvs, hgo =>
    obtain rfl : k = 2 := by simp at hk; omega
    rw [hgo] at hW
    have hw : wantN [x, y, z] = 4 ∨ wantN [x, y, z] = 5 := by simp only [wantN]; split <;> simp
    have hw2 : ¬ wantN [x, y, z] ≤ 3 := by omega
    have hw3 : (3 : Int) < ((wantN [x, y, z] : Nat) : Int) := by omega
    rw [if_neg (by simpa using hw2)] at hW
    simp [u64s] at t8 hC hW
    simp [t0, t2, t5, t6, t7, t8, immB, ha, bytesV_length, hw3]
    refine hget _ _ ?_
    by_cases he : e = 0
    rotate_left
    · have he' : ¬ ((e : Int) = 0) := by omega
      rw [if_neg he] at hW
      subst hW
      simp [resN, he, he', t2, hB, Heap.set_self, resM, mutCs, zeroM]
    subst he
    rw [if_pos rfl] at hW
    simp [resN, t5, t6, t7, t8, hB, hC, w6]
    by_cases hk9 : 1000 < n
    · rw [show clipN n = 1000 by unfold clipN; rw [if_pos hk9]] at hW
      simp [show (1000 : Int) < (n : Int) by omega, show ¬ (n : Int) ≤ 1000 by omega, Heap.set_self, Heap.set_set, t5, t8]
      refine Again2.mk 1 (by omega) ⟨[x, y, z, 1000], a + t, rfl, by simp [t0, immB], by simp [t2], by simp [t5], by simp, by simp [t7, wantN], by simp; rfl, by simp [Heap.set_ne _ _ nbc, hB], by simp [Heap.set_self, u64s], by omega, by simpa using hW, by simp at hvs ⊢ <;> omega⟩
    · rw [show clipN n = n by unfold clipN; rw [if_neg hk9]] at hW
      simp [show ¬ (1000 : Int) < (n : Int) by omega, show (n : Int) ≤ 1000 by omega, Heap.set_self, Heap.set_set, t5, t8]
      refine Again2.mk 1 (by omega) ⟨[x, y, z, n], a + t, rfl, by simp [t0, immB], by simp [t2], by simp [t5], by simp, by simp [t7, wantN], by simp; rfl, by simp [Heap.set_ne _ _ nbc, hB], by simp [Heap.set_self, u64s], by omega, by simpa using hW, by simp at hvs ⊢ <;> omega⟩
  | [x, y, z, u], hk, t7, t8, hC, hW, hvs, hgo =>
    obtain rfl : k = 1 := by simp at hk; omega
    rw [hgo] at hW
    have hw : wantN [x, y, z, u] = 4 ∨ wantN [x, y, z, u] = 5 := by simp only [wantN]; split <;> simp
    rcases hw with hw | hw
    rotate_left
    · have hw0 := hw
      have hw2 : ¬ wantN [x, y, z, u] ≤ 4 := by rw [hw]; omega
      have hw3 : (4 : Int) < ((wantN [x, y, z, u] : Nat) : Int) := by omega
      rw [if_neg (by simpa using hw2)] at hW
      simp [u64s] at t8 hC hW
      simp [t0, t2, t5, t6, t7, t8, immB, ha, bytesV_length, hw3]
      refine hget _ _ ?_
      by_cases he : e = 0
      rotate_left
      · have he' : ¬ ((e : Int) = 0) := by omega
        rw [if_neg he] at hW
        subst hW
        simp [resN, he, he', t2, hB, Heap.set_self, resM, mutCs, zeroM]
      subst he
      rw [if_pos rfl] at hW
      simp [resN, t5, t6, t7, t8, hB, hC, w6]
      by_cases hk9 : 1000 < n
      · rw [show clipN n = 1000 by unfold clipN; rw [if_pos hk9]] at hW
        simp [show (1000 : Int) < (n : Int) by omega, show ¬ (n : Int) ≤ 1000 by omega, Heap.set_self, Heap.set_set, t5, t8]
        refine Again2.mk 0 (by omega) ⟨[x, y, z, u, 1000], a + t, rfl, by simp [t0, immB], by simp [t2], by simp [t5], by simp, by simp [t7, wantN], by simp; rfl, by simp [Heap.set_ne _ _ nbc, hB], by simp [Heap.set_self, u64s], by omega, by simpa using hW, by simp at hvs ⊢ <;> omega⟩
      · rw [show clipN n = n by unfold clipN; rw [if_neg hk9]] at hW
        simp [show ¬ (1000 : Int) < (n : Int) by omega, show (n : Int) ≤ 1000 by omega, Heap.set_self, Heap.set_set, t5, t8]
        refine Again2.mk 0 (by omega) ⟨[x, y, z, u, n], a + t, rfl, by simp [t0, immB], by simp [t2], by simp [t5], by simp, by simp [t7, wantN], by simp; rfl, by simp [Heap.set_ne _ _ nbc, hB], by simp [Heap.set_self, u64s], by omega, by simpa using hW, by simp at hvs ⊢ <;> omega⟩
    rw [if_pos (by rw [hw]; simp)] at hW
    rw [hw] at t7
    have ex : IntKind.i64.wrap (x : Int) = x := by have := hvs x (by simp); exact wrap_i64 (by omega) (by omega)
    have ey : IntKind.i64.wrap (y : Int) = y := by have := hvs y (by simp); exact wrap_i64 (by omega) (by omega)
    have ez : IntKind.i64.wrap (z : Int) = z := by have := hvs z (by simp); exact wrap_i64 (by omega) (by omega)
    have eu : IntKind.i64.wrap (u : Int) = u := by have := hvs u (by simp); exact wrap_i64 (by omega) (by omega)
    have e0 : IntKind.i64.wrap 0 = 0 := rfl
    simp [u64s] at t8 hC
    simp [t5, t7, t8, hC, ex, ey, ez, eu, e0]
    intro d hd
    have ndb : d ≠ b := fun h => by rw [h, hB] at hd; cases hd
    have nbd : b ≠ d := fun h => ndb h.symm
    unfold finM at hW
    simp only [List.getD_cons_zero, List.getD_cons_succ, List.getD_nil] at hW
    have hM : ∀ v a, chkM ⟨x, y, z, u, 0, v⟩ a = if mayM ⟨x, y, z, u, 0, v⟩ then (⟨x, y, z, u, 0, v⟩, a, 0) else (zeroM, 0, 1) := fun _ _ => rfl
    by_cases hv : x = 1 ∨ x = 3 ∨ x = 5
    · have hV : valuesK (x : Int) = true := by simp [valuesK]; omega
      rw [hV, if_pos rfl, hN] at hW
      simp only at hW
      rcases hv with rfl | rfl | rfl
      all_goals
        simp [Heap.set_self, Heap.set_set, t0, t6, immB, ha, bytesV_length]
        refine CallK.pure (p_rGetInt isd) ?_
        rintro _ rfl
        rw [hN]
        by_cases he : e = 0
        · subst he
          simp only [ne_eq, not_true_eq_false, if_false, hM] at hW
          simp [resI, t6, w6, Heap.set_self, Heap.set_set]
          refine CallK.pure (p_rMayMut ⟨_, y, z, u, 0, zag n⟩) ?_
          rintro _ rfl
          cases hmm : mayM ⟨_, y, z, u, 0, zag n⟩
          · simp [chkM, hmm] at hW
            subst hW
            simp [hmm, t2, hB, Heap.set_self, Heap.set_ne _ _ nbd, resM, mutCs, zeroM]
          · simp [chkM, hmm] at hW
            subst hW
            simp [hmm, t2, t6, hB, Heap.set_self, Heap.set_set, Heap.set_ne _ _ nbd, Heap.set_ne _ _ ndb, resM, mutCs]
        · have he' : ¬ ((e : Int) = 0) := by omega
          rw [if_pos he] at hW
          subst hW
          simp [resI, he, he', t2, hB, Heap.set_self, Heap.set_ne _ _ nbd, resM, mutCs, zeroM]
    · have hV : valuesK (x : Int) = false := by simp [valuesK]; omega
      rw [hV] at hW
      simp only [Bool.false_eq_true, if_false, hM] at hW
      have x1 : ¬ x = 1 := by omega
      have x3 : ¬ x = 3 := by omega
      have x5 : ¬ x = 5 := by omega
      have y1 : ¬ (x : Int) = 1 := by omega
      have y3 : ¬ (x : Int) = 3 := by omega
      have y5 : ¬ (x : Int) = 5 := by omega
      simp [Heap.set_self, Heap.set_set, x1, x3, x5, y1, y3, y5]
      refine CallK.pure (p_rMayMut ⟨x, y, z, u, 0, 0⟩) ?_
      rintro _ rfl
      cases hmm : mayM ⟨x, y, z, u, 0, 0⟩
      · simp [chkM, hmm] at hW
        subst hW
        simp [hmm, t2, hB, Heap.set_self, Heap.set_ne _ _ nbd, resM, mutCs, zeroM]
      · simp [chkM, hmm] at hW
        subst hW
        simp [hmm, t2, t6, hB, Heap.set_self, Heap.set_set, Heap.set_ne _ _ nbd, Heap.set_ne _ _ ndb, resM, mutCs]
  | [x, y, z, u, f], hk, t7, t8, hC, hW, hvs, hgo =>
    obtain rfl : k = 0 := by simp at hk; omega
    have hw : wantN [x, y, z, u, f] = 4 ∨ wantN [x, y, z, u, f] = 5 := by simp only [wantN]; split <;> simp
    have hw9 : ¬ (5 : Int) < ((wantN [x, y, z, u, f] : Nat) : Int) := by omega
    have hW : finM l [x, y, z, u, f] a = W := hW
    have ex : IntKind.i64.wrap (x : Int) = x := by have := hvs x (by simp); exact wrap_i64 (by omega) (by omega)
    have ey : IntKind.i64.wrap (y : Int) = y := by have := hvs y (by simp); exact wrap_i64 (by omega) (by omega)
    have ez : IntKind.i64.wrap (z : Int) = z := by have := hvs z (by simp); exact wrap_i64 (by omega) (by omega)
    have eu : IntKind.i64.wrap (u : Int) = u := by have := hvs u (by simp); exact wrap_i64 (by omega) (by omega)
    have ef : IntKind.i64.wrap (f : Int) = f := by have := hvs f (by simp); exact wrap_i64 (by omega) (by omega)
    have e0 : IntKind.i64.wrap 0 = 0 := rfl
    simp [u64s] at t8 hC
    simp [t5, t7, t8, hC, ex, ey, ez, eu, ef, e0, hw9]
    intro d hd
    have ndb : d ≠ b := fun h => by rw [h, hB] at hd; cases hd
    have nbd : b ≠ d := fun h => ndb h.symm
    unfold finM at hW
    simp only [List.getD_cons_zero, List.getD_cons_succ, List.getD_nil] at hW
    have hM : ∀ v a, chkM ⟨x, y, z, u, f, v⟩ a = if mayM ⟨x, y, z, u, f, v⟩ then (⟨x, y, z, u, f, v⟩, a, 0) else (zeroM, 0, 1) := fun _ _ => rfl
    by_cases hv : x = 1 ∨ x = 3 ∨ x = 5
    · have hV : valuesK (x : Int) = true := by simp [valuesK]; omega
      rw [hV, if_pos rfl, hN] at hW
      simp only at hW
      rcases hv with rfl | rfl | rfl
      all_goals
        simp [Heap.set_self, Heap.set_set, t0, t6, immB, ha, bytesV_length]
        refine CallK.pure (p_rGetInt isd) ?_
        rintro _ rfl
        rw [hN]
        by_cases he : e = 0
        · subst he
          simp only [ne_eq, not_true_eq_false, if_false, hM] at hW
          simp [resI, t6, w6, Heap.set_self, Heap.set_set]
          refine CallK.pure (p_rMayMut ⟨_, y, z, u, f, zag n⟩) ?_
          rintro _ rfl
          cases hmm : mayM ⟨_, y, z, u, f, zag n⟩
          · simp [chkM, hmm] at hW
            subst hW
            simp [hmm, t2, hB, Heap.set_self, Heap.set_ne _ _ nbd, resM, mutCs, zeroM]
          · simp [chkM, hmm] at hW
            subst hW
            simp [hmm, t2, t6, hB, Heap.set_self, Heap.set_set, Heap.set_ne _ _ nbd, Heap.set_ne _ _ ndb, resM, mutCs]
        · have he' : ¬ ((e : Int) = 0) := by omega
          rw [if_pos he] at hW
          subst hW
          simp [resI, he, he', t2, hB, Heap.set_self, Heap.set_ne _ _ nbd, resM, mutCs, zeroM]
    · have hV : valuesK (x : Int) = false := by simp [valuesK]; omega
      rw [hV] at hW
      simp only [Bool.false_eq_true, if_false, hM] at hW
      have x1 : ¬ x = 1 := by omega
      have x3 : ¬ x = 3 := by omega
      have x5 : ¬ x = 5 := by omega
      have y1 : ¬ (x : Int) = 1 := by omega
      have y3 : ¬ (x : Int) = 3 := by omega
      have y5 : ¬ (x : Int) = 5 := by omega
      simp [Heap.set_self, Heap.set_set, x1, x3, x5, y1, y3, y5]
      refine CallK.pure (p_rMayMut ⟨x, y, z, u, f, 0⟩) ?_
      rintro _ rfl
      cases hmm : mayM ⟨x, y, z, u, f, 0⟩
      · simp [chkM, hmm] at hW
        subst hW
        simp [hmm, t2, hB, Heap.set_self, Heap.set_ne _ _ nbd, resM, mutCs, zeroM]
      · simp [chkM, hmm] at hW
        subst hW
        simp [hmm, t2, t6, hB, Heap.set_self, Heap.set_set, Heap.set_ne _ _ nbd, Heap.set_ne _ _ ndb, resM, mutCs]
  | x :: y :: z :: u :: f :: g :: r, hk, t7, t8, hC, hW, hvs, hgo => simp at hk; omega
end Go.Proofs.Ytffifddlooligaa
