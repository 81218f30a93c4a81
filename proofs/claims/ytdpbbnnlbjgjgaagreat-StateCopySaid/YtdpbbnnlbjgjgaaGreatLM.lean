/- The document's changes: which may be, written, read; their keys' order. -/
import Derived.Test.YtdpbbnnlbjgjgaaGreatGK
import Derived.Test.YtdpbbnnlbjgjgaaGreatN2
set_option linter.unusedVariables false
set_option linter.unusedSimpArgs false
set_option maxRecDepth 100000
namespace Go.Sf
/-- Keys in order: group, namespace, number. -/
def lessK (a b : Int × Int × Int) : Bool := if a.1 ≠ b.1 then decide (a.1 < b.1) else if a.2.1 ≠ b.2.1 then decide (a.2.1 < b.2.1) else decide (a.2.2 < b.2.2)
def k3 (a : Int × Int × Int) : List AV := [.int .i64 a.1, .int .i64 a.2.1, .int .i64 a.2.2]
theorem lessK_irr (a : Int × Int × Int) : lessK a a = false := by simp [lessK]
theorem lessK_iff (a b : Int × Int × Int) : lessK a b = true ↔ a.1 < b.1 ∨ (a.1 = b.1 ∧ (a.2.1 < b.2.1 ∨ (a.2.1 = b.2.1 ∧ a.2.2 < b.2.2))) := by
  unfold lessK
  split
  · simp; omega
  · split
    · simp; omega
    · simp; omega
theorem lessK_asym {a b : Int × Int × Int} (h : lessK a b = true) : lessK b a = false := by
  cases hc : lessK b a with
  | false => rfl
  | true => rw [lessK_iff] at h hc; omega
theorem lessK_trans {a b c : Int × Int × Int} (h : lessK a b = true) (k : lessK b c = true) : lessK a c = true := by
  rw [lessK_iff] at *; omega
theorem lessK_tri (a b : Int × Int × Int) : a = b ∨ lessK a b = true ∨ lessK b a = true := by
  obtain ⟨a1, a2, a3⟩ := a
  obtain ⟨b1, b2, b3⟩ := b
  simp only [lessK_iff, Prod.mk.injEq]
  omega
end Go.Sf
namespace Go.Proofs.YtdpbbnnlbjgjgaaGreat
open Go.Sf
attribute [local simp] s_skip s_ops s_draw s_any s_contA s_tdone s_ttwo s_top_p s_top_pick s_top_e s_top_g s_seq s_cond s_block s_loop s_exit s_ret s_mark s_then_n s_then_e s_then_r s_in_n s_in_e s_in_r s_contC s_contO s_contQ s_contT s_nil s_cons_p s_cons_pick s_cons_e s_cons_g s_qnil s_qcons_p s_qcons_pick s_qcons_e s_qcons_g s_M s_Mg s_Mq s_Mqg s_G_p s_G_pick s_G_e s_Gq_p s_Gq_pick s_Gq_e s_if s_call s_callv s_qcall s_qcallv s_getAll_nil s_getAll_cons s_put_some s_put_none s_ev_t s_ev_c s_ev_f un evP evK argT resAV lenOf_nils lenOf_imm lenOf_sl lenOf_str optI slcV binV isShift binInt binStr shiftInt pickV unV s_append s_alloc s_box s_bslice s_Bs_t s_Bs_f s_store1 s_storeN s_St1 s_St s_s2b s_markb s_Mk s_mkslice s_qbslice s_qs2b s_ret_n s_ret_r s_retc_n s_retc_r s_RV_nil s_RV_t s_RV_c s_RV1 tupOf fillC kn_int cl_int on_int kn_bool cl_bool on_bool kn_str cl_str on_str kn_nilp cl_nilp on_nilp kn_ptr cl_ptr on_ptr kn_iptr cl_iptr on_iptr kn_nils cl_nils on_nils kn_sl cl_sl on_sl kn_imm cl_imm on_imm kn_mp cl_mp on_mp kn_nilm cl_nilm on_nilm kn_fn cl_fn on_fn kn_nilf cl_nilf on_nilf kn_agg cl_agg scalEq flatEq eqV s_copy_i s_copy_s s_Cp s_clr s_clrn s_Cl s_appz s_Az s_ext s_Ov s_mapB s_mapBS s_rng s_rngn s_Rn s_nxt s_Nx0 s_ent s_mkmap s_mset s_mdel mapOf s_Mg_n s_Mqg_n s_gw_b s_gw_u s_gw_gb s_gw_f
theorem p_less (a b : Int × Int × Int) : CP PP F_mut_Less [.agg (k3 a), .agg (k3 b)] (fun v => v = .bool (lessK a b)) := by
  refine CP.by_vc ok_mut_Less (by simp) ?_
  unfold c_mut_Less k3
  simp
  intro b2 h2
  simp
  intro b3 h3
  obtain ⟨n, -⟩ := Heap.fresh_ne h3
  unfold lessK
  by_cases h1 : a.1 = b.1
  · by_cases h2 : a.2.1 = b.2.1
    · simp [Heap.set_self, Heap.set_ne _ _ (Ne.symm n), h1, h2]
    · simp [Heap.set_self, Heap.set_ne _ _ (Ne.symm n), h1, h2]
  · simp [Heap.set_self, Heap.set_ne _ _ (Ne.symm n), h1]
theorem p_rLess (a b : Int × Int × Int) : CP PP F_Rref1_Less [.agg (k3 a), .agg (k3 b)] (fun v => v = .bool (lessK a b)) := by
  refine CP.by_vc ok_Rref1_Less (by simp) ?_
  unfold c_Rref1_Less k3
  simp
  intro b2 h2
  simp
  intro b3 h3
  obtain ⟨n, -⟩ := Heap.fresh_ne h3
  unfold lessK
  by_cases h1 : a.1 = b.1
  · by_cases h2 : a.2.1 = b.2.1
    · simp [Heap.set_self, Heap.set_ne _ _ (Ne.symm n), h1, h2]
    · simp [Heap.set_self, Heap.set_ne _ _ (Ne.symm n), h1, h2]
  · simp [Heap.set_self, Heap.set_ne _ _ (Ne.symm n), h1]
theorem p_rMayKey (g n i : Int) : CP PP F_Rref1_MayKey [.agg [.int .i64 g, .int .i64 n, .int .i64 i]] (fun v => v = .bool (isK g n i)) := by
  refine CP.by_vc ok_Rref1_MayKey (by simp) ?_
  unfold c_Rref1_MayKey
  simp
  intro b hb
  simp [Heap.set_self]
  have e : isK g n i = (decide (0 ≤ g) && decide (g < 4) && (decide (n = 0) || decide (n = 1)) && decide (0 ≤ i) && decide (i < 24)) := by
    unfold isK
    rw [Bool.eq_iff_iff]
    simp
    omega
  rw [e]
  by_cases h1 : 0 ≤ g
  · by_cases h2 : g < 4
    · by_cases h3 : n = 0
      · by_cases h5 : 0 ≤ i
        · simp [h1, h2, h3, h5]
        · simp [h1, h2, h3, h5]
      · by_cases h4 : n = 1
        · by_cases h5 : 0 ≤ i
          · simp [h1, h2, h3, h4, h5]
          · simp [h1, h2, h3, h4, h5]
        · simp [h1, h2, h3, h4]
    · simp [h1, h2]
  · simp [h1]
theorem p_rMayMut0 (m : MutT) (hk : ¬ (1 ≤ m.k ∧ m.k ≤ 6)) : CP PP F_Rref1_MayMut [.agg (mutCs m)] (fun v => v = .bool (mayM m)) := by
  refine CP.by_vc ok_Rref1_MayMut (by simp) ?_
  unfold c_Rref1_MayMut mutCs
  simp
  intro b hb
  have hm : mayM m = false := by unfold mayM; simp; omega
  have h : m.k < 1 ∨ 6 < m.k := by omega
  rcases h with h | h
  · simp [Heap.set_self, hm, show ¬ 1 ≤ m.k by omega, show m.k ≠ 5 by omega, show m.k ≠ 6 by omega, show m.k ≠ 1 by omega, show m.k ≠ 3 by omega]
  · simp [Heap.set_self, hm, show 1 ≤ m.k by omega, show ¬ m.k ≤ 6 by omega, show m.k ≠ 5 by omega, show m.k ≠ 6 by omega, show m.k ≠ 1 by omega, show m.k ≠ 3 by omega]
theorem mayM_in {m : MutT} (hk : 1 ≤ m.k ∧ m.k ≤ 6) : ∀ K, isK m.g m.n m.i = K → mayM m = (K && (if fieldsK m.k then decide (0 ≤ m.f) && decide (m.f < 8) else decide (m.f = 0)) && (valuesK m.k || decide (m.v = 0))) := fun K h => by
  unfold mayM; rw [h]; simp [hk.1, hk.2]
theorem p_rMayMut1 (m : MutT) (hk : 1 ≤ m.k ∧ m.k ≤ 6) (hK : isK m.g m.n m.i = false) : CP PP F_Rref1_MayMut [.agg (mutCs m)] (fun v => v = .bool (mayM m)) := by
  refine CP.by_vc ok_Rref1_MayMut (by simp) ?_
  unfold c_Rref1_MayMut mutCs
  simp
  intro b hb
  have k1 : m.k = 1 ∨ m.k = 2 ∨ m.k = 3 ∨ m.k = 4 ∨ m.k = 5 ∨ m.k = 6 := by omega
  have := mayM_in hk _ hK
  rcases k1 with h | h | h | h | h | h
  all_goals
    simp [Heap.set_self, h]
    refine CallK.pure (p_rMayKey _ _ _) ?_
    rintro _ rfl
    simp [hK, Heap.set_self, h, this]
theorem p_rMayMut2 (m : MutT) (hk : m.k = 1 ∨ m.k = 2 ∨ m.k = 3 ∨ m.k = 4) (hK : isK m.g m.n m.i = true) : CP PP F_Rref1_MayMut [.agg (mutCs m)] (fun v => v = .bool (mayM m)) := by
  refine CP.by_vc ok_Rref1_MayMut (by simp) ?_
  unfold c_Rref1_MayMut mutCs
  simp
  intro b hb
  have := mayM_in (m := m) (by omega) _ hK
  rcases hk with h | h | h | h
  all_goals
    simp [Heap.set_self, h]
    refine CallK.pure (p_rMayKey _ _ _) ?_
    rintro _ rfl
    rw [h] at this
    simp [fieldsK, valuesK] at this
    by_cases hz : m.f = 0
    · simp [hK, Heap.set_self, h, this, hz]
    · simp [hK, Heap.set_self, h, this, hz]
theorem p_rMayMut3 (m : MutT) (hk : m.k = 5 ∨ m.k = 6) (hK : isK m.g m.n m.i = true) : CP PP F_Rref1_MayMut [.agg (mutCs m)] (fun v => v = .bool (mayM m)) := by
  refine CP.by_vc ok_Rref1_MayMut (by simp) ?_
  unfold c_Rref1_MayMut mutCs
  simp
  intro b hb
  have := mayM_in (m := m) (by omega) _ hK
  rcases hk with h | h
  all_goals
    simp [Heap.set_self, h]
    refine CallK.pure (p_rMayKey _ _ _) ?_
    rintro _ rfl
    rw [h] at this
    simp [fieldsK, valuesK] at this
    by_cases h0 : 0 ≤ m.f
    · by_cases h8 : m.f < 8
      · simp [hK, Heap.set_self, h, this, h0, h8]
      · simp [hK, Heap.set_self, h, this, h0, h8]
    · simp [hK, Heap.set_self, h, this, h0]
theorem p_rMayMut (m : MutT) : CP PP F_Rref1_MayMut [.agg (mutCs m)] (fun v => v = .bool (mayM m)) := by
  by_cases hk : 1 ≤ m.k ∧ m.k ≤ 6
  · cases hK : isK m.g m.n m.i with
    | false => exact p_rMayMut1 m hk hK
    | true =>
      by_cases h4 : m.k ≤ 4
      · exact p_rMayMut2 m (by omega) hK
      · exact p_rMayMut3 m (by omega) hK
  · exact p_rMayMut0 m hk
end Go.Proofs.YtdpbbnnlbjgjgaaGreat
