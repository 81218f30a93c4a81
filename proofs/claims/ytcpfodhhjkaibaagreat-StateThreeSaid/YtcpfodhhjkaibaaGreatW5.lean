/- StateThree. -/
import Derived.Test.YtcpfodhhjkaibaaGreatSB
import Derived.Test.YtcpfodhhjkaibaaGreatCH
set_option linter.unusedVariables false
set_option linter.unusedSimpArgs false
set_option maxRecDepth 100000
set_option maxHeartbeats 8000000
namespace Go.Proofs.YtcpfodhhjkaibaaGreat
open Go.Sf
attribute [local simp] s_skip s_ops s_draw s_any s_contA s_tdone s_ttwo s_top_p s_top_pick s_top_e s_top_g s_seq s_cond s_block s_loop s_exit s_ret s_mark s_then_n s_then_e s_then_r s_in_n s_in_e s_in_r s_contC s_contO s_contQ s_contT s_nil s_cons_p s_cons_pick s_cons_e s_cons_g s_qnil s_qcons_p s_qcons_pick s_qcons_e s_qcons_g s_M s_Mg s_Mq s_Mqg s_G_p s_G_pick s_G_e s_Gq_p s_Gq_pick s_Gq_e s_if s_call s_callv s_qcall s_qcallv s_getAll_nil s_getAll_cons s_put_some s_put_none s_ev_t s_ev_c s_ev_f un evP evK argT resAV lenOf_nils lenOf_imm lenOf_sl lenOf_str optI slcV binV isShift binInt binStr shiftInt pickV unV s_append s_alloc s_box s_bslice s_Bs_t s_Bs_f s_store1 s_storeN s_St1 s_St s_s2b s_markb s_Mk s_mkslice s_qbslice s_qs2b s_ret_n s_ret_r s_retc_n s_retc_r s_RV_nil s_RV_t s_RV_c s_RV1 tupOf fillC kn_int cl_int on_int kn_bool cl_bool on_bool kn_str cl_str on_str kn_nilp cl_nilp on_nilp kn_ptr cl_ptr on_ptr kn_iptr cl_iptr on_iptr kn_nils cl_nils on_nils kn_sl cl_sl on_sl kn_imm cl_imm on_imm kn_mp cl_mp on_mp kn_nilm cl_nilm on_nilm kn_fn cl_fn on_fn kn_nilf cl_nilf on_nilf kn_agg cl_agg scalEq flatEq eqV s_copy_i s_copy_s s_Cp s_clr s_clrn s_Cl s_appz s_Az s_ext s_Ov s_mapB s_mapBS s_rng s_rngn s_Rn s_nxt s_Nx0 s_ent s_mkmap s_mset s_mdel mapOf s_Mg_n s_Mqg_n s_gw_b s_gw_u s_gw_gb s_gw_f
theorem isK_parts {g n i : Int} (h : isK g n i = true) : 0 ≤ g ∧ g < 4 ∧ 0 ≤ n ∧ n < 2 ∧ 0 ≤ i ∧ i < 24 := by
  unfold isK at h; simpa [and_assoc] using h
def muts3 (k : K3T) (v f : Int) : List MutT := [⟨1, k.1, k.2.1, k.2.2, 0, v⟩, ⟨3, k.1, k.2.1, k.2.2, 0, v⟩, ⟨5, k.1, k.2.1, k.2.2, f, v⟩]
def st3 (k : K3T) (v f : Int) : StT := ⟨[(k, v)], [(k, [v])], [(k, [(f, v)])]⟩
theorem do_muts3 {k : K3T} (hk : isK k.1 k.2.1 k.2.2 = true) (v : Int) {f : Int} (h0 : 0 ≤ f) (h1 : f < 8) : doS (muts3 k v f) StT.nil = (st3 k v f, 0) := by
  obtain ⟨g, n, i⟩ := k
  simp [doS, muts3, st3, StT.nil, mayM, fieldsK, valuesK, hk, h0, h1, fullS, fullN, listK, getK, mput, midx, MutT.key, doneS, oneS, updK, insK, posK, pushL, putD, dictK, putF, getF, insF, posF, Int.not_lt.2 h0, Int.not_le.2 h1]
def st3b (k : K3T) (v f : Int) : StT := ⟨[], [(k, [v])], [(k, [(f, v)])]⟩
theorem do_cut3 {k : K3T} (hk : isK k.1 k.2.1 k.2.2 = true) (v : Int) {f : Int} (h0 : 0 ≤ f) (h1 : f < 8) : doS [⟨2, k.1, k.2.1, k.2.2, 0, 0⟩] (st3 k v f) = (st3b k v f, 0) := by
  obtain ⟨g, n, i⟩ := k
  simp [doS, st3b, st3, mayM, fieldsK, valuesK, hk, fullS, fullN, listK, getK, mput, midx, MutT.key, doneS, oneS, cutK, delK, posK, lessK_irr]
theorem do_rest3 {k : K3T} (hk : isK k.1 k.2.1 k.2.2 = true) (v : Int) {f : Int} (h0 : 0 ≤ f) (h1 : f < 8) : doS [⟨4, k.1, k.2.1, k.2.2, 0, 0⟩, ⟨6, k.1, k.2.1, k.2.2, f, 0⟩] (st3b k v f) = (StT.nil, 0) := by
  obtain ⟨g, n, i⟩ := k
  simp [doS, st3b, st3, StT.nil, mayM, fieldsK, valuesK, hk, h0, h1, fullS, fullN, listK, getK, mput, midx, MutT.key, doneS, oneS, clearL, cutD, cutF, getF, delF, posF, dictK, cutK, delK, posK, lessK_irr]
theorem p_StateThree (a : Int) (ha0 : IntKind.i64.min ≤ a) (ha1 : a ≤ IntKind.i64.max) (b : Int) (hb0 : IntKind.i64.min ≤ b) (hb1 : b ≤ IntKind.i64.max) (c : Int) (hc0 : IntKind.i64.min ≤ c) (hc1 : c ≤ IntKind.i64.max) (v : Int) (hv0 : IntKind.i64.min ≤ v) (hv1 : v ≤ IntKind.i64.max) (f : Int) (hf0 : IntKind.i64.min ≤ f) (hf1 : f ≤ IntKind.i64.max) :
    CP PP F_Rlaw7_StateThree [.int .i64 a, .int .i64 b, .int .i64 c, .int .i64 v, .int .i64 f] (fun v => v = .bool true) := by
  refine CP.by_vc ok_Rlaw7_StateThree (by simp) ?_
  unfold c_Rlaw7_StateThree
  have b1 : -8 < f.tmod 8 ∧ f.tmod 8 < 8 := tmod_b f 8 (by omega)
  have w1 : IntKind.i64.wrap (f.tmod 8 + 8) = f.tmod 8 + 8 := wrap_i64 (by omega) (by omega)
  have e1 : (f.tmod 8 + 8).tmod 8 = (f.tmod 8 + 8) % 8 := Int.tmod_eq_emod_of_nonneg (by omega)
  obtain ⟨d, hd, hd0, hd1⟩ : ∃ d, (f.tmod 8 + 8).tmod 8 = d ∧ 0 ≤ d ∧ d < 8 := ⟨_, rfl, by omega, by omega⟩
  have hK := keyN_ok a b c
  simp
  refine CallK.pure p_begun7 ?_
  rintro _ rfl
  simp
  refine CallK.pure (p_key a b c) ?_
  rintro _ rfl
  generalize keyN a b c = k at *
  obtain ⟨g, n, i⟩ := k
  simp only [k3]
  simp only at hK
  simp
  intro y hy
  simp [Heap.set_self, Heap.set_set, w1, hd]
  refine CallK.of k_stNew ?_
  rintro _ H1 ⟨s, F, rfl, s1, n1, n2⟩
  have hyn : (Heap.nil.set y (some (.cells [AV.int .i64 g, AV.int .i64 n, AV.int .i64 i] 3))) y ≠ none := by rw [Heap.set_self]; simp
  have y1 : H1 y = some (.cells [AV.int .i64 g, AV.int .i64 n, AV.int .i64 i] 3) := by rw [n1 y hyn]; exact Heap.set_self _ _ _
  have yF : ¬ F y := fun e => hyn (n2 y e)
  clear n1 n2 hyn
  simp [y1]
  have hdo := k_do0 s1 (by decide) (ms := muts3 (g, n, i) v d) (by simp [muts3]) (c := some 3)
  rw [do_muts3 hK v hd0 hd1] at hdo
  refine CallK.of hdo ?_
  rintro _ H2 ⟨rfl, F2, s2, u2⟩
  have y2 : H2 y = some (.cells [AV.int .i64 g, AV.int .i64 n, AV.int .i64 i] 3) := by rw [u2.1 y yF (by rw [y1]; simp)]; exact y1
  have yF2 : ¬ F2 y := fun e => (u2.2 y e).elim yF (by rw [y1]; simp)
  have s2' := s2
  obtain ⟨qv, ql, qd, Q1, Q2, Q3, z1, z2, z3, z4, -⟩ := s2'
  simp [y2, z1]
  refine CallQ.ofH ((k_vValue z2 (by simp [st3]) (g, n, i)).mono fun r H' h => ⟨h.2, h.1⟩) ?_
  have g2 : getK (g, n, i) (st3 (g, n, i) v d).V = some v := by simp [st3, getK]
  rw [g2]
  simp [y2, z1]
  refine CallQ.ofH ((k_dField z4 (by simp [st3]) (g, n, i) d).mono fun r H' h => ⟨h.2, h.1⟩) ?_
  have g3 : getF d (dictK (g, n, i) (st3 (g, n, i) v d).D) = some v := by simp [st3, getK, dictK, getF]
  rw [g3]
  simp [y2, z1]
  have g4 : listK (g, n, i) (st3 (g, n, i) v d).L = [v] := by simp [st3, getK, listK]
  refine ⟨_, CallQ.ofH ((k_lList z3 (by simp [st3]) (g, n, i)).mono fun r H' h => ⟨h.2, h.1⟩) rfl, ?_⟩
  rw [g4]
  simp [immI, y2, z1]
  refine ⟨_, CallQ.ofH ((k_lList z3 (by simp [st3]) (g, n, i)).mono fun r H' h => ⟨h.2, h.1⟩) rfl, ?_⟩
  rw [g4]
  simp [immI, y2, z1, intsV]
  have hk3' : keysS (st3 (g, n, i) v d) = [(g, n, i)] := by simp [keysS, st3, setOf, addK, lessK_irr]
  have hc3 : cellsS (st3 (g, n, i) v d) = [((g, n, i), some v, [v], [(d, v)])] := by rw [cellsS, hk3']; simp [st3, cellAt, getK]
  have hct : cntS (st3 (g, n, i) v d) = 3 := rfl
  refine ⟨_, CallQ.ofH ((k_cells (.inl ⟨s, F2, rfl, s2⟩) (by rw [hct]; omega)).mono fun r H' h => ⟨h.2, h.1⟩) rfl, ?_⟩
  rw [hc3]
  simp [immC, y2]
  have hdo2 := k_do0 s2 (by rw [hct]; omega) (ms := [⟨2, g, n, i, 0, 0⟩]) (by simp) (c := some 1)
  rw [do_cut3 (k := (g, n, i)) hK v hd0 hd1] at hdo2
  refine CallK.of hdo2 ?_
  rintro _ H3 ⟨rfl, F3, s3, u3⟩
  have y3 : H3 y = some (.cells [AV.int .i64 g, AV.int .i64 n, AV.int .i64 i] 3) := by rw [u3.1 y yF2 (by rw [y2]; simp)]; exact y2
  have yF3 : ¬ F3 y := fun e => (u3.2 y e).elim yF2 (by rw [y2]; simp)
  have hct3 : cntS (st3b (g, n, i) v d) = 2 := rfl
  have s3' := s3
  obtain ⟨rv, rl, rd, R1, R2, R3, x1, x2, x3, x4, -⟩ := s3'
  simp [y3, x1]
  refine CallQ.ofH ((k_vValue x2 (by simp [st3b]) (g, n, i)).mono fun r H' h => ⟨h.2, h.1⟩) ?_
  have g5 : getK (g, n, i) (st3b (g, n, i) v d).V = none := by simp [st3b, getK]
  rw [g5]
  simp [y3, x1]
  have g6 : listK (g, n, i) (st3b (g, n, i) v d).L = [v] := by simp [st3b, getK, listK]
  refine ⟨_, CallQ.ofH ((k_lList x3 (by simp [st3b]) (g, n, i)).mono fun r H' h => ⟨h.2, h.1⟩) rfl, ?_⟩
  rw [g6]
  simp [immI, y3, x1]
  have g7 : dictK (g, n, i) (st3b (g, n, i) v d).D = [(d, v)] := by simp [st3b, getK, dictK]
  refine ⟨_, CallQ.ofH ((k_dDict x4 (by simp [st3b]) (g, n, i)).mono fun r H' h => ⟨h.2, h.1⟩) rfl, ?_⟩
  rw [g7]
  simp [immF, y3]
  have hdo3 := k_do0 s3 (by rw [hct3]; omega) (ms := [⟨4, g, n, i, 0, 0⟩, ⟨6, g, n, i, d, 0⟩]) (by simp) (c := some 2)
  rw [do_rest3 (k := (g, n, i)) hK v hd0 hd1] at hdo3
  refine CallK.of hdo3 ?_
  rintro _ H4 ⟨rfl, F4, s4, u4⟩
  have hcn : cellsS StT.nil = [] := rfl
  simp
  refine CallK.of (k_cells (.inl ⟨s, F4, rfl, s4⟩) (by decide)) ?_
  rintro _ H5 ⟨rfl, rfl⟩
  rw [hcn]
  simp [immC]
  refine CallK.of k_stNew ?_
  rintro _ H6 ⟨t, Ft, rfl, t1, n1, n2⟩
  have s6 := s4.keep (H' := H6) fun x hx => n1 x (s4.live hx)
  simp
  refine CallK.of (k_eqS (.inl ⟨s, F4, rfl, s6⟩) (.inl ⟨t, Ft, rfl, t1⟩) (by decide) (by decide)) ?_
  rintro _ H7 ⟨rfl, rfl⟩
  rw [(eqS_iff StT.nil StT.nil).2 rfl]
  simp
  refine CallK.of (k_eqS (.inl ⟨s, F4, rfl, s6⟩) (.inr ⟨rfl, rfl⟩) (by decide) (by decide)) ?_
  rintro _ H8 ⟨rfl, rfl⟩
  rw [(eqS_iff StT.nil StT.nil).2 rfl]
  simp
end Go.Proofs.YtcpfodhhjkaibaaGreat
