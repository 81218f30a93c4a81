/- One of each. -/
import Derived.Test.YtdpbbnnlbjgjgaaGreatGS
import Derived.Test.YtdpbbnnlbjgjgaaGreatCD
import Derived.Test.YtdpbbnnlbjgjgaaGreatGX
set_option linter.unusedVariables false
set_option linter.unusedSimpArgs false
set_option maxRecDepth 100000
set_option maxHeartbeats 8000000
namespace Go.Proofs.YtdpbbnnlbjgjgaaGreat
open Go.Sf
attribute [local simp] s_skip s_ops s_draw s_any s_contA s_tdone s_ttwo s_top_p s_top_pick s_top_e s_top_g s_seq s_cond s_block s_loop s_exit s_ret s_mark s_then_n s_then_e s_then_r s_in_n s_in_e s_in_r s_contC s_contO s_contQ s_contT s_nil s_cons_p s_cons_pick s_cons_e s_cons_g s_qnil s_qcons_p s_qcons_pick s_qcons_e s_qcons_g s_M s_Mg s_Mq s_Mqg s_G_p s_G_pick s_G_e s_Gq_p s_Gq_pick s_Gq_e s_if s_call s_callv s_qcall s_qcallv s_getAll_nil s_getAll_cons s_put_some s_put_none s_ev_t s_ev_c s_ev_f un evP evK argT resAV lenOf_nils lenOf_imm lenOf_sl lenOf_str optI slcV binV isShift binInt binStr shiftInt pickV unV s_append s_alloc s_box s_bslice s_Bs_t s_Bs_f s_store1 s_storeN s_St1 s_St s_s2b s_markb s_Mk s_mkslice s_qbslice s_qs2b s_ret_n s_ret_r s_retc_n s_retc_r s_RV_nil s_RV_t s_RV_c s_RV1 tupOf fillC kn_int cl_int on_int kn_bool cl_bool on_bool kn_str cl_str on_str kn_nilp cl_nilp on_nilp kn_ptr cl_ptr on_ptr kn_iptr cl_iptr on_iptr kn_nils cl_nils on_nils kn_sl cl_sl on_sl kn_imm cl_imm on_imm kn_mp cl_mp on_mp kn_nilm cl_nilm on_nilm kn_fn cl_fn on_fn kn_nilf cl_nilf on_nilf kn_agg cl_agg scalEq flatEq eqV s_copy_i s_copy_s s_Cp s_clr s_clrn s_Cl s_appz s_Az s_ext s_Ov s_mapB s_mapBS s_rng s_rngn s_Rn s_nxt s_Nx0 s_ent s_mkmap s_mset s_mdel mapOf s_Mg_n s_Mqg_n s_gw_b s_gw_u s_gw_gb s_gw_f
theorem p_Begun : CP PP F_Rlaw1_Begun [] (fun v => v = .bool true) := by
  refine CP.by_vc ok_Rlaw1_Begun (by simp) ?_
  unfold c_Rlaw1_Begun
  simp
  refine CallK.pure p_begun ?_
  rintro _ rfl
  simp
/-- An object that others leave alone. -/
theorem keepO {G G' F : Nat → Prop} {H H' : Heap} (h : UpdF G G' H H') (hd : ∀ x, F x → ¬ G x) (hl : ∀ x, F x → H x ≠ none) : (∀ x, F x → H' x = H x) ∧ ∀ x, F x → ¬ G' x :=
  ⟨fun x hx => h.1 x (hd x hx) (hl x hx), fun x hx hg => (h.2 x hg).elim (hd x hx) (hl x hx)⟩
def mutA : MutT := ⟨1, 1, 0, 5, 0, 4⟩
def mutB : MutT := ⟨3, 1, 0, 5, 0, 6⟩
def stB : StT := ⟨[((1, 0, 5), 4)], [((1, 0, 5), [6])], []⟩
theorem doB : doS [mutA, mutB] StT.nil = (stB, 0) := by
  have h : (doS [mutA, mutB] StT.nil).1.V = stB.V ∧ (doS [mutA, mutB] StT.nil).1.L = stB.L ∧ (doS [mutA, mutB] StT.nil).1.D = stB.D ∧ (doS [mutA, mutB] StT.nil).2 = 0 := by decide
  obtain ⟨h1, h2, h3, h4⟩ := h
  refine Prod.ext ?_ h4
  cases hd : (doS [mutA, mutB] StT.nil).1
  rw [hd] at h1 h2 h3
  simp only [stB] at h1 h2 h3 ⊢
  rw [h1, h2, h3]
theorem p_begun7 : CP PP F_Rlaw7_begun [] (fun v => v = .bool true) := by
  refine CP.by_vc ok_Rlaw7_begun (by simp) ?_
  unfold c_Rlaw7_begun
  simp
  refine CallK.of k_vNew ?_
  rintro _ H1 ⟨p1, rfl, hp1, hH1⟩
  simp
  refine CallK.of k_lNew ?_
  rintro _ H2 ⟨p2, rfl, hp2, hH2⟩
  simp
  refine CallK.of k_dNew ?_
  rintro _ H3 ⟨p3, rfl, hp3, hH3⟩
  simp
  refine CallK.of k_stNew ?_
  rintro _ H4 ⟨s, Fs, rfl, hS, hS2, hS3⟩
  have n21 : p2 ≠ p1 := fun e => by rw [e, hH1, Heap.set_self] at hp2; cases hp2
  have n32 : p3 ≠ p2 := fun e => by rw [e, hH2, Heap.set_self] at hp3; cases hp3
  have h3p1 : H3 p1 = some (.cells [.nils] 1) := by
    have n31 : p3 ≠ p1 := fun e => by rw [e, hH2, Heap.set_ne _ _ (Ne.symm n21), hH1, Heap.set_self] at hp3; cases hp3
    rw [hH3, Heap.set_ne _ _ (Ne.symm n31), hH2, Heap.set_ne _ _ (Ne.symm n21), hH1, Heap.set_self]
  have n31 : p3 ≠ p1 := fun e => by rw [e, hH2, Heap.set_ne _ _ (Ne.symm n21), hH1, Heap.set_self] at hp3; cases hp3
  have h3p2 : H3 p2 = some (.cells [.nils] 1) := by rw [hH3, Heap.set_ne _ _ (Ne.symm n32), hH2, Heap.set_self]
  have h3p3 : H3 p3 = some (.cells [.nils] 1) := by rw [hH3, Heap.set_self]
  have v4 : ValQ H4 p1 [] (fun x => x = p1) := ⟨.nils, by rw [hS2 p1 (by rw [h3p1]; simp)]; exact h3p1, ⟨rfl, .inl ⟨rfl, rfl⟩⟩, (fun e => by cases e), .nil, fun x => by simp [blkOf]⟩
  have l4 : LstQ H4 p2 [] (fun x => x = p2) := ⟨.nils, by rw [hS2 p2 (by rw [h3p2]; simp)]; exact h3p2, ⟨rfl, .inl ⟨rfl, rfl⟩⟩, (fun e => by cases e), okL_nil, fun x => by simp [blkOf]⟩
  have d4 : DicQ H4 p3 [] (fun x => x = p3) := ⟨[], .nils, rfl, ⟨by rw [hS2 p3 (by rw [h3p3]; simp)]; exact h3p3, ⟨rfl, .inl ⟨rfl, rfl⟩⟩, (fun e => by cases e), (fun q hq => by cases hq), (fun q hq => by cases hq), .nil⟩, okD_nil, fun x => by simp [dicF, blkOf]⟩
  have dsv : ∀ x, Fs x → ¬ x = p1 := fun x hx e => by have := hS3 x hx; rw [e, h3p1] at this; cases this
  have dsl : ∀ x, Fs x → ¬ x = p2 := fun x hx e => by have := hS3 x hx; rw [e, h3p2] at this; cases this
  have dsd : ∀ x, Fs x → ¬ x = p3 := fun x hx e => by have := hS3 x hx; rw [e, h3p3] at this; cases this
  clear hH1 hH2 hH3 hp1 hp2 hp3 hS2 hS3 h3p1 h3p2 h3p3
  have h1s : ∃ pv pl pd, H4 s = some (.cells [.ptr pv 0, .ptr pl 0, .ptr pd 0] 3) := by obtain ⟨pv, pl, pd, _, _, _, h, _⟩ := hS; exact ⟨pv, pl, pd, h⟩
  obtain ⟨pv, pl, pd, j1⟩ := h1s
  simp [j1]
  refine CallK.pure (p_key 1 0 5) ?_
  rintro _ rfl
  have hkey : keyN 1 0 5 = (1, 0, 5) := by decide
  rw [hkey]
  obtain ⟨k, hk⟩ : ∃ k : K3T, k = (1, 0, 5) := ⟨_, rfl⟩
  rw [← hk]
  have hk3 : (k3 k).length = 3 := rfl
  have hkone : ∀ x, x ∈ k3 k → x.one = true := fun x hx => List.all_eq_true.1 (show (k3 k).all AV.one = true from rfl) x hx
  simp
  intro y hy
  simp [Heap.set_self, Heap.set_set, hk3]
  refine ⟨hkone, ?_⟩
  have old5 : ∀ x, H4 x ≠ none → (H4.set y (some (.cells (k3 k) 3))) x = H4 x := fun x hx => Heap.set_ne _ _ (fun e => hx (by rw [e]; exact hy))
  have y5 : (H4.set y (some (.cells (k3 k) 3))) y = some (.cells (k3 k) 3) := Heap.set_self _ _ _
  have v5 := v4.keep (H' := H4.set y (some (.cells (k3 k) 3))) fun x hx => old5 x (v4.live hx)
  have l5 := l4.keep (H' := H4.set y (some (.cells (k3 k) 3))) fun x hx => old5 x (l4.live hx)
  have d5 := d4.keep (H' := H4.set y (some (.cells (k3 k) 3))) fun x hx => old5 x (d4.live hx)
  have s5 := hS.keep (H' := H4.set y (some (.cells (k3 k) 3))) fun x hx => old5 x (hS.live hx)
  have yv : ¬ y = p1 := fun e => v4.live (x := y) e hy
  have yl : ¬ y = p2 := fun e => l4.live (x := y) e hy
  have yd : ¬ y = p3 := fun e => d4.live (x := y) e hy
  have ys : ¬ Fs y := fun e => hS.live e hy
  generalize H4.set y (some (.cells (k3 k) 3)) = H5 at *
  clear old5 v4 l4 d4 hy
  simp [y5, tk3, hk3]
  refine CallK.of (k_vSet v5 (by simp) k 7) ?_
  rintro _ H6 ⟨rfl, F1, v6, u6⟩
  have kl := keepO u6 (F := fun x => x = p2) (fun x hx e => n21 (by rw [← hx, e])) (fun x hx => l5.live hx)
  have kd := keepO u6 (F := fun x => x = p3) (fun x hx e => n31 (by rw [← hx, e])) (fun x hx => d5.live hx)
  have ks := keepO u6 (F := Fs) dsv (fun x hx => s5.live hx)
  have l6 := l5.keep kl.1
  have d6 := d5.keep kd.1
  have s6 := s5.keep ks.1
  have y6 : H6 y = some (.cells (k3 k) 3) := by rw [u6.1 y yv (by rw [y5]; simp)]; exact y5
  simp [y6, tk3, hk3]
  refine CallK.of (k_vValue v6 (by have := length_upd k 7 ([] : CellsK Int); simp at this; omega) k) ?_
  rintro _ H6' ⟨rfl, rfl⟩
  have g7 : getK k (updK k 7 ([] : CellsK Int)) = some 7 := by rw [hk]; decide
  rw [g7]
  simp [y6, tk3, hk3]
  refine CallK.of (k_lPush l6 (by simp) k (ns := [1, 2]) (.inr ⟨_, rfl⟩) (by simp)) ?_
  rintro _ H7 ⟨rfl, F2, l7, u7⟩
  have kd7 := keepO u7 (F := fun x => x = p3) (fun x hx e => n32 (by rw [← hx, e])) (fun x hx => d6.live hx)
  have ks7 := keepO u7 (F := Fs) dsl (fun x hx => s6.live hx)
  have d7 := d6.keep kd7.1
  have s7 := s6.keep ks7.1
  have y7 : H7 y = some (.cells (k3 k) 3) := by rw [u7.1 y yl (by rw [y6]; simp)]; exact y6
  have yF2 : ¬ F2 y := fun e => (u7.2 y e).elim yl (by rw [y6]; simp)
  have pP : (pushL k [1, 2] ([] : CellsK (List Int))).2 = 0 := by rw [hk]; decide
  have pL : listK k (pushL k [1, 2] ([] : CellsK (List Int))).1 = [1, 2] := by rw [hk]; decide
  rw [pP]
  simp [y7, tk3, hk3]
  refine CallK.of (k_dPut d7 (by simp) k 3 9) ?_
  rintro _ H8 ⟨rfl, F3, d8, u8⟩
  have kl8 := keepO u8 (F := F2) (fun x hx e => kd7.2 x e hx) (fun x hx => l7.live hx)
  have ks8 := keepO u8 (F := Fs) dsd (fun x hx => s7.live hx)
  have l8 := l7.keep kl8.1
  have s8 := s7.keep ks8.1
  have y8 : H8 y = some (.cells (k3 k) 3) := by rw [u8.1 y yd (by rw [y7]; simp)]; exact y7
  have yF3 : ¬ F3 y := fun e => (u8.2 y e).elim yd (by rw [y7]; simp)
  have pD : (putD k 3 9 ([] : CellsK FieldsL)).2 = 0 := by rw [hk]; decide
  have pE : dictK k (putD k 3 9 ([] : CellsK FieldsL)).1 = [(3, 9)] := by rw [hk]; decide
  rw [pD]
  simp [y8, tk3, hk3]
  have hdo := k_do0 s8 (by decide) (ms := [mutA, mutB]) (by simp) (c := some 2)
  rw [doB] at hdo
  subst hk
  refine CallK.of hdo ?_
  rintro _ H9 ⟨rfl, F4, s9, u9⟩
  have kl9 := keepO u9 (F := F2) (fun x hx e => ks8.2 x e (by
    exact absurd hx (fun hx => ks7.2 x e hx))) (fun x hx => l8.live hx)
  have kd9 := keepO u9 (F := F3) (fun x hx e => ks8.2 x e hx) (fun x hx => d8.live hx)
  have l9 := l8.keep kl9.1
  have d9 := d8.keep kd9.1
  have y9 : H9 y = some (.cells (k3 (1, 0, 5)) 3) := by rw [u9.1 y ys (by rw [y8]; simp)]; exact y8
  have s9' := s9
  obtain ⟨qv, ql, qd, Q1, Q2, Q3, w1, w2, w3, w4, -⟩ := s9'
  simp [y9, tk3, hk3, w1]
  refine CallQ.ofH ((k_vValue w2 (by decide) (1, 0, 5)).mono fun r H' h => ⟨h.2, h.1⟩) ?_
  have gB : getK (1, 0, 5) stB.V = some 4 := by decide
  rw [gB]
  simp [y9, tk3, hk3, w1]
  refine CallK.of (k_cells (.inl ⟨s, F4, rfl, s9⟩) (by decide)) ?_
  rintro _ H10 ⟨rfl, rfl⟩
  have huc : ∀ l, un (immC l) = (True, immC l) := fun _ => rfl
  simp [huc]
  refine CallK.pure p_Begun ?_
  rintro _ rfl
  simp [y9, tk3, hk3]
  have cl : ∀ (x : Nat), x < 2 → x < 2 ^ 29 := fun x h => by omega
  have len1 := length_push (1, 0, 5) [1, 2] ([] : CellsK (List Int))
  have len2 := length_put (1, 0, 5) 3 9 ([] : CellsK FieldsL)
  simp only [List.length_nil] at len1 len2
  refine CallK.of (k_lList l9 (by omega) (1, 0, 5)) ?_
  rintro _ H11 ⟨rfl, rfl⟩
  rw [pL]
  simp [immI, y9, tk3, hk3]
  refine CallK.of (k_dDict d9 (by omega) (1, 0, 5)) ?_
  rintro _ H11 ⟨rfl, rfl⟩
  rw [pE]
  simp [immF, y9, tk3, hk3, w1]
  have e2 : listK (1, 0, 5) stB.L = [6] := by decide
  have hcs : cellsS stB = [((1, 0, 5), some 4, [6], [])] := by decide
  rw [hcs]
  repeat' (refine And.intro ?_ ?_)
  all_goals
    refine CallK.of (k_lList w3 (by decide) (1, 0, 5)) ?_
    rintro _ H11 ⟨rfl, rfl⟩
    rw [e2]
    have e3 : (encC ((1, 0, 5), some 4, [6], []))[3]? = some (.bool true) := rfl
    simp [immI, immC, e3]
    refine CallK.of (k_copy (.inl ⟨s, F4, rfl, s9⟩) (by decide)) ?_
    rintro _ H12 ⟨t, Ft, rfl, c1, c2, c3⟩
    have s12 := s9.keep (H' := H12) fun x hx => c2 x (s9.live hx)
    simp
    refine CallK.of (k_eqS (.inl ⟨s, F4, rfl, s12⟩) (.inl ⟨t, Ft, rfl, c1⟩) (by decide) (by decide)) ?_
    rintro _ H13 ⟨rfl, rfl⟩
    rw [(eqS_iff stB stB).2 rfl]
    simp
    refine CallK.of k_stNew ?_
    rintro _ H14 ⟨t2, Ft2, rfl, c4, c5, c6⟩
    have s14 := s12.keep (H' := H14) fun x hx => c5 x (s12.live hx)
    simp
    refine CallK.of (k_eqS (.inl ⟨s, F4, rfl, s14⟩) (.inl ⟨t2, Ft2, rfl, c4⟩) (by decide) (by decide)) ?_
    rintro _ H15 ⟨rfl, rfl⟩
    rw [show eqS stB StT.nil = false by decide]
    simp
end Go.Proofs.YtdpbbnnlbjgjgaaGreat
