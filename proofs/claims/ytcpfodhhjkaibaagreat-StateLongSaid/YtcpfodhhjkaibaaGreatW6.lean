/- StateLong. -/
import Derived.Test.YtcpfodhhjkaibaaGreatSB
import Derived.Test.YtcpfodhhjkaibaaGreatCJ
set_option linter.unusedVariables false
set_option linter.unusedSimpArgs false
set_option maxRecDepth 100000
set_option maxHeartbeats 8000000
namespace Go.Sf
theorem Weak.frz {T : Nat → AV} {H : Heap} {d b n c k : Nat} {cs : List AV} (hT : T d = .sl b 0 n c) (hb : H b = some (.cells cs k)) (hnc : n ≤ c) : Weak ⟨T, H⟩ ⟨put T (some d) (.imm cs n none), H.set b none⟩ := by
  intro m M a w h1 h2
  obtain ⟨o, ho, hr⟩ := h2.live _ _ hb
  simp only [BRel] at hr
  obtain ⟨arr, e, fr, rfl, hs, hl, hf, hv⟩ := hr
  obtain ⟨r', f'⟩ := h2.hold hb ho
  refine ⟨_, ⟨h1.1, fun i hi => ?_⟩, r', f'⟩
  simp only [put, tset]
  by_cases hid : i = d
  · subst hid
    rw [if_pos rfl]
    have hx : VRel M (T i) (a.getD i undef) := h1.2 i hi
    rw [hT] at hx
    simp only [VRel] at hx
    rw [hx]
    simp only [VRel]
    refine ⟨some ⟨b, 0, none⟩, arr.toList.take cs.length, c, rfl, fun x h => (by cases h), hnc, fun h => (by cases h), fun y hy => ?_, VRels.mono f'.mle _ _ hv⟩
    cases hy
    refine ⟨fun _ => rfl, fun j u hj => ?_⟩
    rw [List.getElem?_take] at hj
    split at hj
    · simp only [madd, if_true, Nat.zero_add]; exact hj
    · cases hj
  · rw [if_neg hid]
    exact VRel.mono f'.mle _ _ (h1.2 i hi)
theorem Weak.ownS {sz : Nat} {T : Nat → AV} {H : Heap} {d n : Nat} {v : AV} {cs : List AV} (hT : T d = v) (ho : OwnR H sz n v cs) : ∃ H', Weak ⟨T, H⟩ ⟨put T (some d) (.imm cs n none), H'⟩ ∧ ∀ x, blkOf v ≠ some x → H' x = H x := by
  obtain ⟨hl, ⟨rfl, rfl⟩ | ⟨b, c, rfl, hb, hc⟩⟩ := ho
  · have hcs : cs = [] := List.length_eq_zero_iff.1 (by simpa using hl)
    subst hcs
    refine ⟨H, fun m M a w h1 h2 => ⟨M, ⟨h1.1, fun i hi => ?_⟩, h2, .refl _ _ _⟩, fun _ _ => rfl⟩
    simp only [put, tset]
    by_cases hid : i = d
    · subst hid
      rw [if_pos rfl]
      have hx : VRel M (T i) (a.getD i undef) := h1.2 i hi
      rw [hT] at hx
      have := nil_imm hx
      simpa [immB, bytesV] using this
    · rw [if_neg hid]; exact h1.2 i hi
  · exact ⟨_, Weak.frz hT hb hc, fun x hx => Heap.set_ne _ _ (fun h => hx (by rw [h]; rfl))⟩
/-- A row of the call's own, held for good from here on. -/
theorem MarkV.ownS {sz : Nat} {R : AS → (Exit → AS → Prop) → Prop} {Q : Exit → AS → Prop} {T : Nat → AV} {H : Heap} (d : Nat) {n : Nat} {v : AV} {cs : List AV} (hT : T d = v) (ho : OwnR H sz n v cs)
    (h : ∀ H', (∀ x, blkOf v ≠ some x → H' x = H x) → R ⟨put T (some d) (.imm cs n none), H'⟩ Q) : MarkV R ⟨T, H⟩ Q := by
  obtain ⟨H', hw, hk⟩ := Weak.ownS hT ho
  exact ⟨_, hw, h H' hk⟩
end Go.Sf
namespace Go.Proofs.YtcpfodhhjkaibaaGreat
open Go.Sf
attribute [local simp] s_skip s_ops s_draw s_any s_contA s_tdone s_ttwo s_top_p s_top_pick s_top_e s_top_g s_seq s_cond s_block s_loop s_exit s_ret s_mark s_then_n s_then_e s_then_r s_in_n s_in_e s_in_r s_contC s_contO s_contQ s_contT s_nil s_cons_p s_cons_pick s_cons_e s_cons_g s_qnil s_qcons_p s_qcons_pick s_qcons_e s_qcons_g s_M s_Mg s_Mq s_Mqg s_G_p s_G_pick s_G_e s_Gq_p s_Gq_pick s_Gq_e s_if s_call s_callv s_qcall s_qcallv s_getAll_nil s_getAll_cons s_put_some s_put_none s_ev_t s_ev_c s_ev_f un evP evK argT resAV lenOf_nils lenOf_imm lenOf_sl lenOf_str optI slcV binV isShift binInt binStr shiftInt pickV unV s_append s_alloc s_box s_bslice s_Bs_t s_Bs_f s_store1 s_storeN s_St1 s_St s_s2b s_markb s_Mk s_mkslice s_qbslice s_qs2b s_ret_n s_ret_r s_retc_n s_retc_r s_RV_nil s_RV_t s_RV_c s_RV1 tupOf fillC kn_int cl_int on_int kn_bool cl_bool on_bool kn_str cl_str on_str kn_nilp cl_nilp on_nilp kn_ptr cl_ptr on_ptr kn_iptr cl_iptr on_iptr kn_nils cl_nils on_nils kn_sl cl_sl on_sl kn_imm cl_imm on_imm kn_mp cl_mp on_mp kn_nilm cl_nilm on_nilm kn_fn cl_fn on_fn kn_nilf cl_nilf on_nilf kn_agg cl_agg scalEq flatEq eqV s_copy_i s_copy_s s_Cp s_clr s_clrn s_Cl s_appz s_Az s_ext s_Ov s_mapB s_mapBS s_rng s_rngn s_Rn s_nxt s_Nx0 s_ent s_mkmap s_mset s_mdel mapOf s_Mg_n s_Mqg_n s_gw_b s_gw_u s_gw_gb s_gw_f
def pushM (j : Nat) : MutT := ⟨3, 0, 0, 0, 0, j⟩
def clearM : MutT := ⟨4, 0, 0, 0, 0, 0⟩
def stepM (cl : Bool) (j : Nat) : List MutT := if cl = true ∧ j = 60 then [clearM, pushM j] else [pushM j]
def mutsL (cl : Bool) (n : Nat) : List MutT := (List.range n).flatMap (stepM cl)
theorem mutsL_succ (cl : Bool) (n : Nat) : mutsL cl (n + 1) = mutsL cl n ++ stepM cl n := by
  unfold mutsL
  rw [List.range_succ, List.flatMap_append]; simp
theorem mutsL_len (cl : Bool) : ∀ n, (mutsL cl n).length ≤ 2 * n
  | 0 => by simp [mutsL]
  | n + 1 => by
    have := mutsL_len cl n
    rw [mutsL_succ, List.length_append]
    unfold stepM
    split <;> (simp; omega)
def longB (cl : Bool) (n : Nat) : Bool :=
  let r := doS (mutsL cl n) StT.nil
  if cl = true then decide (r.2 = 0) && decide ((listK (0, 0, 0) r.1.L).length + 60 = n) && decide (cntS r.1 < 5)
  else if 100 < n then decide (r.2 = 4) && decide (cntS r.1 = 0)
  else decide (r.2 = 0) && decide ((listK (0, 0, 0) r.1.L).length = n) && decide (cntS r.1 < 5)
theorem long_facts : ∀ d : Fin 12, ∀ cl : Bool, longB cl (95 + d.1) = true := by decide +kernel
def I_sl (F : Nat → Prop) (s y n : Nat) (cl : Bool) (m : Nat) (T : Nat → AV) (H : Heap) : Prop :=
  ∃ (i : Nat) (u : AV), i + m = n ∧ T 0 = .int .i64 n ∧ T 1 = .bool cl ∧ T 6 = .ptr s 0 ∧ T 7 = .ptr y 0 ∧ T 8 = u ∧ T 9 = .int .i64 i ∧ OwnR H 6 (mutsL cl i).length u ((mutsL cl i).flatMap mutCs) ∧
    H y = some (.cells [.int .i64 0, .int .i64 0, .int .i64 0] 3) ∧ StQ H s StT.nil F ∧ ¬ F y ∧ blkOf u ≠ some y ∧ ∀ b, blkOf u = some b → ¬ F b
theorem p_StateLong (n : Int) (hn0 : IntKind.i64.min ≤ n) (hn1 : n ≤ IntKind.i64.max) (cl : Bool) : CP PP F_Rlaw7_StateLong [.int .i64 n, .bool cl] (fun v => v = .bool true) := by
  refine CP.by_vc ok_Rlaw7_StateLong (by simp) ?_
  unfold c_Rlaw7_StateLong
  have b1 : -12 < n.tmod 12 ∧ n.tmod 12 < 12 := tmod_b n 12 (by omega)
  have w1 : IntKind.i64.wrap (n.tmod 12 + 12) = n.tmod 12 + 12 := wrap_i64 (by omega) (by omega)
  have e1 : (n.tmod 12 + 12).tmod 12 = (n.tmod 12 + 12) % 12 := Int.tmod_eq_emod_of_nonneg (by omega)
  obtain ⟨d, hd, hdl⟩ : ∃ d : Nat, (n.tmod 12 + 12).tmod 12 = d ∧ d < 12 := by
    rw [e1]
    obtain ⟨a, ha⟩ := Int.eq_ofNat_of_zero_le (show 0 ≤ (n.tmod 12 + 12) % 12 by omega)
    exact ⟨a, ha, by omega⟩
  have hfacts := long_facts ⟨d, hdl⟩ cl
  simp only at hfacts
  have hk0 : keyN 0 0 0 = (0, 0, 0) := by decide
  have w2 : IntKind.i64.wrap (95 + (d : Int)) = ((95 + d : Nat) : Int) := by rw [wrap_i64 (by omega) (by omega)]; omega
  simp
  refine CallK.pure p_begun7 ?_
  rintro _ rfl
  simp [w1, hd, w2]
  refine CallK.of k_stNew ?_
  rintro _ H1 ⟨s, F, rfl, s1, n1, n2⟩
  simp
  refine CallK.pure (p_key 0 0 0) ?_
  rintro _ rfl
  rw [hk0]
  simp only [k3]
  simp
  intro y hy
  simp [Heap.set_self, Heap.set_set]
  have old2 : ∀ x, H1 x ≠ none → (H1.set y (some (.cells [.int .i64 0, .int .i64 0, .int .i64 0] 3))) x = H1 x := fun x hx => Heap.set_ne _ _ (fun e => hx (by rw [e]; exact hy))
  have s2 := s1.keep fun x hx => old2 x (s1.live hx)
  have yF : ¬ F y := fun e => s1.live e hy
  generalize hN : 95 + d = N at *
  refine LoopV.mk2 (I_sl F s y N cl) N ⟨0, .nils, by omega, (by simp; omega), by simp, by simp, by simp, by simp, by simp, ⟨by simp [mutsL], .inl ⟨rfl, by simp [mutsL]⟩⟩, by simp [Heap.set_self], s2, yF, (fun e => by cases e), (fun b e => by cases e)⟩ ?_
  clear s2 s1 n1 n2 old2 hy
  rintro m T H ⟨i, u, him, t0, t1, t6, t7, t8, t9, hO, hy, hS, -, huy, huF⟩
  have hun := hO.un
  have hll := mutsL_len cl i
  by_cases hi : i < N
  · have hst := mutsL_succ cl i
    have hpc : ∀ H', cellsOf H' 6 (.imm (mutCs (pushM i)) 1 (some 1)) = some (mutCs (pushM i)) := fun H' => by rw [cellsOf_imm]; exact if_pos rfl
    have hcc : ∀ H', cellsOf H' 6 (.imm (mutCs clearM) 1 (some 1)) = some (mutCs clearM) := fun H' => by rw [cellsOf_imm]; exact if_pos rfl
    have again : ∀ (T2 : Nat → AV) (H2 : Heap) (u2 : AV), T2 0 = .int .i64 N → T2 1 = .bool cl → T2 6 = .ptr s 0 → T2 7 = .ptr y 0 → T2 8 = u2 → T2 9 = .int .i64 ((i + 1 : Nat) : Int) → OwnR H2 6 (mutsL cl (i + 1)).length u2 ((mutsL cl (i + 1)).flatMap mutCs) →
        KeepB H H2 (blkOf u) → (∀ b, blkOf u2 = some b → H b = none ∨ blkOf u = some b) → I_sl F s y N cl (m - 1) T2 H2 := by
      intro T2 H2 u2 r0 r1 r6 r7 r8 r9 r10 r11 r12
      refine ⟨i + 1, u2, by omega, r0, r1, r6, r7, r8, r9, r10, ?_, ?_, yF, ?_, ?_⟩
      · rw [r11 y huy (by rw [hy]; simp)]; exact hy
      · exact hS.keep fun x hx => r11 x (fun e => huF x e hx) (hS.live hx)
      · intro e
        rcases r12 y e with h | h
        · rw [hy] at h; cases h
        · exact huy h
      · intro b e hb
        rcases r12 b e with h | h
        · exact hS.live hb h
        · exact huF b h hb
    by_cases h60 : cl = true ∧ i = 60
    · obtain ⟨hcl, rfl⟩ := h60
      have hsm : stepM cl 60 = [clearM, pushM 60] := by unfold stepM; rw [if_pos ⟨hcl, rfl⟩]
      rw [hsm] at hst
      have h60n : (60 : Int) < (N : Int) := by omega
      have t1' : T 1 = .bool true := by rw [t1, hcl]
      simp [t0, t1', t7, t8, t9, hi, hy, hun, h60n]
      refine vcAp_row (bytes := 48) (x := .imm (mutCs clearM) 1 (some 1)) (n := (mutsL cl 60).length) (m := 1) (new := mutCs clearM) (.inl hO) (hcc _) rfl rfl (by omega) rfl (by omega) (.inl (by simp [mutCs])) ?_
      intro u1 H1' g1 g2 g3
      have hun1 := g1.un
      have hy1 : H1' y = some (.cells [.int .i64 0, .int .i64 0, .int .i64 0] 3) := by rw [g2 y huy (by rw [hy]; simp)]; exact hy
      simp [t7, t9, hy1, hun1]
      refine vcAp_row (bytes := 48) (x := .imm (mutCs (pushM 60)) 1 (some 1)) (n := (mutsL cl 60).length + 1) (m := 1) (new := mutCs (pushM 60)) (.inl g1) (hpc _) rfl rfl (by omega) rfl (by omega) (.inl (by simp [mutCs])) ?_
      intro u2 H2 q1 q2 q3
      have hun2 := q1.un
      simp [t9, hun2]
      refine Again2.mk (m - 1) (by omega) (again _ _ u2 (by simp [t0]) (by simp [t1, hcl]) (by simp [t6]) (by simp [t7]) (by simp) (by simp [wrap_i64]) (by rw [hst, List.length_append, List.flatMap_append]; simpa [List.append_assoc] using q1) ?_ ?_)
      · intro x h1 h2
        have h3 := g2 x h1 h2
        have h4 : blkOf u1 ≠ some x := fun e => by
          rcases g3 x e with h | h
          · exact h2 h
          · exact h1 h
        rw [q2 x h4 (by rw [h3]; exact h2), h3]
      · intro b e
        rcases q3 b e with h | h
        · by_cases hb : H b = none
          · exact .inl hb
          · by_cases hb2 : blkOf u = some b
            · exact .inr hb2
            · rw [g2 b hb2 hb] at h; exact .inl h
        · exact g3 b h
    · have hsm : stepM cl i = [pushM i] := by unfold stepM; rw [if_neg h60]
      rw [hsm] at hst
      have fin : ∀ (T2 : Nat → AV) (H2 : Heap) (u2 : AV), OwnR H2 6 ((mutsL cl i).length + 1) u2 ((mutsL cl i).flatMap mutCs ++ mutCs (pushM i)) → OwnR H2 6 (mutsL cl (i + 1)).length u2 ((mutsL cl (i + 1)).flatMap mutCs) := by
        intro T2 H2 u2 q1
        rw [hst, List.length_append, List.flatMap_append]; simpa using q1
      have w9 : IntKind.i64.wrap ((i : Int) + 1) = (i : Int) + 1 := wrap_i64 (by omega) (by omega)
      have h60' : cl = true → ¬ (i : Int) = 60 := fun h e => h60 ⟨h, by omega⟩
      cases cl
      case' true =>
        have h60z := h60' rfl
        simp [t0, t1, t7, t8, t9, hi, hy, hun, h60z]
      case' false =>
        simp [t0, t1, t7, t8, t9, hi, hy, hun]
      all_goals
        refine vcAp_row (x := .imm (mutCs (pushM i)) 1 (some 1)) (m := 1) (new := mutCs (pushM i)) (.inl hO) (hpc _) rfl rfl (by omega) rfl (by omega) (.inl (by simp [mutCs])) ?_
        intro u2 H2 q1 q2 q3
        have hun2 := q1.un
        simp [t9, hun2, w9]
        refine Again2.mk (m - 1) (by omega) (again _ _ u2 (by simp [t0]) (by simp [t1]) (by simp [t6]) (by simp [t7]) (by simp) (by simp) (fin T _ _ q1) q2 q3)
  · simp [t0, t9, hi]
    have hiN : i = N := by omega
    subst hiN
    refine MarkV.ownS (sz := 6) 8 (by simp [t8]) hO ?_
    intro H2 hk2
    have hy2 : H2 y = some (.cells [.int .i64 0, .int .i64 0, .int .i64 0] 3) := by rw [hk2 y huy]; exact hy
    have hS2 := hS.keep (H' := H2) fun x hx => hk2 x (fun e => huF x e hx)
    clear hO hun hk2
    simp [t6]
    have hdo := k_do0 hS2 (by decide) (ms := mutsL cl i) (by omega) (c := none)
    have hfac : longB cl i = true := hfacts
    unfold longB at hfac
    generalize doS (mutsL cl i) StT.nil = r at hdo hfac
    obtain ⟨S, e⟩ := r
    refine CallK.of hdo ?_
    rintro _ H3 ⟨rfl, F3, hS3, u3⟩
    have hy3 : H3 y = some (.cells [.int .i64 0, .int .i64 0, .int .i64 0] 3) := by rw [u3.1 y yF (by rw [hy2]; simp)]; exact hy2
    have hS3' := hS3
    obtain ⟨qv, ql, qd, Q1, Q2, Q3, z1, z2, z3, z4, -⟩ := hS3'
    simp only at hfac z1 z2 z3 z4
    cases cl
    · by_cases h100 : 100 < i
      · have h100z : (100 : Int) < i := by omega
        simp [h100] at hfac
        obtain ⟨rfl, g2⟩ := hfac
        simp [t0, t1, t6, t7, hy3, z1, h100z]
        refine CallK.of (k_cells (.inl ⟨s, F3, rfl, hS3⟩) (by show cntS S < _; omega)) ?_
        rintro _ H4 ⟨rfl, rfl⟩
        have hc0 : cellsS S = [] := by
          obtain ⟨V, L, D⟩ := S
          unfold cntS at g2
          simp at g2
          obtain ⟨⟨rfl, rfl⟩, rfl⟩ := g2
          rfl
        rw [hc0]
        simp [immC]
      · have h100z : ¬ (100 : Int) < i := by omega
        simp [h100] at hfac
        obtain ⟨⟨rfl, g1⟩, g2⟩ := hfac
        unfold cntS at g2
        simp [t0, t1, t6, t7, hy3, z1, h100z]
        refine ⟨_, CallQ.ofH ((k_lList z3 (by omega) (0, 0, 0)).mono fun r H' h => ⟨h.2, h.1⟩) rfl, ?_⟩
        simp [immI, g1, t0]
    · simp at hfac
      obtain ⟨⟨rfl, g1⟩, g2⟩ := hfac
      unfold cntS at g2
      have w60 : IntKind.i64.wrap ((i : Int) - 60) = (i : Int) - 60 := wrap_i64 (by omega) (by omega)
      have g1z : ((listK (0, 0, 0) S.L).length : Int) = (i : Int) - 60 := by omega
      simp [t0, t1, t6, t7, hy3, z1, w60]
      refine ⟨_, CallQ.ofH ((k_lList z3 (by omega) (0, 0, 0)).mono fun r H' h => ⟨h.2, h.1⟩) rfl, ?_⟩
      simp [immI, g1z, t0, w60]
end Go.Proofs.YtcpfodhhjkaibaaGreat
