/- Keys of a state: put behind one another. Keys in order, those told twice left out. Cells compared. A state made; its cells; two states compared. States compared; one change done. Changes done, all or none. Cells put; a state copied. A state copied. Keys of numbers. -/
import Derived.Test.YtdpbbnnlbjgjgaaGreatCB
import Derived.Test.YtdpbbnnlbjgjgaaGreatGV
import Derived.Test.YtdpbbnnlbjgjgaaGreatGQ
import Derived.Test.YtdpbbnnlbjgjgaaGreatN7
import Derived.Test.YtdpbbnnlbjgjgaaGreatLM
import Derived.Test.YtdpbbnnlbjgjgaaGreatCE
import Derived.Test.YtdpbbnnlbjgjgaaGreatGK
set_option linter.unusedVariables false
set_option linter.unusedSimpArgs false
set_option maxRecDepth 100000
set_option maxHeartbeats 4000000
open Go.Sf
attribute [local simp] s_skip s_ops s_draw s_any s_contA s_tdone s_ttwo s_top_p s_top_pick s_top_e s_top_g s_seq s_cond s_block s_loop s_exit s_ret s_mark s_then_n s_then_e s_then_r s_in_n s_in_e s_in_r s_contC s_contO s_contQ s_contT s_nil s_cons_p s_cons_pick s_cons_e s_cons_g s_qnil s_qcons_p s_qcons_pick s_qcons_e s_qcons_g s_M s_Mg s_Mq s_Mqg s_G_p s_G_pick s_G_e s_Gq_p s_Gq_pick s_Gq_e s_if s_call s_callv s_qcall s_qcallv s_getAll_nil s_getAll_cons s_put_some s_put_none s_ev_t s_ev_c s_ev_f un evP evK argT resAV lenOf_nils lenOf_imm lenOf_sl lenOf_str optI slcV binV isShift binInt binStr shiftInt pickV unV s_append s_alloc s_box s_bslice s_Bs_t s_Bs_f s_store1 s_storeN s_St1 s_St s_s2b s_markb s_Mk s_mkslice s_qbslice s_qs2b s_ret_n s_ret_r s_retc_n s_retc_r s_RV_nil s_RV_t s_RV_c s_RV1 tupOf fillC kn_int cl_int on_int kn_bool cl_bool on_bool kn_str cl_str on_str kn_nilp cl_nilp on_nilp kn_ptr cl_ptr on_ptr kn_iptr cl_iptr on_iptr kn_nils cl_nils on_nils kn_sl cl_sl on_sl kn_imm cl_imm on_imm kn_mp cl_mp on_mp kn_nilm cl_nilm on_nilm kn_fn cl_fn on_fn kn_nilf cl_nilf on_nilf kn_agg cl_agg scalEq flatEq eqV s_copy_i s_copy_s s_Cp s_clr s_clrn s_Cl s_appz s_Az s_ext s_Ov s_mapB s_mapBS s_rng s_rngn s_Rn s_nxt s_Nx0 s_ent s_mkmap s_mset s_mdel mapOf s_Mg_n s_Mqg_n s_gw_b s_gw_u s_gw_gb s_gw_f
namespace Go.Proofs.YtdpbbnnlbjgjgaaGreat
open Go.Sf
def keysI (ks : List K3T) : AV := .imm (ks.flatMap k3) ks.length none
theorem k3s_length (ks : List K3T) : (ks.flatMap k3).length = ks.length * 3 := fm_length (k := 3) (fun _ => rfl) ks
theorem k3s_one (ks : List K3T) : (ks.flatMap k3).all AV.one = true := fm_one (enc := k3) (fun _ => rfl) ks
theorem k_grow {H : Heap} (n : Nat) (hn : n ≤ 2 ^ 40) : CC PP F_slices_Grow_api_Key_api_Key [.nils, .int .i64 n] H fun v H' => OwnR H' 3 0 v [] ∧ (∀ x, H x ≠ none → H' x = H x) ∧ ∀ x, blkOf v = some x → H x = none := by
  have w0 : IntKind.i64.wrap (0 : Int) = 0 := by rw [wrap_i64 (by omega) (by omega)]
  by_cases h0 : n = 0
  · subst h0
    refine CC.by_vc ok_slices_Grow_api_Key_api_Key (by simp) ?_
    unfold c_slices_Grow_api_Key_api_Key
    have fin : OwnR H 3 0 .nils [] ∧ (∀ x, H x ≠ none → H x = H x) ∧ ∀ x, blkOf .nils = some x → H x = none := ⟨⟨rfl, .inl ⟨rfl, rfl⟩⟩, fun _ _ => rfl, fun x hx => by cases hx⟩
    simp [w0]
    exact ⟨fin.1, fin.2.2⟩
  · have main : CC PP F_slices_Grow_api_Key_api_Key [.nils, .int .i64 n] H fun v H' => ∃ b c vs, H b = none ∧ v = .sl b 0 0 c ∧ H' = H.set b (some (.cells vs (c * 3))) := by
      refine CC.by_vc ok_slices_Grow_api_Key_api_Key (by simp) ?_
      unfold c_slices_Grow_api_Key_api_Key
      have w2 : IntKind.i64.wrap (n : Int) = n := wrap_i64 (by omega) (by omega)
      have hpos : (0 : Int) < n := by omega
      have hneg : ¬ (n : Int) < 0 := by omega
      have hpn : 0 < n := by omega
      simp [w0, w2, hpos, hneg, hpn, s_appzn]
      refine ⟨by omega, fun b' c' hb' hc' => ?_⟩
      exact ⟨b', hb', c', ⟨rfl, rfl⟩, _, rfl⟩
    refine main.trim ?_
    rintro v H' ⟨b, c, vs, hb, rfl, rfl⟩
    refine ⟨b, vs, c * 3, 0, Heap.set_self _ _ _, ?_⟩
    rw [Heap.set_set]
    exact ⟨⟨rfl, .inr ⟨b, c, rfl, by rw [Heap.set_self]; simp, Nat.zero_le _⟩⟩, fun x hx => Heap.set_ne _ _ (fun e => hx (by rw [e]; exact hb)), fun x hx => by cases hx; exact hb⟩
def concI (kss : List (List K3T)) : AV := .imm (kss.map keysI) kss.length (some kss.length)
def I_cc1 (H0 : Heap) (kss : List (List K3T)) (m : Nat) (T : Nat → AV) (H : Heap) : Prop :=
  ∃ i : Nat, i + m = kss.length ∧ T 0 = concI kss ∧ T 9 = concI kss ∧ T 10 = .int .i64 kss.length ∧ T 11 = .int .i64 i ∧ T 3 = .int .i64 ((kss.take i).flatten.length : Nat) ∧ H = H0
def I_cc2 (H0 : Heap) (kss : List (List K3T)) (m : Nat) (T : Nat → AV) (H : Heap) : Prop :=
  ∃ (i : Nat) (u : AV), i + m = kss.length ∧ T 25 = concI kss ∧ T 26 = .int .i64 kss.length ∧ T 27 = .int .i64 i ∧ T 6 = u ∧ OwnR H 3 (kss.take i).flatten.length u ((kss.take i).flatten.flatMap k3) ∧ (∀ x, H0 x ≠ none → H x = H0 x) ∧ ∀ x, blkOf u = some x → H0 x = none
theorem k_concat {H : Heap} (kss : List (List K3T)) {F : List K3T} (hF : kss.flatten = F) (hn : kss.length ≤ 2 ^ 20) (ht : F.length ≤ 2 ^ 40) :
    CC PP F_slices_Concat_api_Key_api_Key [concI kss] H fun v H' => OwnR H' 3 F.length v (F.flatMap k3) ∧ (∀ x, H x ≠ none → H' x = H x) ∧ ∀ x, blkOf v = some x → H x = none := by
  refine CC.by_vc ok_slices_Concat_api_Key_api_Key (by simp) ?_
  unfold c_slices_Concat_api_Key_api_Key
  have hfl : ∀ i, (kss.take i).flatten.length ≤ F.length := fun i => by
    rw [← hF]
    have := congrArg List.length (congrArg List.flatten (List.take_append_drop i kss))
    rw [List.flatten_append, List.length_append] at this; omega
  have hml : (kss.map keysI).length = kss.length := by simp
  simp [concI]
  refine LoopV.mk2 (I_cc1 H kss) kss.length ⟨0, by omega, by simp [concI], by simp [concI], by simp, by simp, by simp, rfl⟩ ?_
  rintro m T H2 ⟨i, him, t0, t9, t10, t11, t3, rfl⟩
  by_cases hi : i < kss.length
  · obtain ⟨q, hqe⟩ : ∃ q, kss[i] = q := ⟨_, rfl⟩
    have hq : kss[i]? = some q := by rw [List.getElem?_eq_getElem hi, hqe]
    have hkq : keysI q = .imm (q.flatMap k3) q.length none := rfl
    have htk : (kss.take (i + 1)).flatten.length = (kss.take i).flatten.length + q.length := by rw [List.take_add_one, hq]; simp
    have hb1 := hfl (i + 1)
    have w1 : IntKind.i64.wrap (((kss.take i).flatten.length : Int) + (q.length : Int)) = (((kss.take (i + 1)).flatten.length : Nat) : Int) := by rw [wrap_i64 (by omega) (by omega)]; omega
    generalize (kss.take i).flatten.length = a at *
    simp only [concI] at t9 t0
    simp [t0, t9, t10, t11, t3, hi, hqe, hkq, w1]
    refine ⟨fun h => absurd h (by omega), Again2.mk (m - 1) (by omega) ⟨i + 1, by omega, by simp [t0, concI], by simp [t9, concI], by simp [t10], ?_, ?_, rfl⟩⟩
    · simp; rw [wrap_i64 (by omega) (by omega)]
    · simp
  · have hie : i = kss.length := by omega
    subst hie
    rw [List.take_length] at t3
    rw [hF] at t3
    simp only [concI] at t9 t0
    simp [t0, t9, t10, t11, t3]
    refine CallK.of (k_grow F.length ht) ?_
    intro u H3 ⟨g1, g2, g3⟩
    have hung := g1.un
    simp [hung, t0]
    refine LoopV.mk2 (I_cc2 H2 kss) kss.length ⟨0, u, by omega, by simp [t0, concI], by simp, by simp, by simp, by simpa using g1, g2, g3⟩ ?_
    rintro m2 T2 H4 ⟨i, u2, him2, t25, t26, t27, t6, hO, hold, hfr⟩
    have hun2 := hO.un
    simp only [concI] at t25
    by_cases hi : i < kss.length
    · obtain ⟨q, hqe⟩ : ∃ q, kss[i] = q := ⟨_, rfl⟩
      have hq : kss[i]? = some q := by rw [List.getElem?_eq_getElem hi, hqe]
      have hkq : keysI q = .imm (q.flatMap k3) q.length none := rfl
      have htk : (kss.take (i + 1)).flatten = (kss.take i).flatten ++ q := by rw [List.take_add_one, hq]; simp
      have hb1 := hfl (i + 1)
      rw [htk, List.length_append] at hb1
      have hqc : cellsOf H4 3 (.imm (q.flatMap k3) q.length none) = some (q.flatMap k3) := by rw [cellsOf_imm]; exact if_pos (k3s_length q)
      have hk3q := k3s_length q
      have hoq := k3s_one q
      have hbd : ((kss.take i).flatten.length + q.length) * 24 ≤ 140737488355328 := by omega
      have goal : ∀ (K : AS → Prop) (d : Option Nat) (T : Nat → AV), (∀ v' H', OwnR H' 3 (kss.take (i + 1)).flatten.length v' ((kss.take (i + 1)).flatten.flatMap k3) → KeepB H4 H' (blkOf u2) → (∀ b, blkOf v' = some b → H4 b = none ∨ blkOf u2 = some b) → K ⟨put T d v', H'⟩) →
          vcAp false 3 24 (appOld H4 3 u2) (cellsOf H4 3 (.imm (q.flatMap k3) q.length none)) (lenOf u2) (some q.length) u2 d T H4 K := fun K d T h =>
        vcAp_row (n := (kss.take i).flatten.length) (m := q.length) (.inl hO) hqc rfl hk3q (by omega) hoq hbd (.inr hO) fun v' H' h1 h2 h3 => h v' H' (by rw [htk, List.length_append, List.flatMap_append]; exact h1) h2 h3
      generalize q.flatMap k3 = Q at *
      simp [t25, t26, t27, t6, hi, hqe, hkq, hun2]
      refine goal _ _ _ ?_
      intro v3 H5 k1 k2 k3'
      have hun3 := k1.un
      simp [hun3, t27]
      refine Again2.mk (m2 - 1) (by omega) ⟨i + 1, v3, by omega, by simp [t25, concI], by simp [t26], ?_, by simp, k1, fun x hx => ?_, fun b hb => ?_⟩
      · simp; rw [wrap_i64 (by omega) (by omega)]
      · rw [k2 x (fun e => hx (hfr x e)) (by rw [hold x hx]; exact hx)]; exact hold x hx
      · rcases k3' b hb with h | h
        · refine Classical.byContradiction fun hn => ?_
          rw [hold b hn] at h; exact hn h
        · exact hfr b h
    · have hie : i = kss.length := by omega
      subst hie
      rw [List.take_length] at hO
      rw [hF] at hO
      simp [t25, t26, t27, t6, hun2]
      exact ⟨hO, hold, hfr⟩
end Go.Proofs.YtdpbbnnlbjgjgaaGreat
set_option linter.unusedVariables false
set_option linter.unusedSimpArgs false
set_option maxRecDepth 100000
set_option maxHeartbeats 4000000
namespace Go.Proofs.YtdpbbnnlbjgjgaaGreat
open Go.Sf
theorem set_take {α : Type} {C : List α} {k : Nat} {y : α} (h : k < C.length) : (C.set k y).take (k + 1) = C.take k ++ [y] := by
  apply List.ext_getElem?
  intro i
  rw [List.getElem?_take]
  rcases Nat.lt_trichotomy i k with hi | hi | hi
  · rw [if_pos (by omega), List.getElem?_set_ne (by omega), List.getElem?_append_left (by rw [List.length_take]; omega), List.getElem?_take, if_pos hi]
  · subst hi
    rw [if_pos (by omega), List.getElem?_set_self h, List.getElem?_append_right (by rw [List.length_take]; omega), List.length_take, Nat.min_eq_left (by omega), Nat.sub_self]; rfl
  · rw [if_neg (by omega)]
    symm; apply List.getElem?_eq_none
    rw [List.length_append, List.length_take]; simp; omega
theorem set_drop {α : Type} {C : List α} {k j : Nat} {y : α} (h : k < j) : (C.set k y).drop j = C.drop j := by
  apply List.ext_getElem?
  intro i
  rw [List.getElem?_drop, List.getElem?_drop, List.getElem?_set_ne (by omega)]
theorem k3_at {C : List K3T} {i : Nat} {x : K3T} (h : C[i]? = some x) : ((C.flatMap k3).drop (i * 3)).take 3 = k3 x ∧ i * 3 + 3 ≤ (C.flatMap k3).length := fm_at (k := 3) (fun _ => rfl) h
def I_cp1 (H0 : Heap) (b c : Nat) (ks : List K3T) (m : Nat) (T : Nat → AV) (H : Heap) : Prop :=
  ∃ j : Nat, j + m = ks.length ∧ 1 ≤ j ∧ T 0 = .sl b 0 ks.length c ∧ T 3 = .int .i64 j ∧ dedupK (ks.take j) = ks.take j ∧ H = H0
def I_cp2 (H0 : Heap) (b c j : Nat) (ks : List K3T) (m : Nat) (T : Nat → AV) (H : Heap) : Prop :=
  ∃ (q k : Nat) (C : List K3T), j + q + m = ks.length ∧ 1 ≤ q ∧ C.length = ks.length ∧ k = (dedupK (ks.take (j + q))).length ∧ k + 1 ≤ j + q ∧ C.take k = dedupK (ks.take (j + q)) ∧ C.drop (j + q - 1) = ks.drop (j + q - 1) ∧
    H = H0.set b (some (.cells (C.flatMap k3) (c * 3))) ∧ T 0 = .sl b 0 ks.length c ∧ T 3 = .int .i64 k ∧ T 4 = .sl b (j * 3) (ks.length - j) (c - j) ∧ T 5 = .int .i64 q
theorem k_compact {H : Heap} {v : AV} {ks : List K3T} (ho : OwnR H 3 ks.length v (ks.flatMap k3)) (hn : ks.length < 2 ^ 40) :
    CC PP F_slices_Compact_api_Key_api_Key [v] H fun r H' => OwnR H' 3 (dedupK ks).length r ((dedupK ks).flatMap k3) ∧ KeepB H H' (blkOf v) ∧ ∀ x, blkOf r = some x → blkOf v = some x := by
  by_cases hs : ks.length < 2
  · have hd : dedupK ks = ks := by
      cases ks with
      | nil => rfl
      | cons x l => cases l with
        | nil => rfl
        | cons y l => simp only [List.length_cons] at hs; omega
    rw [hd]
    refine CC.by_vc ok_slices_Compact_api_Key_api_Key (by simp) ?_
    unfold c_slices_Compact_api_Key_api_Key
    have hsz : (ks.length : Int) < 2 := by omega
    have ho' := ho
    obtain ⟨_, ⟨rfl, h0⟩ | ⟨b, c, rfl, hb, hc⟩⟩ := ho
    · simp
      exact ⟨ho', fun _ _ _ => rfl⟩
    · simp [hsz]
      exact ⟨ho', fun _ _ _ => rfl⟩
  · obtain ⟨b, c, rfl, hb, hc⟩ := ho.slOf (by omega)
    have hsz : ¬ (ks.length : Int) < 2 := by omega
    have main : CC PP F_slices_Compact_api_Key_api_Key [.sl b 0 ks.length c] H fun r H' => ∃ vs, r = .sl b 0 (dedupK ks).length c ∧ H' = H.set b (some (.cells vs (c * 3))) ∧ vs.take ((dedupK ks).length * 3) = (dedupK ks).flatMap k3 := by
      refine CC.by_vc ok_slices_Compact_api_Key_api_Key (by simp) ?_
      unfold c_slices_Compact_api_Key_api_Key
      simp [hsz]
      refine LoopV.mk2 (I_cp1 H b c ks) (ks.length - 1) ⟨1, by omega, Nat.le_refl _, by simp, by simp, dedupK_one, rfl⟩ ?_
      rintro m T H1 ⟨j, hjm, hj1, t0, t3, hdj, rfl⟩
      by_cases hj : j < ks.length
      · obtain ⟨y, hy⟩ : ∃ y, ks[j]? = some y := ⟨ks[j], by simp [hj]⟩
        obtain ⟨x, hx⟩ : ∃ x, ks[j - 1]? = some x := ⟨ks[j - 1], by rw [List.getElem?_eq_getElem (by omega)]⟩
        obtain ⟨a1, a2⟩ := k3_at hy
        obtain ⟨b1, b2⟩ := k3_at hx
        have w1 : IntKind.i64.wrap ((j : Int) - 1) = ((j - 1 : Nat) : Int) := by rw [wrap_i64 (by omega) (by omega)]; omega
        have hj1' : j - 1 < ks.length := by omega
        have hstep := dedupK_step (l := ks) (j := j - 1) hx (by rw [show j - 1 + 1 = j by omega]; exact hy)
        rw [show j - 1 + 1 = j by omega, show j - 1 + 2 = j + 1 by omega] at hstep
        have hX : (ks.flatMap k3).length = ks.length * 3 := fm_length (k := 3) (fun _ => rfl) ks
        generalize hXe : ks.flatMap k3 = X at *
        simp [t0, t3, hj, hb, a1, a2, b1, b2, w1, hj1', flat3]
        refine ⟨fun hyx => ?_, fun hyx => ?_⟩
        · subst hyx
          rw [if_pos rfl, hdj] at hstep
          have hjc : j ≤ c := by omega
          have hcj : ¬ c = j := by omega
          have hjl : (j : Int) ≤ ks.length := by omega
          simp [hcj, hjl, hjc]
          refine ⟨⟨by omega, hc⟩, ?_⟩
          refine LoopV.mk2 (I_cp2 H1 b c j ks) (ks.length - (j + 1)) ⟨1, j, ks, by omega, Nat.le_refl _, rfl, ?_, by omega, ?_, ?_, ?_, by simp [t0], by simp [t3], by simp, by simp⟩ ?_
          · rw [hstep, List.length_take]; omega
          · rw [hstep]
          · rw [show j + 1 - 1 = j by omega]
          · rw [hXe]; exact (Heap.set_same hb).symm
          rintro m2 T2 H2 ⟨q, kk, C, hqm, hq1, hCl, hkl, hkj, hCt, hCd, rfl, t0', t3', t4', t5'⟩
          have hCX : (C.flatMap k3).length = ks.length * 3 := by rw [fm_length (k := 3) (fun _ => rfl), hCl]
          by_cases hq : q < ks.length - j
          · obtain ⟨y2, hy2⟩ : ∃ y2, ks[j + q]? = some y2 := ⟨ks[j + q]'(by omega), by rw [List.getElem?_eq_getElem (by omega)]⟩
            obtain ⟨x2, hx2⟩ : ∃ x2, ks[j + q - 1]? = some x2 := ⟨ks[j + q - 1]'(by omega), by rw [List.getElem?_eq_getElem (by omega)]⟩
            have hCy : C[j + q]? = some y2 := by
              have := congrArg (fun l : List K3T => l[1]?) hCd
              simp only [List.getElem?_drop] at this
              rw [show j + q - 1 + 1 = j + q by omega] at this
              rw [this]; exact hy2
            have hCx : C[j + q - 1]? = some x2 := by
              have := congrArg (fun l : List K3T => l[0]?) hCd
              simp only [List.getElem?_drop, Nat.add_zero] at this
              rw [this]; exact hx2
            obtain ⟨c1, c2⟩ := k3_at hCy
            obtain ⟨d1, d2⟩ := k3_at hCx
            rw [show (j + q) * 3 = j * 3 + q * 3 by omega] at c1 c2
            rw [show (j + q - 1) * 3 = j * 3 + (q - 1) * 3 by omega] at d1 d2
            have w2 : IntKind.i64.wrap ((q : Int) - 1) = ((q - 1 : Nat) : Int) := by rw [wrap_i64 (by omega) (by omega)]; omega
            have hq1' : q - 1 < ks.length - j := by omega
            have hstep2 := dedupK_step (l := ks) (j := j + q - 1) hx2 (by rw [show j + q - 1 + 1 = j + q by omega]; exact hy2)
            rw [show j + q - 1 + 1 = j + q by omega, show j + q - 1 + 2 = j + q + 1 by omega] at hstep2
            have hkk : kk < ks.length := by omega
            generalize hYe : C.flatMap k3 = Y at *
            have hCd2 : C.drop (j + q) = ks.drop (j + q) := by
              have := congrArg (List.drop 1) hCd
              rw [List.drop_drop, List.drop_drop, show j + q - 1 + 1 = j + q by omega] at this; exact this
            have w5 : IntKind.i64.wrap ((q : Int) + 1) = ((q + 1 : Nat) : Int) := by rw [wrap_i64 (by omega) (by omega)]; rfl
            have w6 : IntKind.i64.wrap ((kk : Int) + 1) = ((kk + 1 : Nat) : Int) := by rw [wrap_i64 (by omega) (by omega)]; rfl
            simp [t0', t3', t4', t5', hq, Heap.set_self, c1, c2, d1, d2, w2, hq1', flat3]
            refine ⟨fun hyx => ⟨hkk, fun x hx => List.all_eq_true.1 (show (k3 y2).all AV.one = true from rfl) x hx, rfl, by omega, ?_⟩, fun hyx => ?_⟩
            · rw [if_neg (Ne.symm hyx)] at hstep2
              have hst := fm_set (enc := k3) (k := 3) (fun _ => rfl) (l := C) (i := kk) (by omega) y2
              rw [hYe, List.append_assoc] at hst
              rw [hst, Heap.set_set]
              refine Again2.mk (m2 - 1) (by omega) ⟨q + 1, kk + 1, C.set kk y2, by omega, by omega, by rw [List.length_set]; exact hCl, ?_, by omega, ?_, ?_, rfl, by simp [t0'], ?_, by simp [t4'], ?_⟩
              · rw [← Nat.add_assoc, hstep2, List.length_append, ← hkl]; rfl
              · rw [← Nat.add_assoc, hstep2, set_take (by omega), hCt]
              · rw [show j + (q + 1) - 1 = j + q by omega, set_drop (by omega)]; exact hCd2
              · simp [w6]
              · simp [w5]
            · rw [if_pos hyx.symm] at hstep2
              refine Again2.mk (m2 - 1) (by omega) ⟨q + 1, kk, C, by omega, by omega, hCl, ?_, by omega, ?_, ?_, by rw [hYe], by simp [t0'], by simp [t3'], by simp [t4'], ?_⟩
              · rw [← Nat.add_assoc, hstep2]; exact hkl
              · rw [← Nat.add_assoc, hstep2]; exact hCt
              · rw [show j + (q + 1) - 1 = j + q by omega]; exact hCd2
              · simp [w5]
          · have hqe : j + q = ks.length := by omega
            rw [hqe, List.take_length] at hkl hCt
            have hck : ¬ c = kk := by omega
            have hkl2 : kk < ks.length := by omega
            have hklz : (kk : Int) ≤ ks.length := by omega
            generalize hYe : C.flatMap k3 = Y at *
            simp [t0', t3', t4', t5', hq, Heap.set_self, hck]
            refine ⟨⟨by omega, hc⟩, by omega, by rw [Nat.sub_mul]; have := Nat.mul_le_mul_right 3 hc; omega, by omega, hkl, _, Heap.set_set _ _ _ _, ?_⟩
            have h1 : (Y.take (kk * 3)).length = kk * 3 := by rw [List.length_take]; omega
            rw [← hkl]
            unfold splA
            rw [List.append_assoc, List.take_append_of_le_length (by omega), List.take_of_length_le (by omega), ← hYe, fm_take (k := 3) (fun _ => rfl), hCt]
        · rw [if_neg (Ne.symm hyx), hdj] at hstep
          refine Again2.mk (m - 1) (by omega) ⟨j + 1, by omega, by omega, by simp [t0], ?_, ?_, rfl⟩
          · simp; rw [wrap_i64 (by omega) (by omega)]
          · rw [hstep, List.take_add_one, hy]; rfl
      · have hje : j = ks.length := by omega
        subst hje
        rw [List.take_length] at hdj
        simp [t0, t3]
        exact ⟨by rw [hdj], _, (Heap.set_same hb).symm, by rw [hdj]; exact List.take_of_length_le (Nat.le_of_eq (fm_length (enc := k3) (k := 3) (fun _ => rfl) ks))⟩
    refine main.trim ?_
    rintro r H' ⟨vs, rfl, rfl, ht⟩
    refine ⟨b, vs, c * 3, (dedupK ks).length * 3, Heap.set_self _ _ _, ?_⟩
    rw [Heap.set_set, ht]
    have hle := dedupK_le ks
    exact ⟨⟨fm_length (k := 3) (fun _ => rfl) _, .inr ⟨b, c, rfl, Heap.set_self _ _ _, by omega⟩⟩, fun q hq _ => Heap.set_ne _ _ (fun e => hq (by rw [e]; rfl)), fun x hx => hx⟩
end Go.Proofs.YtdpbbnnlbjgjgaaGreat
set_option linter.unusedVariables false
set_option linter.unusedSimpArgs false
set_option maxRecDepth 100000
set_option maxHeartbeats 4000000
namespace Go.Proofs.YtdpbbnnlbjgjgaaGreat
open Go.Sf
theorem take_ext {α : Type} {a b : List α} {i : Nat} {x y : α} (hx : a[i]? = some x) (hy : b[i]? = some y) (h : a.take i = b.take i) : x = y ↔ a.take (i + 1) = b.take (i + 1) := by
  rw [List.take_add_one, List.take_add_one, hx, hy, h]
  simp
theorem ne_of_take {α : Type} {a b : List α} {i : Nat} (h : a.take i ≠ b.take i) : a ≠ b := fun e => h (by rw [e])
def I_eqI (a b : List Int) (k : Nat) (T : Nat → AV) (H : Heap) : Prop :=
  ∃ (i : Nat), k + i = a.length ∧ T 0 = immI a ∧ T 1 = immI b ∧ T 12 = .int .i64 a.length ∧ T 13 = .int .i64 i ∧ a.take i = b.take i
theorem p_equalI (a b : List Int) (hl : a.length < 2 ^ 62) : CP PP F_slices_Equal_int64_int64 [immI a, immI b] (fun v => v = .bool (decide (a = b))) := by
  refine CP.by_vc ok_slices_Equal_int64_int64 (by simp) ?_
  unfold c_slices_Equal_int64_int64
  by_cases hlm : a.length = b.length
  · simp [immI, hlm]
    refine LoopV.mk2 (I_eqI a b) a.length ⟨0, by omega, by simp [immI, hlm], by simp [immI], by simp [hlm], by simp, by simp⟩ ?_
    rintro k T H ⟨i, hk, h0, h1, h12, h13, hq⟩
    simp only [immI] at h0 h1
    by_cases hi : i < a.length
    · obtain ⟨x, hx⟩ : ∃ x, a[i]? = some x := ⟨a[i], by simp [hi]⟩
      obtain ⟨y, hy⟩ : ∃ y, b[i]? = some y := ⟨b[i]'(by omega), by rw [List.getElem?_eq_getElem (by omega)]⟩
      have l1 : (intsV a)[i]? = some (.int .i64 x) := by unfold intsV; rw [List.getElem?_map, hx]; rfl
      have l2 : (intsV b)[i]? = some (.int .i64 y) := by unfold intsV; rw [List.getElem?_map, hy]; rfl
      have hext := take_ext hx hy hq
      simp [h0, h1, h12, h13, hi, l1, l2, show i < b.length by omega]
      refine ⟨fun hne => ?_, fun hne => ?_⟩
      · exact ne_of_take (fun e => hne (hext.2 e))
      · refine Again2.mk (k - 1) (by omega) ⟨i + 1, by omega, by simp [h0, immI], by simp [h1, immI], by simp [h12], ?_, hext.1 hne⟩
        simp; rw [wrap_i64 (by omega) (by omega)]
    · have hie : i = a.length := by omega
      subst hie
      rw [List.take_length, hlm, List.take_length] at hq
      simp [h0, h1, h12, h13]
      exact hq
  · have hne : a ≠ b := fun e => hlm (by rw [e])
    have hlz : ¬ (a.length : Int) = b.length := by omega
    simp [immI, hlm, hlz]
    exact hne
def I_eqF (a b : FieldsL) (k : Nat) (T : Nat → AV) (H : Heap) : Prop :=
  ∃ (i : Nat), k + i = a.length ∧ T 0 = immF a ∧ T 1 = immF b ∧ T 12 = .int .i64 a.length ∧ T 13 = .int .i64 i ∧ a.take i = b.take i
theorem flat2 (x y : Int × Int) : flatEq [SK.i, SK.i] (encFd x) (encFd y) = some (decide (x = y)) := by
  have : (decide (x.1 = y.1) && decide (x.2 = y.2)) = decide (x = y) := by
    obtain ⟨a, b⟩ := x; obtain ⟨c, d⟩ := y
    rw [Bool.eq_iff_iff]; simp
  rw [← this]
  simp [flatEq, encFd, scalEq]
theorem p_equalF (a b : FieldsL) (hl : a.length < 2 ^ 62) : CP PP F_slices_Equal_api_Field_api_Field [immF a, immF b] (fun v => v = .bool (decide (a = b))) := by
  refine CP.by_vc ok_slices_Equal_api_Field_api_Field (by simp) ?_
  unfold c_slices_Equal_api_Field_api_Field
  by_cases hlm : a.length = b.length
  · simp [immF, hlm]
    refine LoopV.mk2 (I_eqF a b) a.length ⟨0, by omega, by simp [immF, hlm], by simp [immF], by simp [hlm], by simp, by simp⟩ ?_
    rintro k T H ⟨i, hk, h0, h1, h12, h13, hq⟩
    simp only [immF] at h0 h1
    by_cases hi : i < a.length
    · obtain ⟨x, hx⟩ : ∃ x, a[i]? = some x := ⟨a[i], by simp [hi]⟩
      obtain ⟨y, hy⟩ : ∃ y, b[i]? = some y := ⟨b[i]'(by omega), by rw [List.getElem?_eq_getElem (by omega)]⟩
      obtain ⟨l1, m1⟩ := fm_at (enc := encFd) encFd_length hx
      obtain ⟨l2, m2⟩ := fm_at (enc := encFd) encFd_length hy
      rw [← fieldsA_eq] at l1 m1 l2 m2
      have hext := take_ext hx hy hq
      simp [h0, h1, h12, h13, hi, l1, l2, m1, m2, show i < b.length by omega, flat2]
      refine ⟨fun hne => ?_, fun hne => ?_⟩
      · exact ne_of_take (fun e => hne (hext.2 e))
      · refine Again2.mk (k - 1) (by omega) ⟨i + 1, by omega, by simp [h0, immF], by simp [h1, immF], by simp [h12], ?_, hext.1 hne⟩
        simp; rw [wrap_i64 (by omega) (by omega)]
    · have hie : i = a.length := by omega
      subst hie
      rw [List.take_length, hlm, List.take_length] at hq
      simp [h0, h1, h12, h13]
      exact hq
  · have hne : a ≠ b := fun e => hlm (by rw [e])
    have hlz : ¬ (a.length : Int) = b.length := by omega
    simp [immF, hlm, hlz]
    exact hne
def encC (c : CellT) : List AV := k3 c.1 ++ [.bool c.2.1.isSome, .int .i64 (c.2.1.getD 0), immI c.2.2.1, immF c.2.2.2]
theorem encC_length (c : CellT) : (encC c).length = 7 := rfl
def okCell (c : CellT) : Prop := c.2.2.1.length ≤ 100 ∧ c.2.2.2.length ≤ 8
theorem p_eqCell (x y : CellT) (hx : okCell x) (hy : okCell y) : CP PP F_state_Eq_1 [.agg (encC x), .agg (encC y)] (fun v => v = .bool (decide (x = y))) := by
  refine CP.by_vc ok_state_Eq_1 (by simp) ?_
  unfold c_state_Eq_1
  have e7 : (encC x).length = 7 := rfl
  have f7 : (encC y).length = 7 := rfl
  have tx : (encC x).take 3 = k3 x.1 := rfl
  have ty : (encC y).take 3 = k3 y.1 := rfl
  have x3 : ∀ h, (encC x)[3]'h = .bool x.2.1.isSome := fun _ => rfl
  have y3 : ∀ h, (encC y)[3]'h = .bool y.2.1.isSome := fun _ => rfl
  have x4 : ∀ h, (encC x)[4]'h = .int .i64 (x.2.1.getD 0) := fun _ => rfl
  have y4 : ∀ h, (encC y)[4]'h = .int .i64 (y.2.1.getD 0) := fun _ => rfl
  have x5 : ∀ h, (encC x)[5]'h = immI x.2.2.1 := fun _ => rfl
  have y5 : ∀ h, (encC y)[5]'h = immI y.2.2.1 := fun _ => rfl
  have x6 : ∀ h, (encC x)[6]'h = immF x.2.2.2 := fun _ => rfl
  have y6 : ∀ h, (encC y)[6]'h = immF y.2.2.2 := fun _ => rfl
  simp
  intro b2 h2
  simp
  intro b3 h3
  obtain ⟨n, -⟩ := Heap.fresh_ne h3
  have uI : ∀ l, un (immI l) = (True, immI l) := fun _ => rfl
  have uF : ∀ l, un (immF l) = (True, immF l) := fun _ => rfl
  have hxy : x = y ↔ x.1 = y.1 ∧ x.2.1.isSome = y.2.1.isSome ∧ x.2.1.getD 0 = y.2.1.getD 0 ∧ x.2.2.1 = y.2.2.1 ∧ x.2.2.2 = y.2.2.2 := by
    obtain ⟨x1, x2, x3, x4⟩ := x
    obtain ⟨y1, y2, y3, y4⟩ := y
    simp only [Prod.mk.injEq]
    constructor
    · rintro ⟨rfl, rfl, rfl, rfl⟩; exact ⟨rfl, rfl, rfl, rfl, rfl⟩
    · rintro ⟨h1, h2, h3, h4, h5⟩
      refine ⟨h1, ?_, h4, h5⟩
      cases x2 <;> cases y2 <;> simp at h2 h3 ⊢
      exact h3
  by_cases c1 : x.1 = y.1
  · by_cases c2 : x.2.1.isSome = y.2.1.isSome
    · by_cases c3 : x.2.1.getD 0 = y.2.1.getD 0
      · simp [e7, f7, Heap.set_self, Heap.set_ne _ _ (Ne.symm n), tx, ty, x3, x4, x5, x6, y3, y4, y5, y6, flat3, c1, c2, c3, uI, uF]
        refine CallK.pure (p_equalI _ _ (by have := hx.1; omega)) ?_
        rintro _ rfl
        by_cases c4 : x.2.2.1 = y.2.2.1
        · simp [e7, f7, Heap.set_self, Heap.set_ne _ _ (Ne.symm n), tx, ty, x3, x4, x5, x6, y3, y4, y5, y6, flat3, c1, c2, c3, c4, uI, uF]
          refine CallK.pure (p_equalF _ _ (by have := hx.2; omega)) ?_
          rintro _ rfl
          simp [c1, c2, c3, c4, hxy]
        · simp [e7, f7, Heap.set_self, Heap.set_ne _ _ (Ne.symm n), tx, ty, x3, x4, x5, x6, y3, y4, y5, y6, flat3, c1, c2, c3, c4, uI, uF, hxy]
      · simp [e7, f7, Heap.set_self, Heap.set_ne _ _ (Ne.symm n), tx, ty, x3, x4, x5, x6, y3, y4, y5, y6, flat3, c1, c2, c3, uI, uF, hxy]
    · simp [e7, f7, Heap.set_self, Heap.set_ne _ _ (Ne.symm n), tx, ty, x3, x4, x5, x6, y3, y4, y5, y6, flat3, c1, c2, uI, uF, hxy]
  · simp [e7, f7, Heap.set_self, Heap.set_ne _ _ (Ne.symm n), tx, ty, x3, x4, x5, x6, y3, y4, y5, y6, flat3, c1, uI, uF, hxy]
def immC (cs : List CellT) : AV := .imm (cs.flatMap encC) cs.length none
def I_eqC (a b : List CellT) (k : Nat) (T : Nat → AV) (H : Heap) : Prop :=
  ∃ (i : Nat), k + i = a.length ∧ T 0 = immC a ∧ T 1 = immC b ∧ T 2 = .fn (.func F_state_Eq_1) [] [] ∧ T 15 = immC a ∧ T 16 = .int .i64 a.length ∧ T 17 = .int .i64 i ∧ a.take i = b.take i
theorem p_eqCells (a b : List CellT) (ha : ∀ c ∈ a, okCell c) (hb : ∀ c ∈ b, okCell c) (hl : a.length < 2 ^ 62) : CP PP F_slices_EqualFunc_api_Cell_api_Cell_api_Cell_api_Cell [immC a, immC b, .fn (.func F_state_Eq_1) [] []] (fun v => v = .bool (decide (a = b))) := by
  refine CP.by_vc ok_slices_EqualFunc_api_Cell_api_Cell_api_Cell_api_Cell (by simp) ?_
  unfold c_slices_EqualFunc_api_Cell_api_Cell_api_Cell_api_Cell
  have hcall : callB PP F_state_Eq_1 = true := by kernel_rfl
  by_cases hlm : a.length = b.length
  · simp [immC, hlm]
    refine LoopV.mk2 (I_eqC a b) a.length ⟨0, by omega, by simp [immC, hlm], by simp [immC], by simp, by simp [immC, hlm], by simp [hlm], by simp, by simp⟩ ?_
    rintro k T H ⟨i, hk, h0, h1, h2, h15, h16, h17, hq⟩
    simp only [immC] at h0 h1 h15
    by_cases hi : i < a.length
    · obtain ⟨x, hx⟩ : ∃ x, a[i]? = some x := ⟨a[i], by simp [hi]⟩
      obtain ⟨y, hy⟩ : ∃ y, b[i]? = some y := ⟨b[i]'(by omega), by rw [List.getElem?_eq_getElem (by omega)]⟩
      obtain ⟨l1, m1⟩ := fm_at (enc := encC) encC_length hx
      obtain ⟨l2, m2⟩ := fm_at (enc := encC) encC_length hy
      have hext := take_ext hx hy hq
      have o1 : ∀ z, z ∈ encC x → z.one = true := fun z hz => List.all_eq_true.1 (show (encC x).all AV.one = true from rfl) z hz
      have o2 : ∀ z, z ∈ encC y → z.one = true := fun z hz => List.all_eq_true.1 (show (encC y).all AV.one = true from rfl) z hz
      have e7 : (encC x).length = 7 := rfl
      have f7 : (encC y).length = 7 := rfl
      have t7 : (encC x).take 7 = encC x := rfl
      have u7 : (encC y).take 7 = encC y := rfl
      have hib : i < b.length := by omega
      generalize hXe : a.flatMap encC = X at *
      generalize hYe : b.flatMap encC = Y at *
      simp [h0, h1, h2, h15, h16, h17, hi, hib, l1, l2, m1, m2]
      intro y1 hy1
      simp [h0, h1, h2, h15, h16, h17, hi, hib, l1, l2, m1, m2, Heap.set_self, Heap.set_set, e7]
      refine ⟨o1, ?_⟩
      intro y2 hy2
      obtain ⟨n, -⟩ := Heap.fresh_ne hy2
      simp [h0, h1, h2, h15, h16, h17, Heap.set_self, Heap.set_set, Heap.set_ne _ _ (Ne.symm n), e7, f7]
      refine ⟨o2, hcall, ?_⟩
      rw [t7, u7]
      refine CallK.pure (p_eqCell x y (ha x (List.mem_of_getElem? hx)) (hb y (List.mem_of_getElem? hy))) ?_
      rintro _ rfl
      simp [h17]
      refine ⟨fun hne => ?_, fun hne => ?_⟩
      · exact ne_of_take (fun e => hne (hext.2 e))
      · refine Again2.mk (k - 1) (by omega) ⟨i + 1, by omega, by simp [h0, immC, hXe], by simp [h1, immC, hYe], by simp [h2], by simp [h15, immC, hXe], by simp [h16], ?_, hext.1 hne⟩
        simp; rw [wrap_i64 (by omega) (by omega)]
    · have hie : i = a.length := by omega
      subst hie
      rw [List.take_length, hlm, List.take_length] at hq
      simp [h0, h1, h2, h15, h16, h17]
      exact hq
  · have hne : a ≠ b := fun e => hlm (by rw [e])
    have hlz : ¬ (a.length : Int) = b.length := by omega
    simp [immC, hlm, hlz]
    exact hne
end Go.Proofs.YtdpbbnnlbjgjgaaGreat
set_option linter.unusedVariables false
set_option linter.unusedSimpArgs false
set_option maxRecDepth 100000
set_option maxHeartbeats 8000000
namespace Go.Proofs.YtdpbbnnlbjgjgaaGreat
open Go.Sf
theorem k_stNew {H : Heap} : CC PP F_state_New [] H fun r H' => ∃ s F, r = .ptr s 0 ∧ StQ H' s StT.nil F ∧ (∀ x, H x ≠ none → H' x = H x) ∧ ∀ x, F x → H x = none := by
  refine CC.by_vc ok_state_New (by simp) ?_
  unfold c_state_New
  simp
  refine CallK.of k_vNew ?_
  rintro _ H1 ⟨p1, rfl, hp1, rfl⟩
  simp
  refine CallK.of k_lNew ?_
  rintro _ H2 ⟨p2, rfl, hp2, rfl⟩
  simp
  refine CallK.of k_dNew ?_
  rintro _ H3 ⟨p3, rfl, hp3, rfl⟩
  simp
  intro s hs
  have n21 : p2 ≠ p1 := fun e => by rw [e, Heap.set_self] at hp2; cases hp2
  have n32 : p3 ≠ p2 := fun e => by rw [e, Heap.set_self] at hp3; cases hp3
  have n31 : p3 ≠ p1 := fun e => by rw [e, Heap.set_ne _ _ (Ne.symm n21), Heap.set_self] at hp3; cases hp3
  have ns3 : s ≠ p3 := fun e => by rw [e, Heap.set_self] at hs; cases hs
  have ns2 : s ≠ p2 := fun e => by rw [e, Heap.set_ne _ _ (Ne.symm n32), Heap.set_self] at hs; cases hs
  have ns1 : s ≠ p1 := fun e => by rw [e, Heap.set_ne _ _ (Ne.symm n31), Heap.set_ne _ _ (Ne.symm n21), Heap.set_self] at hs; cases hs
  have hp2' : H p2 = none := by rwa [Heap.set_ne _ _ n21] at hp2
  have hp3' : H p3 = none := by rwa [Heap.set_ne _ _ n32, Heap.set_ne _ _ n31] at hp3
  have hs' : H s = none := by rwa [Heap.set_ne _ _ ns3, Heap.set_ne _ _ ns2, Heap.set_ne _ _ ns1] at hs
  simp
  refine ⟨fun x => x = s ∨ x = p1 ∨ x = p2 ∨ x = p3, ⟨p1, p2, p3, fun x => x = p1, fun x => x = p2, fun x => x = p3, Heap.set_self _ _ _,
    ⟨.nils, ?_, ⟨rfl, .inl ⟨rfl, rfl⟩⟩, (fun e => by cases e), .nil, fun x => by simp [blkOf]⟩, ⟨.nils, ?_, ⟨rfl, .inl ⟨rfl, rfl⟩⟩, (fun e => by cases e), okL_nil, fun x => by simp [blkOf]⟩,
    ⟨[], .nils, rfl, ⟨?_, ⟨rfl, .inl ⟨rfl, rfl⟩⟩, (fun e => by cases e), (fun q hq => by cases hq), (fun q hq => by cases hq), .nil⟩, okD_nil, fun x => by simp [dicF, blkOf]⟩,
    ⟨ns1, ns2, ns3⟩, fun x h1 h2 => n21 (by rw [← h2, h1]), fun x h1 h2 => n31 (by rw [← h2, h1]), fun x h1 h2 => n32 (by rw [← h2, h1]), fun x => Iff.rfl⟩, fun x hx => ?_, fun x hx => ?_⟩
  · rw [Heap.set_ne _ _ (Ne.symm ns1), Heap.set_ne _ _ (Ne.symm n31), Heap.set_ne _ _ (Ne.symm n21), Heap.set_self]
  · rw [Heap.set_ne _ _ (Ne.symm ns2), Heap.set_ne _ _ (Ne.symm n32), Heap.set_self]
  · rw [Heap.set_ne _ _ (Ne.symm ns3), Heap.set_self]
  · have e0 : x ≠ s := fun e => hx (by rw [e]; exact hs')
    have e1 : x ≠ p1 := fun e => hx (by rw [e]; exact hp1)
    have e2 : x ≠ p2 := fun e => hx (by rw [e]; exact hp2')
    have e3 : x ≠ p3 := fun e => hx (by rw [e]; exact hp3')
    rw [Heap.set_ne _ _ e0, Heap.set_ne _ _ e3, Heap.set_ne _ _ e2, Heap.set_ne _ _ e1]
  · rcases hx with rfl | rfl | rfl | rfl
    · exact hs'
    · exact hp1
    · exact hp2'
    · exact hp3'
theorem okCell_at {S : StT} (h : OkS S) (k : K3T) : okCell (cellAt S k) := ⟨listK_le h.l, dictK_le h.d⟩
theorem okCells {S : StT} (h : OkS S) : ∀ c ∈ cellsS S, okCell c := fun c hc => by
  obtain ⟨k, _, rfl⟩ := List.mem_map.1 hc
  exact okCell_at h k
theorem k_keysV {H : Heap} {p : Nat} {A : CellsK Int} {F : Nat → Prop} (hV : ValQ H p A F) (hl : A.length < 2 ^ 29) : CC PP F_value_Values_ValueKeys [.ptr p 0] H fun r H' => r = keysI (A.map (·.1)) ∧ H' = H :=
  (k_vKeys hV hl).mono fun r H' ⟨h1, h2⟩ => ⟨by rw [h2]; unfold keysI; rw [List.length_map], h1⟩
theorem k_keysL {H : Heap} {p : Nat} {A : CellsK (List Int)} {F : Nat → Prop} (hV : LstQ H p A F) (hl : A.length < 2 ^ 29) : CC PP F_list_Lists_ListKeys [.ptr p 0] H fun r H' => r = keysI (A.map (·.1)) ∧ H' = H :=
  (k_lKeys hV hl).mono fun r H' ⟨h1, h2⟩ => ⟨by rw [h2]; unfold keysI; rw [List.length_map], h1⟩
theorem k_keysD {H : Heap} {p : Nat} {A : CellsK FieldsL} {F : Nat → Prop} (hV : DicQ H p A F) (hl : A.length < 2 ^ 29) : CC PP F_dict_Dicts_DictKeys [.ptr p 0] H fun r H' => r = keysI (A.map (·.1)) ∧ H' = H :=
  (k_dKeys hV hl).mono fun r H' ⟨h1, h2⟩ => ⟨by rw [h2]; unfold keysI; rw [List.length_map], h1⟩
def I_cl (H0 : Heap) (s : Nat) (S : StT) (ks : List K3T) (row : AV) (bk ck : Nat) (m : Nat) (T : Nat → AV) (H : Heap) : Prop :=
  ∃ (i : Nat) (u : AV), i + m = ks.length ∧ T 0 = .ptr s 0 ∧ T 31 = row ∧ T 32 = .int .i64 ks.length ∧ T 33 = .int .i64 i ∧ T 4 = u ∧ OwnR H 7 i u (((ks.take i).map (cellAt S)).flatMap encC) ∧ (∀ x, H0 x ≠ none → H x = H0 x) ∧ (∀ b, blkOf u = some b → H0 b = none) ∧
    (ks ≠ [] → H bk = some (.cells (ks.flatMap k3) ck)) ∧ blkOf u ≠ some bk
theorem k_cells0 {H0 : Heap} {s : Nat} {S : StT} {F : Nat → Prop} (hS : StQ H0 s S F) (hc : cntS S < 2 ^ 20) :
    CC PP F_state_State_Cells [.ptr s 0] H0 fun r H' => OwnR H' 7 (cellsS S).length r ((cellsS S).flatMap encC) ∧ (∀ x, H0 x ≠ none → H' x = H0 x) ∧ ∀ b, blkOf r = some b → H0 b = none := by
  have hS0 := hS
  obtain ⟨pv, pl, pd, F1, F2, F3, h1, h2, h3, h4, _⟩ := hS
  refine CC.by_vc ok_state_State_Cells (by simp) ?_
  unfold c_state_State_Cells
  unfold cntS at hc
  have e3 : [S.V.map (·.1), S.L.map (·.1), S.D.map (·.1)].flatten = S.V.map (·.1) ++ (S.L.map (·.1) ++ S.D.map (·.1)) := by simp
  have hall : (S.V.map (·.1) ++ (S.L.map (·.1) ++ S.D.map (·.1))).length ≤ 2 ^ 39 := by simp only [List.length_append, List.length_map]; omega
  have hkn : ∀ ks, AV.known (keysI ks) = true := fun _ => rfl
  have hku : ∀ ks, un (keysI ks) = (True, keysI ks) := fun _ => rfl
  have hkc : ∀ ks, AV.cellsL (keysI ks) = [keysI ks] := fun _ => rfl
  have hks : keysS S = setOf (S.V.map (·.1) ++ (S.L.map (·.1) ++ S.D.map (·.1))) := rfl
  simp [h1]
  refine CallQ.ofH (k_keysV h2 (by omega)) ?_
  simp [h1, hku]
  refine CallQ.ofH (k_keysL h3 (by omega)) ?_
  simp [h1, hku]
  refine CallQ.ofH (k_keysD h4 (by omega)) ?_
  simp [hku, hkn, hkc]
  have hcc := k_concat (H := H0) [S.V.map (·.1), S.L.map (·.1), S.D.map (·.1)] e3 (by simp) (by omega)
  generalize hAll : S.V.map (·.1) ++ (S.L.map (·.1) ++ S.D.map (·.1)) = all at *
  refine CallK.of hcc ?_
  intro v1 H1 ⟨g1, g2, g3⟩
  have hun1 := g1.un
  simp [hun1]
  refine CallK.of (k_sortKeys g1 (by omega)) ?_
  rintro _ H2 ⟨rfl, q1, q2⟩
  simp [hun1]
  have hml : (all.mergeSort fun x y => !(lessK y x)).length = all.length := List.length_mergeSort _
  rw [← hml] at q1
  refine CallK.of (k_compact q1 (by omega)) ?_
  intro v2 H3 ⟨r1, r2, r3⟩
  rw [dedup_merge, ← hks] at r1
  have hold3 : ∀ x, H0 x ≠ none → H3 x = H0 x := fun x hx => by
    have n1 : blkOf v1 ≠ some x := fun e => hx (g3 x e)
    have a1 : H1 x = H0 x := g2 x hx
    have a2 : H2 x = H1 x := q2 x n1 (by rw [a1]; exact hx)
    rw [r2 x n1 (by rw [a2, a1]; exact hx), a2, a1]
  have hfr3 : ∀ b, blkOf v2 = some b → H0 b = none := fun b hb => g3 b (r3 b hb)
  clear g1 g2 g3 q1 q2 r2 r3 hcc hun1
  have hkl : (keysS S).length < 2 ^ 40 := by have := keysS_length S; omega
  have hcl : (cellsS S).length = (keysS S).length := by unfold cellsS; rw [List.length_map]
  rw [hcl]
  unfold cellsS
  generalize keysS S = ks at *
  have start : ∀ H, OwnR H 7 0 .nils (((ks.take 0).map (cellAt S)).flatMap encC) := fun H => ⟨rfl, .inl ⟨rfl, rfl⟩⟩
  obtain ⟨hrl, ⟨rfl, hz⟩ | ⟨bk, ck, rfl, hbk, hck⟩⟩ := r1
  · obtain rfl : ks = [] := List.length_eq_zero_iff.1 hz
    simp
    refine LoopV.mk2 (I_cl H0 s S [] .nils 0 0) 0 ⟨0, .nils, rfl, by simp, by simp, by simp, by simp, by simp, start _, hold3, (fun b hb => by cases hb), (fun h => absurd rfl h), (fun e => by cases e)⟩ ?_
    rintro m T H ⟨i, u, him, t0, t31, t32, t33, t4, hO, hold, hfr, hrow, hnb⟩
    have hi0 : i = 0 := by simp at him; omega
    subst hi0
    have hun := hO.un
    simp [t0, t31, t32, t33, t4, hun]
    exact ⟨by simpa using hO, hold, hfr⟩
  · have hbk0 : H0 bk = none := hfr3 bk rfl
    simp
    refine LoopV.mk2 (I_cl H0 s S ks (.sl bk 0 ks.length ck) bk (ck * 3)) ks.length ⟨0, .nils, by omega, by simp, by simp, by simp, by simp, by simp, start _, hold3, (fun b hb => by cases hb), (fun _ => hbk), (fun e => by cases e)⟩ ?_
    rintro m T H ⟨i, u, him, t0, t31, t32, t33, t4, hO, hold, hfr, hrow, hnb⟩
    have hun := hO.un
    by_cases hi : i < ks.length
    · obtain ⟨k, hk⟩ : ∃ k, ks[i]? = some k := ⟨ks[i], by simp [hi]⟩
      obtain ⟨f1, f2⟩ := k3_at hk
      have hrow' := hrow (fun e => by rw [e] at hi; simp at hi)
      have hk3 : (k3 k).length = 3 := rfl
      have hkone : ∀ x, x ∈ k3 k → x.one = true := fun x hx => List.all_eq_true.1 (show (k3 k).all AV.one = true from rfl) x hx
      generalize hXe : ks.flatMap k3 = X at *
      simp [t0, t31, t32, t33, t4, hun, hi, hrow', f1, f2]
      intro y hy
      have hyn : ∀ x, H0 x ≠ none → x ≠ y := fun x hx h => by rw [← h, hold x hx] at hy; exact hx hy
      simp [t0, t31, t32, t33, t4, hun, Heap.set_self, Heap.set_set, hk3]
      refine ⟨hkone, ?_⟩
      have holdy : ∀ x, H0 x ≠ none → (H.set y (some (.cells (k3 k) 3))) x = H0 x := fun x hx => by rw [Heap.set_ne _ _ (hyn x hx)]; exact hold x hx
      have hSy : StQ (H.set y (some (.cells (k3 k) 3))) s S F := hS0.keep fun x hx => holdy x (hS0.live hx)
      have hOy : OwnR (H.set y (some (.cells (k3 k) 3))) 7 i u (((ks.take i).map (cellAt S)).flatMap encC) := hO.agree fun x hx => Heap.set_ne _ _ (fun e => by have := hO.live hx; rw [e, hy] at this; exact this rfl)
      have hby : (H.set y (some (.cells (k3 k) 3))) bk = some (.cells X (ck * 3)) := by rw [Heap.set_ne _ _ (fun e => by rw [← e, hrow'] at hy; cases hy)]; exact hrow'
      have hyy : (H.set y (some (.cells (k3 k) 3))) y = some (.cells (k3 k) 3) := Heap.set_self _ _ _
      generalize H.set y (some (.cells (k3 k) 3)) = Hy at *
      obtain ⟨pv', pl', pd', G1, G2, G3, j1, j2, j3, j4, _⟩ := hSy
      simp [j1, hyy, tk3, hk3]
      refine CallQ.ofH ((k_vValue j2 (by omega) k).mono fun r H' h => ⟨h.2, h.1⟩) ?_
      have uI : ∀ l, un (immI l) = (True, immI l) := fun _ => rfl
      have uF : ∀ l, un (immF l) = (True, immF l) := fun _ => rfl
      simp [j1, hyy, tk3, hk3, hun, t4, t0]
      refine CallQ.ofH ((k_lList j3 (by omega) k).mono fun r H' h => ⟨h.2, h.1⟩) ?_
      simp [j1, hyy, tk3, hk3, hun, t4, t0, uI]
      refine CallQ.ofH ((k_dDict j4 (by omega) k).mono fun r H' h => ⟨h.2, h.1⟩) ?_
      have kI : ∀ l, AV.known (immI l) = true := fun _ => rfl
      have kF : ∀ l, AV.known (immF l) = true := fun _ => rfl
      have cI : ∀ l, AV.cellsL (immI l) = [immI l] := fun _ => rfl
      have cF : ∀ l, AV.cellsL (immF l) = [immF l] := fun _ => rfl
      simp [j1, hyy, tk3, hk3, hun, t4, t0, uI, uF, kI, kF, cI, cF]
      have hce : cellsOf Hy 7 (.imm (encC (cellAt S k)) 1 (some 1)) = some (encC (cellAt S k)) := by rw [cellsOf_imm]; exact if_pos rfl
      have htk : (ks.take (i + 1)).map (cellAt S) = (ks.take i).map (cellAt S) ++ [cellAt S k] := by rw [List.take_add_one, hk]; simp
      refine vcAp_row (x := .imm (encC (cellAt S k)) 1 (some 1)) (n := i) (m := 1) (new := encC (cellAt S k)) (.inl hOy) hce rfl rfl (by omega) rfl (by omega) (.inl (by simp [encC])) ?_
      intro u2 H4 g1 g2 g3
      have hun2 := g1.un
      simp [hun2, t33]
      have hnb2 : blkOf u2 ≠ some bk := fun e => by
        rcases g3 bk e with h | h
        · rw [hby] at h; cases h
        · exact hnb h
      refine Again2.mk (m - 1) (by omega) ⟨i + 1, u2, by omega, by simp [t0], by simp [t31], by simp [t32], ?_, by simp, ?_, fun x hx => ?_, fun b hb => ?_, fun _ => ?_, hnb2⟩
      · simp; rw [wrap_i64 (by omega) (by omega)]
      · rw [htk, List.flatMap_append]; simpa using g1
      · rw [g2 x (fun e => hx (hfr x e)) (by rw [holdy x hx]; exact hx)]; exact holdy x hx
      · rcases g3 b hb with h | h
        · refine Classical.byContradiction fun hn => ?_
          rw [holdy b hn] at h; exact hn h
        · exact hfr b h
      · rw [hXe, g2 bk hnb (by rw [hby]; simp)]; exact hby
    · have hie : i = ks.length := by omega
      subst hie
      rw [List.take_length] at hO
      simp [t0, t31, t32, t33, t4, hun]
      exact ⟨hO, hold, hfr⟩
end Go.Proofs.YtdpbbnnlbjgjgaaGreat
set_option linter.unusedVariables false
set_option linter.unusedSimpArgs false
set_option maxRecDepth 100000
set_option maxHeartbeats 8000000
namespace Go.Proofs.YtdpbbnnlbjgjgaaGreat
open Go.Sf
/-- A state, or none. -/
def StA (H : Heap) (v : AV) (S : StT) : Prop := (∃ s F, v = .ptr s 0 ∧ StQ H s S F) ∨ (v = .nilp ∧ S = StT.nil)
theorem StA.ok {H : Heap} {v : AV} {S : StT} (h : StA H v S) : OkS S := by
  rcases h with ⟨s, F, rfl, h⟩ | ⟨rfl, rfl⟩
  · exact h.ok
  · exact okS_nil
theorem k_cells {H : Heap} {v : AV} {S : StT} (hS : StA H v S) (hc : cntS S < 2 ^ 20) : CC PP F_state_State_Cells [v] H fun r H' => H' = H ∧ r = immC (cellsS S) := by
  rcases hS with ⟨s, F, rfl, h⟩ | ⟨rfl, rfl⟩
  · exact CC.frozen (sz := 7) (k_cells0 h hc)
  · refine CC.val (Q := fun r H' => H' = H ∧ r = .nils) ?_ ?_
    · refine CC.by_vc ok_state_State_Cells (by simp) ?_
      unfold c_state_State_Cells
      simp
    · rintro r H' ⟨h1, rfl⟩
      exact ⟨immC (cellsS StT.nil), fun M x hx => nil_imm' hx, h1, rfl⟩
def eqS (A B : StT) : Bool := decide (A.V = B.V) && (decide (A.L = B.L) && decide (A.D = B.D))
theorem eqS_iff (A B : StT) : eqS A B = true ↔ A = B := by
  obtain ⟨V, L, D⟩ := A
  obtain ⟨V', L', D'⟩ := B
  unfold eqS
  simp only [Bool.and_eq_true, decide_eq_true_eq, StT.mk.injEq]
theorem k_eqS {H : Heap} {v u : AV} {A B : StT} (hA : StA H v A) (hB : StA H u B) (ha : cntS A < 2 ^ 20) (hb : cntS B < 2 ^ 20) : CC PP F_state_Eq [v, u] H fun r H' => H' = H ∧ r = .bool (eqS A B) := by
  have hun1 : un v = (True, v) := by rcases hA with ⟨_, _, rfl, _⟩ | ⟨rfl, _⟩ <;> rfl
  have hun2 : un u = (True, u) := by rcases hB with ⟨_, _, rfl, _⟩ | ⟨rfl, _⟩ <;> rfl
  have hiff : (cellsS A = cellsS B) ↔ A = B := ⟨cellsS_inj hA.ok hB.ok, fun e => by rw [e]⟩
  have hlen : (cellsS A).length < 2 ^ 62 := by
    have := keysS_length A
    unfold cntS at ha
    unfold cellsS; rw [List.length_map]; omega
  refine CC.by_vc ok_state_Eq (by simp) ?_
  unfold c_state_Eq
  simp [hun1, hun2]
  refine CallK.of (k_cells hA ha) ?_
  rintro _ H' ⟨rfl, rfl⟩
  have huc : ∀ l, un (immC l) = (True, immC l) := fun _ => rfl
  simp [hun1, hun2, huc]
  refine CallK.of (k_cells hB hb) ?_
  rintro _ H' ⟨rfl, rfl⟩
  simp [hun1, hun2, huc]
  refine CallK.pure (p_eqCells _ _ (okCells hA.ok) (okCells hB.ok) hlen) ?_
  rintro _ rfl
  have he : decide (cellsS A = cellsS B) = eqS A B := by rw [Bool.eq_iff_iff, decide_eq_true_iff, hiff, eqS_iff]
  simp
  exact he
theorem k_one {H : Heap} {s : Nat} {S : StT} {F : Nat → Prop} (hS : StQ H s S F) (hc : cntS S < 2 ^ 20) (m : MutT) :
    CC PP F_state_State_one [.ptr s 0, .agg (mutCs m)] H fun r H' => r = .tup [] ∧ ∃ F', StQ H' s (oneS m S) F' ∧ UpdF F F' H H' := by
  refine CC.by_vc ok_state_State_oneN (by simp) ?_
  unfold c_state_State_oneN
  unfold cntS at hc
  simp
  intro b hb
  have hm6 : (mutCs m).length = 6 := rfl
  have old : ∀ x, H x ≠ none → (H.set b (some (.cells (mutCs m) 6))) x = H x := fun x hx => Heap.set_ne _ _ (fun h => hx (by rw [h]; exact hb))
  simp only [hm6]
  generalize hH1 : H.set b (some (.cells (mutCs m) 6)) = H1 at *
  have hb1 : H1 b = some (.cells (mutCs m) 6) := by rw [← hH1]; exact Heap.set_self _ _ _
  have hS1 : StQ H1 s S F := hS.keep fun x hx => old x (hS.live hx)
  have hu0 : UpdF F F H H1 := ⟨fun x hx hn => old x hn, fun x hx => .inl hx⟩
  clear hH1
  obtain ⟨pv, pl, pd, F1, F2, F3, h1, h2, h3, h4, h5, h6, h7, h8, h9⟩ := hS1
  have m0 : ∀ h, (mutCs m)[0]'h = .int .i64 m.k := fun _ => rfl
  have m4 : ∀ h, (mutCs m)[4]'h = .int .i64 m.f := fun _ => rfl
  have m5 : ∀ h, (mutCs m)[5]'h = .int .i64 m.v := fun _ => rfl
  have m1 : ((mutCs m).drop 1).take 3 = k3 m.key := rfl
  by_cases k1 : m.k = 1
  · have hO : oneS m S = { S with V := updK m.key m.v S.V } := by unfold oneS; rw [if_pos k1]
    simp [hb1, m0, m1, m4, m5, hm6, k1, h1]
    repeat' (refine And.intro ?_ ?_)
    all_goals
      refine CallK.of (k_vSet h2 (by omega) m.key m.v) ?_
      rintro _ H2 ⟨rfl, F1', g1, g2⟩
      obtain ⟨F', q1, q2⟩ := StQ.updV h1 h2 h3 h4 h5 h6 h7 h8 h9 g1 g2
      simp
      rw [hO]
      exact ⟨F', q1, hu0.trans q2⟩
  by_cases k2 : m.k = 2
  · have hO : oneS m S = { S with V := cutK m.key S.V } := by unfold oneS; rw [if_neg k1, if_pos k2]
    simp [hb1, m0, m1, m4, m5, hm6, k1, k2, h1]
    repeat' (refine And.intro ?_ ?_)
    all_goals
      refine CallK.of (k_vUnset h2 (by omega) m.key) ?_
      rintro _ H2 ⟨rfl, F1', g1, g2⟩
      obtain ⟨F', q1, q2⟩ := StQ.updV h1 h2 h3 h4 h5 h6 h7 h8 h9 g1 g2
      simp
      rw [hO]
      exact ⟨F', q1, hu0.trans q2⟩
  by_cases k3' : m.k = 3
  · have hO : oneS m S = { S with L := (pushL m.key [m.v] S.L).1 } := by unfold oneS; rw [if_neg k1, if_neg k2, if_pos k3']
    simp [hb1, m0, m1, m4, m5, hm6, k1, k2, k3', h1]
    repeat' (refine And.intro ?_ ?_)
    all_goals
      refine CallK.of (k_lPush h3 (by omega) m.key (ns := [m.v]) (.inr ⟨_, rfl⟩) (by simp)) ?_
      rintro _ H2 ⟨rfl, F2', g1, g2⟩
      obtain ⟨F', q1, q2⟩ := StQ.updL h1 h2 h3 h4 h5 h6 h7 h8 h9 g1 g2
      simp
      rw [hO]
      exact ⟨F', q1, hu0.trans q2⟩
  by_cases k4 : m.k = 4
  · have hO : oneS m S = { S with L := (clearL m.key S.L).1 } := by unfold oneS; rw [if_neg k1, if_neg k2, if_neg k3', if_pos k4]
    simp [hb1, m0, m1, m4, m5, hm6, k1, k2, k3', k4, h1]
    repeat' (refine And.intro ?_ ?_)
    all_goals
      refine CallK.of (k_lClear h3 (by omega) m.key) ?_
      rintro _ H2 ⟨rfl, F2', g1, g2⟩
      obtain ⟨F', q1, q2⟩ := StQ.updL h1 h2 h3 h4 h5 h6 h7 h8 h9 g1 g2
      simp
      rw [hO]
      exact ⟨F', q1, hu0.trans q2⟩
  by_cases k5 : m.k = 5
  · have hO : oneS m S = { S with D := (putD m.key m.f m.v S.D).1 } := by unfold oneS; rw [if_neg k1, if_neg k2, if_neg k3', if_neg k4, if_pos k5]
    simp [hb1, m0, m1, m4, m5, hm6, k1, k2, k3', k4, k5, h1]
    repeat' (refine And.intro ?_ ?_)
    all_goals
      refine CallK.of (k_dPut h4 (by omega) m.key m.f m.v) ?_
      rintro _ H2 ⟨rfl, F3', g1, g2⟩
      obtain ⟨F', q1, q2⟩ := StQ.updD h1 h2 h3 h4 h5 h6 h7 h8 h9 g1 g2
      simp
      rw [hO]
      exact ⟨F', q1, hu0.trans q2⟩
  by_cases k6 : m.k = 6
  · have hO : oneS m S = { S with D := (cutD m.key m.f S.D).1 } := by unfold oneS; rw [if_neg k1, if_neg k2, if_neg k3', if_neg k4, if_neg k5, if_pos k6]
    simp [hb1, m0, m1, m4, m5, hm6, k1, k2, k3', k4, k5, k6, h1]
    repeat' (refine And.intro ?_ ?_)
    all_goals
      refine CallK.of (k_dCut h4 (by omega) m.key m.f) ?_
      rintro _ H2 ⟨rfl, F3', g1, g2⟩
      obtain ⟨F', q1, q2⟩ := StQ.updD h1 h2 h3 h4 h5 h6 h7 h8 h9 g1 g2
      simp
      rw [hO]
      exact ⟨F', q1, hu0.trans q2⟩
  · have hO : oneS m S = S := by unfold oneS; rw [if_neg k1, if_neg k2, if_neg k3', if_neg k4, if_neg k5, if_neg k6]
    simp [hb1, m0, m1, m4, m5, hm6, k1, k2, k3', k4, k5, k6, h1]
    rw [hO]
    exact ⟨F, ⟨pv, pl, pd, F1, F2, F3, h1, h2, h3, h4, h5, h6, h7, h8, h9⟩, hu0⟩
end Go.Proofs.YtdpbbnnlbjgjgaaGreat
set_option linter.unusedVariables false
set_option linter.unusedSimpArgs false
set_option maxRecDepth 100000
set_option maxHeartbeats 8000000
namespace Go.Proofs.YtdpbbnnlbjgjgaaGreat
open Go.Sf
def encInt (n : Int) : AV := .int .i64 n
theorem lkp_ents (k : K3T) (W : List (K3T × Int)) : lkpV true (.int .i64 0) (entsA encInt W) (midx k W) = .tup [.int .i64 ((getK k W).getD 0), .bool (getK k W).isSome] := by
  have h := midx_get k W
  cases hm : midx k W with
  | none =>
    rw [hm] at h
    simp only [Option.bind_none, Option.map_none] at h
    rw [← h]; rfl
  | some j =>
    rw [hm] at h
    simp only [Option.bind_some] at h
    have hj : j < W.length := by
      have hs : (midx k W).isSome = true := by rw [hm]; rfl
      clear h
      induction W generalizing j with
      | nil => simp [midx] at hm
      | cons p W ih =>
        simp only [midx] at hm
        split at hm
        · cases hm; simp
        · cases hq : midx k W with
          | none => rw [hq] at hm; cases hm
          | some q => rw [hq] at hm; simp at hm; have := ih q hq (by rw [hq]; rfl); simp; omega
    have e : W[j]? = some W[j] := List.getElem?_eq_getElem hj
    rw [e] at h
    simp only [Option.map_some] at h
    rw [← h]
    simp [lkpV, entsA, hj, encInt]
theorem mset_ents (k : K3T) (n : Int) (W : List (K3T × Int)) : msetV (.agg (k3 k)) (.int .i64 n) (entsA encInt W) (midx k W) = entsA encInt (mput k n W) := by
  unfold mput
  cases midx k W with
  | none => simp [msetV, entsA, encInt, keyA, k3]
  | some j => simp [msetV, entsA, encInt, keyA, k3, List.map_set]
theorem find_ents (k : K3T) (W : List (K3T × Int)) : findI .k3 (.agg (k3 k)) (entsA encInt W) = some (midx k W) := entsA_find encInt k W
theorem mutCs_six (m : MutT) : (mutCs m).length = 6 := rfl
def immM (ms : List MutT) (c : Option Nat) : AV := .imm (ms.flatMap mutCs) ms.length c
def I_full (H0 : Heap) (s : Nat) (L : CellsK (List Int)) (ms : List MutT) (c : Option Nat) (m : Nat) (T : Nat → AV) (H : Heap) : Prop :=
  ∃ (i bm : Nat) (W : List (K3T × Int)), i + m = ms.length ∧ T 0 = .ptr s 0 ∧ T 11 = immM ms c ∧ T 12 = .int .i64 ms.length ∧ T 13 = .int .i64 i ∧ T 5 = .mp bm ∧ H bm = some (.map (entsA encInt W)) ∧ (∀ x, H0 x ≠ none → H x = H0 x) ∧ H0 bm = none ∧
    fullS L [] ms = fullS L W (ms.drop i) ∧ ∀ k n, getK k W = some n → 0 ≤ n ∧ n ≤ 100
theorem k_full {H0 : Heap} {s : Nat} {S : StT} {F : Nat → Prop} (hS : StQ H0 s S F) (hc : cntS S < 2 ^ 20) {ms : List MutT} (hl : ms.length < 2 ^ 40) {c : Option Nat} :
    CC PP F_state_State_full [.ptr s 0, immM ms c] H0 fun r H' => H' = H0 ∧ r = .bool (fullS S.L [] ms) := by
  refine CC.back ?_
  have hok := hS.ok
  unfold cntS at hc
  refine CC.by_vc ok_state_State_full (by simp) ?_
  unfold c_state_State_full
  simp [immM]
  intro bm hbm
  simp
  refine LoopV.mk2 (I_full H0 s S.L ms c) ms.length ⟨0, bm, [], by omega, by simp, by simp [immM], by simp, by simp, by simp, Heap.set_self _ _ _, fun x hx => Heap.set_ne _ _ (fun e => hx (by rw [e]; exact hbm)), hbm, rfl, fun k n h => by simp [getK] at h⟩ ?_
  rintro m T H ⟨i, bm, W, him, t0, t11, t12, t13, t5, hB, hold, hbm0, hfull, hW⟩
  simp only [immM] at t11
  by_cases hi : i < ms.length
  · obtain ⟨mu, hmu⟩ : ∃ mu, ms[i]? = some mu := ⟨ms[i], by simp [hi]⟩
    obtain ⟨f1, f2⟩ := fm_at (enc := mutCs) mutCs_six hmu
    have hdr : ms.drop i = mu :: ms.drop (i + 1) := by
      obtain ⟨h1, h2⟩ := List.getElem?_eq_some_iff.1 hmu
      rw [List.drop_eq_getElem_cons h1, h2]
    rw [hdr] at hfull
    have hone : ∀ x, x ∈ mutCs mu → x.one = true := fun x hx => List.all_eq_true.1 (show (mutCs mu).all AV.one = true from rfl) x hx
    have m6 := mutCs_six mu
    have m0 : ∀ h, (mutCs mu)[0]'h = .int .i64 mu.k := fun _ => rfl
    have m1 : ((mutCs mu).tail).take 3 = k3 mu.key := rfl
    generalize hXe : ms.flatMap mutCs = X at *
    simp [t0, t11, t12, t13, t5, hi, f1, f2]
    intro y hy
    have hyn : ∀ x, H0 x ≠ none → x ≠ y := fun x hx h => by rw [← h, hold x hx] at hy; exact hx hy
    have hby : bm ≠ y := fun h => by rw [← h, hB] at hy; cases hy
    simp [t0, t11, t12, t13, t5, Heap.set_self, Heap.set_set, m6]
    refine ⟨hone, ?_⟩
    have holdy : ∀ x, H0 x ≠ none → (H.set y (some (.cells (mutCs mu) 6))) x = H0 x := fun x hx => by rw [Heap.set_ne _ _ (hyn x hx)]; exact hold x hx
    have hSy : StQ (H.set y (some (.cells (mutCs mu) 6))) s S F := hS.keep fun x hx => holdy x (hS.live hx)
    have hBy : (H.set y (some (.cells (mutCs mu) 6))) bm = some (.map (entsA encInt W)) := by rw [Heap.set_ne _ _ hby]; exact hB
    have hyy : (H.set y (some (.cells (mutCs mu) 6))) y = some (.cells (mutCs mu) 6) := Heap.set_self _ _ _
    generalize H.set y (some (.cells (mutCs mu) 6)) = Hy at *
    obtain ⟨pv, pl, pd, G1, G2, G3, j1, j2, j3, j4, _⟩ := hSy
    simp [t5, hyy, m1, m6, hBy, find_ents, lkp_ents]
    have hle100 := listK_le (k := mu.key) hok.l
    obtain ⟨n0, hn0⟩ : ∃ n0 : Int, (getK mu.key W).getD (listK mu.key S.L).length = n0 := ⟨_, rfl⟩
    have hn0b : 0 ≤ n0 ∧ n0 ≤ 100 := by
      cases hg : getK mu.key W with
      | none => rw [hg] at hn0; simp only [Option.getD_none] at hn0; omega
      | some n => rw [hg] at hn0; simp only [Option.getD_some] at hn0; have := hW _ _ hg; omega
    have w1 : IntKind.i64.wrap (n0 + 1) = n0 + 1 := wrap_i64 (by omega) (by omega)
    have hfN : fullN S.L W mu = if mu.k = 3 then n0 + 1 else if mu.k = 4 then 0 else n0 := by unfold fullN; rw [hn0]
    have back : ∀ (n : Int) (T' : Nat → AV), fullN S.L W mu = n → ¬ 100 < n → 0 ≤ n → T' 0 = .ptr s 0 → T' 11 = immM ms c → T' 12 = .int .i64 ms.length → T' 13 = .int .i64 (IntKind.i64.wrap ((i : Int) + 1)) → T' 5 = .mp bm →
        Again2 (I_full H0 s S.L ms c) m ⟨T', Hy.set bm (some (.map (msetV (.agg (k3 mu.key)) (.int .i64 n) (entsA encInt W) (midx mu.key W))))⟩ := fun n T' e1 e2 e3 q0 q11 q12 q13 q5 =>
      Again2.mk (m - 1) (by omega) ⟨i + 1, bm, mput mu.key n W, by omega, q0, q11, q12, by rw [q13, wrap_i64 (by omega) (by omega)]; rfl, q5, by rw [Heap.set_self, mset_ents], fun x hx => by rw [Heap.set_ne _ _ (fun e => hx (by rw [e]; exact hbm0))]; exact holdy x hx, hbm0,
        by rw [hfull]; show (if 100 < fullN S.L W mu then true else _) = _; rw [e1, if_neg e2], fun k n' hk => by
          rw [getK_mput] at hk
          split at hk
          · cases hk; omega
          · exact hW k n' hk⟩
    have stop : ∀ n : Int, fullN S.L W mu = n → 100 < n → true = fullS S.L [] ms := fun n e1 e2 => by
      rw [hfull]; show true = (if 100 < fullN S.L W mu then true else _); rw [e1, if_pos e2]
    cases hg : getK mu.key W
    case' none =>
      rw [hg] at hn0
      simp only [Option.getD_none] at hn0
      simp [t0, j1, hyy, m1, m6]
      refine CallQ.ofH ((k_lList j3 (by omega) mu.key).mono fun r H' h => ⟨h.2, h.1⟩) ?_
      simp [immI, hn0]
    case' some n =>
      rw [hg] at hn0
      simp only [Option.getD_some] at hn0
      simp [hn0]
    all_goals
      by_cases c3 : mu.k = 3
      · rw [if_pos c3] at hfN
        simp [hyy, m0, m6, c3, w1]
        refine ⟨fun hbig => ?_, fun hbig => ?_⟩
        · exact ⟨holdy, (stop _ hfN hbig).symm⟩
        · simp [hyy, m1, m6, t5, t13, hBy, s_Mset (find_ents mu.key W)]
          exact back _ _ hfN (by omega) (by omega) (by simp [t0]) (by simp [t11, immM, hXe]) (by simp [t12]) (by simp) (by simp [t5])
      · by_cases c4 : mu.k = 4
        · rw [if_neg c3, if_pos c4] at hfN
          simp [hyy, m0, m6, c3, c4, t5, m1, t13, hBy, s_Mset (find_ents mu.key W)]
          exact back _ _ hfN (by omega) (by omega) (by simp [t0]) (by simp [t11, immM, hXe]) (by simp [t12]) (by simp) (by simp [t5])
        · rw [if_neg c3, if_neg c4] at hfN
          have hnb : ¬ 100 < n0 := by omega
          simp [hyy, m0, m6, c3, c4, hnb, t5, m1, t13, hBy, s_Mset (find_ents mu.key W)]
          exact back _ _ hfN (by omega) (by omega) (by simp [t0]) (by simp [t11, immM, hXe]) (by simp [t12]) (by simp) (by simp [t5])
  · have hie : i = ms.length := by omega
    subst hie
    rw [List.drop_length] at hfull
    simp [t0, t11, t12, t13, t5]
    exact ⟨hold, by rw [hfull]; rfl⟩
theorem p_do1 (m : MutT) : CP PP F_state_State_Do_1 [.agg (mutCs m)] (fun v => v = .bool (!mayM m)) := by
  refine CP.by_vc ok_state_State_Do_1 (by simp) ?_
  unfold c_state_State_Do_1
  have m6 := mutCs_six m
  have t6 : (mutCs m).take 6 = mutCs m := rfl
  simp
  intro b hb
  simp [Heap.set_self, m6]
  rw [t6]
  refine CallK.pure (p_may m) ?_
  rintro _ rfl
  simp
def I_ixm (ms : List MutT) (c : Option Nat) (m : Nat) (T : Nat → AV) (H : Heap) : Prop :=
  ∃ i : Nat, i + m = ms.length ∧ T 0 = immM ms c ∧ T 1 = .fn (.func F_state_State_Do_1) [] [] ∧ T 7 = .int .i64 ms.length ∧ T 8 = .int .i64 i ∧ (ms.take i).any (fun m => !mayM m) = false
theorem p_badM {ms : List MutT} (hl : ms.length < 2 ^ 40) {c : Option Nat} : CP PP F_slices_ContainsFunc_api_Mut_api_Mut [immM ms c, .fn (.func F_state_State_Do_1) [] []] (fun v => v = .bool (ms.any fun m => !mayM m)) := by
  have hcall : callB PP F_state_State_Do_1 = true := by kernel_rfl
  have ix : CP PP F_slices_IndexFunc_api_Mut_api_Mut [immM ms c, .fn (.func F_state_State_Do_1) [] []] (fun v => ∃ z : Int, v = .int .i64 z ∧ (decide (0 ≤ z) = ms.any fun m => !mayM m)) := by
    refine CP.by_vc ok_slices_IndexFunc_api_Mut_api_Mut (by simp) ?_
    unfold c_slices_IndexFunc_api_Mut_api_Mut
    simp [immM]
    refine LoopV.mk2 (I_ixm ms c) ms.length ⟨0, by omega, by simp [immM], by simp, by simp, by simp, by simp⟩ ?_
    rintro m T H ⟨i, him, t0, t1, t7, t8, hany⟩
    simp only [immM] at t0
    by_cases hi : i < ms.length
    · obtain ⟨mu, hmu⟩ : ∃ mu, ms[i]? = some mu := ⟨ms[i], by simp [hi]⟩
      obtain ⟨f1, f2⟩ := fm_at (enc := mutCs) mutCs_six hmu
      generalize hXe : ms.flatMap mutCs = X at *
      simp [t0, t1, t7, t8, hi, f1, f2]
      refine ⟨hcall, ?_⟩
      refine CallK.pure (p_do1 mu) ?_
      rintro _ rfl
      have hlast : (ms.take (i + 1)).any (fun m => !mayM m) = !mayM mu := by
        rw [List.take_add_one, hmu, List.any_append, hany]; simp
      simp [t8]
      refine ⟨fun hb => ?_, fun hb => ?_⟩
      · obtain ⟨h1, h2⟩ := List.getElem?_eq_some_iff.1 hmu
        exact ⟨mu, List.mem_of_getElem? hmu, hb⟩
      · refine Again2.mk (m - 1) (by omega) ⟨i + 1, by omega, by simp [t0, immM, hXe], by simp [t1], by simp [t7], ?_, by rw [hlast, hb]; rfl⟩
        simp; rw [wrap_i64 (by omega) (by omega)]
    · have hie : i = ms.length := by omega
      subst hie
      rw [List.take_length] at hany
      simp [t0, t1, t7, t8]
      simpa using hany
  refine CP.by_vc ok_slices_ContainsFunc_api_Mut_api_Mut (by simp) ?_
  unfold c_slices_ContainsFunc_api_Mut_api_Mut
  have hum : un (immM ms c) = (True, immM ms c) := rfl
  simp [hum]
  refine CallK.pure ix ?_
  rintro _ ⟨z, rfl, hz⟩
  simp
  exact hz
def I_do (H0 : Heap) (s : Nat) (ms : List MutT) (c : Option Nat) (S : StT) (F : Nat → Prop) (m : Nat) (T : Nat → AV) (H : Heap) : Prop :=
  ∃ (i : Nat) (F' : Nat → Prop), i + m = ms.length ∧ T 0 = .ptr s 0 ∧ T 14 = immM ms c ∧ T 15 = .int .i64 ms.length ∧ T 16 = .int .i64 i ∧ StQ H s (doneS (ms.take i) S) F' ∧ UpdF F F' H0 H
theorem k_do0 {H : Heap} {s : Nat} {S : StT} {F : Nat → Prop} (hS : StQ H s S F) (hc : cntS S < 2 ^ 18) {ms : List MutT} (hl : ms.length < 2 ^ 18) {c : Option Nat} :
    CC PP F_state_State_Do [.ptr s 0, immM ms c] H fun r H' => r = .int .i64 (doS ms S).2 ∧ ∃ F', StQ H' s (doS ms S).1 F' ∧ UpdF F F' H H' := by
  refine CC.by_vc ok_state_State_Do (by simp) ?_
  unfold c_state_State_Do
  have hum : un (immM ms c) = (True, immM ms c) := rfl
  simp [hum]
  refine CallK.pure (p_badM (by omega)) ?_
  rintro _ rfl
  by_cases hbad : ms.any (fun m => !mayM m) = true
  · have hP : doS ms S = (S, 1) := by unfold doS; rw [if_pos hbad]
    rw [hP, hbad]
    simp
    exact ⟨F, hS, UpdF.refl _ _⟩
  have hbf : ms.any (fun m => !mayM m) = false := by simpa using hbad
  rw [hbf]
  simp [hum]
  refine CallK.of (k_full hS (by omega) (by omega)) ?_
  rintro _ H' ⟨rfl, rfl⟩
  by_cases hfull : fullS S.L [] ms = true
  · have hP : doS ms S = (S, 4) := by unfold doS; rw [if_neg hbad, if_pos hfull]
    rw [hP, hfull]
    simp
    exact ⟨F, hS, UpdF.refl _ _⟩
  have hff : fullS S.L [] ms = false := by simpa using hfull
  have hP : doS ms S = (doneS ms S, 0) := by unfold doS; rw [if_neg hbad, if_neg hfull]
  rw [hP, hff]
  simp [immM]
  refine LoopV.mk2 (I_do H' s ms c S F) ms.length ⟨0, F, by omega, by simp, by simp [immM], by simp, by simp, by simpa [doneS] using hS, UpdF.refl _ _⟩ ?_
  rintro m T H2 ⟨i, F', him, t0, t14, t15, t16, hS2, hU⟩
  simp only [immM] at t14
  by_cases hi : i < ms.length
  · obtain ⟨mu, hmu⟩ : ∃ mu, ms[i]? = some mu := ⟨ms[i], by simp [hi]⟩
    obtain ⟨f1, f2⟩ := fm_at (enc := mutCs) mutCs_six hmu
    have hone : ∀ x, x ∈ mutCs mu → x.one = true := fun x hx => List.all_eq_true.1 (show (mutCs mu).all AV.one = true from rfl) x hx
    have m6 := mutCs_six mu
    have t6 : (mutCs mu).take 6 = mutCs mu := rfl
    have hcnt := cntS_done (ms.take i) S
    rw [List.length_take] at hcnt
    have hst : doneS (ms.take (i + 1)) S = oneS mu (doneS (ms.take i) S) := by
      unfold doneS
      rw [List.take_add_one, hmu, List.foldl_append]; rfl
    generalize hXe : ms.flatMap mutCs = X at *
    simp [t0, t14, t15, t16, hi, f1, f2]
    intro y hy
    simp [t0, t14, t15, t16, Heap.set_self, Heap.set_set, m6]
    refine ⟨hone, ?_⟩
    rw [t6]
    have hyF : ¬ F' y := fun h => hS2.live h hy
    have hold : ∀ x, H2 x ≠ none → (H2.set y (some (.cells (mutCs mu) 6))) x = H2 x := fun x hx => Heap.set_ne _ _ (fun e => hx (by rw [e]; exact hy))
    have hSy : StQ (H2.set y (some (.cells (mutCs mu) 6))) s (doneS (ms.take i) S) F' := hS2.keep fun x hx => hold x (hS2.live hx)
    have hUy : UpdF F F' H' (H2.set y (some (.cells (mutCs mu) 6))) := hU.trans ⟨fun x hx hn => hold x hn, fun x hx => .inl hx⟩
    refine CallK.of (k_one hSy (by omega) mu) ?_
    rintro _ H3 ⟨rfl, F3, g1, g2⟩
    simp [t16]
    rw [← hst] at g1
    refine Again2.mk (m - 1) (by omega) ⟨i + 1, F3, by omega, by simp [t0], by simp [t14, immM, hXe], by simp [t15], ?_, g1, hUy.trans g2⟩
    simp; rw [wrap_i64 (by omega) (by omega)]
  · have hie : i = ms.length := by omega
    subst hie
    rw [List.take_length] at hS2
    simp [t0, t14, t15, t16]
    exact ⟨F', hS2, hU⟩
end Go.Proofs.YtdpbbnnlbjgjgaaGreat
set_option linter.unusedVariables false
set_option linter.unusedSimpArgs false
set_option maxRecDepth 100000
set_option maxHeartbeats 8000000
namespace Go.Proofs.YtdpbbnnlbjgjgaaGreat
open Go.Sf
theorem length_putsD (k : K3T) : ∀ (fs : FieldsL) (D : CellsK FieldsL), (putsD k fs D).length ≤ D.length + fs.length
  | [], D => Nat.le_refl _
  | q :: fs, D => by
    have h1 := length_putsD k fs (putD k q.1 q.2 D).1
    have h2 := length_put k q.1 q.2 D
    show (putsD k fs (putD k q.1 q.2 D).1).length ≤ _
    simp only [List.length_cons]; omega
theorem cntS_put {c : CellT} (hc : okCell c) (S : StT) : cntS (putS c S) ≤ cntS S + 10 := by
  have h1 := length_putsD c.1 c.2.2.2 S.D
  have h2 := length_push c.1 c.2.2.1 S.L
  have h3 : (match c.2.1 with | some n => updK c.1 n S.V | none => S.V).length ≤ S.V.length + 1 := by
    cases c.2.1 with
    | none => exact Nat.le_succ _
    | some n => exact length_upd _ _ _
  have h4 := hc.2
  show (match c.2.1 with | some n => updK c.1 n S.V | none => S.V).length + (pushL c.1 c.2.2.1 S.L).1.length + (putsD c.1 c.2.2.2 S.D).length ≤ _
  unfold cntS; omega
theorem cntS_puts : ∀ (cs : List CellT) (S : StT), (∀ c ∈ cs, okCell c) → cntS (putsS cs S) ≤ cntS S + 10 * cs.length
  | [], S, _ => by simp [putsS]
  | c :: cs, S, h => by
    have h1 := cntS_puts cs (putS c S) fun x hx => h x (by simp [hx])
    have h2 := cntS_put (h c (by simp)) S
    show cntS (putsS cs (putS c S)) ≤ _
    simp only [List.length_cons]; omega
def I_stPut (H1 : Heap) (s b : Nat) (c : CellT) (S1 : StT) (F : Nat → Prop) (m : Nat) (T : Nat → AV) (H : Heap) : Prop :=
  ∃ (i : Nat) (F' : Nat → Prop), i + m = c.2.2.2.length ∧ T 0 = .ptr s 0 ∧ T 3 = .ptr b 0 ∧ T 27 = immF c.2.2.2 ∧ T 28 = .int .i64 c.2.2.2.length ∧ T 29 = .int .i64 i ∧ StQ H s { S1 with D := putsD c.1 (c.2.2.2.take i) S1.D } F' ∧ UpdF F F' H1 H
theorem k_stPut {H : Heap} {s : Nat} {S : StT} {F : Nat → Prop} (hS : StQ H s S F) (hc : cntS S < 2 ^ 20) {c : CellT} (ho : okCell c) :
    CC PP F_state_State_put [.ptr s 0, .agg (encC c)] H fun r H' => r = .tup [] ∧ ∃ F', StQ H' s (putS c S) F' ∧ UpdF F F' H H' := by
  refine CC.by_vc ok_state_State_putN (by simp) ?_
  unfold c_state_State_putN
  unfold cntS at hc
  have e7 : (encC c).length = 7 := rfl
  have tx : (encC c).take 3 = k3 c.1 := rfl
  have x3 : ∀ h, (encC c)[3]'h = .bool c.2.1.isSome := fun _ => rfl
  have x4 : ∀ h, (encC c)[4]'h = .int .i64 (c.2.1.getD 0) := fun _ => rfl
  have x5 : ∀ h, (encC c)[5]'h = immI c.2.2.1 := fun _ => rfl
  have x6 : ∀ h, (encC c)[6]'h = immF c.2.2.2 := fun _ => rfl
  have uI : ∀ l, un (immI l) = (True, immI l) := fun _ => rfl
  have uF : ∀ l, un (immF l) = (True, immF l) := fun _ => rfl
  have hl1 := ho.1
  have hl2 := ho.2
  simp
  intro b hb
  have old : ∀ x, H x ≠ none → (H.set b (some (.cells (encC c) 7))) x = H x := fun x hx => Heap.set_ne _ _ (fun h => hx (by rw [h]; exact hb))
  simp only [e7]
  have hb1 : (H.set b (some (.cells (encC c) 7))) b = some (.cells (encC c) 7) := Heap.set_self _ _ _
  have hS1 : StQ (H.set b (some (.cells (encC c) 7))) s S F := hS.keep fun x hx => old x (hS.live hx)
  have hu0 : UpdF F F H (H.set b (some (.cells (encC c) 7))) := ⟨fun x hx hn => old x hn, fun x hx => .inl hx⟩
  have hbF : ¬ F b := fun h => hS.live h hb
  generalize H.set b (some (.cells (encC c) 7)) = H1 at *
  have hbk : ∀ {F' : Nat → Prop} {H2 : Heap}, UpdF F F' H1 H2 → H2 b = some (.cells (encC c) 7) := fun hU => by rw [hU.1 b hbF (by rw [hb1]; simp)]; exact hb1
  cases hv : c.2.1
  case' none =>
    have hbH := hb1
    have hS2 := hS1
    have hU2 : UpdF F F H1 H1 := UpdF.refl _ _
    obtain ⟨V2, H2, F2, hV2, hH2, hS3, hU3⟩ : ∃ (V2 : CellsK Int) (H2 : Heap) (F2 : Nat → Prop), V2 = (match c.2.1 with | some n => updK c.1 n S.V | none => S.V) ∧ H2 = H1 ∧ StQ H2 s { S with V := V2 } F2 ∧ UpdF F F2 H1 H2 := ⟨S.V, H1, F, by rw [hv], rfl, hS1, hU2⟩
    rw [hv] at x3
    simp [hbH, e7, x3]
    rw [← hH2]
    clear hH2
  case' some n =>
    have hS2 := hS1
    obtain ⟨pv, pl, pd, F1, F2', F3, h1, h2, h3, h4, h5, h6, h7, h8, h9⟩ := hS1
    have x3' : ∀ h, (encC c)[3]'h = .bool true := fun h => by rw [x3 h, hv]; rfl
    have x4' : ∀ h, (encC c)[4]'h = .int .i64 n := fun h => by rw [x4 h, hv]; rfl
    simp [hb1, e7, x3', x4', tx, h1]
    repeat' (refine And.intro ?_ ?_)
    all_goals
      refine CallK.of (k_vSet h2 (by omega) c.1 n) ?_
      rintro _ H2 ⟨rfl, F1', g1, g2⟩
      obtain ⟨F2, hS3, hU3⟩ := StQ.updV h1 h2 h3 h4 h5 h6 h7 h8 h9 g1 g2
      obtain ⟨V2, hV2, hV2'⟩ : ∃ V2, V2 = (match c.2.1 with | some n => updK c.1 n S.V | none => S.V) ∧ V2 = updK c.1 n S.V := ⟨_, rfl, by rw [hv]⟩
      rw [← hV2'] at hS3
      simp
  all_goals
    have hbH := hbk hU3
    have hok3 := hS3.ok
    have hlV : V2.length ≤ S.V.length + 1 := by
      rw [hV2]
      cases c.2.1 with
      | none => exact Nat.le_succ _
      | some n => exact length_upd _ _ _
    obtain ⟨qv, ql, qd, G1, G2, G3, j1, j2, j3, j4, j5, j6, j7, j8, j9⟩ := hS3
    simp [hbH, e7, x5, tx, j1, uI]
    repeat' (refine And.intro ?_ ?_)
    all_goals
      refine CallK.of (k_lPush j3 (show S.L.length < 2 ^ 28 by omega) c.1 (ns := c.2.2.1) (.inr ⟨none, rfl⟩) (by omega)) ?_
      rintro _ H4 ⟨rfl, G2', g1, g2⟩
      obtain ⟨F4, hS4, hU4⟩ := StQ.updL j1 j2 j3 j4 j5 j6 j7 j8 j9 g1 g2
      have hU5 := hU3.trans hU4
      have hbH4 := hbk hU5
      clear g1 g2 hU3 hU4 j1 j2 j3 j4 j5 j6 j7 j8 j9
      simp [hbH4, e7, x6, immF]
      refine LoopV.mk2 (I_stPut H1 s b c { S with V := V2, L := (pushL c.1 c.2.2.1 S.L).1 } F) c.2.2.2.length ⟨0, F4, by omega, by simp, by simp, by simp [immF], by simp, by simp, by simpa [putsD] using hS4, hU5⟩ ?_
      rintro m T H6 ⟨i, F6, him, t0, t3, t27, t28, t29, hS6, hU6⟩
      have hbH6 := hbk hU6
      simp only [immF] at t27
      by_cases hi : i < c.2.2.2.length
      · obtain ⟨q, hq⟩ : ∃ q, c.2.2.2[i]? = some q := ⟨c.2.2.2[i], by simp [hi]⟩
        obtain ⟨f1, f2⟩ := fm_at (enc := encFd) encFd_length hq
        rw [← fieldsA_eq] at f1 f2
        have hone : ∀ x, x ∈ encFd q → x.one = true := fun x hx => List.all_eq_true.1 (show (encFd q).all AV.one = true from rfl) x hx
        have e2 : (encFd q).length = 2 := rfl
        have q0 : ∀ h, (encFd q)[0]'h = .int .i64 q.1 := fun _ => rfl
        have q1 : ∀ h, (encFd q)[1]'h = .int .i64 q.2 := fun _ => rfl
        have hst : putsD c.1 (c.2.2.2.take (i + 1)) S.D = (putD c.1 q.1 q.2 (putsD c.1 (c.2.2.2.take i) S.D)).1 := by
          unfold putsD
          rw [List.take_add_one, hq, List.foldl_append]; rfl
        have hlD := length_putsD c.1 (c.2.2.2.take i) S.D
        rw [List.length_take] at hlD
        generalize hXe : fieldsA c.2.2.2 = X at *
        simp [t0, t3, t27, t28, t29, hi, f1, f2]
        intro y hy
        have holdy : ∀ x, H6 x ≠ none → (H6.set y (some (.cells (encFd q) 2))) x = H6 x := fun x hx => Heap.set_ne _ _ (fun e => hx (by rw [e]; exact hy))
        simp [t0, t3, t27, t28, t29, Heap.set_self, Heap.set_set, e2]
        refine ⟨hone, ?_⟩
        have hSy := hS6.keep (H' := H6.set y (some (.cells (encFd q) 2))) fun x hx => holdy x (hS6.live hx)
        have hUy : UpdF F F6 H1 (H6.set y (some (.cells (encFd q) 2))) := hU6.trans ⟨fun x hx hn => holdy x hn, fun x hx => .inl hx⟩
        have hby : (H6.set y (some (.cells (encFd q) 2))) b = some (.cells (encC c) 7) := by rw [holdy b (by rw [hbH6]; simp)]; exact hbH6
        have hyy : (H6.set y (some (.cells (encFd q) 2))) y = some (.cells (encFd q) 2) := Heap.set_self _ _ _
        generalize H6.set y (some (.cells (encFd q) 2)) = Hy at *
        obtain ⟨qv, ql, qd, G1, G2, G3, j1, j2, j3, j4, j5, j6, j7, j8, j9⟩ := hSy
        simp [t0, t3, t29, j1, hby, hyy, tx, e7, e2, q0, q1]
        repeat' (refine And.intro ?_ ?_)
        all_goals
          refine CallK.of (k_dPut j4 (show (putsD c.1 (c.2.2.2.take i) S.D).length < 2 ^ 28 by omega) c.1 q.1 q.2) ?_
          rintro _ H8 ⟨rfl, G3', w1, w2⟩
          obtain ⟨F8, hS8, hU8⟩ := StQ.updD j1 j2 j3 j4 j5 j6 j7 j8 j9 w1 w2
          simp [t29]
          refine Again2.mk (m - 1) (by omega) ⟨i + 1, F8, by omega, by simp [t0], by simp [t3], by simp [t27, immF, hXe], by simp [t28], ?_, by rw [hst]; exact hS8, hUy.trans hU8⟩
          simp; rw [wrap_i64 (by omega) (by omega)]
      · have hie : i = c.2.2.2.length := by omega
        subst hie
        rw [List.take_length] at hS6
        simp [t0, t3, t27, t28, t29]
        refine ⟨F6, ?_, hu0.trans hU6⟩
        have hP : putS c S = { V := V2, L := (pushL c.1 c.2.2.1 S.L).1, D := putsD c.1 c.2.2.2 S.D } := by
          unfold putS; rw [hV2]; rfl
        rw [hP]; exact hS6
end Go.Proofs.YtdpbbnnlbjgjgaaGreat
set_option linter.unusedVariables false
set_option linter.unusedSimpArgs false
set_option maxRecDepth 100000
set_option maxHeartbeats 8000000
namespace Go.Proofs.YtdpbbnnlbjgjgaaGreat
open Go.Sf
def I_copy (H0 : Heap) (t : Nat) (cs : List CellT) (m : Nat) (T : Nat → AV) (H : Heap) : Prop :=
  ∃ (i : Nat) (F : Nat → Prop), i + m = cs.length ∧ T 3 = .ptr t 0 ∧ T 11 = immC cs ∧ T 12 = .int .i64 cs.length ∧ T 13 = .int .i64 i ∧ StQ H t (putsS (cs.take i) StT.nil) F ∧ (∀ x, H0 x ≠ none → H x = H0 x) ∧ ∀ x, F x → H0 x = none
theorem k_copy {H : Heap} {v : AV} {S : StT} (hS : StA H v S) (hc : cntS S < 2 ^ 15) : CC PP F_state_State_Copy [v] H fun r H' => ∃ t F', r = .ptr t 0 ∧ StQ H' t S F' ∧ (∀ x, H x ≠ none → H' x = H x) ∧ ∀ x, F' x → H x = none := by
  have hok := hS.ok
  have hun : un v = (True, v) := by rcases hS with ⟨_, _, rfl, _⟩ | ⟨rfl, _⟩ <;> rfl
  refine CC.by_vc ok_state_State_Copy (by simp) ?_
  unfold c_state_State_Copy
  simp
  refine CallK.of k_stNew ?_
  rintro _ H1 ⟨t, Ft, rfl, g1, g2, g3⟩
  rcases hS with ⟨s, F, rfl, hS⟩ | ⟨rfl, rfl⟩
  · simp
    have hS1 : StQ H1 s S F := hS.keep fun x hx => g2 x (hS.live hx)
    refine CallK.of (k_cells (.inl ⟨s, F, rfl, hS1⟩) (by omega)) ?_
    rintro _ H2 ⟨rfl, rfl⟩
    have hlen : (cellsS S).length ≤ cntS S := by
      have := keysS_length S
      unfold cellsS cntS; rw [List.length_map]; omega
    have hcp : putsS (cellsS S) StT.nil = S := copyS_eq hok
    have hoc := okCells hok
    generalize cellsS S = cs at *
    simp [immC]
    refine LoopV.mk2 (I_copy H t cs) cs.length ⟨0, Ft, by omega, by simp, by simp [immC], by simp, by simp, by simpa [putsS] using g1, g2, g3⟩ ?_
    rintro m T H3 ⟨i, F3, him, t3, t11, t12, t13, hS3, hold, hfr⟩
    simp only [immC] at t11
    by_cases hi : i < cs.length
    · obtain ⟨q, hq⟩ : ∃ q, cs[i]? = some q := ⟨cs[i], by simp [hi]⟩
      obtain ⟨f1, f2⟩ := fm_at (enc := encC) encC_length hq
      have hone : ∀ x, x ∈ encC q → x.one = true := fun x hx => List.all_eq_true.1 (show (encC q).all AV.one = true from rfl) x hx
      have e7 : (encC q).length = 7 := rfl
      have t7 : (encC q).take 7 = encC q := rfl
      have hoq := hoc q (List.mem_of_getElem? hq)
      have hcnt := cntS_puts (cs.take i) StT.nil fun x hx => hoc x (List.mem_of_mem_take hx)
      rw [List.length_take] at hcnt
      have hz : cntS StT.nil = 0 := rfl
      have hst : putsS (cs.take (i + 1)) StT.nil = putS q (putsS (cs.take i) StT.nil) := by
        unfold putsS
        rw [List.take_add_one, hq, List.foldl_append]; rfl
      generalize hXe : cs.flatMap encC = X at *
      simp [t3, t11, t12, t13, hi, f1, f2]
      intro y hy
      have holdy : ∀ x, H3 x ≠ none → (H3.set y (some (.cells (encC q) 7))) x = H3 x := fun x hx => Heap.set_ne _ _ (fun e => hx (by rw [e]; exact hy))
      simp [t3, t11, t12, t13, Heap.set_self, Heap.set_set, e7]
      refine ⟨hone, ?_⟩
      rw [t7]
      have hSy := hS3.keep (H' := H3.set y (some (.cells (encC q) 7))) fun x hx => holdy x (hS3.live hx)
      refine CallK.of (k_stPut hSy (by omega) hoq) ?_
      rintro _ H4 ⟨rfl, F4, w1, w2⟩
      simp [t13]
      rw [← hst] at w1
      refine Again2.mk (m - 1) (by omega) ⟨i + 1, F4, by omega, by simp [t3], by simp [t11, immC, hXe], by simp [t12], ?_, w1, fun x hx => ?_, fun x hx => ?_⟩
      · simp; rw [wrap_i64 (by omega) (by omega)]
      · have hn3 : H3 x ≠ none := by rw [hold x hx]; exact hx
        rw [w2.1 x (fun e => hx (hfr x e)) (by rw [holdy x hn3]; exact hn3), holdy x hn3]; exact hold x hx
      · rcases w2.2 x hx with e | e
        · exact hfr x e
        · refine Classical.byContradiction fun hn => ?_
          have hn3 : H3 x ≠ none := by rw [hold x hn]; exact hn
          rw [holdy x hn3] at e; exact hn3 e
    · have hie : i = cs.length := by omega
      subst hie
      rw [List.take_length, hcp] at hS3
      simp [t3, t11, t12, t13]
      exact ⟨F3, hS3, hold, hfr⟩
  · simp
    exact ⟨Ft, g1, g2, g3⟩
end Go.Proofs.YtdpbbnnlbjgjgaaGreat
set_option linter.unusedVariables false
set_option linter.unusedSimpArgs false
set_option maxRecDepth 100000
set_option maxHeartbeats 4000000
namespace Go.Proofs.YtdpbbnnlbjgjgaaGreat
open Go.Sf
def keyN (a b c : Int) : K3T := ((a.tmod 4 + 4).tmod 4, bitsOf .i64 (· &&& ·) b 1, (c.tmod 24 + 24).tmod 24)
theorem tmod_b (a : Int) (n : Nat) (hn : 0 < n) : - (n : Int) < a.tmod n ∧ a.tmod n < n := by
  have h := Int.natAbs_tmod a (n : Int)
  have h2 : (a.tmod n).natAbs < n := by rw [h]; simp; exact Nat.mod_lt _ hn
  omega
theorem p_key (a b c : Int) : CP PP F_Rlaw7_key [.int .i64 a, .int .i64 b, .int .i64 c] (fun v => v = .agg (k3 (keyN a b c))) := by
  refine CP.by_vcC ok_Rlaw7_key (by simp) ?_
  unfold c_Rlaw7_key
  have b1 : -4 < a.tmod 4 ∧ a.tmod 4 < 4 := tmod_b a 4 (by omega)
  have b2 : -24 < c.tmod 24 ∧ c.tmod 24 < 24 := tmod_b c 24 (by omega)
  have w1 : IntKind.i64.wrap (a.tmod 4 + 4) = a.tmod 4 + 4 := wrap_i64 (by omega) (by omega)
  have w2 : IntKind.i64.wrap (c.tmod 24 + 24) = c.tmod 24 + 24 := wrap_i64 (by omega) (by omega)
  simp
  intro y hy
  simp [Heap.set_self, w1, w2, RetC, resVs, ldV]
  rfl
theorem and1 (b : Int) : 0 ≤ bitsOf .i64 (· &&& ·) b 1 ∧ bitsOf .i64 (· &&& ·) b 1 < 2 := by
  unfold bitsOf
  have h : ((BitVec.ofInt IntKind.i64.bits b) &&& (BitVec.ofInt IntKind.i64.bits 1)).toNat < 2 := by
    rw [BitVec.toNat_and]
    have e : (BitVec.ofInt IntKind.i64.bits 1).toNat = 1 := rfl
    rw [e, Nat.and_one_is_mod]; omega
  generalize ((BitVec.ofInt IntKind.i64.bits b) &&& (BitVec.ofInt IntKind.i64.bits 1)).toNat = z at *
  show 0 ≤ IntKind.i64.wrap (z : Int) ∧ IntKind.i64.wrap (z : Int) < 2
  rw [wrap_i64 (by omega) (by omega)]; omega
theorem keyN_ok (a b c : Int) : isK (keyN a b c).1 (keyN a b c).2.1 (keyN a b c).2.2 = true := by
  have b1 : -4 < a.tmod 4 ∧ a.tmod 4 < 4 := tmod_b a 4 (by omega)
  have b2 : -24 < c.tmod 24 ∧ c.tmod 24 < 24 := tmod_b c 24 (by omega)
  have h1 : (a.tmod 4 + 4).tmod 4 = (a.tmod 4 + 4) % 4 := Int.tmod_eq_emod_of_nonneg (by omega)
  have h2 : (c.tmod 24 + 24).tmod 24 = (c.tmod 24 + 24) % 24 := Int.tmod_eq_emod_of_nonneg (by omega)
  have h3 := and1 b
  unfold isK keyN
  simp only [h1, h2, Bool.and_eq_true, decide_eq_true_eq]
  omega
end Go.Proofs.YtdpbbnnlbjgjgaaGreat
