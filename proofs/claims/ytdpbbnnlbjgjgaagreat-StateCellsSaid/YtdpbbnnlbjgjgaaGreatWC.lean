/- StateCells. -/
import Derived.Test.YtdpbbnnlbjgjgaaGreatCZ
import Derived.Test.YtdpbbnnlbjgjgaaGreatGR
set_option linter.unusedVariables false
set_option linter.unusedSimpArgs false
set_option maxRecDepth 100000
set_option maxHeartbeats 8000000
namespace Go.Proofs.YtdpbbnnlbjgjgaaGreat
open Go.Sf
attribute [local simp] s_skip s_ops s_draw s_any s_contA s_tdone s_ttwo s_top_p s_top_pick s_top_e s_top_g s_seq s_cond s_block s_loop s_exit s_ret s_mark s_then_n s_then_e s_then_r s_in_n s_in_e s_in_r s_contC s_contO s_contQ s_contT s_nil s_cons_p s_cons_pick s_cons_e s_cons_g s_qnil s_qcons_p s_qcons_pick s_qcons_e s_qcons_g s_M s_Mg s_Mq s_Mqg s_G_p s_G_pick s_G_e s_Gq_p s_Gq_pick s_Gq_e s_if s_call s_callv s_qcall s_qcallv s_getAll_nil s_getAll_cons s_put_some s_put_none s_ev_t s_ev_c s_ev_f un evP evK argT resAV lenOf_nils lenOf_imm lenOf_sl lenOf_str optI slcV binV isShift binInt binStr shiftInt pickV unV s_append s_alloc s_box s_bslice s_Bs_t s_Bs_f s_store1 s_storeN s_St1 s_St s_s2b s_markb s_Mk s_mkslice s_qbslice s_qs2b s_ret_n s_ret_r s_retc_n s_retc_r s_RV_nil s_RV_t s_RV_c s_RV1 tupOf fillC kn_int cl_int on_int kn_bool cl_bool on_bool kn_str cl_str on_str kn_nilp cl_nilp on_nilp kn_ptr cl_ptr on_ptr kn_iptr cl_iptr on_iptr kn_nils cl_nils on_nils kn_sl cl_sl on_sl kn_imm cl_imm on_imm kn_mp cl_mp on_mp kn_nilm cl_nilm on_nilm kn_fn cl_fn on_fn kn_nilf cl_nilf on_nilf kn_agg cl_agg scalEq flatEq eqV s_copy_i s_copy_s s_Cp s_clr s_clrn s_Cl s_appz s_Az s_ext s_Ov s_mapB s_mapBS s_rng s_rngn s_Rn s_nxt s_Nx0 s_ent s_mkmap s_mset s_mdel mapOf s_Mg_n s_Mqg_n s_gw_b s_gw_u s_gw_gb s_gw_f
/-- A state, the reference's, and another state. -/
structure ThrS (H : Heap) (a w t : Nat) (S : StT) (F : Nat → Prop) (R : StT) (G : Nat → Prop) : Prop where
  two : TwoS H a w S F
  t : StQ H t R G
  d : ∀ x, G x → ¬ F x
  o : ¬ G w
theorem ThrS.step {H H2 H3 : Heap} {a w t : Nat} {S S' R : StT} {F F2 G : Nat → Prop} (h : ThrS H a w t S F R G) (h1 : StQ H2 a S' F2) (u1 : UpdF F F2 H H2) (h2 : RefQ H3 w S') (u2 : ∀ x, x ≠ w → H2 x ≠ none → H3 x = H2 x) (hk : KeysOK S') : ThrS H3 a w t S' F2 R G :=
  have hk0 := keepO u1 h.d (fun x hx => h.t.live hx)
  have ht2 : StQ H2 t R G := h.t.keep hk0.1
  ⟨h.two.step h1 u1 h2 u2 hk, ht2.keep fun x hx => u2 x (fun e => h.o (by rw [← e]; exact hx)) (ht2.live hx), hk0.2, h.o⟩
theorem ThrS.other {H H2 : Heap} {a w t : Nat} {S R R' : StT} {F G G2 : Nat → Prop} (h : ThrS H a w t S F R G) (h1 : StQ H2 t R' G2) (u1 : UpdF G G2 H H2) : ThrS H2 a w t S F R' G2 :=
  have hk0 := keepO u1 (F := F) (fun x hx hg => h.d x hg hx) (fun x hx => h.two.s.live hx)
  have no : ¬ G2 w := fun e => (u1.2 w e).elim h.o h.two.r.live
  ⟨⟨h.two.s.keep hk0.1, h.two.r.keep (u1.1 w h.o h.two.r.live), h.two.o, h.two.k⟩, h1, fun x hx hf => hk0.2 x hf hx, no⟩
theorem cell_get {os : List CellT} {i : Nat} {o : CellT} (h : os[i]? = some o) : ((os.flatMap encC).drop (i * 7)).take 3 = k3 o.1 ∧ i * 7 + 3 ≤ (os.flatMap encC).length := by
  obtain ⟨h1, h3⟩ := fm_at (enc := encC) encC_length h
  have h2 := congrArg (fun l : List AV => l.take 3) h1
  simp only [List.take_take] at h2
  exact ⟨h2, by omega⟩
theorem cells_rise {S : StT} {i : Nat} {x y : CellT} (hx : (cellsS S)[i]? = some x) (hy : (cellsS S)[i + 1]? = some y) : lessK x.1 y.1 = true := by
  have hkm : (cellsS S).map (·.1) = keysS S := by unfold cellsS; rw [List.map_map]; exact List.map_id _
  have hr : RisK (keysS S) := risK_setOf _
  rw [← hkm] at hr
  obtain ⟨h1, e1⟩ := List.getElem?_eq_some_iff.1 hx
  obtain ⟨h2, e2⟩ := List.getElem?_eq_some_iff.1 hy
  have := List.pairwise_iff_getElem.1 hr i (i + 1) (by rw [List.length_map]; exact h1) (by rw [List.length_map]; exact h2) (by omega)
  simp only [List.getElem_map] at this
  rwa [e1, e2] at this
def I_sc1 (ms os : List MutT) (a w t : Nat) (m : Nat) (T : Nat → AV) (H : Heap) : Prop :=
  ∃ (i : Nat) (S : StT) (F G : Nat → Prop), i + m = 30 ∧ T 0 = immM ms none ∧ T 1 = immM os none ∧ T 6 = .ptr a 0 ∧ T 7 = .ptr t 0 ∧ T 8 = .ptr w 0 ∧ T 9 = .int .i64 i ∧ ThrS H a w t S F StT.nil G ∧ cntS S ≤ i
def I_sc2 (os : List MutT) (a w t : Nat) (S : StT) (m : Nat) (T : Nat → AV) (H : Heap) : Prop :=
  ∃ (i : Nat) (R : StT) (F G : Nat → Prop), i + m = 10 ∧ T 1 = immM os none ∧ T 6 = .ptr a 0 ∧ T 7 = .ptr t 0 ∧ T 8 = .ptr w 0 ∧ T 10 = .int .i64 i ∧ ThrS H a w t S F R G ∧ cntS R ≤ i
def I_sc3 (a w t : Nat) (cs : List CellT) (H0 : Heap) (m : Nat) (T : Nat → AV) (H : Heap) : Prop :=
  ∃ i : Nat, i + m = cs.length + 1 ∧ 1 ≤ i ∧ T 6 = .ptr a 0 ∧ T 7 = .ptr t 0 ∧ T 8 = .ptr w 0 ∧ T 11 = immC cs ∧ T 12 = .int .i64 i ∧ H = H0
theorem p_StateCells (ms : List MutT) (hms : ms.length < 2 ^ 63) (hmo : ∀ m ∈ ms, okM m) (os : List MutT) (hos : os.length < 2 ^ 63) (hoo : ∀ m ∈ os, okM m) : CP PP F_Rlaw7_StateCells [.imm (ms.flatMap mutCs) ms.length none, .imm (os.flatMap mutCs) os.length none] (fun v => v = .bool true) := by
  refine CP.by_vc ok_Rlaw7_StateCells (by simp) ?_
  unfold c_Rlaw7_StateCells
  simp
  refine CallK.pure p_begun7 ?_
  rintro _ rfl
  simp
  refine CallK.of k_stNew ?_
  rintro _ H1 ⟨a, F, rfl, a1, -, -⟩
  simp
  refine CallK.of k_stNew ?_
  rintro _ H2 ⟨t, G, rfl, b1, b2, b3⟩
  have a2 := a1.keep (H' := H2) fun x hx => b2 x (a1.live hx)
  have dd : ∀ x, G x → ¬ F x := fun x hx hf => a1.live hf (b3 x hx)
  simp
  refine CallK.of k_rnew ?_
  rintro _ H3 ⟨w, rfl, w0, w1, u1⟩
  have hT : ThrS H3 a w t StT.nil F StT.nil G := ⟨TwoS.new a2 w0 w1 u1, b1.keep fun x hx => u1 x (fun e => b1.live hx (by rw [e]; exact w0)), dd, fun e => b1.live e w0⟩
  have hc0 : cntS StT.nil = 0 := rfl
  simp
  refine LoopV.mk2 (I_sc1 ms os a w t) 30 ⟨0, StT.nil, F, G, by omega, by simp [immM], by simp [immM], by simp, by simp, by simp, by simp, hT, by omega⟩ ?_
  clear a1 a2 b1 b2 b3 w0 w1 u1 hT dd
  rintro m T H ⟨i, S, F, G, him, t0, t1, t6, t7, t8, t9, hT, hc⟩
  simp only [immM] at t0 t1
  by_cases hlt : i < ms.length ∧ i < 30
  case pos =>
    obtain ⟨hi, h30⟩ := hlt
    obtain ⟨mu, hmu⟩ : ∃ mu, ms[i]? = some mu := ⟨ms[i], by simp [hi]⟩
    obtain ⟨f1, f2⟩ := fm_at (enc := mutCs) mutCs_six hmu
    have h30z : (i : Int) < 30 := by omega
    have m6 := mutCs_six mu
    have wi : IntKind.i64.wrap ((i : Int) + 1) = ((i + 1 : Nat) : Int) := wrap_i64 (by omega) (by omega)
    have hxl := fm_length (enc := mutCs) mutCs_six ms
    have hi1 : (i : Int) + 1 ≤ ms.length := by omega
    have hi2 : (i : Int) ≤ i + 1 := by omega
    have hi6 : i * 6 + 6 ≤ ms.length * 6 := by omega
    generalize hXe : ms.flatMap mutCs = X at *
    simp [t0, t1, t6, t7, t8, t9, hi, h30z, f1, f2, m6, wi, hxl, hi1, hi2, hi6]
    have hmm : immM [mu] none = .imm (mutCs mu) 1 none := rfl
    have fin : ∀ (T' : Nat → AV) (H' : Heap) (F2 : Nat → Prop), T' 0 = immM ms none → T' 1 = immM os none → T' 6 = .ptr a 0 → T' 7 = .ptr t 0 → T' 8 = .ptr w 0 → T' 9 = .int .i64 (i + 1 : Nat) → ThrS H' a w t (doS [mu] S).1 F2 StT.nil G → Again2 (I_sc1 ms os a w t) m ⟨T', H'⟩ := fun T' H' F2 q0 q1 q6 q7 q8 q9 q => Again2.mk (m - 1) (by omega) ⟨i + 1, _, F2, G, by omega, q0, q1, q6, q7, q8, q9, q, by have := cntS_do [mu] S; simp at this; omega⟩
    repeat' (with_reducible refine And.intro ?_ ?_)
    all_goals
      refine CallK.of (k_do0 hT.two.s (by omega) (ms := [mu]) (by simp) (c := some 1)) ?_
      rintro _ H2 ⟨rfl, F2, a2, u2⟩
      simp [t0, t1, t6, t7, t8, t9, hi, h30z, f1, f2, m6, wi, hxl, hi1, hi2, hi6]
      refine CallK.of (k_rdo (hT.two.ref a2 u2) hT.two.ok (ms := [mu]) (by simp) (c := none)) ?_
      rintro _ H3 ⟨rfl, w3, u3⟩
      have hT3 := hT.step a2 u2 w3 u3 (keysOK_do hT.two.ok hT.two.k [mu])
      simp [t9, wi]
      refine fin _ _ _ ?_ ?_ ?_ ?_ ?_ ?_ hT3
      · simp [t0, immM, hXe]
      · simp [t1, immM]
      · simp [t6]
      · simp [t7]
      · simp [t8]
      · simp
  have hc30 : cntS S ≤ 30 := by omega
  by_cases hi : i < ms.length
  case' pos =>
    have h30z : ¬ (i : Int) < 30 := by omega
    simp [t0, t1, t6, t7, t8, t9, hi, h30z]
  case' neg =>
    simp [t0, t1, t6, t7, t8, t9, hi]
  all_goals
    refine LoopV.mk2 (I_sc2 os a w t S) 10 ⟨0, StT.nil, F, G, by omega, by simp [t1, immM], by simp [t6], by simp [t7], by simp [t8], by simp, hT, by simp [cntS, StT.nil]⟩ ?_
    clear t0 t1 t6 t7 t8 t9 hT him
    rintro m T H ⟨i, R, F, G, him, t1, t6, t7, t8, t10, hT, hcR⟩
    simp only [immM] at t1
    by_cases hlt : i < os.length ∧ i < 10
    case pos =>
      obtain ⟨hi, h10⟩ := hlt
      obtain ⟨mu, hmu⟩ : ∃ mu, os[i]? = some mu := ⟨os[i], by simp [hi]⟩
      obtain ⟨f1, f2⟩ := fm_at (enc := mutCs) mutCs_six hmu
      have h10z : (i : Int) < 10 := by omega
      have m6 := mutCs_six mu
      have wi : IntKind.i64.wrap ((i : Int) + 1) = ((i + 1 : Nat) : Int) := wrap_i64 (by omega) (by omega)
      generalize hXe : os.flatMap mutCs = X at *
      simp [t1, t6, t7, t8, t10, hi, h10z, f1, f2, m6]
      refine CallK.of (k_do0 hT.t (by omega) (ms := [mu]) (by simp) (c := some 1)) ?_
      rintro _ H2 ⟨rfl, G2, b2, u2⟩
      have hT2 := hT.other b2 u2
      have hcR2 := cntS_do [mu] R
      simp [t10, wi]
      refine Again2.mk (m - 1) (by omega) ⟨i + 1, _, F, G2, by omega, by simp [t1, immM, hXe], by simp [t6], by simp [t7], by simp [t8], by simp, hT2, by simp at hcR2; omega⟩
    have hcR10 : cntS R ≤ 10 := by omega
    clear him hcR
    by_cases hi : i < os.length
    case' pos =>
      have h10z : ¬ (i : Int) < 10 := by omega
      simp [t1, t6, t7, t8, t10, hi, h10z]
    case' neg =>
      simp [t1, t6, t7, t8, t10, hi]
    all_goals
      refine CallK.of (k_cells (.inl ⟨a, _, rfl, hT.two.s⟩) (by omega)) ?_
      rintro _ _ ⟨rfl, rfl⟩
      simp
      have huC : ∀ l, un (immC l) = (True, immC l) := fun _ => rfl
      simp [huC]
      have hcl := cells_len S
      refine LoopV.mk2 (I_sc3 a w t (cellsS S) _) (cellsS S).length ⟨1, by omega, by omega, by simp [t6], by simp [t7], by simp [t8], by simp, by simp, rfl⟩ ?_
      clear t1 t6 t7 t8 t10
      rintro m T H ⟨i, him, hi1, t6, t7, t8, t11, t12, rfl⟩
      by_cases hi : i < (cellsS S).length
      case pos =>
        obtain ⟨y, hy⟩ : ∃ y, (cellsS S)[i]? = some y := ⟨(cellsS S)[i], by simp [hi]⟩
        obtain ⟨x, hx⟩ : ∃ x, (cellsS S)[i - 1]? = some x := ⟨(cellsS S)[i - 1], by rw [List.getElem?_eq_getElem]⟩
        have hr := cells_rise hx (by rw [Nat.sub_add_cancel hi1]; exact hy)
        obtain ⟨x1, x2⟩ := cell_get hx
        obtain ⟨y1, y2⟩ := cell_get hy
        have wi : IntKind.i64.wrap ((i : Int) + 1) = ((i + 1 : Nat) : Int) := wrap_i64 (by omega) (by omega)
        have wz : IntKind.i64.wrap ((i : Int) - 1) = ((i - 1 : Nat) : Int) := by rw [wrap_i64 (by omega) (by omega)]; omega
        have hi0 : i - 1 < (cellsS S).length := by omega
        simp only [immC] at t11
        generalize hXe : (cellsS S).flatMap encC = X at *
        simp [t11, t12, hi, hi0, wz, x1, x2, y1, y2]
        refine CallK.pure (p_rLess x.1 y.1) ?_
        rintro _ rfl
        simp [hr, t12, wi]
        exact Again2.mk (m - 1) (by omega) ⟨i + 1, by omega, by omega, by simp [t6], by simp [t7], by simp [t8], by simp [t11, immC, hXe], by simp, rfl⟩
      have hmay := may_cells hT.two.ok hT.two.k
      have hload := k_load hT.t ((cellsS S).map rawC) (cellsS_raw hT.two.ok) (by rw [List.length_map]; omega)
      rw [← immC_raw, hmay.1, hmay.2, if_pos rfl, if_pos rfl] at hload
      have hiz : ¬ i < (cellsS S).length := hi
      simp [t6, t7, t8, t11, t12, immC, hi]
      refine CallK.of hload ?_
      rintro _ H5 ⟨rfl, G5, b5, u5⟩
      have hT5 := hT.other b5 u5
      simp [t6, t7]
      refine CallK.of (k_eqS (.inl ⟨a, _, rfl, hT5.two.s⟩) (.inl ⟨t, _, rfl, hT5.t⟩) (by omega) (by omega)) ?_
      rintro _ _ ⟨rfl, rfl⟩
      rw [show eqS S S = true from (eqS_iff S S).2 rfl]
      simp [t7, t8]
      refine CallK.of (k_cells (.inl ⟨t, _, rfl, hT5.t⟩) (by omega)) ?_
      rintro _ _ ⟨rfl, rfl⟩
      simp [t8]
      refine CallK.of (k_rcells hT5.two.r hT5.two.ok hT5.two.k) ?_
      rintro _ _ ⟨rfl, rfl⟩
      simp [huC]
      refine CallK.pure (p_eqS hT5.two.ok (by omega)) ?_
      rintro _ rfl
      simp
end Go.Proofs.YtdpbbnnlbjgjgaaGreat
