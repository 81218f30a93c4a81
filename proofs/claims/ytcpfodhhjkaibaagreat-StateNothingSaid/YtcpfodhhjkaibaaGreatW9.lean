/- StateNothing. -/
import Derived.Test.YtcpfodhhjkaibaaGreatSB
import Derived.Test.YtcpfodhhjkaibaaGreatLQ
import Derived.Test.YtcpfodhhjkaibaaGreatCL
import Derived.Test.YtcpfodhhjkaibaaGreatWR
set_option linter.unusedVariables false
set_option linter.unusedSimpArgs false
set_option maxRecDepth 100000
set_option maxHeartbeats 8000000
namespace Go.Proofs.YtcpfodhhjkaibaaGreat
open Go.Sf
attribute [local simp] s_skip s_ops s_draw s_any s_contA s_tdone s_ttwo s_top_p s_top_pick s_top_e s_top_g s_seq s_cond s_block s_loop s_exit s_ret s_mark s_then_n s_then_e s_then_r s_in_n s_in_e s_in_r s_contC s_contO s_contQ s_contT s_nil s_cons_p s_cons_pick s_cons_e s_cons_g s_qnil s_qcons_p s_qcons_pick s_qcons_e s_qcons_g s_M s_Mg s_Mq s_Mqg s_G_p s_G_pick s_G_e s_Gq_p s_Gq_pick s_Gq_e s_if s_call s_callv s_qcall s_qcallv s_getAll_nil s_getAll_cons s_put_some s_put_none s_ev_t s_ev_c s_ev_f un evP evK argT resAV lenOf_nils lenOf_imm lenOf_sl lenOf_str optI slcV binV isShift binInt binStr shiftInt pickV unV s_append s_alloc s_box s_bslice s_Bs_t s_Bs_f s_store1 s_storeN s_St1 s_St s_s2b s_markb s_Mk s_mkslice s_qbslice s_qs2b s_ret_n s_ret_r s_retc_n s_retc_r s_RV_nil s_RV_t s_RV_c s_RV1 tupOf fillC kn_int cl_int on_int kn_bool cl_bool on_bool kn_str cl_str on_str kn_nilp cl_nilp on_nilp kn_ptr cl_ptr on_ptr kn_iptr cl_iptr on_iptr kn_nils cl_nils on_nils kn_sl cl_sl on_sl kn_imm cl_imm on_imm kn_mp cl_mp on_mp kn_nilm cl_nilm on_nilm kn_fn cl_fn on_fn kn_nilf cl_nilf on_nilf kn_agg cl_agg scalEq flatEq eqV s_copy_i s_copy_s s_Cp s_clr s_clrn s_Cl s_appz s_Az s_ext s_Ov s_mapB s_mapBS s_rng s_rngn s_Rn s_nxt s_Nx0 s_ent s_mkmap s_mset s_mdel mapOf s_Mg_n s_Mqg_n s_gw_b s_gw_u s_gw_gb s_gw_f
def I_no (ms : List MutT) (a b c f : Int) (s : Nat) (F : Nat → Prop) (m : Nat) (T : Nat → AV) (H : Heap) : Prop :=
  ∃ (i : Nat) (u : AV), i + m = 20 ∧ T 0 = immM ms none ∧ T 1 = .int .i64 a ∧ T 2 = .int .i64 b ∧ T 3 = .int .i64 c ∧ T 4 = .int .i64 f ∧ T 12 = .ptr s 0 ∧ T 13 = u ∧ T 14 = .int .i64 i ∧
    OwnR H 6 (mayL ms i).length u ((mayL ms i).flatMap mutCs) ∧ StQ H s StT.nil F ∧ ∀ x, blkOf u = some x → ¬ F x
/-- A state, its copy, a key, and changes of what is not there. -/
structure NoSt (H : Heap) (s t y : Nat) (S : StT) (k : K3T) (F G : Nat → Prop) (u : AV) (more : List MutT) : Prop where
  hs : StQ H s S F
  ht : StQ H t S G
  hy : H y = some (.cells (k3 k) 3)
  ho : OwnR H 6 more.length u (more.flatMap mutCs)
  fg : ∀ x, F x → ¬ G x
  hu : ∀ x, blkOf u = some x → ¬ F x ∧ ¬ G x ∧ x ≠ y
  may : ∀ m ∈ more, mayM m = true
  nop : ∀ m ∈ more, m.k ≠ 3 ∧ oneS m S = S
theorem NoSt.step {H H' : Heap} {s t y : Nat} {S : StT} {k : K3T} {F G : Nat → Prop} {u u' : AV} {more : List MutT} {m : MutT} (h : NoSt H s t y S k F G u more) (g1 : OwnR H' 6 (more.length + 1) u' (more.flatMap mutCs ++ mutCs m))
    (g2 : KeepB H H' (blkOf u)) (g3 : ∀ b, blkOf u' = some b → H b = none ∨ blkOf u = some b) (h1 : mayM m = true) (h2 : m.k ≠ 3) (h3 : oneS m S = S) : NoSt H' s t y S k F G u' (more ++ [m]) := by
  refine ⟨h.hs.keep fun x hx => g2 x (fun e => (h.hu x e).1 hx) (h.hs.live hx), h.ht.keep fun x hx => g2 x (fun e => (h.hu x e).2.1 hx) (h.ht.live hx), ?_, ?_, h.fg, fun x hx => ?_, fun x hx => ?_, fun x hx => ?_⟩
  · rw [g2 y (fun e => (h.hu y e).2.2 rfl) (by rw [h.hy]; simp)]; exact h.hy
  · rw [List.length_append, List.flatMap_append]; simpa using g1
  · rcases g3 x hx with e | e
    · exact ⟨fun f => h.hs.live f e, fun f => h.ht.live f e, fun f => by subst f; rw [h.hy] at e; cases e⟩
    · exact h.hu x e
  · rcases List.mem_append.1 hx with hx | hx
    · exact h.may x hx
    · simp only [List.mem_singleton] at hx; subst hx; exact h1
  · rcases List.mem_append.1 hx with hx | hx
    · exact h.nop x hx
    · simp only [List.mem_singleton] at hx; subst hx; exact ⟨h2, h3⟩
theorem NoSt.what {H : Heap} {s t y : Nat} {S : StT} {k : K3T} {F G : Nat → Prop} {u : AV} {more : List MutT} (h : NoSt H s t y S k F G u more) : ∃ x, x = more := ⟨_, rfl⟩
theorem p_StateNothing (ms : List MutT) (hms : ms.length < 2 ^ 63) (hmo : ∀ m ∈ ms, okM m) (a : Int) (ha0 : IntKind.i64.min ≤ a) (ha1 : a ≤ IntKind.i64.max) (b : Int) (hb0 : IntKind.i64.min ≤ b) (hb1 : b ≤ IntKind.i64.max) (c : Int) (hc0 : IntKind.i64.min ≤ c) (hc1 : c ≤ IntKind.i64.max) (f : Int) (hf0 : IntKind.i64.min ≤ f) (hf1 : f ≤ IntKind.i64.max) :
    CP PP F_Rlaw7_StateNothing [.imm (ms.flatMap mutCs) ms.length none, .int .i64 a, .int .i64 b, .int .i64 c, .int .i64 f] (fun v => v = .bool true) := by
  refine CP.by_vc ok_Rlaw7_StateNothing (by simp) ?_
  unfold c_Rlaw7_StateNothing
  have b1 : -8 < f.tmod 8 ∧ f.tmod 8 < 8 := tmod_b f 8 (by omega)
  have w1 : IntKind.i64.wrap (f.tmod 8 + 8) = f.tmod 8 + 8 := wrap_i64 (by omega) (by omega)
  have e1 : (f.tmod 8 + 8).tmod 8 = (f.tmod 8 + 8) % 8 := Int.tmod_eq_emod_of_nonneg (by omega)
  obtain ⟨d, hd, hd0, hd1⟩ : ∃ d, (f.tmod 8 + 8).tmod 8 = d ∧ 0 ≤ d ∧ d < 8 := ⟨_, rfl, by omega, by omega⟩
  simp
  refine CallK.pure p_begun7 ?_
  rintro _ rfl
  simp
  refine CallK.of k_stNew ?_
  rintro _ H1 ⟨s, F, rfl, s1, -, -⟩
  simp
  refine LoopV.mk2 (I_no ms a b c f s F) 20 ⟨0, .nils, by omega, by simp [immM], by simp, by simp, by simp, by simp, by simp, by simp, by simp, ⟨by simp [mayL], .inl ⟨rfl, by simp [mayL]⟩⟩, s1, (fun x e => by cases e)⟩ ?_
  clear s1
  rintro m T H ⟨i, u, him, t0, t1, t2, t3, t4, t12, t13, t14, hO, hS, hu⟩
  simp only [immM] at t0
  have hun := hO.un
  have ll := mayL_le ms i
  by_cases hlt : i < ms.length ∧ i < 20
  · obtain ⟨hi, h20⟩ := hlt
    obtain ⟨mu, hmu⟩ : ∃ mu, ms[i]? = some mu := ⟨ms[i], by simp [hi]⟩
    obtain ⟨f1, f2⟩ := fm_at (enc := mutCs) mutCs_six hmu
    have h20z : (i : Int) < 20 := by omega
    have m6 := mutCs_six mu
    have hst := mayL_step hmu
    generalize hXe : ms.flatMap mutCs = X at *
    simp [t0, t13, t14, hi, h20z, f1, f2]
    refine CallK.pure (p_rMayMut mu) ?_
    rintro _ rfl
    by_cases hm : mayM mu = true
    · rw [if_pos hm] at hst
      have hc6 : cellsOf H 6 (.imm (mutCs mu) 1 (some 1)) = some (mutCs mu) := by rw [cellsOf_imm]; exact if_pos rfl
      simp [hm, t0, t13, t14, hi, f1, f2, hun, m6]
      refine vcAp_row (x := .imm (mutCs mu) 1 (some 1)) (n := (mayL ms i).length) (m := 1) (new := mutCs mu) (.inl hO) hc6 rfl rfl (by omega) rfl (by omega) (.inl (by simp [mutCs])) ?_
      intro u2 H2 g1 g2 g3
      have hun2 := g1.un
      simp [hun2, t14]
      refine Again2.mk (m - 1) (by omega) ⟨i + 1, u2, by omega, by simp [t0, immM, hXe], by simp [t1], by simp [t2], by simp [t3], by simp [t4], by simp [t12], by simp, ?_, ?_, hS.keep fun x hx => g2 x (fun e => hu x e hx) (hS.live hx), ?_⟩
      · simp; rw [wrap_i64 (by omega) (by omega)]
      · rw [hst, List.length_append, List.flatMap_append]; simpa using g1
      · intro x e
        rcases g3 x e with h | h
        · exact fun hf => hS.live hf h
        · exact hu x h
    · have hmf : mayM mu = false := by simpa using hm
      rw [if_neg hm, List.append_nil] at hst
      simp [hmf, t14]
      refine Again2.mk (m - 1) (by omega) ⟨i + 1, u, by omega, by simp [t0, immM, hXe], by simp [t1], by simp [t2], by simp [t3], by simp [t4], by simp [t12], by simp [t13], ?_, by rw [hst]; exact hO, hS, hu⟩
      simp; rw [wrap_i64 (by omega) (by omega)]
  · by_cases hi : i < ms.length
    case' pos =>
      have h20z : ¬ (i : Int) < 20 := by omega
      simp [t0, t13, t14, hi, h20z]
    case' neg =>
      simp [t0, t13, t14, hi]
    all_goals
      refine MarkV.ownS (sz := 6) 13 (by simp [t13]) hO ?_
      intro H2 hk2
      have hS2 : StQ H2 s StT.nil F := hS.keep fun x hx => hk2 x fun e => hu x e hx
      obtain ⟨l, hl⟩ : ∃ l, l = mayL ms i := ⟨_, rfl⟩
      have hll : l.length ≤ 20 := by rw [hl]; omega
      have hlm : ∀ m ∈ l, mayM m = true := by rw [hl]; exact mayL_may
      rw [← hl]
      clear hO hun hu hl hk2 hS
      have hEE : AV.imm (l.flatMap mutCs) l.length none = immM l none := rfl
      rw [hEE]
      have hum : un (immM l none) = (True, immM l none) := rfl
      have hdo := k_do0 hS2 (by decide) (ms := l) (by omega) (c := none)
      rw [doS_run okS_nil hlm, if_pos (okRun_few l StT.nil 0 okS_nil (fun k => by simp [listK, StT.nil, getK]) (by omega))] at hdo
      simp [t12, hum]
      refine CallK.of hdo ?_
      rintro _ H3 ⟨rfl, F3, hS3, -⟩
      have hcn : cntS (doneS l StT.nil) ≤ 20 := by
        have := cntS_done l StT.nil
        simp [cntS, StT.nil] at this ⊢; omega
      have hok : OkS (doneS l StT.nil) := okS_done okS_nil
      clear hS2 hdo hum hEE
      generalize doneS l StT.nil = S at *
      simp [t1, t2, t3]
      refine CallK.pure (p_key a b c) ?_
      rintro _ rfl
      have hK := keyN_ok a b c
      generalize keyN a b c = k at *
      have hk3 : (k3 k).length = 3 := rfl
      have hkone : ∀ z, z ∈ k3 k → z.one = true := fun z hz => List.all_eq_true.1 (show (k3 k).all AV.one = true from rfl) z hz
      simp
      intro y hy
      simp [Heap.set_self, Heap.set_set, w1, hd, hk3, t4, t12]
      refine ⟨hkone, ?_⟩
      have old : ∀ x, H3 x ≠ none → (H3.set y (some (.cells (k3 k) 3))) x = H3 x := fun x hx => Heap.set_ne _ _ (fun e => hx (by rw [e]; exact hy))
      have hS4 := hS3.keep fun x hx => old x (hS3.live hx)
      have hyy : (H3.set y (some (.cells (k3 k) 3))) y = some (.cells (k3 k) 3) := Heap.set_self _ _ _
      generalize H3.set y (some (.cells (k3 k) 3)) = H4 at *
      refine CallK.of (k_copy (.inl ⟨s, F3, rfl, hS4⟩) (Nat.lt_of_le_of_lt hcn (by decide))) ?_
      rintro _ H5 ⟨t, G, rfl, hT, g1, g2⟩
      have st : NoSt H5 s t y S k F3 G .nils [] := ⟨hS4.keep fun x hx => g1 x (hS4.live hx), hT, by rw [g1 y (by rw [hyy]; simp)]; exact hyy, ⟨rfl, .inl ⟨rfl, rfl⟩⟩, fun x hx hg => hS4.live hx (g2 x hg), (fun x e => by cases e), by simp, by simp⟩
      clear hS3 hS4 hT g1 g2 old hyy hkone hk3
      have hcV : S.V.length ≤ 20 := by unfold cntS at hcn; omega
      have hcL : S.L.length ≤ 20 := by unfold cntS at hcn; omega
      have hcD : S.D.length ≤ 20 := by unfold cntS at hcn; omega
      obtain ⟨kg, kn, ki⟩ := k
      simp only at hK
      have hun0 : un AV.nils = (True, AV.nils) := rfl
      obtain ⟨pv, pl, pd, F1, F2, F4, j1, j2, j3, j4, -⟩ := id st.hs
      have jy := st.hy
      simp only [k3] at jy
      simp [t12, j1, jy]
      refine CallQ.ofH ((k_vValue j2 (by omega) (kg, kn, ki)).mono fun r H' h => ⟨h.2, h.1⟩) ?_
      cases hg : getK (kg, kn, ki) S.V
      case' some w =>
        simp [t12, j1, jy]
      case' none =>
        simp [t12, j1, jy]
        refine vcAp_row (x := .imm (mutCs ⟨2, kg, kn, ki, 0, 0⟩) 1 (some 1)) (m := 1) (new := mutCs ⟨2, kg, kn, ki, 0, 0⟩) (.inl st.ho) (by rw [cellsOf_imm]; exact if_pos rfl) rfl rfl (by omega) rfl (by simp) (.inl (by simp [mutCs])) ?_
        intro u2 H6 g1 g2 g3
        replace st := st.step g1 g2 g3 (may_del (k := (kg, kn, ki)) hK) (by simp) (nop_del (k := (kg, kn, ki)) hg)
        replace hun0 := g1.un
        clear g1 g2 g3 j1 j2 j3 j4 jy
        obtain ⟨pv, pl, pd, F1, F2, F4, j1, j2, j3, j4, -⟩ := id st.hs
        have jy := st.hy
        simp only [k3] at jy
        simp [t12, j1, jy, hun0]
      all_goals
        refine CallQ.ofH ((k_lList j3 (by omega) (kg, kn, ki)).mono fun r H' h => ⟨h.2, h.1⟩) ?_
        by_cases hl : listK (kg, kn, ki) S.L = []
      case' neg | neg =>
        simp [immI, hl, t12, j1, jy, t4, w1, hd]
      case' pos | pos =>
        simp [immI, hl, t12, j1, jy, hun0]
        refine vcAp_row (x := .imm (mutCs ⟨4, kg, kn, ki, 0, 0⟩) 1 (some 1)) (m := 1) (new := mutCs ⟨4, kg, kn, ki, 0, 0⟩) (.inl st.ho) (by rw [cellsOf_imm]; exact if_pos rfl) rfl rfl (by omega) rfl (by simp) (.inl (by simp [mutCs])) ?_
        intro u2 H6 g1 g2 g3
        replace st := st.step g1 g2 g3 (may_clear (k := (kg, kn, ki)) hK) (by simp) (nop_clear hok (k := (kg, kn, ki)) hl)
        replace hun0 := g1.un
        clear g1 g2 g3 j1 j2 j3 j4 jy
        obtain ⟨pv, pl, pd, F1, F2, F4, j1, j2, j3, j4, -⟩ := id st.hs
        have jy := st.hy
        simp only [k3] at jy
        simp [t12, j1, jy, t4, w1, hd, hun0]
      all_goals
        refine CallQ.ofH ((k_dField j4 (by omega) (kg, kn, ki) d).mono fun r H' h => ⟨h.2, h.1⟩) ?_
        cases hf : getF d (dictK (kg, kn, ki) S.D)
      case' some | some | some | some =>
        simp [t12, j1, jy, t4, w1, hd]
      case' none | none | none | none =>
        simp [t12, j1, jy, t4, w1, hd, hun0]
        refine vcAp_row (x := .imm (mutCs ⟨6, kg, kn, ki, d, 0⟩) 1 (some 1)) (m := 1) (new := mutCs ⟨6, kg, kn, ki, d, 0⟩) (.inl st.ho) (by rw [cellsOf_imm]; exact if_pos rfl) rfl rfl (by omega) rfl (by simp) (.inl (by simp [mutCs])) ?_
        intro u2 H6 g1 g2 g3
        replace st := st.step g1 g2 g3 (may_cut (k := (kg, kn, ki)) hK hd0 hd1) (by simp) (nop_cut (k := (kg, kn, ki)) hf)
        replace hun0 := g1.un
        clear g1 g2 g3 j1 j2 j3 j4 jy
        obtain ⟨pv, pl, pd, F1, F2, F4, j1, j2, j3, j4, -⟩ := id st.hs
        have jy := st.hy
        simp only [k3] at jy
        simp [t12, j1, jy, t4, w1, hd, hun0]
      all_goals
        refine MarkV.ownS (sz := 6) 18 (by simp) st.ho ?_
        intro H7 hk7
        obtain ⟨more, hmo⟩ := st.what
        have hml : more.length ≤ 3 := by rw [hmo]; simp
        rw [← hmo] at st ⊢
        clear hmo
        have s7 := st.hs.keep fun x hx => hk7 x fun e => (st.hu x e).1 hx
        have t7 := st.ht.keep fun x hx => hk7 x fun e => (st.hu x e).2.1 hx
        have hEE : AV.imm (more.flatMap mutCs) more.length none = immM more none := rfl
        have hum : un (immM more none) = (True, immM more none) := rfl
        rw [hEE]
        have hdo := doS_none hok st.may st.nop
        have hfg := st.fg
        clear st hun0 hk7 j1 j2 j3 j4 jy
        simp [hum]
        refine CallK.of (k_do0 t7 (Nat.lt_of_le_of_lt hcn (by decide)) (by omega) (c := none)) ?_
        rintro _ H8 ⟨rfl, G2, t8, u8⟩
        rw [hdo] at t8
        obtain ⟨kb, kn2⟩ := keepO u8 (F := F3) hfg (fun x hx => s7.live hx)
        have s8 := s7.keep kb
        simp [hdo, t12]
        refine CallK.of (k_eqS (.inl ⟨s, F3, rfl, s8⟩) (.inl ⟨t, G2, rfl, t8⟩) (Nat.lt_of_le_of_lt hcn (by decide)) (Nat.lt_of_le_of_lt hcn (by decide))) ?_
        rintro _ _ ⟨rfl, rfl⟩
        have heq : eqS S S = true := (eqS_iff S S).2 rfl
        simp [heq]
end Go.Proofs.YtcpfodhhjkaibaaGreat
