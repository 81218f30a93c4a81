/- All frames of a text. -/
import Derived.Test.YtffifddlooligaaLF
import Derived.Test.YtffifddlooligaaN3
set_option linter.unusedVariables false
set_option linter.unusedSimpArgs false
set_option maxRecDepth 100000
namespace Go.Sf
/-- A result of which the first part is the call's own, held for good. -/
theorem holdT {P : Program} {f : FuncId} {args : List AV} {sz n : Nat} {cs rest : List AV} (h : CC P f args Heap.nil fun u H' => ∃ v, u = .tup (v :: rest) ∧ OwnR H' sz n v cs) : CP P f args fun u => u = .tup (.imm cs n none :: rest) :=
  fun M w vs h1 h2 => (h M w vs h1 h2).mono fun e w' ⟨u, x, M', H', e1, e2, e3, e4, ⟨v, hu, hl, ho⟩⟩ => by
    subst hu
    simp only [VRel, VRels] at e2
    obtain ⟨xs, hx, y, ys, hy, hv, ht⟩ := e2
    rcases ho with ⟨rfl, rfl⟩ | ⟨b, c, rfl, hb, hc⟩
    · have hcs : cs = [] := List.length_eq_zero_iff.1 (by simpa using hl)
      subst hcs
      refine ⟨_, x, M', H', e1, ?_, e3, e4, rfl⟩
      simp only [VRel, VRels]
      refine ⟨xs, hx, y, ys, hy, ?_, ht⟩
      rw [vr_nils hv]
      exact ⟨none, [], 0, rfl, fun x hx => (by cases hx), Nat.le_refl _, fun _ => ⟨rfl, rfl⟩, fun y hy => (by cases hy), rfl⟩
    · obtain ⟨M2, p1, p2, p3⟩ := hold_imm e3 hb hc (c := none) (fun x hx => by cases hx)
      refine ⟨_, x, M2, _, e1, ?_, p1, e4.trans p2, rfl⟩
      simp only [VRel, VRels]
      refine ⟨xs, hx, y, ys, hy, ?_, VRels.mono p2.mle _ _ ht⟩
      rw [vr_sl hv]
      simpa only [VRel] using p3
end Go.Sf
namespace Go.Proofs.Ytffifddlooligaa
open Go.Sf
attribute [local simp] s_skip s_ops s_draw s_any s_contA s_tdone s_ttwo s_top_p s_top_pick s_top_e s_top_g s_seq s_cond s_block s_loop s_exit s_ret s_mark s_then_n s_then_e s_then_r s_in_n s_in_e s_in_r s_contC s_contO s_contQ s_contT s_nil s_cons_p s_cons_pick s_cons_e s_cons_g s_qnil s_qcons_p s_qcons_pick s_qcons_e s_qcons_g s_M s_Mg s_Mq s_Mqg s_G_p s_G_pick s_G_e s_Gq_p s_Gq_pick s_Gq_e s_if s_call s_callv s_qcall s_qcallv s_getAll_nil s_getAll_cons s_put_some s_put_none s_ev_t s_ev_c s_ev_f un evP evK argT resAV lenOf_nils lenOf_imm lenOf_sl lenOf_str optI slcV binV isShift binInt binStr shiftInt pickV unV s_append s_alloc s_box s_bslice s_Bs_t s_Bs_f s_store1 s_storeN s_St1 s_St s_s2b s_markb s_Mk s_mkslice s_qbslice s_qs2b s_ret_n s_ret_r s_retc_n s_retc_r s_RV_nil s_RV_t s_RV_c s_RV1 tupOf fillC kn_int cl_int on_int kn_bool cl_bool on_bool kn_str cl_str on_str kn_nilp cl_nilp on_nilp kn_ptr cl_ptr on_ptr kn_iptr cl_iptr on_iptr kn_nils cl_nils on_nils kn_sl cl_sl on_sl kn_imm cl_imm on_imm kn_mp cl_mp on_mp kn_nilm cl_nilm on_nilm kn_fn cl_fn on_fn kn_nilf cl_nilf on_nilf kn_agg cl_agg scalEq flatEq eqV s_copy_i s_copy_s s_Cp s_clr s_clrn s_Cl s_appz s_Az s_ext s_Ov s_mkmap s_mset s_mdel mapOf s_Mg_n s_Mqg_n s_gw_b s_gw_u s_gw_gb s_gw_f
def bbV (ls : List (List UInt8)) : List AV := ls.map fun l => immB l none
theorem bbV_isBB (ls : List (List UInt8)) (c : Option Nat) : IsBB (.imm (bbV ls) ls.length c) ls := .inr ⟨_, c, rfl, by simp [bbV], fun i w l h1 h2 => by
  unfold bbV at h1
  rw [List.getElem?_map, h2] at h1
  simp at h1; subst h1; exact .inr ⟨none, rfl⟩⟩
def RAll (r : List (List UInt8) × Nat × Nat) : AV := .tup [.imm (bbV r.1) r.1.length none, .int .i64 r.2.1, .int .i64 r.2.2]
def I_all (l : List UInt8) (k : Nat) (T : Nat → AV) (H : Heap) : Prop :=
  ∃ (a : Nat) (ts : List (List UInt8)) (v : AV), a ≤ l.length ∧ l.length - a ≤ k ∧ ts.length ≤ a ∧ allFr l = (ts ++ (allF k (l.drop a)).1, a + (allF k (l.drop a)).2.1, (allF k (l.drop a)).2.2) ∧
    OwnR H 1 ts.length v (bbV ts) ∧ T 0 = immB l none ∧ T 2 = v ∧ T 3 = .int .i64 a
theorem k_frameAll (l : List UInt8) (hl : l.length ≤ 2 ^ 40) : CC PP F_frame_All [immB l none] Heap.nil (fun u H' => ∃ v, u = .tup (v :: [.int .i64 (allFr l).2.1, .int .i64 (allFr l).2.2]) ∧ OwnR H' 1 (allFr l).1.length v (bbV (allFr l).1)) := by
  refine CC.by_vc ok_frame_All (by simp) ?_
  unfold c_frame_All
  simp
  refine LoopV.mk2 (I_all l) l.length ⟨0, [], .nils, by omega, by omega, by simp, by simp [allFr], ⟨rfl, .inl ⟨rfl, rfl⟩⟩, by simp, by simp, by simp⟩ ?_
  rintro k T H ⟨a, ts, v, ha, hk, hts, hres, ho, t0, t2, t3⟩
  by_cases hlt : a < l.length
  · obtain ⟨k, rfl⟩ : ∃ k', k = k' + 1 := ⟨k - 1, by omega⟩
    have hne : l.drop a ≠ [] := fun e => by have := congrArg List.length e; simp at this; omega
    have hli : (a : Int) < l.length := by omega
    have hdl : (l.drop a).length = l.length - a := by simp
    have hd : List.take (l.length - a) (List.drop a (bytesV l)) = bytesV (l.drop a) := by
      rw [List.take_of_length_le (by simp [bytesV_length])]; unfold bytesV; rw [List.map_drop]
    simp [t0, t2, t3, immB, hlt]
    refine ⟨⟨by omega, bytesV_length _⟩, ?_⟩
    rw [hd, ← hdl]
    refine CallK.pure (immF (p_frameGet (l := l.drop a) (.inr ⟨none, rfl⟩) (by omega))) ?_
    rintro _ rfl
    have hgo := getFrame_ok (l := l.drop a)
    simp only [allF, if_neg hne] at hres
    generalize hg : getFrame (l.drop a) = g at *
    obtain ⟨t, m, e⟩ := g
    by_cases he : e = 0
    · subst he
      simp at hres hgo
      simp [t0, t2, t3, immB, ho.un]
      refine vcAp_row (.inl ho) (new := [immB t none]) (m := 1) rfl rfl rfl (by omega) rfl (by omega) (.inl (by simp)) ?_
      intro v' H' ho' _ _
      simp [t3, ho'.un]
      refine Again2.mk k (by omega) ⟨a + m, ts ++ [t], v', by omega, by omega, by simp; omega, ?_, ?_, by simp [t0, immB], by simp, ?_⟩
      · rw [hres]; simp [Nat.add_assoc]
      · simpa [bbV] using ho'
      · simp; rw [wrap_i64 (by omega) (by omega)]
    · simp [he] at hres
      simp [t0, t2, t3, immB, he, ho.un]
      rw [hres]
      exact ⟨v, ⟨rfl, rfl, rfl⟩, ho⟩
  · have hd : l.drop a = [] := List.drop_eq_nil_of_le (by omega)
    rw [hd, allF_nil] at hres
    have hli : ¬ (a : Int) < l.length := by omega
    simp [t0, t2, t3, immB, hlt, ho.un]
    simp at hres
    rw [hres]
    exact ⟨v, ⟨rfl, rfl, rfl⟩, ho⟩
theorem p_frameAll (l : List UInt8) (hl : l.length ≤ 2 ^ 40) : CP PP F_frame_All [immB l none] (fun u => u = RAll (allFr l)) := holdT (k_frameAll l hl)
end Go.Proofs.Ytffifddlooligaa
