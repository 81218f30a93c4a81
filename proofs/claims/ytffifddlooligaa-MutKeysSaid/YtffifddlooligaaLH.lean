/- Keys of sources, records, namespaces; their order is one. -/
import Derived.Test.YtffifddlooligaaC5
import Derived.Test.YtffifddlooligaaKZ
import Derived.Test.YtffifddlooligaaL0
import Derived.Test.YtffifddlooligaaLM
import Derived.Test.YtffifddlooligaaLQ
set_option linter.unusedVariables false
set_option linter.unusedSimpArgs false
set_option maxRecDepth 100000
set_option maxHeartbeats 4000000
namespace Go.Proofs.Ytffifddlooligaa
open Go.Sf
attribute [local simp] s_skip s_ops s_draw s_any s_contA s_tdone s_ttwo s_top_p s_top_pick s_top_e s_top_g s_seq s_cond s_block s_loop s_exit s_ret s_mark s_then_n s_then_e s_then_r s_in_n s_in_e s_in_r s_contC s_contO s_contQ s_contT s_nil s_cons_p s_cons_pick s_cons_e s_cons_g s_qnil s_qcons_p s_qcons_pick s_qcons_e s_qcons_g s_M s_Mg s_Mq s_Mqg s_G_p s_G_pick s_G_e s_Gq_p s_Gq_pick s_Gq_e s_if s_call s_callv s_qcall s_qcallv s_getAll_nil s_getAll_cons s_put_some s_put_none s_ev_t s_ev_c s_ev_f un evP evK argT resAV lenOf_nils lenOf_imm lenOf_sl lenOf_str optI slcV binV isShift binInt binStr shiftInt pickV unV s_append s_alloc s_box s_bslice s_Bs_t s_Bs_f s_store1 s_storeN s_St1 s_St s_s2b s_markb s_Mk s_mkslice s_qbslice s_qs2b s_ret_n s_ret_r s_retc_n s_retc_r s_RV_nil s_RV_t s_RV_c s_RV1 tupOf fillC kn_int cl_int on_int kn_bool cl_bool on_bool kn_str cl_str on_str kn_nilp cl_nilp on_nilp kn_ptr cl_ptr on_ptr kn_iptr cl_iptr on_iptr kn_nils cl_nils on_nils kn_sl cl_sl on_sl kn_imm cl_imm on_imm kn_mp cl_mp on_mp kn_nilm cl_nilm on_nilm kn_fn cl_fn on_fn kn_nilf cl_nilf on_nilf kn_agg cl_agg scalEq flatEq eqV s_copy_i s_copy_s s_Cp s_clr s_clrn s_Cl s_appz s_Az s_ext s_Ov s_mkmap s_mset s_mdel mapOf s_Mg_n s_Mqg_n s_gw_b s_gw_u s_gw_gb s_gw_f
def mayS (s k n : Int) : Bool := decide (0 ≤ s ∧ s < 3 ∧ 0 ≤ k ∧ k < 8 ∧ (n = 0 ∨ n = 1))
theorem p_keyOf (s k n : Int) : CP PP F_mut_KeyOf [.int .i64 s, .int .i64 k, .int .i64 n] (fun v => v = if mayS s k n then .tup [.agg [.int .i64 ((8 * s + k) % 4), .int .i64 n, .int .i64 (8 * s + k)], .bool true] else .tup [.agg [.int .i64 0, .int .i64 0, .int .i64 0], .bool false]) := by
  refine CP.by_vcC ok_mut_KeyOf (by simp) ?_
  unfold c_mut_KeyOf
  simp
  intro b hb
  by_cases h : mayS s k n = true
  · have h' := h
    unfold mayS at h'
    rw [decide_eq_true_iff] at h'
    have w1 : IntKind.i64.wrap (8 * s) = 8 * s := wrap_i64 (by omega) (by omega)
    have w2 : IntKind.i64.wrap (8 * s + k) = 8 * s + k := wrap_i64 (by omega) (by omega)
    have w3 : (8 * s + k).tmod 4 = (8 * s + k) % 4 := Int.tmod_eq_emod_of_nonneg (by omega)
    simp [h, show ¬ s < 0 by omega, show ¬ 3 ≤ s by omega, show s < 3 by omega, show 0 ≤ s by omega, show ¬ k < 0 by omega, show 0 ≤ k by omega, show ¬ 8 ≤ k by omega, show k < 8 by omega, show ¬ n < 0 by omega, show 0 ≤ n by omega, show ¬ 2 ≤ n by omega, show n < 2 by omega, w1, w2, w3, Heap.set_self]
  · have h' := h
    unfold mayS at h'
    rw [decide_eq_true_iff] at h'
    simp only [Bool.not_eq_true] at h
    by_cases h1 : s < 0
    · simp [h, h1, Heap.set_self]
    by_cases h2 : 3 ≤ s
    · simp [h, h1, h2, Heap.set_self]
    by_cases h3 : k < 0
    · simp [h, h1, h2, h3, Heap.set_self]
    by_cases h4 : 8 ≤ k
    · simp [h, h1, h2, h3, h4, Heap.set_self]
    by_cases h5 : n < 0
    · simp [h, h1, h2, h3, h4, h5, Heap.set_self]
    by_cases h6 : 2 ≤ n
    · simp [h, h1, h2, h3, h4, h5, h6, Heap.set_self]
    omega
theorem p_MutKeys (a1 a2 a3 : Int) (ha : okI a1 ∧ okI a2 ∧ okI a3) (b1 b2 b3 : Int) (hb : okI b1 ∧ okI b2 ∧ okI b3) (c1 c2 c3 : Int) (hc : okI c1 ∧ okI c2 ∧ okI c3) (s : Int) (hs0 : IntKind.i64.min ≤ s) (hs1 : s ≤ IntKind.i64.max) (k : Int) (hk0 : IntKind.i64.min ≤ k) (hk1 : k ≤ IntKind.i64.max) (n : Int) (hn0 : IntKind.i64.min ≤ n) (hn1 : n ≤ IntKind.i64.max) :
    CP PP F_Rlaw1_MutKeys [.agg [.int .i64 a1, .int .i64 a2, .int .i64 a3], .agg [.int .i64 b1, .int .i64 b2, .int .i64 b3], .agg [.int .i64 c1, .int .i64 c2, .int .i64 c3], .int .i64 s, .int .i64 k, .int .i64 n] (fun v => v = .bool true) := by
  refine CP.by_vc ok_Rlaw1_MutKeys (by simp) ?_
  unfold c_Rlaw1_MutKeys
  simp
  intro x6 h6
  simp
  intro x7 h7
  simp
  intro x8 h8
  obtain ⟨n87, h8'⟩ := Heap.fresh_ne h8
  obtain ⟨n86, -⟩ := Heap.fresh_ne h8'
  obtain ⟨n76, -⟩ := Heap.fresh_ne h7
  simp
  refine CallK.pure p_begun ?_
  rintro _ rfl
  simp
  refine CallK.pure (p_keyOf s k n) ?_
  rintro _ rfl
  have L := fun (a b : Int × Int × Int) => p_less a b
  have R := fun (a b : Int × Int × Int) => p_rLess a b
  have q6 : ∀ (H : Heap) (x : Nat) (y : Option Blk), H x6 = some (.cells (k3 (a1, a2, a3)) 3) → x ≠ x6 → (H.set x y) x6 = some (.cells (k3 (a1, a2, a3)) 3) := fun H x y h hn => by rw [Heap.set_ne _ _ (Ne.symm hn)]; exact h
  have q7 : ∀ (H : Heap) (x : Nat) (y : Option Blk), H x7 = some (.cells (k3 (b1, b2, b3)) 3) → x ≠ x7 → (H.set x y) x7 = some (.cells (k3 (b1, b2, b3)) 3) := fun H x y h hn => by rw [Heap.set_ne _ _ (Ne.symm hn)]; exact h
  have q8 : ∀ (H : Heap) (x : Nat) (y : Option Blk), H x8 = some (.cells (k3 (c1, c2, c3)) 3) → x ≠ x8 → (H.set x y) x8 = some (.cells (k3 (c1, c2, c3)) 3) := fun H x y h hn => by rw [Heap.set_ne _ _ (Ne.symm hn)]; exact h
  have g6 : (((Heap.nil.set x6 (some (Blk.cells [.int .i64 a1, .int .i64 a2, .int .i64 a3] 3))).set x7 (some (Blk.cells [.int .i64 b1, .int .i64 b2, .int .i64 b3] 3))).set x8 (some (Blk.cells [.int .i64 c1, .int .i64 c2, .int .i64 c3] 3))) x6 = some (.cells (k3 (a1, a2, a3)) 3) := by
    rw [Heap.set_ne _ _ (Ne.symm n86), Heap.set_ne _ _ (Ne.symm n76), Heap.set_self]; rfl
  have g7 : (((Heap.nil.set x6 (some (Blk.cells [.int .i64 a1, .int .i64 a2, .int .i64 a3] 3))).set x7 (some (Blk.cells [.int .i64 b1, .int .i64 b2, .int .i64 b3] 3))).set x8 (some (Blk.cells [.int .i64 c1, .int .i64 c2, .int .i64 c3] 3))) x7 = some (.cells (k3 (b1, b2, b3)) 3) := by
    rw [Heap.set_ne _ _ (Ne.symm n87), Heap.set_self]; rfl
  have g8 : (((Heap.nil.set x6 (some (Blk.cells [.int .i64 a1, .int .i64 a2, .int .i64 a3] 3))).set x7 (some (Blk.cells [.int .i64 b1, .int .i64 b2, .int .i64 b3] 3))).set x8 (some (Blk.cells [.int .i64 c1, .int .i64 c2, .int .i64 c3] 3))) x8 = some (.cells (k3 (c1, c2, c3)) 3) := by
    rw [Heap.set_self]; rfl
  generalize (((Heap.nil.set x6 (some (Blk.cells [.int .i64 a1, .int .i64 a2, .int .i64 a3] 3))).set x7 (some (Blk.cells [.int .i64 b1, .int .i64 b2, .int .i64 b3] 3))).set x8 (some (Blk.cells [.int .i64 c1, .int .i64 c2, .int .i64 c3] 3))) = H at *
  by_cases h : mayS s k n = true
  · have h' := h
    unfold mayS at h'
    rw [decide_eq_true_iff] at h'
    rw [if_pos h]
    have w1 : IntKind.i64.wrap (8 * s) = 8 * s := wrap_i64 (by omega) (by omega)
    have w2 : IntKind.i64.wrap (8 * s + k) = 8 * s + k := wrap_i64 (by omega) (by omega)
    have w3 : ((8 * s + k)).tmod 4 = (8 * s + k) % 4 := Int.tmod_eq_emod_of_nonneg (by omega)
    simp
    intro x hx
    have nx6 : x ≠ x6 := fun e => by rw [e, g6] at hx; cases hx
    have nx7 : x ≠ x7 := fun e => by rw [e, g7] at hx; cases hx
    have nx8 : x ≠ x8 := fun e => by rw [e, g8] at hx; cases hx
    have g6 := q6 H x (some (Blk.cells [.int .i64 ((8 * s + k) % 4), .int .i64 n, .int .i64 (8 * s + k)] 3)) g6 nx6
    have g7 := q7 H x (some (Blk.cells [.int .i64 ((8 * s + k) % 4), .int .i64 n, .int .i64 (8 * s + k)] 3)) g7 nx7
    have g8 := q8 H x (some (Blk.cells [.int .i64 ((8 * s + k) % 4), .int .i64 n, .int .i64 (8 * s + k)] 3)) g8 nx8
    have hn : n = 0 ∨ n = 1 := by omega
    have ho : (∀ T : Nat → AV, ∀ K : AS → Prop, True) := fun _ _ => trivial
    rcases hn with rfl | rfl
    all_goals
      simp [Heap.set_self, Heap.set_set, w1, w2, w3, show 0 ≤ s by omega, show s < 3 by omega, show 0 ≤ k by omega, show k < 8 by omega, g6, g7, g8, k3]
      refine CallQ.of (p_less (a1, a2, a3) (b1, b2, b3)) ?_
      simp [Heap.set_self, Heap.set_set, g6, g7, g8, k3]
      refine CallQ.of (p_rLess (a1, a2, a3) (b1, b2, b3)) ?_
      simp [Heap.set_self, Heap.set_set, g6, g7, g8, k3]
      refine ⟨_, CallQ.of (p_less (a1, a2, a3) (a1, a2, a3)) rfl, ?_⟩
      rcases lessK_tri (a1, a2, a3) (b1, b2, b3) with hE | hE | hE
      · simp only [Prod.mk.injEq] at hE
        obtain ⟨rfl, rfl, rfl⟩ := hE
        simp [Heap.set_self, Heap.set_set, g6, g7, g8, k3, lessK_irr]
        refine ⟨_, CallQ.of (p_less (a1, a2, a3) (a1, a2, a3)) rfl, ?_⟩
        simp [Heap.set_self, Heap.set_set, g6, g7, g8, k3, lessK_irr]
        refine ⟨.bool false, ?_⟩
        simp [Heap.set_self, Heap.set_set, g6, g7, g8, k3, lessK_irr]
        refine ⟨.bool false, ?_⟩
        simp [Heap.set_self, Heap.set_set, g6, g7, g8, k3, lessK_irr]
        refine ⟨.bool false, ?_⟩
        simp [Heap.set_self, Heap.set_set, g6, g7, g8, k3, lessK_irr]
        refine CallK.pure (p_less (a1, a2, a3) (a1, a2, a3)) ?_
        rintro _ rfl
        simp [lessK_irr, g6, g7, g8, k3, Heap.set_self]
      · have hE2 := lessK_asym hE
        have hne : ¬ (a1 = b1 ∧ a2 = b2 ∧ a3 = b3) := by rintro ⟨rfl, rfl, rfl⟩; rw [lessK_irr] at hE; cases hE
        have hne1 : ¬ a1 = b1 ∨ ¬ a2 = b2 ∨ ¬ a3 = b3 := by omega
        have hne2 : (!decide (a1 = b1) || (!decide (a2 = b2) || !decide (a3 = b3))) = true := by simpa using hne1
        simp [Heap.set_self, Heap.set_set, g6, g7, g8, k3, lessK_irr, hE, hE2, hne1, hne2]
        refine ⟨_, CallQ.of (p_less (a1, a2, a3) (b1, b2, b3)) rfl, ?_⟩
        simp [Heap.set_self, Heap.set_set, g6, g7, g8, k3, lessK_irr, hE, hE2, hne1, hne2]
        refine ⟨_, CallQ.of (p_less (b1, b2, b3) (a1, a2, a3)) rfl, ?_⟩
        simp [Heap.set_self, Heap.set_set, g6, g7, g8, k3, lessK_irr, hE, hE2, hne1, hne2]
        refine ⟨_, CallQ.of (p_less (a1, a2, a3) (b1, b2, b3)) rfl, ?_⟩
        simp [Heap.set_self, Heap.set_set, g6, g7, g8, k3, lessK_irr, hE, hE2, hne1, hne2]
        refine ⟨.bool false, ?_⟩
        simp [Heap.set_self, Heap.set_set, g6, g7, g8, k3, lessK_irr, hE, hE2, hne1, hne2]
        refine CallK.pure (p_less (a1, a2, a3) (b1, b2, b3)) ?_
        rintro _ rfl
        simp [hE, g7, g8, k3, Heap.set_self]
        refine CallK.pure (p_less (b1, b2, b3) (c1, c2, c3)) ?_
        rintro _ rfl
        cases hbc : lessK (b1, b2, b3) (c1, c2, c3) with
        | false => simp [hbc, g6, g7, g8, k3, Heap.set_self]
        | true =>
          have htr := lessK_trans hE hbc
          simp [hbc, g6, g8, k3]
          refine CallK.pure (p_less (a1, a2, a3) (c1, c2, c3)) ?_
          rintro _ rfl
          simp [htr]
      · have hE2 := lessK_asym hE
        have hne : ¬ (a1 = b1 ∧ a2 = b2 ∧ a3 = b3) := by rintro ⟨rfl, rfl, rfl⟩; rw [lessK_irr] at hE; cases hE
        have hne1 : ¬ a1 = b1 ∨ ¬ a2 = b2 ∨ ¬ a3 = b3 := by omega
        have hne2 : (!decide (a1 = b1) || (!decide (a2 = b2) || !decide (a3 = b3))) = true := by simpa using hne1
        simp [Heap.set_self, Heap.set_set, g6, g7, g8, k3, lessK_irr, hE, hE2, hne1, hne2]
        refine ⟨_, CallQ.of (p_less (a1, a2, a3) (b1, b2, b3)) rfl, ?_⟩
        simp [Heap.set_self, Heap.set_set, g6, g7, g8, k3, lessK_irr, hE, hE2, hne1, hne2]
        refine ⟨.bool false, ?_⟩
        simp [Heap.set_self, Heap.set_set, g6, g7, g8, k3, lessK_irr, hE, hE2, hne1, hne2]
        refine ⟨_, CallQ.of (p_less (a1, a2, a3) (b1, b2, b3)) rfl, ?_⟩
        simp [Heap.set_self, Heap.set_set, g6, g7, g8, k3, lessK_irr, hE, hE2, hne1, hne2]
        refine ⟨_, CallQ.of (p_less (b1, b2, b3) (a1, a2, a3)) rfl, ?_⟩
        simp [Heap.set_self, Heap.set_set, g6, g7, g8, k3, lessK_irr, hE, hE2, hne1, hne2]
        refine CallK.pure (p_less (a1, a2, a3) (b1, b2, b3)) ?_
        rintro _ rfl
        simp [hE2, g6, g7, g8, k3, Heap.set_self]
  · simp only [Bool.not_eq_true] at h
    have h' := h
    unfold mayS at h'
    rw [decide_eq_false_iff_not] at h'
    rw [h]
    simp
    intro x hx
    have nx6 : x ≠ x6 := fun e => by rw [e, g6] at hx; cases hx
    have nx7 : x ≠ x7 := fun e => by rw [e, g7] at hx; cases hx
    have nx8 : x ≠ x8 := fun e => by rw [e, g8] at hx; cases hx
    have g6 := q6 H x (some (Blk.cells [.int .i64 0, .int .i64 0, .int .i64 0] 3)) g6 nx6
    have g7 := q7 H x (some (Blk.cells [.int .i64 0, .int .i64 0, .int .i64 0] 3)) g7 nx7
    have g8 := q8 H x (some (Blk.cells [.int .i64 0, .int .i64 0, .int .i64 0] 3)) g8 nx8
    have cs : ¬ 0 ≤ s ∨ (0 ≤ s ∧ ¬ s < 3) ∨ (0 ≤ s ∧ s < 3 ∧ ¬ 0 ≤ k) ∨ (0 ≤ s ∧ s < 3 ∧ 0 ≤ k ∧ ¬ k < 8) ∨ (0 ≤ s ∧ s < 3 ∧ 0 ≤ k ∧ k < 8 ∧ ¬ n = 0 ∧ ¬ n = 1) := by omega
    rcases cs with f1 | ⟨f1, f2⟩ | ⟨f1, f2, f3⟩ | ⟨f1, f2, f3, f4⟩ | ⟨f1, f2, f3, f4, f5, f6⟩
    · simp [Heap.set_self, Heap.set_set, g6, g7, g8, k3, f1]
      refine CallQ.of (p_less (a1, a2, a3) (b1, b2, b3)) ?_
      simp [Heap.set_self, Heap.set_set, g6, g7, g8, k3]
      refine CallQ.of (p_rLess (a1, a2, a3) (b1, b2, b3)) ?_
      simp [Heap.set_self, Heap.set_set, g6, g7, g8, k3]
      refine ⟨_, CallQ.of (p_less (a1, a2, a3) (a1, a2, a3)) rfl, ?_⟩
      rcases lessK_tri (a1, a2, a3) (b1, b2, b3) with hE | hE | hE
      · simp only [Prod.mk.injEq] at hE
        obtain ⟨rfl, rfl, rfl⟩ := hE
        simp [Heap.set_self, Heap.set_set, g6, g7, g8, k3, lessK_irr]
        refine ⟨_, CallQ.of (p_less (a1, a2, a3) (a1, a2, a3)) rfl, ?_⟩
        simp [Heap.set_self, Heap.set_set, g6, g7, g8, k3, lessK_irr]
        refine ⟨.bool false, ?_⟩
        simp [Heap.set_self, Heap.set_set, g6, g7, g8, k3, lessK_irr]
        refine ⟨.bool false, ?_⟩
        simp [Heap.set_self, Heap.set_set, g6, g7, g8, k3, lessK_irr]
        refine ⟨.bool false, ?_⟩
        simp [Heap.set_self, Heap.set_set, g6, g7, g8, k3, lessK_irr]
        refine CallK.pure (p_less (a1, a2, a3) (a1, a2, a3)) ?_
        rintro _ rfl
        simp [lessK_irr, g6, g7, g8, k3, Heap.set_self]
      · have hE2 := lessK_asym hE
        have hne : ¬ (a1 = b1 ∧ a2 = b2 ∧ a3 = b3) := by rintro ⟨rfl, rfl, rfl⟩; rw [lessK_irr] at hE; cases hE
        have hne1 : ¬ a1 = b1 ∨ ¬ a2 = b2 ∨ ¬ a3 = b3 := by omega
        have hne2 : (!decide (a1 = b1) || (!decide (a2 = b2) || !decide (a3 = b3))) = true := by simpa using hne1
        simp [Heap.set_self, Heap.set_set, g6, g7, g8, k3, lessK_irr, hE, hE2, hne1, hne2]
        refine ⟨_, CallQ.of (p_less (a1, a2, a3) (b1, b2, b3)) rfl, ?_⟩
        simp [Heap.set_self, Heap.set_set, g6, g7, g8, k3, lessK_irr, hE, hE2, hne1, hne2]
        refine ⟨_, CallQ.of (p_less (b1, b2, b3) (a1, a2, a3)) rfl, ?_⟩
        simp [Heap.set_self, Heap.set_set, g6, g7, g8, k3, lessK_irr, hE, hE2, hne1, hne2]
        refine ⟨_, CallQ.of (p_less (a1, a2, a3) (b1, b2, b3)) rfl, ?_⟩
        simp [Heap.set_self, Heap.set_set, g6, g7, g8, k3, lessK_irr, hE, hE2, hne1, hne2]
        refine ⟨.bool false, ?_⟩
        simp [Heap.set_self, Heap.set_set, g6, g7, g8, k3, lessK_irr, hE, hE2, hne1, hne2]
        refine CallK.pure (p_less (a1, a2, a3) (b1, b2, b3)) ?_
        rintro _ rfl
        simp [hE, g7, g8, k3, Heap.set_self]
        refine CallK.pure (p_less (b1, b2, b3) (c1, c2, c3)) ?_
        rintro _ rfl
        cases hbc : lessK (b1, b2, b3) (c1, c2, c3) with
        | false => simp [hbc, g6, g7, g8, k3, Heap.set_self]
        | true =>
          have htr := lessK_trans hE hbc
          simp [hbc, g6, g8, k3]
          refine CallK.pure (p_less (a1, a2, a3) (c1, c2, c3)) ?_
          rintro _ rfl
          simp [htr]
      · have hE2 := lessK_asym hE
        have hne : ¬ (a1 = b1 ∧ a2 = b2 ∧ a3 = b3) := by rintro ⟨rfl, rfl, rfl⟩; rw [lessK_irr] at hE; cases hE
        have hne1 : ¬ a1 = b1 ∨ ¬ a2 = b2 ∨ ¬ a3 = b3 := by omega
        have hne2 : (!decide (a1 = b1) || (!decide (a2 = b2) || !decide (a3 = b3))) = true := by simpa using hne1
        simp [Heap.set_self, Heap.set_set, g6, g7, g8, k3, lessK_irr, hE, hE2, hne1, hne2]
        refine ⟨_, CallQ.of (p_less (a1, a2, a3) (b1, b2, b3)) rfl, ?_⟩
        simp [Heap.set_self, Heap.set_set, g6, g7, g8, k3, lessK_irr, hE, hE2, hne1, hne2]
        refine ⟨.bool false, ?_⟩
        simp [Heap.set_self, Heap.set_set, g6, g7, g8, k3, lessK_irr, hE, hE2, hne1, hne2]
        refine ⟨_, CallQ.of (p_less (a1, a2, a3) (b1, b2, b3)) rfl, ?_⟩
        simp [Heap.set_self, Heap.set_set, g6, g7, g8, k3, lessK_irr, hE, hE2, hne1, hne2]
        refine ⟨_, CallQ.of (p_less (b1, b2, b3) (a1, a2, a3)) rfl, ?_⟩
        simp [Heap.set_self, Heap.set_set, g6, g7, g8, k3, lessK_irr, hE, hE2, hne1, hne2]
        refine CallK.pure (p_less (a1, a2, a3) (b1, b2, b3)) ?_
        rintro _ rfl
        simp [hE2, g6, g7, g8, k3, Heap.set_self]
    · simp [Heap.set_self, Heap.set_set, g6, g7, g8, k3, f1, f2]
      refine CallQ.of (p_less (a1, a2, a3) (b1, b2, b3)) ?_
      simp [Heap.set_self, Heap.set_set, g6, g7, g8, k3]
      refine CallQ.of (p_rLess (a1, a2, a3) (b1, b2, b3)) ?_
      simp [Heap.set_self, Heap.set_set, g6, g7, g8, k3]
      refine ⟨_, CallQ.of (p_less (a1, a2, a3) (a1, a2, a3)) rfl, ?_⟩
      rcases lessK_tri (a1, a2, a3) (b1, b2, b3) with hE | hE | hE
      · simp only [Prod.mk.injEq] at hE
        obtain ⟨rfl, rfl, rfl⟩ := hE
        simp [Heap.set_self, Heap.set_set, g6, g7, g8, k3, lessK_irr]
        refine ⟨_, CallQ.of (p_less (a1, a2, a3) (a1, a2, a3)) rfl, ?_⟩
        simp [Heap.set_self, Heap.set_set, g6, g7, g8, k3, lessK_irr]
        refine ⟨.bool false, ?_⟩
        simp [Heap.set_self, Heap.set_set, g6, g7, g8, k3, lessK_irr]
        refine ⟨.bool false, ?_⟩
        simp [Heap.set_self, Heap.set_set, g6, g7, g8, k3, lessK_irr]
        refine ⟨.bool false, ?_⟩
        simp [Heap.set_self, Heap.set_set, g6, g7, g8, k3, lessK_irr]
        refine CallK.pure (p_less (a1, a2, a3) (a1, a2, a3)) ?_
        rintro _ rfl
        simp [lessK_irr, g6, g7, g8, k3, Heap.set_self]
      · have hE2 := lessK_asym hE
        have hne : ¬ (a1 = b1 ∧ a2 = b2 ∧ a3 = b3) := by rintro ⟨rfl, rfl, rfl⟩; rw [lessK_irr] at hE; cases hE
        have hne1 : ¬ a1 = b1 ∨ ¬ a2 = b2 ∨ ¬ a3 = b3 := by omega
        have hne2 : (!decide (a1 = b1) || (!decide (a2 = b2) || !decide (a3 = b3))) = true := by simpa using hne1
        simp [Heap.set_self, Heap.set_set, g6, g7, g8, k3, lessK_irr, hE, hE2, hne1, hne2]
        refine ⟨_, CallQ.of (p_less (a1, a2, a3) (b1, b2, b3)) rfl, ?_⟩
        simp [Heap.set_self, Heap.set_set, g6, g7, g8, k3, lessK_irr, hE, hE2, hne1, hne2]
        refine ⟨_, CallQ.of (p_less (b1, b2, b3) (a1, a2, a3)) rfl, ?_⟩
        simp [Heap.set_self, Heap.set_set, g6, g7, g8, k3, lessK_irr, hE, hE2, hne1, hne2]
        refine ⟨_, CallQ.of (p_less (a1, a2, a3) (b1, b2, b3)) rfl, ?_⟩
        simp [Heap.set_self, Heap.set_set, g6, g7, g8, k3, lessK_irr, hE, hE2, hne1, hne2]
        refine ⟨.bool false, ?_⟩
        simp [Heap.set_self, Heap.set_set, g6, g7, g8, k3, lessK_irr, hE, hE2, hne1, hne2]
        refine CallK.pure (p_less (a1, a2, a3) (b1, b2, b3)) ?_
        rintro _ rfl
        simp [hE, g7, g8, k3, Heap.set_self]
        refine CallK.pure (p_less (b1, b2, b3) (c1, c2, c3)) ?_
        rintro _ rfl
        cases hbc : lessK (b1, b2, b3) (c1, c2, c3) with
        | false => simp [hbc, g6, g7, g8, k3, Heap.set_self]
        | true =>
          have htr := lessK_trans hE hbc
          simp [hbc, g6, g8, k3]
          refine CallK.pure (p_less (a1, a2, a3) (c1, c2, c3)) ?_
          rintro _ rfl
          simp [htr]
      · have hE2 := lessK_asym hE
        have hne : ¬ (a1 = b1 ∧ a2 = b2 ∧ a3 = b3) := by rintro ⟨rfl, rfl, rfl⟩; rw [lessK_irr] at hE; cases hE
        have hne1 : ¬ a1 = b1 ∨ ¬ a2 = b2 ∨ ¬ a3 = b3 := by omega
        have hne2 : (!decide (a1 = b1) || (!decide (a2 = b2) || !decide (a3 = b3))) = true := by simpa using hne1
        simp [Heap.set_self, Heap.set_set, g6, g7, g8, k3, lessK_irr, hE, hE2, hne1, hne2]
        refine ⟨_, CallQ.of (p_less (a1, a2, a3) (b1, b2, b3)) rfl, ?_⟩
        simp [Heap.set_self, Heap.set_set, g6, g7, g8, k3, lessK_irr, hE, hE2, hne1, hne2]
        refine ⟨.bool false, ?_⟩
        simp [Heap.set_self, Heap.set_set, g6, g7, g8, k3, lessK_irr, hE, hE2, hne1, hne2]
        refine ⟨_, CallQ.of (p_less (a1, a2, a3) (b1, b2, b3)) rfl, ?_⟩
        simp [Heap.set_self, Heap.set_set, g6, g7, g8, k3, lessK_irr, hE, hE2, hne1, hne2]
        refine ⟨_, CallQ.of (p_less (b1, b2, b3) (a1, a2, a3)) rfl, ?_⟩
        simp [Heap.set_self, Heap.set_set, g6, g7, g8, k3, lessK_irr, hE, hE2, hne1, hne2]
        refine CallK.pure (p_less (a1, a2, a3) (b1, b2, b3)) ?_
        rintro _ rfl
        simp [hE2, g6, g7, g8, k3, Heap.set_self]
    · simp [Heap.set_self, Heap.set_set, g6, g7, g8, k3, f1, f2, f3]
      refine CallQ.of (p_less (a1, a2, a3) (b1, b2, b3)) ?_
      simp [Heap.set_self, Heap.set_set, g6, g7, g8, k3]
      refine CallQ.of (p_rLess (a1, a2, a3) (b1, b2, b3)) ?_
      simp [Heap.set_self, Heap.set_set, g6, g7, g8, k3]
      refine ⟨_, CallQ.of (p_less (a1, a2, a3) (a1, a2, a3)) rfl, ?_⟩
      rcases lessK_tri (a1, a2, a3) (b1, b2, b3) with hE | hE | hE
      · simp only [Prod.mk.injEq] at hE
        obtain ⟨rfl, rfl, rfl⟩ := hE
        simp [Heap.set_self, Heap.set_set, g6, g7, g8, k3, lessK_irr]
        refine ⟨_, CallQ.of (p_less (a1, a2, a3) (a1, a2, a3)) rfl, ?_⟩
        simp [Heap.set_self, Heap.set_set, g6, g7, g8, k3, lessK_irr]
        refine ⟨.bool false, ?_⟩
        simp [Heap.set_self, Heap.set_set, g6, g7, g8, k3, lessK_irr]
        refine ⟨.bool false, ?_⟩
        simp [Heap.set_self, Heap.set_set, g6, g7, g8, k3, lessK_irr]
        refine ⟨.bool false, ?_⟩
        simp [Heap.set_self, Heap.set_set, g6, g7, g8, k3, lessK_irr]
        refine CallK.pure (p_less (a1, a2, a3) (a1, a2, a3)) ?_
        rintro _ rfl
        simp [lessK_irr, g6, g7, g8, k3, Heap.set_self]
      · have hE2 := lessK_asym hE
        have hne : ¬ (a1 = b1 ∧ a2 = b2 ∧ a3 = b3) := by rintro ⟨rfl, rfl, rfl⟩; rw [lessK_irr] at hE; cases hE
        have hne1 : ¬ a1 = b1 ∨ ¬ a2 = b2 ∨ ¬ a3 = b3 := by omega
        have hne2 : (!decide (a1 = b1) || (!decide (a2 = b2) || !decide (a3 = b3))) = true := by simpa using hne1
        simp [Heap.set_self, Heap.set_set, g6, g7, g8, k3, lessK_irr, hE, hE2, hne1, hne2]
        refine ⟨_, CallQ.of (p_less (a1, a2, a3) (b1, b2, b3)) rfl, ?_⟩
        simp [Heap.set_self, Heap.set_set, g6, g7, g8, k3, lessK_irr, hE, hE2, hne1, hne2]
        refine ⟨_, CallQ.of (p_less (b1, b2, b3) (a1, a2, a3)) rfl, ?_⟩
        simp [Heap.set_self, Heap.set_set, g6, g7, g8, k3, lessK_irr, hE, hE2, hne1, hne2]
        refine ⟨_, CallQ.of (p_less (a1, a2, a3) (b1, b2, b3)) rfl, ?_⟩
        simp [Heap.set_self, Heap.set_set, g6, g7, g8, k3, lessK_irr, hE, hE2, hne1, hne2]
        refine ⟨.bool false, ?_⟩
        simp [Heap.set_self, Heap.set_set, g6, g7, g8, k3, lessK_irr, hE, hE2, hne1, hne2]
        refine CallK.pure (p_less (a1, a2, a3) (b1, b2, b3)) ?_
        rintro _ rfl
        simp [hE, g7, g8, k3, Heap.set_self]
        refine CallK.pure (p_less (b1, b2, b3) (c1, c2, c3)) ?_
        rintro _ rfl
        cases hbc : lessK (b1, b2, b3) (c1, c2, c3) with
        | false => simp [hbc, g6, g7, g8, k3, Heap.set_self]
        | true =>
          have htr := lessK_trans hE hbc
          simp [hbc, g6, g8, k3]
          refine CallK.pure (p_less (a1, a2, a3) (c1, c2, c3)) ?_
          rintro _ rfl
          simp [htr]
      · have hE2 := lessK_asym hE
        have hne : ¬ (a1 = b1 ∧ a2 = b2 ∧ a3 = b3) := by rintro ⟨rfl, rfl, rfl⟩; rw [lessK_irr] at hE; cases hE
        have hne1 : ¬ a1 = b1 ∨ ¬ a2 = b2 ∨ ¬ a3 = b3 := by omega
        have hne2 : (!decide (a1 = b1) || (!decide (a2 = b2) || !decide (a3 = b3))) = true := by simpa using hne1
        simp [Heap.set_self, Heap.set_set, g6, g7, g8, k3, lessK_irr, hE, hE2, hne1, hne2]
        refine ⟨_, CallQ.of (p_less (a1, a2, a3) (b1, b2, b3)) rfl, ?_⟩
        simp [Heap.set_self, Heap.set_set, g6, g7, g8, k3, lessK_irr, hE, hE2, hne1, hne2]
        refine ⟨.bool false, ?_⟩
        simp [Heap.set_self, Heap.set_set, g6, g7, g8, k3, lessK_irr, hE, hE2, hne1, hne2]
        refine ⟨_, CallQ.of (p_less (a1, a2, a3) (b1, b2, b3)) rfl, ?_⟩
        simp [Heap.set_self, Heap.set_set, g6, g7, g8, k3, lessK_irr, hE, hE2, hne1, hne2]
        refine ⟨_, CallQ.of (p_less (b1, b2, b3) (a1, a2, a3)) rfl, ?_⟩
        simp [Heap.set_self, Heap.set_set, g6, g7, g8, k3, lessK_irr, hE, hE2, hne1, hne2]
        refine CallK.pure (p_less (a1, a2, a3) (b1, b2, b3)) ?_
        rintro _ rfl
        simp [hE2, g6, g7, g8, k3, Heap.set_self]
    · simp [Heap.set_self, Heap.set_set, g6, g7, g8, k3, f1, f2, f3, f4]
      refine CallQ.of (p_less (a1, a2, a3) (b1, b2, b3)) ?_
      simp [Heap.set_self, Heap.set_set, g6, g7, g8, k3]
      refine CallQ.of (p_rLess (a1, a2, a3) (b1, b2, b3)) ?_
      simp [Heap.set_self, Heap.set_set, g6, g7, g8, k3]
      refine ⟨_, CallQ.of (p_less (a1, a2, a3) (a1, a2, a3)) rfl, ?_⟩
      rcases lessK_tri (a1, a2, a3) (b1, b2, b3) with hE | hE | hE
      · simp only [Prod.mk.injEq] at hE
        obtain ⟨rfl, rfl, rfl⟩ := hE
        simp [Heap.set_self, Heap.set_set, g6, g7, g8, k3, lessK_irr]
        refine ⟨_, CallQ.of (p_less (a1, a2, a3) (a1, a2, a3)) rfl, ?_⟩
        simp [Heap.set_self, Heap.set_set, g6, g7, g8, k3, lessK_irr]
        refine ⟨.bool false, ?_⟩
        simp [Heap.set_self, Heap.set_set, g6, g7, g8, k3, lessK_irr]
        refine ⟨.bool false, ?_⟩
        simp [Heap.set_self, Heap.set_set, g6, g7, g8, k3, lessK_irr]
        refine ⟨.bool false, ?_⟩
        simp [Heap.set_self, Heap.set_set, g6, g7, g8, k3, lessK_irr]
        refine CallK.pure (p_less (a1, a2, a3) (a1, a2, a3)) ?_
        rintro _ rfl
        simp [lessK_irr, g6, g7, g8, k3, Heap.set_self]
      · have hE2 := lessK_asym hE
        have hne : ¬ (a1 = b1 ∧ a2 = b2 ∧ a3 = b3) := by rintro ⟨rfl, rfl, rfl⟩; rw [lessK_irr] at hE; cases hE
        have hne1 : ¬ a1 = b1 ∨ ¬ a2 = b2 ∨ ¬ a3 = b3 := by omega
        have hne2 : (!decide (a1 = b1) || (!decide (a2 = b2) || !decide (a3 = b3))) = true := by simpa using hne1
        simp [Heap.set_self, Heap.set_set, g6, g7, g8, k3, lessK_irr, hE, hE2, hne1, hne2]
        refine ⟨_, CallQ.of (p_less (a1, a2, a3) (b1, b2, b3)) rfl, ?_⟩
        simp [Heap.set_self, Heap.set_set, g6, g7, g8, k3, lessK_irr, hE, hE2, hne1, hne2]
        refine ⟨_, CallQ.of (p_less (b1, b2, b3) (a1, a2, a3)) rfl, ?_⟩
        simp [Heap.set_self, Heap.set_set, g6, g7, g8, k3, lessK_irr, hE, hE2, hne1, hne2]
        refine ⟨_, CallQ.of (p_less (a1, a2, a3) (b1, b2, b3)) rfl, ?_⟩
        simp [Heap.set_self, Heap.set_set, g6, g7, g8, k3, lessK_irr, hE, hE2, hne1, hne2]
        refine ⟨.bool false, ?_⟩
        simp [Heap.set_self, Heap.set_set, g6, g7, g8, k3, lessK_irr, hE, hE2, hne1, hne2]
        refine CallK.pure (p_less (a1, a2, a3) (b1, b2, b3)) ?_
        rintro _ rfl
        simp [hE, g7, g8, k3, Heap.set_self]
        refine CallK.pure (p_less (b1, b2, b3) (c1, c2, c3)) ?_
        rintro _ rfl
        cases hbc : lessK (b1, b2, b3) (c1, c2, c3) with
        | false => simp [hbc, g6, g7, g8, k3, Heap.set_self]
        | true =>
          have htr := lessK_trans hE hbc
          simp [hbc, g6, g8, k3]
          refine CallK.pure (p_less (a1, a2, a3) (c1, c2, c3)) ?_
          rintro _ rfl
          simp [htr]
      · have hE2 := lessK_asym hE
        have hne : ¬ (a1 = b1 ∧ a2 = b2 ∧ a3 = b3) := by rintro ⟨rfl, rfl, rfl⟩; rw [lessK_irr] at hE; cases hE
        have hne1 : ¬ a1 = b1 ∨ ¬ a2 = b2 ∨ ¬ a3 = b3 := by omega
        have hne2 : (!decide (a1 = b1) || (!decide (a2 = b2) || !decide (a3 = b3))) = true := by simpa using hne1
        simp [Heap.set_self, Heap.set_set, g6, g7, g8, k3, lessK_irr, hE, hE2, hne1, hne2]
        refine ⟨_, CallQ.of (p_less (a1, a2, a3) (b1, b2, b3)) rfl, ?_⟩
        simp [Heap.set_self, Heap.set_set, g6, g7, g8, k3, lessK_irr, hE, hE2, hne1, hne2]
        refine ⟨.bool false, ?_⟩
        simp [Heap.set_self, Heap.set_set, g6, g7, g8, k3, lessK_irr, hE, hE2, hne1, hne2]
        refine ⟨_, CallQ.of (p_less (a1, a2, a3) (b1, b2, b3)) rfl, ?_⟩
        simp [Heap.set_self, Heap.set_set, g6, g7, g8, k3, lessK_irr, hE, hE2, hne1, hne2]
        refine ⟨_, CallQ.of (p_less (b1, b2, b3) (a1, a2, a3)) rfl, ?_⟩
        simp [Heap.set_self, Heap.set_set, g6, g7, g8, k3, lessK_irr, hE, hE2, hne1, hne2]
        refine CallK.pure (p_less (a1, a2, a3) (b1, b2, b3)) ?_
        rintro _ rfl
        simp [hE2, g6, g7, g8, k3, Heap.set_self]
    · simp [Heap.set_self, Heap.set_set, g6, g7, g8, k3, f1, f2, f3, f4, f5, f6]
      refine CallQ.of (p_less (a1, a2, a3) (b1, b2, b3)) ?_
      simp [Heap.set_self, Heap.set_set, g6, g7, g8, k3]
      refine CallQ.of (p_rLess (a1, a2, a3) (b1, b2, b3)) ?_
      simp [Heap.set_self, Heap.set_set, g6, g7, g8, k3]
      refine ⟨_, CallQ.of (p_less (a1, a2, a3) (a1, a2, a3)) rfl, ?_⟩
      rcases lessK_tri (a1, a2, a3) (b1, b2, b3) with hE | hE | hE
      · simp only [Prod.mk.injEq] at hE
        obtain ⟨rfl, rfl, rfl⟩ := hE
        simp [Heap.set_self, Heap.set_set, g6, g7, g8, k3, lessK_irr]
        refine ⟨_, CallQ.of (p_less (a1, a2, a3) (a1, a2, a3)) rfl, ?_⟩
        simp [Heap.set_self, Heap.set_set, g6, g7, g8, k3, lessK_irr]
        refine ⟨.bool false, ?_⟩
        simp [Heap.set_self, Heap.set_set, g6, g7, g8, k3, lessK_irr]
        refine ⟨.bool false, ?_⟩
        simp [Heap.set_self, Heap.set_set, g6, g7, g8, k3, lessK_irr]
        refine ⟨.bool false, ?_⟩
        simp [Heap.set_self, Heap.set_set, g6, g7, g8, k3, lessK_irr]
        refine CallK.pure (p_less (a1, a2, a3) (a1, a2, a3)) ?_
        rintro _ rfl
        simp [lessK_irr, g6, g7, g8, k3, Heap.set_self]
      · have hE2 := lessK_asym hE
        have hne : ¬ (a1 = b1 ∧ a2 = b2 ∧ a3 = b3) := by rintro ⟨rfl, rfl, rfl⟩; rw [lessK_irr] at hE; cases hE
        have hne1 : ¬ a1 = b1 ∨ ¬ a2 = b2 ∨ ¬ a3 = b3 := by omega
        have hne2 : (!decide (a1 = b1) || (!decide (a2 = b2) || !decide (a3 = b3))) = true := by simpa using hne1
        simp [Heap.set_self, Heap.set_set, g6, g7, g8, k3, lessK_irr, hE, hE2, hne1, hne2]
        refine ⟨_, CallQ.of (p_less (a1, a2, a3) (b1, b2, b3)) rfl, ?_⟩
        simp [Heap.set_self, Heap.set_set, g6, g7, g8, k3, lessK_irr, hE, hE2, hne1, hne2]
        refine ⟨_, CallQ.of (p_less (b1, b2, b3) (a1, a2, a3)) rfl, ?_⟩
        simp [Heap.set_self, Heap.set_set, g6, g7, g8, k3, lessK_irr, hE, hE2, hne1, hne2]
        refine ⟨_, CallQ.of (p_less (a1, a2, a3) (b1, b2, b3)) rfl, ?_⟩
        simp [Heap.set_self, Heap.set_set, g6, g7, g8, k3, lessK_irr, hE, hE2, hne1, hne2]
        refine ⟨.bool false, ?_⟩
        simp [Heap.set_self, Heap.set_set, g6, g7, g8, k3, lessK_irr, hE, hE2, hne1, hne2]
        refine CallK.pure (p_less (a1, a2, a3) (b1, b2, b3)) ?_
        rintro _ rfl
        simp [hE, g7, g8, k3, Heap.set_self]
        refine CallK.pure (p_less (b1, b2, b3) (c1, c2, c3)) ?_
        rintro _ rfl
        cases hbc : lessK (b1, b2, b3) (c1, c2, c3) with
        | false => simp [hbc, g6, g7, g8, k3, Heap.set_self]
        | true =>
          have htr := lessK_trans hE hbc
          simp [hbc, g6, g8, k3]
          refine CallK.pure (p_less (a1, a2, a3) (c1, c2, c3)) ?_
          rintro _ rfl
          simp [htr]
      · have hE2 := lessK_asym hE
        have hne : ¬ (a1 = b1 ∧ a2 = b2 ∧ a3 = b3) := by rintro ⟨rfl, rfl, rfl⟩; rw [lessK_irr] at hE; cases hE
        have hne1 : ¬ a1 = b1 ∨ ¬ a2 = b2 ∨ ¬ a3 = b3 := by omega
        have hne2 : (!decide (a1 = b1) || (!decide (a2 = b2) || !decide (a3 = b3))) = true := by simpa using hne1
        simp [Heap.set_self, Heap.set_set, g6, g7, g8, k3, lessK_irr, hE, hE2, hne1, hne2]
        refine ⟨_, CallQ.of (p_less (a1, a2, a3) (b1, b2, b3)) rfl, ?_⟩
        simp [Heap.set_self, Heap.set_set, g6, g7, g8, k3, lessK_irr, hE, hE2, hne1, hne2]
        refine ⟨.bool false, ?_⟩
        simp [Heap.set_self, Heap.set_set, g6, g7, g8, k3, lessK_irr, hE, hE2, hne1, hne2]
        refine ⟨_, CallQ.of (p_less (a1, a2, a3) (b1, b2, b3)) rfl, ?_⟩
        simp [Heap.set_self, Heap.set_set, g6, g7, g8, k3, lessK_irr, hE, hE2, hne1, hne2]
        refine ⟨_, CallQ.of (p_less (b1, b2, b3) (a1, a2, a3)) rfl, ?_⟩
        simp [Heap.set_self, Heap.set_set, g6, g7, g8, k3, lessK_irr, hE, hE2, hne1, hne2]
        refine CallK.pure (p_less (a1, a2, a3) (b1, b2, b3)) ?_
        rintro _ rfl
        simp [hE2, g6, g7, g8, k3, Heap.set_self]
end Go.Proofs.Ytffifddlooligaa
