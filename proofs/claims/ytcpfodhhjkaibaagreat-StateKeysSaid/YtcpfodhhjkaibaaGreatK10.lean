/- Changes read. -/
import Derived.Test.YtcpfodhhjkaibaaGreatK9
set_option linter.unusedVariables false
set_option linter.unusedSimpArgs false
set_option maxRecDepth 100000
namespace Go.Proofs.YtcpfodhhjkaibaaGreat
open Go.Sf
attribute [local simp] s_skip s_ops s_draw s_any s_contA s_tdone s_ttwo s_top_p s_top_pick s_top_e s_top_g s_seq s_cond s_block s_loop s_exit s_ret s_mark s_then_n s_then_e s_then_r s_in_n s_in_e s_in_r s_contC s_contO s_contQ s_contT s_nil s_cons_p s_cons_pick s_cons_e s_cons_g s_qnil s_qcons_p s_qcons_pick s_qcons_e s_qcons_g s_M s_Mg s_Mq s_Mqg s_G_p s_G_pick s_G_e s_Gq_p s_Gq_pick s_Gq_e s_if s_call s_callv s_qcall s_qcallv s_getAll_nil s_getAll_cons s_put_some s_put_none s_ev_t s_ev_c s_ev_f un evP evK argT resAV lenOf_nils lenOf_imm lenOf_sl lenOf_str optI slcV binV isShift binInt binStr shiftInt pickV unV s_append s_alloc s_box s_bslice s_Bs_t s_Bs_f s_store1 s_storeN s_St1 s_St s_s2b s_markb s_Mk s_mkslice s_qbslice s_qs2b s_ret_n s_ret_r s_retc_n s_retc_r s_RV_nil s_RV_t s_RV_c s_RV1 tupOf fillC kn_int cl_int on_int kn_bool cl_bool on_bool kn_str cl_str on_str kn_nilp cl_nilp on_nilp kn_ptr cl_ptr on_ptr kn_iptr cl_iptr on_iptr kn_nils cl_nils on_nils kn_sl cl_sl on_sl kn_imm cl_imm on_imm kn_mp cl_mp on_mp kn_nilm cl_nilm on_nilm kn_fn cl_fn on_fn kn_nilf cl_nilf on_nilf kn_agg cl_agg scalEq flatEq eqV s_copy_i s_copy_s s_Cp s_clr s_clrn s_Cl s_appz s_Az s_ext s_Ov s_mapB s_mapBS s_rng s_rngn s_Rn s_nxt s_Nx0 s_ent s_mkmap s_mset s_mdel mapOf s_Mg_n s_Mqg_n s_gw_b s_gw_u s_gw_gb s_gw_f
def zeroM : MutT := ⟨0, 0, 0, 0, 0, 0⟩
def getMutL (l : List UInt8) : MutT × Nat × Nat :=
  let a := smallR l 0 0
  let b := smallR l a.2.1 a.2.2
  let c := smallR l b.2.1 b.2.2
  let d := smallR l c.2.1 c.2.2
  let f := if fieldsK a.1 then smallR l d.2.1 d.2.2 else (0, d.2)
  let v : Int × Nat × Nat := if valuesK a.1 ∧ f.2.2 = 0 then (zag (num (l.drop f.2.1)).1, f.2.1 + (num (l.drop f.2.1)).2.1, (num (l.drop f.2.1)).2.2) else (0, f.2)
  if v.2.2 ≠ 0 then (zeroM, 0, v.2.2) else if mayM ⟨a.1, b.1, c.1, d.1, f.1, v.1⟩ then (⟨a.1, b.1, c.1, d.1, f.1, v.1⟩, v.2.1, 0) else (zeroM, 0, 1)
theorem smallR_le {l : List UInt8} {n e : Nat} (h : n ≤ l.length) : (smallR l n e).2.1 ≤ l.length := by
  unfold smallR
  split
  · exact h
  · have := (num_took (l.drop n)).2
    rw [List.length_drop] at this
    simp only; omega
theorem Heap.fresh_ne {H : Heap} {b c : Nat} {x : Blk} (h : (H.set b (some x)) c = none) : c ≠ b ∧ H c = none := by
  unfold Heap.set at h
  split at h
  · cases h
  · exact ⟨by assumption, h⟩
theorem call_small {a : AV} {l : List UInt8} (ha : IsB a l) {n e v' n' e' : _} (hR : smallR l n e = (v', n', e')) {H : Heap} {b : Nat} {T : Nat → AV} {d : Option Nat} {K : AS → Prop} (hH : H b = some (.cells [a, .int .i64 n, .int .i64 e] 3)) (hn : n ≤ l.length) (hl : l.length ≤ 2 ^ 40)
    (k : ∀ H' : Heap, n' ≤ l.length → H' b = some (.cells [a, .int .i64 n', .int .i64 e'] 3) → (∀ c, c ≠ b → H' c = H c) → K ⟨put T d (.int .i64 v'), H'⟩) : CallK PP F_mut_reader_small [.ptr b 0] T H d K := by
  refine CallK.of (k_small ha hH hn hl) ?_
  rintro v H' ⟨rfl, rfl⟩
  rw [hR]
  have := smallR_le (l := l) (n := n) (e := e) hn
  rw [hR] at this
  exact k _ this (Heap.set_self _ _ _) (fun c hc => Heap.set_ne _ _ hc)
theorem p_mutGet {a : AV} {l : List UInt8} (ha : IsB a l) (hl : l.length ≤ 2 ^ 40) : CP PP F_mut_Get [a] (fun r => r = .tup [.agg (mutCs (getMutL l).1), .int .i64 (getMutL l).2.1, .int .i64 (getMutL l).2.2]) := by
  refine CP.by_vcC ok_mut_Get (by simp) ?_
  unfold c_mut_Get
  simp [ha.un]
  intro b2 hb2
  simp [ha.un, ha.known, ha.cellsL]
  intro b5 hb5
  simp
  obtain ⟨n52, -⟩ := Heap.fresh_ne hb5
  obtain ⟨⟨v1, p1, e1⟩, hA⟩ : ∃ r, smallR l 0 0 = r := ⟨_, rfl⟩
  obtain ⟨⟨v2, p2, e2⟩, hB⟩ : ∃ r, smallR l p1 e1 = r := ⟨_, rfl⟩
  obtain ⟨⟨v3, p3, e3⟩, hC⟩ : ∃ r, smallR l p2 e2 = r := ⟨_, rfl⟩
  obtain ⟨⟨v4, p4, e4⟩, hD⟩ : ∃ r, smallR l p3 e3 = r := ⟨_, rfl⟩
  refine call_small ha hA (Heap.set_self _ _ _) (by omega) hl ?_
  intro H1 hp1 h1 k1
  have g1 : H1 b2 = some (.cells [.int .i64 0, .int .i64 0, .int .i64 0, .int .i64 0, .int .i64 0, .int .i64 0] 6) := by
    rw [k1 b2 (Ne.symm n52), Heap.set_ne _ _ (Ne.symm n52), Heap.set_self]
  clear k1 hb5 hb2
  simp
  intro b6 hb6
  have n62 : b6 ≠ b2 := fun h => by rw [h, g1] at hb6; cases hb6
  have n65 : b6 ≠ b5 := fun h => by rw [h, h1] at hb6; cases hb6
  simp [Heap.set_self]
  refine call_small ha hB (b := b5) (by rw [Heap.set_ne _ _ (Ne.symm n65), Heap.set_ne _ _ (Ne.symm n65)]; exact h1) hp1 hl ?_
  intro H2 hp2 h2 k2
  have g2 : H2 b2 = some (.cells [.int .i64 0, .int .i64 0, .int .i64 0, .int .i64 0, .int .i64 0, .int .i64 0] 6) := by
    rw [k2 b2 (Ne.symm n52), Heap.set_ne _ _ (Ne.symm n62), Heap.set_ne _ _ (Ne.symm n62)]; exact g1
  have m2 : H2 b6 = some (.cells [.int .i64 v1, .int .i64 0, .int .i64 0, .int .i64 0, .int .i64 0, .int .i64 0] 6) := by
    rw [k2 b6 n65, Heap.set_self]
  clear k2 hb6 h1 g1
  simp
  refine call_small ha hC h2 hp2 hl ?_
  intro H3 hp3 h3 k3
  have g3 := (k3 b2 (Ne.symm n52)).trans g2
  have m3 := (k3 b6 n65).trans m2
  clear k3 h2 g2 m2
  simp
  refine call_small ha hD h3 hp3 hl ?_
  intro H4 hp4 h4 k4
  have g4 := (k4 b2 (Ne.symm n52)).trans g3
  have m4 := (k4 b6 n65).trans m3
  clear k4 h3 g3 m3
  simp [m4, Heap.set_self]
  refine CallK.pure (p_fields _) ?_
  rintro _ rfl
  obtain ⟨⟨v5, p5, e5⟩, hE⟩ : ∃ r, (if fieldsK v1 then smallR l p4 e4 else ((0 : Int), p4, e4)) = r := ⟨_, rfl⟩
  have h5 : (H4.set b6 (some (Blk.cells [.int .i64 v1, .int .i64 v2, .int .i64 v3, .int .i64 v4, .int .i64 0, .int .i64 0] 6))) b5 = some (.cells [a, .int .i64 p4, .int .i64 e4] 3) := by
    rw [Heap.set_ne _ _ (Ne.symm n65)]; exact h4
  have g5 : (H4.set b6 (some (Blk.cells [.int .i64 v1, .int .i64 v2, .int .i64 v3, .int .i64 v4, .int .i64 0, .int .i64 0] 6))) b2 = some (.cells [.int .i64 0, .int .i64 0, .int .i64 0, .int .i64 0, .int .i64 0, .int .i64 0] 6) := by
    rw [Heap.set_ne _ _ (Ne.symm n62)]; exact g4
  have m5 : (H4.set b6 (some (Blk.cells [.int .i64 v1, .int .i64 v2, .int .i64 v3, .int .i64 v4, .int .i64 0, .int .i64 0] 6))) b6 = some (.cells [.int .i64 v1, .int .i64 v2, .int .i64 v3, .int .i64 v4, .int .i64 0, .int .i64 0] 6) := Heap.set_self _ _ _
  clear m4 g4 h4
  generalize H4.set b6 (some (Blk.cells [.int .i64 v1, .int .i64 v2, .int .i64 v3, .int .i64 v4, .int .i64 0, .int .i64 0] 6)) = H5 at *
  have spec : getMutL l = (let v : Int × Nat × Nat := if valuesK v1 ∧ e5 = 0 then (zag (num (l.drop p5)).1, p5 + (num (l.drop p5)).2.1, (num (l.drop p5)).2.2) else (0, p5, e5)
      if v.2.2 ≠ 0 then (zeroM, 0, v.2.2) else if mayM ⟨v1, v2, v3, v4, v5, v.1⟩ then (⟨v1, v2, v3, v4, v5, v.1⟩, v.2.1, 0) else (zeroM, 0, 1)) := by
    unfold getMutL
    simp only [hA, hB, hC, hD]
    rw [hE]
  have e26 : ∀ c : Bool, fieldsK v1 = c → True := fun _ _ => trivial
  cases hF : fieldsK v1
  · rw [hF] at hE
    simp only [Bool.false_eq_true, if_false, Prod.mk.injEq] at hE
    obtain ⟨q1, q2, q3⟩ := hE
    rw [q2, q3] at h5
    have m5 : H5 b6 = some (.cells [.int .i64 v1, .int .i64 v2, .int .i64 v3, .int .i64 v4, .int .i64 v5, .int .i64 0] 6) := by rw [← q1]; exact m5
    rw [q2] at hp4
    clear q1 q2 q3
    simp [m5, hF]
    refine CallK.pure (p_values _) ?_
    rintro _ rfl
    have hp5 := hp4
    cases hV : valuesK v1
    · by_cases he : e5 = 0
      · subst he
        have spec2 : getMutL l = (if mayM ⟨v1, v2, v3, v4, v5, 0⟩ then (⟨v1, v2, v3, v4, v5, 0⟩, p5, 0) else (zeroM, 0, 1)) := by rw [spec]; simp [hV]
        simp [hV, h5, g5, m5]
        refine CallK.pure (p_may ⟨v1, v2, v3, v4, v5, 0⟩) ?_
        rintro _ rfl
        cases hM : mayM ⟨v1, v2, v3, v4, v5, 0⟩
        · rw [hM] at spec2
          simp [h5, g5, m5, Heap.set_self, Heap.set_ne, n52, n52.symm, n62, n62.symm, spec2, mutCs, zeroM]
        · rw [hM] at spec2
          simp [h5, g5, m5, Heap.set_self, Heap.set_ne, n52, n52.symm, n62, n62.symm, spec2, mutCs]
      · have he' : ¬ ((e5 : Int) = 0) := by omega
        have spec2 : getMutL l = (zeroM, 0, e5) := by rw [spec]; simp [hV, he]
        simp [hV, h5, g5, m5, he, he', Heap.set_self, Heap.set_ne, n52, n52.symm, n62, n62.symm, spec2, mutCs, zeroM]
    · by_cases he : e5 = 0
      · subst he
        simp [hV, h5, g5, m5, ha.un]
        have spec2 : getMutL l = (if (num (l.drop p5)).2.2 ≠ 0 then (zeroM, 0, (num (l.drop p5)).2.2) else if mayM ⟨v1, v2, v3, v4, v5, zag (num (l.drop p5)).1⟩ then (⟨v1, v2, v3, v4, v5, zag (num (l.drop p5)).1⟩, p5 + (num (l.drop p5)).2.1, 0) else (zeroM, 0, 1)) := by rw [spec]; simp [hV]
        have ht := (num_took (l.drop p5)).1
        obtain ⟨⟨nu, nk, ne⟩, hN⟩ : ∃ r, num (l.drop p5) = r := ⟨_, rfl⟩
        rw [hN] at spec2 ht
        simp only at spec2 ht
        have hw : IntKind.i64.wrap ((p5 : Int) + (nk : Int)) = ((p5 + nk : Nat) : Int) := by rw [wrap_i64 (by omega) (by omega)]; omega
        rcases ha with ⟨rfl, rfl⟩ | ⟨c, rfl⟩
        · obtain rfl : p5 = 0 := by simpa using hp5
          simp
          refine CallK.pure (p_getInt .nil) ?_
          rintro _ rfl
          have hN' : (0, 0, 8) = (nu, nk, ne) := hN
          simp only [Prod.mk.injEq] at hN'
          obtain ⟨rfl, rfl, rfl⟩ := hN'
          simp [resI, show num [] = (0, 0, 8) from rfl, h5, m5, g5, spec2, Heap.set_self, Heap.set_ne, n52, n52.symm, n62, n62.symm, n65, n65.symm, mutCs, zeroM]
        · simp [immB, hp5, bytesV_length]
          refine CallK.pure (p_getInt (isB_drop l p5 _)) ?_
          rintro _ rfl
          rw [hN]
          simp [resI, h5, m5, Heap.set_self, Heap.set_ne, n52, n52.symm, n62, n62.symm, n65, n65.symm, hw]
          refine ⟨fun hne => ?_, fun hne => ?_⟩
          · simp [g5, h5, m5, spec2, hne, Heap.set_self, Heap.set_ne, n52, n52.symm, n62, n62.symm, n65, n65.symm, mutCs, zeroM]
          · subst hne
            refine CallK.pure (p_may ⟨v1, v2, v3, v4, v5, zag nu⟩) ?_
            rintro _ rfl
            cases hM : mayM ⟨v1, v2, v3, v4, v5, zag nu⟩
            · rw [hM] at spec2
              simp [g5, h5, m5, spec2, Heap.set_self, Heap.set_ne, n52, n52.symm, n62, n62.symm, n65, n65.symm, mutCs, zeroM]
            · rw [hM] at spec2
              simp [g5, h5, m5, spec2, Heap.set_self, Heap.set_ne, n52, n52.symm, n62, n62.symm, n65, n65.symm, mutCs]
      · have he' : ¬ ((e5 : Int) = 0) := by omega
        have spec2 : getMutL l = (zeroM, 0, e5) := by rw [spec]; simp [hV, he]
        simp [hV, h5, g5, m5, he, he', Heap.set_self, Heap.set_ne, n52, n52.symm, n62, n62.symm, spec2, mutCs, zeroM]
  · rw [hF] at hE
    simp only [if_true] at hE
    simp [m5, hF]
    refine call_small ha hE h5 hp4 hl ?_
    intro H6 hp5 h6 k6
    have g6 := (k6 b2 (Ne.symm n52)).trans g5
    have m6 := (k6 b6 n65).trans m5
    clear k6 h5 g5 m5
    simp [m6, Heap.set_self]
    have h5 : (H6.set b6 (some (Blk.cells [.int .i64 v1, .int .i64 v2, .int .i64 v3, .int .i64 v4, .int .i64 v5, .int .i64 0] 6))) b5 = some (.cells [a, .int .i64 p5, .int .i64 e5] 3) := by
      rw [Heap.set_ne _ _ (Ne.symm n65)]; exact h6
    have g5 : (H6.set b6 (some (Blk.cells [.int .i64 v1, .int .i64 v2, .int .i64 v3, .int .i64 v4, .int .i64 v5, .int .i64 0] 6))) b2 = some (.cells [.int .i64 0, .int .i64 0, .int .i64 0, .int .i64 0, .int .i64 0, .int .i64 0] 6) := by
      rw [Heap.set_ne _ _ (Ne.symm n62)]; exact g6
    have m5 : (H6.set b6 (some (Blk.cells [.int .i64 v1, .int .i64 v2, .int .i64 v3, .int .i64 v4, .int .i64 v5, .int .i64 0] 6))) b6 = some (.cells [.int .i64 v1, .int .i64 v2, .int .i64 v3, .int .i64 v4, .int .i64 v5, .int .i64 0] 6) := Heap.set_self _ _ _
    clear m6 g6 h6
    generalize H6.set b6 (some (Blk.cells [.int .i64 v1, .int .i64 v2, .int .i64 v3, .int .i64 v4, .int .i64 v5, .int .i64 0] 6)) = H5 at *
    refine CallK.pure (p_values _) ?_
    rintro _ rfl
    cases hV : valuesK v1
    · by_cases he : e5 = 0
      · subst he
        have spec2 : getMutL l = (if mayM ⟨v1, v2, v3, v4, v5, 0⟩ then (⟨v1, v2, v3, v4, v5, 0⟩, p5, 0) else (zeroM, 0, 1)) := by rw [spec]; simp [hV]
        simp [hV, h5, g5, m5]
        refine CallK.pure (p_may ⟨v1, v2, v3, v4, v5, 0⟩) ?_
        rintro _ rfl
        cases hM : mayM ⟨v1, v2, v3, v4, v5, 0⟩
        · rw [hM] at spec2
          simp [h5, g5, m5, Heap.set_self, Heap.set_ne, n52, n52.symm, n62, n62.symm, spec2, mutCs, zeroM]
        · rw [hM] at spec2
          simp [h5, g5, m5, Heap.set_self, Heap.set_ne, n52, n52.symm, n62, n62.symm, spec2, mutCs]
      · have he' : ¬ ((e5 : Int) = 0) := by omega
        have spec2 : getMutL l = (zeroM, 0, e5) := by rw [spec]; simp [hV, he]
        simp [hV, h5, g5, m5, he, he', Heap.set_self, Heap.set_ne, n52, n52.symm, n62, n62.symm, spec2, mutCs, zeroM]
    · by_cases he : e5 = 0
      · subst he
        simp [hV, h5, g5, m5, ha.un]
        have spec2 : getMutL l = (if (num (l.drop p5)).2.2 ≠ 0 then (zeroM, 0, (num (l.drop p5)).2.2) else if mayM ⟨v1, v2, v3, v4, v5, zag (num (l.drop p5)).1⟩ then (⟨v1, v2, v3, v4, v5, zag (num (l.drop p5)).1⟩, p5 + (num (l.drop p5)).2.1, 0) else (zeroM, 0, 1)) := by rw [spec]; simp [hV]
        have ht := (num_took (l.drop p5)).1
        obtain ⟨⟨nu, nk, ne⟩, hN⟩ : ∃ r, num (l.drop p5) = r := ⟨_, rfl⟩
        rw [hN] at spec2 ht
        simp only at spec2 ht
        have hw : IntKind.i64.wrap ((p5 : Int) + (nk : Int)) = ((p5 + nk : Nat) : Int) := by rw [wrap_i64 (by omega) (by omega)]; omega
        rcases ha with ⟨rfl, rfl⟩ | ⟨c, rfl⟩
        · obtain rfl : p5 = 0 := by simpa using hp5
          simp
          refine CallK.pure (p_getInt .nil) ?_
          rintro _ rfl
          have hN' : (0, 0, 8) = (nu, nk, ne) := hN
          simp only [Prod.mk.injEq] at hN'
          obtain ⟨rfl, rfl, rfl⟩ := hN'
          simp [resI, show num [] = (0, 0, 8) from rfl, h5, m5, g5, spec2, Heap.set_self, Heap.set_ne, n52, n52.symm, n62, n62.symm, n65, n65.symm, mutCs, zeroM]
        · simp [immB, hp5, bytesV_length]
          refine CallK.pure (p_getInt (isB_drop l p5 _)) ?_
          rintro _ rfl
          rw [hN]
          simp [resI, h5, m5, Heap.set_self, Heap.set_ne, n52, n52.symm, n62, n62.symm, n65, n65.symm, hw]
          refine ⟨fun hne => ?_, fun hne => ?_⟩
          · simp [g5, h5, m5, spec2, hne, Heap.set_self, Heap.set_ne, n52, n52.symm, n62, n62.symm, n65, n65.symm, mutCs, zeroM]
          · subst hne
            refine CallK.pure (p_may ⟨v1, v2, v3, v4, v5, zag nu⟩) ?_
            rintro _ rfl
            cases hM : mayM ⟨v1, v2, v3, v4, v5, zag nu⟩
            · rw [hM] at spec2
              simp [g5, h5, m5, spec2, Heap.set_self, Heap.set_ne, n52, n52.symm, n62, n62.symm, n65, n65.symm, mutCs, zeroM]
            · rw [hM] at spec2
              simp [g5, h5, m5, spec2, Heap.set_self, Heap.set_ne, n52, n52.symm, n62, n62.symm, n65, n65.symm, mutCs]
      · have he' : ¬ ((e5 : Int) = 0) := by omega
        have spec2 : getMutL l = (zeroM, 0, e5) := by rw [spec]; simp [hV, he]
        simp [hV, h5, g5, m5, he, he', Heap.set_self, Heap.set_ne, n52, n52.symm, n62, n62.symm, spec2, mutCs, zeroM]
end Go.Proofs.YtcpfodhhjkaibaaGreat
