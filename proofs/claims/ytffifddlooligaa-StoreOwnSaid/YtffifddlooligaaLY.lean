/- StoreOwn. -/
import Derived.Test.YtffifddlooligaaLW
set_option linter.unusedVariables false
set_option linter.unusedSimpArgs false
set_option maxRecDepth 100000
set_option maxHeartbeats 4000000
namespace Go.Proofs.Ytffifddlooligaa
open Go.Sf
attribute [local simp] s_skip s_ops s_draw s_any s_contA s_tdone s_ttwo s_top_p s_top_pick s_top_e s_top_g s_seq s_cond s_block s_loop s_exit s_ret s_mark s_then_n s_then_e s_then_r s_in_n s_in_e s_in_r s_contC s_contO s_contQ s_contT s_nil s_cons_p s_cons_pick s_cons_e s_cons_g s_qnil s_qcons_p s_qcons_pick s_qcons_e s_qcons_g s_M s_Mg s_Mq s_Mqg s_G_p s_G_pick s_G_e s_Gq_p s_Gq_pick s_Gq_e s_if s_call s_callv s_qcall s_qcallv s_getAll_nil s_getAll_cons s_put_some s_put_none s_ev_t s_ev_c s_ev_f un evP evK argT resAV lenOf_nils lenOf_imm lenOf_sl lenOf_str optI slcV binV isShift binInt binStr shiftInt pickV unV s_append s_alloc s_box s_bslice s_Bs_t s_Bs_f s_store1 s_storeN s_St1 s_St s_s2b s_markb s_Mk s_mkslice s_qbslice s_qs2b s_ret_n s_ret_r s_retc_n s_retc_r s_RV_nil s_RV_t s_RV_c s_RV1 tupOf fillC kn_int cl_int on_int kn_bool cl_bool on_bool kn_str cl_str on_str kn_nilp cl_nilp on_nilp kn_ptr cl_ptr on_ptr kn_iptr cl_iptr on_iptr kn_nils cl_nils on_nils kn_sl cl_sl on_sl kn_imm cl_imm on_imm kn_mp cl_mp on_mp kn_nilm cl_nilm on_nilm kn_fn cl_fn on_fn kn_nilf cl_nilf on_nilf kn_agg cl_agg scalEq flatEq eqV s_copy_i s_copy_s s_Cp s_clr s_clrn s_Cl s_appz s_Az s_ext s_Ov s_mapB s_mapBS s_rng s_rngn s_Rn s_nxt s_Nx0 s_ent s_mkmap s_mset s_mdel mapOf s_Mg_n s_Mqg_n s_gw_b s_gw_u s_gw_gb s_gw_f
theorem BArg.cells {H : Heap} {b : AV} {l : List UInt8} (hb : BArg H b l) : cellsOf H 1 b = some (bytesV l) := by
  rcases hb with hb | ⟨x, c, rfl, hx⟩
  · exact hb.cells H
  · simp only [cellsOf, hx]
    by_cases h0 : l.length = 0
    · rw [if_pos h0, List.length_eq_zero_iff.1 h0]; rfl
    · rw [if_neg h0, if_pos (by rw [bytesV_length]; omega), List.drop_zero, List.take_of_length_le (by rw [bytesV_length]; omega)]
theorem k_sameA {H : Heap} {a b : AV} {l m : List UInt8} (ha : BArg H a l) (hb : BArg H b m) : CC PP F_Rlaw1_same [a, b] H fun v H' => H' = H ∧ v = .bool (decide (l = m)) := by
  have hac := ha.cells
  have hbc := hb.cells
  have q : (({ data := l.toArray } : ByteArray) = { data := m.toArray }) ↔ l = m := by
    constructor
    · intro h; have := congrArg (fun x : ByteArray => x.data.toList) h; simpa using this
    · rintro rfl; rfl
  refine CC.by_vc ok_Rlaw1_same (by simp) ?_
  unfold c_Rlaw1_same
  rcases ha with (⟨rfl, rfl⟩ | ⟨c, rfl⟩) | ⟨x, c, rfl, hx⟩ <;> rcases hb with (⟨rfl, rfl⟩ | ⟨d, rfl⟩) | ⟨y, d, rfl, hy⟩ <;>
    simp [cellsOf_nils, cellsOf_imm, toBytes, immB, bytesV_length, bytesV_toBytes] at hac hbc ⊢ <;> simp [hac, hbc, cellsOf_nils, cellsOf_imm, toBytes, bytesV_length, bytesV_toBytes] <;> simpa using q
theorem p_StoreOwn (b0 : List UInt8) (hb : b0.length < 2 ^ 63) : CP PP F_Rlaw1_StoreOwn [immB b0 none] (fun v => v = .bool true) := by
  refine CP.by_vc ok_Rlaw1_StoreOwn (by simp) ?_
  unfold c_Rlaw1_StoreOwn
  simp
  refine CallK.pure p_begun ?_
  rintro _ rfl
  simp [immB]
  refine CallK.pure (CP.imm (p_short (a := immB b0 none) (.inr ⟨none, rfl⟩) 50 (by omega) hb)) ?_
  have hl50 : (b0.take 50).length ≤ 50 := by simp; omega
  generalize b0.take 50 = l at *
  rintro _ rfl
  simp [immB]
  refine vcAp_hold (n := 1) (cs := [.int .u8 1]) (.inr ⟨rfl, rfl⟩) ((IsB.imm l none).cells _) rfl (bytesV_one _) (by omega) ?_
  intro H' _
  have eB : AV.imm ([AV.int .u8 1] ++ bytesV l) (1 + l.length) none = immB (1 :: l) none := by simp [immB, bytesV, Nat.add_comm]; rfl
  rw [eB]
  obtain ⟨B, hBe⟩ : ∃ B, B = 1 :: l := ⟨_, rfl⟩
  have hB : B.length ≤ 51 := by rw [hBe]; simp; omega
  have hBn : B ≠ [] := by rw [hBe]; simp
  have hBV : (bytesV B)[0]? = some (.int .u8 1) := by rw [hBe]; rfl
  rw [← hBe]
  simp [immB]
  refine CallK.of (k_storeNew 0 (by omega)) ?_
  rintro _ H1 ⟨s, rfl, hs0, hS1, o1⟩
  simp [immB]
  refine vcAp_row (bytes := 1) (n := 0) (cs := []) (m := B.length) (new := bytesV B) (.inl ⟨rfl, .inl ⟨rfl, rfl⟩⟩) ((IsB.imm B none).cells _) rfl (by rw [bytesV_length]; omega) (by omega) (bytesV_one _) (by omega) (.inl (fun h => hBn (by simpa [bytesV] using h))) ?_
  intro c H2 hc o2 n2
  have hc' : OwnR H2 1 B.length c (bytesV B) := by simpa using hc
  have hBp : 0 < B.length := List.length_pos_iff.2 hBn
  obtain ⟨x, cp, rfl, hx, hcp, _⟩ := own_sl hc' hBp
  have hS2 := storeQ_mono hS1 fun y hy => o2 y (by simp [blkOf]) hy
  have hxs : x ≠ s := fun h => by
    rcases n2 x rfl with h1 | h1
    · rw [h, hS1.hs] at h1; cases h1
    · simp [blkOf] at h1
  simp
  refine CallK.of (k_storePut hS2 (by omega) (by omega) (name := ⟨#[97]⟩) (by decide) (by decide) (b := .sl x 0 B.length cp) (l := B) (.inr ⟨x, cp, rfl, hx⟩) (by omega) (monoO_le (by simp)) (by simp) (by simp [totL]) false) ?_
  rintro _ H3 ⟨rfl, v3, hS3, n3, o3⟩
  have e1 : putR ⟨#[97]⟩ B false [] 0 = 0 := by simp [putR, findO_nil]
  have e2 : putA ⟨#[97]⟩ B false [] 0 = [(⟨#[97]⟩, B)] := by simp [putA, findO_nil, insO]
  rw [e1]
  rw [e2] at hS3
  have hx3 : H3 x = some (.cells (bytesV B) cp) := by rw [o3 x hxs (by simp [blkOf]) (by rw [hx]; simp), hx]
  have hv3 : blkOf v3 ≠ some x := fun h => by
    rcases n3 x h with h1 | h1
    · rw [hx] at h1; cases h1
    · simp [blkOf] at h1
  clear n3 o3 n2 o2 hS2 hS1
  simp [hx3, hBp, hBV]
  refine ⟨by rw [bytesV_length]; exact hBp, ?_⟩
  have eC : (bytesV B).set 0 (.int .u8 (bitsOf .u8 (· ^^^ ·) 1 7)) = bytesV (6 :: l) := by rw [hBe]; rfl
  have eCl : (6 :: l).length = B.length := by rw [hBe]; rfl
  have hCB : B ≠ 6 :: l := by rw [hBe]; simp
  rw [eC]
  generalize 6 :: l = C at *
  have hS4 : StoreQ (H3.set x (some (.cells (bytesV C) cp))) s v3 [(⟨#[97]⟩, B)] 0 := storeQ_keep hS3 fun y hy _ => Heap.set_ne _ _ (fun h => by
    rcases hy with rfl | hy
    · exact hxs h.symm
    · exact hv3 (by rw [← h]; exact hy))
  have hx4 : (H3.set x (some (.cells (bytesV C) cp))) x = some (.cells (bytesV C) cp) := Heap.set_self _ _ _
  generalize H3.set x (some (.cells (bytesV C) cp)) = H4 at *
  refine CallK.of (k_getM hS4 (name := ⟨#[97]⟩) (monoO_le (by simp)) (by simp) (by rw [findO_one]) (p := (⟨#[97]⟩, B)) (by rw [findO_one]; rfl) (by simp; omega) hBn) ?_
  rintro _ H5 ⟨w, rfl, hw, o5, n5⟩
  obtain ⟨y, cy, rfl, hy, hcy, _⟩ := own_sl hw hBp
  have hS5 := storeQ_mono hS4 o5
  have hx5 : H5 x = some (.cells (bytesV C) cp) := by rw [o5 x (by rw [hx4]; simp), hx4]
  have hy4 := n5 y rfl
  have hyx : y ≠ x := fun h => by rw [h, hx4] at hy4; cases hy4
  have hys : y ≠ s := fun h => by rw [h, hS4.hs] at hy4; cases hy4
  have hv5 : blkOf v3 ≠ some y := fun h => storeQ_live hS4 (.inr h) hy4
  simp
  refine CallK.of (k_sameA (b := .imm (bytesV B) B.length none) (.inr ⟨y, cy, rfl, hy⟩) (.inl (.inr ⟨none, rfl⟩))) ?_
  rintro _ H6 ⟨rfl, rfl⟩
  simp [hy, hBp, hBV]
  refine ⟨by rw [bytesV_length]; exact hBp, ?_⟩
  have hS7 : StoreQ (H6.set y (some (.cells ((bytesV B).set 0 (.int .u8 (bitsOf .u8 (· ^^^ ·) 1 7))) cy))) s v3 [(⟨#[97]⟩, B)] 0 := storeQ_keep hS5 fun z hz _ => Heap.set_ne _ _ (fun h => by
    rcases hz with rfl | hz
    · exact hys h.symm
    · exact hv5 (by rw [← h]; exact hz))
  have hx7 : (H6.set y (some (.cells ((bytesV B).set 0 (.int .u8 (bitsOf .u8 (· ^^^ ·) 1 7))) cy))) x = some (.cells (bytesV C) cp) := by rw [Heap.set_ne _ _ (fun h => hyx h.symm)]; exact hx5
  generalize H6.set y (some (.cells ((bytesV B).set 0 (.int .u8 (bitsOf .u8 (· ^^^ ·) 1 7))) cy)) = H7 at *
  refine CallK.of (k_get hS7 (name := ⟨#[97]⟩) (monoO_le (by simp)) (by simp) (by rw [findO_one]) (p := (⟨#[97]⟩, B)) (by rw [findO_one]; rfl) (by simp; omega)) ?_
  rintro _ H8 ⟨rfl, w, hw, rfl⟩
  simp [hw.un]
  refine CallK.of (k_sameA (b := .imm (bytesV B) B.length none) (.inl hw) (.inl (.inr ⟨none, rfl⟩))) ?_
  rintro _ H9 ⟨rfl, rfl⟩
  simp
  refine CallK.of (k_storePut hS7 (by omega) (by omega) (name := ⟨#[97]⟩) (by decide) (by decide) (b := .imm (bytesV B) B.length none) (l := B) (.inl (.inr ⟨none, rfl⟩)) (by omega) (monoO_le (by simp)) (by simp) (by simp [totL]; omega) true) ?_
  rintro _ HA ⟨rfl, va, hSA, nA, oA⟩
  have e3 : putR ⟨#[97]⟩ B true [(⟨#[97]⟩, B)] 0 = 0 := by simp [putR, findO_one]
  have e4 : putA ⟨#[97]⟩ B true [(⟨#[97]⟩, B)] 0 = [(⟨#[97]⟩, B)] := by simp [putA, findO_one]
  rw [e3]
  rw [e4] at hSA
  have hxA : HA x = some (.cells (bytesV C) cp) := by rw [oA x hxs hv3 (by rw [hx7]; simp), hx7]
  simp
  refine CallK.of (k_storePut hSA (by omega) (by omega) (name := ⟨#[97]⟩) (by decide) (by decide) (b := .sl x 0 B.length cp) (l := C) (.inr ⟨x, cp, by rw [eCl], hxA⟩) (by omega) (monoO_le (by simp)) (by simp) (by simp [totL]; omega) false) ?_
  rintro _ HB ⟨rfl, _⟩
  have e5 : putR ⟨#[97]⟩ C false [(⟨#[97]⟩, B)] 0 = 6 := by simp [putR, findO_one, hCB]
  rw [e5]
  simp
end Go.Proofs.Ytffifddlooligaa
