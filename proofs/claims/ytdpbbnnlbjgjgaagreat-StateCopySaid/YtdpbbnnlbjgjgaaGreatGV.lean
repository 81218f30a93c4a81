/- slices.Insert, slices.Delete: at the cells of values, lists and dictionaries, and at fields. Values: where a key is; set, unset, told; their keys. Values: made, set, unset, told; their keys. Lists: made, told, put behind, emptied; their keys. Lists: put behind, emptied. Dictionaries: made, told; their keys. Dictionaries: fields put, cut. Dictionaries: fields cut. -/
import Derived.Test.YtdpbbnnlbjgjgaaGreatCA
import Derived.Test.YtdpbbnnlbjgjgaaGreatLS
import Derived.Test.YtdpbbnnlbjgjgaaGreatLU
import Derived.Test.YtdpbbnnlbjgjgaaGreatGQ
import Derived.Test.YtdpbbnnlbjgjgaaGreatCB
import Derived.Test.YtdpbbnnlbjgjgaaGreatL0
set_option linter.unusedVariables false
set_option linter.unusedSimpArgs false
set_option maxRecDepth 100000
set_option maxHeartbeats 4000000
open Go.Sf
attribute [local simp] s_skip s_ops s_draw s_any s_contA s_tdone s_ttwo s_top_p s_top_pick s_top_e s_top_g s_seq s_cond s_block s_loop s_exit s_ret s_mark s_then_n s_then_e s_then_r s_in_n s_in_e s_in_r s_contC s_contO s_contQ s_contT s_nil s_cons_p s_cons_pick s_cons_e s_cons_g s_qnil s_qcons_p s_qcons_pick s_qcons_e s_qcons_g s_M s_Mg s_Mq s_Mqg s_G_p s_G_pick s_G_e s_Gq_p s_Gq_pick s_Gq_e s_if s_call s_callv s_qcall s_qcallv s_getAll_nil s_getAll_cons s_put_some s_put_none s_ev_t s_ev_c s_ev_f un evP evK argT resAV lenOf_nils lenOf_imm lenOf_sl lenOf_str optI slcV binV isShift binInt binStr shiftInt pickV unV s_append s_alloc s_box s_bslice s_Bs_t s_Bs_f s_store1 s_storeN s_St1 s_St s_s2b s_markb s_Mk s_mkslice s_qbslice s_qs2b s_ret_n s_ret_r s_retc_n s_retc_r s_RV_nil s_RV_t s_RV_c s_RV1 tupOf fillC kn_int cl_int on_int kn_bool cl_bool on_bool kn_str cl_str on_str kn_nilp cl_nilp on_nilp kn_ptr cl_ptr on_ptr kn_iptr cl_iptr on_iptr kn_nils cl_nils on_nils kn_sl cl_sl on_sl kn_imm cl_imm on_imm kn_mp cl_mp on_mp kn_nilm cl_nilm on_nilm kn_fn cl_fn on_fn kn_nilf cl_nilf on_nilf kn_agg cl_agg scalEq flatEq eqV s_copy_i s_copy_s s_Cp s_clr s_clrn s_Cl s_appz s_Az s_ext s_Ov s_mapB s_mapBS s_rng s_rngn s_Rn s_nxt s_Nx0 s_ent s_mkmap s_mset s_mdel mapOf s_Mg_n s_Mqg_n s_gw_b s_gw_u s_gw_gb s_gw_f
namespace Go.Proofs.YtdpbbnnlbjgjgaaGreat
open Go.Sf
theorem ovlIV : (PP.info? 101).isSome = true := by kernel_rfl
theorem ovlV : OvlOK PP F_slices_overlaps_value_cell := ⟨Tryz.f84, 98, 4, 101, (PP.info? 101).get ovlIV, Tryz.func84, by kernel_rfl, by kernel_rfl, by kernel_rfl, by kernel_rfl, by kernel_rfl, (Option.some_get ovlIV).symm⟩
theorem k_insV {H : Heap} {v : AV} {n : Nat} {cs : List AV} (ho : OwnR H 4 n v cs) (hone : cs.all AV.one = true) {x : List AV} (hx : x.length = 4) (hxo : x.all AV.one = true) {i : Nat} (hi : i ≤ n) (hn : n < 2 ^ 30) :
    CC PP F_slices_Insert_value_cell_value_cell [v, .int .i64 i, .imm x 1 (some 1)] H fun v' H' => OwnR H' 4 (n + 1) v' (cs.take (i * 4) ++ (x ++ cs.drop (i * 4))) ∧ KeepB H H' (blkOf v) ∧ (∀ b, blkOf v' = some b → H b = none ∨ blkOf v = some b) := by
  refine CC.by_vc ok_slices_Insert_value_cell_value_cell (by simp) ?_
  unfold c_slices_Insert_value_cell_value_cell
  have hxne : x ≠ [] := fun e => by rw [e] at hx; simp at hx
  have hx1 : cellsOf H 4 (.imm x 1 (some 1)) = some x := by rw [cellsOf_imm, if_pos (by omega)]
  have hcl := ho.1
  by_cases hin : i = n
  · subst hin
    have e1 : cs.take (i * 4) ++ (x ++ cs.drop (i * 4)) = cs ++ x := by
      rw [List.take_of_length_le (by omega), List.drop_of_length_le (by omega), List.append_nil]
    rw [e1]
    have ho' := ho
    obtain ⟨hcl, ⟨rfl, rfl⟩ | ⟨b', c, rfl, hb', hc⟩⟩ := ho
    · simp
      refine vcAp_row (.inl ho') (x := .imm x 1 (some 1)) (new := x) (m := 1) hx1 rfl (by omega) (by omega) hxo (by omega) (.inl hxne) ?_
      intro v' H' h1 h2 h3
      simp [h1.un]
      exact ⟨h1, h2, h3⟩
    · simp
      refine ⟨hc, ?_⟩
      refine vcAp_row (.inl ho') (x := .imm x 1 (some 1)) (new := x) (m := 1) hx1 rfl (by omega) (by omega) hxo (by omega) (.inl hxne) ?_
      intro v' H' h1 h2 h3
      simp [h1.un]
      exact ⟨h1, h2, h3⟩
  · have hil : i < n := by omega
    obtain ⟨hcl, ⟨rfl, rfl⟩ | ⟨b, c, rfl, hb, hc⟩⟩ := ho
    · omega
    obtain ⟨z, hz⟩ : ∃ z, z = n + 1 - i := ⟨_, rfl⟩
    have w1 : IntKind.i64.wrap ((n : Int) + 1) = (n : Int) + 1 := wrap_i64 (by omega) (by omega)
    have w2 : IntKind.i64.wrap ((i : Int) + 1) = (i : Int) + 1 := wrap_i64 (by omega) (by omega)
    have w3 : IntKind.i64.wrap ((n : Int) + 1 - i) = (z : Int) := by rw [wrap_i64 (by omega) (by omega)]; omega
    have hmx : max (z : Int) 0 = z := by omega
    have hiz : ((i : Int) + (z : Int)).toNat = i + z := by omega
    have hin' : ¬ (i : Int) = n := by omega
    have hit : i * 4 ≤ n * 4 := Nat.mul_le_mul_right _ hi
    have hdl : (cs.drop (i * 4)).length = (n - i) * 4 := by rw [List.length_drop, hcl, Nat.sub_mul]
    have htl : (cs.take (i * 4)).length = i * 4 := by rw [List.length_take, hcl]; omega
    have hone2 : (cs.drop (i * 4)).all AV.one = true := List.all_eq_true.2 fun y hy => List.all_eq_true.1 hone y (List.mem_of_mem_drop hy)
    have hfl : (cs.take (i * 4) ++ (x ++ cs.drop (i * 4))).length = (n + 1) * 4 := by simp only [List.length_append, htl, hdl, hx]; omega
    by_cases hg : c < n + 1
    · obtain rfl : c = n := by omega
      simp [hin, hin', hi, w1, w2, w3, hmx, hiz, hb, show (c : Int) < (c : Int) + 1 by omega, show ¬ (c : Int) + 1 ≤ c by omega]
      refine ⟨by omega, by omega, by omega, fun b' c' hb' hc' => ⟨⟨by omega, by omega⟩, ?_⟩⟩
      have nbb : b ≠ b' := fun h => by rw [h, hb'] at hb; cases hb
      have hzl : (List.replicate z ([AV.int IntKind.i64 0, AV.int IntKind.i64 0, AV.int IntKind.i64 0, AV.int IntKind.i64 0] : List AV)).flatten.length = z * 4 := by rw [rep_len]; rfl
      generalize (List.replicate z ([AV.int IntKind.i64 0, AV.int IntKind.i64 0, AV.int IntKind.i64 0, AV.int IntKind.i64 0] : List AV)).flatten = Z at *
      generalize hA : cs.take (i * 4) = A at *
      generalize hB : cs.drop (i * 4) = B at *
      have hC1 : splA (A ++ Z) (i * 4) (x.take (1 * 4)) = A ++ (x ++ Z.drop x.length) := by
        rw [List.take_of_length_le (by omega), splA_mid _ _ _ htl]
      have hC2 : splA (A ++ (x ++ Z.drop x.length)) ((i + 1) * 4) B = A ++ (x ++ B) := by
        rw [← List.append_assoc, splA_mid _ _ _ (by rw [List.length_append]; omega), List.drop_drop, List.drop_of_length_le (by omega)]
        simp
      rw [show Nat.min 1 z = 1 by show min 1 z = 1; omega, if_neg (show ¬ c' = i by omega), Heap.set_self, pre_imm _ _ _ _ _ _ (by omega), s_Cp, hC1]
      refine ⟨List.all_eq_true.2 fun y hy => List.all_eq_true.1 hxo y (List.mem_of_mem_take hy), by simp only [List.length_append]; omega, by omega, ?_⟩
      simp [Heap.set_set, hi, w2, hb, Heap.set_ne _ _ nbb]
      refine ⟨⟨by omega, by omega, by omega⟩, ?_⟩
      have hBt : B.take ((c - i) * 4) = B := List.take_of_length_le (by omega)
      have hi2 : i + z - (i + 1) = c - i := by omega
      rw [hiz, hi2, show Nat.min (c - i) (c - i) = c - i from Nat.min_self _, if_neg (show ¬ c' = i + 1 by omega), if_neg (show ¬ c = i by omega), Heap.set_self, pre_sl (by rw [Heap.set_ne _ _ nbb]; exact hb) _ _ _ _ _ (by rw [hcl, Nat.sub_mul]; omega), hB, hBt, s_Cp, hC2]
      refine ⟨hone2, by simp only [List.length_append]; omega, by omega, ?_⟩
      simp [Heap.set_set]
      have e3 : i + z = c + 1 := by omega
      rw [e3]
      exact ⟨⟨hfl, .inr ⟨b', c', rfl, Heap.set_self _ _ _, by omega⟩⟩, fun q _ hq => Heap.set_ne _ _ (fun h => hq (by rw [h]; exact hb')), fun q hq => by cases hq; exact .inl hb'⟩
    · simp [hin, hin', hi, w1, w2, w3, hb, show ¬ (c : Int) < (n : Int) + 1 by omega, show (n : Int) + 1 ≤ c by omega]
      have hc0 : (i + 1) * 4 ≤ cs.length := by rw [hcl]; exact Nat.mul_le_mul_right _ (by omega)
      have hci : splA (splA cs ((i + 1) * 4) (cs.drop (i * 4))) (i * 4) (x.take (1 * 4)) = cs.take (i * 4) ++ (x ++ cs.drop (i * 4)) := by
        rw [List.take_of_length_le (by omega), show (i + 1) * 4 = i * 4 + 4 by omega, splA_ins hx (by omega)]
      have hql : (n + 1) * 4 ≤ c * 4 := Nat.mul_le_mul_right _ (by omega)
      have hs1 : (splA cs ((i + 1) * 4) (cs.drop (i * 4))).length = (n + 1) * 4 := by
        unfold splA; simp only [List.length_append, List.length_take, List.length_drop]; omega
      have hmn : Nat.min (n + 1 - i) (n - i) = n - i := by show min (n + 1 - i) (n - i) = _; omega
      have hdt : ((cs.drop (i * 4)).take ((n - i) * 4)) = cs.drop (i * 4) := List.take_of_length_le (by omega)
      refine ⟨by omega, by omega, by omega, ovlV, hxne, by omega, by omega, by omega, ?_⟩
      rw [hmn, if_neg (show ¬ c = i + 1 by omega), if_neg (show ¬ c = i by omega), pre_sl hb _ _ _ _ _ (by rw [hcl, Nat.sub_mul]; omega), hdt, s_Cp]
      refine ⟨hone2, hc0, by rw [Nat.sub_mul]; omega, ?_⟩
      simp [Heap.set_self, show ¬ (n : Int) + 1 < i by omega, show (i : Int) ≤ (n : Int) + 1 by omega]
      refine ⟨by omega, ?_⟩
      rw [show Nat.min 1 (n + 1 - i) = 1 by show min 1 (n + 1 - i) = 1; omega, if_neg (show ¬ c = i by omega), pre_imm _ _ _ _ _ _ (by omega), s_Cp, hci]
      refine ⟨List.all_eq_true.2 fun y hy => List.all_eq_true.1 hxo y (List.mem_of_mem_take hy), by rw [hs1]; omega, by omega, ?_⟩
      simp [Heap.set_set]
      exact ⟨⟨hfl, .inr ⟨b, c, rfl, Heap.set_self _ _ _, by omega⟩⟩, fun q hq _ => Heap.set_ne _ _ (fun h => hq (by rw [h]; rfl)), fun q hq => by cases hq; exact .inr rfl⟩

theorem k_delV {H : Heap} {v : AV} {n : Nat} {cs : List AV} (ho : OwnR H 4 n v cs) (hone : cs.all AV.one = true) {i : Nat} (hi : i < n) (hn : n < 2 ^ 30) :
    CC PP F_slices_Delete_value_cell_value_cell [v, .int .i64 i, .int .i64 (i + 1 : Nat)] H fun v' H' => OwnR H' 4 (n - 1) v' (cs.take (i * 4) ++ cs.drop ((i + 1) * 4)) ∧ KeepB H H' (blkOf v) ∧ blkOf v' = blkOf v := by
  obtain ⟨hcl, ⟨rfl, rfl⟩ | ⟨b, c, rfl, hb, hc⟩⟩ := ho
  · omega
  have hit : (i + 1) * 4 ≤ n * 4 := Nat.mul_le_mul_right _ (by omega)
  have main : CC PP F_slices_Delete_value_cell_value_cell [.sl b 0 n c, .int .i64 i, .int .i64 (i + 1 : Nat)] H fun v' H' => v' = .sl b 0 (n - 1) c ∧ ∃ R, H' = H.set b (some (.cells (cs.take (i * 4) ++ (cs.drop ((i + 1) * 4) ++ R)) (c * 4))) := by
    refine CC.by_vc ok_slices_Delete_value_cell_value_cell (by simp) ?_
    unfold c_slices_Delete_value_cell_value_cell
    have hne : ¬ (i : Int) = (i : Int) + 1 := by omega
    have hone2 : (cs.drop ((i + 1) * 4)).all AV.one = true := List.all_eq_true.2 fun y hy => List.all_eq_true.1 hone y (List.mem_of_mem_drop hy)
    have hx : cellsOf H 4 (AV.sl b (if c = i + 1 then 0 else (i + 1) * 4) (n - (i + 1)) (c - (i + 1))) = some (cs.drop ((i + 1) * 4)) := by
      by_cases h0 : n - (i + 1) = 0
      · rw [h0, List.drop_of_length_le (by rw [hcl]; exact Nat.mul_le_mul_right _ (by omega))]; simp [cellsOf]
      · have h1 : (i + 1) * 4 + (n - (i + 1)) * 4 ≤ cs.length := by rw [hcl, Nat.sub_mul]; omega
        rw [if_neg (by omega)]
        simp only [cellsOf, hb]
        rw [if_neg h0, if_pos h1, List.take_of_length_le (by rw [List.length_drop]; rw [Nat.sub_mul]; omega)]
    simp [hne]
    refine ⟨⟨by omega, by omega, hc⟩, by omega, ⟨by omega, by omega, hc⟩, ?_⟩
    refine vcAp_in hb rfl (by rw [hcl]; omega) (by rw [hcl]; omega) hx rfl hone2 (by omega) ?_
    have e1 : i + (n - (i + 1)) = n - 1 := by omega
    have e2 : splA cs (i * 4) (cs.drop ((i + 1) * 4)) = cs.take (i * 4) ++ (cs.drop ((i + 1) * 4) ++ (cs.drop (i * 4)).drop (cs.drop ((i + 1) * 4)).length) := by
      have h3 : (cs.take (i * 4)).length = i * 4 := by rw [List.length_take]; omega
      have := splA_mid (cs.take (i * 4)) (cs.drop (i * 4)) (cs.drop ((i + 1) * 4)) h3
      rwa [List.take_append_drop] at this
    rw [e1, e2]
    have e3 : (((n - 1 : Nat) : Int)) ≤ n := by omega
    simp [Heap.set_self, e3]
    have h4 : (cs.take (i * 4) ++ cs.drop ((i + 1) * 4)).length = (n - 1) * 4 := by
      rw [List.length_append, List.length_take, List.length_drop, hcl, Nat.sub_mul]; omega
    have h5 : (n - 1) * 4 ≤ n * 4 := Nat.mul_le_mul_right _ (by omega)
    have h6 : n * 4 ≤ c * 4 := Nat.mul_le_mul_right _ hc
    rw [if_neg (show ¬ c = n - 1 by omega), show n - (n - 1) = 1 by omega, Heap.set_set]
    refine ⟨hc, by rw [Nat.sub_mul]; omega, by rw [Nat.sub_mul]; omega, ?_⟩
    rw [← List.append_assoc, splA_mid _ _ _ h4, List.append_assoc]
    exact ⟨_, rfl⟩
  have h4 : (cs.take (i * 4) ++ cs.drop ((i + 1) * 4)).length = (n - 1) * 4 := by
    rw [List.length_append, List.length_take, List.length_drop, hcl, Nat.sub_mul]; omega
  refine main.trim ?_
  rintro v' H' ⟨rfl, R, rfl⟩
  refine ⟨b, _, _, (n - 1) * 4, Heap.set_self _ _ _, ?_⟩
  rw [Heap.set_set, ← List.append_assoc, ← h4, List.take_left]
  exact ⟨⟨h4, .inr ⟨b, c, rfl, Heap.set_self _ _ _, by omega⟩⟩, fun q hq _ => Heap.set_ne _ _ (fun h => hq (by rw [h]; rfl)), rfl⟩
theorem ovlIL : (PP.info? 108).isSome = true := by kernel_rfl
theorem ovlL : OvlOK PP F_slices_overlaps_list_cell := ⟨Tryz.f86, 105, 4, 108, (PP.info? 108).get ovlIL, Tryz.func86, by kernel_rfl, by kernel_rfl, by kernel_rfl, by kernel_rfl, by kernel_rfl, (Option.some_get ovlIL).symm⟩
theorem k_insL {H : Heap} {v : AV} {n : Nat} {cs : List AV} (ho : OwnR H 4 n v cs) (hone : cs.all AV.one = true) {x : List AV} (hx : x.length = 4) (hxo : x.all AV.one = true) {i : Nat} (hi : i ≤ n) (hn : n < 2 ^ 30) :
    CC PP F_slices_Insert_list_cell_list_cell [v, .int .i64 i, .imm x 1 (some 1)] H fun v' H' => OwnR H' 4 (n + 1) v' (cs.take (i * 4) ++ (x ++ cs.drop (i * 4))) ∧ KeepB H H' (blkOf v) ∧ (∀ b, blkOf v' = some b → H b = none ∨ blkOf v = some b) := by
  refine CC.by_vc ok_slices_Insert_list_cell_list_cell (by simp) ?_
  unfold c_slices_Insert_list_cell_list_cell
  have hxne : x ≠ [] := fun e => by rw [e] at hx; simp at hx
  have hx1 : cellsOf H 4 (.imm x 1 (some 1)) = some x := by rw [cellsOf_imm, if_pos (by omega)]
  have hcl := ho.1
  by_cases hin : i = n
  · subst hin
    have e1 : cs.take (i * 4) ++ (x ++ cs.drop (i * 4)) = cs ++ x := by
      rw [List.take_of_length_le (by omega), List.drop_of_length_le (by omega), List.append_nil]
    rw [e1]
    have ho' := ho
    obtain ⟨hcl, ⟨rfl, rfl⟩ | ⟨b', c, rfl, hb', hc⟩⟩ := ho
    · simp
      refine vcAp_row (.inl ho') (x := .imm x 1 (some 1)) (new := x) (m := 1) hx1 rfl (by omega) (by omega) hxo (by omega) (.inl hxne) ?_
      intro v' H' h1 h2 h3
      simp [h1.un]
      exact ⟨h1, h2, h3⟩
    · simp
      refine ⟨hc, ?_⟩
      refine vcAp_row (.inl ho') (x := .imm x 1 (some 1)) (new := x) (m := 1) hx1 rfl (by omega) (by omega) hxo (by omega) (.inl hxne) ?_
      intro v' H' h1 h2 h3
      simp [h1.un]
      exact ⟨h1, h2, h3⟩
  · have hil : i < n := by omega
    obtain ⟨hcl, ⟨rfl, rfl⟩ | ⟨b, c, rfl, hb, hc⟩⟩ := ho
    · omega
    obtain ⟨z, hz⟩ : ∃ z, z = n + 1 - i := ⟨_, rfl⟩
    have w1 : IntKind.i64.wrap ((n : Int) + 1) = (n : Int) + 1 := wrap_i64 (by omega) (by omega)
    have w2 : IntKind.i64.wrap ((i : Int) + 1) = (i : Int) + 1 := wrap_i64 (by omega) (by omega)
    have w3 : IntKind.i64.wrap ((n : Int) + 1 - i) = (z : Int) := by rw [wrap_i64 (by omega) (by omega)]; omega
    have hmx : max (z : Int) 0 = z := by omega
    have hiz : ((i : Int) + (z : Int)).toNat = i + z := by omega
    have hin' : ¬ (i : Int) = n := by omega
    have hit : i * 4 ≤ n * 4 := Nat.mul_le_mul_right _ hi
    have hdl : (cs.drop (i * 4)).length = (n - i) * 4 := by rw [List.length_drop, hcl, Nat.sub_mul]
    have htl : (cs.take (i * 4)).length = i * 4 := by rw [List.length_take, hcl]; omega
    have hone2 : (cs.drop (i * 4)).all AV.one = true := List.all_eq_true.2 fun y hy => List.all_eq_true.1 hone y (List.mem_of_mem_drop hy)
    have hfl : (cs.take (i * 4) ++ (x ++ cs.drop (i * 4))).length = (n + 1) * 4 := by simp only [List.length_append, htl, hdl, hx]; omega
    by_cases hg : c < n + 1
    · obtain rfl : c = n := by omega
      simp [hin, hin', hi, w1, w2, w3, hmx, hiz, hb, show (c : Int) < (c : Int) + 1 by omega, show ¬ (c : Int) + 1 ≤ c by omega]
      refine ⟨by omega, by omega, by omega, fun b' c' hb' hc' => ⟨⟨by omega, by omega⟩, ?_⟩⟩
      have nbb : b ≠ b' := fun h => by rw [h, hb'] at hb; cases hb
      have hzl : (List.replicate z ([AV.int IntKind.i64 0, AV.int IntKind.i64 0, AV.int IntKind.i64 0, AV.nils] : List AV)).flatten.length = z * 4 := by rw [rep_len]; rfl
      generalize (List.replicate z ([AV.int IntKind.i64 0, AV.int IntKind.i64 0, AV.int IntKind.i64 0, AV.nils] : List AV)).flatten = Z at *
      generalize hA : cs.take (i * 4) = A at *
      generalize hB : cs.drop (i * 4) = B at *
      have hC1 : splA (A ++ Z) (i * 4) (x.take (1 * 4)) = A ++ (x ++ Z.drop x.length) := by
        rw [List.take_of_length_le (by omega), splA_mid _ _ _ htl]
      have hC2 : splA (A ++ (x ++ Z.drop x.length)) ((i + 1) * 4) B = A ++ (x ++ B) := by
        rw [← List.append_assoc, splA_mid _ _ _ (by rw [List.length_append]; omega), List.drop_drop, List.drop_of_length_le (by omega)]
        simp
      rw [show Nat.min 1 z = 1 by show min 1 z = 1; omega, if_neg (show ¬ c' = i by omega), Heap.set_self, pre_imm _ _ _ _ _ _ (by omega), s_Cp, hC1]
      refine ⟨List.all_eq_true.2 fun y hy => List.all_eq_true.1 hxo y (List.mem_of_mem_take hy), by simp only [List.length_append]; omega, by omega, ?_⟩
      simp [Heap.set_set, hi, w2, hb, Heap.set_ne _ _ nbb]
      refine ⟨⟨by omega, by omega, by omega⟩, ?_⟩
      have hBt : B.take ((c - i) * 4) = B := List.take_of_length_le (by omega)
      have hi2 : i + z - (i + 1) = c - i := by omega
      rw [hiz, hi2, show Nat.min (c - i) (c - i) = c - i from Nat.min_self _, if_neg (show ¬ c' = i + 1 by omega), if_neg (show ¬ c = i by omega), Heap.set_self, pre_sl (by rw [Heap.set_ne _ _ nbb]; exact hb) _ _ _ _ _ (by rw [hcl, Nat.sub_mul]; omega), hB, hBt, s_Cp, hC2]
      refine ⟨hone2, by simp only [List.length_append]; omega, by omega, ?_⟩
      simp [Heap.set_set]
      have e3 : i + z = c + 1 := by omega
      rw [e3]
      exact ⟨⟨hfl, .inr ⟨b', c', rfl, Heap.set_self _ _ _, by omega⟩⟩, fun q _ hq => Heap.set_ne _ _ (fun h => hq (by rw [h]; exact hb')), fun q hq => by cases hq; exact .inl hb'⟩
    · simp [hin, hin', hi, w1, w2, w3, hb, show ¬ (c : Int) < (n : Int) + 1 by omega, show (n : Int) + 1 ≤ c by omega]
      have hc0 : (i + 1) * 4 ≤ cs.length := by rw [hcl]; exact Nat.mul_le_mul_right _ (by omega)
      have hci : splA (splA cs ((i + 1) * 4) (cs.drop (i * 4))) (i * 4) (x.take (1 * 4)) = cs.take (i * 4) ++ (x ++ cs.drop (i * 4)) := by
        rw [List.take_of_length_le (by omega), show (i + 1) * 4 = i * 4 + 4 by omega, splA_ins hx (by omega)]
      have hql : (n + 1) * 4 ≤ c * 4 := Nat.mul_le_mul_right _ (by omega)
      have hs1 : (splA cs ((i + 1) * 4) (cs.drop (i * 4))).length = (n + 1) * 4 := by
        unfold splA; simp only [List.length_append, List.length_take, List.length_drop]; omega
      have hmn : Nat.min (n + 1 - i) (n - i) = n - i := by show min (n + 1 - i) (n - i) = _; omega
      have hdt : ((cs.drop (i * 4)).take ((n - i) * 4)) = cs.drop (i * 4) := List.take_of_length_le (by omega)
      refine ⟨by omega, by omega, by omega, ovlL, hxne, by omega, by omega, by omega, ?_⟩
      rw [hmn, if_neg (show ¬ c = i + 1 by omega), if_neg (show ¬ c = i by omega), pre_sl hb _ _ _ _ _ (by rw [hcl, Nat.sub_mul]; omega), hdt, s_Cp]
      refine ⟨hone2, hc0, by rw [Nat.sub_mul]; omega, ?_⟩
      simp [Heap.set_self, show ¬ (n : Int) + 1 < i by omega, show (i : Int) ≤ (n : Int) + 1 by omega]
      refine ⟨by omega, ?_⟩
      rw [show Nat.min 1 (n + 1 - i) = 1 by show min 1 (n + 1 - i) = 1; omega, if_neg (show ¬ c = i by omega), pre_imm _ _ _ _ _ _ (by omega), s_Cp, hci]
      refine ⟨List.all_eq_true.2 fun y hy => List.all_eq_true.1 hxo y (List.mem_of_mem_take hy), by rw [hs1]; omega, by omega, ?_⟩
      simp [Heap.set_set]
      exact ⟨⟨hfl, .inr ⟨b, c, rfl, Heap.set_self _ _ _, by omega⟩⟩, fun q hq _ => Heap.set_ne _ _ (fun h => hq (by rw [h]; rfl)), fun q hq => by cases hq; exact .inr rfl⟩

theorem k_delL {H : Heap} {v : AV} {n : Nat} {cs : List AV} (ho : OwnR H 4 n v cs) (hone : cs.all AV.one = true) {i : Nat} (hi : i < n) (hn : n < 2 ^ 30) :
    CC PP F_slices_Delete_list_cell_list_cell [v, .int .i64 i, .int .i64 (i + 1 : Nat)] H fun v' H' => OwnR H' 4 (n - 1) v' (cs.take (i * 4) ++ cs.drop ((i + 1) * 4)) ∧ KeepB H H' (blkOf v) ∧ blkOf v' = blkOf v := by
  obtain ⟨hcl, ⟨rfl, rfl⟩ | ⟨b, c, rfl, hb, hc⟩⟩ := ho
  · omega
  have hit : (i + 1) * 4 ≤ n * 4 := Nat.mul_le_mul_right _ (by omega)
  have main : CC PP F_slices_Delete_list_cell_list_cell [.sl b 0 n c, .int .i64 i, .int .i64 (i + 1 : Nat)] H fun v' H' => v' = .sl b 0 (n - 1) c ∧ ∃ R, H' = H.set b (some (.cells (cs.take (i * 4) ++ (cs.drop ((i + 1) * 4) ++ R)) (c * 4))) := by
    refine CC.by_vc ok_slices_Delete_list_cell_list_cell (by simp) ?_
    unfold c_slices_Delete_list_cell_list_cell
    have hne : ¬ (i : Int) = (i : Int) + 1 := by omega
    have hone2 : (cs.drop ((i + 1) * 4)).all AV.one = true := List.all_eq_true.2 fun y hy => List.all_eq_true.1 hone y (List.mem_of_mem_drop hy)
    have hx : cellsOf H 4 (AV.sl b (if c = i + 1 then 0 else (i + 1) * 4) (n - (i + 1)) (c - (i + 1))) = some (cs.drop ((i + 1) * 4)) := by
      by_cases h0 : n - (i + 1) = 0
      · rw [h0, List.drop_of_length_le (by rw [hcl]; exact Nat.mul_le_mul_right _ (by omega))]; simp [cellsOf]
      · have h1 : (i + 1) * 4 + (n - (i + 1)) * 4 ≤ cs.length := by rw [hcl, Nat.sub_mul]; omega
        rw [if_neg (by omega)]
        simp only [cellsOf, hb]
        rw [if_neg h0, if_pos h1, List.take_of_length_le (by rw [List.length_drop]; rw [Nat.sub_mul]; omega)]
    simp [hne]
    refine ⟨⟨by omega, by omega, hc⟩, by omega, ⟨by omega, by omega, hc⟩, ?_⟩
    refine vcAp_in hb rfl (by rw [hcl]; omega) (by rw [hcl]; omega) hx rfl hone2 (by omega) ?_
    have e1 : i + (n - (i + 1)) = n - 1 := by omega
    have e2 : splA cs (i * 4) (cs.drop ((i + 1) * 4)) = cs.take (i * 4) ++ (cs.drop ((i + 1) * 4) ++ (cs.drop (i * 4)).drop (cs.drop ((i + 1) * 4)).length) := by
      have h3 : (cs.take (i * 4)).length = i * 4 := by rw [List.length_take]; omega
      have := splA_mid (cs.take (i * 4)) (cs.drop (i * 4)) (cs.drop ((i + 1) * 4)) h3
      rwa [List.take_append_drop] at this
    rw [e1, e2]
    have e3 : (((n - 1 : Nat) : Int)) ≤ n := by omega
    simp [Heap.set_self, e3]
    have h4 : (cs.take (i * 4) ++ cs.drop ((i + 1) * 4)).length = (n - 1) * 4 := by
      rw [List.length_append, List.length_take, List.length_drop, hcl, Nat.sub_mul]; omega
    have h5 : (n - 1) * 4 ≤ n * 4 := Nat.mul_le_mul_right _ (by omega)
    have h6 : n * 4 ≤ c * 4 := Nat.mul_le_mul_right _ hc
    rw [if_neg (show ¬ c = n - 1 by omega), show n - (n - 1) = 1 by omega, Heap.set_set]
    refine ⟨hc, by rw [Nat.sub_mul]; omega, by rw [Nat.sub_mul]; omega, ?_⟩
    rw [← List.append_assoc, splA_mid _ _ _ h4, List.append_assoc]
    exact ⟨_, rfl⟩
  have h4 : (cs.take (i * 4) ++ cs.drop ((i + 1) * 4)).length = (n - 1) * 4 := by
    rw [List.length_append, List.length_take, List.length_drop, hcl, Nat.sub_mul]; omega
  refine main.trim ?_
  rintro v' H' ⟨rfl, R, rfl⟩
  refine ⟨b, _, _, (n - 1) * 4, Heap.set_self _ _ _, ?_⟩
  rw [Heap.set_set, ← List.append_assoc, ← h4, List.take_left]
  exact ⟨⟨h4, .inr ⟨b, c, rfl, Heap.set_self _ _ _, by omega⟩⟩, fun q hq _ => Heap.set_ne _ _ (fun h => hq (by rw [h]; rfl)), rfl⟩
theorem ovlID : (PP.info? 115).isSome = true := by kernel_rfl
theorem ovlD : OvlOK PP F_slices_overlaps_dict_cell := ⟨Tryz.f88, 112, 4, 115, (PP.info? 115).get ovlID, Tryz.func88, by kernel_rfl, by kernel_rfl, by kernel_rfl, by kernel_rfl, by kernel_rfl, (Option.some_get ovlID).symm⟩
theorem k_insD {H : Heap} {v : AV} {n : Nat} {cs : List AV} (ho : OwnR H 4 n v cs) (hone : cs.all AV.one = true) {x : List AV} (hx : x.length = 4) (hxo : x.all AV.one = true) {i : Nat} (hi : i ≤ n) (hn : n < 2 ^ 30) :
    CC PP F_slices_Insert_dict_cell_dict_cell [v, .int .i64 i, .imm x 1 (some 1)] H fun v' H' => OwnR H' 4 (n + 1) v' (cs.take (i * 4) ++ (x ++ cs.drop (i * 4))) ∧ KeepB H H' (blkOf v) ∧ (∀ b, blkOf v' = some b → H b = none ∨ blkOf v = some b) := by
  refine CC.by_vc ok_slices_Insert_dict_cell_dict_cell (by simp) ?_
  unfold c_slices_Insert_dict_cell_dict_cell
  have hxne : x ≠ [] := fun e => by rw [e] at hx; simp at hx
  have hx1 : cellsOf H 4 (.imm x 1 (some 1)) = some x := by rw [cellsOf_imm, if_pos (by omega)]
  have hcl := ho.1
  by_cases hin : i = n
  · subst hin
    have e1 : cs.take (i * 4) ++ (x ++ cs.drop (i * 4)) = cs ++ x := by
      rw [List.take_of_length_le (by omega), List.drop_of_length_le (by omega), List.append_nil]
    rw [e1]
    have ho' := ho
    obtain ⟨hcl, ⟨rfl, rfl⟩ | ⟨b', c, rfl, hb', hc⟩⟩ := ho
    · simp
      refine vcAp_row (.inl ho') (x := .imm x 1 (some 1)) (new := x) (m := 1) hx1 rfl (by omega) (by omega) hxo (by omega) (.inl hxne) ?_
      intro v' H' h1 h2 h3
      simp [h1.un]
      exact ⟨h1, h2, h3⟩
    · simp
      refine ⟨hc, ?_⟩
      refine vcAp_row (.inl ho') (x := .imm x 1 (some 1)) (new := x) (m := 1) hx1 rfl (by omega) (by omega) hxo (by omega) (.inl hxne) ?_
      intro v' H' h1 h2 h3
      simp [h1.un]
      exact ⟨h1, h2, h3⟩
  · have hil : i < n := by omega
    obtain ⟨hcl, ⟨rfl, rfl⟩ | ⟨b, c, rfl, hb, hc⟩⟩ := ho
    · omega
    obtain ⟨z, hz⟩ : ∃ z, z = n + 1 - i := ⟨_, rfl⟩
    have w1 : IntKind.i64.wrap ((n : Int) + 1) = (n : Int) + 1 := wrap_i64 (by omega) (by omega)
    have w2 : IntKind.i64.wrap ((i : Int) + 1) = (i : Int) + 1 := wrap_i64 (by omega) (by omega)
    have w3 : IntKind.i64.wrap ((n : Int) + 1 - i) = (z : Int) := by rw [wrap_i64 (by omega) (by omega)]; omega
    have hmx : max (z : Int) 0 = z := by omega
    have hiz : ((i : Int) + (z : Int)).toNat = i + z := by omega
    have hin' : ¬ (i : Int) = n := by omega
    have hit : i * 4 ≤ n * 4 := Nat.mul_le_mul_right _ hi
    have hdl : (cs.drop (i * 4)).length = (n - i) * 4 := by rw [List.length_drop, hcl, Nat.sub_mul]
    have htl : (cs.take (i * 4)).length = i * 4 := by rw [List.length_take, hcl]; omega
    have hone2 : (cs.drop (i * 4)).all AV.one = true := List.all_eq_true.2 fun y hy => List.all_eq_true.1 hone y (List.mem_of_mem_drop hy)
    have hfl : (cs.take (i * 4) ++ (x ++ cs.drop (i * 4))).length = (n + 1) * 4 := by simp only [List.length_append, htl, hdl, hx]; omega
    by_cases hg : c < n + 1
    · obtain rfl : c = n := by omega
      simp [hin, hin', hi, w1, w2, w3, hmx, hiz, hb, show (c : Int) < (c : Int) + 1 by omega, show ¬ (c : Int) + 1 ≤ c by omega]
      refine ⟨by omega, by omega, by omega, fun b' c' hb' hc' => ⟨⟨by omega, by omega⟩, ?_⟩⟩
      have nbb : b ≠ b' := fun h => by rw [h, hb'] at hb; cases hb
      have hzl : (List.replicate z ([AV.int IntKind.i64 0, AV.int IntKind.i64 0, AV.int IntKind.i64 0, AV.nils] : List AV)).flatten.length = z * 4 := by rw [rep_len]; rfl
      generalize (List.replicate z ([AV.int IntKind.i64 0, AV.int IntKind.i64 0, AV.int IntKind.i64 0, AV.nils] : List AV)).flatten = Z at *
      generalize hA : cs.take (i * 4) = A at *
      generalize hB : cs.drop (i * 4) = B at *
      have hC1 : splA (A ++ Z) (i * 4) (x.take (1 * 4)) = A ++ (x ++ Z.drop x.length) := by
        rw [List.take_of_length_le (by omega), splA_mid _ _ _ htl]
      have hC2 : splA (A ++ (x ++ Z.drop x.length)) ((i + 1) * 4) B = A ++ (x ++ B) := by
        rw [← List.append_assoc, splA_mid _ _ _ (by rw [List.length_append]; omega), List.drop_drop, List.drop_of_length_le (by omega)]
        simp
      rw [show Nat.min 1 z = 1 by show min 1 z = 1; omega, if_neg (show ¬ c' = i by omega), Heap.set_self, pre_imm _ _ _ _ _ _ (by omega), s_Cp, hC1]
      refine ⟨List.all_eq_true.2 fun y hy => List.all_eq_true.1 hxo y (List.mem_of_mem_take hy), by simp only [List.length_append]; omega, by omega, ?_⟩
      simp [Heap.set_set, hi, w2, hb, Heap.set_ne _ _ nbb]
      refine ⟨⟨by omega, by omega, by omega⟩, ?_⟩
      have hBt : B.take ((c - i) * 4) = B := List.take_of_length_le (by omega)
      have hi2 : i + z - (i + 1) = c - i := by omega
      rw [hiz, hi2, show Nat.min (c - i) (c - i) = c - i from Nat.min_self _, if_neg (show ¬ c' = i + 1 by omega), if_neg (show ¬ c = i by omega), Heap.set_self, pre_sl (by rw [Heap.set_ne _ _ nbb]; exact hb) _ _ _ _ _ (by rw [hcl, Nat.sub_mul]; omega), hB, hBt, s_Cp, hC2]
      refine ⟨hone2, by simp only [List.length_append]; omega, by omega, ?_⟩
      simp [Heap.set_set]
      have e3 : i + z = c + 1 := by omega
      rw [e3]
      exact ⟨⟨hfl, .inr ⟨b', c', rfl, Heap.set_self _ _ _, by omega⟩⟩, fun q _ hq => Heap.set_ne _ _ (fun h => hq (by rw [h]; exact hb')), fun q hq => by cases hq; exact .inl hb'⟩
    · simp [hin, hin', hi, w1, w2, w3, hb, show ¬ (c : Int) < (n : Int) + 1 by omega, show (n : Int) + 1 ≤ c by omega]
      have hc0 : (i + 1) * 4 ≤ cs.length := by rw [hcl]; exact Nat.mul_le_mul_right _ (by omega)
      have hci : splA (splA cs ((i + 1) * 4) (cs.drop (i * 4))) (i * 4) (x.take (1 * 4)) = cs.take (i * 4) ++ (x ++ cs.drop (i * 4)) := by
        rw [List.take_of_length_le (by omega), show (i + 1) * 4 = i * 4 + 4 by omega, splA_ins hx (by omega)]
      have hql : (n + 1) * 4 ≤ c * 4 := Nat.mul_le_mul_right _ (by omega)
      have hs1 : (splA cs ((i + 1) * 4) (cs.drop (i * 4))).length = (n + 1) * 4 := by
        unfold splA; simp only [List.length_append, List.length_take, List.length_drop]; omega
      have hmn : Nat.min (n + 1 - i) (n - i) = n - i := by show min (n + 1 - i) (n - i) = _; omega
      have hdt : ((cs.drop (i * 4)).take ((n - i) * 4)) = cs.drop (i * 4) := List.take_of_length_le (by omega)
      refine ⟨by omega, by omega, by omega, ovlD, hxne, by omega, by omega, by omega, ?_⟩
      rw [hmn, if_neg (show ¬ c = i + 1 by omega), if_neg (show ¬ c = i by omega), pre_sl hb _ _ _ _ _ (by rw [hcl, Nat.sub_mul]; omega), hdt, s_Cp]
      refine ⟨hone2, hc0, by rw [Nat.sub_mul]; omega, ?_⟩
      simp [Heap.set_self, show ¬ (n : Int) + 1 < i by omega, show (i : Int) ≤ (n : Int) + 1 by omega]
      refine ⟨by omega, ?_⟩
      rw [show Nat.min 1 (n + 1 - i) = 1 by show min 1 (n + 1 - i) = 1; omega, if_neg (show ¬ c = i by omega), pre_imm _ _ _ _ _ _ (by omega), s_Cp, hci]
      refine ⟨List.all_eq_true.2 fun y hy => List.all_eq_true.1 hxo y (List.mem_of_mem_take hy), by rw [hs1]; omega, by omega, ?_⟩
      simp [Heap.set_set]
      exact ⟨⟨hfl, .inr ⟨b, c, rfl, Heap.set_self _ _ _, by omega⟩⟩, fun q hq _ => Heap.set_ne _ _ (fun h => hq (by rw [h]; rfl)), fun q hq => by cases hq; exact .inr rfl⟩

theorem k_delD {H : Heap} {v : AV} {n : Nat} {cs : List AV} (ho : OwnR H 4 n v cs) (hone : cs.all AV.one = true) {i : Nat} (hi : i < n) (hn : n < 2 ^ 30) :
    CC PP F_slices_Delete_dict_cell_dict_cell [v, .int .i64 i, .int .i64 (i + 1 : Nat)] H fun v' H' => OwnR H' 4 (n - 1) v' (cs.take (i * 4) ++ cs.drop ((i + 1) * 4)) ∧ KeepB H H' (blkOf v) ∧ blkOf v' = blkOf v := by
  obtain ⟨hcl, ⟨rfl, rfl⟩ | ⟨b, c, rfl, hb, hc⟩⟩ := ho
  · omega
  have hit : (i + 1) * 4 ≤ n * 4 := Nat.mul_le_mul_right _ (by omega)
  have main : CC PP F_slices_Delete_dict_cell_dict_cell [.sl b 0 n c, .int .i64 i, .int .i64 (i + 1 : Nat)] H fun v' H' => v' = .sl b 0 (n - 1) c ∧ ∃ R, H' = H.set b (some (.cells (cs.take (i * 4) ++ (cs.drop ((i + 1) * 4) ++ R)) (c * 4))) := by
    refine CC.by_vc ok_slices_Delete_dict_cell_dict_cell (by simp) ?_
    unfold c_slices_Delete_dict_cell_dict_cell
    have hne : ¬ (i : Int) = (i : Int) + 1 := by omega
    have hone2 : (cs.drop ((i + 1) * 4)).all AV.one = true := List.all_eq_true.2 fun y hy => List.all_eq_true.1 hone y (List.mem_of_mem_drop hy)
    have hx : cellsOf H 4 (AV.sl b (if c = i + 1 then 0 else (i + 1) * 4) (n - (i + 1)) (c - (i + 1))) = some (cs.drop ((i + 1) * 4)) := by
      by_cases h0 : n - (i + 1) = 0
      · rw [h0, List.drop_of_length_le (by rw [hcl]; exact Nat.mul_le_mul_right _ (by omega))]; simp [cellsOf]
      · have h1 : (i + 1) * 4 + (n - (i + 1)) * 4 ≤ cs.length := by rw [hcl, Nat.sub_mul]; omega
        rw [if_neg (by omega)]
        simp only [cellsOf, hb]
        rw [if_neg h0, if_pos h1, List.take_of_length_le (by rw [List.length_drop]; rw [Nat.sub_mul]; omega)]
    simp [hne]
    refine ⟨⟨by omega, by omega, hc⟩, by omega, ⟨by omega, by omega, hc⟩, ?_⟩
    refine vcAp_in hb rfl (by rw [hcl]; omega) (by rw [hcl]; omega) hx rfl hone2 (by omega) ?_
    have e1 : i + (n - (i + 1)) = n - 1 := by omega
    have e2 : splA cs (i * 4) (cs.drop ((i + 1) * 4)) = cs.take (i * 4) ++ (cs.drop ((i + 1) * 4) ++ (cs.drop (i * 4)).drop (cs.drop ((i + 1) * 4)).length) := by
      have h3 : (cs.take (i * 4)).length = i * 4 := by rw [List.length_take]; omega
      have := splA_mid (cs.take (i * 4)) (cs.drop (i * 4)) (cs.drop ((i + 1) * 4)) h3
      rwa [List.take_append_drop] at this
    rw [e1, e2]
    have e3 : (((n - 1 : Nat) : Int)) ≤ n := by omega
    simp [Heap.set_self, e3]
    have h4 : (cs.take (i * 4) ++ cs.drop ((i + 1) * 4)).length = (n - 1) * 4 := by
      rw [List.length_append, List.length_take, List.length_drop, hcl, Nat.sub_mul]; omega
    have h5 : (n - 1) * 4 ≤ n * 4 := Nat.mul_le_mul_right _ (by omega)
    have h6 : n * 4 ≤ c * 4 := Nat.mul_le_mul_right _ hc
    rw [if_neg (show ¬ c = n - 1 by omega), show n - (n - 1) = 1 by omega, Heap.set_set]
    refine ⟨hc, by rw [Nat.sub_mul]; omega, by rw [Nat.sub_mul]; omega, ?_⟩
    rw [← List.append_assoc, splA_mid _ _ _ h4, List.append_assoc]
    exact ⟨_, rfl⟩
  have h4 : (cs.take (i * 4) ++ cs.drop ((i + 1) * 4)).length = (n - 1) * 4 := by
    rw [List.length_append, List.length_take, List.length_drop, hcl, Nat.sub_mul]; omega
  refine main.trim ?_
  rintro v' H' ⟨rfl, R, rfl⟩
  refine ⟨b, _, _, (n - 1) * 4, Heap.set_self _ _ _, ?_⟩
  rw [Heap.set_set, ← List.append_assoc, ← h4, List.take_left]
  exact ⟨⟨h4, .inr ⟨b, c, rfl, Heap.set_self _ _ _, by omega⟩⟩, fun q hq _ => Heap.set_ne _ _ (fun h => hq (by rw [h]; rfl)), rfl⟩
theorem ovlIF : (PP.info? 63).isSome = true := by kernel_rfl
theorem ovlF : OvlOK PP F_slices_overlaps_api_Field := ⟨Tryz.f90, 59, 4, 63, (PP.info? 63).get ovlIF, Tryz.func90, by kernel_rfl, by kernel_rfl, by kernel_rfl, by kernel_rfl, by kernel_rfl, (Option.some_get ovlIF).symm⟩
theorem k_insF {H : Heap} {v : AV} {n : Nat} {cs : List AV} (ho : OwnR H 2 n v cs) (hone : cs.all AV.one = true) {x : List AV} (hx : x.length = 2) (hxo : x.all AV.one = true) {i : Nat} (hi : i ≤ n) (hn : n < 2 ^ 30) :
    CC PP F_slices_Insert_api_Field_api_Field [v, .int .i64 i, .imm x 1 (some 1)] H fun v' H' => OwnR H' 2 (n + 1) v' (cs.take (i * 2) ++ (x ++ cs.drop (i * 2))) ∧ KeepB H H' (blkOf v) ∧ (∀ b, blkOf v' = some b → H b = none ∨ blkOf v = some b) := by
  refine CC.by_vc ok_slices_Insert_api_Field_api_Field (by simp) ?_
  unfold c_slices_Insert_api_Field_api_Field
  have hxne : x ≠ [] := fun e => by rw [e] at hx; simp at hx
  have hx1 : cellsOf H 2 (.imm x 1 (some 1)) = some x := by rw [cellsOf_imm, if_pos (by omega)]
  have hcl := ho.1
  by_cases hin : i = n
  · subst hin
    have e1 : cs.take (i * 2) ++ (x ++ cs.drop (i * 2)) = cs ++ x := by
      rw [List.take_of_length_le (by omega), List.drop_of_length_le (by omega), List.append_nil]
    rw [e1]
    have ho' := ho
    obtain ⟨hcl, ⟨rfl, rfl⟩ | ⟨b', c, rfl, hb', hc⟩⟩ := ho
    · simp
      refine vcAp_row (.inl ho') (x := .imm x 1 (some 1)) (new := x) (m := 1) hx1 rfl (by omega) (by omega) hxo (by omega) (.inl hxne) ?_
      intro v' H' h1 h2 h3
      simp [h1.un]
      exact ⟨h1, h2, h3⟩
    · simp
      refine ⟨hc, ?_⟩
      refine vcAp_row (.inl ho') (x := .imm x 1 (some 1)) (new := x) (m := 1) hx1 rfl (by omega) (by omega) hxo (by omega) (.inl hxne) ?_
      intro v' H' h1 h2 h3
      simp [h1.un]
      exact ⟨h1, h2, h3⟩
  · have hil : i < n := by omega
    obtain ⟨hcl, ⟨rfl, rfl⟩ | ⟨b, c, rfl, hb, hc⟩⟩ := ho
    · omega
    obtain ⟨z, hz⟩ : ∃ z, z = n + 1 - i := ⟨_, rfl⟩
    have w1 : IntKind.i64.wrap ((n : Int) + 1) = (n : Int) + 1 := wrap_i64 (by omega) (by omega)
    have w2 : IntKind.i64.wrap ((i : Int) + 1) = (i : Int) + 1 := wrap_i64 (by omega) (by omega)
    have w3 : IntKind.i64.wrap ((n : Int) + 1 - i) = (z : Int) := by rw [wrap_i64 (by omega) (by omega)]; omega
    have hmx : max (z : Int) 0 = z := by omega
    have hiz : ((i : Int) + (z : Int)).toNat = i + z := by omega
    have hin' : ¬ (i : Int) = n := by omega
    have hit : i * 2 ≤ n * 2 := Nat.mul_le_mul_right _ hi
    have hdl : (cs.drop (i * 2)).length = (n - i) * 2 := by rw [List.length_drop, hcl, Nat.sub_mul]
    have htl : (cs.take (i * 2)).length = i * 2 := by rw [List.length_take, hcl]; omega
    have hone2 : (cs.drop (i * 2)).all AV.one = true := List.all_eq_true.2 fun y hy => List.all_eq_true.1 hone y (List.mem_of_mem_drop hy)
    have hfl : (cs.take (i * 2) ++ (x ++ cs.drop (i * 2))).length = (n + 1) * 2 := by simp only [List.length_append, htl, hdl, hx]; omega
    by_cases hg : c < n + 1
    · obtain rfl : c = n := by omega
      simp [hin, hin', hi, w1, w2, w3, hmx, hiz, hb, show (c : Int) < (c : Int) + 1 by omega, show ¬ (c : Int) + 1 ≤ c by omega]
      refine ⟨by omega, by omega, by omega, fun b' c' hb' hc' => ⟨⟨by omega, by omega⟩, ?_⟩⟩
      have nbb : b ≠ b' := fun h => by rw [h, hb'] at hb; cases hb
      have hzl : (List.replicate z ([AV.int IntKind.i64 0, AV.int IntKind.i64 0] : List AV)).flatten.length = z * 2 := by rw [rep_len]; rfl
      generalize (List.replicate z ([AV.int IntKind.i64 0, AV.int IntKind.i64 0] : List AV)).flatten = Z at *
      generalize hA : cs.take (i * 2) = A at *
      generalize hB : cs.drop (i * 2) = B at *
      have hC1 : splA (A ++ Z) (i * 2) (x.take (1 * 2)) = A ++ (x ++ Z.drop x.length) := by
        rw [List.take_of_length_le (by omega), splA_mid _ _ _ htl]
      have hC2 : splA (A ++ (x ++ Z.drop x.length)) ((i + 1) * 2) B = A ++ (x ++ B) := by
        rw [← List.append_assoc, splA_mid _ _ _ (by rw [List.length_append]; omega), List.drop_drop, List.drop_of_length_le (by omega)]
        simp
      rw [show Nat.min 1 z = 1 by show min 1 z = 1; omega, if_neg (show ¬ c' = i by omega), Heap.set_self, pre_imm _ _ _ _ _ _ (by omega), s_Cp, hC1]
      refine ⟨List.all_eq_true.2 fun y hy => List.all_eq_true.1 hxo y (List.mem_of_mem_take hy), by simp only [List.length_append]; omega, by omega, ?_⟩
      simp [Heap.set_set, hi, w2, hb, Heap.set_ne _ _ nbb]
      refine ⟨⟨by omega, by omega, by omega⟩, ?_⟩
      have hBt : B.take ((c - i) * 2) = B := List.take_of_length_le (by omega)
      have hi2 : i + z - (i + 1) = c - i := by omega
      rw [hiz, hi2, show Nat.min (c - i) (c - i) = c - i from Nat.min_self _, if_neg (show ¬ c' = i + 1 by omega), if_neg (show ¬ c = i by omega), Heap.set_self, pre_sl (by rw [Heap.set_ne _ _ nbb]; exact hb) _ _ _ _ _ (by rw [hcl, Nat.sub_mul]; omega), hB, hBt, s_Cp, hC2]
      refine ⟨hone2, by simp only [List.length_append]; omega, by omega, ?_⟩
      simp [Heap.set_set]
      have e3 : i + z = c + 1 := by omega
      rw [e3]
      exact ⟨⟨hfl, .inr ⟨b', c', rfl, Heap.set_self _ _ _, by omega⟩⟩, fun q _ hq => Heap.set_ne _ _ (fun h => hq (by rw [h]; exact hb')), fun q hq => by cases hq; exact .inl hb'⟩
    · simp [hin, hin', hi, w1, w2, w3, hb, show ¬ (c : Int) < (n : Int) + 1 by omega, show (n : Int) + 1 ≤ c by omega]
      have hc0 : (i + 1) * 2 ≤ cs.length := by rw [hcl]; exact Nat.mul_le_mul_right _ (by omega)
      have hci : splA (splA cs ((i + 1) * 2) (cs.drop (i * 2))) (i * 2) (x.take (1 * 2)) = cs.take (i * 2) ++ (x ++ cs.drop (i * 2)) := by
        rw [List.take_of_length_le (by omega), show (i + 1) * 2 = i * 2 + 2 by omega, splA_ins hx (by omega)]
      have hql : (n + 1) * 2 ≤ c * 2 := Nat.mul_le_mul_right _ (by omega)
      have hs1 : (splA cs ((i + 1) * 2) (cs.drop (i * 2))).length = (n + 1) * 2 := by
        unfold splA; simp only [List.length_append, List.length_take, List.length_drop]; omega
      have hmn : Nat.min (n + 1 - i) (n - i) = n - i := by show min (n + 1 - i) (n - i) = _; omega
      have hdt : ((cs.drop (i * 2)).take ((n - i) * 2)) = cs.drop (i * 2) := List.take_of_length_le (by omega)
      refine ⟨by omega, by omega, by omega, ovlF, hxne, by omega, by omega, by omega, ?_⟩
      rw [hmn, if_neg (show ¬ c = i + 1 by omega), if_neg (show ¬ c = i by omega), pre_sl hb _ _ _ _ _ (by rw [hcl, Nat.sub_mul]; omega), hdt, s_Cp]
      refine ⟨hone2, hc0, by rw [Nat.sub_mul]; omega, ?_⟩
      simp [Heap.set_self, show ¬ (n : Int) + 1 < i by omega, show (i : Int) ≤ (n : Int) + 1 by omega]
      refine ⟨by omega, ?_⟩
      rw [show Nat.min 1 (n + 1 - i) = 1 by show min 1 (n + 1 - i) = 1; omega, if_neg (show ¬ c = i by omega), pre_imm _ _ _ _ _ _ (by omega), s_Cp, hci]
      refine ⟨List.all_eq_true.2 fun y hy => List.all_eq_true.1 hxo y (List.mem_of_mem_take hy), by rw [hs1]; omega, by omega, ?_⟩
      simp [Heap.set_set]
      exact ⟨⟨hfl, .inr ⟨b, c, rfl, Heap.set_self _ _ _, by omega⟩⟩, fun q hq _ => Heap.set_ne _ _ (fun h => hq (by rw [h]; rfl)), fun q hq => by cases hq; exact .inr rfl⟩

theorem k_delF {H : Heap} {v : AV} {n : Nat} {cs : List AV} (ho : OwnR H 2 n v cs) (hone : cs.all AV.one = true) {i : Nat} (hi : i < n) (hn : n < 2 ^ 30) :
    CC PP F_slices_Delete_api_Field_api_Field [v, .int .i64 i, .int .i64 (i + 1 : Nat)] H fun v' H' => OwnR H' 2 (n - 1) v' (cs.take (i * 2) ++ cs.drop ((i + 1) * 2)) ∧ KeepB H H' (blkOf v) ∧ blkOf v' = blkOf v := by
  obtain ⟨hcl, ⟨rfl, rfl⟩ | ⟨b, c, rfl, hb, hc⟩⟩ := ho
  · omega
  have hit : (i + 1) * 2 ≤ n * 2 := Nat.mul_le_mul_right _ (by omega)
  have main : CC PP F_slices_Delete_api_Field_api_Field [.sl b 0 n c, .int .i64 i, .int .i64 (i + 1 : Nat)] H fun v' H' => v' = .sl b 0 (n - 1) c ∧ ∃ R, H' = H.set b (some (.cells (cs.take (i * 2) ++ (cs.drop ((i + 1) * 2) ++ R)) (c * 2))) := by
    refine CC.by_vc ok_slices_Delete_api_Field_api_Field (by simp) ?_
    unfold c_slices_Delete_api_Field_api_Field
    have hne : ¬ (i : Int) = (i : Int) + 1 := by omega
    have hone2 : (cs.drop ((i + 1) * 2)).all AV.one = true := List.all_eq_true.2 fun y hy => List.all_eq_true.1 hone y (List.mem_of_mem_drop hy)
    have hx : cellsOf H 2 (AV.sl b (if c = i + 1 then 0 else (i + 1) * 2) (n - (i + 1)) (c - (i + 1))) = some (cs.drop ((i + 1) * 2)) := by
      by_cases h0 : n - (i + 1) = 0
      · rw [h0, List.drop_of_length_le (by rw [hcl]; exact Nat.mul_le_mul_right _ (by omega))]; simp [cellsOf]
      · have h1 : (i + 1) * 2 + (n - (i + 1)) * 2 ≤ cs.length := by rw [hcl, Nat.sub_mul]; omega
        rw [if_neg (by omega)]
        simp only [cellsOf, hb]
        rw [if_neg h0, if_pos h1, List.take_of_length_le (by rw [List.length_drop]; rw [Nat.sub_mul]; omega)]
    simp [hne]
    refine ⟨⟨by omega, by omega, hc⟩, by omega, ⟨by omega, by omega, hc⟩, ?_⟩
    refine vcAp_in hb rfl (by rw [hcl]; omega) (by rw [hcl]; omega) hx rfl hone2 (by omega) ?_
    have e1 : i + (n - (i + 1)) = n - 1 := by omega
    have e2 : splA cs (i * 2) (cs.drop ((i + 1) * 2)) = cs.take (i * 2) ++ (cs.drop ((i + 1) * 2) ++ (cs.drop (i * 2)).drop (cs.drop ((i + 1) * 2)).length) := by
      have h3 : (cs.take (i * 2)).length = i * 2 := by rw [List.length_take]; omega
      have := splA_mid (cs.take (i * 2)) (cs.drop (i * 2)) (cs.drop ((i + 1) * 2)) h3
      rwa [List.take_append_drop] at this
    rw [e1, e2]
    have e3 : (((n - 1 : Nat) : Int)) ≤ n := by omega
    simp [Heap.set_self, e3]
    have h4 : (cs.take (i * 2) ++ cs.drop ((i + 1) * 2)).length = (n - 1) * 2 := by
      rw [List.length_append, List.length_take, List.length_drop, hcl, Nat.sub_mul]; omega
    have h5 : (n - 1) * 2 ≤ n * 2 := Nat.mul_le_mul_right _ (by omega)
    have h6 : n * 2 ≤ c * 2 := Nat.mul_le_mul_right _ hc
    rw [if_neg (show ¬ c = n - 1 by omega), show n - (n - 1) = 1 by omega, Heap.set_set]
    refine ⟨hc, by rw [Nat.sub_mul]; omega, by rw [Nat.sub_mul]; omega, ?_⟩
    rw [← List.append_assoc, splA_mid _ _ _ h4, List.append_assoc]
    exact ⟨_, rfl⟩
  have h4 : (cs.take (i * 2) ++ cs.drop ((i + 1) * 2)).length = (n - 1) * 2 := by
    rw [List.length_append, List.length_take, List.length_drop, hcl, Nat.sub_mul]; omega
  refine main.trim ?_
  rintro v' H' ⟨rfl, R, rfl⟩
  refine ⟨b, _, _, (n - 1) * 2, Heap.set_self _ _ _, ?_⟩
  rw [Heap.set_set, ← List.append_assoc, ← h4, List.take_left]
  exact ⟨⟨h4, .inr ⟨b, c, rfl, Heap.set_self _ _ _, by omega⟩⟩, fun q hq _ => Heap.set_ne _ _ (fun h => hq (by rw [h]; rfl)), rfl⟩
end Go.Proofs.YtdpbbnnlbjgjgaaGreat
set_option linter.unusedVariables false
set_option linter.unusedSimpArgs false
set_option maxRecDepth 100000
set_option maxHeartbeats 4000000
namespace Go.Proofs.YtdpbbnnlbjgjgaaGreat
open Go.Sf
theorem agg_eq3 (a b : K3T) : (decide (a.1 = b.1) && (decide (a.2.1 = b.2.1) && decide (a.2.2 = b.2.2))) = decide (a = b) := by
  obtain ⟨a1, a2, a3⟩ := a
  obtain ⟨b1, b2, b3⟩ := b
  rw [Bool.eq_iff_iff]
  simp only [Bool.and_eq_true, decide_eq_true_eq, Prod.mk.injEq]
theorem flat3 (a b : K3T) : flatEq [SK.i, SK.i, SK.i] (k3 a) (k3 b) = some (decide (a = b)) := by
  rw [← agg_eq3]
  simp [flatEq, k3, scalEq]
theorem tk3 (a : K3T) : (k3 a).take 3 = k3 a := rfl
theorem pk_none {i : Nat} {β : Type} {A : CellsK β} {k : K3T} (h : i ≤ posK k A) (hi : i = A.length) : posK k A = A.length := by have := posK_le k A; omega
def I_vat (H0 : Heap) (p : Nat) (A : CellsK (Int)) (k : K3T) (b : Nat) (m : Nat) (T : Nat → AV) (H : Heap) : Prop :=
  ∃ i : Nat, i + m = A.length ∧ i ≤ posK k A ∧ T 0 = .ptr p 0 ∧ T 3 = .ptr b 0 ∧ T 6 = .int .i64 i ∧ H0 b = none ∧ H b = some (.cells (k3 k) 3) ∧ ∀ x, H0 x ≠ none → H x = H0 x
theorem k_vAt {H0 : Heap} {p : Nat} {v : AV} {A : CellsK (Int)} (hp : H0 p = some (.cells [v] 1)) (ho : OwnR H0 4 A.length v (A.flatMap encV)) (hs : SortedK A) (hl : A.length < 2 ^ 40) (k : K3T) :
    CC PP F_value_Values_at [.ptr p 0, .agg (k3 k)] H0 fun r H' => H' = H0 ∧ r = .tup [.int .i64 (posK k A), .bool (getK k A).isSome] := by
  refine CC.back ?_
  refine CC.by_vc ok_value_Values_at (by simp) ?_
  unfold c_value_Values_at
  have hle := posK_le k A
  simp
  intro b hb
  have hk3 : (k3 k).length = 3 := rfl
  have old : ∀ x, H0 x ≠ none → (H0.set b (some (.cells (k3 k) 3))) x = H0 x := fun x hx => Heap.set_ne _ _ (fun h => hx (by rw [h]; exact hb))
  obtain ⟨hcl, ⟨rfl, hA0⟩ | ⟨bv, c, rfl, hbv, hc⟩⟩ := ho
  · obtain rfl : A = [] := List.length_eq_zero_iff.1 hA0
    simp [hk3]
    refine LoopV.mk2 (I_vat H0 p [] k b) 0 ⟨0, rfl, by omega, by simp, by simp, by simp, hb, Heap.set_self _ _ _, old⟩ ?_
    rintro m T H ⟨i, him, hip, t0, t3, t6, hb0, hbb, hold⟩
    have hpH : H p = some (.cells [.nils] 1) := by rw [hold p (by rw [hp]; simp)]; exact hp
    have hi0 : i = 0 := by simp at him; omega
    subst hi0
    simp [t0, t3, t6, hpH, hbb, hk3]
    refine ⟨.bool false, ?_⟩
    simp [posK, getK]
    exact hold
  · have hX := fm_length encV_length A
    simp [hk3]
    refine LoopV.mk2 (I_vat H0 p A k b) A.length ⟨0, by omega, by omega, by simp, by simp, by simp, hb, Heap.set_self _ _ _, old⟩ ?_
    rintro m T H ⟨i, him, hip, t0, t3, t6, hb0, hbb, hold⟩
    have hpH : H p = some (.cells [.sl bv 0 A.length c] 1) := by rw [hold p (by rw [hp]; simp)]; exact hp
    have hbH : H bv = some (.cells (A.flatMap encV) (c * 4)) := by rw [hold bv (by rw [hbv]; simp)]; exact hbv
    by_cases hi : i < A.length
    · obtain ⟨q, hq⟩ : ∃ q, A[i]? = some q := ⟨A[i], by simp [hi]⟩
      obtain ⟨f1, f2⟩ := fm_at encV_length hq
      have hld : ((A.flatMap encV).drop (i * 4)).take 3 = k3 q.1 := by
        have := congrArg (List.take 3) f1
        rwa [List.take_take] at this
      have f3 : i * 4 + 3 ≤ (A.flatMap encV).length := by omega
      generalize A.flatMap encV = X at *
      simp [t0, t3, t6, hpH, hbH, hi, hbb, hk3, f3, hld]
      refine ⟨_, CallQ.of (p_less q.1 k) rfl, ?_⟩
      simp [tk3, flat3]
      refine ⟨fun hlt => ?_, fun hlt => ?_⟩
      · have hne : i ≠ posK k A := fun e => by rw [e] at hq; rw [posK_ge hq] at hlt; cases hlt
        refine Again2.mk (m - 1) (by omega) ⟨i + 1, by omega, by omega, by simp [t0], by simp [t3], ?_, hb0, hbb, hold⟩
        simp; rw [wrap_i64 (by omega) (by omega)]
      · have he : i = posK k A := Classical.byContradiction fun hne => by
          rw [posK_lt (by omega) hq] at hlt; cases hlt
        subst he
        exact ⟨hold, rfl, (there_at hs hq).symm⟩
    · have hie : i = A.length := by omega
      subst hie
      generalize A.flatMap encV = X at *
      simp [t0, t3, t6, hpH, hbH, hbb, hk3]
      refine ⟨.bool false, ?_⟩
      have he := pk_none hip rfl
      have hg := there_out hs (Nat.le_of_eq he.symm)
      cases hfe : flatEq [SK.i, SK.i, SK.i] (List.take 3 (List.drop (A.length * 4) X)) (List.take 3 (k3 k))
      all_goals
        simp [hfe]
        exact ⟨hold, by rw [he], by simpa using hg⟩
def I_lat (H0 : Heap) (p : Nat) (A : CellsK (List Int)) (k : K3T) (b : Nat) (m : Nat) (T : Nat → AV) (H : Heap) : Prop :=
  ∃ i : Nat, i + m = A.length ∧ i ≤ posK k A ∧ T 0 = .ptr p 0 ∧ T 3 = .ptr b 0 ∧ T 6 = .int .i64 i ∧ H0 b = none ∧ H b = some (.cells (k3 k) 3) ∧ ∀ x, H0 x ≠ none → H x = H0 x
theorem k_lAt {H0 : Heap} {p : Nat} {v : AV} {A : CellsK (List Int)} (hp : H0 p = some (.cells [v] 1)) (ho : OwnR H0 4 A.length v (A.flatMap encL)) (hs : SortedK A) (hl : A.length < 2 ^ 40) (k : K3T) :
    CC PP F_list_Lists_at [.ptr p 0, .agg (k3 k)] H0 fun r H' => H' = H0 ∧ r = .tup [.int .i64 (posK k A), .bool (getK k A).isSome] := by
  refine CC.back ?_
  refine CC.by_vc ok_list_Lists_at (by simp) ?_
  unfold c_list_Lists_at
  have hle := posK_le k A
  simp
  intro b hb
  have hk3 : (k3 k).length = 3 := rfl
  have old : ∀ x, H0 x ≠ none → (H0.set b (some (.cells (k3 k) 3))) x = H0 x := fun x hx => Heap.set_ne _ _ (fun h => hx (by rw [h]; exact hb))
  obtain ⟨hcl, ⟨rfl, hA0⟩ | ⟨bv, c, rfl, hbv, hc⟩⟩ := ho
  · obtain rfl : A = [] := List.length_eq_zero_iff.1 hA0
    simp [hk3]
    refine LoopV.mk2 (I_lat H0 p [] k b) 0 ⟨0, rfl, by omega, by simp, by simp, by simp, hb, Heap.set_self _ _ _, old⟩ ?_
    rintro m T H ⟨i, him, hip, t0, t3, t6, hb0, hbb, hold⟩
    have hpH : H p = some (.cells [.nils] 1) := by rw [hold p (by rw [hp]; simp)]; exact hp
    have hi0 : i = 0 := by simp at him; omega
    subst hi0
    simp [t0, t3, t6, hpH, hbb, hk3]
    refine ⟨.bool false, ?_⟩
    simp [posK, getK]
    exact hold
  · have hX := fm_length encL_length A
    simp [hk3]
    refine LoopV.mk2 (I_lat H0 p A k b) A.length ⟨0, by omega, by omega, by simp, by simp, by simp, hb, Heap.set_self _ _ _, old⟩ ?_
    rintro m T H ⟨i, him, hip, t0, t3, t6, hb0, hbb, hold⟩
    have hpH : H p = some (.cells [.sl bv 0 A.length c] 1) := by rw [hold p (by rw [hp]; simp)]; exact hp
    have hbH : H bv = some (.cells (A.flatMap encL) (c * 4)) := by rw [hold bv (by rw [hbv]; simp)]; exact hbv
    by_cases hi : i < A.length
    · obtain ⟨q, hq⟩ : ∃ q, A[i]? = some q := ⟨A[i], by simp [hi]⟩
      obtain ⟨f1, f2⟩ := fm_at encL_length hq
      have hld : ((A.flatMap encL).drop (i * 4)).take 3 = k3 q.1 := by
        have := congrArg (List.take 3) f1
        rwa [List.take_take] at this
      have f3 : i * 4 + 3 ≤ (A.flatMap encL).length := by omega
      generalize A.flatMap encL = X at *
      simp [t0, t3, t6, hpH, hbH, hi, hbb, hk3, f3, hld]
      refine ⟨_, CallQ.of (p_less q.1 k) rfl, ?_⟩
      simp [tk3, flat3]
      refine ⟨fun hlt => ?_, fun hlt => ?_⟩
      · have hne : i ≠ posK k A := fun e => by rw [e] at hq; rw [posK_ge hq] at hlt; cases hlt
        refine Again2.mk (m - 1) (by omega) ⟨i + 1, by omega, by omega, by simp [t0], by simp [t3], ?_, hb0, hbb, hold⟩
        simp; rw [wrap_i64 (by omega) (by omega)]
      · have he : i = posK k A := Classical.byContradiction fun hne => by
          rw [posK_lt (by omega) hq] at hlt; cases hlt
        subst he
        exact ⟨hold, rfl, (there_at hs hq).symm⟩
    · have hie : i = A.length := by omega
      subst hie
      generalize A.flatMap encL = X at *
      simp [t0, t3, t6, hpH, hbH, hbb, hk3]
      refine ⟨.bool false, ?_⟩
      have he := pk_none hip rfl
      have hg := there_out hs (Nat.le_of_eq he.symm)
      cases hfe : flatEq [SK.i, SK.i, SK.i] (List.take 3 (List.drop (A.length * 4) X)) (List.take 3 (k3 k))
      all_goals
        simp [hfe]
        exact ⟨hold, by rw [he], by simpa using hg⟩
def I_dat (H0 : Heap) (p : Nat) (A : CellsK (FieldsL × AV)) (k : K3T) (b : Nat) (m : Nat) (T : Nat → AV) (H : Heap) : Prop :=
  ∃ i : Nat, i + m = A.length ∧ i ≤ posK k A ∧ T 0 = .ptr p 0 ∧ T 3 = .ptr b 0 ∧ T 6 = .int .i64 i ∧ H0 b = none ∧ H b = some (.cells (k3 k) 3) ∧ ∀ x, H0 x ≠ none → H x = H0 x
theorem k_dAt {H0 : Heap} {p : Nat} {v : AV} {A : CellsK (FieldsL × AV)} (hp : H0 p = some (.cells [v] 1)) (ho : OwnR H0 4 A.length v (A.flatMap encD)) (hs : SortedK A) (hl : A.length < 2 ^ 40) (k : K3T) :
    CC PP F_dict_Dicts_at [.ptr p 0, .agg (k3 k)] H0 fun r H' => H' = H0 ∧ r = .tup [.int .i64 (posK k A), .bool (getK k A).isSome] := by
  refine CC.back ?_
  refine CC.by_vc ok_dict_Dicts_at (by simp) ?_
  unfold c_dict_Dicts_at
  have hle := posK_le k A
  simp
  intro b hb
  have hk3 : (k3 k).length = 3 := rfl
  have old : ∀ x, H0 x ≠ none → (H0.set b (some (.cells (k3 k) 3))) x = H0 x := fun x hx => Heap.set_ne _ _ (fun h => hx (by rw [h]; exact hb))
  obtain ⟨hcl, ⟨rfl, hA0⟩ | ⟨bv, c, rfl, hbv, hc⟩⟩ := ho
  · obtain rfl : A = [] := List.length_eq_zero_iff.1 hA0
    simp [hk3]
    refine LoopV.mk2 (I_dat H0 p [] k b) 0 ⟨0, rfl, by omega, by simp, by simp, by simp, hb, Heap.set_self _ _ _, old⟩ ?_
    rintro m T H ⟨i, him, hip, t0, t3, t6, hb0, hbb, hold⟩
    have hpH : H p = some (.cells [.nils] 1) := by rw [hold p (by rw [hp]; simp)]; exact hp
    have hi0 : i = 0 := by simp at him; omega
    subst hi0
    simp [t0, t3, t6, hpH, hbb, hk3]
    refine ⟨.bool false, ?_⟩
    simp [posK, getK]
    exact hold
  · have hX := fm_length encD_length A
    simp [hk3]
    refine LoopV.mk2 (I_dat H0 p A k b) A.length ⟨0, by omega, by omega, by simp, by simp, by simp, hb, Heap.set_self _ _ _, old⟩ ?_
    rintro m T H ⟨i, him, hip, t0, t3, t6, hb0, hbb, hold⟩
    have hpH : H p = some (.cells [.sl bv 0 A.length c] 1) := by rw [hold p (by rw [hp]; simp)]; exact hp
    have hbH : H bv = some (.cells (A.flatMap encD) (c * 4)) := by rw [hold bv (by rw [hbv]; simp)]; exact hbv
    by_cases hi : i < A.length
    · obtain ⟨q, hq⟩ : ∃ q, A[i]? = some q := ⟨A[i], by simp [hi]⟩
      obtain ⟨f1, f2⟩ := fm_at encD_length hq
      have hld : ((A.flatMap encD).drop (i * 4)).take 3 = k3 q.1 := by
        have := congrArg (List.take 3) f1
        rwa [List.take_take] at this
      have f3 : i * 4 + 3 ≤ (A.flatMap encD).length := by omega
      generalize A.flatMap encD = X at *
      simp [t0, t3, t6, hpH, hbH, hi, hbb, hk3, f3, hld]
      refine ⟨_, CallQ.of (p_less q.1 k) rfl, ?_⟩
      simp [tk3, flat3]
      refine ⟨fun hlt => ?_, fun hlt => ?_⟩
      · have hne : i ≠ posK k A := fun e => by rw [e] at hq; rw [posK_ge hq] at hlt; cases hlt
        refine Again2.mk (m - 1) (by omega) ⟨i + 1, by omega, by omega, by simp [t0], by simp [t3], ?_, hb0, hbb, hold⟩
        simp; rw [wrap_i64 (by omega) (by omega)]
      · have he : i = posK k A := Classical.byContradiction fun hne => by
          rw [posK_lt (by omega) hq] at hlt; cases hlt
        subst he
        exact ⟨hold, rfl, (there_at hs hq).symm⟩
    · have hie : i = A.length := by omega
      subst hie
      generalize A.flatMap encD = X at *
      simp [t0, t3, t6, hpH, hbH, hbb, hk3]
      refine ⟨.bool false, ?_⟩
      have he := pk_none hip rfl
      have hg := there_out hs (Nat.le_of_eq he.symm)
      cases hfe : flatEq [SK.i, SK.i, SK.i] (List.take 3 (List.drop (A.length * 4) X)) (List.take 3 (k3 k))
      all_goals
        simp [hfe]
        exact ⟨hold, by rw [he], by simpa using hg⟩
end Go.Proofs.YtdpbbnnlbjgjgaaGreat
set_option linter.unusedVariables false
set_option linter.unusedSimpArgs false
set_option maxRecDepth 100000
set_option maxHeartbeats 4000000
namespace Go.Sf
section
variable {β : Type}
theorem insK_len (k : K3T) (u : β) (A : CellsK β) : (insK k u A).length = A.length + 1 := by
  unfold insK
  have := posK_le k A
  simp only [List.length_append, List.length_cons, List.length_take, List.length_drop]; omega
theorem insK_get (k : K3T) (u : β) (A : CellsK β) : (insK k u A)[posK k A]? = some (k, u) := by
  unfold insK
  have := posK_le k A
  rw [List.getElem?_append_right (by rw [List.length_take]; omega), List.length_take, Nat.min_eq_left this, Nat.sub_self]; rfl
theorem insK_set (k : K3T) (u v : β) (A : CellsK β) : (insK k u A).set (posK k A) (k, v) = insK k v A := by
  unfold insK
  have := posK_le k A
  rw [List.set_append_right _ _ (by rw [List.length_take]; omega), List.length_take, Nat.min_eq_left this, Nat.sub_self]; rfl
end
theorem OwnR.slOf {H : Heap} {sz n : Nat} {v : AV} {cs : List AV} (h : OwnR H sz n v cs) (hn : 0 < n) : ∃ b c, v = .sl b 0 n c ∧ H b = some (.cells cs (c * sz)) ∧ n ≤ c := by
  obtain ⟨_, ⟨_, rfl⟩ | h⟩ := h
  · omega
  · exact h
end Go.Sf
namespace Go.Proofs.YtdpbbnnlbjgjgaaGreat
open Go.Sf
/-- A row of the call's own that is handed out, held for good. -/
theorem CC.frozen {P : Program} {f : FuncId} {args : List AV} {H0 : Heap} {sz n : Nat} {cs : List AV} (h : CC P f args H0 fun r H' => OwnR H' sz n r cs ∧ (∀ x, H0 x ≠ none → H' x = H0 x) ∧ ∀ b, blkOf r = some b → H0 b = none) :
    CC P f args H0 fun r H' => H' = H0 ∧ r = .imm cs n none :=
  CC.back (CC.hold h fun v H' ⟨h1, h2, h3⟩ => ⟨sz, n, cs, h1, by
    refine ⟨fun x hx => ?_, rfl⟩
    cases hb : blkOf v with
    | some b => simp only; rw [Heap.set_ne _ _ (fun e => hx (by rw [e]; exact h3 b hb))]; exact h2 x hx
    | none => exact h2 x hx⟩)
theorem encV_one (p : K3T × Int) : (encV p).all AV.one = true := rfl
theorem k_vNew {H : Heap} : CC PP F_value_New [] H fun r H' => ∃ p, r = .ptr p 0 ∧ H p = none ∧ H' = H.set p (some (.cells [.nils] 1)) := by
  refine CC.by_vc ok_value_New (by simp) ?_
  unfold c_value_New
  simp
  intro p hp
  simp
  exact hp
theorem k_vValue {H : Heap} {p : Nat} {A : CellsK Int} {F : Nat → Prop} (hV : ValQ H p A F) (hl : A.length < 2 ^ 40) (k : K3T) :
    CC PP F_value_Values_Value [.ptr p 0, .agg (k3 k)] H fun r H' => H' = H ∧ r = .tup [.int .i64 ((getK k A).getD 0), .bool (getK k A).isSome] := by
  obtain ⟨v, hp, ho, hne, hs, -⟩ := hV
  refine CC.back ?_
  refine CC.by_vc ok_value_Values_Value (by simp) ?_
  unfold c_value_Values_Value
  simp
  intro b hb
  have hk3 : (k3 k).length = 3 := rfl
  have old : ∀ x, H x ≠ none → (H.set b (some (.cells (k3 k) 3))) x = H x := fun x hx => Heap.set_ne _ _ (fun h => hx (by rw [h]; exact hb))
  have hpb : p ≠ b := fun h => by rw [h, hb] at hp; cases hp
  have hp1 : (H.set b (some (.cells (k3 k) 3))) p = some (.cells [v] 1) := by rw [old p (by rw [hp]; simp)]; exact hp
  have ho1 : OwnR (H.set b (some (.cells (k3 k) 3))) 4 A.length v (A.flatMap encV) := ho.agree fun x hx => old x (ho.live hx)
  simp [hk3, Heap.set_self, tk3]
  refine CallK.of (k_vAt hp1 ho1 hs hl k) ?_
  rintro _ H' ⟨rfl, rfl⟩
  cases hg : getK k A with
  | none =>
    simp
    exact old
  | some n =>
    obtain ⟨h1, h2⟩ := at_there hs hg
    obtain ⟨bv, c, rfl, hbv, hc⟩ := ho1.slOf (by omega)
    have hld : (A.flatMap encV)[posK k A * 4 + 3]? = some (.int .i64 n) := fm_get (enc := encV) encV_length h1 (j := 3) (by omega)
    generalize A.flatMap encV = X at *
    simp [hp1, h2, hbv, hld]
    exact old
theorem k_vSet {H : Heap} {p : Nat} {A : CellsK Int} {F : Nat → Prop} (hV : ValQ H p A F) (hl : A.length < 2 ^ 29) (k : K3T) (n : Int) :
    CC PP F_value_Values_Set [.ptr p 0, .agg (k3 k), .int .i64 n] H fun r H' => r = .tup [] ∧ ∃ F', ValQ H' p (updK k n A) F' ∧ UpdF F F' H H' := by
  obtain ⟨v, hp, ho, hne, hs, hF⟩ := hV
  refine CC.by_vc ok_value_Values_Set (by simp) ?_
  unfold c_value_Values_Set
  simp
  intro b hb
  have hk3 : (k3 k).length = 3 := rfl
  have old : ∀ x, H x ≠ none → (H.set b (some (.cells (k3 k) 3))) x = H x := fun x hx => Heap.set_ne _ _ (fun h => hx (by rw [h]; exact hb))
  have hpb : p ≠ b := fun h => by rw [h, hb] at hp; cases hp
  simp only [hk3]
  generalize hH1 : H.set b (some (.cells (k3 k) 3)) = H1 at *
  have hp1 : H1 p = some (.cells [v] 1) := by rw [old p (by rw [hp]; simp)]; exact hp
  have hb1 : H1 b = some (.cells (k3 k) 3) := by rw [← hH1]; exact Heap.set_self _ _ _
  have ho1 : OwnR H1 4 A.length v (A.flatMap encV) := ho.agree fun x hx => old x (ho.live hx)
  simp [hk3, hb1, tk3]
  refine CallK.of (k_vAt hp1 ho1 hs (by omega) k) ?_
  rintro _ H' ⟨rfl, rfl⟩
  cases hg : getK k A with
  | none =>
    have hle := posK_le k A
    have ins : CC PP F_slices_Insert_value_cell_value_cell [v, .int .i64 (posK k A), .imm (k3 k ++ [.int .i64 0]) 1 (some 1)] H' fun v2 H2 => ∃ bv c, v2 = .sl bv 0 (A.length + 1) c ∧ H2 bv = some (.cells ((insK k 0 A).flatMap encV) (c * 4)) ∧ A.length + 1 ≤ c ∧ H2 p = some (.cells [v] 1) ∧ bv ≠ p ∧
        (∀ x, blkOf v ≠ some x → H' x ≠ none → H2 x = H' x) ∧ (H' bv = none ∨ blkOf v = some bv) :=
      (k_insV ho1 (fm_one encV_one A) (x := k3 k ++ [.int .i64 0]) rfl rfl hle (by omega)).mono fun v2 H2 ⟨h1, h2, h3⟩ => by
        obtain ⟨bv, c, rfl, hbv, hc⟩ := h1.slOf (by omega)
        refine ⟨bv, c, rfl, ?_, hc, by rw [h2 p hne (by rw [hp1]; simp)]; exact hp1, fun e => ?_, h2, h3 bv rfl⟩
        · rw [hbv, show k3 k ++ [.int .i64 0] = encV (k, 0) from rfl, fm_ins encV_length]; rfl
        · rcases h3 bv rfl with h | h
          · rw [e, hp1] at h; cases h
          · exact hne (by rw [← e]; exact h)
    have hu : updK k n A = insK k n A := by unfold updK; rw [if_neg (by rw [hg]; simp)]
    have hst := fm_set1 (enc := encV) encV_length (insK_get k 0 A) (j := 3) (y := (k, n)) (v := .int .i64 n) (by omega) rfl
    rw [insK_set] at hst
    have hX := fm_length encV_length (insK k (0 : Int) A)
    rw [insK_len] at hX
    have hun := ho.un
    simp [hp1, hb1, tk3, hk3, hun]
    have hso := sortedK_upd (k := k) (v := n) hs
    rw [hu] at hso ⊢
    have hX2 := fm_length encV_length (insK k n A)
    have hln := insK_len k n A
    generalize (insK k 0 A).flatMap encV = X at *
    repeat' (refine And.intro ?_ ?_)
    all_goals
      refine CallK.of ins ?_
      rintro _ H2 ⟨bv, c, rfl, hbv, hc, hp2, hbp, hkeep, hfresh⟩
      simp [hp2, Heap.set_self, show posK k A < A.length + 1 by omega, Heap.set_ne _ _ hbp, hbv]
      rw [hst]
      refine ⟨by omega, by omega, fun x => x = p ∨ x = bv, ⟨.sl bv 0 (A.length + 1) c, by rw [Heap.set_ne _ _ (Ne.symm hbp), Heap.set_self], ⟨hX2, .inr ⟨bv, c, by rw [hln], Heap.set_self _ _ _, by rw [hln]; exact hc⟩⟩, fun e => hbp (by cases e; rfl), hso, fun x => by simp [blkOf, eq_comm]⟩, fun x hx hn => ?_, fun x hx => ?_⟩
      · have e1 : x ≠ p := fun e => hx ((hF x).2 (.inl e))
        have e2 : blkOf v ≠ some x := fun e => hx ((hF x).2 (.inr e))
        have e3 : x ≠ bv := fun e => by
          rcases hfresh with h | h
          · rw [← e, old x hn] at h; exact hn h
          · exact e2 (by rw [e]; exact h)
        rw [Heap.set_ne _ _ e3, Heap.set_ne _ _ e1, hkeep x e2 (by rw [old x hn]; exact hn), old x hn]
      · rcases hx with rfl | rfl
        · exact .inl ((hF _).2 (.inl rfl))
        · rcases hfresh with h | h
          · refine .inr (Classical.byContradiction fun hn => ?_)
            rw [old _ hn] at h; exact hn h
          · exact .inl ((hF _).2 (.inr h))
  | some u =>
    obtain ⟨h1, h2⟩ := at_there hs hg
    obtain ⟨bv, c, rfl, hbv, hc⟩ := ho1.slOf (by omega)
    have hX := fm_length encV_length A
    have hst := fm_set1 (enc := encV) encV_length h1 (j := 3) (y := (k, n)) (v := .int .i64 n) (by omega) rfl
    have hu : updK k n A = A.set (posK k A) (k, n) := by unfold updK; rw [if_pos (by rw [hg]; rfl)]; rfl
    have hX2 := fm_length encV_length (A.set (posK k A) (k, n))
    have hso := sortedK_upd (k := k) (v := n) hs
    rw [hu] at hso
    generalize hXe : A.flatMap encV = X at *
    simp [hp1, h2, hbv]
    rw [hst, hu]
    have hbp : bv ≠ p := fun e => hne (by rw [e]; rfl)
    refine ⟨by omega, F, ⟨.sl bv 0 A.length c, by rw [Heap.set_ne _ _ (Ne.symm hbp)]; exact hp1, ⟨hX2, .inr ⟨bv, c, by rw [List.length_set], Heap.set_self _ _ _, by rw [List.length_set]; exact hc⟩⟩, hne, hso, hF⟩, fun x hx hn => ?_, fun x hx => .inl hx⟩
    rw [Heap.set_ne _ _ (fun e => hx ((hF x).2 (.inr (by rw [e]; rfl))))]
    exact old x hn
theorem k_vUnset {H : Heap} {p : Nat} {A : CellsK Int} {F : Nat → Prop} (hV : ValQ H p A F) (hl : A.length < 2 ^ 29) (k : K3T) :
    CC PP F_value_Values_Unset [.ptr p 0, .agg (k3 k)] H fun r H' => r = .bool (getK k A).isSome ∧ ∃ F', ValQ H' p (cutK k A) F' ∧ UpdF F F' H H' := by
  obtain ⟨v, hp, ho, hne, hs, hF⟩ := hV
  refine CC.by_vc ok_value_Values_Unset (by simp) ?_
  unfold c_value_Values_Unset
  simp
  intro b hb
  have hk3 : (k3 k).length = 3 := rfl
  have old : ∀ x, H x ≠ none → (H.set b (some (.cells (k3 k) 3))) x = H x := fun x hx => Heap.set_ne _ _ (fun h => hx (by rw [h]; exact hb))
  have hpb : p ≠ b := fun h => by rw [h, hb] at hp; cases hp
  simp only [hk3]
  generalize hH1 : H.set b (some (.cells (k3 k) 3)) = H1 at *
  have hp1 : H1 p = some (.cells [v] 1) := by rw [old p (by rw [hp]; simp)]; exact hp
  have hb1 : H1 b = some (.cells (k3 k) 3) := by rw [← hH1]; exact Heap.set_self _ _ _
  have ho1 : OwnR H1 4 A.length v (A.flatMap encV) := ho.agree fun x hx => old x (ho.live hx)
  simp [hk3, hb1, tk3]
  refine CallK.of (k_vAt hp1 ho1 hs (by omega) k) ?_
  rintro _ H' ⟨rfl, rfl⟩
  cases hg : getK k A with
  | none =>
    simp
    have hu : cutK k A = A := by unfold cutK; rw [if_neg (by rw [hg]; simp)]
    rw [hu]
    exact ⟨F, ⟨v, hp1, ho1, hne, hs, hF⟩, fun x hx hn => old x hn, fun x hx => .inl hx⟩
  | some u =>
    obtain ⟨h1, h2⟩ := at_there hs hg
    have hun := ho1.un
    have hu : cutK k A = A.eraseIdx (posK k A) := by unfold cutK; rw [if_pos (by rw [hg]; rfl)]; rfl
    have hso := sortedK_cut (k := k) hs
    have w1 : IntKind.i64.wrap ((posK k A : Int) + 1) = ((posK k A + 1 : Nat) : Int) := by rw [wrap_i64 (by omega) (by omega)]; rfl
    simp [hp1, hun, w1]
    refine CallK.of (k_delV ho1 (fm_one encV_one A) h2 (by omega)) ?_
    rintro v2 H2 ⟨g1, g2, g3⟩
    have hp2 : H2 p = some (.cells [v] 1) := by rw [g2 p hne (by rw [hp1]; simp)]; exact hp1
    rw [fm_del encV_length] at g1
    have hun2 := g1.un
    have hone2 := g1.one
    simp [hp2, hun2, hone2]
    have hln : (A.eraseIdx (posK k A)).length = A.length - 1 := by rw [List.length_eraseIdx, if_pos h2]
    rw [hu] at hso ⊢
    rw [← hln] at g1
    refine ⟨F, ⟨v2, Heap.set_self _ _ _, g1.agree fun x hx => Heap.set_ne _ _ (fun e => hne (by rw [← g3, hx, e])), by rw [g3]; exact hne, hso, by rw [g3]; exact hF⟩, fun x hx hn => ?_, fun x hx => .inl hx⟩
    have e1 : x ≠ p := fun e => hx ((hF x).2 (.inl e))
    have e2 : blkOf v ≠ some x := fun e => hx ((hF x).2 (.inr e))
    rw [Heap.set_ne _ _ e1, g2 x e2 (by rw [old x hn]; exact hn), old x hn]
def I_vkeys (H0 : Heap) (v : AV) (A : CellsK Int) (m : Nat) (T : Nat → AV) (H : Heap) : Prop :=
  ∃ (i : Nat) (u : AV), i + m = A.length ∧ T 11 = v ∧ T 12 = .int .i64 A.length ∧ T 13 = .int .i64 i ∧ T 3 = u ∧ OwnR H 3 i u (((A.take i).map (·.1)).flatMap k3) ∧ (∀ x, H0 x ≠ none → H x = H0 x) ∧ ∀ b, blkOf u = some b → H0 b = none
theorem k_vKeys {H0 : Heap} {p : Nat} {A : CellsK Int} {F : Nat → Prop} (hV : ValQ H0 p A F) (hl : A.length < 2 ^ 29) :
    CC PP F_value_Values_ValueKeys [.ptr p 0] H0 fun r H' => H' = H0 ∧ r = .imm ((A.map (·.1)).flatMap k3) A.length none := by
  obtain ⟨v, hp, ho, hne, hs, hF⟩ := hV
  refine CC.frozen (sz := 3) ?_
  refine CC.by_vc ok_value_Values_ValueKeys (by simp) ?_
  unfold c_value_Values_ValueKeys
  have hX := fm_length encV_length A
  have start : OwnR H0 3 0 .nils (((A.take 0).map (·.1)).flatMap k3) := ⟨rfl, .inl ⟨rfl, rfl⟩⟩
  obtain ⟨hcl, ⟨rfl, hA0⟩ | ⟨bv, c, rfl, hbv, hc⟩⟩ := ho
  · obtain rfl : A = [] := List.length_eq_zero_iff.1 hA0
    simp [hp]
    refine LoopV.mk2 (I_vkeys H0 .nils []) 0 ⟨0, .nils, rfl, by simp, by simp, by simp, by simp, start, fun _ _ => rfl, fun b hb => by cases hb⟩ ?_
    rintro m T H ⟨i, u, him, t11, t12, t13, t3, hO, hold, hfr⟩
    have hi0 : i = 0 := by simp at him; omega
    subst hi0
    have hun := hO.un
    simp [t11, t12, t13, t3, hun]
    exact ⟨by simpa using hO, hold, hfr⟩
  · simp [hp]
    refine LoopV.mk2 (I_vkeys H0 (.sl bv 0 A.length c) A) A.length ⟨0, .nils, by omega, by simp, by simp, by simp, by simp, start, fun _ _ => rfl, fun b hb => by cases hb⟩ ?_
    rintro m T H ⟨i, u, him, t11, t12, t13, t3, hO, hold, hfr⟩
    have hun := hO.un
    have hbH : H bv = some (.cells (A.flatMap encV) (c * 4)) := by rw [hold bv (by rw [hbv]; simp)]; exact hbv
    by_cases hi : i < A.length
    · obtain ⟨q, hq⟩ : ∃ q, A[i]? = some q := ⟨A[i], by simp [hi]⟩
      obtain ⟨f1, f2⟩ := fm_at encV_length hq
      have htk : (A.take (i + 1)).map (·.1) = (A.take i).map (·.1) ++ [q.1] := by rw [List.take_add_one, hq]; simp
      generalize A.flatMap encV = X at *
      have hq1 : ∀ x, x ∈ encV q → x.one = true := fun x hx => List.all_eq_true.1 (encV_one q) x hx
      have hq2 : (encV q).length = 4 := rfl
      have hq3 : (encV q).take 3 = k3 q.1 := rfl
      have hq4 : (k3 q.1).length = 3 := rfl
      simp [t11, t12, t13, t3, hun, hi, hbH, f1, f2]
      intro y hy
      have hyn : ∀ x, H0 x ≠ none → x ≠ y := fun x hx h => by rw [← h, hold x hx] at hy; exact hx hy
      simp [Heap.set_self, Heap.set_set, hq2, hq3, hq4, t3, hun]
      refine ⟨hq1, ?_⟩
      have hOy : OwnR (H.set y (some (.cells (encV q) 4))) 3 i u (((A.take i).map (·.1)).flatMap k3) := hO.agree fun x hx => Heap.set_ne _ _ (fun e => by have := hO.live hx; rw [e, hy] at this; exact this rfl)
      have hc3 : cellsOf (H.set y (some (.cells (encV q) 4))) 3 (.imm (k3 q.1) 1 (some 1)) = some (k3 q.1) := by rw [cellsOf_imm]; exact if_pos rfl
      refine vcAp_row (n := i) (m := 1) (new := k3 q.1) (.inl hOy) hc3 rfl rfl (by omega) rfl (by omega) (.inl (by simp [k3])) ?_
      intro u2 H2 g1 g2 g3
      have hun2 := g1.un
      simp [hun2, t13]
      refine Again2.mk (m - 1) (by omega) ⟨i + 1, u2, by omega, by simp [t11], by simp [t12], ?_, by simp, ?_, fun x hx => ?_, fun b hb => ?_⟩
      · simp; rw [wrap_i64 (by omega) (by omega)]
      · rw [htk, List.flatMap_append]; simpa using g1
      · rw [g2 x (fun e => hx (hfr x e)) (by rw [Heap.set_ne _ _ (hyn x hx), hold x hx]; exact hx), Heap.set_ne _ _ (hyn x hx)]; exact hold x hx
      · rcases g3 b hb with h | h
        · refine Classical.byContradiction fun hn => ?_
          rw [Heap.set_ne _ _ (hyn b hn), hold b hn] at h; exact hn h
        · exact hfr b h
    · have hie : i = A.length := by omega
      subst hie
      rw [List.take_length] at hO
      simp [t11, t12, t13, t3, hun]
      exact ⟨hO, hold, hfr⟩
end Go.Proofs.YtdpbbnnlbjgjgaaGreat
set_option linter.unusedVariables false
set_option linter.unusedSimpArgs false
set_option maxRecDepth 100000
set_option maxHeartbeats 4000000
namespace Go.Proofs.YtdpbbnnlbjgjgaaGreat
open Go.Sf
theorem CC.val {P : Program} {f : FuncId} {args : List AV} {H : Heap} {Q Q' : AV → Heap → Prop} (h : CC P f args H Q) (k : ∀ v H', Q v H' → ∃ v', (∀ M x, VRel M v x → VRel M v' x) ∧ Q' v' H') : CC P f args H Q' :=
  fun M w vs h1 h2 => (h M w vs h1 h2).mono fun e w' ⟨v, x, M', H', e1, e2, e3, e4, e5⟩ => by
    obtain ⟨v', k1, k2⟩ := k v H' e5
    exact ⟨v', x, M', H', e1, k1 _ _ e2, e3, e4, k2⟩
theorem nil_imm' {M : Mem} {x : Value} (h : VRel M .nils x) : VRel M (.imm [] 0 none) x := nil_imm h
theorem encL_one (p : K3T × List Int) : (encL p).all AV.one = true := rfl
theorem k_lNew {H : Heap} : CC PP F_list_New [] H fun r H' => ∃ p, r = .ptr p 0 ∧ H p = none ∧ H' = H.set p (some (.cells [.nils] 1)) := by
  refine CC.by_vc ok_list_New (by simp) ?_
  unfold c_list_New
  simp
  intro p hp
  simp
  exact hp
def I_lkeys (H0 : Heap) (v : AV) (A : CellsK (List Int)) (m : Nat) (T : Nat → AV) (H : Heap) : Prop :=
  ∃ (i : Nat) (u : AV), i + m = A.length ∧ T 11 = v ∧ T 12 = .int .i64 A.length ∧ T 13 = .int .i64 i ∧ T 3 = u ∧ OwnR H 3 i u (((A.take i).map (·.1)).flatMap k3) ∧ (∀ x, H0 x ≠ none → H x = H0 x) ∧ ∀ b, blkOf u = some b → H0 b = none
theorem k_lKeys {H0 : Heap} {p : Nat} {A : CellsK (List Int)} {F : Nat → Prop} (hV : LstQ H0 p A F) (hl : A.length < 2 ^ 29) :
    CC PP F_list_Lists_ListKeys [.ptr p 0] H0 fun r H' => H' = H0 ∧ r = .imm ((A.map (·.1)).flatMap k3) A.length none := by
  obtain ⟨v, hp, ho, hne, hs, hF⟩ := hV
  refine CC.frozen (sz := 3) ?_
  refine CC.by_vc ok_list_Lists_ListKeys (by simp) ?_
  unfold c_list_Lists_ListKeys
  have hX := fm_length encL_length A
  have start : OwnR H0 3 0 .nils (((A.take 0).map (·.1)).flatMap k3) := ⟨rfl, .inl ⟨rfl, rfl⟩⟩
  obtain ⟨hcl, ⟨rfl, hA0⟩ | ⟨bv, c, rfl, hbv, hc⟩⟩ := ho
  · obtain rfl : A = [] := List.length_eq_zero_iff.1 hA0
    simp [hp]
    refine LoopV.mk2 (I_lkeys H0 .nils []) 0 ⟨0, .nils, rfl, by simp, by simp, by simp, by simp, start, fun _ _ => rfl, fun b hb => by cases hb⟩ ?_
    rintro m T H ⟨i, u, him, t11, t12, t13, t3, hO, hold, hfr⟩
    have hi0 : i = 0 := by simp at him; omega
    subst hi0
    have hun := hO.un
    simp [t11, t12, t13, t3, hun]
    exact ⟨by simpa using hO, hold, hfr⟩
  · simp [hp]
    refine LoopV.mk2 (I_lkeys H0 (.sl bv 0 A.length c) A) A.length ⟨0, .nils, by omega, by simp, by simp, by simp, by simp, start, fun _ _ => rfl, fun b hb => by cases hb⟩ ?_
    rintro m T H ⟨i, u, him, t11, t12, t13, t3, hO, hold, hfr⟩
    have hun := hO.un
    have hbH : H bv = some (.cells (A.flatMap encL) (c * 4)) := by rw [hold bv (by rw [hbv]; simp)]; exact hbv
    by_cases hi : i < A.length
    · obtain ⟨q, hq⟩ : ∃ q, A[i]? = some q := ⟨A[i], by simp [hi]⟩
      obtain ⟨f1, f2⟩ := fm_at encL_length hq
      have htk : (A.take (i + 1)).map (·.1) = (A.take i).map (·.1) ++ [q.1] := by rw [List.take_add_one, hq]; simp
      generalize A.flatMap encL = X at *
      have hq1 : ∀ x, x ∈ encL q → x.one = true := fun x hx => List.all_eq_true.1 (encL_one q) x hx
      have hq2 : (encL q).length = 4 := rfl
      have hq3 : (encL q).take 3 = k3 q.1 := rfl
      have hq4 : (k3 q.1).length = 3 := rfl
      simp [t11, t12, t13, t3, hun, hi, hbH, f1, f2]
      intro y hy
      have hyn : ∀ x, H0 x ≠ none → x ≠ y := fun x hx h => by rw [← h, hold x hx] at hy; exact hx hy
      simp [Heap.set_self, Heap.set_set, hq2, hq3, hq4, t3, hun]
      refine ⟨hq1, ?_⟩
      have hOy : OwnR (H.set y (some (.cells (encL q) 4))) 3 i u (((A.take i).map (·.1)).flatMap k3) := hO.agree fun x hx => Heap.set_ne _ _ (fun e => by have := hO.live hx; rw [e, hy] at this; exact this rfl)
      have hc3 : cellsOf (H.set y (some (.cells (encL q) 4))) 3 (.imm (k3 q.1) 1 (some 1)) = some (k3 q.1) := by rw [cellsOf_imm]; exact if_pos rfl
      refine vcAp_row (n := i) (m := 1) (new := k3 q.1) (.inl hOy) hc3 rfl rfl (by omega) rfl (by omega) (.inl (by simp [k3])) ?_
      intro u2 H2 g1 g2 g3
      have hun2 := g1.un
      simp [hun2, t13]
      refine Again2.mk (m - 1) (by omega) ⟨i + 1, u2, by omega, by simp [t11], by simp [t12], ?_, by simp, ?_, fun x hx => ?_, fun b hb => ?_⟩
      · simp; rw [wrap_i64 (by omega) (by omega)]
      · rw [htk, List.flatMap_append]; simpa using g1
      · rw [g2 x (fun e => hx (hfr x e)) (by rw [Heap.set_ne _ _ (hyn x hx), hold x hx]; exact hx), Heap.set_ne _ _ (hyn x hx)]; exact hold x hx
      · rcases g3 b hb with h | h
        · refine Classical.byContradiction fun hn => ?_
          rw [Heap.set_ne _ _ (hyn b hn), hold b hn] at h; exact hn h
        · exact hfr b h
    · have hie : i = A.length := by omega
      subst hie
      rw [List.take_length] at hO
      simp [t11, t12, t13, t3, hun]
      exact ⟨hO, hold, hfr⟩
theorem p_cloneI {l : List Int} (hne : l ≠ []) (hl : l.length ≤ 2 ^ 40) : CP PP F_slices_Clone_int64_int64 [immI l] (fun v => v = immI l) := by
  obtain ⟨y, r, rfl⟩ : ∃ y r, l = y :: r := by cases l with | nil => exact absurd rfl hne | cons y r => exact ⟨y, r, rfl⟩
  refine CP.by_vc ok_slices_Clone_int64_int64 (by simp) ?_
  unfold c_slices_Clone_int64_int64
  simp [immI]
  have hc : cellsOf Heap.nil 1 (.imm (intsV (y :: r)) (r.length + 1) none) = some (intsV (y :: r)) := by rw [cellsOf_imm]; exact if_pos (by rw [intsV_length]; simp)
  refine vcAp_hold (n := 0) (cs := []) (m := r.length + 1) (.inr ⟨rfl, rfl⟩) hc rfl (intsV_one _) (by simp at hl; omega) ?_
  intro H' hk
  simp
theorem k_cloneIM {H : Heap} {l : List Int} (hne : l ≠ []) (hl : l.length ≤ 2 ^ 40) : CC PP F_slices_Clone_int64_int64 [immI l] H fun v H' => OwnR H' 1 l.length v (intsV l) ∧ (∀ x, H x ≠ none → H' x = H x) ∧ ∀ x, blkOf v = some x → H x = none := by
  obtain ⟨y, r, rfl⟩ : ∃ y r, l = y :: r := by cases l with | nil => exact absurd rfl hne | cons y r => exact ⟨y, r, rfl⟩
  refine CC.by_vc ok_slices_Clone_int64_int64M (by simp) ?_
  unfold c_slices_Clone_int64_int64M
  simp [immI]
  have hc : cellsOf H 1 (.imm (intsV (y :: r)) (r.length + 1) none) = some (intsV (y :: r)) := by rw [cellsOf_imm]; exact if_pos (by rw [intsV_length]; simp)
  refine vcAp_row (n := 0) (cs := []) (m := r.length + 1) (.inr ⟨rfl, rfl⟩) hc rfl (by rw [intsV_length]; simp) (by omega) (intsV_one _) (by simp at hl; omega) (.inl (by simp [intsV])) ?_
  intro v H' h1 h2 h3
  have hun := h1.un
  simp [hun]
  refine ⟨by simpa using h1, fun x hx => h2 x (by simp [blkOf]) hx, fun x hx => ?_⟩
  rcases h3 x hx with h | h
  · exact h
  · simp [blkOf] at h
theorem k_lList {H : Heap} {p : Nat} {A : CellsK (List Int)} {F : Nat → Prop} (hV : LstQ H p A F) (hl : A.length < 2 ^ 29) (k : K3T) :
    CC PP F_list_Lists_List [.ptr p 0, .agg (k3 k)] H fun r H' => H' = H ∧ r = immI (listK k A) := by
  obtain ⟨v, hp, ho, hne, hs, -⟩ := hV
  have main : CC PP F_list_Lists_List [.ptr p 0, .agg (k3 k)] H fun r H' => (∀ x, H x ≠ none → H' x = H x) ∧ ((listK k A = [] ∧ r = .nils) ∨ r = immI (listK k A)) := by
    refine CC.by_vc ok_list_Lists_List (by simp) ?_
    unfold c_list_Lists_List
    simp
    intro b hb
    have hk3 : (k3 k).length = 3 := rfl
    have old : ∀ x, H x ≠ none → (H.set b (some (.cells (k3 k) 3))) x = H x := fun x hx => Heap.set_ne _ _ (fun h => hx (by rw [h]; exact hb))
    have hp1 : (H.set b (some (.cells (k3 k) 3))) p = some (.cells [v] 1) := by rw [old p (by rw [hp]; simp)]; exact hp
    have ho1 : OwnR (H.set b (some (.cells (k3 k) 3))) 4 A.length v (A.flatMap encL) := ho.agree fun x hx => old x (ho.live hx)
    simp [hk3, Heap.set_self, tk3]
    refine CallK.of (k_lAt hp1 ho1 hs.1 (by omega) k) ?_
    rintro _ H' ⟨rfl, rfl⟩
    cases hg : getK k A with
    | none =>
      have hlk : listK k A = [] := by unfold listK; rw [hg]; rfl
      simp [hlk]
      exact old
    | some l =>
      have hlk : listK k A = l := by unfold listK; rw [hg]; rfl
      obtain ⟨h1, h2⟩ := at_there hs.1 hg
      have hll := hs.2 _ (mem_of_getK hg)
      simp only at hll
      obtain ⟨bv, c, rfl, hbv, hc⟩ := ho1.slOf (by omega)
      have hld : (A.flatMap encL)[posK k A * 4 + 3]? = some (immI l) := fm_get (enc := encL) encL_length h1 (j := 3) (by omega)
      generalize A.flatMap encL = X at *
      have hui : un (immI l) = (True, immI l) := rfl
      simp [hp1, h2, hbv, hld, hui]
      refine CallK.pure (p_cloneI hll.1 (by omega)) ?_
      rintro _ rfl
      simp [hlk, hui]
      exact old
  refine CC.back (CC.val main ?_)
  rintro r H' ⟨h1, ⟨h2, rfl⟩ | rfl⟩
  · exact ⟨immI (listK k A), fun M x hx => by rw [h2]; exact nil_imm' hx, h1, rfl⟩
  · exact ⟨_, fun M x hx => hx, h1, rfl⟩
theorem k_lListM {H : Heap} {p : Nat} {A : CellsK (List Int)} {F : Nat → Prop} (hV : LstQ H p A F) (hl : A.length < 2 ^ 29) (k : K3T) :
    CC PP F_list_Lists_List [.ptr p 0, .agg (k3 k)] H fun r H' => OwnR H' 1 (listK k A).length r (intsV (listK k A)) ∧ (∀ x, H x ≠ none → H' x = H x) ∧ ∀ x, blkOf r = some x → H x = none := by
  obtain ⟨v, hp, ho, hne, hs, -⟩ := hV
  refine CC.by_vc ok_list_Lists_List (by simp) ?_
  unfold c_list_Lists_List
  simp
  intro b hb
  have hk3 : (k3 k).length = 3 := rfl
  have old : ∀ x, H x ≠ none → (H.set b (some (.cells (k3 k) 3))) x = H x := fun x hx => Heap.set_ne _ _ (fun h => hx (by rw [h]; exact hb))
  have hp1 : (H.set b (some (.cells (k3 k) 3))) p = some (.cells [v] 1) := by rw [old p (by rw [hp]; simp)]; exact hp
  have ho1 : OwnR (H.set b (some (.cells (k3 k) 3))) 4 A.length v (A.flatMap encL) := ho.agree fun x hx => old x (ho.live hx)
  simp [hk3, Heap.set_self, tk3]
  refine CallK.of (k_lAt hp1 ho1 hs.1 (by omega) k) ?_
  rintro _ H' ⟨rfl, rfl⟩
  cases hg : getK k A with
  | none =>
    have hlk : listK k A = [] := by unfold listK; rw [hg]; rfl
    rw [hlk]
    simp
    exact ⟨⟨rfl, .inl ⟨rfl, rfl⟩⟩, old, fun x hx => by cases hx⟩
  | some l =>
    have hlk : listK k A = l := by unfold listK; rw [hg]; rfl
    rw [hlk]
    obtain ⟨h1, h2⟩ := at_there hs.1 hg
    have hll := hs.2 _ (mem_of_getK hg)
    simp only at hll
    obtain ⟨bv, c, rfl, hbv, hc⟩ := ho1.slOf (by omega)
    have hld : (A.flatMap encL)[posK k A * 4 + 3]? = some (immI l) := fm_get (enc := encL) encL_length h1 (j := 3) (by omega)
    generalize A.flatMap encL = X at *
    have hui : un (immI l) = (True, immI l) := rfl
    simp [hp1, h2, hbv, hld, hui]
    refine CallK.of (k_cloneIM hll.1 (by omega)) ?_
    intro u H2 ⟨g1, g2, g3⟩
    have hun := g1.un
    simp [hun]
    refine ⟨g1, fun x hx => by rw [g2 x (by rw [old x hx]; exact hx)]; exact old x hx, fun x hx => Classical.byContradiction fun hn => ?_⟩
    have := g3 x hx
    rw [old x hn] at this; exact hn this
end Go.Proofs.YtdpbbnnlbjgjgaaGreat
set_option linter.unusedVariables false
set_option linter.unusedSimpArgs false
set_option maxRecDepth 100000
set_option maxHeartbeats 4000000
namespace Go.Proofs.YtdpbbnnlbjgjgaaGreat
open Go.Sf
def IsIs (v : AV) (ns : List Int) : Prop := (v = .nils ∧ ns = []) ∨ ∃ c, v = .imm (intsV ns) ns.length c
theorem k_lPush {H : Heap} {p : Nat} {A : CellsK (List Int)} {F : Nat → Prop} (hV : LstQ H p A F) (hl : A.length < 2 ^ 28) (k : K3T) {a : AV} {ns : List Int} (ha : IsIs a ns) (hn : ns.length ≤ 2 ^ 32) :
    CC PP F_list_Lists_Push [.ptr p 0, .agg (k3 k), a] H fun r H' => r = .int .i64 (pushL k ns A).2 ∧ ∃ F', LstQ H' p (pushL k ns A).1 F' ∧ UpdF F F' H H' := by
  have hkeep0 := hV
  refine CC.by_vc ok_list_Lists_Push (by simp) ?_
  unfold c_list_Lists_Push
  have hcA : ∀ H, cellsOf H 1 a = some (intsV ns) := fun H => by
    rcases ha with ⟨rfl, rfl⟩ | ⟨c, rfl⟩
    · rfl
    · rw [cellsOf_imm]; exact if_pos (by rw [intsV_length]; omega)
  have hlA : lenOf a = some ns.length := by
    rcases ha with ⟨rfl, rfl⟩ | ⟨c, rfl⟩ <;> rfl
  have hunA : un a = (True, a) := by
    rcases ha with ⟨rfl, rfl⟩ | ⟨c, rfl⟩ <;> rfl
  simp [hunA]
  intro b hb
  have hk3 : (k3 k).length = 3 := rfl
  have old : ∀ x, H x ≠ none → (H.set b (some (.cells (k3 k) 3))) x = H x := fun x hx => Heap.set_ne _ _ (fun h => hx (by rw [h]; exact hb))
  simp only [hk3]
  generalize hH1 : H.set b (some (.cells (k3 k) 3)) = H1 at *
  have hb1 : H1 b = some (.cells (k3 k) 3) := by rw [← hH1]; exact Heap.set_self _ _ _
  have hV1 : LstQ H1 p A F := hV.keep fun x hx => old x (hV.live hx)
  simp [hk3, hb1, tk3, hunA]
  refine CallK.of (k_lListM hV1 (by omega) k) ?_
  intro r H2 ⟨g1, g2, g3⟩
  have hunr := g1.un
  have hle : (listK k A).length ≤ 100 := listK_le (by obtain ⟨_, _, _, _, h, _⟩ := hV; exact h)
  simp [hunr, hunA]
  have hbd : ((listK k A).length + ns.length) * 8 ≤ 140737488355328 := by omega
  refine vcAp_hold (n := (listK k A).length) (m := ns.length) (.inl g1) (hcA _) hlA (intsV_one _) hbd ?_
  intro H3 g4
  have old3 : ∀ x, H x ≠ none → H3 x = H x := fun x hx => by
    have e1 : H1 x = H x := old x hx
    have e2 : H2 x = H1 x := g2 x (by rw [e1]; exact hx)
    rw [g4 x (fun e => by have := g3 x e; rw [e1] at this; exact hx this) (by rw [e2, e1]; exact hx), e2, e1]
  have hb3 : H3 b = some (.cells (k3 k) 3) := by
    have e2 : H2 b = H1 b := g2 b (by rw [hb1]; simp)
    rw [g4 b (fun e => by have := g3 b e; rw [hb1] at this; cases this) (by rw [e2, hb1]; simp), e2]; exact hb1
  have hV3 : LstQ H3 p A F := hV.keep fun x hx => old3 x (hV.live hx)
  clear g1 g2 g3 g4 hV1 hunr
  have hap : intsV (listK k A) ++ intsV ns = intsV (listK k A ++ ns) := (intsV_append _ _).symm
  have hlap : (listK k A).length + ns.length = (listK k A ++ ns).length := by rw [List.length_append]
  rw [hap]
  have same : pushL k ns A = (A, (pushL k ns A).2) → ∃ F', LstQ H3 p (pushL k ns A).1 F' ∧ UpdF F F' H H3 := fun e => by
    rw [e]; exact ⟨F, hV3, fun x hx hn => old3 x hn, fun x hx => .inl hx⟩
  by_cases hbig : 100 < (listK k A ++ ns).length
  · have hP : pushL k ns A = (A, 4) := by unfold pushL; rw [if_pos hbig]
    have hbz : (100 : Int) < ((listK k A).length : Int) + (ns.length : Int) := by rw [List.length_append] at hbig; omega
    simp [hbz]
    refine ⟨by rw [hP], same (by rw [hP])⟩
  have hbz : ¬ (100 : Int) < ((listK k A).length : Int) + (ns.length : Int) := by rw [List.length_append] at hbig; omega
  by_cases hns : ns = []
  · have hP : pushL k ns A = (A, 0) := by unfold pushL; rw [if_neg hbig, if_pos hns]
    have := same (by rw [hP])
    rcases ha with ⟨rfl, -⟩ | ⟨c, rfl⟩
    · simp [hbz, hP]
      simpa [hP] using this
    · subst hns
      have hle' : ((listK k A).length : Int) ≤ 100 := by omega
      simp [hbz, hP]
      exact ⟨hle', fun _ => by simpa [hP] using this⟩
  have hnl : ns.length ≠ 0 := fun e => hns (List.length_eq_zero_iff.1 e)
  rcases ha with ⟨rfl, e⟩ | ⟨c, rfl⟩
  · exact absurd e hns
  have hP : pushL k ns A = (updK k (listK k A ++ ns) A, 0) := by unfold pushL; rw [if_neg hbig, if_neg hns]
  rw [hP]
  generalize hal : listK k A ++ ns = all at *
  have hone1 : (intsV all).all AV.one = true := intsV_one _
  generalize hN : (listK k A).length + ns.length = N at *
  simp [hbz, hns, hb3, tk3, hk3]
  have hN1 : (N : Int) ≤ 100 := by omega
  refine ⟨hN1, fun _ => ?_⟩
  clear same hcA hlA hunA hV hkeep0
  obtain ⟨v, hp1, ho1, hne, hs, hF⟩ := hV3
  refine CallK.of (k_lAt hp1 ho1 hs.1 (by omega) k) ?_
  rintro _ H' ⟨rfl, rfl⟩
  have hvone : AV.one (.imm (intsV all) N none) = true := rfl
  cases hg : getK k A with
  | none =>
    have hle := posK_le k A
    have ins : CC PP F_slices_Insert_list_cell_list_cell [v, .int .i64 (posK k A), .imm (k3 k ++ [AV.nils]) 1 (some 1)] H' fun v2 H2 => ∃ bv c, v2 = .sl bv 0 (A.length + 1) c ∧ H2 bv = some (.cells (((A.take (posK k A)).flatMap encL) ++ ((k3 k ++ [AV.nils]) ++ ((A.drop (posK k A)).flatMap encL))) (c * 4)) ∧ A.length + 1 ≤ c ∧ H2 p = some (.cells [v] 1) ∧ bv ≠ p ∧
        (∀ x, blkOf v ≠ some x → H' x ≠ none → H2 x = H' x) ∧ (H' bv = none ∨ blkOf v = some bv) :=
      (k_insL ho1 (fm_one encL_one A) (x := k3 k ++ [AV.nils]) rfl rfl hle (by omega)).mono fun v2 H2 ⟨h1, h2, h3⟩ => by
        obtain ⟨bv, c, rfl, hbv, hc⟩ := h1.slOf (by omega)
        refine ⟨bv, c, rfl, ?_, hc, by rw [h2 p hne (by rw [hp1]; simp)]; exact hp1, fun e => ?_, h2, h3 bv rfl⟩
        · rw [hbv, fm_take encL_length, fm_drop encL_length]
        · rcases h3 bv rfl with h | h
          · rw [e, hp1] at h; cases h
          · exact hne (by rw [← e]; exact h)
    have hu : updK k all A = insK k all A := by unfold updK; rw [if_neg (by rw [hg]; simp)]
    have hst : (((A.take (posK k A)).flatMap encL) ++ ((k3 k ++ [AV.nils]) ++ ((A.drop (posK k A)).flatMap encL))).set (posK k A * 4 + 3) (.imm (intsV all) N none) = (insK k all A).flatMap encL := by
      have h1 : ((A.take (posK k A)).flatMap encL).length = posK k A * 4 := by rw [fm_length encL_length, List.length_take, Nat.min_eq_left hle]
      rw [List.set_append_right _ _ (by omega), h1, Nat.add_sub_cancel_left]
      unfold insK
      rw [List.flatMap_append, List.flatMap_cons]
      subst hN
      rw [hlap]
      rfl
    have hX : (((A.take (posK k A)).flatMap encL) ++ ((k3 k ++ [AV.nils]) ++ ((A.drop (posK k A)).flatMap encL))).length = (A.length + 1) * 4 := by
      simp only [List.length_append, fm_length encL_length, List.length_take, List.length_drop, hk3, List.length_cons, List.length_nil]; omega
    have hun := ho1.un
    have hso : OkL (insK k all A) := by
      have := okL_push (k := k) (ns := ns) hs
      rw [hP, hu] at this; exact this
    rw [hu]
    have hX2 := fm_length encL_length (insK k all A)
    have hln := insK_len k all A
    generalize ((A.take (posK k A)).flatMap encL) ++ ((k3 k ++ [AV.nils]) ++ ((A.drop (posK k A)).flatMap encL)) = X at *
    simp [hp1, hb3, tk3, hk3, hun]
    repeat' (refine And.intro ?_ ?_)
    all_goals
      refine CallK.of ins ?_
      rintro _ H2 ⟨bv, c, rfl, hbv, hc, hp2, hbp, hkeep, hfresh⟩
      simp [hp2, Heap.set_self, show posK k A < A.length + 1 by omega, Heap.set_ne _ _ hbp, hbv]
      rw [hst]
      refine ⟨by omega, by omega, fun x => x = p ∨ x = bv, ⟨.sl bv 0 (A.length + 1) c, by rw [Heap.set_ne _ _ (Ne.symm hbp), Heap.set_self], ⟨hX2, .inr ⟨bv, c, by rw [hln], Heap.set_self _ _ _, by rw [hln]; exact hc⟩⟩, fun e => hbp (by cases e; rfl), hso, fun x => by simp [blkOf, eq_comm]⟩, fun x hx hn => ?_, fun x hx => ?_⟩
      · have e1 : x ≠ p := fun e => hx ((hF x).2 (.inl e))
        have e2 : blkOf v ≠ some x := fun e => hx ((hF x).2 (.inr e))
        have e3 : x ≠ bv := fun e => by
          rcases hfresh with h | h
          · rw [← e, old3 x hn] at h; exact hn h
          · exact e2 (by rw [e]; exact h)
        rw [Heap.set_ne _ _ e3, Heap.set_ne _ _ e1, hkeep x e2 (by rw [old3 x hn]; exact hn), old3 x hn]
      · rcases hx with rfl | rfl
        · exact .inl ((hF _).2 (.inl rfl))
        · rcases hfresh with h | h
          · refine .inr (Classical.byContradiction fun hn => ?_)
            rw [old3 _ hn] at h; exact hn h
          · exact .inl ((hF _).2 (.inr h))
  | some u =>
    obtain ⟨h1, h2⟩ := at_there hs.1 hg
    obtain ⟨bv, c, rfl, hbv, hc⟩ := ho1.slOf (by omega)
    have hX := fm_length encL_length A
    have hst := fm_set1 (enc := encL) encL_length h1 (j := 3) (y := (k, all)) (v := .imm (intsV all) N none) (by omega) (by subst hN; rw [hlap]; rfl)
    have hu : updK k all A = A.set (posK k A) (k, all) := by unfold updK; rw [if_pos (by rw [hg]; rfl)]; rfl
    have hX2 := fm_length encL_length (A.set (posK k A) (k, all))
    have hso : OkL (updK k all A) := by
      have := okL_push (k := k) (ns := ns) hs
      rw [hP] at this; exact this
    rw [hu] at hso
    generalize hXe : A.flatMap encL = X at *
    simp [hp1, h2, hbv]
    rw [hst, hu]
    have hbp : bv ≠ p := fun e => hne (by rw [e]; rfl)
    refine ⟨by omega, F, ⟨.sl bv 0 A.length c, by rw [Heap.set_ne _ _ (Ne.symm hbp)]; exact hp1, ⟨hX2, .inr ⟨bv, c, by rw [List.length_set], Heap.set_self _ _ _, by rw [List.length_set]; exact hc⟩⟩, hne, hso, hF⟩, fun x hx hn => ?_, fun x hx => .inl hx⟩
    rw [Heap.set_ne _ _ (fun e => hx ((hF x).2 (.inr (by rw [e]; rfl))))]
    exact old3 x hn
theorem k_lClear {H : Heap} {p : Nat} {A : CellsK (List Int)} {F : Nat → Prop} (hV : LstQ H p A F) (hl : A.length < 2 ^ 29) (k : K3T) :
    CC PP F_list_Lists_Clear [.ptr p 0, .agg (k3 k)] H fun r H' => r = .int .i64 (listK k A).length ∧ ∃ F', LstQ H' p (clearL k A).1 F' ∧ UpdF F F' H H' := by
  obtain ⟨v, hp, ho, hne, hs, hF⟩ := hV
  refine CC.by_vc ok_list_Lists_Clear (by simp) ?_
  unfold c_list_Lists_Clear
  simp
  intro b hb
  have hk3 : (k3 k).length = 3 := rfl
  have old : ∀ x, H x ≠ none → (H.set b (some (.cells (k3 k) 3))) x = H x := fun x hx => Heap.set_ne _ _ (fun h => hx (by rw [h]; exact hb))
  have hpb : p ≠ b := fun h => by rw [h, hb] at hp; cases hp
  simp only [hk3]
  generalize hH1 : H.set b (some (.cells (k3 k) 3)) = H1 at *
  have hp1 : H1 p = some (.cells [v] 1) := by rw [old p (by rw [hp]; simp)]; exact hp
  have hb1 : H1 b = some (.cells (k3 k) 3) := by rw [← hH1]; exact Heap.set_self _ _ _
  have ho1 : OwnR H1 4 A.length v (A.flatMap encL) := ho.agree fun x hx => old x (ho.live hx)
  simp [hk3, hb1, tk3]
  refine CallK.of (k_lAt hp1 ho1 hs.1 (by omega) k) ?_
  rintro _ H' ⟨rfl, rfl⟩
  cases hg : getK k A with
  | none =>
    simp
    have hu : cutK k A = A := by unfold cutK; rw [if_neg (by rw [hg]; simp)]
    have hlk : listK k A = [] := by unfold listK; rw [hg]; rfl
    have hcl : (clearL k A).1 = A := hu
    rw [hcl, hlk]
    exact ⟨rfl, F, ⟨v, hp1, ho1, hne, hs, hF⟩, fun x hx hn => old x hn, fun x hx => .inl hx⟩
  | some u =>
    obtain ⟨h1, h2⟩ := at_there hs.1 hg
    have hlk : listK k A = u := by unfold listK; rw [hg]; rfl
    have hu : (clearL k A).1 = A.eraseIdx (posK k A) := by unfold clearL cutK; simp only; rw [if_pos (by rw [hg]; rfl)]; rfl
    have hso : OkL (clearL k A).1 := okL_clear hs
    have w1 : IntKind.i64.wrap ((posK k A : Int) + 1) = ((posK k A + 1 : Nat) : Int) := by rw [wrap_i64 (by omega) (by omega)]; rfl
    have ho2 := ho1
    obtain ⟨bv, c, rfl, hbv, hc⟩ := ho1.slOf (by omega)
    have hld : (A.flatMap encL)[posK k A * 4 + 3]? = some (.imm (intsV u) u.length none) := fm_get (enc := encL) encL_length h1 (j := 3) (by omega)
    have hdel := k_delL ho2 (fm_one encL_one A) h2 (by omega)
    rw [fm_del encL_length] at hdel
    generalize A.flatMap encL = X at *
    simp [hp1, w1, h2, hbv, hld]
    refine CallK.of hdel ?_
    rintro v2 H2 ⟨g1, g2, g3⟩
    have hp2 : H2 p = some (.cells [.sl bv 0 A.length c] 1) := by rw [g2 p hne (by rw [hp1]; simp)]; exact hp1
    have hun2 := g1.un
    have hone2 := g1.one
    simp [hp2, hun2, hone2]
    have hln : (A.eraseIdx (posK k A)).length = A.length - 1 := by rw [List.length_eraseIdx, if_pos h2]
    rw [hu] at hso ⊢
    rw [← hln] at g1
    refine ⟨by rw [hlk], F, ⟨v2, Heap.set_self _ _ _, g1.agree fun x hx => Heap.set_ne _ _ (fun e => hne (by rw [← g3, hx, e])), by rw [g3]; exact hne, hso, by rw [g3]; exact hF⟩, fun x hx hn => ?_, fun x hx => .inl hx⟩
    have e1 : x ≠ p := fun e => hx ((hF x).2 (.inl e))
    have e2 : blkOf (.sl bv 0 A.length c) ≠ some x := fun e => hx ((hF x).2 (.inr e))
    rw [Heap.set_ne _ _ e1, g2 x e2 (by rw [old x hn]; exact hn), old x hn]
end Go.Proofs.YtdpbbnnlbjgjgaaGreat
set_option linter.unusedVariables false
set_option linter.unusedSimpArgs false
set_option maxRecDepth 100000
set_option maxHeartbeats 4000000
namespace Go.Proofs.YtdpbbnnlbjgjgaaGreat
open Go.Sf
theorem k_dNew {H : Heap} : CC PP F_dict_New [] H fun r H' => ∃ p, r = .ptr p 0 ∧ H p = none ∧ H' = H.set p (some (.cells [.nils] 1)) := by
  refine CC.by_vc ok_dict_New (by simp) ?_
  unfold c_dict_New
  simp
  intro p hp
  simp
  exact hp
def I_dkeys (H0 : Heap) (v : AV) (A : CellsK (FieldsL × AV)) (m : Nat) (T : Nat → AV) (H : Heap) : Prop :=
  ∃ (i : Nat) (u : AV), i + m = A.length ∧ T 11 = v ∧ T 12 = .int .i64 A.length ∧ T 13 = .int .i64 i ∧ T 3 = u ∧ OwnR H 3 i u (((A.take i).map (·.1)).flatMap k3) ∧ (∀ x, H0 x ≠ none → H x = H0 x) ∧ ∀ b, blkOf u = some b → H0 b = none
theorem k_dKeys {H0 : Heap} {p : Nat} {D : CellsK FieldsL} {F : Nat → Prop} (hV : DicQ H0 p D F) (hl : D.length < 2 ^ 29) :
    CC PP F_dict_Dicts_DictKeys [.ptr p 0] H0 fun r H' => H' = H0 ∧ r = .imm ((D.map (·.1)).flatMap k3) D.length none := by
  obtain ⟨A, v, rfl, hR, hs, hF⟩ := hV
  have hone : ∀ x ∈ A.flatMap encD, x.one = true := List.all_eq_true.1 hR.ones
  obtain ⟨hp, ho, hne, -, -, -⟩ := hR
  rw [dicE_length] at hl ⊢
  rw [show (dicE A).map (·.1) = A.map (·.1) by simp [dicE]]
  refine CC.frozen (sz := 3) ?_
  refine CC.by_vc ok_dict_Dicts_DictKeys (by simp) ?_
  unfold c_dict_Dicts_DictKeys
  have hX := fm_length encD_length A
  have start : OwnR H0 3 0 .nils (((A.take 0).map (·.1)).flatMap k3) := ⟨rfl, .inl ⟨rfl, rfl⟩⟩
  obtain ⟨hcl, ⟨rfl, hA0⟩ | ⟨bv, c, rfl, hbv, hc⟩⟩ := ho
  · obtain rfl : A = [] := List.length_eq_zero_iff.1 hA0
    simp [hp]
    refine LoopV.mk2 (I_dkeys H0 .nils []) 0 ⟨0, .nils, rfl, by simp, by simp, by simp, by simp, start, fun _ _ => rfl, fun b hb => by cases hb⟩ ?_
    rintro m T H ⟨i, u, him, t11, t12, t13, t3, hO, hold, hfr⟩
    have hi0 : i = 0 := by simp at him; omega
    subst hi0
    have hun := hO.un
    simp [t11, t12, t13, t3, hun]
    exact ⟨by simpa using hO, hold, hfr⟩
  · simp [hp]
    refine LoopV.mk2 (I_dkeys H0 (.sl bv 0 A.length c) A) A.length ⟨0, .nils, by omega, by simp, by simp, by simp, by simp, start, fun _ _ => rfl, fun b hb => by cases hb⟩ ?_
    rintro m T H ⟨i, u, him, t11, t12, t13, t3, hO, hold, hfr⟩
    have hun := hO.un
    have hbH : H bv = some (.cells (A.flatMap encD) (c * 4)) := by rw [hold bv (by rw [hbv]; simp)]; exact hbv
    by_cases hi : i < A.length
    · obtain ⟨q, hq⟩ : ∃ q, A[i]? = some q := ⟨A[i], by simp [hi]⟩
      obtain ⟨f1, f2⟩ := fm_at encD_length hq
      have htk : (A.take (i + 1)).map (·.1) = (A.take i).map (·.1) ++ [q.1] := by rw [List.take_add_one, hq]; simp
      have hq1 : ∀ x, x ∈ encD q → x.one = true := fun x hx => hone _ (List.mem_flatMap.2 ⟨q, List.mem_of_getElem? hq, hx⟩)
      generalize A.flatMap encD = X at *
      have hq2 : (encD q).length = 4 := rfl
      have hq3 : (encD q).take 3 = k3 q.1 := rfl
      have hq4 : (k3 q.1).length = 3 := rfl
      simp [t11, t12, t13, t3, hun, hi, hbH, f1, f2]
      intro y hy
      have hyn : ∀ x, H0 x ≠ none → x ≠ y := fun x hx h => by rw [← h, hold x hx] at hy; exact hx hy
      simp [Heap.set_self, Heap.set_set, hq2, hq3, hq4, t3, hun]
      refine ⟨hq1, ?_⟩
      have hOy : OwnR (H.set y (some (.cells (encD q) 4))) 3 i u (((A.take i).map (·.1)).flatMap k3) := hO.agree fun x hx => Heap.set_ne _ _ (fun e => by have := hO.live hx; rw [e, hy] at this; exact this rfl)
      have hc3 : cellsOf (H.set y (some (.cells (encD q) 4))) 3 (.imm (k3 q.1) 1 (some 1)) = some (k3 q.1) := by rw [cellsOf_imm]; exact if_pos rfl
      refine vcAp_row (n := i) (m := 1) (new := k3 q.1) (.inl hOy) hc3 rfl rfl (by omega) rfl (by omega) (.inl (by simp [k3])) ?_
      intro u2 H2 g1 g2 g3
      have hun2 := g1.un
      simp [hun2, t13]
      refine Again2.mk (m - 1) (by omega) ⟨i + 1, u2, by omega, by simp [t11], by simp [t12], ?_, by simp, ?_, fun x hx => ?_, fun b hb => ?_⟩
      · simp; rw [wrap_i64 (by omega) (by omega)]
      · rw [htk, List.flatMap_append]; simpa using g1
      · rw [g2 x (fun e => hx (hfr x e)) (by rw [Heap.set_ne _ _ (hyn x hx), hold x hx]; exact hx), Heap.set_ne _ _ (hyn x hx)]; exact hold x hx
      · rcases g3 b hb with h | h
        · refine Classical.byContradiction fun hn => ?_
          rw [Heap.set_ne _ _ (hyn b hn), hold b hn] at h; exact hn h
        · exact hfr b h
    · have hie : i = A.length := by omega
      subst hie
      rw [List.take_length] at hO
      simp [t11, t12, t13, t3, hun]
      exact ⟨hO, hold, hfr⟩
def I_in (H0 : Heap) (u : AV) (fs : FieldsL) (f : Int) (m : Nat) (T : Nat → AV) (H : Heap) : Prop :=
  ∃ i : Nat, i + m = fs.length ∧ i ≤ posF f fs ∧ T 0 = u ∧ T 1 = .int .i64 f ∧ T 6 = .int .i64 i ∧ H = H0
theorem fld_get {fs : FieldsL} {i : Nat} {q : Int × Int} (h : fs[i]? = some q) : (fieldsA fs)[i * 2]? = some (.int .i64 q.1) ∧ (fieldsA fs)[i * 2 + 1]? = some (.int .i64 q.2) := by
  have hk : ∀ x : Int × Int, ([AV.int .i64 x.1, AV.int .i64 x.2] : List AV).length = 2 := fun _ => rfl
  exact ⟨fm_get (enc := fun x : Int × Int => [AV.int .i64 x.1, AV.int .i64 x.2]) hk h (j := 0) (by omega), fm_get (enc := fun x : Int × Int => [AV.int .i64 x.1, AV.int .i64 x.2]) hk h (j := 1) (by omega)⟩
theorem k_inNil {H : Heap} (f : Int) : CC PP F_dict_in [.nils, .int .i64 f] H fun r H' => H' = H ∧ r = .tup [.int .i64 (posF f [] : Nat), .bool (getF f []).isSome] := by
  refine CC.by_vc ok_dict_in (by simp) ?_
  unfold c_dict_in
  simp
  refine LoopV.mk2 (I_in H .nils [] f) 0 ⟨0, rfl, by omega, by simp, by simp, by simp, rfl⟩ ?_
  rintro m T H' ⟨i, him, hip, t0, t1, t6, rfl⟩
  have hi0 : i = 0 := by simp at him; omega
  subst hi0
  simp [t0, t1, t6, posF, getF]
theorem k_inOwn {H : Heap} {b c : Nat} {fs : FieldsL} (hb : H b = some (.cells (fieldsA fs) (c * 2))) (hr : RisF fs) (hl : fs.length < 2 ^ 40) (f : Int) :
    CC PP F_dict_in [.sl b 0 fs.length c, .int .i64 f] H fun r H' => H' = H ∧ r = .tup [.int .i64 (posF f fs), .bool (getF f fs).isSome] := by
  refine CC.by_vc ok_dict_in (by simp) ?_
  unfold c_dict_in
  have hle := posF_le f fs
  simp
  refine LoopV.mk2 (I_in H (.sl b 0 fs.length c) fs f) fs.length ⟨0, by omega, by omega, by simp, by simp, by simp, rfl⟩ ?_
  rintro m T H' ⟨i, him, hip, t0, t1, t6, rfl⟩
  by_cases hi : i < fs.length
  · obtain ⟨q, hq⟩ : ∃ q, fs[i]? = some q := ⟨fs[i], by simp [hi]⟩
    have hld := (fld_get hq).1
    simp [t0, t1, t6, hi, hb, hld]
    refine ⟨fun hlt => ?_, fun hlt => ?_⟩
    · have hne : i ≠ posF f fs := fun e => by rw [e] at hq; exact posF_ge hq hlt
      refine Again2.mk (m - 1) (by omega) ⟨i + 1, by omega, by omega, by simp [t0], by simp [t1], ?_, rfl⟩
      simp; rw [wrap_i64 (by omega) (by omega)]
    · have he : i = posF f fs := Classical.byContradiction fun hne => by
        have := posF_lt (f := f) (A := fs) (i := i) (by omega) hq; omega
      subst he
      exact ⟨rfl, (thereF_at hr hq).symm⟩
  · have hie : i = fs.length := by omega
    subst hie
    have he : posF f fs = fs.length := by omega
    have hg := thereF_out hr (Nat.le_of_eq he.symm)
    have hld : (fieldsA fs)[fs.length * 2]? = none := List.getElem?_eq_none (by rw [fieldsA_length]; omega)
    simp [t0, t1, t6, hb, hld]
    exact ⟨by rw [he], by simpa using hg⟩
theorem k_inImm {H : Heap} {fs : FieldsL} (hr : RisF fs) (hl : fs.length < 2 ^ 40) (f : Int) {c : Option Nat} :
    CC PP F_dict_in [.imm (fieldsA fs) fs.length c, .int .i64 f] H fun r H' => H' = H ∧ r = .tup [.int .i64 (posF f fs), .bool (getF f fs).isSome] := by
  refine CC.by_vc ok_dict_in (by simp) ?_
  unfold c_dict_in
  have hle := posF_le f fs
  simp
  refine LoopV.mk2 (I_in H (.imm (fieldsA fs) fs.length c) fs f) fs.length ⟨0, by omega, by omega, by simp, by simp, by simp, rfl⟩ ?_
  rintro m T H' ⟨i, him, hip, t0, t1, t6, rfl⟩
  by_cases hi : i < fs.length
  · obtain ⟨q, hq⟩ : ∃ q, fs[i]? = some q := ⟨fs[i], by simp [hi]⟩
    have hld := (fld_get hq).1
    simp [t0, t1, t6, hi, hld]
    refine ⟨fun hlt => ?_, fun hlt => ?_⟩
    · have hne : i ≠ posF f fs := fun e => by rw [e] at hq; exact posF_ge hq hlt
      refine Again2.mk (m - 1) (by omega) ⟨i + 1, by omega, by omega, by simp [t0], by simp [t1], ?_, rfl⟩
      simp; rw [wrap_i64 (by omega) (by omega)]
    · have he : i = posF f fs := Classical.byContradiction fun hne => by
        have := posF_lt (f := f) (A := fs) (i := i) (by omega) hq; omega
      subst he
      exact ⟨rfl, (thereF_at hr hq).symm⟩
  · have hie : i = fs.length := by omega
    subst hie
    have he : posF f fs = fs.length := by omega
    have hg := thereF_out hr (Nat.le_of_eq he.symm)
    have hld : (fieldsA fs)[fs.length * 2]? = none := List.getElem?_eq_none (by rw [fieldsA_length]; omega)
    simp [t0, t1, t6, hld]
    exact ⟨by rw [he], by simpa using hg⟩
def immF (fs : FieldsL) : AV := .imm (fieldsA fs) fs.length none
theorem k_cloneF {H : Heap} {b c : Nat} {fs : FieldsL} (hb : H b = some (.cells (fieldsA fs) (c * 2))) (hc : fs.length ≤ c) (hne : fs ≠ []) (hl : fs.length ≤ 2 ^ 40) : CC PP F_slices_Clone_api_Field_api_Field [.sl b 0 fs.length c] H fun v H' => H' = H ∧ v = immF fs := by
  have ho : OwnR H 2 fs.length (.sl b 0 fs.length c) (fieldsA fs) := ⟨fieldsA_length fs, .inr ⟨b, c, rfl, hb, hc⟩⟩
  refine CC.back (Q := fun v => v = immF fs) ?_
  refine CC.by_vc ok_slices_Clone_api_Field_api_Field (by simp) ?_
  unfold c_slices_Clone_api_Field_api_Field
  simp
  refine vcAp_hold (n := 0) (cs := []) (m := fs.length) (.inr ⟨rfl, rfl⟩) ho.cells rfl (fieldsA_one _) (by omega) ?_
  intro H' hk
  simp [immF]
  exact fun y hy => hk y (by simp [blkOf]) hy
theorem k_dDict {H : Heap} {p : Nat} {D : CellsK FieldsL} {F : Nat → Prop} (hV : DicQ H p D F) (hl : D.length < 2 ^ 29) (k : K3T) :
    CC PP F_dict_Dicts_Dict [.ptr p 0, .agg (k3 k)] H fun r H' => H' = H ∧ r = immF (dictK k D) := by
  obtain ⟨E, v, rfl, ⟨hp, ho, hne, hrow, -, -⟩, hs, -⟩ := hV
  rw [dicE_length] at hl
  have hsE := dicE_sorted.1 hs.1
  have main : CC PP F_dict_Dicts_Dict [.ptr p 0, .agg (k3 k)] H fun r H' => (∀ x, H x ≠ none → H' x = H x) ∧ ((dictK k (dicE E) = [] ∧ r = .nils) ∨ r = immF (dictK k (dicE E))) := by
    refine CC.by_vc ok_dict_Dicts_Dict (by simp) ?_
    unfold c_dict_Dicts_Dict
    simp
    intro b hb
    have hk3 : (k3 k).length = 3 := rfl
    have old : ∀ x, H x ≠ none → (H.set b (some (.cells (k3 k) 3))) x = H x := fun x hx => Heap.set_ne _ _ (fun h => hx (by rw [h]; exact hb))
    have hp1 : (H.set b (some (.cells (k3 k) 3))) p = some (.cells [v] 1) := by rw [old p (by rw [hp]; simp)]; exact hp
    have ho1 : OwnR (H.set b (some (.cells (k3 k) 3))) 4 E.length v (E.flatMap encD) := ho.agree fun x hx => old x (ho.live hx)
    simp [hk3, Heap.set_self, tk3]
    refine CallK.of (k_dAt hp1 ho1 hsE (by omega) k) ?_
    rintro _ H' ⟨rfl, rfl⟩
    cases hg : getK k E with
    | none =>
      have hlk : dictK k (dicE E) = [] := by unfold dictK; rw [dicE_get, hg]; rfl
      simp [hlk]
      exact old
    | some l =>
      obtain ⟨fs, u⟩ := l
      have hlk : dictK k (dicE E) = fs := by unfold dictK; rw [dicE_get, hg]; rfl
      obtain ⟨h1, h2⟩ := at_there hsE hg
      have hmem := List.mem_of_getElem? h1
      have hou := hrow _ hmem
      simp only at hou
      have hfs : fs ≠ [] := (hs.2 (k, fs) (List.mem_map.2 ⟨_, hmem, rfl⟩)).1
      have hle := dictK_le (k := k) hs
      rw [hlk] at hle
      obtain ⟨bv, c, rfl, hbv, hc⟩ := ho1.slOf (by omega)
      obtain ⟨bu, cu, rfl, hbu, hcu⟩ := hou.slOf (List.length_pos_iff.2 hfs)
      have hbu1 : (H.set b (some (.cells (k3 k) 3))) bu = some (.cells (fieldsA fs) (cu * 2)) := by rw [old bu (by rw [hbu]; simp)]; exact hbu
      have hld : (E.flatMap encD)[posK k E * 4 + 3]? = some (.sl bu 0 fs.length cu) := fm_get (enc := encD) encD_length h1 (j := 3) (by omega)
      generalize E.flatMap encD = X at *
      simp [hp1, h2, hbv, hld]
      refine CallK.of (k_cloneF hbu1 hcu hfs (by omega)) ?_
      rintro _ H2 ⟨rfl, rfl⟩
      have hui : un (immF fs) = (True, immF fs) := rfl
      simp [hlk, hui]
      exact old
  refine CC.back (CC.val main ?_)
  rintro r H' ⟨h1, ⟨h2, rfl⟩ | rfl⟩
  · exact ⟨immF (dictK k (dicE E)), fun M x hx => by rw [h2]; exact nil_imm' hx, h1, rfl⟩
  · exact ⟨_, fun M x hx => hx, h1, rfl⟩
end Go.Proofs.YtdpbbnnlbjgjgaaGreat
set_option linter.unusedVariables false
set_option linter.unusedSimpArgs false
set_option maxRecDepth 100000
set_option maxHeartbeats 80000000
namespace Go.Sf
def encFd (q : Int × Int) : List AV := [.int .i64 q.1, .int .i64 q.2]
theorem encFd_length (q : Int × Int) : (encFd q).length = 2 := rfl
theorem fieldsA_eq (fs : FieldsL) : fieldsA fs = fs.flatMap encFd := rfl
theorem insF_get (f v : Int) (A : FieldsL) : (insF f v A)[posF f A]? = some (f, v) := by
  unfold insF
  have := posF_le f A
  rw [List.getElem?_append_right (by rw [List.length_take]; omega), List.length_take, Nat.min_eq_left this, Nat.sub_self]; rfl
theorem insF_len (f v : Int) (A : FieldsL) : (insF f v A).length = A.length + 1 := by
  unfold insF
  have := posF_le f A
  simp only [List.length_append, List.length_cons, List.length_take, List.length_drop]; omega
theorem insF_setv (f u v : Int) (A : FieldsL) : (insF f u A).set (posF f A) (f, v) = insF f v A := by
  unfold insF
  have := posF_le f A
  rw [List.set_append_right _ _ (by rw [List.length_take]; omega), List.length_take, Nat.min_eq_left this, Nat.sub_self]; rfl
theorem encD_same {E : CellsK (FieldsL × AV)} {i : Nat} {k : K3T} {fs fs' : FieldsL} {u : AV} (hi : E[i]? = some (k, (fs, u))) : (E.set i (k, (fs', u))).flatMap encD = E.flatMap encD := by
  have h1 := fm_set1 (enc := encD) encD_length hi (j := 3) (y := (k, (fs', u))) (v := u) (by omega) rfl
  have h2 : (E.flatMap encD)[i * 4 + 3]? = some u := fm_get (enc := encD) encD_length hi (j := 3) (by omega)
  rw [← h1]
  obtain ⟨hj, hu⟩ := List.getElem?_eq_some_iff.1 h2
  conv => lhs; rw [← hu]
  exact List.set_getElem_self hj
theorem put_swap {T : Nat → AV} {i j : Nat} {u v : AV} (h : j < i) : put (put T (some i) v) (some j) u = put (put T (some j) u) (some i) v := by
  funext t
  simp only [s_put_some]
  by_cases h1 : t = j
  · subst h1; simp [Nat.ne_of_lt h]
  · simp [h1]
theorem put_again {T : Nat → AV} {i : Nat} {u v : AV} : put (put T (some i) v) (some i) u = put T (some i) u := by
  funext t
  simp only [s_put_some]
  split <;> rfl
end Go.Sf
namespace Go.Proofs.YtdpbbnnlbjgjgaaGreat
open Go.Sf
theorem k_inR {H : Heap} {u : AV} {fs : FieldsL} (ho : OwnR H 2 fs.length u (fieldsA fs)) (hr : RisF fs) (hl : fs.length < 2 ^ 40) (f : Int) :
    CC PP F_dict_in [u, .int .i64 f] H fun r H' => H' = H ∧ r = .tup [.int .i64 (posF f fs), .bool (getF f fs).isSome] := by
  obtain ⟨_, ⟨rfl, h0⟩ | ⟨b, c, rfl, hb, hc⟩⟩ := ho
  · obtain rfl : fs = [] := List.length_eq_zero_iff.1 h0
    exact k_inNil f
  · exact k_inOwn hb hr hl f
theorem k_dPut {H : Heap} {p : Nat} {D : CellsK FieldsL} {F : Nat → Prop} (hV : DicQ H p D F) (hl : D.length < 2 ^ 28) (k : K3T) (f n : Int) :
    CC PP F_dict_Dicts_PutField [.ptr p 0, .agg (k3 k), .int .i64 f, .int .i64 n] H fun r H' => r = .int .i64 (putD k f n D).2 ∧ ∃ F', DicQ H' p (putD k f n D).1 F' ∧ UpdF F F' H H' := by
  have hV0 := hV
  obtain ⟨E, v, rfl, hR, hs, hF⟩ := hV
  rw [dicE_length] at hl
  have hsE := dicE_sorted.1 hs.1
  have hdk := dictK_ok (k := k) hs
  have hdl := dictK_le (k := k) hs
  have hso := okD_put (k := k) (f := f) (v := n) hs
  refine CC.by_vc ok_dict_Dicts_PutField (by simp) ?_
  unfold c_dict_Dicts_PutField
  simp
  intro b hb
  have hk3 : (k3 k).length = 3 := rfl
  have old : ∀ x, H x ≠ none → (H.set b (some (.cells (k3 k) 3))) x = H x := fun x hx => Heap.set_ne _ _ (fun h => hx (by rw [h]; exact hb))
  simp only [hk3]
  generalize hH1 : H.set b (some (.cells (k3 k) 3)) = H1 at *
  have hb1 : H1 b = some (.cells (k3 k) 3) := by rw [← hH1]; exact Heap.set_self _ _ _
  have hR1 : DicR H1 p v E := hR.keep fun x hx => old x (hV0.live ((hF x).2 hx))
  have same : ∃ F', DicQ H1 p (dicE E) F' ∧ UpdF F F' H H1 := ⟨F, ⟨E, v, rfl, hR1, hs, hF⟩, fun x hx hn => old x hn, fun x hx => .inl hx⟩
  by_cases hf0 : f < 0
  · have hP : putD k f n (dicE E) = (dicE E, 2) := by unfold putD; rw [if_pos (.inl hf0)]
    simp [hf0, hP]
    exact same
  by_cases hf8 : 8 ≤ f
  · have hP : putD k f n (dicE E) = (dicE E, 2) := by unfold putD; rw [if_pos (.inr hf8)]
    simp [hf0, hf8, hP]
    exact same
  have hP : putD k f n (dicE E) = (updK k (putF f n (dictK k (dicE E))) (dicE E), 0) := by unfold putD; rw [if_neg (by omega)]
  rw [hP] at hso ⊢
  simp only at hso ⊢
  simp [hf0, hf8, hk3, hb1, tk3]
  refine CallK.of (k_dAt hR1.1 hR1.2.1 hsE (by omega) k) ?_
  rintro _ H' ⟨rfl, rfl⟩
  have hle := posK_le k E
  clear same
  have hu0 : UpdF F (dicF p v E) H H' := ⟨fun x hx hn => old x hn, fun x hx => .inl ((hF x).2 hx)⟩
  -- the cell is there
  cases hgc : getK k E
  case' none =>
    have hlk : dictK k (dicE E) = [] := by unfold dictK; rw [dicE_get, hgc]; rfl
    have hln := insK_len k (([] : FieldsL), AV.nils) E
    have hne := hR1.2.2.1
    have ins : CC PP F_slices_Insert_dict_cell_dict_cell [v, .int .i64 (posK k E), .imm (k3 k ++ [AV.nils]) 1 (some 1)] H' fun v2 H2 => ∃ bv c, v2 = .sl bv 0 (E.length + 1) c ∧ H2 p = some (.cells [v] 1) ∧ bv ≠ p ∧
        DicR (H2.set p (some (.cells [.sl bv 0 (E.length + 1) c] 1))) p (.sl bv 0 (E.length + 1) c) (insK k ([], .nils) E) ∧ UpdF (dicF p v E) (dicF p (.sl bv 0 (E.length + 1) c) (insK k ([], .nils) E)) H' (H2.set p (some (.cells [.sl bv 0 (E.length + 1) c] 1))) :=
      (k_insD hR1.2.1 hR1.ones (x := k3 k ++ [AV.nils]) rfl rfl hle (by omega)).mono fun v2 H2 ⟨h1, h2, h3⟩ => by
        obtain ⟨bv, c, rfl, hbv, hc⟩ := h1.slOf (by omega)
        have hbp : bv ≠ p := fun e => by
          rcases h3 bv rfl with h | h
          · rw [e, hR1.1] at h; cases h
          · exact hne (by rw [← e]; exact h)
        have hbv2 : H2 bv = some (.cells ((insK k (([] : FieldsL), AV.nils) E).flatMap encD) (c * 4)) := by
          rw [hbv, show k3 k ++ [AV.nils] = encD (k, ([], .nils)) from rfl, fm_ins encD_length]; rfl
        obtain ⟨q1, q2⟩ := hR1.ins hbv2 hc hbp h2 (h3 bv rfl) hln
        exact ⟨bv, c, rfl, by rw [h2 p hne (by rw [hR1.1]; simp)]; exact hR1.1, hbp, q1, q2⟩
    have hun := hR1.2.1.un
    have hpH := hR1.1
    simp [hpH, hb1, tk3, hk3, hun]
    try simp only [put_swap (i := 32) (j := 31) (by decide), put_swap (i := 33) (j := 31) (by decide), put_swap (i := 33) (j := 32) (by decide), put_swap (i := 34) (j := 31) (by decide), put_swap (i := 34) (j := 32) (by decide), put_swap (i := 34) (j := 33) (by decide), put_swap (i := 35) (j := 31) (by decide), put_swap (i := 35) (j := 32) (by decide), put_swap (i := 35) (j := 33) (by decide), put_swap (i := 35) (j := 34) (by decide), put_swap (i := 36) (j := 31) (by decide), put_swap (i := 36) (j := 32) (by decide), put_swap (i := 36) (j := 33) (by decide), put_swap (i := 36) (j := 34) (by decide), put_swap (i := 36) (j := 35) (by decide), put_swap (i := 37) (j := 31) (by decide), put_swap (i := 37) (j := 32) (by decide), put_swap (i := 37) (j := 33) (by decide), put_swap (i := 37) (j := 34) (by decide), put_swap (i := 37) (j := 35) (by decide), put_swap (i := 37) (j := 36) (by decide), put_swap (i := 38) (j := 31) (by decide), put_swap (i := 38) (j := 32) (by decide), put_swap (i := 38) (j := 33) (by decide), put_swap (i := 38) (j := 34) (by decide), put_swap (i := 38) (j := 35) (by decide), put_swap (i := 38) (j := 36) (by decide), put_swap (i := 38) (j := 37) (by decide), put_swap (i := 39) (j := 31) (by decide), put_swap (i := 39) (j := 32) (by decide), put_swap (i := 39) (j := 33) (by decide), put_swap (i := 39) (j := 34) (by decide), put_swap (i := 39) (j := 35) (by decide), put_swap (i := 39) (j := 36) (by decide), put_swap (i := 39) (j := 37) (by decide), put_swap (i := 39) (j := 38) (by decide), and_self]
    repeat' (refine And.intro ?_ ?_)
    all_goals
      refine CallK.of ins ?_
      rintro _ H2 ⟨bv, c, rfl, hp2, hbp, hR3, hu3⟩
      simp [hp2]
      rw [← hln] at hR3 hu3 ⊢
      generalize hH3 : H2.set p (some (.cells [.sl bv 0 (insK k (([] : FieldsL), AV.nils) E).length c] 1)) = H3 at *
      obtain ⟨E1, fs, u, hi, hfs, hset, hE1⟩ : ∃ (E1 : CellsK (FieldsL × AV)) (fs : FieldsL) (u : AV), E1[posK k E]? = some (k, (fs, u)) ∧ fs = dictK k (dicE E) ∧ (∀ fs' u', dicE (E1.set (posK k E) (k, (fs', u'))) = updK k fs' (dicE E)) ∧ E1 = insK k (([] : FieldsL), AV.nils) E :=
        ⟨_, [], .nils, insK_get k _ E, hlk.symm, fun fs' u' => by
          rw [dicE_set, dicE_ins, ← dicE_pos k E, insK_set]
          unfold updK; rw [if_neg (by rw [dicE_get, hgc]; simp)], rfl⟩
      rw [← hE1] at hR3 hu3 hln ⊢
      clear hH3 hp2
  case' some q =>
    obtain ⟨fs, u⟩ := q
    have hlk : dictK k (dicE E) = fs := by unfold dictK; rw [dicE_get, hgc]; rfl
    obtain ⟨hi, h2⟩ := at_there hsE hgc
    obtain ⟨bv, c, rfl, hbv, hc⟩ := hR1.2.1.slOf (by omega)
    have hR3 := hR1
    have hbp : bv ≠ p := fun e => hR1.2.2.1 (by rw [e]; rfl)
    have hu3 : UpdF (dicF p (.sl bv 0 E.length c) E) (dicF p (.sl bv 0 E.length c) E) H' H' := UpdF.refl _ _
    simp
    have hset : ∀ fs' u', dicE (E.set (posK k E) (k, (fs', u'))) = updK k fs' (dicE E) := fun fs' u' => by
      rw [dicE_set, ← dicE_pos k E]
      unfold updK; rw [if_pos (by rw [dicE_get, hgc]; rfl)]; rfl
    have hfs : fs = dictK k (dicE E) := hlk.symm
    obtain ⟨E1, H3, hH3, hi, hR3, hu3, hset⟩ : ∃ (E1 : CellsK (FieldsL × AV)) (H3 : Heap), H3 = H' ∧ E1[posK k E]? = some (k, (fs, u)) ∧ DicR H3 p (.sl bv 0 E1.length c) E1 ∧ UpdF (dicF p (.sl bv 0 E.length c) E) (dicF p (.sl bv 0 E1.length c) E1) H' H3 ∧
        (∀ fs' u', dicE (E1.set (posK k E) (k, (fs', u'))) = updK k fs' (dicE E)) := ⟨E, H', rfl, hi, hR3, hu3, hset⟩
    rw [← hH3]
    clear hH3
  all_goals
    have hR4 := hR3
    obtain ⟨hp3, ho3, hne3, hrow3, hsep3, -⟩ := hR3
    have hbp3 : bv ≠ p := fun e => hne3 (by rw [e]; rfl)
    have hX := ho3.1
    obtain ⟨bv', c', e, hbv3, hc3⟩ := ho3.slOf (by have := (List.getElem?_eq_some_iff.1 hi).1; omega)
    cases e
    have hpl : posK k E < E1.length := (List.getElem?_eq_some_iff.1 hi).1
    have hou := hrow3 _ (List.mem_of_getElem? hi)
    have hsu := hsep3 _ (List.mem_of_getElem? hi)
    simp only at hou hsu
    have hld : (E1.flatMap encD)[posK k E * 4 + 3]? = some u := fm_get (enc := encD) encD_length hi (j := 3) (by omega)
    have hsetv : ∀ (fs' : FieldsL) (u' : AV), (E1.flatMap encD).set (posK k E * 4 + 3) u' = (E1.set (posK k E) (k, (fs', u'))).flatMap encD := fun fs' u' => fm_set1 (enc := encD) encD_length hi (j := 3) (y := (k, (fs', u'))) (v := u') (by omega) rfl
    have hsame : ∀ fs', (E1.set (posK k E) (k, (fs', u))).flatMap encD = E1.flatMap encD := fun fs' => encD_same (fs' := fs') hi
    have hu4 := hu0.trans hu3
    have hmem := List.mem_of_getElem? hi
    have hpu : blkOf u ≠ some p := fun e => (hsep3 _ hmem p e).1 rfl
    have hbu' : blkOf u ≠ some bv := fun e => (hsep3 _ hmem bv e).2 rfl
    have hun := hou.un
    have hris : RisF fs := by rw [hfs]; exact hdk.1
    have hfl : fs.length ≤ 8 := by rw [hfs]; exact hdl
    generalize hXe : E1.flatMap encD = X at *
    simp [hp3, hbv3, hpl, hld, hun]
    refine CallK.of (k_inR hou hris (by omega) f) ?_
    rintro _ H4 ⟨rfl, rfl⟩
    have hfle := posF_le f fs
    cases hgf : getF f fs with
    | none =>
      have hPF : putF f n fs = insF f n fs := by unfold putF; rw [if_neg (by rw [hgf]; simp)]
      have hlnF := insF_len f 0 fs
      have hFs := fm_set1 (enc := encFd) (k := 2) encFd_length (insF_get f 0 fs) (j := 1) (y := (f, n)) (v := .int .i64 n) (by omega) rfl
      rw [insF_setv] at hFs
      have insK : CC PP F_slices_Insert_api_Field_api_Field [u, .int .i64 (posF f fs), .imm [.int .i64 f, .int .i64 0] 1 (some 1)] H4 fun v2 H2 => ∃ b2 c2 Y, v2 = .sl b2 0 (fs.length + 1) c2 ∧ H2 b2 = some (.cells Y (c2 * 2)) ∧ posF f fs * 2 + 1 < Y.length ∧ H2 p = some (.cells [.sl bv 0 E1.length c] 1) ∧ H2 bv = some (.cells X (c * 4)) ∧ b2 ≠ bv ∧ b2 ≠ p ∧
          ∃ F', DicQ ((H2.set bv (some (.cells (X.set (posK k E * 4 + 3) (.sl b2 0 (fs.length + 1) c2)) (c * 4)))).set b2 (some (.cells (Y.set (posF f fs * 2 + 1) (.int .i64 n)) (c2 * 2)))) p (updK k (putF f n (dictK k (dicE E))) (dicE E)) F' ∧
            UpdF F F' H ((H2.set bv (some (.cells (X.set (posK k E * 4 + 3) (.sl b2 0 (fs.length + 1) c2)) (c * 4)))).set b2 (some (.cells (Y.set (posF f fs * 2 + 1) (.int .i64 n)) (c2 * 2)))) :=
        (k_insF hou (fieldsA_one fs) (x := [.int .i64 f, .int .i64 0]) rfl rfl hfle (by omega)).mono fun v2 H2 ⟨h1, h2, h3⟩ => by
          obtain ⟨b2, c2, rfl, hb2, hc2⟩ := h1.slOf (by omega)
          have hp2 : H2 p = some (.cells [.sl bv 0 E1.length c] 1) := by rw [h2 p hpu (by rw [hp3]; simp)]; exact hp3
          have hbv2 : H2 bv = some (.cells X (c * 4)) := by rw [h2 bv hbu' (by rw [hbv3]; simp)]; exact hbv3
          have n1 : b2 ≠ bv := fun e => by
            rcases h3 b2 rfl with h | h
            · rw [e, hbv3] at h; cases h
            · exact hbu' (by rw [← e]; exact h)
          have n2 : b2 ≠ p := fun e => by
            rcases h3 b2 rfl with h | h
            · rw [e, hp3] at h; cases h
            · exact hpu (by rw [← e]; exact h)
          have hY : fs.flatMap encFd = fieldsA fs := rfl
          have hb2' : H2 b2 = some (.cells ((insF f 0 fs).flatMap encFd) (c2 * 2)) := by
            rw [hb2, show ([.int .i64 f, .int .i64 0] : List AV) = encFd (f, 0) from rfl, ← hY, fm_ins encFd_length]; rfl
          refine ⟨b2, c2, _, rfl, hb2', by rw [fm_length encFd_length, hlnF]; omega, hp2, hbv2, n1, n2, ?_⟩
          rw [hFs, hsetv (insF f n fs)]
          have hlnF2 := insF_len f n fs
          have hnew : OwnR ((H2.set bv (some (.cells ((E1.set (posK k E) (k, (insF f n fs, .sl b2 0 (fs.length + 1) c2))).flatMap encD) (c * 4)))).set b2 (some (.cells ((insF f n fs).flatMap encFd) (c2 * 2)))) 2 (insF f n fs).length (.sl b2 0 (fs.length + 1) c2) (fieldsA (insF f n fs)) := by
            rw [hlnF2]
            exact ⟨by rw [fieldsA_length, hlnF2], .inr ⟨b2, c2, rfl, Heap.set_self _ _ _, hc2⟩⟩
          obtain ⟨r1, r2⟩ := hR4.row hi hnew (by rw [Heap.set_ne _ _ (Ne.symm n1)]; exact Heap.set_self _ _ _) (fun x x1 x2 x3 => by
            have x4 : x ≠ b2 := fun e => by
              rcases h3 b2 rfl with h | h
              · rw [← e] at h; exact x3 h
              · exact x2 (by rw [e]; exact h)
            rw [Heap.set_ne _ _ x4, Heap.set_ne _ _ x1]; exact h2 x x2 x3) (fun b hb => by cases hb; exact h3 b2 rfl)
          exact ⟨_, ⟨_, _, by rw [hset, ← hPF, hfs], r1, hso, fun x => Iff.rfl⟩, hu4.trans r2⟩
      have hlt4 : posK k E * 4 + 3 < E1.length * 4 := by omega
      have hltF : posF f fs < fs.length + 1 := by omega
      have hltZ : (posF f fs : Int) < (fs.length : Int) + 1 := by omega
      simp [hp3, hbv3, hpl, hld, hun]
      try simp only [put_swap (i := 59) (j := 58) (by decide), put_swap (i := 60) (j := 58) (by decide), put_swap (i := 60) (j := 59) (by decide), put_swap (i := 61) (j := 58) (by decide), put_swap (i := 61) (j := 59) (by decide), put_swap (i := 61) (j := 60) (by decide), put_swap (i := 62) (j := 58) (by decide), put_swap (i := 62) (j := 59) (by decide), put_swap (i := 62) (j := 60) (by decide), put_swap (i := 62) (j := 61) (by decide), put_swap (i := 63) (j := 58) (by decide), put_swap (i := 63) (j := 59) (by decide), put_swap (i := 63) (j := 60) (by decide), put_swap (i := 63) (j := 61) (by decide), put_swap (i := 63) (j := 62) (by decide), put_swap (i := 64) (j := 58) (by decide), put_swap (i := 64) (j := 59) (by decide), put_swap (i := 64) (j := 60) (by decide), put_swap (i := 64) (j := 61) (by decide), put_swap (i := 64) (j := 62) (by decide), put_swap (i := 64) (j := 63) (by decide), put_swap (i := 65) (j := 58) (by decide), put_swap (i := 65) (j := 59) (by decide), put_swap (i := 65) (j := 60) (by decide), put_swap (i := 65) (j := 61) (by decide), put_swap (i := 65) (j := 62) (by decide), put_swap (i := 65) (j := 63) (by decide), put_swap (i := 65) (j := 64) (by decide), put_swap (i := 66) (j := 58) (by decide), put_swap (i := 66) (j := 59) (by decide), put_swap (i := 66) (j := 60) (by decide), put_swap (i := 66) (j := 61) (by decide), put_swap (i := 66) (j := 62) (by decide), put_swap (i := 66) (j := 63) (by decide), put_swap (i := 66) (j := 64) (by decide), put_swap (i := 66) (j := 65) (by decide), put_swap (i := 67) (j := 58) (by decide), put_swap (i := 67) (j := 59) (by decide), put_swap (i := 67) (j := 60) (by decide), put_swap (i := 67) (j := 61) (by decide), put_swap (i := 67) (j := 62) (by decide), put_swap (i := 67) (j := 63) (by decide), put_swap (i := 67) (j := 64) (by decide), put_swap (i := 67) (j := 65) (by decide), put_swap (i := 67) (j := 66) (by decide), put_swap (i := 68) (j := 58) (by decide), put_swap (i := 68) (j := 59) (by decide), put_swap (i := 68) (j := 60) (by decide), put_swap (i := 68) (j := 61) (by decide), put_swap (i := 68) (j := 62) (by decide), put_swap (i := 68) (j := 63) (by decide), put_swap (i := 68) (j := 64) (by decide), put_swap (i := 68) (j := 65) (by decide), put_swap (i := 68) (j := 66) (by decide), put_swap (i := 68) (j := 67) (by decide), put_swap (i := 69) (j := 58) (by decide), put_swap (i := 69) (j := 59) (by decide), put_swap (i := 69) (j := 60) (by decide), put_swap (i := 69) (j := 61) (by decide), put_swap (i := 69) (j := 62) (by decide), put_swap (i := 69) (j := 63) (by decide), put_swap (i := 69) (j := 64) (by decide), put_swap (i := 69) (j := 65) (by decide), put_swap (i := 69) (j := 66) (by decide), put_swap (i := 69) (j := 67) (by decide), put_swap (i := 69) (j := 68) (by decide), put_swap (i := 70) (j := 58) (by decide), put_swap (i := 70) (j := 59) (by decide), put_swap (i := 70) (j := 60) (by decide), put_swap (i := 70) (j := 61) (by decide), put_swap (i := 70) (j := 62) (by decide), put_swap (i := 70) (j := 63) (by decide), put_swap (i := 70) (j := 64) (by decide), put_swap (i := 70) (j := 65) (by decide), put_swap (i := 70) (j := 66) (by decide), put_swap (i := 70) (j := 67) (by decide), put_swap (i := 70) (j := 68) (by decide), put_swap (i := 70) (j := 69) (by decide), put_swap (i := 71) (j := 58) (by decide), put_swap (i := 71) (j := 59) (by decide), put_swap (i := 71) (j := 60) (by decide), put_swap (i := 71) (j := 61) (by decide), put_swap (i := 71) (j := 62) (by decide), put_swap (i := 71) (j := 63) (by decide), put_swap (i := 71) (j := 64) (by decide), put_swap (i := 71) (j := 65) (by decide), put_swap (i := 71) (j := 66) (by decide), put_swap (i := 71) (j := 67) (by decide), put_swap (i := 71) (j := 68) (by decide), put_swap (i := 71) (j := 69) (by decide), put_swap (i := 71) (j := 70) (by decide), put_swap (i := 72) (j := 58) (by decide), put_swap (i := 72) (j := 59) (by decide), put_swap (i := 72) (j := 60) (by decide), put_swap (i := 72) (j := 61) (by decide), put_swap (i := 72) (j := 62) (by decide), put_swap (i := 72) (j := 63) (by decide), put_swap (i := 72) (j := 64) (by decide), put_swap (i := 72) (j := 65) (by decide), put_swap (i := 72) (j := 66) (by decide), put_swap (i := 72) (j := 67) (by decide), put_swap (i := 72) (j := 68) (by decide), put_swap (i := 72) (j := 69) (by decide), put_swap (i := 72) (j := 70) (by decide), put_swap (i := 72) (j := 71) (by decide), put_swap (i := 73) (j := 58) (by decide), put_swap (i := 73) (j := 59) (by decide), put_swap (i := 73) (j := 60) (by decide), put_swap (i := 73) (j := 61) (by decide), put_swap (i := 73) (j := 62) (by decide), put_swap (i := 73) (j := 63) (by decide), put_swap (i := 73) (j := 64) (by decide), put_swap (i := 73) (j := 65) (by decide), put_swap (i := 73) (j := 66) (by decide), put_swap (i := 73) (j := 67) (by decide), put_swap (i := 73) (j := 68) (by decide), put_swap (i := 73) (j := 69) (by decide), put_swap (i := 73) (j := 70) (by decide), put_swap (i := 73) (j := 71) (by decide), put_swap (i := 73) (j := 72) (by decide), put_swap (i := 74) (j := 58) (by decide), put_swap (i := 74) (j := 59) (by decide), put_swap (i := 74) (j := 60) (by decide), put_swap (i := 74) (j := 61) (by decide), put_swap (i := 74) (j := 62) (by decide), put_swap (i := 74) (j := 63) (by decide), put_swap (i := 74) (j := 64) (by decide), put_swap (i := 74) (j := 65) (by decide), put_swap (i := 74) (j := 66) (by decide), put_swap (i := 74) (j := 67) (by decide), put_swap (i := 74) (j := 68) (by decide), put_swap (i := 74) (j := 69) (by decide), put_swap (i := 74) (j := 70) (by decide), put_swap (i := 74) (j := 71) (by decide), put_swap (i := 74) (j := 72) (by decide), put_swap (i := 74) (j := 73) (by decide), and_self]
      repeat' (refine And.intro ?_ ?_)
      all_goals
        refine CallK.of insK ?_
        rintro _ H5 ⟨b2, c2, Y, rfl, hb2, hY, hp5, hbv5, n1, n2, fin⟩
        simp [hp5, hbv5, hpl, hb2, hX, hlt4, hltF, hltZ, hY, Heap.set_self, Heap.set_ne _ _ n1, Heap.set_ne _ _ (Ne.symm n1), Heap.set_ne _ _ (Ne.symm hbp3)]
        exact fin
    | some w =>
      have hPF : putF f n fs = setF f n fs := by unfold putF; rw [if_pos (by rw [hgf]; rfl)]
      obtain ⟨hat, hatl⟩ := atF_there hris hgf
      have hFs := fm_set1 (enc := encFd) (k := 2) encFd_length hat (j := 1) (y := (f, n)) (v := .int .i64 n) (by omega) rfl
      obtain ⟨bu, cu, rfl, hbu, hcu⟩ := hou.slOf (by omega)
      rw [fieldsA_eq] at hbu
      have hXF : (fs.flatMap encFd).length = fs.length * 2 := fm_length encFd_length fs
      have hnew : OwnR (H4.set bu (some (.cells ((setF f n fs).flatMap encFd) (cu * 2)))) 2 (setF f n fs).length (.sl bu 0 fs.length cu) (fieldsA (setF f n fs)) := by
        have e : (setF f n fs).length = fs.length := by unfold setF; rw [List.length_set]
        rw [e]
        exact ⟨by rw [fieldsA_length, e], .inr ⟨bu, cu, rfl, Heap.set_self _ _ _, hcu⟩⟩
      have hbb : bv ≠ bu := fun e => (hsu bu rfl).2 (by rw [e]; rfl)
      have hrow := hR4.row hi (H' := H4.set bu (some (.cells ((setF f n fs).flatMap encFd) (cu * 2)))) hnew (by rw [Heap.set_ne _ _ hbb, hsame]; exact hbv3) (fun x h1 h2 h3 => Heap.set_ne _ _ (fun e => h2 (by rw [e]; rfl))) (fun b hb => .inr hb)
      generalize hYe : fs.flatMap encFd = Y at *
      simp [hp3, hbv3, hpl, hld, hun, hbu, hatl]
      rw [hFs]
      exact ⟨by omega, _, ⟨_, _, by rw [hset, ← hPF, hfs], hrow.1, hso, fun x => Iff.rfl⟩, hu4.trans hrow.2⟩
end Go.Proofs.YtdpbbnnlbjgjgaaGreat
set_option linter.unusedVariables false
set_option linter.unusedSimpArgs false
set_option maxRecDepth 100000
set_option maxHeartbeats 80000000
namespace Go.Proofs.YtdpbbnnlbjgjgaaGreat
open Go.Sf
theorem k_dCut {H : Heap} {p : Nat} {D : CellsK FieldsL} {F : Nat → Prop} (hV : DicQ H p D F) (hl : D.length < 2 ^ 28) (k : K3T) (f : Int) :
    CC PP F_dict_Dicts_CutField [.ptr p 0, .agg (k3 k), .int .i64 f] H fun r H' => r = .bool (cutD k f D).2 ∧ ∃ F', DicQ H' p (cutD k f D).1 F' ∧ UpdF F F' H H' := by
  have hV0 := hV
  obtain ⟨E, v, rfl, hR, hs, hF⟩ := hV
  rw [dicE_length] at hl
  have hsE := dicE_sorted.1 hs.1
  have hdk := dictK_ok (k := k) hs
  have hdl := dictK_le (k := k) hs
  have hso := okD_cut (k := k) (f := f) hs
  refine CC.by_vc ok_dict_Dicts_CutField (by simp) ?_
  unfold c_dict_Dicts_CutField
  simp
  intro b hb
  have hk3 : (k3 k).length = 3 := rfl
  have old : ∀ x, H x ≠ none → (H.set b (some (.cells (k3 k) 3))) x = H x := fun x hx => Heap.set_ne _ _ (fun h => hx (by rw [h]; exact hb))
  simp only [hk3]
  generalize hH1 : H.set b (some (.cells (k3 k) 3)) = H1 at *
  have hb1 : H1 b = some (.cells (k3 k) 3) := by rw [← hH1]; exact Heap.set_self _ _ _
  have hR1 : DicR H1 p v E := hR.keep fun x hx => old x (hV0.live ((hF x).2 hx))
  have same : ∃ F', DicQ H1 p (dicE E) F' ∧ UpdF F F' H H1 := ⟨F, ⟨E, v, rfl, hR1, hs, hF⟩, fun x hx hn => old x hn, fun x hx => .inl hx⟩
  simp [hk3, hb1, tk3]
  refine CallK.of (k_dAt hR1.1 hR1.2.1 hsE (by omega) k) ?_
  rintro _ H' ⟨rfl, rfl⟩
  have hle := posK_le k E
  have hu0 : UpdF F (dicF p v E) H H' := ⟨fun x hx hn => old x hn, fun x hx => .inl ((hF x).2 hx)⟩
  have nocut : ¬ (getF f (dictK k (dicE E))).isSome = true → cutD k f (dicE E) = (dicE E, false) := fun h => by unfold cutD; rw [if_neg h]
  cases hgc : getK k E with
  | none =>
    have hlk : dictK k (dicE E) = [] := by unfold dictK; rw [dicE_get, hgc]; rfl
    have hP := nocut (by rw [hlk]; simp [getF])
    rw [hP]
    simp
    exact same
  | some q =>
    obtain ⟨fs, u⟩ := q
    have hlk : dictK k (dicE E) = fs := by unfold dictK; rw [dicE_get, hgc]; rfl
    obtain ⟨hi, hpl⟩ := at_there hsE hgc
    obtain ⟨bv, c, rfl, hbv, hc⟩ := hR1.2.1.slOf (by omega)
    have hR4 := hR1
    obtain ⟨hp3, ho3, hne3, hrow3, hsep3, -⟩ := hR1
    have hbp3 : bv ≠ p := fun e => hne3 (by rw [e]; rfl)
    have hX := ho3.1
    have hmem := List.mem_of_getElem? hi
    have hou := hrow3 _ hmem
    have hsu := hsep3 _ hmem
    simp only at hou hsu
    have hld : (E.flatMap encD)[posK k E * 4 + 3]? = some u := fm_get (enc := encD) encD_length hi (j := 3) (by omega)
    have hsetv : ∀ (fs' : FieldsL) (u' : AV), (E.flatMap encD).set (posK k E * 4 + 3) u' = (E.set (posK k E) (k, (fs', u'))).flatMap encD := fun fs' u' => fm_set1 (enc := encD) encD_length hi (j := 3) (y := (k, (fs', u'))) (v := u') (by omega) rfl
    have hun := hou.un
    rw [hlk] at hdk hdl nocut
    have hris := hdk.1
    have hg0 : getK k (dicE E) = some fs := by rw [dicE_get, hgc]; rfl
    generalize hXe : E.flatMap encD = X at *
    simp [hp3, hbv, hpl, hld, hun]
    refine CallK.of (k_inR hou hris (by omega) f) ?_
    rintro _ H4 ⟨rfl, rfl⟩
    cases hgf : getF f fs with
    | none =>
      have hP := nocut (by rw [hgf]; simp)
      rw [hP]
      simp
      exact same
    | some w =>
      obtain ⟨hat, hatl⟩ := atF_there hris hgf
      have hCF : cutF f fs = fs.eraseIdx (posF f fs) := by unfold cutF; rw [if_pos (by rw [hgf]; rfl)]; rfl
      have hlnC : (fs.eraseIdx (posF f fs)).length = fs.length - 1 := by rw [List.length_eraseIdx, if_pos hatl]
      have hP : cutD k f (dicE E) = (if fs.length - 1 = 0 then (dicE E).eraseIdx (posK k E) else (dicE E).set (posK k E) (k, fs.eraseIdx (posF f fs)), true) := by
        unfold cutD
        rw [hlk, if_pos (by rw [hgf]; rfl), hCF]
        unfold delK setK
        rw [dicE_pos]
        by_cases h0 : fs.length - 1 = 0
        · rw [if_pos h0, if_pos (List.length_eq_zero_iff.1 (by omega))]
        · rw [if_neg h0, if_neg (fun e => by rw [e] at hlnC; simp at hlnC; omega)]
      rw [hP] at hso ⊢
      simp only at hso ⊢
      obtain ⟨bu, cu, rfl, hbu, hcu⟩ := hou.slOf (by omega)
      have hpu : bu ≠ p := (hsu bu rfl).1
      have hbb : bu ≠ bv := fun e => (hsu bu rfl).2 (by rw [e]; rfl)
      have w1 : IntKind.i64.wrap ((posF f fs : Int) + 1) = ((posF f fs + 1 : Nat) : Int) := by rw [wrap_i64 (by omega) (by omega)]; rfl
      have w2 : IntKind.i64.wrap ((posK k E : Int) + 1) = ((posK k E + 1 : Nat) : Int) := by rw [wrap_i64 (by omega) (by omega)]; rfl
      have del : CC PP F_slices_Delete_api_Field_api_Field [.sl bu 0 fs.length cu, .int .i64 (posF f fs), .int .i64 (posF f fs + 1 : Nat)] H4 fun u' H2 => ∃ c2, u' = .sl bu 0 (fs.length - 1) c2 ∧ H2 p = some (.cells [.sl bv 0 E.length c] 1) ∧ H2 bv = some (.cells X (c * 4)) ∧
          (fs.length - 1 ≠ 0 → ∃ F', DicQ (H2.set bv (some (.cells (X.set (posK k E * 4 + 3) (.sl bu 0 (fs.length - 1) c2)) (c * 4)))) p ((dicE E).set (posK k E) (k, fs.eraseIdx (posF f fs))) F' ∧ UpdF F F' H (H2.set bv (some (.cells (X.set (posK k E * 4 + 3) (.sl bu 0 (fs.length - 1) c2)) (c * 4))))) ∧
          (fs.length - 1 = 0 → CC PP F_slices_Delete_dict_cell_dict_cell [.sl bv 0 E.length c, .int .i64 (posK k E), .int .i64 (posK k E + 1 : Nat)] (H2.set bv (some (.cells (X.set (posK k E * 4 + 3) (.sl bu 0 (fs.length - 1) c2)) (c * 4)))) fun v' H5 => AV.one v' = true ∧ un v' = (True, v') ∧ (∃ k5 q5, H5 p = some (.cells [k5] q5) ∧ q5 = 1) ∧ ∃ F', DicQ (H5.set p (some (.cells [v'] 1))) p ((dicE E).eraseIdx (posK k E)) F' ∧ UpdF F F' H (H5.set p (some (.cells [v'] 1)))) := by
        refine (k_delF hou (fieldsA_one fs) hatl (by omega)).mono fun u' H2 ⟨h1, h2, h3⟩ => ?_
        have hp2 : H2 p = some (.cells [.sl bv 0 E.length c] 1) := by rw [h2 p (fun e => hpu (by cases e; rfl)) (by rw [hp3]; simp)]; exact hp3
        have hbv2 : H2 bv = some (.cells X (c * 4)) := by rw [h2 bv (fun e => hbb (by cases e; rfl)) (by rw [hbv]; simp)]; exact hbv
        rw [fieldsA_eq, fm_del encFd_length, ← fieldsA_eq] at h1
        obtain ⟨c2, rfl⟩ : ∃ c2, u' = .sl bu 0 (fs.length - 1) c2 := by
          obtain ⟨_, ⟨rfl, _⟩ | ⟨b5, c5, rfl, _, _⟩⟩ := h1
          · cases h3
          · cases h3; exact ⟨_, rfl⟩
        have hnew : OwnR (H2.set bv (some (.cells (X.set (posK k E * 4 + 3) (.sl bu 0 (fs.length - 1) c2)) (c * 4)))) 2 (fs.eraseIdx (posF f fs)).length (.sl bu 0 (fs.length - 1) c2) (fieldsA (fs.eraseIdx (posF f fs))) := by
          rw [hlnC]; exact h1.agree fun x hx => by cases hx; exact Heap.set_ne _ _ hbb
        obtain ⟨r1, r2⟩ := hR4.row hi hnew (by rw [Heap.set_self, hsetv (fs.eraseIdx (posF f fs))]) (fun x x1 x2 x3 => by rw [Heap.set_ne _ _ x1]; exact h2 x x2 x3) (fun b hb => .inr hb)
        refine ⟨c2, rfl, hp2, hbv2, fun h0 => ?_, fun h0 => ?_⟩
        · rw [if_neg h0] at hso
          exact ⟨_, ⟨_, _, (dicE_set _ _ _ _ _).symm, r1, hso, fun x => Iff.rfl⟩, hu0.trans r2⟩
        · rw [if_pos h0] at hso
          have hll : (E.set (posK k E) (k, (fs.eraseIdx (posF f fs), AV.sl bu 0 (fs.length - 1) c2))).length = E.length := by rw [List.length_set]
          have hoo := r1.2.1
          rw [hll] at hoo
          refine (k_delD hoo r1.ones hpl (by omega)).mono fun v' H5 ⟨g1, g2, g3⟩ => ?_
          rw [fm_del encD_length] at g1
          have hde := r1.del (i := posK k E) (by rw [hll]; exact hpl) (H2 := H5) (v' := v') (by rw [hll]; exact g1) g2 g3
          have her : (E.set (posK k E) (k, (fs.eraseIdx (posF f fs), AV.sl bu 0 (fs.length - 1) c2))).eraseIdx (posK k E) = E.eraseIdx (posK k E) := by
            rw [List.eraseIdx_set_eq]
          rw [her] at hde
          refine ⟨g1.one, g1.un, ⟨_, _, by rw [g2 p (fun e => hbp3 (by cases e; rfl)) (by rw [r1.1]; simp)]; exact r1.1, rfl⟩, _, ⟨_, _, (dicE_del _ _).symm, hde.1, hso, fun x => Iff.rfl⟩, (hu0.trans r2).trans hde.2⟩
      have hlt4 : posK k E * 4 + 3 < E.length * 4 := by omega
      simp [hp3, hbv, hpl, hld, w1]
      repeat' (refine And.intro ?_ ?_)
      all_goals
        refine CallK.of del ?_
        rintro _ H5 ⟨c2, rfl, hp5, hbv5, fin1, fin2⟩
        simp [hp5, hbv5, hpl, hX, hlt4, Heap.set_self, Heap.set_ne _ _ (Ne.symm hbp3)]
        refine ⟨fun h0 => ?_, fun h0 => ?_⟩
        · rw [w2]
          refine CallK.of (fin2 h0) ?_
          rintro v' H6 ⟨q1, q2, ⟨k5, q5, q3, rfl⟩, fin⟩
          simp [q1, q2, q3, h0]
          exact fin
        · rw [if_neg h0]; exact fin1 h0
end Go.Proofs.YtdpbbnnlbjgjgaaGreat
