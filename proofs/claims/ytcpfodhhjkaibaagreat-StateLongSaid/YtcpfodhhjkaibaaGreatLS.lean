/- slices.Insert, slices.Delete: at a store's objects. -/
import Derived.Test.YtcpfodhhjkaibaaGreatC8
import Derived.Test.YtcpfodhhjkaibaaGreatK16
set_option linter.unusedVariables false
set_option linter.unusedSimpArgs false
set_option maxRecDepth 100000
set_option maxHeartbeats 4000000
namespace Go.Sf
theorem splA_mid (A R new : List AV) {o : Nat} (h : A.length = o) : splA (A ++ R) o new = A ++ (new ++ R.drop new.length) := by
  subst h
  unfold splA
  rw [List.take_left, ← List.drop_drop, List.drop_left, List.append_assoc]
theorem splA_ins {cs x : List AV} {o s : Nat} (hx : x.length = s) (h : o + s ≤ cs.length) : splA (splA cs (o + s) (cs.drop o)) o x = cs.take o ++ (x ++ cs.drop o) := by
  obtain ⟨A, B, hA, rfl⟩ : ∃ A B, A.length = o ∧ cs = A ++ B := ⟨cs.take o, cs.drop o, by rw [List.length_take]; omega, by simp⟩
  obtain ⟨C, D, hC, rfl⟩ : ∃ C D, C.length = s ∧ B = C ++ D := ⟨B.take s, B.drop s, by rw [List.length_append] at h; rw [List.length_take]; omega, by simp⟩
  subst hA
  rw [List.take_left, List.drop_left]
  have e1 : splA (A ++ (C ++ D)) (A.length + s) (C ++ D) = A ++ (C ++ (C ++ D)) := by
    rw [← List.append_assoc, splA_mid _ _ _ (by rw [List.length_append, hC]), List.drop_of_length_le (by simp)]
    simp
  rw [e1, splA_mid _ _ _ rfl, hx, ← hC, List.drop_left]
end Go.Sf
namespace Go.Proofs.YtcpfodhhjkaibaaGreat
open Go.Sf
attribute [local simp] s_skip s_ops s_draw s_any s_contA s_tdone s_ttwo s_top_p s_top_pick s_top_e s_top_g s_seq s_cond s_block s_loop s_exit s_ret s_mark s_then_n s_then_e s_then_r s_in_n s_in_e s_in_r s_contC s_contO s_contQ s_contT s_nil s_cons_p s_cons_pick s_cons_e s_cons_g s_qnil s_qcons_p s_qcons_pick s_qcons_e s_qcons_g s_M s_Mg s_Mq s_Mqg s_G_p s_G_pick s_G_e s_Gq_p s_Gq_pick s_Gq_e s_if s_call s_callv s_qcall s_qcallv s_getAll_nil s_getAll_cons s_put_some s_put_none s_ev_t s_ev_c s_ev_f un evP evK argT resAV lenOf_nils lenOf_imm lenOf_sl lenOf_str optI slcV binV isShift binInt binStr shiftInt pickV unV s_append s_alloc s_box s_bslice s_Bs_t s_Bs_f s_store1 s_storeN s_St1 s_St s_s2b s_markb s_Mk s_mkslice s_qbslice s_qs2b s_ret_n s_ret_r s_retc_n s_retc_r s_RV_nil s_RV_t s_RV_c s_RV1 tupOf fillC kn_int cl_int on_int kn_bool cl_bool on_bool kn_str cl_str on_str kn_nilp cl_nilp on_nilp kn_ptr cl_ptr on_ptr kn_iptr cl_iptr on_iptr kn_nils cl_nils on_nils kn_sl cl_sl on_sl kn_imm cl_imm on_imm kn_mp cl_mp on_mp kn_nilm cl_nilm on_nilm kn_fn cl_fn on_fn kn_nilf cl_nilf on_nilf kn_agg cl_agg scalEq flatEq eqV s_copy_i s_copy_s s_Cp s_clr s_clrn s_Cl s_appz s_Az s_ext s_Ov s_mapB s_mapBS s_rng s_rngn s_Rn s_nxt s_Nx0 s_ent s_mkmap s_mset s_mdel mapOf s_Mg_n s_Mqg_n s_gw_b s_gw_u s_gw_gb s_gw_f
theorem ovlIO : (PP.info? 192).isSome = true := by kernel_rfl
theorem ovlO : OvlOK PP F_slices_overlaps_store_object := ⟨Tryz.f159, 183, 4, 192, (PP.info? 192).get ovlIO, Tryz.func159, by kernel_rfl, by kernel_rfl, by kernel_rfl, by kernel_rfl, by kernel_rfl, (Option.some_get ovlIO).symm⟩
theorem k_insO {H : Heap} {v : AV} {n : Nat} {cs : List AV} (ho : OwnR H 2 n v cs) (hone : cs.all AV.one = true) {x : List AV} (hx : x.length = 2) (hxo : x.all AV.one = true) {i : Nat} (hi : i ≤ n) (hn : n < 2 ^ 30) :
    CC PP F_slices_Insert_store_object_store_object [v, .int .i64 i, .imm x 1 (some 1)] H fun v' H' => OwnR H' 2 (n + 1) v' (cs.take (i * 2) ++ (x ++ cs.drop (i * 2))) ∧ KeepB H H' (blkOf v) ∧ (∀ b, blkOf v' = some b → H b = none ∨ blkOf v = some b) := by
  refine CC.by_vc ok_slices_Insert_store_object_store_object (by simp) ?_
  unfold c_slices_Insert_store_object_store_object
  have hxne : x ≠ [] := fun e => by rw [e] at hx; simp at hx
  have hx1 : cellsOf H 2 (.imm x 1 (some 1)) = some x := by rw [cellsOf_imm, if_pos (by omega)]
  have hcl := ho.1
  by_cases hin : i = n
  · subst hin
    have e1 : cs.take (i * 2) ++ (x ++ cs.drop (i * 2)) = cs ++ x := by
      rw [List.take_of_length_le (by omega), List.drop_of_length_le (by omega), List.append_nil]
    rw [e1]
    have ho' := ho
    obtain ⟨hcl, ⟨rfl, rfl⟩ | ⟨b', c, rfl, hb', hc⟩⟩ := ho
    · simp
      refine vcAp_row (.inl ho') (x := .imm x 1 (some 1)) (new := x) (m := 1) hx1 rfl (by omega) (by omega) hxo (by omega) (.inl hxne) ?_
      intro v' H' h1 h2 h3
      simp [h1.un]
      exact ⟨h1, h2, h3⟩
    · simp
      refine ⟨hc, ?_⟩
      refine vcAp_row (.inl ho') (x := .imm x 1 (some 1)) (new := x) (m := 1) hx1 rfl (by omega) (by omega) hxo (by omega) (.inl hxne) ?_
      intro v' H' h1 h2 h3
      simp [h1.un]
      exact ⟨h1, h2, h3⟩
  · have hil : i < n := by omega
    obtain ⟨hcl, ⟨rfl, rfl⟩ | ⟨b, c, rfl, hb, hc⟩⟩ := ho
    · omega
    obtain ⟨z, hz⟩ : ∃ z, z = n + 1 - i := ⟨_, rfl⟩
    have w1 : IntKind.i64.wrap ((n : Int) + 1) = (n : Int) + 1 := wrap_i64 (by omega) (by omega)
    have w2 : IntKind.i64.wrap ((i : Int) + 1) = (i : Int) + 1 := wrap_i64 (by omega) (by omega)
    have w3 : IntKind.i64.wrap ((n : Int) + 1 - i) = (z : Int) := by rw [wrap_i64 (by omega) (by omega)]; omega
    have hmx : max (z : Int) 0 = z := by omega
    have hiz : ((i : Int) + (z : Int)).toNat = i + z := by omega
    have hin' : ¬ (i : Int) = n := by omega
    have hit : i * 2 ≤ n * 2 := Nat.mul_le_mul_right _ hi
    have hdl : (cs.drop (i * 2)).length = (n - i) * 2 := by rw [List.length_drop, hcl, Nat.sub_mul]
    have htl : (cs.take (i * 2)).length = i * 2 := by rw [List.length_take, hcl]; omega
    have hone2 : (cs.drop (i * 2)).all AV.one = true := List.all_eq_true.2 fun y hy => List.all_eq_true.1 hone y (List.mem_of_mem_drop hy)
    have hfl : (cs.take (i * 2) ++ (x ++ cs.drop (i * 2))).length = (n + 1) * 2 := by simp only [List.length_append, htl, hdl, hx]; omega
    by_cases hg : c < n + 1
    · obtain rfl : c = n := by omega
      simp [hin, hin', hi, w1, w2, w3, hmx, hiz, hb, show (c : Int) < (c : Int) + 1 by omega, show ¬ (c : Int) + 1 ≤ c by omega]
      refine ⟨by omega, by omega, by omega, fun b' c' hb' hc' => ⟨⟨by omega, by omega⟩, ?_⟩⟩
      have nbb : b ≠ b' := fun h => by rw [h, hb'] at hb; cases hb
      have hzl : (List.replicate z ([AV.str ⟨#[]⟩, AV.nils] : List AV)).flatten.length = z * 2 := by rw [rep_len]; rfl
      generalize (List.replicate z ([AV.str ⟨#[]⟩, AV.nils] : List AV)).flatten = Z at *
      generalize hA : cs.take (i * 2) = A at *
      generalize hB : cs.drop (i * 2) = B at *
      have hC1 : splA (A ++ Z) (i * 2) (x.take (1 * 2)) = A ++ (x ++ Z.drop x.length) := by
        rw [List.take_of_length_le (by omega), splA_mid _ _ _ htl]
      have hC2 : splA (A ++ (x ++ Z.drop x.length)) ((i + 1) * 2) B = A ++ (x ++ B) := by
        rw [← List.append_assoc, splA_mid _ _ _ (by rw [List.length_append]; omega), List.drop_drop, List.drop_of_length_le (by omega)]
        simp
      rw [show Nat.min 1 z = 1 by show min 1 z = 1; omega, if_neg (show ¬ c' = i by omega), Heap.set_self, pre_imm _ _ _ _ _ _ (by omega), s_Cp, hC1]
      refine ⟨List.all_eq_true.2 fun y hy => List.all_eq_true.1 hxo y (List.mem_of_mem_take hy), by simp only [List.length_append]; omega, by omega, ?_⟩
      simp [Heap.set_set, hi, w2, hb, Heap.set_ne _ _ nbb]
      refine ⟨⟨by omega, by omega, by omega⟩, ?_⟩
      have hBt : B.take ((c - i) * 2) = B := List.take_of_length_le (by omega)
      have hi2 : i + z - (i + 1) = c - i := by omega
      rw [hiz, hi2, show Nat.min (c - i) (c - i) = c - i from Nat.min_self _, if_neg (show ¬ c' = i + 1 by omega), if_neg (show ¬ c = i by omega), Heap.set_self, pre_sl (by rw [Heap.set_ne _ _ nbb]; exact hb) _ _ _ _ _ (by rw [hcl, Nat.sub_mul]; omega), hB, hBt, s_Cp, hC2]
      refine ⟨hone2, by simp only [List.length_append]; omega, by omega, ?_⟩
      simp [Heap.set_set]
      have e3 : i + z = c + 1 := by omega
      rw [e3]
      exact ⟨⟨hfl, .inr ⟨b', c', rfl, Heap.set_self _ _ _, by omega⟩⟩, fun q _ hq => Heap.set_ne _ _ (fun h => hq (by rw [h]; exact hb')), fun q hq => by cases hq; exact .inl hb'⟩
    · simp [hin, hin', hi, w1, w2, w3, hb, show ¬ (c : Int) < (n : Int) + 1 by omega, show (n : Int) + 1 ≤ c by omega]
      have hc0 : (i + 1) * 2 ≤ cs.length := by rw [hcl]; exact Nat.mul_le_mul_right _ (by omega)
      have hci : splA (splA cs ((i + 1) * 2) (cs.drop (i * 2))) (i * 2) (x.take (1 * 2)) = cs.take (i * 2) ++ (x ++ cs.drop (i * 2)) := by
        rw [List.take_of_length_le (by omega), show (i + 1) * 2 = i * 2 + 2 by omega, splA_ins hx (by omega)]
      have hql : (n + 1) * 2 ≤ c * 2 := Nat.mul_le_mul_right _ (by omega)
      have hs1 : (splA cs ((i + 1) * 2) (cs.drop (i * 2))).length = (n + 1) * 2 := by
        unfold splA; simp only [List.length_append, List.length_take, List.length_drop]; omega
      have hmn : Nat.min (n + 1 - i) (n - i) = n - i := by show min (n + 1 - i) (n - i) = _; omega
      have hdt : ((cs.drop (i * 2)).take ((n - i) * 2)) = cs.drop (i * 2) := List.take_of_length_le (by omega)
      refine ⟨by omega, by omega, by omega, ovlO, hxne, by omega, by omega, by omega, ?_⟩
      rw [hmn, if_neg (show ¬ c = i + 1 by omega), if_neg (show ¬ c = i by omega), pre_sl hb _ _ _ _ _ (by rw [hcl, Nat.sub_mul]; omega), hdt, s_Cp]
      refine ⟨hone2, hc0, by rw [Nat.sub_mul]; omega, ?_⟩
      simp [Heap.set_self, show ¬ (n : Int) + 1 < i by omega, show (i : Int) ≤ (n : Int) + 1 by omega]
      refine ⟨by omega, ?_⟩
      rw [show Nat.min 1 (n + 1 - i) = 1 by show min 1 (n + 1 - i) = 1; omega, if_neg (show ¬ c = i by omega), pre_imm _ _ _ _ _ _ (by omega), s_Cp, hci]
      refine ⟨List.all_eq_true.2 fun y hy => List.all_eq_true.1 hxo y (List.mem_of_mem_take hy), by rw [hs1]; omega, by omega, ?_⟩
      simp [Heap.set_set]
      exact ⟨⟨hfl, .inr ⟨b, c, rfl, Heap.set_self _ _ _, by omega⟩⟩, fun q hq _ => Heap.set_ne _ _ (fun h => hq (by rw [h]; rfl)), fun q hq => by cases hq; exact .inr rfl⟩

end Go.Proofs.YtcpfodhhjkaibaaGreat
