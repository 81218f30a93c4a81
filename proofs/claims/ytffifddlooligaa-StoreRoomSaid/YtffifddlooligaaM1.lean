/- Stores: which names are there; an object goes. -/
import Derived.Test.YtffifddlooligaaLW
set_option linter.unusedVariables false
set_option linter.unusedSimpArgs false
set_option maxRecDepth 100000
set_option maxHeartbeats 4000000
namespace Go.Proofs.Ytffifddlooligaa
open Go.Sf
attribute [local simp] s_skip s_ops s_draw s_any s_contA s_tdone s_ttwo s_top_p s_top_pick s_top_e s_top_g s_seq s_cond s_block s_loop s_exit s_ret s_mark s_then_n s_then_e s_then_r s_in_n s_in_e s_in_r s_contC s_contO s_contQ s_contT s_nil s_cons_p s_cons_pick s_cons_e s_cons_g s_qnil s_qcons_p s_qcons_pick s_qcons_e s_qcons_g s_M s_Mg s_Mq s_Mqg s_G_p s_G_pick s_G_e s_Gq_p s_Gq_pick s_Gq_e s_if s_call s_callv s_qcall s_qcallv s_getAll_nil s_getAll_cons s_put_some s_put_none s_ev_t s_ev_c s_ev_f un evP evK argT resAV lenOf_nils lenOf_imm lenOf_sl lenOf_str optI slcV binV isShift binInt binStr shiftInt pickV unV s_append s_alloc s_box s_bslice s_Bs_t s_Bs_f s_store1 s_storeN s_St1 s_St s_s2b s_markb s_Mk s_mkslice s_qbslice s_qs2b s_ret_n s_ret_r s_retc_n s_retc_r s_RV_nil s_RV_t s_RV_c s_RV1 tupOf fillC kn_int cl_int on_int kn_bool cl_bool on_bool kn_str cl_str on_str kn_nilp cl_nilp on_nilp kn_ptr cl_ptr on_ptr kn_iptr cl_iptr on_iptr kn_nils cl_nils on_nils kn_sl cl_sl on_sl kn_imm cl_imm on_imm kn_mp cl_mp on_mp kn_nilm cl_nilm on_nilm kn_fn cl_fn on_fn kn_nilf cl_nilf on_nilf kn_agg cl_agg scalEq flatEq eqV s_copy_i s_copy_s s_Cp s_clr s_clrn s_Cl s_appz s_Az s_ext s_Ov s_mapB s_mapBS s_rng s_rngn s_Rn s_nxt s_Nx0 s_ent s_mkmap s_mset s_mdel mapOf s_Mg_n s_Mqg_n s_gw_b s_gw_u s_gw_gb s_gw_f
def preS (s p : ByteArray) : Bool := decide (p.size ≤ s.size) && decide (s.extract 0 p.size = p)
theorem p_prefix1 (s p : ByteArray) (hs : s.size < 2 ^ 62) (hp : p.size < 2 ^ 62) : CP PP F_internal_stringslite_HasPrefix [.str s, .str p] (fun v => v = .bool (preS s p)) := by
  refine CP.by_vc ok_internal_stringslite_HasPrefix (by simp) ?_
  unfold c_internal_stringslite_HasPrefix
  by_cases h : p.size ≤ s.size
  · simp [h, preS]
  · simp [h, preS]
theorem p_prefix (s p : ByteArray) (hs : s.size < 2 ^ 62) (hp : p.size < 2 ^ 62) : CP PP F_strings_HasPrefix [.str s, .str p] (fun v => v = .bool (preS s p)) := by
  refine CP.by_vc ok_strings_HasPrefix (by simp) ?_
  unfold c_strings_HasPrefix
  simp
  refine CallK.pure (p_prefix1 s p hs hp) ?_
  rintro _ rfl
  simp
def namesP (A : FileL) (p : ByteArray) : List ByteArray := (A.map (·.1)).filter fun n => preS n p
def I_lst (H0 : Heap) (v : AV) (A : FileL) (p : ByteArray) (k : Nat) (T : Nat → AV) (H : Heap) : Prop :=
  ∃ (i : Nat) (u : AV), k + i = A.length ∧ T 1 = .str p ∧ T 13 = v ∧ T 14 = .int .i64 A.length ∧ T 15 = .int .i64 i ∧ T 5 = u ∧ OwnR H 1 (namesP (A.take i) p).length u ((namesP (A.take i) p).map .str) ∧ (∀ x, blkOf u = some x → H0 x = none) ∧ ∀ x, H0 x ≠ none → H x = H0 x
theorem k_list {H0 : Heap} {s : Nat} {v : AV} {A : FileL} {room : Int} (hS : StoreQ H0 s v A room) (hl : A.length < 2 ^ 30) (hsz : ∀ q ∈ A, q.1.size < 2 ^ 62) {p : ByteArray} (hp : p.size < 2 ^ 62) :
    CC PP F_store_Store_List [.ptr s 0, .str p] H0 fun r H' => H' = H0 ∧ r = .imm ((namesP A p).map .str) (namesP A p).length none := by
  refine CC.back ?_
  have main : CC PP F_store_Store_List [.ptr s 0, .str p] H0 fun r H' => OwnR H' 1 (namesP A p).length r ((namesP A p).map .str) ∧ (∀ x, blkOf r = some x → H0 x = none) ∧ ∀ x, H0 x ≠ none → H' x = H0 x := by
    obtain ⟨hs, ⟨cs, ho, hO⟩, ne⟩ := hS
    refine CC.by_vc ok_store_Store_List (by simp) ?_
    unfold c_store_Store_List
    rcases ho.2 with ⟨rfl, hA0⟩ | ⟨b, c, rfl, hb, hc⟩
    · have hA1 : A = [] := List.length_eq_zero_iff.1 hA0
      subst hA1
      simp [hs]
      refine LoopV.mk2 (I_lst H0 .nils [] p) 0 ⟨0, .nils, rfl, by simp, by simp, by simp, by simp, by simp, ⟨by simp [namesP], .inl ⟨rfl, by simp [namesP]⟩⟩, fun x hx => by simp [blkOf] at hx, fun _ _ => rfl⟩ ?_
      rintro k T H ⟨i, u, hk, t1, t13, t14, t15, t5, hu, nu, hold⟩
      obtain rfl : i = 0 := by simp at hk; omega
      simp [t14, t15, t5, hu.un]
      exact ⟨hu, nu, hold⟩
    · simp [hs]
      refine LoopV.mk2 (I_lst H0 (.sl b 0 A.length c) A p) A.length ⟨0, .nils, by omega, by simp, by simp, by simp, by simp, by simp, ⟨by simp [namesP], .inl ⟨rfl, by simp [namesP]⟩⟩, fun x hx => by simp [blkOf] at hx, fun _ _ => rfl⟩ ?_
      rintro k T H ⟨i, u, hk, t1, t13, t14, t15, t5, hu, nu, hold⟩
      by_cases hk0 : k = 0
      · subst hk0
        obtain rfl : i = A.length := by omega
        rw [List.take_length] at hu
        simp [t14, t15, t5, hu.un]
        exact ⟨hu, nu, hold⟩
      · have hi : i < A.length := by omega
        have hai : A[i]? = some A[i] := by simp [hi]
        obtain ⟨z, hc1, hc2, hc3⟩ := hO.at hai
        have hq := hsz A[i] (List.getElem_mem hi)
        have htt : namesP (A.take (i + 1)) p = namesP (A.take i) p ++ (if preS A[i].1 p then [A[i].1] else []) := by
          unfold namesP
          rw [List.take_add_one, hai]
          simp only [List.map_append, List.filter_append, Option.toList_some, List.map_cons, List.map_nil, List.filter_cons, List.filter_nil]
        generalize A[i] = q at *
        have hbH : H b = some (.cells cs (c * 2)) := by rw [hold b (by rw [hb]; simp)]; exact hb
        simp [t1, t13, t14, t15, t5, hi, hbH, hc1, hc3]
        intro y hy
        have hyn : ∀ x, H0 x ≠ none → x ≠ y := fun x hx h => by rw [← h, hold x hx] at hy; exact hx hy
        have hyu : blkOf u ≠ some y := fun h => by
          obtain ⟨cs', q', hq'⟩ := hu.blk_live h
          rw [hy] at hq'; cases hq'
        simp [Heap.set_self, Heap.set_set, hc2.one, t1]
        have hold' : ∀ x, H0 x ≠ none → (H.set y (some (.cells [.str q.1, z] 2))) x = H0 x := fun x hx => by rw [Heap.set_ne _ _ (hyn x hx)]; exact hold x hx
        have hu' : OwnR (H.set y (some (.cells [.str q.1, z] 2))) 1 (namesP (A.take i) p).length u ((namesP (A.take i) p).map .str) := hu.keep2 fun x hx => Heap.set_ne _ _ (fun h => hyu (by rw [← h]; exact hx))
        have hyy : (H.set y (some (.cells [.str q.1, z] 2))) y = some (.cells [.str q.1, z] 2) := Heap.set_self _ _ _
        generalize H.set y (some (.cells [.str q.1, z] 2)) = HH at *
        refine CallK.pure (p_prefix q.1 p hq hp) ?_
        rintro _ rfl
        have hnl : (namesP (A.take i) p).length ≤ A.length := by
          unfold namesP
          refine Nat.le_trans (List.length_filter_le _ _) ?_
          simp; omega
        cases hpre : preS q.1 p with
        | true =>
          rw [hpre] at htt
          simp at htt
          simp [t5, hu.un, hyy]
          refine vcAp_row (bytes := 16) (.inl hu') (new := [.str q.1]) (m := 1) (by simp [cellsOf_imm]) rfl rfl (by omega) (by simp) (by omega) (.inl (by simp)) ?_
          intro v' H' hv' o' n'
          simp [t15, hv'.un]
          refine Again2.mk (k - 1) (by omega) ⟨i + 1, v', by omega, by simp [t1], by simp [t13], by simp [t14], ?_, by simp, ?_, ?_, ?_⟩
          · simp; rw [wrap_i64 (by omega) (by omega)]
          · rw [htt]; simpa using hv'
          · intro x hx
            rcases n' x hx with h | h
            · cases h0 : H0 x with
              | none => rfl
              | some w => rw [hold' x (by rw [h0]; simp), h0] at h; cases h
            · exact nu x h
          · intro x hx
            rw [o' x (fun h => hx (nu x h)) (by rw [hold' x hx]; exact hx)]; exact hold' x hx
        | false =>
          rw [hpre] at htt
          simp at htt
          simp [t15]
          refine Again2.mk (k - 1) (by omega) ⟨i + 1, u, by omega, by simp [t1], by simp [t13], by simp [t14], ?_, by simp [t5], ?_, nu, hold'⟩
          · simp; rw [wrap_i64 (by omega) (by omega)]
          · rw [htt]; exact hu'
  exact CC.hold main fun r H' ⟨h1, h2, h3⟩ => ⟨1, _, _, h1, fun x hx => by
    cases hr : blkOf r with
    | none => exact h3 x hx
    | some b => exact (Heap.set_ne _ _ (fun h => hx (by rw [h]; exact h2 b hr))).trans (h3 x hx), rfl⟩
theorem k_drop {H : Heap} {s : Nat} {v : AV} {A : FileL} {room : Int} (hS : StoreQ H s v A room) {name : ByteArray} (hm : MonoO name A) (hA : A.length < 2 ^ 20) (hth : (findO name A).2 = true) :
    CC PP F_store_Store_Drop [.ptr s 0, .str name] H fun r H' => r = .int .i64 0 ∧ ∃ v', StoreQ H' s v' (A.eraseIdx (findO name A).1) room ∧ blkOf v' = blkOf v ∧ ∀ x, x ≠ s → blkOf v ≠ some x → H x ≠ none → H' x = H x := by
  have hS' := hS
  obtain ⟨hs, ⟨cs, ho, hO⟩, ne⟩ := hS
  have hun := ho.un
  obtain ⟨p, hp, hcmp⟩ := findO_there hth
  have hi : (findO name A).1 < A.length := (List.getElem?_eq_some_iff.1 hp).1
  have hfind := k_find hS' name hm (by omega)
  have hdel := k_delO ho hO.one hi (by omega)
  have hO2 := hO.del _ hi
  generalize (findO name A).1 = i at *
  have w : IntKind.i64.wrap ((i : Int) + 1) = ((i + 1 : Nat) : Int) := by rw [wrap_i64 (by omega) (by omega)]; rfl
  refine CC.by_vc ok_store_Store_Drop (by simp) ?_
  unfold c_store_Store_Drop
  simp
  refine CallK.of hfind ?_
  rintro _ H' ⟨rfl, rfl⟩
  simp [hth, hs, hun, w]
  refine CallK.of hdel ?_
  rintro v' H2 ⟨h1, h2, h3⟩
  have hs2 : H2 s = some (.cells [v, .int .i64 room] 2) := by rw [h2 s ne (by rw [hs]; simp)]; exact hs
  simp [h1.un, h1.one, hs2]
  refine ⟨v', ⟨Heap.set_self _ _ _, ⟨_, ?_, hO2⟩, by rw [h3]; exact ne⟩, h3, fun x x1 x2 x3 => ?_⟩
  · rw [List.length_eraseIdx_of_lt hi]
    exact h1.keep2 fun x hx => Heap.set_ne _ _ (fun h => ne (by rw [← h3, ← h]; exact hx))
  · rw [Heap.set_ne _ _ x1, h2 x x2 x3]
end Go.Proofs.Ytffifddlooligaa
