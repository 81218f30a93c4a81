/- Stores: what is there; what is put. -/
import Derived.Test.YtcpfodhhjkaibaaGreatK15
set_option linter.unusedVariables false
set_option linter.unusedSimpArgs false
set_option maxRecDepth 100000
namespace Go.Proofs.YtcpfodhhjkaibaaGreat
open Go.Sf
attribute [local simp] s_skip s_ops s_draw s_any s_contA s_tdone s_ttwo s_top_p s_top_pick s_top_e s_top_g s_seq s_cond s_block s_loop s_exit s_ret s_mark s_then_n s_then_e s_then_r s_in_n s_in_e s_in_r s_contC s_contO s_contQ s_contT s_nil s_cons_p s_cons_pick s_cons_e s_cons_g s_qnil s_qcons_p s_qcons_pick s_qcons_e s_qcons_g s_M s_Mg s_Mq s_Mqg s_G_p s_G_pick s_G_e s_Gq_p s_Gq_pick s_Gq_e s_if s_call s_callv s_qcall s_qcallv s_getAll_nil s_getAll_cons s_put_some s_put_none s_ev_t s_ev_c s_ev_f un evP evK argT resAV lenOf_nils lenOf_imm lenOf_sl lenOf_str optI slcV binV isShift binInt binStr shiftInt pickV unV s_append s_alloc s_box s_bslice s_Bs_t s_Bs_f s_store1 s_storeN s_St1 s_St s_s2b s_markb s_Mk s_mkslice s_qbslice s_qs2b s_ret_n s_ret_r s_retc_n s_retc_r s_RV_nil s_RV_t s_RV_c s_RV1 tupOf fillC kn_int cl_int on_int kn_bool cl_bool on_bool kn_str cl_str on_str kn_nilp cl_nilp on_nilp kn_ptr cl_ptr on_ptr kn_iptr cl_iptr on_iptr kn_nils cl_nils on_nils kn_sl cl_sl on_sl kn_imm cl_imm on_imm kn_mp cl_mp on_mp kn_nilm cl_nilm on_nilm kn_fn cl_fn on_fn kn_nilf cl_nilf on_nilf kn_agg cl_agg scalEq flatEq eqV s_copy_i s_copy_s s_Cp s_clr s_clrn s_Cl s_appz s_Az s_ext s_Ov s_mapB s_mapBS s_rng s_rngn s_Rn s_nxt s_Nx0 s_ent s_mkmap s_mset s_mdel mapOf s_Mg_n s_Mqg_n s_gw_b s_gw_u s_gw_gb s_gw_f
theorem k_find {H : Heap} {s : Nat} {v : AV} {A : FileL} {room : Int} (hS : StoreQ H s v A room) (name : ByteArray) (hm : MonoO name A) (hl : A.length < 2 ^ 30) :
    CC PP F_store_Store_find [.ptr s 0, .str name] H fun u H' => H' = H ∧ u = .tup [.int .i64 (findO name A).1, .bool (findO name A).2] := by
  obtain ⟨hs, ⟨cs, ho, hO⟩, ne⟩ := hS
  refine CC.by_vc ok_store_Store_find (by simp) ?_
  unfold c_store_Store_find
  simp [hs, ho.un]
  refine CallK.of (k_bs ho hO name hm hl) ?_
  rintro _ H' ⟨rfl, rfl⟩
  simp
theorem storeQ_mono {H H' : Heap} {s : Nat} {v : AV} {A : FileL} {room : Int} (h : StoreQ H s v A room) (m : ∀ x, H x ≠ none → H' x = H x) : StoreQ H' s v A room := by
  obtain ⟨hs, ⟨cs, ho, hO⟩, ne⟩ := h
  exact ⟨by rw [m s (by rw [hs]; simp)]; exact hs, ⟨cs, ho.keep2 fun b hb => m b (by obtain ⟨cs, q, hq⟩ := ho.blk_live hb; rw [hq]; simp), hO⟩, ne⟩
theorem k_has1 {H : Heap} {s b : Nat} {v : AV} {A : FileL} {room : Int} (hS : StoreQ H s v A room) (hb : H b = some (.cells [.ptr s 0] 1)) (name : ByteArray) (hm : MonoO name A) (hl : A.length < 2 ^ 30) :
    CC PP F_store_Store_Has_1 [.str name, .ptr b 0] H fun u H' => H' = H ∧ u = .bool (!(findO name A).2) := by
  refine CC.by_vc ok_store_Store_Has_1 (by simp) ?_
  unfold c_store_Store_Has_1
  simp [hb]
  refine CallK.of (k_find hS name hm hl) ?_
  rintro _ H' ⟨rfl, rfl⟩
  simp
def missO (A : FileL) : List ByteArray → Nat → Int
  | [], _ => -1
  | n :: ns, i => if (findO n A).2 then missO A ns (i + 1) else i
theorem missO_lt (A : FileL) : ∀ (ns : List ByteArray) (i : Nat), (0 ≤ missO A ns i ↔ ¬ ∀ n ∈ ns, (findO n A).2 = true)
  | [], i => by simp [missO]
  | n :: ns, i => by
    unfold missO
    cases h : (findO n A).2 with
    | true => simp [h, missO_lt A ns (i + 1)]
    | false => simp [h]
def I_idxS (H0 : Heap) (v : AV) (b : Nat) (A : FileL) (ns : List ByteArray) (k : Nat) (T : Nat → AV) (H : Heap) : Prop :=
  ∃ i : Nat, k + i = ns.length ∧ H = H0 ∧ T 0 = v ∧ T 1 = .fn (.func F_store_Store_Has_1) [] [.ptr b 0] ∧ T 7 = .int .i64 ns.length ∧ T 8 = .int .i64 i ∧ missO A (ns.drop i) i = missO A ns 0
theorem k_idxS {H0 : Heap} {s b : Nat} {v u : AV} {A : FileL} {room : Int} {ns : List ByteArray} (hS : StoreQ H0 s v A room) (hb : H0 b = some (.cells [.ptr s 0] 1)) (hu : IsS u ns) (hm : ∀ n ∈ ns, MonoO n A) (hl : A.length < 2 ^ 30) (hns : ns.length < 2 ^ 40) :
    CC PP F_slices_IndexFunc_string_string [u, .fn (.func F_store_Store_Has_1) [] [.ptr b 0]] H0 fun r H' => H' = H0 ∧ r = .int .i64 (missO A ns 0) := by
  refine CC.by_vc ok_slices_IndexFunc_string_string (by simp) ?_
  unfold c_slices_IndexFunc_string_string
  have hcall : callB PP F_store_Store_Has_1 = true := by kernel_rfl
  rcases hu with ⟨rfl, rfl⟩ | ⟨c, rfl⟩
  · simp
    refine LoopV.mk2 (I_idxS H0 .nils b A []) 0 ⟨0, rfl, rfl, by simp, by simp, by simp, by simp, rfl⟩ ?_
    rintro k T H ⟨i, hk, rfl, h0, h1, h7, h8, hq⟩
    have hi : i = 0 := by simp at hk; omega
    subst hi
    simp [h0, h1, h7, h8, missO]
  · simp
    refine LoopV.mk2 (I_idxS H0 (.imm (ns.map .str) ns.length c) b A ns) ns.length ⟨0, by omega, rfl, by simp, by simp, by simp, by simp, rfl⟩ ?_
    rintro k T H ⟨i, hk, rfl, h0, h1, h7, h8, hq⟩
    rcases Nat.lt_or_ge i ns.length with hi | hi
    · obtain ⟨k', rfl⟩ : ∃ k', k = k' + 1 := ⟨k - 1, by omega⟩
      have hdr : ns.drop i = ns[i] :: ns.drop (i + 1) := List.drop_eq_getElem_cons hi
      have hmem : ns[i] ∈ ns := List.getElem_mem hi
      obtain ⟨n, hn⟩ : ∃ n, ns[i] = n := ⟨_, rfl⟩
      rw [hn] at hdr hmem
      simp [h0, h1, h7, h8, hi, hn, hcall]
      refine CallK.of (k_has1 hS hb n (hm n hmem) hl) ?_
      rintro _ H' ⟨rfl, rfl⟩
      rw [hdr] at hq
      rw [show missO A (n :: ns.drop (i + 1)) i = if (findO n A).2 then missO A (ns.drop (i + 1)) (i + 1) else i from rfl] at hq
      cases hf : (findO n A).2 with
      | true =>
        rw [hf] at hq
        simp [hf, h8]
        refine Again2.mk k' (by omega) ⟨i + 1, by omega, rfl, by simp [h0], by simp [h1], by simp [h7], ?_, by simpa using hq⟩
        simp; rw [wrap_i64 (by omega) (by omega)]
      | false =>
        rw [hf] at hq
        simp [hf]
        simpa using hq
    · obtain rfl : k = 0 := by omega
      rw [List.drop_of_length_le hi] at hq
      simp [h0, h1, h7, h8, show ¬ i < ns.length by omega]
      rw [← hq]; rfl
theorem k_has {H0 : Heap} {s : Nat} {v u : AV} {A : FileL} {room : Int} {ns : List ByteArray} (hS : StoreQ H0 s v A room) (hu : IsS u ns) (hm : ∀ n ∈ ns, MonoO n A) (hl : A.length < 2 ^ 30) (hns : ns.length < 2 ^ 40) :
    CC PP F_store_Store_Has [.ptr s 0, u] H0 fun r H' => H' = H0 ∧ r = .bool (ns.all fun n => (findO n A).2) := by
  have main : CC PP F_store_Store_Has [.ptr s 0, u] H0 fun r H' => (∀ x, H0 x ≠ none → H' x = H0 x) ∧ r = .bool (ns.all fun n => (findO n A).2) := by
    refine CC.by_vc ok_store_Store_Has (by simp) ?_
    unfold c_store_Store_Has
    simp
    intro bx hbx
    have old : ∀ x, H0 x ≠ none → (H0.set bx (some (.cells [.ptr s 0] 1))) x = H0 x := fun x hx => Heap.set_ne _ _ (fun h => hx (by rw [h]; exact hbx))
    simp [Heap.set_self, hu.un]
    have hcont : CC PP F_slices_ContainsFunc_string_string [u, .fn (.func F_store_Store_Has_1) [] [.ptr bx 0]] (H0.set bx (some (.cells [.ptr s 0] 1))) fun r H' => H' = H0.set bx (some (.cells [.ptr s 0] 1)) ∧ r = .bool (decide (0 ≤ missO A ns 0)) := by
      refine CC.by_vc ok_slices_ContainsFunc_string_string (by simp) ?_
      unfold c_slices_ContainsFunc_string_string
      simp [hu.un]
      refine CallK.of (k_idxS (storeQ_mono hS old) (Heap.set_self _ _ _) hu hm hl hns) ?_
      rintro _ H' ⟨rfl, rfl⟩
      simp
    refine CallK.of hcont ?_
    rintro _ H' ⟨rfl, rfl⟩
    simp
    refine ⟨fun x hx => old x hx, ?_⟩
    have := missO_lt A ns 0
    rw [Bool.eq_iff_iff, decide_eq_true_iff, this]
    simp
  exact main.forget fun v H' ⟨h1, h2⟩ => ⟨H0, fun b => by
    cases hb : H0 b with
    | none => exact .inr rfl
    | some x => exact .inl (by rw [← hb, h1 b (by rw [hb]; simp)]), rfl, h2⟩
theorem k_insertEnd {H : Heap} {v : AV} {n : Nat} {cs : List AV} (ho : OwnR H 2 n v cs) (name : ByteArray) {b : AV} {l : List UInt8} (hb : IsB b l) (hn : n < 2 ^ 30) :
    CC PP F_slices_Insert_store_object_store_object [v, .int .i64 n, .imm [.str name, b] 1 (some 1)] H fun v' H' => OwnR H' 2 (n + 1) v' (cs ++ [.str name, b]) ∧ KeepB H H' (blkOf v) ∧ (∀ x, blkOf v' = some x → H x = none ∨ blkOf v = some x) := by
  refine CC.by_vc ok_slices_Insert_store_object_store_object (by simp) ?_
  unfold c_slices_Insert_store_object_store_object
  have ho' := ho
  obtain ⟨hcl, ⟨rfl, rfl⟩ | ⟨b', c, rfl, hb', hc⟩⟩ := ho
  · simp
    refine vcAp_row (.inl ho') (x := .imm [.str name, b] 1 (some 1)) (new := [.str name, b]) (m := 1) rfl rfl rfl (by omega) (by simp [hb.one]) (by omega) (.inl (by simp)) ?_
    intro v' H' h1 h2 h3
    simp [h1.un]
    exact ⟨h1, h2, h3⟩
  · simp
    refine ⟨hc, ?_⟩
    refine vcAp_row (.inl ho') (x := .imm [.str name, b] 1 (some 1)) (new := [.str name, b]) (m := 1) rfl rfl rfl (by omega) (by simp [hb.one]) (by omega) (.inl (by simp)) ?_
    intro v' H' h1 h2 h3
    simp [h1.un]
    exact ⟨h1, h2, h3⟩
theorem k_putNew {H : Heap} {s : Nat} {v : AV} {A : FileL} (hS : StoreQ H s v A 0) {name : ByteArray} (hn0 : name ≠ ⟨#[]⟩) (hn : name.size ≤ 40) {b : AV} {l : List UInt8} (hb : IsB b l) (hl : l.length ≤ 65536) (hm : MonoO name A) (hA : A.length < 2 ^ 20)
    (hf : findO name A = (A.length, false)) :
    CC PP F_store_Store_Put [.ptr s 0, .str name, b, .bool false] H fun r H' => r = .int .i64 0 ∧ ∃ v', StoreQ H' s v' (A ++ [(name, l)]) 0 ∧ (∀ x, blkOf v' = some x → H x = none ∨ blkOf v = some x) ∧ ∀ x, x ≠ s → blkOf v ≠ some x → H x ≠ none → H' x = H x := by
  have hS' := hS
  obtain ⟨hs, ⟨cs, ho, hO⟩, ne⟩ := hS
  refine CC.by_vc ok_store_Store_Put (by simp) ?_
  unfold c_store_Store_Put
  have h40 : ¬ (40 : Int) < name.size := by omega
  have hcl := p_clone hb (by omega)
  have ins : ∀ u, IsB u l → CC PP F_slices_Insert_store_object_store_object [v, .int .i64 A.length, .imm [.str name, u] 1 (some 1)] H fun v' H' => H' s = some (.cells [v, .int .i64 0] 2) ∧ AV.one v' = true ∧ un v' = (True, v') ∧
      ∃ v'', StoreQ (H'.set s (some (.cells [v', .int .i64 0] 2))) s v'' (A ++ [(name, l)]) 0 ∧ (∀ x, blkOf v'' = some x → H x = none ∨ blkOf v = some x) ∧ ∀ x, x ≠ s → blkOf v ≠ some x → H x ≠ none → (H'.set s (some (.cells [v', .int .i64 0] 2))) x = H x := fun u hu =>
    (k_insertEnd ho name hu (by omega)).mono fun v' H' ⟨h1, h2, h3⟩ => by
      have hvs : blkOf v' ≠ some s := fun h => by
        rcases h3 s h with h | h
        · rw [hs] at h; cases h
        · exact ne h
      refine ⟨by rw [h2 s ne (by rw [hs]; simp)]; exact hs, h1.one, h1.un, v', ⟨Heap.set_self _ _ _, ⟨_, ?_, hO.snoc hu⟩, hvs⟩, h3, fun x x1 x2 x3 => ?_⟩
      · rw [List.length_append]
        exact h1.keep2 fun x hx => Heap.set_ne _ _ (fun h => hvs (by rw [← h]; exact hx))
      · rw [Heap.set_ne _ _ x1, h2 x x2 x3]
  have hun := ho.un
  obtain ⟨hcl2, ⟨rfl, hA0⟩ | ⟨b', c', rfl, hb', hc'⟩⟩ := ho
  · have hA1 : A = [] := List.length_eq_zero_iff.1 hA0
    subst hA1
    rcases hb with ⟨rfl, rfl⟩ | ⟨c, rfl⟩
    · simp [hn0, h40]
      refine CallK.of (k_find hS' name hm (by omega)) ?_
      rintro _ H' ⟨rfl, rfl⟩
      rw [hf]
      simp [hs]
      refine ⟨.int .i64 0, ?_⟩
      simp [hs]
      refine ⟨?_, ?_⟩
      · refine CallK.pure hcl ?_
        intro u hu
        simp [hu.un, hu.known, hu.cellsL, hs]
        refine CallK.of (ins u hu) ?_
        rintro v' H2 ⟨q1, q2, q3, q4⟩
        simp [q1, q2, q3]
        simpa using q4
      · refine CallK.pure hcl ?_
        intro u hu
        simp [hu.un, hu.known, hu.cellsL, hs]
        refine ⟨?_, ?_, ?_⟩
        all_goals
          refine CallK.of (ins u hu) ?_
          rintro v' H2 ⟨q1, q2, q3, q4⟩
          simp [q1, q2, q3]
          simpa using q4
    · simp [hn0, h40, immB]
      refine ⟨by omega, fun _ => ?_⟩
      refine CallK.of (k_find hS' name hm (by omega)) ?_
      rintro _ H' ⟨rfl, rfl⟩
      rw [hf]
      simp [hs]
      refine ⟨.int .i64 0, ?_⟩
      simp [hs]
      refine ⟨?_, ?_⟩
      · refine CallK.pure hcl ?_
        intro u hu
        simp [hu.un, hu.known, hu.cellsL, hs]
        refine CallK.of (ins u hu) ?_
        rintro v' H2 ⟨q1, q2, q3, q4⟩
        simp [q1, q2, q3]
        simpa using q4
      · refine CallK.pure hcl ?_
        intro u hu
        simp [hu.un, hu.known, hu.cellsL, hs]
        refine ⟨?_, ?_, ?_⟩
        all_goals
          refine CallK.of (ins u hu) ?_
          rintro v' H2 ⟨q1, q2, q3, q4⟩
          simp [q1, q2, q3]
          simpa using q4
  · rcases hb with ⟨rfl, rfl⟩ | ⟨c, rfl⟩
    · simp [hn0, h40]
      refine CallK.of (k_find hS' name hm (by omega)) ?_
      rintro _ H' ⟨rfl, rfl⟩
      rw [hf]
      have hnone : cs[A.length * 2 + 1]? = none := List.getElem?_eq_none (by omega)
      simp [hs, hb', hnone]
      refine ⟨.int .i64 0, ?_⟩
      simp [hs]
      refine ⟨?_, ?_⟩
      · refine CallK.pure hcl ?_
        intro u hu
        simp [hu.un, hu.known, hu.cellsL, hs]
        refine CallK.of (ins u hu) ?_
        rintro v' H2 ⟨q1, q2, q3, q4⟩
        simp [q1, q2, q3]
        simpa using q4
      · refine CallK.pure hcl ?_
        intro u hu
        simp [hu.un, hu.known, hu.cellsL, hs]
        refine ⟨?_, ?_, ?_⟩
        all_goals
          refine CallK.of (ins u hu) ?_
          rintro v' H2 ⟨q1, q2, q3, q4⟩
          simp [q1, q2, q3]
          simpa using q4
    · simp [hn0, h40, immB]
      refine ⟨by omega, fun _ => ?_⟩
      refine CallK.of (k_find hS' name hm (by omega)) ?_
      rintro _ H' ⟨rfl, rfl⟩
      rw [hf]
      have hnone : cs[A.length * 2 + 1]? = none := List.getElem?_eq_none (by omega)
      simp [hs, hb', hnone]
      refine ⟨.int .i64 0, ?_⟩
      simp [hs]
      refine ⟨?_, ?_⟩
      · refine CallK.pure hcl ?_
        intro u hu
        simp [hu.un, hu.known, hu.cellsL, hs]
        refine CallK.of (ins u hu) ?_
        rintro v' H2 ⟨q1, q2, q3, q4⟩
        simp [q1, q2, q3]
        simpa using q4
      · refine CallK.pure hcl ?_
        intro u hu
        simp [hu.un, hu.known, hu.cellsL, hs]
        refine ⟨?_, ?_, ?_⟩
        all_goals
          refine CallK.of (ins u hu) ?_
          rintro v' H2 ⟨q1, q2, q3, q4⟩
          simp [q1, q2, q3]
          simpa using q4
end Go.Proofs.YtcpfodhhjkaibaaGreat
