/- DiskSynced. -/
import Derived.Test.YtffifddlooligaaM6
set_option linter.unusedVariables false
set_option linter.unusedSimpArgs false
set_option maxRecDepth 100000
set_option maxHeartbeats 8000000
namespace Go.Proofs.Ytffifddlooligaa
open Go.Sf
attribute [local simp] s_skip s_ops s_draw s_any s_contA s_tdone s_ttwo s_top_p s_top_pick s_top_e s_top_g s_seq s_cond s_block s_loop s_exit s_ret s_mark s_then_n s_then_e s_then_r s_in_n s_in_e s_in_r s_contC s_contO s_contQ s_contT s_nil s_cons_p s_cons_pick s_cons_e s_cons_g s_qnil s_qcons_p s_qcons_pick s_qcons_e s_qcons_g s_M s_Mg s_Mq s_Mqg s_G_p s_G_pick s_G_e s_Gq_p s_Gq_pick s_Gq_e s_if s_call s_callv s_qcall s_qcallv s_getAll_nil s_getAll_cons s_put_some s_put_none s_ev_t s_ev_c s_ev_f un evP evK argT resAV lenOf_nils lenOf_imm lenOf_sl lenOf_str optI slcV binV isShift binInt binStr shiftInt pickV unV s_append s_alloc s_box s_bslice s_Bs_t s_Bs_f s_store1 s_storeN s_St1 s_St s_s2b s_markb s_Mk s_mkslice s_qbslice s_qs2b s_ret_n s_ret_r s_retc_n s_retc_r s_RV_nil s_RV_t s_RV_c s_RV1 tupOf fillC kn_int cl_int on_int kn_bool cl_bool on_bool kn_str cl_str on_str kn_nilp cl_nilp on_nilp kn_ptr cl_ptr on_ptr kn_iptr cl_iptr on_iptr kn_nils cl_nils on_nils kn_sl cl_sl on_sl kn_imm cl_imm on_imm kn_mp cl_mp on_mp kn_nilm cl_nilm on_nilm kn_fn cl_fn on_fn kn_nilf cl_nilf on_nilf kn_agg cl_agg scalEq flatEq eqV s_copy_i s_copy_s s_Cp s_clr s_clrn s_Cl s_appz s_Az s_ext s_Ov s_mapB s_mapBS s_rng s_rngn s_Rn s_nxt s_Nx0 s_ent s_mkmap s_mset s_mdel mapOf s_Mg_n s_Mqg_n s_gw_b s_gw_u s_gw_gb s_gw_f
def I_s1 (d f k0 : Nat) (os bs : List OpT) (kept : Int) (k : Nat) (T : Nat → AV) (H : Heap) : Prop :=
  ∃ (i : Nat) (F A : FileL) (av : AV), i + k = 15 ∧ i ≤ os.length ∧ T 0 = .imm (os.flatMap opCs) os.length none ∧ T 1 = .imm (bs.flatMap opCs) bs.length none ∧ T 2 = .int .i64 kept ∧ T 8 = .ptr d 0 ∧ T 9 = .int .i64 i ∧ Aps F A i ∧ DiskQ H d f k0 av F [] A
def I_s2 (d m : Nat) (bs : List OpT) (kept : Int) (F : FileL) (ss : List ByteArray) (H0 : Heap) (k : Nat) (T : Nat → AV) (H : Heap) : Prop :=
  ∃ (j : Nat), j + k = ss.length ∧ T 1 = .imm (bs.flatMap opCs) bs.length none ∧ T 2 = .int .i64 kept ∧ T 8 = .ptr d 0 ∧ T 10 = .mp m ∧ T 65 = .imm (ss.map .str) ss.length none ∧ T 66 = .int .i64 ss.length ∧ T 67 = .int .i64 j ∧
    H = H0.set m (some (.map (wasE F (ss.take j))))
def I_s3 (d f k2 m : Nat) (bs : List OpT) (kept : Int) (F1 : FileL) (ss : List ByteArray) (k : Nat) (T : Nat → AV) (H : Heap) : Prop :=
  ∃ (i : Nat) (A : FileL) (av : AV), i + k = 15 ∧ i ≤ bs.length ∧ T 1 = .imm (bs.flatMap opCs) bs.length none ∧ T 2 = .int .i64 kept ∧ T 8 = .ptr d 0 ∧ T 10 = .mp m ∧ T 15 = .int .i64 i ∧ Aps (apps A F1) A (15 + i) ∧ DiskQ H d f k2 av (apps A F1) F1 A ∧
    H m = some (.map (wasE F1 ss)) ∧ m ≠ d ∧ m ≠ f ∧ blkOf av ≠ some m
def I_s5 (d d' bi m clock : Nat) (sq : List Nat) (H0 : Heap) (k : Nat) (T : Nat → AV) (H : Heap) : Prop :=
  ∃ (seen : Array Nat), k + seen.size = sq.length ∧ T 8 = .ptr d 0 ∧ T 16 = .ptr d' 0 ∧ T 116 = .ptr bi 0 ∧ seen.toList.Nodup ∧ (∀ y ∈ seen.toList, y ∈ sq) ∧ H = H0.set bi (some (.raw (.mapIter (some m) clock seen clock)))
def I_s6 (d d' : Nat) (ss : List ByteArray) (H0 : Heap) (k : Nat) (T : Nat → AV) (H : Heap) : Prop :=
  ∃ (j : Nat), j + k = ss.length ∧ T 8 = .ptr d 0 ∧ T 16 = .ptr d' 0 ∧ T 147 = .imm (ss.map .str) ss.length none ∧ T 148 = .int .i64 ss.length ∧ T 149 = .int .i64 j ∧ H = H0
theorem p_DiskSynced (os : List OpT) (has : os.length < 2 ^ 63) (ha : ∀ o ∈ os, okO o) (bs : List OpT) (hbs : bs.length < 2 ^ 63) (hb : ∀ o ∈ bs, okO o) (kept : Int) (hk0 : IntKind.i64.min ≤ kept) (hk1 : kept ≤ IntKind.i64.max) :
    CP PP F_Rlaw1_DiskSynced [.imm (os.flatMap opCs) os.length none, .imm (bs.flatMap opCs) bs.length none, .int .i64 kept] (fun v => v = .bool true) := by
  have hk0' : -9223372036854775808 ≤ kept := hk0
  have hk1' : kept ≤ 9223372036854775807 := hk1
  refine CP.by_vc ok_Rlaw1_DiskSynced (by simp) ?_
  unfold c_Rlaw1_DiskSynced
  simp
  refine CallK.pure p_begun ?_
  rintro _ rfl
  simp
  refine CallK.of k_diskNew ?_
  rintro v H1 ⟨d, f, k0, rfl, hD1, n1, n2, n3, o1⟩
  simp
  refine LoopV.mk2 (I_s1 d f k0 os bs kept) 15 ⟨0, [], [], .nils, by omega, by omega, by simp, by simp, by simp, by simp, by simp, ⟨List.Pairwise.nil, by simp, by simp [totL], by simp [totL], by simp, by simp⟩, hD1⟩ ?_
  clear hD1 n1 n2 n3 o1
  rintro k T H ⟨i, F, A, av, hik, hio, t0, t1, t2, t8, t9, hAp, hD⟩
  by_cases hin : i < os.length ∧ i < 15
  · obtain ⟨hi, hi15⟩ := hin
    have hoi : os[i]? = some os[i] := by simp [hi]
    obtain ⟨g0, g1, g2⟩ := ops_get hoi
    have hok := ha os[i] (by simp)
    generalize os[i] = o at *
    generalize hcells : os.flatMap opCs = cells at *
    have hi15' : (i : Int) < 15 := by omega
    have back : ∀ (T' : Nat → AV) (H' : Heap) (F' A' : FileL) (av' : AV), T' 0 = T 0 → T' 1 = T 1 → T' 2 = T 2 → T' 8 = T 8 → T' 9 = .int .i64 (i + 1 : Nat) → Aps F' A' (i + 1) → DiskQ H' d f k0 av' F' [] A' → Again2 (I_s1 d f k0 os bs kept) k ⟨T', H'⟩ := fun T' H' F' A' av' q0 q1 q2 q8 q9 qa qd =>
      Again2.mk (k - 1) (by omega) ⟨i + 1, F', A', av', by omega, by omega, by rw [q0, hcells]; exact t0, by rw [q1]; exact t1, by rw [q2]; exact t2, by rw [q8]; exact t8, q9, qa, qd⟩
    obtain ⟨_, hos1, hos2, _, _⟩ := hok
    by_cases hkd : o.k = 0
    · simp [t0, t1, t2, t8, t9, hi, hi15', g0, g1, g2, hkd]
      refine CallQ.of (p_cut o.name 40 (by omega) (Nat.lt_of_le_of_lt hos1 (by decide))) ?_
      simp [immB, t0, t1, t9, hi, g2]
      refine CallQ.of (CP.imm (p_short (a := immB o.b none) (.inr ⟨none, rfl⟩) 40 (by omega) hos2)) ?_
      have hl40 : (o.b.take 40).length ≤ 40 := by simp; omega
      have hn40 : (o.name.extract 0 40).size ≤ 40 := by rw [ByteArray.size_extract]; omega
      generalize o.b.take 40 = l at *
      generalize o.name.extract 0 40 = n at *
      simp [immB]
      by_cases hn0 : n = ⟨#[]⟩
      · subst hn0
        refine CallK.of (k_appendE hD (b := .imm (bytesV l) l.length none) (.inr ⟨none, rfl⟩)) ?_
        rintro v H5 ⟨rfl, rfl⟩
        simp [t9]
        refine back _ _ F A av (by simp) (by simp) (by simp) (by simp) ?_ hAp.more hD
        simp; rw [wrap_i64 (by omega) (by omega)]
      · have hfg := fget_le n F
        have htF := hAp.tF
        have hlA := hAp.lA
        refine CallK.of (k_diskAppend hD (name := n) (b := .imm (bytesV l) l.length none) (l := l) (.inr ⟨none, rfl⟩) hn0 hn40 (by omega) (by omega)) ?_
        rintro _ H5 ⟨rfl, av5, hD5, n5, o5⟩
        simp [t9]
        refine back _ _ _ _ av5 (by simp) (by simp) (by simp) (by simp) ?_ (hAp.step hn40 hl40) hD5
        simp; rw [wrap_i64 (by omega) (by omega)]
    · simp [t0, t1, t2, t8, t9, hi, hi15', g0, hkd]
      refine back _ _ F A av (by simp) (by simp) (by simp) (by simp) ?_ hAp.more hD
      simp; rw [wrap_i64 (by omega) (by omega)]
  · refine (have tail : ∀ (T : Nat → AV), T 1 = .imm (bs.flatMap opCs) bs.length none → T 2 = .int .i64 kept → T 8 = .ptr d 0 → CallK PP F_disk_Disk_Sync [.ptr d 0] T H (some 62) ?Q := ?tl
      ?main)
    case main =>
      by_cases hi : i < os.length
      · have hi15 : ¬ (i : Int) < 15 := by omega
        simp [t0, t1, t2, t8, t9, hi, hi15]
        refine tail _ ?_ ?_ ?_ <;> simp [t1, t2, t8]
      · simp [t0, t1, t2, t8, t9, hi]
        refine tail _ ?_ ?_ ?_ <;> simp [t1, t2, t8]
    case tl =>
    have hi15 : i ≤ 15 := by omega
    clear t0 t1 t2 t8 t9 hik hio hin T
    intro T t1 t2 t8
    refine CallK.of (k_diskSync hD) ?_
    rintro v H2 ⟨k2, hk2, hD2, o2⟩
    have hAp1 : Aps F [] 15 := ⟨hAp.nd, hAp.sz, by have := hAp.tF; omega, by simp [totL], by have := hAp.lF; omega, by simp⟩
    clear hD hAp o2 hk2
    simp [t1, t2, t8]
    intro m hm
    have hD3 := diskQ_mono hD2 (H' := H2.set m (some (.map []))) (fun x hx => Heap.set_ne _ _ (fun h => hx (by rw [h]; exact hm)))
    have hd2 := k_diskNone hD2
    have hmd : m ≠ d := fun h => by rw [h, hd2] at hm; cases hm
    have hmk2 : m ≠ k2 := fun h => diskQ_live hD2 (.inr (.inr (.inl h))) hm
    have hmf : m ≠ f := fun h => diskQ_live hD2 (.inr (.inl h)) hm
    clear hd2
    simp [t8]
    have hsz40 : ∀ p ∈ F, p.1.size ≤ maxLen := fun p hp => Nat.le_trans (hAp1.sz p hp) (by decide)
    have hFl := hAp1.lF
    refine CallK.of (k_listI hD3 hsz40 (by omega)) ?_
    rintro v H5 ⟨rfl, rfl⟩
    have hmem : ∀ n, n ∈ sortS (F.map (·.1)) ↔ n ∈ F.map (·.1) := fun n => (sortS_perm _).mem_iff
    have hnd : (sortS (F.map (·.1))).Nodup := (sortS_perm _).nodup_iff.2 hAp1.nd
    have hns : (sortS (F.map (·.1))).length = F.length := by unfold sortS; simp
    generalize sortS (F.map (·.1)) = ss at *
    simp [t1, t2, t8]
    refine LoopV.mk2 (I_s2 d m bs kept F ss H2) ss.length ⟨0, by omega, by simp [t1], by simp [t2], by simp [t8], by simp, by simp, by simp, by simp, by simp [wasE]⟩ ?_
    clear t1 t2 t8 T hD3
    rintro k T H ⟨j, hjk, t1, t2, t8, t10, t65, t66, t67, rfl⟩
    have hD3 := diskQ_mono hD2 (H' := H2.set m (some (.map (wasE F (ss.take j))))) (fun x hx => Heap.set_ne _ _ (fun h => hx (by rw [h]; exact hm)))
    by_cases hk00 : k = 0
    rotate_left
    · have hj : j < ss.length := by omega
      have hsj : (ss.map AV.str)[j]? = some (.str ss[j]) := by simp [hj]
      have hsn : ss[j]? = some ss[j] := by simp [hj]
      obtain ⟨n, hn⟩ : ∃ n, ss[j] = n := ⟨_, rfl⟩
      have hmn := (hmem n).1 (by rw [← hn]; exact List.getElem_mem hj)
      rw [hn] at hsj hsn
      have hfl := fget_le n F
      have htF := hAp1.tF
      have hfo : findI .s (.str n) (wasE F (ss.take j)) = some none := wasE_out (fun h => by
        have h2 : (ss.take j ++ ss.drop j).Nodup := by rw [List.take_append_drop]; exact hnd
        rw [List.nodup_append] at h2
        refine h2.2.2 n h n ?_ rfl
        rw [List.drop_eq_getElem_cons hj, hn]; simp)
      have hstep : wasE F (ss.take (j + 1)) = wasE F (ss.take j) ++ [(.str n, .str ⟨(fget n F).toArray⟩)] := by
        unfold wasE; rw [List.take_add_one, hsn]; simp
      simp [t1, t2, t8, t10, t65, t66, t67, hj, hn]
      refine CallK.of (k_readI hD3 n hmn (by omega)) ?_
      rintro v H6 ⟨rfl, rfl⟩
      simp [immB, t10, Heap.set_self, cellsOf_imm, bytesV_length, bytesV_toBytes]
      rw [s_Mset hfo]
      simp [t67, Heap.set_set, msetV]
      refine Again2.mk (k - 1) (by omega) ⟨j + 1, by omega, by simp [t1], by simp [t2], by simp [t8], by simp [t10], by simp [t65], by simp [t66], ?_, by rw [hstep]⟩
      simp; rw [wrap_i64 (by omega) (by omega)]
    · subst hk00
      obtain rfl : j = ss.length := by omega
      rw [List.take_length] at *
      have hMm : (H2.set m (some (.map (wasE F ss)))) m = some (.map (wasE F ss)) := Heap.set_self _ _ _
      simp [t1, t2, t8, t10, t66, t67]
      refine LoopV.mk2 (I_s3 d f k2 m bs kept F ss) 15 ⟨0, [], .nils, by omega, by omega, by simp [t1], by simp [t2], by simp [t8], by simp [t10], by simp, hAp1, hD3, hMm, hmd, hmf, by simp [blkOf]⟩ ?_
      clear t1 t2 t8 t10 t65 t66 t67 T hD3 hMm hD2 hm
      rintro k T H ⟨i, A, av, hik, hio, t1, t2, t8, t10, t15, hAp, hD, hMm, hmd, hmf, hma⟩
      by_cases hin : i < bs.length ∧ i < 15
      · obtain ⟨hi, hi15⟩ := hin
        have hoi : bs[i]? = some bs[i] := by simp [hi]
        obtain ⟨g0, g1, g2⟩ := ops_get hoi
        have hok := hb bs[i] (by simp)
        generalize bs[i] = o at *
        generalize hcells : bs.flatMap opCs = cells at *
        have hi15' : (i : Int) < 15 := by omega
        have back : ∀ (T' : Nat → AV) (H' : Heap) (A' : FileL) (av' : AV), T' 1 = T 1 → T' 2 = T 2 → T' 8 = T 8 → T' 10 = T 10 → T' 15 = .int .i64 (i + 1 : Nat) → Aps (apps A' F) A' (15 + (i + 1)) → DiskQ H' d f k2 av' (apps A' F) F A' → H' m = some (.map (wasE F ss)) → blkOf av' ≠ some m → Again2 (I_s3 d f k2 m bs kept F ss) k ⟨T', H'⟩ := fun T' H' A' av' q1 q2 q8 q10 q15 qa qd qm qb =>
          Again2.mk (k - 1) (by omega) ⟨i + 1, A', av', by omega, by omega, by rw [q1, hcells]; exact t1, by rw [q2]; exact t2, by rw [q8]; exact t8, by rw [q10]; exact t10, q15, qa, qd, qm, hmd, hmf, qb⟩
        obtain ⟨_, hos1, hos2, _, _⟩ := hok
        by_cases hkd : o.k = 0
        · simp [t1, t2, t8, t10, t15, hi, hi15', g0, g1, g2, hkd]
          refine CallQ.of (p_cut o.name 40 (by omega) (Nat.lt_of_le_of_lt hos1 (by decide))) ?_
          simp [immB, t1, t15, hi, g2]
          refine CallQ.of (CP.imm (p_short (a := immB o.b none) (.inr ⟨none, rfl⟩) 40 (by omega) hos2)) ?_
          have hl40 : (o.b.take 40).length ≤ 40 := by simp; omega
          have hn40 : (o.name.extract 0 40).size ≤ 40 := by rw [ByteArray.size_extract]; omega
          generalize o.b.take 40 = l at *
          generalize o.name.extract 0 40 = n at *
          simp [immB]
          by_cases hn0 : n = ⟨#[]⟩
          · subst hn0
            refine CallK.of (k_appendE hD (b := .imm (bytesV l) l.length none) (.inr ⟨none, rfl⟩)) ?_
            rintro v H5 ⟨rfl, rfl⟩
            simp [t15]
            refine back _ _ A av (by simp) (by simp) (by simp) (by simp) ?_ hAp.more hD hMm hma
            simp; rw [wrap_i64 (by omega) (by omega)]
          · have hfg := fget_le n (apps A F)
            have htF := hAp.tF
            have hlA := hAp.lA
            refine CallK.of (k_diskAppend hD (name := n) (b := .imm (bytesV l) l.length none) (l := l) (.inr ⟨none, rfl⟩) hn0 hn40 (by omega) (by omega)) ?_
            rintro _ H5 ⟨rfl, av5, hD5, n5, o5⟩
            have hst := hAp.step hn40 hl40
            have eap := apps_snoc A F (n, l)
            simp only at eap
            rw [← eap] at hD5 hst
            simp [t15]
            refine back _ _ _ av5 (by simp) (by simp) (by simp) (by simp) ?_ hst hD5 (by rw [o5 m hmd hmf hma (by rw [hMm]; simp), hMm]) (fun h => ?_)
            · simp; rw [wrap_i64 (by omega) (by omega)]
            · rcases n5 with h1 | h1
              · exact hma (by rw [← h1]; exact h)
              · have := h1 m h; rw [hMm] at this; cases this
        · simp [t1, t2, t8, t10, t15, hi, hi15', g0, hkd]
          refine back _ _ A av (by simp) (by simp) (by simp) (by simp) ?_ hAp.more hD hMm hma
          simp; rw [wrap_i64 (by omega) (by omega)]
      · refine (have tail : ∀ (T : Nat → AV), T 2 = .int .i64 kept → T 8 = .ptr d 0 → T 10 = .mp m → CallK PP F_disk_Disk_Crash [.ptr d 0, .int .i64 kept, .int .i64 (-1)] T H (some 114) ?Q2 := ?tl2
          ?main2)
        case main2 =>
          by_cases hi : i < bs.length
          · have hi15 : ¬ (i : Int) < 15 := by omega
            simp [t1, t2, t8, t10, t15, hi, hi15]
            refine tail _ ?_ ?_ ?_ <;> simp [t2, t8, t10]
          · simp [t1, t2, t8, t10, t15, hi]
            refine tail _ ?_ ?_ ?_ <;> simp [t2, t8, t10]
        case tl2 =>
        have hi15 : i ≤ 15 := by omega
        clear t1 t2 t8 t10 t15 hik hio hin T
        intro T t2 t8 t10
        have htF := hAp.tF
        have htA := hAp.tA
        have hlF := hAp.lF
        have hlA := hAp.lA
        have hEL := left_ext A kept.toNat F
        have hLE := ext_left A kept.toNat F
        have htL := left_tot A kept.toNat F
        have hlL := left_len A kept.toNat F
        have htF1 := hAp1.tF
        have hszL : ∀ p ∈ leftF kept.toNat A F, p.1.size ≤ maxLen := fun p hp => by
          have h := (hEL p.1 (List.mem_map_of_mem hp)).1
          obtain ⟨q, hq, e⟩ := List.mem_map.1 h
          rw [← e]; exact Nat.le_trans (hAp.sz q hq) (by decide)
        refine CallK.of (k_diskCrashW hD kept (-1) (by omega) (by omega) (by omega) (by omega) (by omega) (by omega) hszL (by omega) (by omega)) ?_
        rintro v H3 ⟨d', f', k', L', rfl, nd', nf', nk', hL', hD3, o3⟩
        rw [turnG_none (by omega)] at hL'
        have hD4 := diskQ_mono hD o3
        have hM3 : H3 m = some (.map (wasE F ss)) := by rw [o3 m (by rw [hMm]; simp)]; exact hMm
        rw [← hL'] at hEL hLE htL hlL hszL
        simp [t10, hM3]
        intro bi sq clock hbi hsl hsd hsc
        have hwl : (wasE F ss).length = ss.length := by simp [wasE]
        rw [hwl] at hsl
        have hmd' : m ≠ d' := fun h => by rw [h, nd'] at hMm; cases hMm
        have hmf' : m ≠ f' := fun h => by rw [h, nf'] at hMm; cases hMm
        have hmk' : m ≠ k' := fun h => by rw [h, nk'] at hMm; cases hMm
        have hbm : bi ≠ m := fun h => by rw [h, hM3] at hbi; cases hbi
        have hD5 : DiskQ (H3.set m (some (.mapS (wasE F ss) sq clock))) d f k2 av (apps A F) F A := diskQ_keep hD4 fun x hx _ => Heap.set_ne _ _ (fun h => by
          rcases hx with rfl | rfl | rfl | hx
          · exact hmd h.symm
          · exact hmf h.symm
          · exact hmk2 h.symm
          · exact hma (by rw [← h]; exact hx))
        have hD6 : DiskQ (H3.set m (some (.mapS (wasE F ss) sq clock))) d' f' k' .nils L' L' [] := diskQ_keep hD3 fun x hx _ => Heap.set_ne _ _ (fun h => by
          rcases hx with rfl | rfl | rfl | hx
          · exact hmd' h.symm
          · exact hmf' h.symm
          · exact hmk' h.symm
          · cases hx)
        have hM5 : (H3.set m (some (.mapS (wasE F ss) sq clock))) m = some (.mapS (wasE F ss) sq clock) := Heap.set_self _ _ _
        have hbi5 : (H3.set m (some (.mapS (wasE F ss) sq clock))) bi = none := by rw [Heap.set_ne _ _ hbm]; exact hbi
        generalize H3.set m (some (.mapS (wasE F ss) sq clock)) = H5 at *
        have put5 : ∀ y, ∀ x, H5 x ≠ none → (H5.set bi y) x = H5 x := fun y x hx => Heap.set_ne _ _ (fun h => hx (by rw [h]; exact hbi5))
        refine LoopV.mk2 (I_s5 d d' bi m clock sq H5) ss.length ⟨#[], by simp; omega, by simp [t8], by simp, by simp, by simp, by simp, rfl⟩ ?_
        clear t2 t8 t10 T
        rintro k T H ⟨seen, hks, t8, t16, t116, hsn, hsq, rfl⟩
        have hDa := diskQ_mono hD5 (put5 (some (.raw (.mapIter (some m) clock seen clock))))
        have hDb := diskQ_mono hD6 (put5 (some (.raw (.mapIter (some m) clock seen clock))))
        have hM7 : (H5.set bi (some (.raw (.mapIter (some m) clock seen clock)))) m = some (.mapS (wasE F ss) sq clock) := by rw [Heap.set_ne _ _ (fun h => hbm h.symm)]; exact hM5
        simp [t116]
        refine Nx.mk (Heap.set_self _ _ _) hM7 (fun _ => ?_) (fun j e x he hx hxs => ?_)
        · clear hM7 hks hsn hsq
          generalize H5.set bi (some (.raw (.mapIter (some m) clock seen clock))) = H8 at *
          simp [t16]
          refine CallK.of (k_listI hDb hszL (by omega)) ?_
          rintro v H9 ⟨rfl, rfl⟩
          have hmem2 : ∀ n, n ∈ sortS (L'.map (·.1)) ↔ n ∈ L'.map (·.1) := fun n => (sortS_perm _).mem_iff
          have hns2 : (sortS (L'.map (·.1))).length = L'.length := by unfold sortS; simp
          generalize sortS (L'.map (·.1)) = ss2 at *
          simp [t16]
          refine LoopV.mk2 (I_s6 d d' ss2 H9) ss2.length ⟨0, by omega, by simp [t8], by simp [t16], by simp, by simp, by simp, rfl⟩ ?_
          clear t8 t16 t116 T
          rintro k T H ⟨j, hjk, t8, t16, t147, t148, t149, rfl⟩
          by_cases hkz : k = 0
          · subst hkz
            obtain rfl : j = ss2.length := by omega
            simp [t8, t16, t147, t148, t149]
            have hEL2 := left_ext A (1073741824 : Int).toNat F
            have htL2 := left_tot A (1073741824 : Int).toNat F
            have hlL2 := left_len A (1073741824 : Int).toNat F
            have hsz2 : ∀ p ∈ leftF (1073741824 : Int).toNat A F, p.1.size ≤ maxLen := fun p hp => by
              have h := (hEL2 p.1 (List.mem_map_of_mem hp)).1
              obtain ⟨q, hq, e⟩ := List.mem_map.1 h
              rw [← e]; exact Nat.le_trans (hAp.sz q hq) (by decide)
            refine CallK.of (k_diskCrashW hDa 1073741824 (-1) (by omega) (by omega) (by omega) (by omega) (by omega) (by omega) hsz2 (by omega) (by omega)) ?_
            rintro v HA ⟨d9, f9, k9, L9, rfl, _, _, _, hL9, hD9, o9⟩
            have hDb9 := diskQ_mono hDb o9
            simp
            refine CallK.of (k_loose0 hD9) ?_
            rintro v HB ⟨rfl, rfl⟩
            simp [t16]
            refine CallK.of (k_loose0 hDb9) ?_
            rintro v HC ⟨rfl, rfl⟩
            simp
          · have hj : j < ss2.length := by omega
            obtain ⟨n, hn⟩ : ∃ n, ss2[j] = n := ⟨_, rfl⟩
            have hnL := (hmem2 n).1 (by rw [← hn]; exact List.getElem_mem hj)
            obtain ⟨hnF, hpre⟩ := hEL n hnL
            have hf1 := fget_le n L'
            have hf2 := fget_le n (apps A F)
            simp [t8, t16, t147, t148, t149, hj, hn]
            refine CallK.of (k_readI hDb n hnL (by omega)) ?_
            rintro v H10 ⟨rfl, rfl⟩
            simp [t8, immB]
            refine CallK.of (k_readI hDa n hnF (by omega)) ?_
            rintro v H10 ⟨rfl, rfl⟩
            have hpl := hpre.length_le
            have hpt : (fget n (apps A F)).take (fget n L').length = fget n L' := by
              obtain ⟨r, hr⟩ := hpre
              rw [← hr]; simp
            generalize fget n L' = X at *
            generalize fget n (apps A F) = Y at *
            have hcl : List.take X.length (bytesV Y) = bytesV X := by unfold bytesV; rw [← List.map_take, hpt]
            have hnl : ¬ Y.length < X.length := by omega
            simp [immB, hcl, hnl, hpl, bytesV_length]
            refine CallK.pure (p_same (a := .imm (bytesV X) X.length none) (b := .imm (bytesV X) X.length none) (.inr ⟨none, rfl⟩) (.inr ⟨none, rfl⟩)) ?_
            rintro _ rfl
            simp [t149]
            refine Again2.mk (k - 1) (by omega) ⟨j + 1, by omega, by simp [t8], by simp [t16], by simp [t147], by simp [t148], ?_, rfl⟩
            simp; rw [wrap_i64 (by omega) (by omega)]
        · obtain ⟨n, hn, rfl⟩ : ∃ n, ss[j]? = some n ∧ e = (.str n, .str ⟨(fget n F).toArray⟩) := by
            unfold wasE at he
            rw [List.getElem?_map] at he
            cases hsn : ss[j]? with
            | none => rw [hsn] at he; cases he
            | some n => rw [hsn] at he; cases he; exact ⟨n, rfl, rfl⟩
          have hmn := (hmem n).1 (List.mem_of_getElem? hn)
          obtain ⟨hnL, hpre⟩ := hLE n hmn
          have hsn' : (seen.push x).toList.Nodup := by
            rw [Array.toList_push, List.nodup_append]
            exact ⟨hsn, by simp, fun a ha b hb e => by simp at hb; subst hb; subst e; exact hxs ha⟩
          have hsq' : ∀ y ∈ (seen.push x).toList, y ∈ sq := fun y hy => by
            rw [Array.toList_push, List.mem_append] at hy
            rcases hy with hy | hy
            · exact hsq y hy
            · simp at hy; subst hy; exact List.mem_of_getElem? hx
          have hcnt := nodup_le hsn' hsq'
          have hDc := diskQ_mono hD6 (put5 (some (.raw (.mapIter (some m) clock (seen.push x) clock))))
          have hM8 : (H5.set bi (some (.raw (.mapIter (some m) clock (seen.push x) clock)))) m = some (.mapS (wasE F ss) sq clock) := by rw [Heap.set_ne _ _ (fun h => hbm h.symm)]; exact hM5
          simp [Heap.set_set, t116]
          refine En.mk (Heap.set_self _ _ _) hM8 hx he ?_
          have hflL := fget_le n L'
          simp [t16]
          refine CallK.of (k_readI hDc n hnL (by omega)) ?_
          rintro v H6 ⟨rfl, rfl⟩
          have hpl := hpre.length_le
          have hpt : (fget n L').take (fget n F).length = fget n F := by
            obtain ⟨r, hr⟩ := hpre
            rw [← hr]; simp
          generalize fget n L' = X at *
          generalize fget n F = W at *
          have hsz : (({ data := W.toArray } : ByteArray)).size = W.length := by simp [ByteArray.size]
          have hcl : ∀ H, cellsOf H 1 (.imm (List.take W.length (bytesV X)) W.length none) = some (bytesV W) := fun H => by
            have e : List.take W.length (bytesV X) = bytesV W := by unfold bytesV; rw [← List.map_take, hpt]
            rw [e]; exact (IsB.imm W none).cells _
          have hnl : ¬ X.length < W.length := by omega
          have hnl2 : W.length ≤ X.length := by omega
          simp [immB, hsz, hcl, hnl, hnl2, bytesV_length, bytesV_toBytes]
          exact Again2.mk (k - 1) (by simp at hcnt; omega) ⟨seen.push x, by simp at hcnt ⊢; omega, by simp [t8], by simp [t16], by simp [t116], hsn', hsq', rfl⟩
end Go.Proofs.Ytffifddlooligaa
