/- DiskTurned. -/
import Derived.Test.YtffifddlooligaaM4
import Derived.Test.YtffifddlooligaaLQ
import Derived.Test.YtffifddlooligaaC7
set_option linter.unusedVariables false
set_option linter.unusedSimpArgs false
set_option maxRecDepth 100000
set_option maxHeartbeats 4000000
namespace Go.Proofs.Ytffifddlooligaa
open Go.Sf
attribute [local simp] s_skip s_ops s_draw s_any s_contA s_tdone s_ttwo s_top_p s_top_pick s_top_e s_top_g s_seq s_cond s_block s_loop s_exit s_ret s_mark s_then_n s_then_e s_then_r s_in_n s_in_e s_in_r s_contC s_contO s_contQ s_contT s_nil s_cons_p s_cons_pick s_cons_e s_cons_g s_qnil s_qcons_p s_qcons_pick s_qcons_e s_qcons_g s_M s_Mg s_Mq s_Mqg s_G_p s_G_pick s_G_e s_Gq_p s_Gq_pick s_Gq_e s_if s_call s_callv s_qcall s_qcallv s_getAll_nil s_getAll_cons s_put_some s_put_none s_ev_t s_ev_c s_ev_f un evP evK argT resAV lenOf_nils lenOf_imm lenOf_sl lenOf_str optI slcV binV isShift binInt binStr shiftInt pickV unV s_append s_alloc s_box s_bslice s_Bs_t s_Bs_f s_store1 s_storeN s_St1 s_St s_s2b s_markb s_Mk s_mkslice s_qbslice s_qs2b s_ret_n s_ret_r s_retc_n s_retc_r s_RV_nil s_RV_t s_RV_c s_RV1 tupOf fillC kn_int cl_int on_int kn_bool cl_bool on_bool kn_str cl_str on_str kn_nilp cl_nilp on_nilp kn_ptr cl_ptr on_ptr kn_iptr cl_iptr on_iptr kn_nils cl_nils on_nils kn_sl cl_sl on_sl kn_imm cl_imm on_imm kn_mp cl_mp on_mp kn_nilm cl_nilm on_nilm kn_fn cl_fn on_fn kn_nilf cl_nilf on_nilf kn_agg cl_agg scalEq flatEq eqV s_copy_i s_copy_s s_Cp s_clr s_clrn s_Cl s_appz s_Az s_ext s_Ov s_mapB s_mapBS s_rng s_rngn s_Rn s_nxt s_Nx0 s_ent s_mkmap s_mset s_mdel mapOf s_Mg_n s_Mqg_n s_gw_b s_gw_u s_gw_gb s_gw_f
theorem CC.val {P : Program} {f : FuncId} {args : List AV} {H : Heap} {Q Q' : AV → Heap → Prop} (h : CC P f args H Q) (k : ∀ v H', Q v H' → ∃ v', (∀ M x, VRel M v x → VRel M v' x) ∧ Q' v' H') : CC P f args H Q' :=
  fun M w vs h1 h2 => (h M w vs h1 h2).mono fun e w' ⟨v, x, M', H', e1, e2, e3, e4, e5⟩ => by
    obtain ⟨v', k1, k2⟩ := k v H' e5
    exact ⟨v', x, M', H', e1, k1 _ _ e2, e3, e4, k2⟩
theorem tup_imm {M : Mem} {u e : AV} {l : List UInt8} (hu : IsB u l) {x : Value} (h : VRel M (.tup [u, e]) x) : VRel M (.tup [immB l none, e]) x := by
  simp only [VRel] at h ⊢
  obtain ⟨xs, rfl, h⟩ := h
  refine ⟨xs, rfl, ?_⟩
  generalize xs.toList = q at *
  simp only [VRels] at h ⊢
  obtain ⟨y, q', rfl, h1, h2⟩ := h
  exact ⟨y, q', rfl, isB_imm hu h1, h2⟩
theorem strs_imm {M : Mem} {u : AV} {l : List ByteArray} (hu : IsS u l) {x : Value} (h : VRel M u x) : VRel M (.imm (l.map .str) l.length none) x := by
  rcases hu with ⟨rfl, rfl⟩ | ⟨c, rfl⟩
  · have := nil_imm h
    simpa [immB, bytesV] using this
  · exact imm_none h
theorem k_readI {H : Heap} {d f k : Nat} {av : AV} {F K A : FileL} (hD : DiskQ H d f k av F K A) (name : ByteArray) (hm : name ∈ F.map (·.1)) (hl : (fget name F).length ≤ 2 ^ 40) :
    CC PP F_disk_Disk_Read [.ptr d 0, .str name] H fun v H' => H' = H ∧ v = .tup [immB (fget name F) none, .int .i64 0] :=
  CC.val (k_diskRead hD name hl) fun v H' ⟨h1, h2⟩ => by
    have := (fidx_mem name F).2 hm
    cases hf : fidx name F with
    | none => rw [hf] at this; cases this
    | some j =>
      rw [hf] at h2
      obtain ⟨u, rfl, hu⟩ := h2
      exact ⟨_, fun M x h => tup_imm hu h, h1, rfl⟩
theorem k_listI {H : Heap} {d f k : Nat} {av : AV} {F K A : FileL} (hD : DiskQ H d f k av F K A) (hsz : ∀ p ∈ F, p.1.size ≤ maxLen) (hlen : F.length ≤ 2 ^ 40) :
    CC PP F_disk_Disk_List [.ptr d 0] H fun v H' => H' = H ∧ v = .imm ((sortS (F.map (·.1))).map .str) (sortS (F.map (·.1))).length none :=
  CC.val (k_diskList hD hsz hlen) fun v H' ⟨h1, h2⟩ => ⟨_, fun M x h => strs_imm h2 h, h1, rfl⟩
theorem k_appendE {H : Heap} {d f k : Nat} {av : AV} {F K A : FileL} (hD : DiskQ H d f k av F K A) {b : AV} {l : List UInt8} (hb : IsB b l) :
    CC PP F_disk_Disk_Append [.ptr d 0, .str ⟨#[]⟩, b] H fun v H' => H' = H ∧ v = .int .i64 2 := by
  refine CC.by_vc ok_disk_Disk_Append (by simp) ?_
  unfold c_disk_Disk_Append
  simp
theorem ops_at : ∀ {os : List OpT} {i : Nat} {o : OpT}, os[i]? = some o → ((os.flatMap opCs).drop (i * 5)).take 5 = opCs o ∧ i * 5 + 5 ≤ (os.flatMap opCs).length
  | [], i, o, h => by simp at h
  | p :: os, 0, o, h => by
    simp at h; subst h
    simp [opCs]
  | p :: os, i + 1, o, h => by
    obtain ⟨h1, h2⟩ := ops_at (os := os) (i := i) (by simpa using h)
    rw [List.flatMap_cons, show (i + 1) * 5 = 5 + i * 5 by omega, ← List.drop_drop]
    refine ⟨h1, ?_⟩
    rw [List.length_append]
    have : (opCs p).length = 5 := rfl
    omega
theorem ops_get {os : List OpT} {i : Nat} {o : OpT} (h : os[i]? = some o) : (os.flatMap opCs)[i * 5]? = some (.int .i64 o.k) ∧ (os.flatMap opCs)[i * 5 + 1]? = some (.str o.name) ∧ (os.flatMap opCs)[i * 5 + 2]? = some (immB o.b none) := by
  obtain ⟨h1, h2⟩ := ops_at h
  have e : ∀ j, j < 5 → (os.flatMap opCs)[i * 5 + j]? = (opCs o)[j]? := fun j hj => by
    rw [← h1, List.getElem?_take_of_lt hj, List.getElem?_drop]
  exact ⟨e 0 (by omega), e 1 (by omega), e 2 (by omega)⟩
/-- What a run of appends leaves. -/
structure Aps (F A : FileL) (i : Nat) : Prop where
  nd : (F.map (·.1)).Nodup
  sz : ∀ p ∈ F, p.1.size ≤ 40
  tF : totL F ≤ 40 * i
  tA : totL A ≤ 40 * i
  lF : F.length ≤ i
  lA : A.length ≤ i
theorem Aps.step {F A : FileL} {i : Nat} (h : Aps F A i) {n : ByteArray} (hn : n.size ≤ 40) {l : List UInt8} (hl : l.length ≤ 40) : Aps (fapp F n l) (A ++ [(n, l)]) (i + 1) := by
  have hlen : (fapp F n l).length ≤ F.length + 1 := by
    have := congrArg List.length (names_set n (fget n F ++ l) F)
    unfold fapp
    simp only [List.length_map] at this
    rw [this]; split <;> simp
  refine ⟨nodup_set h.nd, ?_, ?_, ?_, ?_, ?_⟩
  · intro p hp
    have hm : p.1 ∈ (fapp F n l).map (·.1) := List.mem_map_of_mem hp
    unfold fapp at hm
    rw [names_set] at hm
    split at hm
    · obtain ⟨q, hq, e⟩ := List.mem_map.1 hm
      rw [← e]; exact h.sz q hq
    · rw [List.mem_append] at hm
      rcases hm with hm | hm
      · obtain ⟨q, hq, e⟩ := List.mem_map.1 hm
        rw [← e]; exact h.sz q hq
      · simp at hm; rw [hm]; exact hn
  · rw [totL_fapp]; have := h.tF; omega
  · rw [totL_append]; have := h.tA; simp [totL]; omega
  · have := h.lF; omega
  · have := h.lA; simp; omega
theorem Aps.more {F A : FileL} {i : Nat} (h : Aps F A i) : Aps F A (i + 1) := ⟨h.nd, h.sz, by have := h.tF; omega, by have := h.tA; omega, by have := h.lF; omega, by have := h.lA; omega⟩
def I_dt1 (d f k0 : Nat) (os : List OpT) (bad : Int) (k : Nat) (T : Nat → AV) (H : Heap) : Prop :=
  ∃ (i : Nat) (F A : FileL) (av : AV), i + k = 15 ∧ i ≤ os.length ∧ T 0 = .imm (os.flatMap opCs) os.length none ∧ T 1 = .int .i64 bad ∧ T 6 = .ptr d 0 ∧ T 7 = .int .i64 i ∧ Aps F A i ∧ DiskQ H d f k0 av F [] A
def cntB (bad : Int) (p : Nat) : Int := if 0 ≤ bad ∧ bad < p then 1 else 0
def trnB (bad : Int) (p : Nat) : Int := if 0 ≤ bad ∧ bad < p then bad else -1
theorem cntB0 (bad : Int) : cntB bad 0 = 0 := if_neg (by omega)
theorem trnB0 (bad : Int) : trnB bad 0 = -1 := if_neg (by omega)
def I_dt2 (d d' : Nat) (bad : Int) (F : FileL) (ss : List ByteArray) (H0 : Heap) (k : Nat) (T : Nat → AV) (H : Heap) : Prop :=
  ∃ (j : Nat), j + k = ss.length ∧ T 1 = .int .i64 bad ∧ T 6 = .ptr d 0 ∧ T 8 = .ptr d' 0 ∧ T 9 = .int .i64 (cntB bad (preL F (ss.take j))) ∧ T 10 = .int .i64 (preL F (ss.take j)) ∧ T 11 = .int .i64 (trnB bad (preL F (ss.take j))) ∧
    T 53 = .imm (ss.map .str) ss.length none ∧ T 54 = .int .i64 ss.length ∧ T 55 = .int .i64 j ∧ H = H0
def I_dt3 (d d' : Nat) (bad : Int) (F : FileL) (ss : List ByteArray) (H0 : Heap) (j : Nat) (X Y : List UInt8) (k : Nat) (T : Nat → AV) (H : Heap) : Prop :=
  ∃ (q : Nat), q + k = X.length ∧ T 1 = .int .i64 bad ∧ T 6 = .ptr d 0 ∧ T 8 = .ptr d' 0 ∧ T 9 = .int .i64 (cntB bad (preL F (ss.take j) + q)) ∧ T 10 = .int .i64 (preL F (ss.take j) + q : Nat) ∧ T 11 = .int .i64 (trnB bad (preL F (ss.take j) + q)) ∧
    T 53 = .imm (ss.map .str) ss.length none ∧ T 54 = .int .i64 ss.length ∧ T 55 = .int .i64 j ∧ T 14 = immB X none ∧ T 16 = immB Y none ∧ T 81 = .int .i64 X.length ∧ T 82 = .int .i64 q ∧ H = H0
theorem p_DiskTurned (os : List OpT) (hos : os.length < 2 ^ 63) (ho : ∀ o ∈ os, okO o) (bad : Int) (hb0 : IntKind.i64.min ≤ bad) (hb1 : bad ≤ IntKind.i64.max) :
    CP PP F_Rlaw1_DiskTurned [.imm (os.flatMap opCs) os.length none, .int .i64 bad] (fun v => v = .bool true) := by
  have hb0' : -9223372036854775808 ≤ bad := hb0
  have hb1' : bad ≤ 9223372036854775807 := hb1
  refine CP.by_vc ok_Rlaw1_DiskTurnedH (by simp) ?_
  unfold c_Rlaw1_DiskTurnedH
  simp
  refine CallK.pure p_begun ?_
  rintro _ rfl
  simp
  refine CallK.of k_diskNew ?_
  rintro v H1 ⟨d, f, k0, rfl, hD1, n1, n2, n3, o1⟩
  simp
  refine LoopV.mk2 (I_dt1 d f k0 os bad) 15 ⟨0, [], [], .nils, by omega, by omega, by simp, by simp, by simp, by simp, ⟨List.Pairwise.nil, by simp, by simp [totL], by simp [totL], by simp, by simp⟩, hD1⟩ ?_
  clear hD1 n1 n2 n3 o1
  rintro k T H ⟨i, F, A, av, hik, hio, t0, t1, t6, t7, hAp, hD⟩
  by_cases hin : i < os.length ∧ i < 15
  · obtain ⟨hi, hi15⟩ := hin
    have hoi : os[i]? = some os[i] := by simp [hi]
    obtain ⟨g0, g1, g2⟩ := ops_get hoi
    have hok := ho os[i] (by simp)
    generalize os[i] = o at *
    generalize hcells : os.flatMap opCs = cells at *
    have hi15' : (i : Int) < 15 := by omega
    simp [t0, t1, t6, t7, hi, hi15', g0, g1, g2]
    obtain ⟨_, hos1, hos2, _, _⟩ := hok
    refine CallQ.of (p_cut o.name 40 (by omega) (Nat.lt_of_le_of_lt hos1 (by decide))) ?_
    simp [immB, t0, t1, t7, hi, g2]
    refine CallQ.of (CP.imm (p_short (a := immB o.b none) (.inr ⟨none, rfl⟩) 40 (by omega) hos2)) ?_
    have hl40 : (o.b.take 40).length ≤ 40 := by simp; omega
    have hn40 : (o.name.extract 0 40).size ≤ 40 := by rw [ByteArray.size_extract]; omega
    generalize o.b.take 40 = l at *
    generalize o.name.extract 0 40 = n at *
    simp [immB]
    by_cases hn0 : n = ⟨#[]⟩
    · subst hn0
      refine CallK.of (k_appendE hD (b := .imm (bytesV l) l.length none) (.inr ⟨none, rfl⟩)) ?_
      rintro v H5 ⟨rfl, rfl⟩
      simp [t7]
      refine Again2.mk (k - 1) (by omega) ⟨i + 1, F, A, av, by omega, by omega, by simp [t0, hcells], by simp [t1], by simp [t6], ?_, hAp.more, hD⟩
      simp; rw [wrap_i64 (by omega) (by omega)]
    · have hfg := fget_le n F
      have htF := hAp.tF
      have hlA := hAp.lA
      refine CallK.of (k_diskAppend hD (name := n) (b := .imm (bytesV l) l.length none) (l := l) (.inr ⟨none, rfl⟩) hn0 hn40 (by omega) (by omega)) ?_
      rintro _ H5 ⟨rfl, av5, hD5, n5, o5⟩
      simp [t7]
      refine Again2.mk (k - 1) (by omega) ⟨i + 1, _, _, av5, by omega, by omega, by simp [t0, hcells], by simp [t1], by simp [t6], ?_, hAp.step hn40 hl40, hD5⟩
      simp; rw [wrap_i64 (by omega) (by omega)]
  · refine (have tail : ∀ (T : Nat → AV), T 1 = .int .i64 bad → T 6 = .ptr d 0 → CallK PP F_disk_Disk_Sync [.ptr d 0] T H (some 48) ?Q := ?tl
      ?main)
    case main =>
      by_cases hi : i < os.length
      · have hi15 : ¬ (i : Int) < 15 := by omega
        simp [t0, t1, t6, t7, hi, hi15]
        refine tail _ ?_ ?_ <;> simp [t1, t6]
      · simp [t0, t1, t6, t7, hi]
        refine tail _ ?_ ?_ <;> simp [t1, t6]
    case tl =>
    have hi15 : i ≤ 15 := by omega
    clear t0 t1 t6 t7 hik hio hin T
    intro T t1 t6
    obtain ⟨and_, asz, atF, atA, alF, alA⟩ := hAp
    refine CallK.of (k_diskSync hD) ?_
    rintro v H2 ⟨k2, hk2, hD2, o2⟩
    simp [t1, t6]
    refine CallK.of (k_diskCrashW hD2 0 bad (by omega) (by omega) hb0' hb1' (by simp) (by simp [totL]; omega) ?_ ?_ ?_) ?_
    · intro p hp
      simp [leftF] at hp
      exact Nat.le_trans (asz p hp) (by decide)
    · simp [leftF]; omega
    · simp [leftF]; omega
    rintro v H3 ⟨d', f', k', L', rfl, nd', nf', nk', hL', hD3, o3⟩
    have hD4 := diskQ_mono hD2 o3
    simp [leftF] at hL'
    simp [t1, t6]
    refine CallK.of (k_listI hD4 (fun p hp => Nat.le_trans (asz p hp) (by decide)) (by omega)) ?_
    rintro v H5 ⟨rfl, rfl⟩
    have hns : (sortS (F.map (·.1))).length = F.length := by unfold sortS; simp
    have hmem : ∀ n ∈ sortS (F.map (·.1)), n ∈ F.map (·.1) := fun n hn => (sortS_perm _).mem_iff.1 hn
    have hnd : (sortS (F.map (·.1))).Nodup := (sortS_perm _).nodup_iff.2 and_
    generalize sortS (F.map (·.1)) = ss at *
    have hpl : ∀ j, preL F (ss.take j) ≤ 15 * 600 := fun j => by
      refine Nat.le_trans (preL_le (show totL F ≤ 600 by omega) _) ?_
      exact Nat.mul_le_mul_right _ (by simp; omega)
    have hLn : L'.map (·.1) = F.map (·.1) := by rw [hL']; exact turnG_names bad ss 0 F hmem
    have hLa : ∀ {j n}, ss[j]? = some n → fget n L' = if (preL F (ss.take j) : Int) ≤ bad ∧ bad < (preL F (ss.take j) : Int) + (fget n F).length then flipA (fget n F) (bad - (preL F (ss.take j) : Nat)).toNat else fget n F := fun {j n} h => by
      have := turnG_at bad ss 0 F hnd h
      simp only [Nat.zero_add] at this
      rw [hL', this]
    simp [t1, t6]
    refine LoopV.mk2 (I_dt2 d d' bad F ss H5) ss.length ⟨0, by omega, by simp [t1], by simp [t6], by simp, by simp [preL, cntB0], by simp [preL], by simp [preL, trnB0], by simp, by simp, by simp, rfl⟩ ?_
    clear t1 t6 T
    rintro k T H ⟨j, hjk, t1, t6, t8, t9, t10, t11, t53, t54, t55, rfl⟩
    by_cases hk0 : k = 0
    · subst hk0
      obtain rfl : j = ss.length := by omega
      rw [List.take_length] at t9 t10 t11
      simp [t1, t6, t8, t9, t10, t11, t54, t55]
      unfold cntB trnB
      exact ⟨fun h => if_neg (by omega), fun h1 h2 => ⟨if_pos ⟨h1, h2⟩, if_pos ⟨h1, h2⟩⟩⟩
    · have hj : j < ss.length := by omega
      have hsj : (ss.map AV.str)[j]? = some (.str ss[j]) := by simp [hj]
      have hsn : ss[j]? = some ss[j] := by simp [hj]
      have hmn := hmem ss[j] (List.getElem_mem hj)
      obtain ⟨n, hn⟩ : ∃ n, ss[j] = n := ⟨_, rfl⟩
      rw [hn] at hsj hsn hmn
      have hLj := hLa hsn
      have hpt := preL_take F hsn
      have hfl := fget_le n F
      have hYl : (fget n L').length = (fget n F).length := by rw [hLj]; split <;> simp [flipA_length]
      simp [t1, t6, t8, t9, t10, t11, t53, t54, t55, hj, hn]
      refine CallK.of (k_readI hD4 n hmn (by omega)) ?_
      rintro v H6 ⟨rfl, rfl⟩
      simp [t8, immB]
      refine CallK.of (k_readI hD3 n (by rw [hLn]; exact hmn) (by omega)) ?_
      rintro v H7 ⟨rfl, rfl⟩
      simp [immB, hYl]
      generalize fget n F = X at *
      generalize fget n L' = Y at *
      refine LoopV.mk2 (I_dt3 d d' bad F ss H7 j X Y) X.length ⟨0, by omega, by simp [t1], by simp [t6], by simp [t8], by simp [t9], by simp [t10], by simp [t11], by simp [t53], by simp [t54], by simp [t55], by simp [immB], by simp [immB, hYl], by simp, by simp, rfl⟩ ?_
      clear t1 t6 t8 t9 t10 t11 t53 t54 t55 T
      rintro k' T H ⟨q, hqk, t1, t6, t8, t9, t10, t11, t53, t54, t55, t14, t16, t81, t82, rfl⟩
      by_cases hk1 : k' = 0
      · subst hk1
        obtain rfl : q = X.length := by omega
        simp [t1, t6, t8, t9, t10, t11, t53, t54, t55, t81, t82]
        refine Again2.mk (k - 1) (by omega) ⟨j + 1, by omega, by simp [t1], by simp [t6], by simp [t8], ?_, ?_, ?_, by simp [t53], by simp [t54], ?_, rfl⟩
        · rw [hpt]; simp [t9]
        · rw [hpt]; simp [t10]
        · rw [hpt]; simp [t11]
        · simp; rw [wrap_i64 (by omega) (by omega)]
      · have hq : q < X.length := by omega
        simp [t1, t6, t8, t9, t10, t11, t53, t54, t55, t81, t82, hq]
        have hpq := hpl j
        have hqY : q < Y.length := by omega
        have hxq : (bytesV X)[q]? = some (.int .u8 (X[q].toNat : Nat)) := by simp [bytesV, hq]; rfl
        have hyq : (bytesV Y)[q]? = some (.int .u8 (Y[q].toNat : Nat)) := by simp [bytesV, hqY]; rfl
        have hab : Y[q] = if bad = ((preL F (ss.take j) + q : Nat) : Int) then X[q] ^^^ 1 else X[q] := by
          have e : Y[q]? = some (if bad = ((preL F (ss.take j) + q : Nat) : Int) then X[q] ^^^ 1 else X[q]) := by
            rw [hLj]
            by_cases hc : (preL F (ss.take j) : Int) ≤ bad ∧ bad < (preL F (ss.take j) : Int) + X.length
            · rw [if_pos hc]
              unfold flipA
              rw [List.getElem?_set]
              by_cases hbq : bad = ((preL F (ss.take j) + q : Nat) : Int)
              · have e2 : (bad - (preL F (ss.take j) : Nat)).toNat = q := by omega
                rw [if_pos hbq, e2, if_pos rfl, if_pos hq]
                simp [List.getD, hq]
              · rw [if_neg hbq, if_neg (by omega)]; simp [hq]
            · rw [if_neg hc, if_neg (by omega)]; simp [hq]
          rw [List.getElem?_eq_getElem hqY] at e
          exact Option.some.inj e
        generalize X[q] = xa at *
        generalize Y[q] = ya at *
        have step : ∀ (T' : Nat → AV), T' 1 = T 1 → T' 6 = T 6 → T' 8 = T 8 → T' 9 = .int .i64 (cntB bad (preL F (ss.take j) + (q + 1))) → T' 10 = .int .i64 (preL F (ss.take j) + (q + 1) : Nat) → T' 11 = .int .i64 (trnB bad (preL F (ss.take j) + (q + 1))) →
            T' 53 = T 53 → T' 54 = T 54 → T' 55 = T 55 → T' 14 = T 14 → T' 16 = T 16 → T' 81 = T 81 → T' 82 = .int .i64 (q + 1 : Nat) → Again2 (I_dt3 d d' bad F ss H j X Y) k' ⟨T', H⟩ := fun T' q1 q6 q8 q9 q10 q11 q53 q54 q55 q14 q16 q81 q82 =>
          Again2.mk (k' - 1) (by omega) ⟨q + 1, by omega, by rw [q1]; exact t1, by rw [q6]; exact t6, by rw [q8]; exact t8, q9, q10, q11, by rw [q53]; exact t53, by rw [q54]; exact t54, by rw [q55]; exact t55, by rw [q14]; exact t14, by rw [q16]; exact t16, by rw [q81]; exact t81, q82, rfl⟩
        by_cases hbq : bad = ((preL F (ss.take j) + q : Nat) : Int)
        · rw [if_pos hbq] at hab
          have c0 : cntB bad (preL F (ss.take j) + q) = 0 := if_neg (by omega)
          have c1 : cntB bad (preL F (ss.take j) + (q + 1)) = 1 := if_pos (by omega)
          have c2 : trnB bad (preL F (ss.take j) + (q + 1)) = bad := if_pos (by omega)
          have hya : ya.toNat = xa.toNat ^^^ 1 := by rw [hab]; simp
          have hne : ¬ (xa.toNat : Int) = (ya.toNat : Int) := fun h => xor_ne (y := xa.toNat) (x := 1) (by omega) (by omega)
          have hx1 : bitsOf .u8 (· ^^^ ·) (xa.toNat : Int) (ya.toNat : Int) = 1 := by
            rw [xor_u8 (UInt8.toNat_lt _) (UInt8.toNat_lt _), hya, ← Nat.xor_assoc, Nat.xor_self, Nat.zero_xor]; rfl
          generalize xa.toNat = a at *
          generalize ya.toNat = b at *
          rw [c0] at t9
          rw [c1, c2] at step
          simp [t9, t10, t14, t16, t82, immB, hxq, hyq, hne, hx1, hq, hqY]
          refine step _ ?_ ?_ ?_ ?_ ?_ ?_ ?_ ?_ ?_ ?_ ?_ ?_ ?_
          all_goals first | (simp; done) | (simp [t9, t10, t11]; done) | (simp [t10, put, tset]; rw [wrap_i64 (by omega) (by omega)]; omega) | (simp; rw [wrap_i64 (by omega) (by omega)]; done) | (simp [t9, put, tset]; omega)
        · rw [if_neg hbq] at hab
          subst hab
          have c1 : cntB bad (preL F (ss.take j) + (q + 1)) = cntB bad (preL F (ss.take j) + q) := by
            unfold cntB
            by_cases h : 0 ≤ bad ∧ bad < ((preL F (ss.take j) + q : Nat) : Int)
            · rw [if_pos h, if_pos (by omega)]
            · rw [if_neg h, if_neg (by omega)]
          have c2 : trnB bad (preL F (ss.take j) + (q + 1)) = trnB bad (preL F (ss.take j) + q) := by
            unfold trnB
            by_cases h : 0 ≤ bad ∧ bad < ((preL F (ss.take j) + q : Nat) : Int)
            · rw [if_pos h, if_pos (by omega)]
            · rw [if_neg h, if_neg (by omega)]
          rw [c1, c2] at step
          simp [t9, t10, t14, t16, t82, immB, hxq, hyq, hq, hqY]
          refine step _ ?_ ?_ ?_ ?_ ?_ ?_ ?_ ?_ ?_ ?_ ?_ ?_ ?_
          all_goals first | (simp; done) | (simp [t9, t10, t11]; done) | (simp [t10, put, tset]; rw [wrap_i64 (by omega) (by omega)]; omega) | (simp; rw [wrap_i64 (by omega) (by omega)]; done) | (simp [t9, put, tset]; omega)
end Go.Proofs.Ytffifddlooligaa
