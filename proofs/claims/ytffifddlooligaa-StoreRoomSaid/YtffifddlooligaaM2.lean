/- StoreRoom. -/
import Derived.Test.YtffifddlooligaaM1
set_option linter.unusedVariables false
set_option linter.unusedSimpArgs false
set_option maxRecDepth 100000
set_option maxHeartbeats 4000000
namespace Go.Proofs.Ytffifddlooligaa
open Go.Sf
attribute [local simp] s_skip s_ops s_draw s_any s_contA s_tdone s_ttwo s_top_p s_top_pick s_top_e s_top_g s_seq s_cond s_block s_loop s_exit s_ret s_mark s_then_n s_then_e s_then_r s_in_n s_in_e s_in_r s_contC s_contO s_contQ s_contT s_nil s_cons_p s_cons_pick s_cons_e s_cons_g s_qnil s_qcons_p s_qcons_pick s_qcons_e s_qcons_g s_M s_Mg s_Mq s_Mqg s_G_p s_G_pick s_G_e s_Gq_p s_Gq_pick s_Gq_e s_if s_call s_callv s_qcall s_qcallv s_getAll_nil s_getAll_cons s_put_some s_put_none s_ev_t s_ev_c s_ev_f un evP evK argT resAV lenOf_nils lenOf_imm lenOf_sl lenOf_str optI slcV binV isShift binInt binStr shiftInt pickV unV s_append s_alloc s_box s_bslice s_Bs_t s_Bs_f s_store1 s_storeN s_St1 s_St s_s2b s_markb s_Mk s_mkslice s_qbslice s_qs2b s_ret_n s_ret_r s_retc_n s_retc_r s_RV_nil s_RV_t s_RV_c s_RV1 tupOf fillC kn_int cl_int on_int kn_bool cl_bool on_bool kn_str cl_str on_str kn_nilp cl_nilp on_nilp kn_ptr cl_ptr on_ptr kn_iptr cl_iptr on_iptr kn_nils cl_nils on_nils kn_sl cl_sl on_sl kn_imm cl_imm on_imm kn_mp cl_mp on_mp kn_nilm cl_nilm on_nilm kn_fn cl_fn on_fn kn_nilf cl_nilf on_nilf kn_agg cl_agg scalEq flatEq eqV s_copy_i s_copy_s s_Cp s_clr s_clrn s_Cl s_appz s_Az s_ext s_Ov s_mapB s_mapBS s_rng s_rngn s_Rn s_nxt s_Nx0 s_ent s_mkmap s_mset s_mdel mapOf s_Mg_n s_Mqg_n s_gw_b s_gw_u s_gw_gb s_gw_f
def nmB (i : Nat) : ByteArray := ⟨#[111, UInt8.ofNat (97 + i)]⟩
theorem nm_less : ∀ i : Fin 20, ∀ j : Fin 20, lessS (nmB j) (nmB i) = decide (j < i) := by decide +kernel
theorem nm_eq : ∀ i : Fin 20, ∀ j : Fin 20, decide (cmpS (nmB j) (nmB i) = 0) = decide (j = i) := by decide +kernel
theorem nm_pre : ∀ i : Fin 20, preS (nmB i) ⟨#[111]⟩ = true := by decide +kernel
def objsK (ks : List (Nat × Nat)) : FileL := ks.map fun q => (nmB q.1, List.replicate q.2 0)
def Rise (ks : List (Nat × Nat)) : Prop := ks.Pairwise (fun a b => a.1 < b.1) ∧ ∀ q ∈ ks, q.1 < 20
theorem lessN {i j : Nat} (hi : i < 20) (hj : j < 20) : lessS (nmB j) (nmB i) = decide (j < i) := nm_less ⟨i, hi⟩ ⟨j, hj⟩
theorem eqN {i j : Nat} (hi : i < 20) (hj : j < 20) : decide (cmpS (nmB j) (nmB i) = 0) = decide (j = i) := by
  rw [nm_eq ⟨i, hi⟩ ⟨j, hj⟩]; simp
theorem objs_get {ks : List (Nat × Nat)} {a : Nat} {p : ByteArray × List UInt8} (h : (objsK ks)[a]? = some p) : ∃ q, ks[a]? = some q ∧ p = (nmB q.1, List.replicate q.2 0) := by
  unfold objsK at h
  rw [List.getElem?_map] at h
  cases hq : ks[a]? with
  | none => rw [hq] at h; cases h
  | some q => rw [hq] at h; cases h; exact ⟨q, rfl, rfl⟩
theorem rise_mono {ks : List (Nat × Nat)} (h : Rise ks) {i : Nat} (hi : i < 20) : MonoO (nmB i) (objsK ks) := fun a b p q hab h1 h2 h3 => by
  obtain ⟨x, hx, rfl⟩ := objs_get h1
  obtain ⟨y, hy, rfl⟩ := objs_get h2
  have hx2 := h.2 x (List.mem_of_getElem? hx)
  have hy2 := h.2 y (List.mem_of_getElem? hy)
  simp only at h3 ⊢
  rw [lessN hi hy2] at h3
  rw [lessN hi hx2]
  have : x.1 ≤ y.1 := by
    rcases Nat.lt_or_ge a b with hlt | hge
    · obtain ⟨ha', rfl⟩ := List.getElem?_eq_some_iff.1 hx
      obtain ⟨hb', rfl⟩ := List.getElem?_eq_some_iff.1 hy
      exact Nat.le_of_lt ((List.pairwise_iff_getElem.1 h.1) a b ha' hb' hlt)
    · obtain rfl : a = b := by omega
      rw [hx] at hy; cases hy; exact Nat.le_refl _
  simp at h3 ⊢; omega
theorem find_new {ks : List (Nat × Nat)} (h : Rise ks) {i : Nat} (hi : i < 20) (hn : ∀ q ∈ ks, q.1 < i) : findO (nmB i) (objsK ks) = ((objsK ks).length, false) := by
  have ht : ((objsK ks).takeWhile fun p => lessS p.1 (nmB i)) = objsK ks := by
    have key : ∀ (f : ByteArray × List UInt8 → Bool) (l : FileL), (∀ p ∈ l, f p = true) → l.takeWhile f = l := fun f l h => by
      have := List.takeWhile_append_of_pos (l₂ := []) h
      simpa using this
    refine key _ _ fun p hp => ?_
    obtain ⟨q, hq, rfl⟩ := List.mem_map.1 hp
    simp only
    rw [lessN hi (h.2 q hq)]
    simpa using hn q hq
  unfold findO
  rw [ht]
  simp
theorem find_last {ks : List (Nat × Nat)} (h : Rise ks) {i n : Nat} (hi : i < 20) (hn : ∀ q ∈ ks, q.1 < i) : findO (nmB i) (objsK (ks ++ [(i, n)])) = ((objsK ks).length, true) := by
  have ht : ((objsK (ks ++ [(i, n)])).takeWhile fun p => lessS p.1 (nmB i)) = objsK ks := by
    unfold objsK
    rw [List.map_append, List.takeWhile_append_of_pos, List.map_cons, List.takeWhile_cons_of_neg, List.append_nil]
    · simp only; rw [lessN hi hi]; simp
    · intro p hp
      obtain ⟨q, hq, rfl⟩ := List.mem_map.1 hp
      simp only
      rw [lessN hi (h.2 q hq)]
      simpa using hn q hq
  unfold findO
  rw [ht]
  have : (objsK (ks ++ [(i, n)]))[(objsK ks).length]? = some (nmB i, List.replicate n 0) := by
    unfold objsK
    rw [List.map_append, List.getElem?_append_right (Nat.le_refl _)]
    simp
  rw [this]
  simp only
  rw [eqN hi hi]; simp
theorem find_head {ks : List (Nat × Nat)} {i n : Nat} (hi : i < 20) : findO (nmB i) (objsK ((i, n) :: ks)) = (0, true) := by
  unfold findO objsK
  rw [List.map_cons, List.takeWhile_cons_of_neg (by simp only; rw [lessN hi hi]; simp)]
  simp only [List.length_nil, List.getElem?_cons_zero]
  rw [eqN hi hi]; simp
theorem rise_snoc {ks : List (Nat × Nat)} (h : Rise ks) {i n : Nat} (hi : i < 20) (hn : ∀ q ∈ ks, q.1 < i) : Rise (ks ++ [(i, n)]) := by
  refine ⟨?_, ?_⟩
  · rw [List.pairwise_append]
    refine ⟨h.1, by simp, ?_⟩
    intro a ha b hb
    simp at hb; subst hb; exact hn a ha
  · intro q hq
    rw [List.mem_append] at hq
    rcases hq with hq | hq
    · exact h.2 q hq
    · simp at hq; subst hq; exact hi
theorem tot_snoc (ks : List (Nat × Nat)) (i n : Nat) : totL (objsK (ks ++ [(i, n)])) = totL (objsK ks) + n := by
  unfold objsK
  rw [List.map_append, totL_append]; simp [totL]
theorem ins_last (ks : List (Nat × Nat)) (i n : Nat) : insO (objsK ks) (objsK ks).length (nmB i, List.replicate n 0) = objsK (ks ++ [(i, n)]) := by
  unfold insO
  rw [List.take_length, List.drop_length]
  unfold objsK; simp
theorem names_o {ks : List (Nat × Nat)} (h : ∀ q ∈ ks, q.1 < 20) : namesP (objsK ks) ⟨#[111]⟩ = ks.map fun q => nmB q.1 := by
  unfold namesP objsK
  rw [List.map_map, List.filter_eq_self.2]
  · rfl
  · intro n hn
    obtain ⟨q, hq, rfl⟩ := List.mem_map.1 hn
    exact nm_pre ⟨q.1, h q hq⟩
def I_r1 (R : Nat) (s : Nat) (zs : List Int) (k : Nat) (T : Nat → AV) (H : Heap) : Prop :=
  ∃ (i : Nat) (ks : List (Nat × Nat)) (v hv : AV), i + k = 20 ∧ i ≤ zs.length ∧ T 0 = .int .i64 R ∧ T 1 = .imm (zs.map (.int .i64 ·)) zs.length none ∧ T 6 = .ptr s 0 ∧ T 7 = .int .i64 (totL (objsK ks)) ∧ T 8 = hv ∧ T 9 = .int .i64 i ∧
    Rise ks ∧ (∀ q ∈ ks, q.1 < i) ∧ (∀ q ∈ ks, q.2 < 60) ∧ ks.length ≤ i ∧ totL (objsK ks) ≤ R ∧ StoreQ H s v (objsK ks) R ∧ OwnR H 1 ks.length hv (ks.map fun q => .int .i64 q.2) ∧ blkOf hv ≠ some s ∧ (∀ x, blkOf hv = some x → blkOf v ≠ some x)
def I_r2 (R : Nat) (s : Nat) (ks : List (Nat × Nat)) (k : Nat) (T : Nat → AV) (H : Heap) : Prop :=
  ∃ (j : Nat) (v : AV), j + k = ks.length ∧ T 6 = .ptr s 0 ∧ T 7 = .int .i64 (totL (objsK (ks.drop j))) ∧ T 8 = .imm (ks.map fun q => .int .i64 q.2) ks.length none ∧ T 83 = .imm ((ks.map fun q => nmB q.1).map .str) (ks.map fun q => nmB q.1).length none ∧
    T 84 = .int .i64 ks.length ∧ T 85 = .int .i64 j ∧ StoreQ H s v (objsK (ks.drop j)) R
theorem p_StoreRoom (room : Int) (hr0 : IntKind.i64.min ≤ room) (hr1 : room ≤ IntKind.i64.max) (zs : List Int) (hzs : zs.length < 2 ^ 63) (bz : ∀ n ∈ zs, IntKind.i64.min ≤ n ∧ n ≤ IntKind.i64.max) :
    CP PP F_Rlaw1_StoreRoom [.int .i64 room, .imm (zs.map (.int .i64 ·)) zs.length none] (fun v => v = .bool true) := by
  have hr0' : -9223372036854775808 ≤ room := hr0
  have hr1' : room ≤ 9223372036854775807 := hr1
  obtain ⟨f, hf, hfe⟩ := place (n := 300) hr0' hr1' (by omega) (by omega)
  have hfe' : (IntKind.i64.wrap (room.tmod 300 + 300)).tmod 300 = (f : Int) := hfe
  refine CP.by_vc ok_Rlaw1_StoreRoom (by simp) ?_
  unfold c_Rlaw1_StoreRoom
  simp
  refine CallK.pure p_begun ?_
  rintro _ rfl
  have w1 : IntKind.i64.wrap (1 + (f : Int)) = ((f + 1 : Nat) : Int) := by rw [wrap_i64 (by omega) (by omega)]; omega
  simp [hfe', w1]
  have hR : f + 1 ≤ 300 := by omega
  have hR1 : 1 ≤ f + 1 := by omega
  have eR : ((f : Int) + 1) = ((f + 1 : Nat) : Int) := by omega
  generalize f + 1 = R at *
  try simp only [eR]
  refine CallK.of (k_storeNew (R : Int) (by omega)) ?_
  rintro _ H1 ⟨s, rfl, hs0, hS1, o1⟩
  simp
  refine LoopV.mk2 (I_r1 R s zs) 20 ⟨0, [], .nils, .nils, by omega, by omega, by simp [eR], by simp, by simp, by simp [objsK, totL], by simp, by simp, ⟨List.Pairwise.nil, by simp⟩, by simp, by simp, by simp, by simp [objsK, totL], hS1, ⟨rfl, .inl ⟨rfl, rfl⟩⟩, by simp [blkOf], by simp [blkOf]⟩ ?_
  clear hS1 o1 hs0 hfe hfe' w1
  rintro k T H ⟨i, ks, v, hv, hik, hiz, t0, t1, t6, t7, t8, t9, hri, hlt, h60, hkl, htot, hS, ho, hvs, hvv⟩
  by_cases hin : i < zs.length ∧ i < 20
  · obtain ⟨hiz2, hi20⟩ := hin
    have hi1 : (i : Int) < zs.length := by omega
    have hi2 : (i : Int) < 20 := by omega
    have hz0 : (zs.map (AV.int .i64 ·))[i]? = some (.int .i64 zs[i]) := by simp [hiz2]
    obtain ⟨n, hn, hne⟩ := place (n := 60) (bz zs[i] (by simp)).1 (bz zs[i] (by simp)).2 (by omega) (by omega)
    have hne' : (IntKind.i64.wrap (zs[i].tmod 60 + 60)).tmod 60 = (n : Int) := hne
    generalize zs[i] = z at *
    obtain ⟨ch, hch⟩ : ∃ ch, ch = UInt8.ofNat (97 + i) := ⟨_, rfl⟩
    have hcell : cellsOf H 1 (.imm [.int .u8 (IntKind.u8.wrap (IntKind.i64.wrap (97 + (i : Int))))] 1 (some 1)) = some (bytesV [ch]) := by
      have w1 : IntKind.i64.wrap (97 + (i : Int)) = 97 + i := wrap_i64 (by omega) (by omega)
      have w2 : IntKind.u8.wrap (97 + (i : Int)) = 97 + i := by have h := wrap_u8 (show 97 + i < 256 by omega); simpa using h
      have e : AV.int .u8 (97 + (i : Int)) = byteV ch := by
        rw [hch]
        unfold byteV
        have : (UInt8.ofNat (97 + i)).toNat = 97 + i := by simp; omega
        rw [this]; rfl
      rw [w1, w2, e]; rfl
    have hsz : ((⟨#[111]⟩ : ByteArray).size : Int) = 1 := rfl
    have hsz2 : ((⟨#[ch]⟩ : ByteArray).size : Int) = 1 := rfl
    have hnm : (⟨#[111]⟩ ++ ⟨#[ch]⟩ : ByteArray) = nmB i := by rw [hch]; rfl
    have w3 : IntKind.i64.wrap ((totL (objsK ks) : Int) + (n : Int)) = ((totL (objsK ks) + n : Nat) : Int) := by rw [wrap_i64 (by omega) (by omega)]; omega
    have hrn : (AV.imm (List.replicate n (.int .u8 0)) n (some n)) = immB (List.replicate n 0) (some n) := by simp [immB, bytesV]; exact .inr rfl
    have hfn := find_new hri hi20 hlt
    have hnz : nmB i ≠ ⟨#[]⟩ := fun h => by have := congrArg ByteArray.size h; cases this
    have hn40 : (nmB i).size ≤ 40 := by show 2 ≤ 40; omega
    have hobl : (objsK ks).length = ks.length := by simp [objsK]
    simp [t0, t1, t6, t7, t8, t9, hi1, hi2, hz0, hne', hcell, bytesV_toBytes, hsz, hsz2, hnm, w3]
    rw [hrn]
    refine ⟨fun hfull => ?_, fun hroom => ?_⟩
    · refine ⟨by omega, by omega, ?_⟩
      refine CallK.of (k_storePut hS (by omega) (by omega) hnz hn40 (b := immB (List.replicate n 0) (some n)) (l := List.replicate n 0) (.inl (.inr ⟨some n, rfl⟩)) (by simp; omega) (rise_mono hri hi20) (by omega) (by omega) false) ?_
      rintro _ H4 ⟨rfl, v4, hS4, n4, o4⟩
      have e1 : putR (nmB i) (List.replicate n 0) false (objsK ks) R = 4 := by
        unfold putR
        rw [hfn, if_neg (by simp), if_pos ⟨by omega, by simp; omega⟩]
      have e2 : putA (nmB i) (List.replicate n 0) false (objsK ks) R = objsK ks := by
        unfold putA
        rw [hfn, if_neg (by simp), if_pos ⟨by omega, by simp; omega⟩]
      rw [e1]
      rw [e2] at hS4
      have ho4 : OwnR H4 1 ks.length hv (ks.map fun q => .int .i64 q.2) := ho.keep2 fun x hx => o4 x (fun h => hvs (by rw [← h]; exact hx)) (hvv x hx) (by obtain ⟨cs, q, hq⟩ := ho.blk_live hx; rw [hq]; simp)
      have hvv4 : ∀ x, blkOf hv = some x → blkOf v4 ≠ some x := fun x hx h => by
        rcases n4 x h with h1 | h1
        · obtain ⟨cs, q, hq⟩ := ho.blk_live hx
          rw [hq] at h1; cases h1
        · exact hvv x hx h1
      simp [t0, t1, t6, t7, t8, t9]
      refine CallK.of (k_used hS4 (by omega) (by omega)) ?_
      rintro _ H5 ⟨rfl, rfl⟩
      simp [t0, t1, t6, t7, t8, t9]
      refine CallK.of (k_has hS4 (u := .imm [.str (nmB i)] 1 (some 1)) (ns := [nmB i]) (.inr ⟨some 1, rfl⟩) (fun m hm => by simp at hm; subst hm; exact rise_mono hri hi20) (by omega) (by simp)) ?_
      rintro _ H6 ⟨rfl, rfl⟩
      have hfn2 : (findO (nmB i) (objsK ks)).2 = false := by rw [hfn]
      simp [t0, t1, t6, t7, t8, t9, hfn2]
      refine Again2.mk (k - 1) (by omega) ⟨i + 1, ks, v4, hv, by omega, by omega, by simp [t0], by simp [t1], by simp [t6], by simp [t7], by simp [t8], ?_, hri, fun q hq => Nat.lt_succ_of_lt (hlt q hq), h60, by omega, htot, hS4, ho4, hvs, hvv4⟩
      simp; rw [wrap_i64 (by omega) (by omega)]
    · simp [ho.un]
      refine vcAp_row (bytes := 8) (.inl ho) (new := [.int .i64 n]) (m := 1) (by simp [cellsOf_imm]) rfl rfl (by omega) (by simp) (by omega) (.inl (by simp)) ?_
      intro hv2 H2 ho2 o2 n2
      have hS2 : StoreQ H2 s v (objsK ks) R := storeQ_keep hS fun x hx hn => o2 x (fun h => by
        rcases hx with rfl | hx
        · exact hvs h
        · exact hvv x h hx) hn
      have hvs2 : blkOf hv2 ≠ some s := fun h => by
        rcases n2 s h with h1 | h1
        · rw [hS.hs] at h1; cases h1
        · exact hvs h1
      have hvv2 : ∀ x, blkOf hv2 = some x → blkOf v ≠ some x := fun x hx h => by
        rcases n2 x hx with h1 | h1
        · exact storeQ_live hS (.inr h) h1
        · exact hvv x h1 h
      simp [ho2.un, t0, t1, t6, t7, t8, t9]
      rw [hrn]
      refine ⟨by omega, by omega, ?_⟩
      refine CallK.of (k_storePut hS2 (by omega) (by omega) hnz hn40 (b := immB (List.replicate n 0) (some n)) (l := List.replicate n 0) (.inl (.inr ⟨some n, rfl⟩)) (by simp; omega) (rise_mono hri hi20) (by omega) (by omega) false) ?_
      rintro _ H4 ⟨rfl, v4, hS4, n4, o4⟩
      have e1 : putR (nmB i) (List.replicate n 0) false (objsK ks) R = 0 := by
        unfold putR
        rw [hfn, if_neg (by simp), if_neg (by simp; omega), if_neg (by simp)]
      have e2 : putA (nmB i) (List.replicate n 0) false (objsK ks) R = objsK (ks ++ [(i, n)]) := by
        unfold putA
        rw [hfn, if_neg (by simp), if_neg (by simp; omega), if_neg (by simp)]
        exact ins_last ks i n
      have hts := tot_snoc ks i n
      have hri' := rise_snoc hri (n := n) hi20 hlt
      have hol' : (objsK (ks ++ [(i, n)])).length = ks.length + 1 := by simp [objsK]
      rw [e1]
      rw [e2] at hS4
      have ho4 : OwnR H4 1 (ks.length + 1) hv2 ((ks ++ [(i, n)]).map fun q => .int .i64 q.2) := by
        have h := ho2.keep2 (H' := H4) fun x hx => o4 x (fun h => hvs2 (by rw [← h]; exact hx)) (hvv2 x hx) (by obtain ⟨cs, q, hq⟩ := ho2.blk_live hx; rw [hq]; simp)
        simpa using h
      have hvv4 : ∀ x, blkOf hv2 = some x → blkOf v4 ≠ some x := fun x hx h => by
        rcases n4 x h with h1 | h1
        · obtain ⟨cs, q, hq⟩ := ho2.blk_live hx
          rw [hq] at h1; cases h1
        · exact hvv2 x hx h1
      simp [t0, t1, t6, t7, t8, t9]
      refine CallK.of (k_used hS4 (by omega) (by omega)) ?_
      rintro _ H5 ⟨rfl, rfl⟩
      have hts2 : ((totL (objsK ks) : Int) + (n : Int)) = ((totL (objsK (ks ++ [(i, n)])) : Nat) : Int) := by omega
      simp [t0, t1, t6, t7, t8, t9, hts2]
      refine CallK.of (k_has hS4 (u := .imm [.str (nmB i)] 1 (some 1)) (ns := [nmB i]) (.inr ⟨some 1, rfl⟩) (fun m hm => by simp at hm; subst hm; exact rise_mono hri' hi20) (by omega) (by simp)) ?_
      rintro _ H6 ⟨rfl, rfl⟩
      have hfn2 : (findO (nmB i) (objsK (ks ++ [(i, n)]))).2 = true := by rw [find_last hri hi20 hlt]
      simp [t0, t1, t6, t7, t8, t9, hfn2]
      refine Again2.mk (k - 1) (by omega) ⟨i + 1, ks ++ [(i, n)], v4, hv2, by omega, by omega, by simp [t0], by simp [t1], by simp [t6], by simp [hts2], by simp, ?_, hri', ?_, ?_, by simp; omega, by omega, hS4, ?_, hvs2, hvv4⟩
      · simp; rw [wrap_i64 (by omega) (by omega)]
      · intro q hq
        rw [List.mem_append] at hq
        rcases hq with hq | hq
        · exact Nat.lt_succ_of_lt (hlt q hq)
        · simp at hq; subst hq; simp
      · intro q hq
        rw [List.mem_append] at hq
        rcases hq with hq | hq
        · exact h60 q hq
        · simp at hq; subst hq; exact hn
      · rw [List.length_append]; exact ho4
  · have hlt20 : ks.length ≤ 20 := by omega
    refine (have tail : ∀ (T : Nat → AV), T 6 = .ptr s 0 → T 7 = .int .i64 (totL (objsK ks)) → T 8 = hv → MarkV ?R ⟨T, H⟩ ?Q := ?tl
      ?main)
    case main =>
      by_cases hiz2 : i < zs.length
      · simp [t1, t9, show (i : Int) < zs.length by omega, show ¬ (i : Int) < 20 by omega]
        refine tail _ ?_ ?_ ?_ <;> simp [t6, t7, t8]
      · simp [t1, t9, show ¬ (i : Int) < zs.length by omega]
        refine tail _ ?_ ?_ ?_ <;> simp [t6, t7, t8]
    case tl =>
      clear t0 t1 t6 t7 t8 t9
      intro T t6 t7 t8
      refine MarkV.ownS 8 t8 ho fun H' hk => ?_
      have hS' : StoreQ H' s v (objsK ks) R := storeQ_keep hS fun x hx _ => hk x (fun h => by
        rcases hx with rfl | hx
        · exact hvs h
        · exact hvv x h hx)
      have hobl : (objsK ks).length = ks.length := by simp [objsK]
      have hnb : ∀ q ∈ objsK ks, q.1.size < 2 ^ 62 := fun q hq => by
        obtain ⟨x, _, rfl⟩ := List.mem_map.1 hq
        show 2 < 2 ^ 62; omega
      simp [t6]
      refine CallK.of (k_list hS' (by omega) hnb (p := ⟨#[111]⟩) (by decide)) ?_
      rintro _ H9 ⟨rfl, rfl⟩
      rw [names_o hri.2]
      simp
      refine LoopV.mk2 (I_r2 R s ks) ks.length ⟨0, v, by omega, by simp [t6], by simp [t7], by simp, by simp, by simp, by simp, hS'⟩ ?_
      clear t6 t7 t8 hS' hk hS ho hvs hvv
      rintro k T H ⟨j, v, hjk, t6, t7, t8, t83, t84, t85, hS⟩
      by_cases hk : k = 0
      · subst hk
        obtain rfl : j = ks.length := by omega
        rw [List.drop_length] at hS t7
        simp [t6, t7, t8, t83, t84, t85, objsK, totL]
        refine CallK.of (k_list hS (by simp [objsK]) (by simp [objsK]) (p := ⟨#[]⟩) (by decide)) ?_
        rintro _ H9 ⟨rfl, rfl⟩
        simp [namesP, objsK]
      · have hj : j < ks.length := by omega
        have hge : ¬ ks.length ≤ j := by omega
        have hd : ks.drop j = ks[j] :: ks.drop (j + 1) := by rw [List.drop_eq_getElem_cons hj]
        have hrd : Rise (ks.drop j) := ⟨hri.1.sublist (List.drop_sublist _ _), fun q hq => hri.2 q (List.mem_of_mem_drop hq)⟩
        have hq20 := hri.2 ks[j] (List.getElem_mem hj)
        have hq60 := h60 ks[j] (List.getElem_mem hj)
        have hml : (objsK (ks.drop j)).length ≤ 20 := by simp [objsK]; omega
        simp [t6, t7, t8, t83, t84, t85, hj, hge]
        have hmo := rise_mono hrd hq20
        have hfd : findO (nmB ks[j].1) (objsK (ks.drop j)) = (0, true) := by rw [hd]; exact find_head hq20
        have hto : totL (objsK (ks.drop j)) = ks[j].2 + totL (objsK (ks.drop (j + 1))) := by
          rw [hd]; unfold objsK
          rw [List.map_cons]; simp only [totL, List.length_replicate]
        have her : (objsK (ks.drop j)).eraseIdx 0 = objsK (ks.drop (j + 1)) := by rw [hd]; rfl
        have hml2 : (objsK (ks.drop (j + 1))).length ≤ 20 := by simp [objsK]; omega
        have htl : totL (objsK (ks.drop j)) ≤ R := by
          refine Nat.le_trans ?_ htot
          have h := totL_append (objsK (ks.take j)) (objsK (ks.drop j))
          have h2 : objsK (ks.take j) ++ objsK (ks.drop j) = objsK ks := by unfold objsK; rw [← List.map_append, List.take_append_drop]
          rw [h2] at h; omega
        refine CallK.of (k_drop hS hmo (by omega) (by rw [hfd])) ?_
        rintro _ H9 ⟨rfl, v9, hS9, hv9, o9⟩
        rw [hfd, her] at hS9
        have w5 : IntKind.i64.wrap ((totL (objsK (ks.drop j)) : Int) - (ks[j].2 : Int)) = ((totL (objsK (ks.drop (j + 1))) : Nat) : Int) := by rw [wrap_i64 (by omega) (by omega)]; omega
        simp [t6, t7, t8, t83, t84, t85, hj, hge, w5]
        refine CallK.of (k_used hS9 (by omega) (by omega)) ?_
        rintro _ HA ⟨rfl, rfl⟩
        simp [t6, t7, t8, t83, t84, t85, w5]
        refine Again2.mk (k - 1) (by omega) ⟨j + 1, v9, by omega, by simp [t6], by simp, by simp [t8], by simp [t83], by simp [t84], ?_, hS9⟩
        simp; rw [wrap_i64 (by omega) (by omega)]
end Go.Proofs.Ytffifddlooligaa
