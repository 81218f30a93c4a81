/- Disks: what a crash leaves. -/
import Derived.Test.YtcpfodhhjkaibaaGreatK13
set_option linter.unusedVariables false
set_option linter.unusedSimpArgs false
set_option maxRecDepth 100000
namespace Go.Sf
/-- What a crash leaves of files to which these acts were done, as many bytes of them being kept. -/
def leftF : Nat → FileL → FileL → FileL
  | _, [], M => M
  | q, p :: A, M => if p.2.length ≤ q then leftF (q - p.2.length) A (fapp M p.1 p.2) else if q = 0 then M else fapp M p.1 (p.2.take q)
def totL : FileL → Nat
  | [] => 0
  | p :: F => p.2.length + totL F
theorem fget_le (n : ByteArray) : ∀ F : FileL, (fget n F).length ≤ totL F := by
  intro F
  unfold fget
  cases h : fidx n F with
  | none => simp
  | some j =>
    have hj := fidx_lt h
    simp only [Option.bind_some, List.getElem?_eq_getElem hj]
    clear h
    induction F generalizing j with
    | nil => simp at hj
    | cons p F ih =>
      cases j with
      | zero => simp [totL]
      | succ j =>
        have := ih j (by simpa using hj)
        simp only [List.getElem_cons_succ, totL]; omega
theorem totL_append (F G : FileL) : totL (F ++ G) = totL F + totL G := by
  induction F with
  | nil => simp [totL]
  | cons p F ih => simp only [List.cons_append, totL, ih]; omega
theorem totL_set : ∀ (F : FileL) (j : Nat) (hj : j < F.length) (p : ByteArray × List UInt8), totL (F.set j p) + F[j].2.length = totL F + p.2.length
  | [], j, hj, p => by simp at hj
  | q :: F, 0, hj, p => by simp [totL]; omega
  | q :: F, j + 1, hj, p => by
    have := totL_set F j (by simpa using hj) p
    simp only [List.set_cons_succ, totL, List.getElem_cons_succ]; omega
theorem totL_fapp (F : FileL) (n : ByteArray) (l : List UInt8) : totL (fapp F n l) = totL F + l.length := by
  unfold fapp fset fget
  cases h : fidx n F with
  | none => simp [totL_append, totL]
  | some j =>
    have hj := fidx_lt h
    simp only [Option.bind_some, List.getElem?_eq_getElem hj]
    have := totL_set F j hj (n, F[j].2 ++ l)
    simp only [List.length_append] at this; omega
theorem totL_drop (A : FileL) {i : Nat} {p : ByteArray × List UInt8} (h : A[i]? = some p) : totL (A.drop i) = p.2.length + totL (A.drop (i + 1)) := by
  obtain ⟨hi, rfl⟩ := List.getElem?_eq_some_iff.1 h
  rw [List.drop_eq_getElem_cons hi]; rfl
end Go.Sf
namespace Go.Proofs.YtcpfodhhjkaibaaGreat
open Go.Sf
attribute [local simp] s_skip s_ops s_draw s_any s_contA s_tdone s_ttwo s_top_p s_top_pick s_top_e s_top_g s_seq s_cond s_block s_loop s_exit s_ret s_mark s_then_n s_then_e s_then_r s_in_n s_in_e s_in_r s_contC s_contO s_contQ s_contT s_nil s_cons_p s_cons_pick s_cons_e s_cons_g s_qnil s_qcons_p s_qcons_pick s_qcons_e s_qcons_g s_M s_Mg s_Mq s_Mqg s_G_p s_G_pick s_G_e s_Gq_p s_Gq_pick s_Gq_e s_if s_call s_callv s_qcall s_qcallv s_getAll_nil s_getAll_cons s_put_some s_put_none s_ev_t s_ev_c s_ev_f un evP evK argT resAV lenOf_nils lenOf_imm lenOf_sl lenOf_str optI slcV binV isShift binInt binStr shiftInt pickV unV s_append s_alloc s_box s_bslice s_Bs_t s_Bs_f s_store1 s_storeN s_St1 s_St s_s2b s_markb s_Mk s_mkslice s_qbslice s_qs2b s_ret_n s_ret_r s_retc_n s_retc_r s_RV_nil s_RV_t s_RV_c s_RV1 tupOf fillC kn_int cl_int on_int kn_bool cl_bool on_bool kn_str cl_str on_str kn_nilp cl_nilp on_nilp kn_ptr cl_ptr on_ptr kn_iptr cl_iptr on_iptr kn_nils cl_nils on_nils kn_sl cl_sl on_sl kn_imm cl_imm on_imm kn_mp cl_mp on_mp kn_nilm cl_nilm on_nilm kn_fn cl_fn on_fn kn_nilf cl_nilf on_nilf kn_agg cl_agg scalEq flatEq eqV s_copy_i s_copy_s s_Cp s_clr s_clrn s_Cl s_appz s_Az s_ext s_Ov s_mapB s_mapBS s_rng s_rngn s_Rn s_nxt s_Nx0 s_ent s_mkmap s_mset s_mdel mapOf s_Mg_n s_Mqg_n s_gw_b s_gw_u s_gw_gb s_gw_f
def I_left (H0 : Heap) (g : Nat) (av : AV) (A W : FileL) (k : Nat) (T : Nat → AV) (H : Heap) : Prop :=
  ∃ (i q : Nat) (es : List (AV × AV)) (M : FileL), k + i = A.length ∧ T 1 = .int .i64 q ∧ q < 2 ^ 62 ∧ T 5 = .mp g ∧ T 19 = av ∧ T 20 = .int .i64 A.length ∧ T 21 = .int .i64 i ∧ H g = some (.map es) ∧ FsRel es M ∧ leftF q (A.drop i) M = W ∧
    totL M + totL (A.drop i) ≤ 2 ^ 40 ∧ ∀ x, H0 x ≠ none → H x = H0 x
theorem k_diskLeft {H0 : Heap} {d f k : Nat} {av : AV} {F K A : FileL} (hD : DiskQ H0 d f k av F K A) (kept : Int) (h1 : -9223372036854775808 ≤ kept) (h2 : kept < 2 ^ 62) (hA : A.length < 2 ^ 30) (ht : totL K + totL A ≤ 2 ^ 40) :
    CC PP F_disk_Disk_left [.ptr d 0, .int .i64 kept] H0 fun v H' => ∃ g es, v = .mp g ∧ H0 g = none ∧ H' g = some (.map es) ∧ FsRel es (leftF kept.toNat A K) ∧ ∀ x, H0 x ≠ none → H' x = H0 x := by
  obtain ⟨es, ks, acts, hDA, hF, hK, hAc⟩ := hD
  have hd := hDA.hd
  refine CC.by_vc ok_disk_Disk_left (by simp) ?_
  unfold c_disk_Disk_left
  simp [hd]
  refine CallK.of (k_mapsClone hDA.hk) ?_
  rintro v H1 ⟨g, rfl, hg, rfl⟩
  have hdg : d ≠ g := fun h => by rw [← h, hd] at hg; cases hg
  have hmax : (if kept < 0 then (0 : Int) else kept) = (kept.toNat : Int) := by split <;> omega
  have old0 : ∀ x, H0 x ≠ none → (H0.set g (some (.map ks))) x = H0 x := fun x hx => Heap.set_ne _ _ (fun h => hx (by rw [h]; exact hg))
  obtain ⟨hal, ⟨rfl, hA0⟩ | ⟨b, c, rfl, hb, hc⟩⟩ := hDA.ha
  · have hAn : A = [] := List.length_eq_zero_iff.1 hA0
    subst hAn
    simp [hmax, Heap.set_ne, hdg, hd]
    refine LoopV.mk2 (I_left H0 g .nils [] (leftF kept.toNat [] K)) 0 ⟨0, kept.toNat, ks, K, rfl, by simp, by omega, by simp, by simp, by simp, by simp, Heap.set_self _ _ _, hK, rfl, by simpa [totL] using ht, old0⟩ ?_
    rintro q T H ⟨i, q', es', M, hk, t1, hq, t5, t19, t20, t21, hHg, hM, hW, htot, hold⟩
    have hi : i = 0 := by simp at hk; omega
    subst hi
    simp [t20, t21, t5]
    refine ⟨hg, _, hHg, ?_, hold⟩
    rw [← hW]; exact hM
  · have hbg : b ≠ g := fun h => by rw [← h, hb] at hg; cases hg
    simp [hmax, Heap.set_ne, hdg, hd]
    refine LoopV.mk2 (I_left H0 g (.sl b 0 A.length c) A (leftF kept.toNat A K)) A.length ⟨0, kept.toNat, ks, K, by omega, by simp, by omega, by simp, by simp, by simp, by simp, Heap.set_self _ _ _, hK, rfl, by simpa using ht, old0⟩ ?_
    rintro q T H ⟨i, q', es', M, hk, t1, hq, t5, t19, t20, t21, hHg, hM, hW, htot, hold⟩
    rcases Nat.lt_or_ge i A.length with hi | hi
    · obtain ⟨k', rfl⟩ : ∃ k', q = k' + 1 := ⟨q - 1, by omega⟩
      have hAi : A[i]? = some A[i] := by simp [hi]
      have hdr : A.drop i = A[i] :: A.drop (i + 1) := List.drop_eq_getElem_cons hi
      have htd := totL_drop A hAi
      generalize A[i] = p at hAi hdr htd
      obtain ⟨ub, hcell, hub, hlen⟩ := hAc.at hAi
      have hHb : H b = some (.cells acts (c * 4)) := by rw [hold b (by rw [hb]; simp)]; exact hb
      simp [t19, t20, t21, hi, hHb, hcell, hlen]
      intro bm hbm
      have hgm : g ≠ bm := fun h => by rw [← h, hHg] at hbm; cases hbm
      have doit : ∀ (u : AV) (l : List UInt8) (H2 : Heap), IsB u l → l.length ≤ p.2.length → H2 g = some (.map es') → CC PP F_disk_do [.mp g, .agg [.int .i64 0, .str p.1, u, .int .i64 0]] H2 fun v H' => ∃ es2, H' g = some (.map es2) ∧ FsRel es2 (fapp M p.1 l) ∧ ∀ x, x ≠ g → H2 x ≠ none → H' x = H2 x := fun u l H2 hu hl hg2 =>
        (k_do hg2 (hM.find (n := p.1)) (hM.val p.1) hu 0 (by have := fget_le p.1 M; omega)).mono fun v H' ⟨w, q1, q2, q3⟩ => ⟨_, q2, hM.put q1, q3⟩
      have again : ∀ (T : Nat → AV) (H' H2 : Heap) (es2 : List (AV × AV)), p.2.length ≤ q' → (∀ x, x ≠ g → H2 x ≠ none → H' x = H2 x) → (∀ x, H x ≠ none → x ≠ g → H2 x = H x) → H' g = some (.map es2) → FsRel es2 (fapp M p.1 p.2) → T 1 = .int .i64 ((q' - p.2.length : Nat) : Int) → T 5 = .mp g → T 19 = .sl b 0 A.length c → T 20 = .int .i64 A.length → T 21 = .int .i64 ((i + 1 : Nat) : Int) →
          Again2 (I_left H0 g (.sl b 0 A.length c) A (leftF kept.toNat A K)) (k' + 1) ⟨T, H'⟩ := fun T H' H2 es2 a1 a2 a3 a4 a5 a6 a7 a8 a9 a10 => by
        refine Again2.mk k' (by omega) ⟨i + 1, q' - p.2.length, es2, fapp M p.1 p.2, by omega, a6, by omega, a7, a8, a9, a10, a4, a5, ?_, ?_, fun x hx => ?_⟩
        · rw [← hW, hdr]; simp only [leftF]; rw [if_pos a1]
        · rw [totL_fapp]; omega
        · have hxg : x ≠ g := fun h => hx (by rw [h]; exact hg)
          rw [a2 x hxg (by rw [a3 x (by rw [hold x hx]; exact hx) hxg, hold x hx]; exact hx), a3 x (by rw [hold x hx]; exact hx) hxg, hold x hx]
      have hxm : ∀ w x, H x ≠ none → x ≠ g → (H.set bm w) x = H x := fun w x hx _ => Heap.set_ne _ _ (fun h => hx (by rw [h]; exact hbm))
      rcases hub with ⟨rfl, hp2⟩ | ⟨cu, rfl⟩
      · have hq0 : ¬ ((q' : Int) < 0) := by omega
        simp [Heap.set_self, Heap.set_set, t1, t5, hq0]
        refine CallK.of (doit .nils p.2 _ (.inl ⟨rfl, hp2⟩) (Nat.le_refl _) (by rw [Heap.set_ne _ _ hgm]; exact hHg)) ?_
        rintro v H' ⟨es2, w1, w2, w3⟩
        simp [t21]
        refine again _ _ _ es2 (by rw [hp2]; simp) w3 (hxm _) w1 w2 ?_ ?_ ?_ ?_ ?_
        · simp [hp2]; rw [wrap_i64 (by omega) (by omega)]
        · simp [t5]
        · simp [t19]
        · simp [t20]
        · simp; rw [wrap_i64 (by omega) (by omega)]
      · by_cases hw : p.2.length ≤ q'
        · have hw' : ¬ (q' < p.2.length) := by omega
          have hw2 : (p.2.length : Int) ≤ (q' : Int) := by omega
          simp [Heap.set_self, Heap.set_set, t1, t5, hw, hw', immB, bytesV_length]
          refine CallK.of (doit (.imm (List.take p.2.length (bytesV p.2)) p.2.length cu) p.2 _ (.inr ⟨cu, by rw [List.take_of_length_le (by simp [bytesV_length])]; rfl⟩) (Nat.le_refl _) (by rw [Heap.set_ne _ _ hgm]; exact hHg)) ?_
          rintro v H' ⟨es2, w1, w2, w3⟩
          simp [t21]
          refine again _ _ _ es2 hw w3 (hxm _) w1 w2 ?_ ?_ ?_ ?_ ?_
          · simp; rw [wrap_i64 (by omega) (by omega)]; omega
          · simp [t5]
          · simp [t19]
          · simp [t20]
          · simp; rw [wrap_i64 (by omega) (by omega)]
        · have hw' : q' < p.2.length := by omega
          rcases Nat.eq_zero_or_pos q' with rfl | hq1
          · simp [Heap.set_self, Heap.set_set, t1, t5, hw, hw', immB, bytesV_length]
            have hpn : p.2 ≠ [] := fun h => by rw [h] at hw; simp at hw
            simp [hpn]
            refine ⟨hg, es', by rw [Heap.set_ne _ _ hgm]; exact hHg, ?_, fun x hx => ?_⟩
            · rw [← hW, hdr]; simp only [leftF]; rw [if_neg hw]; simpa using hM
            · rw [hxm _ x (by rw [hold x hx]; exact hx) (fun h => hx (by rw [h]; exact hg)), hold x hx]
          · simp [Heap.set_self, Heap.set_set, t1, t5, hw, hw', immB, bytesV_length, hq1]
            refine ⟨by omega, ?_⟩
            refine CallK.of (doit (.imm (List.take q' (bytesV p.2)) q' cu) (p.2.take q') _ (.inr ⟨cu, ?_⟩) (by simp; omega) (by rw [Heap.set_ne _ _ hgm]; exact hHg)) ?_
            · simp [immB, bytesV_take]; omega
            rintro v H' ⟨es2, w1, w2, w3⟩
            simp [t5]
            refine ⟨hg, es2, w1, ?_, fun x hx => ?_⟩
            · rw [← hW, hdr]; simp only [leftF]; rw [if_neg hw, if_neg (by omega)]; exact w2
            · have hxg : x ≠ g := fun h => hx (by rw [h]; exact hg)
              rw [w3 x hxg (by rw [hxm _ x (by rw [hold x hx]; exact hx) hxg, hold x hx]; exact hx), hxm _ x (by rw [hold x hx]; exact hx) hxg, hold x hx]
    · obtain rfl : q = 0 := by omega
      have hi' : ¬ i < A.length := by omega
      simp [t20, t21, t5, hi']
      rw [List.drop_of_length_le hi] at hW
      refine ⟨hg, _, hHg, ?_, hold⟩
      rw [← hW]; exact hM
theorem diskQ_mono {H H' : Heap} {d f k : Nat} {av : AV} {F K A : FileL} (h : DiskQ H d f k av F K A) (m : ∀ x, H x ≠ none → H' x = H x) : DiskQ H' d f k av F K A := by
  obtain ⟨es, ks, acts, ⟨hd, hf, hk, ha, fk, ad⟩, hF, hK, hAc⟩ := h
  exact ⟨es, ks, acts, ⟨by rw [m d (by rw [hd]; simp)]; exact hd, by rw [m f (by rw [hf]; simp)]; exact hf, by rw [m k (by rw [hk]; simp)]; exact hk,
    ha.keep2 fun b hb => m b (by obtain ⟨cs, q, hq⟩ := ha.blk_live hb; rw [hq]; simp), fk, ad⟩, hF, hK, hAc⟩
def I_crash (H0 : Heap) (d : Nat) (v : AV) (n : Nat) (k : Nat) (T : Nat → AV) (H : Heap) : Prop :=
  ∃ (i : Nat) (b : Int), k + i = n ∧ H = H0 ∧ T 7 = .ptr d 0 ∧ T 22 = v ∧ T 23 = .int .i64 n ∧ T 24 = .int .i64 i ∧ T 2 = .int .i64 b ∧ b < 0 ∧ -2 ^ 62 - i * 2 ^ 40 < b
/-- A crash: what it leaves is another disk. -/
theorem k_diskCrash {H0 : Heap} {d f k : Nat} {av : AV} {F K A : FileL} (hD : DiskQ H0 d f k av F K A) (kept bad : Int) (h1 : -9223372036854775808 ≤ kept) (h2 : kept < 2 ^ 62) (hbad : bad < 0) (hbad2 : -2 ^ 62 < bad) (hA : A.length < 2 ^ 30) (ht : totL K + totL A ≤ 2 ^ 40)
    (hsz : ∀ p ∈ leftF kept.toNat A K, p.1.size ≤ maxLen) (hlen : (leftF kept.toNat A K).length ≤ 2 ^ 20) (htl : totL (leftF kept.toNat A K) ≤ 2 ^ 40) :
    CC PP F_disk_Disk_Crash [.ptr d 0, .int .i64 kept, .int .i64 bad] H0 fun v H' => ∃ d' f' k', v = .ptr d' 0 ∧ H0 d' = none ∧ H0 f' = none ∧ H0 k' = none ∧ DiskQ H' d' f' k' .nils (leftF kept.toNat A K) (leftF kept.toNat A K) [] ∧ ∀ x, H0 x ≠ none → H' x = H0 x := by
  have hd := k_diskNone hD
  refine CC.by_vc ok_disk_Disk_Crash (by simp) ?_
  unfold c_disk_Disk_Crash
  simp
  refine CallK.of k_diskNew ?_
  rintro v H1 ⟨d1, f1, k1, rfl, hD1, n1, n2, n3, o1⟩
  have hd1 : H1 d = some (.cells [.mp f, .mp k, av] 3) := by rw [o1 d (by rw [hd]; simp)]; exact hd
  simp
  have hDH := diskQ_mono hD o1
  refine CallK.of (k_diskLeft hDH kept h1 h2 hA ht) ?_
  rintro v H2 ⟨g, es, rfl, hg1, hg2, hFs, o2⟩
  obtain ⟨es1, ks1, acts1, hDA1, hF1, hK1, hAc1⟩ := hD1
  have hd2 : H2 d1 = some (.cells [.mp f1, .mp k1, .nils] 3) := by rw [o2 d1 (by rw [hDA1.hd]; simp)]; exact hDA1.hd
  have hgd : g ≠ d1 := fun h => by rw [h, hDA1.hd] at hg1; cases hg1
  have hgk : g ≠ k1 := fun h => by rw [h, hDA1.hk] at hg1; cases hg1
  have hkd : k1 ≠ d1 := fun h => by have := hDA1.hk; rw [h, hDA1.hd] at this; cases this
  simp [hd2]
  have hD3 : DiskQ (H2.set d1 (some (.cells [.mp g, .mp k1, .nils] 3))) d1 g k1 .nils (leftF kept.toNat A K) [] [] := by
    refine ⟨es, ks1, [], ⟨Heap.set_self _ _ _, ?_, ?_, ⟨rfl, .inl ⟨rfl, rfl⟩⟩, hgk, by simp [blkOf]⟩, hFs, hK1, rfl⟩
    · rw [Heap.set_ne _ _ hgd]; exact hg2
    · rw [Heap.set_ne _ _ hkd, o2 k1 (by rw [hDA1.hk]; simp)]; exact hDA1.hk
  have o3 : ∀ x, H0 x ≠ none → (H2.set d1 (some (.cells [.mp g, .mp k1, .nils] 3))) x = H0 x := fun x hx => by
    rw [Heap.set_ne _ _ (fun h => hx (by rw [h]; exact n1)), o2 x (by rw [o1 x hx]; exact hx), o1 x hx]
  have g0 : H0 g = none := by
    cases hq : H0 g with
    | none => rfl
    | some z => have := o1 g (by rw [hq]; simp); rw [hg1, hq] at this; cases this
  generalize H2.set d1 (some (.cells [.mp g, .mp k1, .nils] 3)) = H3 at *
  generalize leftF kept.toNat A K = L at *
  refine CallK.of (k_diskList hD3 hsz (by omega)) ?_
  rintro v H4 ⟨rfl, hv⟩
  have hns : (sortS (L.map (·.1))).length = L.length := by unfold sortS; simp
  generalize sortS (L.map (·.1)) = ss at *
  have hd3 := k_diskNone hD3
  obtain ⟨es3, ks3, acts3, hDA3, hF3, _, _⟩ := hD3
  have hf3 := hDA3.hf
  have hD3 : DiskQ H4 d1 g k1 .nils L [] [] := ⟨es3, ks3, acts3, hDA3, hF3, ‹_›, ‹_›⟩
  rcases hv with ⟨rfl, rfl⟩ | ⟨c, rfl⟩
  · simp
    refine LoopV.mk2 (I_crash H4 d1 .nils 0) 0 ⟨0, bad, rfl, rfl, by simp, by simp, by simp, by simp, by simp, hbad, by omega⟩ ?_
    rintro q T H ⟨i, b, hk, rfl, t7, t22, t23, t24, t2, hb1, hb2⟩
    have hi : i = 0 := by omega
    subst hi
    simp [t7, t22, t23, t24]
    refine CallK.of (k_diskSync hD3) ?_
    rintro v H5 ⟨k', hk', hD5, o5⟩
    simp [t7]
    have hk0 : H0 k' = none := by
      cases hq : H0 k' with
      | none => rfl
      | some z => have := o3 k' (by rw [hq]; simp); rw [hk', hq] at this; cases this
    exact ⟨n1, g, g0, k', hk0, hD5, fun x hx => by rw [o5 x (fun h => hx (by rw [h]; exact n1)) (by rw [o3 x hx]; exact hx), o3 x hx]⟩
  · simp
    refine LoopV.mk2 (I_crash H4 d1 (.imm (ss.map .str) ss.length c) ss.length) ss.length ⟨0, bad, by omega, rfl, by simp, by simp, by simp, by simp, by simp, hbad, by omega⟩ ?_
    rintro q T H ⟨i, b, hk, rfl, t7, t22, t23, t24, t2, hb1, hb2⟩
    rcases Nat.lt_or_ge i ss.length with hi | hi
    · obtain ⟨k', rfl⟩ : ∃ k', q = k' + 1 := ⟨q - 1, by omega⟩
      have hsi : (ss.map AV.str)[i]? = some (.str ss[i]) := by simp [hi]
      obtain ⟨n, hn⟩ : ∃ n, ss[i] = n := ⟨_, rfl⟩
      rw [hn] at hsi
      have hfind := hF3.find (n := n)
      have hval := hF3.val n
      have hvv : lkpV false .nils es3 (fidx n L) = valAt es3 (fidx n L) := rfl
      have hfl := fget_le n L
      have hb0 : ¬ (0 ≤ b) := by omega
      rcases hval with ⟨hval, hg⟩ | ⟨cc, hval⟩
      · simp [t7, t22, t23, t24, t2, hi, hn, hd3, hf3, hfind, hvv, hval, hb0, immB]
        refine Again2.mk k' (by omega) ⟨i + 1, b - (fget n L).length, by omega, rfl, by simp [t7], by simp [t22], by simp [t23], ?_, ?_, by omega, by push_cast; omega⟩
        · simp; rw [wrap_i64 (by omega) (by omega)]
        · simp [put, tset]
          rw [wrap_i64 (by omega) (by omega), hg]; simp
      · simp [t7, t22, t23, t24, t2, hi, hn, hd3, hf3, hfind, hvv, hval, hb0, immB]
        refine Again2.mk k' (by omega) ⟨i + 1, b - (fget n L).length, by omega, rfl, by simp [t7], by simp [t22], by simp [t23], ?_, ?_, by omega, by push_cast; omega⟩
        · simp; rw [wrap_i64 (by omega) (by omega)]
        · simp [put, tset]
          rw [wrap_i64 (by omega) (by omega)]
    · obtain rfl : q = 0 := by omega
      simp [t7, t22, t23, t24, show ¬ i < ss.length by omega]
      refine CallK.of (k_diskSync hD3) ?_
      rintro v H5 ⟨k', hk', hD5, o5⟩
      simp [t7]
      have hk0 : H0 k' = none := by
        cases hq : H0 k' with
        | none => rfl
        | some z => have := o3 k' (by rw [hq]; simp); rw [hk', hq] at this; cases this
      exact ⟨n1, g, g0, k', hk0, hD5, fun x hx => by rw [o5 x (fun h => hx (by rw [h]; exact n1)) (by rw [o3 x hx]; exact hx), o3 x hx]⟩
end Go.Proofs.YtcpfodhhjkaibaaGreat
