/- A crash that turns a byte. -/
import Derived.Test.YtffifddlooligaaM3
import Derived.Test.YtffifddlooligaaLU
import Derived.Test.YtffifddlooligaaLX
import Derived.Test.YtffifddlooligaaL3
import Derived.Test.YtffifddlooligaaC9
set_option linter.unusedVariables false
set_option linter.unusedSimpArgs false
set_option maxRecDepth 100000
set_option maxHeartbeats 4000000
namespace Go.Proofs.Ytffifddlooligaa
open Go.Sf
attribute [local simp] s_skip s_ops s_draw s_any s_contA s_tdone s_ttwo s_top_p s_top_pick s_top_e s_top_g s_seq s_cond s_block s_loop s_exit s_ret s_mark s_then_n s_then_e s_then_r s_in_n s_in_e s_in_r s_contC s_contO s_contQ s_contT s_nil s_cons_p s_cons_pick s_cons_e s_cons_g s_qnil s_qcons_p s_qcons_pick s_qcons_e s_qcons_g s_M s_Mg s_Mq s_Mqg s_G_p s_G_pick s_G_e s_Gq_p s_Gq_pick s_Gq_e s_if s_call s_callv s_qcall s_qcallv s_getAll_nil s_getAll_cons s_put_some s_put_none s_ev_t s_ev_c s_ev_f un evP evK argT resAV lenOf_nils lenOf_imm lenOf_sl lenOf_str optI slcV binV isShift binInt binStr shiftInt pickV unV s_append s_alloc s_box s_bslice s_Bs_t s_Bs_f s_store1 s_storeN s_St1 s_St s_s2b s_markb s_Mk s_mkslice s_qbslice s_qs2b s_ret_n s_ret_r s_retc_n s_retc_r s_RV_nil s_RV_t s_RV_c s_RV1 tupOf fillC kn_int cl_int on_int kn_bool cl_bool on_bool kn_str cl_str on_str kn_nilp cl_nilp on_nilp kn_ptr cl_ptr on_ptr kn_iptr cl_iptr on_iptr kn_nils cl_nils on_nils kn_sl cl_sl on_sl kn_imm cl_imm on_imm kn_mp cl_mp on_mp kn_nilm cl_nilm on_nilm kn_fn cl_fn on_fn kn_nilf cl_nilf on_nilf kn_agg cl_agg scalEq flatEq eqV s_copy_i s_copy_s s_Cp s_clr s_clrn s_Cl s_appz s_Az s_ext s_Ov s_mapB s_mapBS s_rng s_rngn s_Rn s_nxt s_Nx0 s_ent s_mkmap s_mset s_mdel mapOf s_Mg_n s_Mqg_n s_gw_b s_gw_u s_gw_gb s_gw_f
theorem wrap_sub {bad : Int} (h0 : -9223372036854775808 ≤ bad) (h1 : bad ≤ 9223372036854775807) {p n : Nat} (hp : p ≤ 2 ^ 40) (hn : n ≤ 2 ^ 40) :
    (IntKind.i64.wrap (IntKind.i64.wrap (bad - p) - n) = IntKind.i64.wrap (bad - (p + n : Nat))) ∧ ((0 ≤ IntKind.i64.wrap (bad - p) ∧ IntKind.i64.wrap (bad - p) < n) ↔ ((p : Int) ≤ bad ∧ bad < p + n)) ∧
    -9223372036854775808 ≤ IntKind.i64.wrap (bad - p) ∧ IntKind.i64.wrap (bad - p) ≤ 9223372036854775807 ∧ ((p : Int) ≤ bad → IntKind.i64.wrap (bad - p) = bad - p) := by
  have key : ∀ x : Int, -9223372036854775808 - 2 ^ 41 ≤ x → x ≤ 9223372036854775807 → IntKind.i64.wrap x = if x < -9223372036854775808 then x + 18446744073709551616 else x := fun x hx0 hx1 => by
    unfold IntKind.wrap
    simp only [show IntKind.i64.signed = true from rfl, show IntKind.i64.bits = 64 from rfl, Bool.true_and, decide_eq_true_eq]
    by_cases hx : x < -9223372036854775808
    · rw [if_pos hx]; split <;> omega
    · rw [if_neg hx]; split <;> omega
  have e1 := key (bad - p) (by omega) (by omega)
  have e2 := key (bad - (p + n : Nat)) (by omega) (by omega)
  rw [e1, e2]
  by_cases hx : bad - (p : Int) < -9223372036854775808
  · rw [if_pos hx, if_pos (by omega)]
    refine ⟨?_, by omega, by omega, by omega, by omega⟩
    rw [wrap_i64 (by omega) (by omega)]; omega
  · rw [if_neg hx]
    refine ⟨?_, by omega, by omega, by omega, by omega⟩
    rw [key _ (by omega) (by omega)]
    have : bad - (p : Int) - n = bad - ((p + n : Nat) : Int) := by omega
    rw [this]
def I_leftG (H0 : Heap) (g : Nat) (av : AV) (A W : FileL) (k : Nat) (T : Nat → AV) (H : Heap) : Prop :=
  ∃ (i q : Nat) (es : List (AV × AV)) (M : FileL), k + i = A.length ∧ T 1 = .int .i64 q ∧ q ≤ 9223372036854775807 ∧ T 5 = .mp g ∧ T 19 = av ∧ T 20 = .int .i64 A.length ∧ T 21 = .int .i64 i ∧ H g = some (.map es) ∧ FsRel es M ∧ leftF q (A.drop i) M = W ∧
    totL M + totL (A.drop i) ≤ 2 ^ 40 ∧ ∀ x, H0 x ≠ none → H x = H0 x
theorem k_diskLeftG {H0 : Heap} {d f k : Nat} {av : AV} {F K A : FileL} (hD : DiskQ H0 d f k av F K A) (kept : Int) (h1 : -9223372036854775808 ≤ kept) (h2 : kept ≤ 9223372036854775807) (hA : A.length < 2 ^ 30) (ht : totL K + totL A ≤ 2 ^ 40) :
    CC PP F_disk_Disk_left [.ptr d 0, .int .i64 kept] H0 fun v H' => ∃ g es, v = .mp g ∧ H0 g = none ∧ H' g = some (.map es) ∧ FsRel es (leftF kept.toNat A K) ∧ ∀ x, H0 x ≠ none → H' x = H0 x := by
  obtain ⟨es, ks, acts, hDA, hF, hK, hAc⟩ := hD
  have hd := hDA.hd
  refine CC.by_vc ok_disk_Disk_left (by simp) ?_
  unfold c_disk_Disk_left
  simp [hd]
  refine CallK.of (k_mapsClone hDA.hk) ?_
  rintro v H1 ⟨g, rfl, hg, rfl⟩
  have hdg : d ≠ g := fun h => by rw [← h, hd] at hg; cases hg
  have hmax : (if kept < 0 then (0 : Int) else kept) = (kept.toNat : Int) := by split <;> omega
  have old0 : ∀ x, H0 x ≠ none → (H0.set g (some (.map ks))) x = H0 x := fun x hx => Heap.set_ne _ _ (fun h => hx (by rw [h]; exact hg))
  obtain ⟨hal, ⟨rfl, hA0⟩ | ⟨b, c, rfl, hb, hc⟩⟩ := hDA.ha
  · have hAn : A = [] := List.length_eq_zero_iff.1 hA0
    subst hAn
    simp [hmax, Heap.set_ne, hdg, hd]
    refine LoopV.mk2 (I_leftG H0 g .nils [] (leftF kept.toNat [] K)) 0 ⟨0, kept.toNat, ks, K, rfl, by simp, by omega, by simp, by simp, by simp, by simp, Heap.set_self _ _ _, hK, rfl, by simpa [totL] using ht, old0⟩ ?_
    rintro q T H ⟨i, q', es', M, hk, t1, hq, t5, t19, t20, t21, hHg, hM, hW, htot, hold⟩
    have hi : i = 0 := by simp at hk; omega
    subst hi
    simp [t20, t21, t5]
    refine ⟨hg, _, hHg, ?_, hold⟩
    rw [← hW]; exact hM
  · have hbg : b ≠ g := fun h => by rw [← h, hb] at hg; cases hg
    simp [hmax, Heap.set_ne, hdg, hd]
    refine LoopV.mk2 (I_leftG H0 g (.sl b 0 A.length c) A (leftF kept.toNat A K)) A.length ⟨0, kept.toNat, ks, K, by omega, by simp, by omega, by simp, by simp, by simp, by simp, Heap.set_self _ _ _, hK, rfl, by simpa using ht, old0⟩ ?_
    rintro q T H ⟨i, q', es', M, hk, t1, hq, t5, t19, t20, t21, hHg, hM, hW, htot, hold⟩
    rcases Nat.lt_or_ge i A.length with hi | hi
    · obtain ⟨k', rfl⟩ : ∃ k', q = k' + 1 := ⟨q - 1, by omega⟩
      have hAi : A[i]? = some A[i] := by simp [hi]
      have hdr : A.drop i = A[i] :: A.drop (i + 1) := List.drop_eq_getElem_cons hi
      have htd := totL_drop A hAi
      generalize A[i] = p at hAi hdr htd
      obtain ⟨ub, hcell, hub, hlen⟩ := hAc.at hAi
      have hHb : H b = some (.cells acts (c * 4)) := by rw [hold b (by rw [hb]; simp)]; exact hb
      simp [t19, t20, t21, hi, hHb, hcell, hlen]
      intro bm hbm
      have hgm : g ≠ bm := fun h => by rw [← h, hHg] at hbm; cases hbm
      have doit : ∀ (u : AV) (l : List UInt8) (H2 : Heap), IsB u l → l.length ≤ p.2.length → H2 g = some (.map es') → CC PP F_disk_do [.mp g, .agg [.int .i64 0, .str p.1, u, .int .i64 0]] H2 fun v H' => ∃ es2, H' g = some (.map es2) ∧ FsRel es2 (fapp M p.1 l) ∧ ∀ x, x ≠ g → H2 x ≠ none → H' x = H2 x := fun u l H2 hu hl hg2 =>
        (k_do hg2 (hM.find (n := p.1)) (hM.val p.1) hu 0 (by have := fget_le p.1 M; omega)).mono fun v H' ⟨w, q1, q2, q3⟩ => ⟨_, q2, hM.put q1, q3⟩
      have again : ∀ (T : Nat → AV) (H' H2 : Heap) (es2 : List (AV × AV)), p.2.length ≤ q' → (∀ x, x ≠ g → H2 x ≠ none → H' x = H2 x) → (∀ x, H x ≠ none → x ≠ g → H2 x = H x) → H' g = some (.map es2) → FsRel es2 (fapp M p.1 p.2) → T 1 = .int .i64 ((q' - p.2.length : Nat) : Int) → T 5 = .mp g → T 19 = .sl b 0 A.length c → T 20 = .int .i64 A.length → T 21 = .int .i64 ((i + 1 : Nat) : Int) →
          Again2 (I_leftG H0 g (.sl b 0 A.length c) A (leftF kept.toNat A K)) (k' + 1) ⟨T, H'⟩ := fun T H' H2 es2 a1 a2 a3 a4 a5 a6 a7 a8 a9 a10 => by
        refine Again2.mk k' (by omega) ⟨i + 1, q' - p.2.length, es2, fapp M p.1 p.2, by omega, a6, by omega, a7, a8, a9, a10, a4, a5, ?_, ?_, fun x hx => ?_⟩
        · rw [← hW, hdr]; simp only [leftF]; rw [if_pos a1]
        · rw [totL_fapp]; omega
        · have hxg : x ≠ g := fun h => hx (by rw [h]; exact hg)
          rw [a2 x hxg (by rw [a3 x (by rw [hold x hx]; exact hx) hxg, hold x hx]; exact hx), a3 x (by rw [hold x hx]; exact hx) hxg, hold x hx]
      have hxm : ∀ w x, H x ≠ none → x ≠ g → (H.set bm w) x = H x := fun w x hx _ => Heap.set_ne _ _ (fun h => hx (by rw [h]; exact hbm))
      rcases hub with ⟨rfl, hp2⟩ | ⟨cu, rfl⟩
      · have hq0 : ¬ ((q' : Int) < 0) := by omega
        simp [Heap.set_self, Heap.set_set, t1, t5, hq0]
        refine CallK.of (doit .nils p.2 _ (.inl ⟨rfl, hp2⟩) (Nat.le_refl _) (by rw [Heap.set_ne _ _ hgm]; exact hHg)) ?_
        rintro v H' ⟨es2, w1, w2, w3⟩
        simp [t21]
        refine again _ _ _ es2 (by rw [hp2]; simp) w3 (hxm _) w1 w2 ?_ ?_ ?_ ?_ ?_
        · simp [hp2]; rw [wrap_i64 (by omega) (by omega)]
        · simp [t5]
        · simp [t19]
        · simp [t20]
        · simp; rw [wrap_i64 (by omega) (by omega)]
      · by_cases hw : p.2.length ≤ q'
        · have hw' : ¬ (q' < p.2.length) := by omega
          have hw2 : (p.2.length : Int) ≤ (q' : Int) := by omega
          simp [Heap.set_self, Heap.set_set, t1, t5, hw, hw', immB, bytesV_length]
          refine CallK.of (doit (.imm (List.take p.2.length (bytesV p.2)) p.2.length cu) p.2 _ (.inr ⟨cu, by rw [List.take_of_length_le (by simp [bytesV_length])]; rfl⟩) (Nat.le_refl _) (by rw [Heap.set_ne _ _ hgm]; exact hHg)) ?_
          rintro v H' ⟨es2, w1, w2, w3⟩
          simp [t21]
          refine again _ _ _ es2 hw w3 (hxm _) w1 w2 ?_ ?_ ?_ ?_ ?_
          · simp; rw [wrap_i64 (by omega) (by omega)]; omega
          · simp [t5]
          · simp [t19]
          · simp [t20]
          · simp; rw [wrap_i64 (by omega) (by omega)]
        · have hw' : q' < p.2.length := by omega
          rcases Nat.eq_zero_or_pos q' with rfl | hq1
          · simp [Heap.set_self, Heap.set_set, t1, t5, hw, hw', immB, bytesV_length]
            have hpn : p.2 ≠ [] := fun h => by rw [h] at hw; simp at hw
            simp [hpn]
            refine ⟨hg, es', by rw [Heap.set_ne _ _ hgm]; exact hHg, ?_, fun x hx => ?_⟩
            · rw [← hW, hdr]; simp only [leftF]; rw [if_neg hw]; simpa using hM
            · rw [hxm _ x (by rw [hold x hx]; exact hx) (fun h => hx (by rw [h]; exact hg)), hold x hx]
          · simp [Heap.set_self, Heap.set_set, t1, t5, hw, hw', immB, bytesV_length, hq1]
            refine ⟨by omega, ?_⟩
            refine CallK.of (doit (.imm (List.take q' (bytesV p.2)) q' cu) (p.2.take q') _ (.inr ⟨cu, ?_⟩) (by simp; omega) (by rw [Heap.set_ne _ _ hgm]; exact hHg)) ?_
            · simp [immB, bytesV_take]; omega
            rintro v H' ⟨es2, w1, w2, w3⟩
            simp [t5]
            refine ⟨hg, es2, w1, ?_, fun x hx => ?_⟩
            · rw [← hW, hdr]; simp only [leftF]; rw [if_neg hw, if_neg (by omega)]; exact w2
            · have hxg : x ≠ g := fun h => hx (by rw [h]; exact hg)
              rw [w3 x hxg (by rw [hxm _ x (by rw [hold x hx]; exact hx) hxg, hold x hx]; exact hx), hxm _ x (by rw [hold x hx]; exact hx) hxg, hold x hx]
    · obtain rfl : q = 0 := by omega
      have hi' : ¬ i < A.length := by omega
      simp [t20, t21, t5, hi']
      rw [List.drop_of_length_le hi] at hW
      refine ⟨hg, _, hHg, ?_, hold⟩
      rw [← hW]; exact hM
def I_crw (H3 : Heap) (d g k1 : Nat) (v : AV) (ss : List ByteArray) (L : FileL) (bad : Int) (k : Nat) (T : Nat → AV) (H : Heap) : Prop :=
  ∃ (i : Nat) (L' : FileL) (es : List (AV × AV)), k + i = ss.length ∧ T 7 = .ptr d 0 ∧ T 22 = v ∧ T 23 = .int .i64 ss.length ∧ T 24 = .int .i64 i ∧ T 2 = .int .i64 (IntKind.i64.wrap (bad - preL L (ss.take i))) ∧
    turnG bad (ss.drop i) (preL L (ss.take i)) L' = turnG bad ss 0 L ∧ (∀ m, (fget m L').length = (fget m L).length) ∧ L'.map (·.1) = L.map (·.1) ∧ FsRel es L' ∧ H g = some (.map es) ∧ ∀ x, x ≠ g → H3 x ≠ none → H x = H3 x
theorem preL_take (L : FileL) {ss : List ByteArray} {i : Nat} {n : ByteArray} (h : ss[i]? = some n) : preL L (ss.take (i + 1)) = preL L (ss.take i) + (fget n L).length := by
  unfold preL
  rw [List.take_add_one, h]; simp
theorem preL_le {L : FileL} {N : Nat} (h : totL L ≤ N) (ss : List ByteArray) : preL L ss ≤ ss.length * N := by
  unfold preL
  induction ss with
  | nil => simp
  | cons n ss ih =>
    have := fget_le n L
    simp only [List.map_cons, List.sum_cons, List.length_cons, Nat.succ_mul]; omega
theorem xor1_u8 (c : UInt8) : bitsOf .u8 (· ^^^ ·) (c.toNat : Int) 1 = (((c ^^^ 1).toNat : Nat) : Int) := by
  have h := xor_u8 (y := c.toNat) (x := 1) (UInt8.toNat_lt c) (by omega)
  have h2 : (c ^^^ 1).toNat = c.toNat ^^^ 1 := by simp
  rw [h2]; exact h
theorem k_diskCrashW {H0 : Heap} {d f k : Nat} {av : AV} {F K A : FileL} (hD : DiskQ H0 d f k av F K A) (kept bad : Int) (h1 : -9223372036854775808 ≤ kept) (h2 : kept ≤ 9223372036854775807) (hb0 : -9223372036854775808 ≤ bad) (hb1 : bad ≤ 9223372036854775807) (hA : A.length < 2 ^ 30) (ht : totL K + totL A ≤ 2 ^ 40)
    (hsz : ∀ p ∈ leftF kept.toNat A K, p.1.size ≤ maxLen) (hlen : (leftF kept.toNat A K).length ≤ 2 ^ 20) (htl : totL (leftF kept.toNat A K) ≤ 2 ^ 20) :
    CC PP F_disk_Disk_Crash [.ptr d 0, .int .i64 kept, .int .i64 bad] H0 fun v H' => ∃ d' f' k' L', v = .ptr d' 0 ∧ H0 d' = none ∧ H0 f' = none ∧ H0 k' = none ∧ L' = turnG bad (sortS ((leftF kept.toNat A K).map (·.1))) 0 (leftF kept.toNat A K) ∧ DiskQ H' d' f' k' .nils L' L' [] ∧ ∀ x, H0 x ≠ none → H' x = H0 x := by
  have hd := k_diskNone hD
  refine CC.by_vc ok_disk_Disk_CrashW (by simp) ?_
  unfold c_disk_Disk_CrashW
  simp
  refine CallK.of k_diskNew ?_
  rintro v H1 ⟨d1, f1, k1, rfl, hD1, n1, n2, n3, o1⟩
  have hd1 : H1 d = some (.cells [.mp f, .mp k, av] 3) := by rw [o1 d (by rw [hd]; simp)]; exact hd
  simp
  have hDH := diskQ_mono hD o1
  refine CallK.of (k_diskLeftG hDH kept h1 h2 hA ht) ?_
  rintro v H2 ⟨g, es, rfl, hg1, hg2, hFs, o2⟩
  obtain ⟨es1, ks1, acts1, hDA1, hF1, hK1, hAc1⟩ := hD1
  have hd2 : H2 d1 = some (.cells [.mp f1, .mp k1, .nils] 3) := by rw [o2 d1 (by rw [hDA1.hd]; simp)]; exact hDA1.hd
  have hgd : g ≠ d1 := fun h => by rw [h, hDA1.hd] at hg1; cases hg1
  have hgk : g ≠ k1 := fun h => by rw [h, hDA1.hk] at hg1; cases hg1
  have hkd : k1 ≠ d1 := fun h => by have := hDA1.hk; rw [h, hDA1.hd] at this; cases this
  simp [hd2]
  have hD3 : DiskQ (H2.set d1 (some (.cells [.mp g, .mp k1, .nils] 3))) d1 g k1 .nils (leftF kept.toNat A K) [] [] := by
    refine ⟨es, ks1, [], ⟨Heap.set_self _ _ _, ?_, ?_, ⟨rfl, .inl ⟨rfl, rfl⟩⟩, hgk, by simp [blkOf]⟩, hFs, hK1, rfl⟩
    · rw [Heap.set_ne _ _ hgd]; exact hg2
    · rw [Heap.set_ne _ _ hkd, o2 k1 (by rw [hDA1.hk]; simp)]; exact hDA1.hk
  have o3 : ∀ x, H0 x ≠ none → (H2.set d1 (some (.cells [.mp g, .mp k1, .nils] 3))) x = H0 x := fun x hx => by
    rw [Heap.set_ne _ _ (fun h => hx (by rw [h]; exact n1)), o2 x (by rw [o1 x hx]; exact hx), o1 x hx]
  have g0 : H0 g = none := by
    cases hq : H0 g with
    | none => rfl
    | some z => have := o1 g (by rw [hq]; simp); rw [hg1, hq] at this; cases this
  generalize H2.set d1 (some (.cells [.mp g, .mp k1, .nils] 3)) = H3 at *
  generalize leftF kept.toNat A K = L at *
  refine CallK.of (k_diskList hD3 hsz (by omega)) ?_
  rintro v H4 ⟨rfl, hv⟩
  have hns : (sortS (L.map (·.1))).length = L.length := by unfold sortS; simp
  have hmem : ∀ n ∈ sortS (L.map (·.1)), n ∈ L.map (·.1) := fun n hn => (sortS_perm _).mem_iff.1 hn
  generalize sortS (L.map (·.1)) = ss at *
  have hd3 := k_diskNone hD3
  obtain ⟨es3, ks3, acts3, hDA3, hF3, hK3, _⟩ := hD3
  have hf3 := hDA3.hf
  have hk3 := hDA3.hk
  refine (have tail : ∀ (T : Nat → AV), T 7 = .ptr d1 0 → T 22 = v → T 23 = .int .i64 ss.length → T 24 = .int .i64 0 → T 2 = .int .i64 bad → LoopV ?R ⟨T, H4⟩ ?Q := ?tl
    ?main)
  case main =>
    rcases hv with ⟨hv1, hv2⟩ | ⟨c, hv1⟩
    · simp [hv1]
      refine tail _ ?_ ?_ ?_ ?_ ?_ <;> simp [hv1, hv2]
    · simp [hv1]
      refine tail _ ?_ ?_ ?_ ?_ ?_ <;> simp [hv1]
  case tl =>
  intro T t7 t22 t23 t24 t2
  refine LoopV.mk2 (I_crw H4 d1 g k1 v ss L bad) ss.length ⟨0, L, es3, by omega, t7, t22, t23, t24, ?_, by simp [preL], fun _ => rfl, rfl, hF3, hf3, fun _ _ _ => rfl⟩ ?_
  · simp [preL]; rw [wrap_i64 hb0 (by omega)]; exact t2
  clear t7 t22 t23 t24 t2 T
  rintro q T H ⟨i, L', es', hk, t7, t22, t23, t24, t2, htg, hlL, hnm, hFs', hg', hold⟩
  have hdH : H d1 = some (.cells [.mp g, .mp k1, .nils] 3) := by rw [hold d1 (fun h => hgd h.symm) (by rw [hd3]; simp)]; exact hd3
  have hkH : H k1 = some (.map ks3) := by rw [hold k1 (fun h => hgk h.symm) (by rw [hk3]; simp)]; exact hk3
  rcases Nat.lt_or_ge i ss.length with hi | hi
  · obtain ⟨c, rfl⟩ := hv.resolve_left (fun h => by rw [h.2] at hi; simp at hi)
    obtain ⟨k', rfl⟩ : ∃ k', q = k' + 1 := ⟨q - 1, by omega⟩
    have hsi : (ss.map AV.str)[i]? = some (.str ss[i]) := by simp [hi]
    have hsn : ss[i]? = some ss[i] := by simp [hi]
    have hmn := hmem ss[i] (List.getElem_mem hi)
    have hdr : ss.drop i = ss[i] :: ss.drop (i + 1) := by rw [List.drop_eq_getElem_cons hi]
    obtain ⟨n, hn⟩ : ∃ n, ss[i] = n := ⟨_, rfl⟩
    rw [hn] at hsi hsn hmn hdr
    have hpt := preL_take L hsn
    have hple := preL_le htl (ss.take i)
    have hfind := hFs'.find (n := n)
    have hval := hFs'.val n
    have hvv : lkpV false .nils es' (fidx n L') = valAt es' (fidx n L') := rfl
    have hfl := fget_le n L
    have hpm : preL L (ss.take i) ≤ 2 ^ 40 := by
      refine Nat.le_trans hple ?_
      have : (ss.take i).length ≤ 2 ^ 20 := by simp; omega
      calc (ss.take i).length * 2 ^ 20 ≤ 2 ^ 20 * 2 ^ 20 := Nat.mul_le_mul_right _ this
        _ = 2 ^ 40 := by decide
    have hll := hlL n
    obtain ⟨w1, w2, w3, w4, w5⟩ := wrap_sub hb0 hb1 (p := preL L (ss.take i)) (n := (fget n L).length) hpm (by omega)
    rw [← hpt] at w1
    have hvl : lenOf (valAt es' (fidx n L')) = some (fget n L').length := hval.len
    have hvu := hval.un
    rw [hll] at hvl
    generalize IntKind.i64.wrap (bad - (preL L (ss.take i) : Int)) = b at *
    have step : ∀ (T' : Nat → AV) (H' : Heap) (es2 : List (AV × AV)), T' 7 = T 7 → T' 22 = T 22 → T' 23 = T 23 → T' 24 = .int .i64 (i + 1 : Nat) → T' 2 = .int .i64 (IntKind.i64.wrap (bad - (preL L (ss.take (i + 1)) : Nat))) → FsRel es2 (turn1 bad n (preL L (ss.take i)) L') → H' g = some (.map es2) → (∀ x, x ≠ g → H4 x ≠ none → H' x = H4 x) →
        I_crw H4 d1 g k1 (.imm (ss.map .str) ss.length c) ss L bad k' T' H' := fun T' H' es2 q7 q22 q23 q24 q2 qF qg qh => by
      refine ⟨i + 1, turn1 bad n (preL L (ss.take i)) L', es2, by omega, by rw [q7]; exact t7, by rw [q22]; exact t22, by rw [q23]; exact t23, q24, q2, ?_, ?_, ?_, qF, qg, qh⟩
      · rw [← htg, hdr, turnG_cons, hll, hpt]
      · intro m; rw [turn1_len, hlL m]
      · rw [turn1_names bad _ (by rw [hnm]; exact hmn), hnm]
    by_cases hc : 0 ≤ b ∧ b < (fget n L).length
    · obtain ⟨cc, hval⟩ := hval.resolve_left (fun h => by rw [h.2] at hll; simp at hll; omega)
      simp [t7, t22, t23, t24, t2, hi, hn, hdH, hg', hfind, hvv, hval, immB, hll, hc.1, hc.2]
      have hne : fget n L' ≠ [] := fun h => by rw [h] at hll; simp at hll; omega
      have hcm := k_cloneM (H := H) (b := .imm (bytesV (fget n L')) (fget n L').length cc) (l := fget n L') (.inl (.inr ⟨cc, rfl⟩)) (by omega) hne
      rw [hll] at hcm
      refine CallK.of hcm ?_
      rintro w H5 ⟨hw, o5, n5⟩
      obtain ⟨y, cy, rfl, hy, hcy, _⟩ := own_sl hw (by omega)
      have hbt : b.toNat < (fget n L).length := by omega
      have hby : (bytesV (fget n L'))[b.toNat]? = some (.int .u8 (((fget n L')[b.toNat]'(by omega)).toNat : Nat)) := by simp [bytesV, hll, hbt]; rfl
      have hfe : flipA (fget n L') b.toNat = (fget n L').set b.toNat (((fget n L')[b.toNat]'(by omega)) ^^^ 1) := by
        unfold flipA; congr 2; simp [List.getD, hll, hbt]
      generalize (fget n L')[b.toNat]'(by omega) = c8 at *
      have hxr := xor1_u8 c8
      simp [hy, hc.1, hc.2, hby, t2, hxr]
      refine ⟨by rw [bytesV_length, hll]; exact hc.2, ?_⟩
      have eC : (bytesV (fget n L')).set b.toNat (.int .u8 ((c8.toNat ^^^ 1 : Nat) : Int)) = bytesV (flipA (fget n L') b.toNat) := by
        rw [hfe]; unfold bytesV; rw [List.map_set]
        refine congrArg _ ?_
        show _ = AV.int .u8 (((c8 ^^^ 1).toNat : Nat) : Int)
        have h2 : (c8 ^^^ 1).toNat = c8.toNat ^^^ 1 := by simp
        rw [h2]
      rw [eC]
      have hyH : H y = none := n5 y rfl
      have hyd : d1 ≠ y := fun h => by rw [← h, hdH] at hyH; cases hyH
      have hyg : g ≠ y := fun h => by rw [← h, hg'] at hyH; cases hyH
      have hw6 : OwnR (H5.set y (some (.cells (bytesV (flipA (fget n L') b.toNat)) cy))) 1 (fget n L).length (.sl y 0 (fget n L).length cy) (bytesV (flipA (fget n L') b.toNat)) :=
        ⟨by rw [bytesV_length, flipA_length, hll, Nat.mul_one], .inr ⟨y, cy, rfl, by rw [Heap.set_self]; simp, hcy⟩⟩
      refine MarkV.ownS 10 (by simp) hw6 ?_
      intro H6 hk6
      have o6 : ∀ x, x ≠ y → H6 x = H5 x := fun x hx => by rw [hk6 x (by simp [blkOf]; exact fun h => hx h.symm), Heap.set_ne _ _ hx]
      have hd6 : H6 d1 = some (.cells [.mp g, .mp k1, .nils] 3) := by rw [o6 d1 hyd, o5 d1 (by rw [hdH]; simp)]; exact hdH
      have hg6 : H6 g = some (.map es') := by rw [o6 g hyg, o5 g (by rw [hg']; simp)]; exact hg'
      have hfpos : (preL L (ss.take i) : Int) ≤ bad ∧ bad < preL L (ss.take i) + (fget n L).length := w2.1 hc
      have hbn : b.toNat = (bad - (preL L (ss.take i) : Nat)).toNat := by rw [w5 hfpos.1]
      have ht1 : turn1 bad n (preL L (ss.take i)) L' = fset n (flipA (fget n L') b.toNat) L' := by
        unfold turn1
        rw [if_pos (by rw [hll]; exact hfpos), hbn]
      rw [ht1] at step
      have hFn := hFs'.put (n := n) (w := .imm (bytesV (flipA (fget n L') b.toNat)) (fget n L).length none) (l := flipA (fget n L') b.toNat) (.inr ⟨none, by unfold immB; rw [flipA_length, hll]⟩)
      simp [t7, hd6, hg6, hfind, Heap.set_self]
      rw [s_Mset hfind]
      have hl6 : (fget n (fset n (flipA (fget n L') b.toNat) L')).length = (fget n L).length := by rw [fget_set, if_pos rfl, flipA_length, hll]
      have hfd7 := hFn.find (n := n)
      have hva7 := hFn.val n
      have hvv7 : ∀ es2 r, lkpV false .nils es2 r = valAt es2 r := fun _ _ => rfl
      generalize msetV (.str n) (.imm (bytesV (flipA (fget n L') b.toNat)) (fget n L).length none) es' (fidx n L') = es7 at *
      obtain ⟨c7, hva7⟩ := hva7.resolve_left (fun h => by rw [h.2] at hl6; simp at hl6; omega)
      have hgd7 : (H6.set g (some (.map es7))) d1 = some (.cells [.mp g, .mp k1, .nils] 3) := by rw [Heap.set_ne _ _ (fun h => hgd h.symm)]; exact hd6
      simp [t7, t2, t24, hgd7, Heap.set_self, hfd7, hvv7, hva7, immB, hl6]
      refine Again2.mk k' (by omega) (step _ _ es7 ?_ ?_ ?_ ?_ ?_ hFn (Heap.set_self _ _ _) ?_)
      · simp
      · simp
      · simp
      · simp; rw [wrap_i64 (by omega) (by omega)]
      · simp [put, tset]; rw [← w1]
      · intro x hxg hx
        rw [Heap.set_ne _ _ hxg, o6 x (fun h => hx (by
          have := hold x hxg hx
          rw [← this, h]; exact hyH)), o5 x (by rw [hold x hxg hx]; exact hx), hold x hxg hx]
    · have h1' : turn1 bad n (preL L (ss.take i)) L' = L' := by
        unfold turn1
        rw [if_neg (by rw [hll, ← w2]; exact hc)]
      rw [h1'] at step
      by_cases hb00 : 0 ≤ b
      · have hb01 : ¬ b < (fget n L).length := fun h => hc ⟨hb00, h⟩
        rcases hval with ⟨hval, hg⟩ | ⟨cc, hval⟩
        · rw [hg] at hll
          simp at hll
          simp [t7, t22, t23, t24, t2, hi, hn, hdH, hg', hfind, hvv, hval, immB, hb00, show ¬ b < 0 by omega]
          refine Again2.mk k' (by omega) (step _ _ es' ?_ ?_ ?_ ?_ ?_ ?_ hg' hold)
          · simp
          · simp
          · simp
          · simp; rw [wrap_i64 (by omega) (by omega)]
          · simp [put, tset]; rw [← w1, ← hll]; simp
          · exact hFs'
        · simp [t7, t22, t23, t24, t2, hi, hn, hdH, hg', hfind, hvv, hval, immB, hll, hb00, hb01]
          refine Again2.mk k' (by omega) (step _ _ es' ?_ ?_ ?_ ?_ ?_ ?_ hg' hold)
          · simp
          · simp
          · simp
          · simp; rw [wrap_i64 (by omega) (by omega)]
          · simp [put, tset]; rw [← w1]
          · exact hFs'
      · rcases hval with ⟨hval, hg⟩ | ⟨cc, hval⟩
        · rw [hg] at hll
          simp at hll
          simp [t7, t22, t23, t24, t2, hi, hn, hdH, hg', hfind, hvv, hval, immB, hb00]
          refine Again2.mk k' (by omega) (step _ _ es' ?_ ?_ ?_ ?_ ?_ ?_ hg' hold)
          · simp
          · simp
          · simp
          · simp; rw [wrap_i64 (by omega) (by omega)]
          · simp [put, tset]; rw [← w1, ← hll]; simp
          · exact hFs'
        · simp [t7, t22, t23, t24, t2, hi, hn, hdH, hg', hfind, hvv, hval, immB, hll, hb00]
          refine Again2.mk k' (by omega) (step _ _ es' ?_ ?_ ?_ ?_ ?_ ?_ hg' hold)
          · simp
          · simp
          · simp
          · simp; rw [wrap_i64 (by omega) (by omega)]
          · simp [put, tset]; rw [← w1]
          · exact hFs'
  · obtain rfl : q = 0 := by omega
    obtain rfl : i = ss.length := by omega
    rw [List.drop_length] at htg
    have hD9 : DiskQ H d1 g k1 .nils L' [] [] := ⟨es', ks3, [], ⟨hdH, hg', hkH, ⟨rfl, .inl ⟨rfl, rfl⟩⟩, hgk, by simp [blkOf]⟩, hFs', hK3, rfl⟩
    simp [t7, t22, t23, t24]
    refine CallK.of (k_diskSync hD9) ?_
    rintro v H5 ⟨k', hk', hD5, o5⟩
    simp [t7]
    have hold0 : ∀ x, H0 x ≠ none → H x = H0 x := fun x hx => by rw [hold x (fun h => hx (by rw [h]; exact g0)) (by rw [o3 x hx]; exact hx), o3 x hx]
    have hk0 : H0 k' = none := by
      cases hq : H0 k' with
      | none => rfl
      | some z => have := hold0 k' (by rw [hq]; simp); rw [hk', hq] at this; cases this
    rw [← htg]
    exact ⟨n1, g, g0, k', hk0, hD5, fun x hx => by rw [o5 x (fun h => hx (by rw [h]; exact n1)) (by rw [hold0 x hx]; exact hx), hold0 x hx]⟩
end Go.Proofs.Ytffifddlooligaa
