/- Disks: what is done to files, what is noted. -/
import Derived.Test.YtcpfodhhjkaibaaGreatC3
import Derived.Test.YtcpfodhhjkaibaaGreatK10
set_option linter.unusedVariables false
set_option linter.unusedSimpArgs false
set_option maxRecDepth 100000
namespace Go.Sf
theorem q_append {P : Program} {sz bytes n m : Nat} {s x : AV} {old new : List AV} {H : Heap} {K : AV → Prop} (h1 : appOld H sz s = some (old, none)) (h2 : cellsOf H sz x = some new) (h3 : lenOf s = some n) (h4 : lenOf x = some m)
    (h5 : new.all AV.one = true) (h6 : (n + m) * bytes ≤ 140737488355328) (k : K (.imm (old ++ new) (n + m) none)) : vcQE P (.append true sz bytes) [s, x] H K := by
  simp only [vcQE, h1, h2, h3, h4]
  exact ⟨h5, h6, k⟩
/-- A slice of bytes of which it is known whether it is nil. -/
def IsB1 (v : AV) (l : List UInt8) : Prop := (v = .nils ∧ l = []) ∨ (l ≠ [] ∧ ∃ c, v = immB l c)
theorem IsB1.isB {v : AV} {l : List UInt8} (h : IsB1 v l) : IsB v l := h.elim .inl fun h => .inr h.2
theorem CP.imm_nil {P : Program} {f : Nat} {c : Option Nat} {R : AV → Prop} (h1 : CP P f [.nils] R) (h2 : CP P f [.emp] R) : CP P f [.imm [] 0 c] R := by
  intro M w vs hv hr
  simp only [VRels] at hv
  obtain ⟨x, _, rfl, hx, rfl⟩ := hv
  simp only [VRel] at hx
  obtain ⟨A, us, k, rfl, h3, h4, h5, h6, h7⟩ := hx
  cases A with
  | none =>
    obtain ⟨rfl, _⟩ := h5 rfl
    exact h1 M w _ (.cons (by simp only [VRel]) .nil) hr
  | some a =>
    exact h2 M w _ (.cons (by simp only [VRel]; exact ⟨a, k, rfl⟩) .nil) hr
/-- What stands at a key. -/
def valAt (F : List (AV × AV)) (r : Option Nat) : AV := lkpV false .nils F r
theorem lkp_t (z : AV) (F : List (AV × AV)) (r : Option Nat) : lkpV true z F r = .tup [lkpV false z F r, .bool r.isSome] := rfl
/-- A disk: its block, its files, what is kept, its acts. -/
structure DiskAt (H : Heap) (d f k : Nat) (F K : List (AV × AV)) (n : Nat) (av : AV) (acts : List AV) : Prop where
  hd : H d = some (.cells [.mp f, .mp k, av] 3)
  hf : H f = some (.map F)
  hk : H k = some (.map K)
  ha : OwnR H 4 n av acts
  fk : f ≠ k
  ad : blkOf av ≠ some d
theorem OwnR.keep2 {H H' : Heap} {sz n : Nat} {v : AV} {cs : List AV} (h : OwnR H sz n v cs) (k : ∀ b, blkOf v = some b → H' b = H b) : OwnR H' sz n v cs := by
  obtain ⟨hl, h | ⟨b, c, rfl, hb, hc⟩⟩ := h
  · exact ⟨hl, .inl h⟩
  · exact ⟨hl, .inr ⟨b, c, rfl, by rw [k b rfl]; exact hb, hc⟩⟩
theorem OwnR.one {H : Heap} {sz n : Nat} {v : AV} {cs : List AV} (h : OwnR H sz n v cs) : AV.one v = true := by
  obtain ⟨_, ⟨rfl, _⟩ | ⟨b, c, rfl, _⟩⟩ := h <;> rfl
theorem OwnR.blk_live {H : Heap} {sz n : Nat} {v : AV} {cs : List AV} (h : OwnR H sz n v cs) {b : Nat} (hb : blkOf v = some b) : ∃ cs k, H b = some (.cells cs k) := by
  obtain ⟨hl, ⟨rfl, _⟩ | ⟨b', c, rfl, hb', hc⟩⟩ := h
  · cases hb
  · cases hb; exact ⟨_, _, hb'⟩
end Go.Sf
namespace Go.Proofs.YtcpfodhhjkaibaaGreat
open Go.Sf
attribute [local simp] s_skip s_ops s_draw s_any s_contA s_tdone s_ttwo s_top_p s_top_pick s_top_e s_top_g s_seq s_cond s_block s_loop s_exit s_ret s_mark s_then_n s_then_e s_then_r s_in_n s_in_e s_in_r s_contC s_contO s_contQ s_contT s_nil s_cons_p s_cons_pick s_cons_e s_cons_g s_qnil s_qcons_p s_qcons_pick s_qcons_e s_qcons_g s_M s_Mg s_Mq s_Mqg s_G_p s_G_pick s_G_e s_Gq_p s_Gq_pick s_Gq_e s_if s_call s_callv s_qcall s_qcallv s_getAll_nil s_getAll_cons s_put_some s_put_none s_ev_t s_ev_c s_ev_f un evP evK argT resAV lenOf_nils lenOf_imm lenOf_sl lenOf_str optI slcV binV isShift binInt binStr shiftInt pickV unV s_append s_alloc s_box s_bslice s_Bs_t s_Bs_f s_store1 s_storeN s_St1 s_St s_s2b s_markb s_Mk s_mkslice s_qbslice s_qs2b s_ret_n s_ret_r s_retc_n s_retc_r s_RV_nil s_RV_t s_RV_c s_RV1 tupOf fillC kn_int cl_int on_int kn_bool cl_bool on_bool kn_str cl_str on_str kn_nilp cl_nilp on_nilp kn_ptr cl_ptr on_ptr kn_iptr cl_iptr on_iptr kn_nils cl_nils on_nils kn_sl cl_sl on_sl kn_imm cl_imm on_imm kn_mp cl_mp on_mp kn_nilm cl_nilm on_nilm kn_fn cl_fn on_fn kn_nilf cl_nilf on_nilf kn_agg cl_agg scalEq flatEq eqV s_copy_i s_copy_s s_Cp s_clr s_clrn s_Cl s_appz s_Az s_ext s_Ov s_mapB s_mapBS s_rng s_rngn s_Rn s_nxt s_Nx0 s_ent s_mkmap s_mset s_mdel mapOf s_Mg_n s_Mqg_n s_gw_b s_gw_u s_gw_gb s_gw_f
theorem p_clone1 {a : AV} {l : List UInt8} (ha : IsB1 a l) (hl : l.length ≤ 2 ^ 40) : CP PP F_slices_Clone_byte_byte [a] (fun v => IsB1 v l) := by
  refine CP.by_vc ok_slices_Clone_byte_byte (by simp) ?_
  unfold c_slices_Clone_byte_byte
  rcases ha with ⟨rfl, rfl⟩ | ⟨hne, c, rfl⟩
  · simp
    exact .inl ⟨rfl, rfl⟩
  · obtain ⟨n, hn⟩ : ∃ n, l.length = n + 1 := ⟨l.length - 1, by have := List.length_pos_iff.2 hne; omega⟩
    simp [immB, hn]
    refine vcAp_hold (n := 0) (cs := []) (.inr ⟨rfl, rfl⟩) (x := .imm (bytesV l) (n + 1) c) (new := bytesV l) (m := n + 1) (by rw [cellsOf_imm, if_pos (by rw [bytesV_length]; omega)]) rfl (bytesV_one _) (by omega) ?_
    intro H' _
    simp
    exact .inr ⟨hne, none, by simp [immB, hn]⟩
theorem p_clone {a : AV} {l : List UInt8} (ha : IsB a l) (hl : l.length ≤ 2 ^ 40) : CP PP F_slices_Clone_byte_byte [a] (fun v => IsB v l) := by
  by_cases hne : l = []
  · subst hne
    have h1 : CP PP F_slices_Clone_byte_byte [.nils] (fun v => IsB v []) := (p_clone1 (.inl ⟨rfl, rfl⟩) hl).mono fun v h => h.isB
    rcases ha with ⟨rfl, _⟩ | ⟨c, rfl⟩
    · exact h1
    · refine CP.imm_nil h1 ?_
      refine CP.by_vc ok_slices_Clone_byte_byte (by simp) ?_
      unfold c_slices_Clone_byte_byte
      simp
      refine vcAp_hold (n := 0) (cs := []) (.inr ⟨rfl, rfl⟩) (x := .emp) (new := []) (m := 0) (by simp [cellsOf]) rfl rfl (by omega) ?_
      intro H' _
      simp
      exact .inr ⟨none, rfl⟩
  · refine (p_clone1 (l := l) ?_ hl).mono fun v h => h.isB
    rcases ha with ⟨_, h⟩ | ⟨c, rfl⟩
    · exact absurd h hne
    · exact .inr ⟨hne, c, rfl⟩
theorem p_clipN : CP PP F_slices_Clip_byte_byte [.nils] (fun v => v = .nils) := by
  refine CP.by_vc ok_slices_Clip_byte_byte (by simp) ?_
  unfold c_slices_Clip_byte_byte
  simp
theorem p_clipI (l : List UInt8) (c : Option Nat) : CP PP F_slices_Clip_byte_byte [immB l c] (fun v => v = immB l (some l.length)) := by
  refine CP.by_vc ok_slices_Clip_byte_byte (by simp) ?_
  unfold c_slices_Clip_byte_byte
  simp [immB, bytesV_length]
  rw [List.take_of_length_le (by simp [bytesV_length])]
theorem k_do {H : Heap} {f : Nat} {F : List (AV × AV)} (hf : H f = some (.map F)) {name : ByteArray} {r : Option Nat} (hr : findI .s (.str name) F = some r) {lc lb : List UInt8} {b : AV} (hc : IsB (valAt F r) lc) (hb : IsB b lb) (n : Int)
    (hl : lc.length + lb.length ≤ 2 ^ 40) :
    CC PP F_disk_do [.mp f, .agg [.int .i64 0, .str name, b, .int .i64 n]] H fun v H' => ∃ w, IsB w (lc ++ lb) ∧ H' f = some (.map (msetV (.str name) w F r)) ∧ ∀ x, x ≠ f → H x ≠ none → H' x = H x := by
  refine CC.by_vc ok_disk_do (by simp) ?_
  unfold c_disk_do
  simp
  intro bx hbx
  have hfb : f ≠ bx := fun h => by rw [← h, hf] at hbx; cases hbx
  have hv : lkpV false .nils F r = valAt F r := rfl
  rcases hc with ⟨hc, rfl⟩ | ⟨c, hc⟩
  · simp [Heap.set_self, Heap.set_ne, hfb, hf, hr, hv, hc, hb.un]
    refine CallQ.of p_clipN ?_
    simp [Heap.set_self, hb.un]
    refine q_append (old := []) (n := 0) rfl (hb.cells _) rfl hb.len (bytesV_one _) (by simp at hl; omega) ?_
    simp [Heap.set_self, Heap.set_ne, hfb, hf, hr]
    rw [s_Mset hr]
    simp
    refine ⟨_, IsB.imm lb none, Heap.set_self _ _ _, fun x h1 h2 => ?_⟩
    rw [Heap.set_ne _ _ h1, Heap.set_ne _ _ (fun h => h2 (by rw [h]; exact hbx))]
  · simp [Heap.set_self, Heap.set_ne, hfb, hf, hr, hv, hc, hb.un, immB]
    refine CallQ.of (p_clipI lc c) ?_
    simp [Heap.set_self, hb.un, immB]
    refine q_append (old := bytesV lc) (n := lc.length) (by simp [appOld, bytesV_length]) (hb.cells _) rfl hb.len (bytesV_one _) (by omega) ?_
    simp [Heap.set_self, Heap.set_ne, hfb, hf, hr]
    rw [s_Mset hr]
    simp
    refine ⟨_, IsB.imm (lc ++ lb) none, ?_, fun x h1 h2 => ?_⟩
    · rw [Heap.set_self]; simp [immB, bytesV_append]
    · rw [Heap.set_ne _ _ h1, Heap.set_ne _ _ (fun h => h2 (by rw [h]; exact hbx))]
theorem k_done {H : Heap} {d f k : Nat} {F K : List (AV × AV)} {m : Nat} {av : AV} {acts : List AV} (hD : DiskAt H d f k F K m av acts) {name : ByteArray} {r : Option Nat} (hr : findI .s (.str name) F = some r) {lc lb : List UInt8} {b : AV}
    (hc : IsB (valAt F r) lc) (hb : IsB b lb) (n : Int) (hl : lc.length + lb.length ≤ 2 ^ 40) (hm : m < 2 ^ 30) :
    CC PP F_disk_Disk_done [.ptr d 0, .agg [.int .i64 0, .str name, b, .int .i64 n]] H fun v H' => v = .int .i64 0 ∧ ∃ w av', IsB w (lc ++ lb) ∧ DiskAt H' d f k (msetV (.str name) w F r) K (m + 1) av' (acts ++ [.int .i64 0, .str name, b, .int .i64 n]) ∧
      (blkOf av' = blkOf av ∨ ∀ x, blkOf av' = some x → H x = none) ∧ ∀ x, x ≠ d → x ≠ f → blkOf av ≠ some x → H x ≠ none → H' x = H x := by
  obtain ⟨hd, hf, hk, ha, fk, ad⟩ := hD
  refine CC.by_vc ok_disk_Disk_done (by simp) ?_
  unfold c_disk_Disk_done
  simp
  intro bx hbx
  have hdb : d ≠ bx := fun h => by rw [← h, hd] at hbx; cases hbx
  have hfb : f ≠ bx := fun h => by rw [← h, hf] at hbx; cases hbx
  have hdf : d ≠ f := fun h => by rw [h, hf] at hd; cases hd
  have hdk : d ≠ k := fun h => by rw [h, hk] at hd; cases hd
  simp [Heap.set_self, Heap.set_ne, hdb, hd]
  refine CallK.of (k_do (f := f) (by rw [Heap.set_ne _ _ hfb]; exact hf) hr hc hb n hl) ?_
  rintro v H1 ⟨w, hw, h1, h2⟩
  simp
  have hd1 : H1 d = some (.cells [.mp f, .mp k, av] 3) := by rw [h2 d hdf (by rw [Heap.set_ne _ _ hdb, hd]; simp), Heap.set_ne _ _ hdb]; exact hd
  have hb1 : H1 bx = some (.cells [.int .i64 0, .str name, b, .int .i64 n] 4) := by rw [h2 bx (Ne.symm hfb) (by rw [Heap.set_self]; simp), Heap.set_self]
  have hbf : ∀ x, blkOf av = some x → x ≠ f ∧ x ≠ k ∧ x ≠ bx := fun x hx => by
    obtain ⟨cs, q, hq⟩ := ha.blk_live hx
    exact ⟨(fun h => by rw [h, hf] at hq; cases hq), (fun h => by rw [h, hk] at hq; cases hq), (fun h => by rw [h, hbx] at hq; cases hq)⟩
  have old1 : ∀ x, x ≠ f → H x ≠ none → H1 x = H x := fun x hx hn => by
    have : x ≠ bx := fun h => hn (by rw [h]; exact hbx)
    rw [h2 x hx (by rw [Heap.set_ne _ _ this]; exact hn), Heap.set_ne _ _ this]
  have ha1 : OwnR H1 4 m av acts := ha.keep2 fun x hx => old1 x (hbf x hx).1 (by obtain ⟨cs, q, hq⟩ := ha.blk_live hx; rw [hq]; simp)
  have hk1 : H1 k = some (.map K) := by rw [old1 k (Ne.symm fk) (by rw [hk]; simp)]; exact hk
  have new1 : ([.int .i64 0, .str name, b, .int .i64 n] : List AV).all AV.one = true := by simp [hb.one]
  have nn : ∀ x, H x ≠ none → H1 x ≠ none := fun x hx => by
    by_cases hxf : x = f
    · rw [hxf, h1]; simp
    · rw [old1 x hxf hx]; exact hx
  have fin : ∀ (v' : AV) (H2 : Heap), OwnR H2 4 (m + 1) v' (acts ++ [.int .i64 0, .str name, b, .int .i64 n]) → KeepB H1 H2 (blkOf av) → (∀ b, blkOf v' = some b → H1 b = none ∨ blkOf av = some b) →
      H2 d = some (.cells [.mp f, .mp k, av] 3) ∧ ∃ w av', IsB w (lc ++ lb) ∧ DiskAt (H2.set d (some (.cells [.mp f, .mp k, v'] 3))) d f k (msetV (.str name) w F r) K (m + 1) av' (acts ++ [.int .i64 0, .str name, b, .int .i64 n]) ∧
      (blkOf av' = blkOf av ∨ ∀ x, blkOf av' = some x → H x = none) ∧ ∀ x, x ≠ d → x ≠ f → blkOf av ≠ some x → H x ≠ none → (H2.set d (some (.cells [.mp f, .mp k, v'] 3))) x = H x := by
    intro v' H2 ho hkeep hnew
    have hd2 : H2 d = some (.cells [.mp f, .mp k, av] 3) := by rw [hkeep d ad (by rw [hd1]; simp)]; exact hd1
    have hvd : blkOf v' ≠ some d := fun h => by
      rcases hnew d h with h | h
      · rw [hd1] at h; cases h
      · exact ad h
    refine ⟨hd2, w, v', hw, ⟨Heap.set_self _ _ _, ?_, ?_, ho.keep2 fun x hx => Heap.set_ne _ _ (fun h => hvd (by rw [← h]; exact hx)), fk, hvd⟩, ?_, fun x x1 x2 x3 x4 => ?_⟩
    · rw [Heap.set_ne _ _ (Ne.symm hdf), hkeep f (fun h => (hbf f h).1 rfl) (by rw [h1]; simp)]; exact h1
    · rw [Heap.set_ne _ _ (Ne.symm hdk), hkeep k (fun h => (hbf k h).2.1 rfl) (by rw [hk1]; simp)]; exact hk1
    · cases hv' : blkOf v' with
      | none => exact .inr fun x hx => by cases hx
      | some x =>
        rcases hnew x hv' with h | h
        · refine .inr fun y hy => ?_
          cases hy
          cases hx : H x with
          | none => rfl
          | some z => exact absurd h (nn x (by rw [hx]; simp))
        · exact .inl h.symm
    · rw [Heap.set_ne _ _ x1, hkeep x x3 (nn x x4), old1 x x2 x4]
  have step : ∀ (T : Nat → AV) (Q : AS → Prop), (∀ v' H2, OwnR H2 4 (m + 1) v' (acts ++ [.int .i64 0, .str name, b, .int .i64 n]) → KeepB H1 H2 (blkOf av) → (∀ b, blkOf v' = some b → H1 b = none ∨ blkOf av = some b) → Q ⟨put T (some 18) v', H2⟩) →
      vcAp false 4 56 (appOld H1 4 av) (cellsOf H1 4 (.imm [.int .i64 0, .str name, b, .int .i64 n] 1 (some 1))) (lenOf av) (some 1) av (some 18) T H1 Q := fun T Q h =>
    vcAp_row (.inl ha1) (x := .imm [.int .i64 0, .str name, b, .int .i64 n] 1 (some 1)) (new := [.int .i64 0, .str name, b, .int .i64 n]) (m := 1) rfl rfl rfl (by omega) new1 (by omega) (.inl (by simp)) h
  refine ⟨?_, ?_⟩
  · simp [hd1, hb1, ha1.un]
    refine step _ _ ?_
    intro v' H2 ho q1 q2
    obtain ⟨hd2, hfin⟩ := fin v' H2 ho q1 q2
    simp [hd2, ho.un, ho.one]
    simpa using hfin
  · simp [hd1, hb1, ha1.un]
    refine ⟨?_, ?_⟩
    · refine step _ _ ?_
      intro v' H2 ho q1 q2
      obtain ⟨hd2, hfin⟩ := fin v' H2 ho q1 q2
      simp [hd2, ho.un, ho.one]
      simpa using hfin
    · refine step _ _ ?_
      intro v' H2 ho q1 q2
      obtain ⟨hd2, hfin⟩ := fin v' H2 ho q1 q2
      simp [hd2, ho.un, ho.one]
      simpa using hfin
end Go.Proofs.YtcpfodhhjkaibaaGreat
