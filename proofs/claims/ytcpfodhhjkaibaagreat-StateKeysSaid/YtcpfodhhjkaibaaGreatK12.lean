/- Disks: files by their names. -/
import Derived.Test.YtcpfodhhjkaibaaGreatK11
set_option linter.unusedVariables false
set_option linter.unusedSimpArgs false
set_option maxRecDepth 100000
namespace Go.Sf
abbrev FileL := List (ByteArray × List UInt8)
def fidx (n : ByteArray) : FileL → Option Nat
  | [] => none
  | p :: F => if n = p.1 then some 0 else (fidx n F).map (· + 1)
def fget (n : ByteArray) (F : FileL) : List UInt8 := match (fidx n F).bind (F[·]?) with
  | some p => p.2
  | none => []
def fset (n : ByteArray) (l : List UInt8) (F : FileL) : FileL := match fidx n F with
  | some j => F.set j (n, l)
  | none => F ++ [(n, l)]
def fapp (F : FileL) (n : ByteArray) (l : List UInt8) : FileL := fset n (fget n F ++ l) F
/-- A map's entries stand for files. -/
def FsRel : List (AV × AV) → FileL → Prop
  | [], [] => True
  | e :: es, p :: F => e.1 = .str p.1 ∧ IsB e.2 p.2 ∧ FsRel es F
  | _, _ => False
theorem FsRel.length : ∀ {es : List (AV × AV)} {F : FileL}, FsRel es F → es.length = F.length
  | [], [], _ => rfl
  | [], _ :: _, h => h.elim
  | _ :: _, [], h => h.elim
  | e :: es, p :: F, h => by simp [FsRel.length h.2.2]
theorem FsRel.find {n : ByteArray} : ∀ {es : List (AV × AV)} {F : FileL}, FsRel es F → findI .s (.str n) es = some (fidx n F)
  | [], [], _ => rfl
  | [], _ :: _, h => h.elim
  | _ :: _, [], h => h.elim
  | (k, v) :: es, p :: F, h => by
    obtain ⟨h1, h2, h3⟩ := h
    simp only at h1
    subst h1
    simp only [findI, scalEq, fidx]
    by_cases hn : n = p.1
    · simp [hn]
    · simp [hn, FsRel.find h3]
theorem FsRel.get : ∀ {es : List (AV × AV)} {F : FileL}, FsRel es F → ∀ {j : Nat} {p : ByteArray × List UInt8}, F[j]? = some p → ∃ e, es[j]? = some e ∧ e.1 = .str p.1 ∧ IsB e.2 p.2
  | [], [], _, j, p, h => by simp at h
  | [], _ :: _, h, _, _, _ => h.elim
  | _ :: _, [], h, _, _, _ => h.elim
  | e :: es, q :: F, h, j, p, hj => by
    cases j with
    | zero => simp at hj; subst hj; exact ⟨e, rfl, h.1, h.2.1⟩
    | succ j => exact FsRel.get h.2.2 (by simpa using hj)
theorem fidx_lt {n : ByteArray} : ∀ {F : FileL} {j : Nat}, fidx n F = some j → j < F.length
  | [], j, h => by simp [fidx] at h
  | p :: F, j, h => by
    simp only [fidx] at h
    split at h
    · cases h; simp
    · cases hf : fidx n F with
      | none => simp [hf] at h
      | some k => simp [hf] at h; subst h; have := fidx_lt hf; simp; omega
theorem FsRel.val {es : List (AV × AV)} {F : FileL} (h : FsRel es F) (n : ByteArray) : IsB (valAt es (fidx n F)) (fget n F) := by
  unfold valAt lkpV fget
  cases hf : fidx n F with
  | none => exact .inl ⟨rfl, rfl⟩
  | some j =>
    have hj := fidx_lt hf
    obtain ⟨e, he, _, h2⟩ := h.get (j := j) (p := F[j]) (by simp [hj])
    simp only [Option.bind_some, he, List.getElem?_eq_getElem hj, Bool.false_eq_true, if_false]
    exact h2
theorem FsRel.snoc : ∀ {es : List (AV × AV)} {F : FileL} {n : ByteArray} {w : AV} {l : List UInt8}, FsRel es F → IsB w l → FsRel (es ++ [(.str n, w)]) (F ++ [(n, l)])
  | [], [], _, _, _, _, h => ⟨rfl, h, trivial⟩
  | [], _ :: _, _, _, _, h, _ => h.elim
  | _ :: _, [], _, _, _, h, _ => h.elim
  | e :: es, p :: F, n, w, l, h, k => ⟨h.1, h.2.1, FsRel.snoc h.2.2 k⟩
theorem FsRel.upd : ∀ {es : List (AV × AV)} {F : FileL} {j : Nat} {n : ByteArray} {w : AV} {l : List UInt8}, FsRel es F → IsB w l → FsRel (es.set j (.str n, w)) (F.set j (n, l))
  | [], [], _, _, _, _, h, k => trivial
  | [], _ :: _, _, _, _, _, h, _ => h.elim
  | _ :: _, [], _, _, _, _, h, _ => h.elim
  | e :: es, p :: F, 0, n, w, l, h, k => ⟨rfl, k, h.2.2⟩
  | e :: es, p :: F, j + 1, n, w, l, h, k => ⟨h.1, h.2.1, FsRel.upd h.2.2 k⟩
theorem FsRel.put {es : List (AV × AV)} {F : FileL} (h : FsRel es F) {n : ByteArray} {w : AV} {l : List UInt8} (k : IsB w l) : FsRel (msetV (.str n) w es (fidx n F)) (fset n l F) := by
  unfold msetV fset
  cases fidx n F with
  | none => exact h.snoc k
  | some j => exact h.upd k
/-- A slice's cells stand for acts: bytes put behind files. -/
def ActsRel (r : List AV) : FileL → Prop
  | [] => r = []
  | p :: A => ∃ b r', r = .int .i64 0 :: .str p.1 :: b :: .int .i64 0 :: r' ∧ IsB b p.2 ∧ ActsRel r' A
theorem ActsRel.snoc {n : ByteArray} {b : AV} {l : List UInt8} (k : IsB b l) : ∀ {A : FileL} {r : List AV}, ActsRel r A → ActsRel (r ++ [.int .i64 0, .str n, b, .int .i64 0]) (A ++ [(n, l)])
  | [], r, h => by simp only [ActsRel] at h; subst h; exact ⟨b, [], rfl, k, rfl⟩
  | p :: A, r, h => by
    simp only [ActsRel] at h
    obtain ⟨b', r', rfl, h1, h2⟩ := h
    exact ⟨b', _, rfl, h1, ActsRel.snoc k h2⟩
theorem ActsRel.at : ∀ {A : FileL} {r : List AV}, ActsRel r A → ∀ {i : Nat} {p : ByteArray × List UInt8}, A[i]? = some p → ∃ b, (r.drop (i * 4)).take 4 = [.int .i64 0, .str p.1, b, .int .i64 0] ∧ IsB b p.2 ∧ i * 4 + 4 ≤ r.length
  | [], r, h, i, p, hi => by simp at hi
  | q :: A, r, h, i, p, hi => by
    simp only [ActsRel] at h
    obtain ⟨b, r', rfl, h1, h2⟩ := h
    cases i with
    | zero => simp at hi; subst hi; exact ⟨b, by simp, h1, by simp⟩
    | succ i =>
      obtain ⟨b', e1, e2, e3⟩ := ActsRel.at h2 (i := i) (by simpa using hi)
      refine ⟨b', ?_, e2, by simp; omega⟩
      rw [show (i + 1) * 4 = 4 + i * 4 by omega, ← List.drop_drop]
      exact e1
theorem ActsRel.length : ∀ {A : FileL} {r : List AV}, ActsRel r A → r.length = A.length * 4
  | [], r, h => by simp only [ActsRel] at h; subst h; rfl
  | p :: A, r, h => by
    simp only [ActsRel] at h
    obtain ⟨b, r', rfl, h1, h2⟩ := h
    have := ActsRel.length h2
    simp only [List.length_cons]; omega
/-- A disk's blocks hold these files, these were kept, this was put behind since. -/
def DiskQ (H : Heap) (d f k : Nat) (av : AV) (F K A : FileL) : Prop := ∃ es ks acts, DiskAt H d f k es ks A.length av acts ∧ FsRel es F ∧ FsRel ks K ∧ ActsRel acts A
/-- All that was there is as it was, but for a disk's blocks. -/
def KeepD (H H' : Heap) (d f : Nat) (av : AV) : Prop := ∀ x, x ≠ d → x ≠ f → blkOf av ≠ some x → H x ≠ none → H' x = H x
end Go.Sf
namespace Go.Proofs.YtcpfodhhjkaibaaGreat
open Go.Sf
attribute [local simp] s_skip s_ops s_draw s_any s_contA s_tdone s_ttwo s_top_p s_top_pick s_top_e s_top_g s_seq s_cond s_block s_loop s_exit s_ret s_mark s_then_n s_then_e s_then_r s_in_n s_in_e s_in_r s_contC s_contO s_contQ s_contT s_nil s_cons_p s_cons_pick s_cons_e s_cons_g s_qnil s_qcons_p s_qcons_pick s_qcons_e s_qcons_g s_M s_Mg s_Mq s_Mqg s_G_p s_G_pick s_G_e s_Gq_p s_Gq_pick s_Gq_e s_if s_call s_callv s_qcall s_qcallv s_getAll_nil s_getAll_cons s_put_some s_put_none s_ev_t s_ev_c s_ev_f un evP evK argT resAV lenOf_nils lenOf_imm lenOf_sl lenOf_str optI slcV binV isShift binInt binStr shiftInt pickV unV s_append s_alloc s_box s_bslice s_Bs_t s_Bs_f s_store1 s_storeN s_St1 s_St s_s2b s_markb s_Mk s_mkslice s_qbslice s_qs2b s_ret_n s_ret_r s_retc_n s_retc_r s_RV_nil s_RV_t s_RV_c s_RV1 tupOf fillC kn_int cl_int on_int kn_bool cl_bool on_bool kn_str cl_str on_str kn_nilp cl_nilp on_nilp kn_ptr cl_ptr on_ptr kn_iptr cl_iptr on_iptr kn_nils cl_nils on_nils kn_sl cl_sl on_sl kn_imm cl_imm on_imm kn_mp cl_mp on_mp kn_nilm cl_nilm on_nilm kn_fn cl_fn on_fn kn_nilf cl_nilf on_nilf kn_agg cl_agg scalEq flatEq eqV s_copy_i s_copy_s s_Cp s_clr s_clrn s_Cl s_appz s_Az s_ext s_Ov s_mapB s_mapBS s_rng s_rngn s_Rn s_nxt s_Nx0 s_ent s_mkmap s_mset s_mdel mapOf s_Mg_n s_Mqg_n s_gw_b s_gw_u s_gw_gb s_gw_f
theorem k_diskNew {H : Heap} : CC PP F_disk_New [] H fun v H' => ∃ d f k, v = .ptr d 0 ∧ DiskQ H' d f k .nils [] [] [] ∧ H d = none ∧ H f = none ∧ H k = none ∧ ∀ x, H x ≠ none → H' x = H x := by
  refine CC.by_vc ok_disk_New (by simp) ?_
  unfold c_disk_New
  simp
  intro f hf
  simp
  intro k hk
  simp
  intro d hd
  simp
  obtain ⟨hdk, hd1⟩ := Heap.fresh_ne hd
  obtain ⟨hdf, hd0⟩ := Heap.fresh_ne hd1
  obtain ⟨hkf, hk0⟩ := Heap.fresh_ne hk
  refine ⟨f, k, ⟨[], [], [], ⟨Heap.set_self _ _ _, ?_, ?_, ⟨rfl, .inl ⟨rfl, rfl⟩⟩, Ne.symm hkf, by simp [blkOf]⟩, trivial, trivial, rfl⟩, hd0, hf, hk0, fun x hx => ?_⟩
  · rw [Heap.set_ne _ _ (Ne.symm hdf), Heap.set_ne _ _ (Ne.symm hkf), Heap.set_self]
  · rw [Heap.set_ne _ _ (Ne.symm hdk), Heap.set_self]
  · rw [Heap.set_ne _ _ (fun h => hx (by rw [h]; exact hd0)), Heap.set_ne _ _ (fun h => hx (by rw [h]; exact hk0)), Heap.set_ne _ _ (fun h => hx (by rw [h]; exact hf))]
theorem k_diskAppend {H : Heap} {d f k : Nat} {av : AV} {F K A : FileL} (hD : DiskQ H d f k av F K A) {name : ByteArray} {b : AV} {l : List UInt8} (hb : IsB b l) (hn0 : name ≠ ⟨#[]⟩) (hn : name.size ≤ 40) (hl : (fget name F).length + l.length ≤ 65536) (hA : A.length < 2 ^ 30) :
    CC PP F_disk_Disk_Append [.ptr d 0, .str name, b] H fun v H' => v = .int .i64 0 ∧ ∃ av', DiskQ H' d f k av' (fapp F name l) K (A ++ [(name, l)]) ∧ (blkOf av' = blkOf av ∨ ∀ x, blkOf av' = some x → H x = none) ∧ KeepD H H' d f av := by
  obtain ⟨es, ks, acts, hDA, hF, hK, hAc⟩ := hD
  have hfind := hF.find (n := name)
  have hval := hF.val name
  refine CC.by_vc ok_disk_Disk_Append (by simp) ?_
  unfold c_disk_Disk_Append
  have hs : ¬ (40 : Int) < name.size := by omega
  have hv : lkpV false .nils es (fidx name F) = valAt es (fidx name F) := rfl
  have hb' := hb
  have hval' := hval
  have hw : IntKind.i64.wrap (65536 - ((fget name F).length : Int)) = 65536 - ((fget name F).length : Int) := wrap_i64 (by omega) (by omega)
  have fin : ∀ u, IsB u l → CC PP F_disk_Disk_done [.ptr d 0, .agg [.int .i64 0, .str name, u, .int .i64 0]] H fun v H' => v = .int .i64 0 ∧ ∃ av', DiskQ H' d f k av' (fapp F name l) K (A ++ [(name, l)]) ∧ (blkOf av' = blkOf av ∨ ∀ x, blkOf av' = some x → H x = none) ∧ KeepD H H' d f av := fun u hu =>
    (k_done hDA hfind hval hu 0 (by omega) hA).mono fun v H' ⟨h1, w, av', h2, h3, h4, h5⟩ =>
      ⟨h1, av', ⟨_, _, _, by rw [List.length_append]; exact h3, hF.put h2, hK, hAc.snoc hu⟩, h4, h5⟩
  have hfindn := hfind
  rcases hb with ⟨rfl, rfl⟩ | ⟨c, rfl⟩ <;> rcases hval with ⟨hval, hg⟩ | ⟨cc, hval⟩
  · simp [hn0, hs, hDA.hd, hDA.hf, hfind, hv, hval, immB, show IntKind.i64.wrap 65536 = 65536 from rfl]
    refine CallK.pure (p_clone hb' (by simp at *; try omega)) ?_
    rintro u hu
    simp [hu.un, hu.known, hu.cellsL]
    refine CallK.of (fin u hu) ?_
    rintro v H' ⟨rfl, hq⟩
    simp
    exact hq
  · simp [hn0, hs, hDA.hd, hDA.hf, hfind, hv, hval, immB, hw]
    refine ⟨by omega, fun _ => ?_⟩
    refine CallK.pure (p_clone hb' (by simp at *; try omega)) ?_
    rintro u hu
    simp [hu.un, hu.known, hu.cellsL]
    refine CallK.of (fin u hu) ?_
    rintro v H' ⟨rfl, hq⟩
    simp
    exact hq
  · simp [hn0, hs, hDA.hd, hDA.hf, hfind, hv, hval, immB, hg, show IntKind.i64.wrap 65536 = 65536 from rfl]
    refine ⟨by omega, fun _ => ?_⟩
    refine CallK.pure (p_clone hb' (by simp at *; try omega)) ?_
    rintro u hu
    simp [hu.un, hu.known, hu.cellsL]
    refine CallK.of (fin u hu) ?_
    rintro v H' ⟨rfl, hq⟩
    simp
    exact hq
  · simp [hn0, hs, hDA.hd, hDA.hf, hfind, hv, hval, immB, hw]
    refine ⟨by omega, fun _ => ?_⟩
    refine CallK.pure (p_clone hb' (by simp at *; try omega)) ?_
    rintro u hu
    simp [hu.un, hu.known, hu.cellsL]
    refine CallK.of (fin u hu) ?_
    rintro v H' ⟨rfl, hq⟩
    simp
    exact hq
theorem k_diskRead {H : Heap} {d f k : Nat} {av : AV} {F K A : FileL} (hD : DiskQ H d f k av F K A) (name : ByteArray) (hl : (fget name F).length ≤ 2 ^ 40) :
    CC PP F_disk_Disk_Read [.ptr d 0, .str name] H fun v H' => H' = H ∧ match fidx name F with
      | some _ => ∃ u, v = .tup [u, .int .i64 0] ∧ IsB u (fget name F)
      | none => v = .tup [.nils, .int .i64 3] := by
  obtain ⟨es, ks, acts, hDA, hF, hK, hAc⟩ := hD
  have hfind := hF.find (n := name)
  have hval := hF.val name
  have hv : lkpV false .nils es (fidx name F) = valAt es (fidx name F) := rfl
  refine CC.by_vc ok_disk_Disk_Read (by simp) ?_
  unfold c_disk_Disk_Read
  simp [hDA.hd, hDA.hf, hfind, lkp_t]
  cases hi : fidx name F with
  | none =>
    rw [hi] at hv hfind hval
    simp [hv, hval.un]
  | some j =>
    rw [hi] at hv hfind hval
    simp [hv, hval.un]
    refine CallK.pure (p_clone hval hl) ?_
    rintro u hu
    simp [hu.un]
    exact hu
theorem k_diskNone {H : Heap} {d f k : Nat} {av : AV} {F K A : FileL} (hD : DiskQ H d f k av F K A) : H d = some (.cells [.mp f, .mp k, av] 3) := by
  obtain ⟨es, ks, acts, hDA, _⟩ := hD
  exact hDA.hd
end Go.Proofs.YtcpfodhhjkaibaaGreat
