/- What a crash leaves, plain facts; a disk without loose bytes. -/
import Derived.Test.YtffifddlooligaaM5
set_option linter.unusedVariables false
set_option linter.unusedSimpArgs false
set_option maxRecDepth 100000
set_option maxHeartbeats 4000000
namespace Go.Sf
/-- Files that hold at least these. -/
def Ext (M N : FileL) : Prop := ∀ n, n ∈ M.map (·.1) → n ∈ N.map (·.1) ∧ fget n M <+: fget n N
theorem Ext.refl (M : FileL) : Ext M M := fun n h => ⟨h, List.prefix_refl _⟩
theorem Ext.trans {A B C : FileL} (h : Ext A B) (k : Ext B C) : Ext A C := fun n hn => by
  obtain ⟨h1, h2⟩ := h n hn
  obtain ⟨k1, k2⟩ := k n h1
  exact ⟨k1, h2.trans k2⟩
theorem names_fapp (M : FileL) (n : ByteArray) (l : List UInt8) (m : ByteArray) : m ∈ (fapp M n l).map (·.1) ↔ m ∈ M.map (·.1) ∨ m = n := by
  unfold fapp
  rw [names_set]
  split
  · rename_i h
    rw [fidx_mem] at h
    constructor
    · exact .inl
    · rintro (h1 | rfl)
      · exact h1
      · exact h
  · rw [List.mem_append, List.mem_singleton]
theorem fget_fapp (M : FileL) (n m : ByteArray) (l : List UInt8) : fget m (fapp M n l) = if m = n then fget n M ++ l else fget m M := by
  unfold fapp; rw [fget_set]
theorem ext_fapp (M : FileL) (n : ByteArray) (l : List UInt8) : Ext M (fapp M n l) := fun m hm => by
  refine ⟨(names_fapp _ _ _ _).2 (.inl hm), ?_⟩
  rw [fget_fapp]
  split
  · rename_i h; subst h; exact List.prefix_append _ _
  · exact List.prefix_refl _
theorem ext_part (M : FileL) (n : ByteArray) {l r : List UInt8} (h : l <+: r) : Ext (fapp M n l) (fapp M n r) := fun m hm => by
  rw [names_fapp] at hm
  refine ⟨(names_fapp _ _ _ _).2 hm, ?_⟩
  rw [fget_fapp, fget_fapp]
  split
  · exact (List.prefix_append_right_inj _).2 h
  · exact List.prefix_refl _
def apps (A M : FileL) : FileL := A.foldl (fun M p => fapp M p.1 p.2) M
theorem apps_snoc (A M : FileL) (p : ByteArray × List UInt8) : apps (A ++ [p]) M = fapp (apps A M) p.1 p.2 := by
  unfold apps; rw [List.foldl_append]; rfl
theorem ext_apps : ∀ (A M : FileL), Ext M (apps A M)
  | [], M => Ext.refl M
  | p :: A, M => (ext_fapp M p.1 p.2).trans (ext_apps A (fapp M p.1 p.2))
theorem ext_left : ∀ (A : FileL) (q : Nat) (M : FileL), Ext M (leftF q A M)
  | [], q, M => Ext.refl M
  | p :: A, q, M => by
    unfold leftF
    split
    · exact (ext_fapp M p.1 p.2).trans (ext_left A _ _)
    · split
      · exact Ext.refl M
      · exact ext_fapp M p.1 _
theorem left_ext : ∀ (A : FileL) (q : Nat) (M : FileL), Ext (leftF q A M) (apps A M)
  | [], q, M => Ext.refl M
  | p :: A, q, M => by
    unfold leftF
    split
    · exact left_ext A _ _
    · split
      · exact ext_apps (p :: A) M
      · exact (ext_part M p.1 (List.take_prefix _ _)).trans (ext_apps A (fapp M p.1 p.2))
theorem left_tot : ∀ (A : FileL) (q : Nat) (M : FileL), totL (leftF q A M) ≤ totL M + totL A
  | [], q, M => by simp [leftF, totL]
  | p :: A, q, M => by
    unfold leftF
    split
    · have := left_tot A (q - p.2.length) (fapp M p.1 p.2)
      rw [totL_fapp] at this
      simp only [totL]; omega
    · split
      · omega
      · rw [totL_fapp]; simp only [totL, List.length_take]; omega
theorem fapp_len (M : FileL) (n : ByteArray) (l : List UInt8) : (fapp M n l).length ≤ M.length + 1 := by
  have := congrArg List.length (names_set n (fget n M ++ l) M)
  unfold fapp
  simp only [List.length_map] at this
  rw [this]; split <;> simp
theorem left_len : ∀ (A : FileL) (q : Nat) (M : FileL), (leftF q A M).length ≤ M.length + A.length
  | [], q, M => by simp [leftF]
  | p :: A, q, M => by
    unfold leftF
    have h1 := fapp_len M p.1 p.2
    split
    · have := left_len A (q - p.2.length) (fapp M p.1 p.2)
      simp only [List.length_cons]; omega
    · split
      · omega
      · have h2 := fapp_len M p.1 (p.2.take q)
        simp only [List.length_cons]; omega
theorem turnG_none {bad : Int} (hb : bad < 0) : ∀ (ns : List ByteArray) (pre : Nat) (L : FileL), turnG bad ns pre L = L
  | [], _, _ => rfl
  | n :: ns, pre, L => by
    rw [turnG_cons, turnG_none hb ns]
    unfold turn1
    rw [if_neg (by omega)]
/-- What is noted of the files. -/
def wasE (F : FileL) (ss : List ByteArray) : List (AV × AV) := ss.map fun n => (.str n, .str ⟨(fget n F).toArray⟩)
theorem wasE_out {F : FileL} {n : ByteArray} : ∀ {ss : List ByteArray}, n ∉ ss → findI .s (.str n) (wasE F ss) = some none
  | [], _ => rfl
  | m :: ss, h => by
    simp at h
    have ih := wasE_out (F := F) (n := n) (ss := ss) h.2
    simp only [wasE, List.map_cons, findI, scalEq] at ih ⊢
    simp [h.1, ih]
theorem nodup_le : ∀ {a b : List Nat}, a.Nodup → (∀ x ∈ a, x ∈ b) → a.length ≤ b.length
  | [], b, _, _ => by simp
  | x :: a, b, h, k => by
    rw [List.nodup_cons] at h
    have hx : x ∈ b := k x (by simp)
    have := nodup_le (a := a) (b := b.erase x) h.2 (fun y hy => (List.mem_erase_of_ne (fun e => h.1 (by rw [← e]; exact hy))).2 (k y (by simp [hy])))
    have hpos : 0 < b.length := List.length_pos_of_mem hx
    rw [List.length_erase_of_mem hx] at this
    simp only [List.length_cons]; omega
end Go.Sf
namespace Go.Proofs.Ytffifddlooligaa
open Go.Sf
attribute [local simp] s_skip s_ops s_draw s_any s_contA s_tdone s_ttwo s_top_p s_top_pick s_top_e s_top_g s_seq s_cond s_block s_loop s_exit s_ret s_mark s_then_n s_then_e s_then_r s_in_n s_in_e s_in_r s_contC s_contO s_contQ s_contT s_nil s_cons_p s_cons_pick s_cons_e s_cons_g s_qnil s_qcons_p s_qcons_pick s_qcons_e s_qcons_g s_M s_Mg s_Mq s_Mqg s_G_p s_G_pick s_G_e s_Gq_p s_Gq_pick s_Gq_e s_if s_call s_callv s_qcall s_qcallv s_getAll_nil s_getAll_cons s_put_some s_put_none s_ev_t s_ev_c s_ev_f un evP evK argT resAV lenOf_nils lenOf_imm lenOf_sl lenOf_str optI slcV binV isShift binInt binStr shiftInt pickV unV s_append s_alloc s_box s_bslice s_Bs_t s_Bs_f s_store1 s_storeN s_St1 s_St s_s2b s_markb s_Mk s_mkslice s_qbslice s_qs2b s_ret_n s_ret_r s_retc_n s_retc_r s_RV_nil s_RV_t s_RV_c s_RV1 tupOf fillC kn_int cl_int on_int kn_bool cl_bool on_bool kn_str cl_str on_str kn_nilp cl_nilp on_nilp kn_ptr cl_ptr on_ptr kn_iptr cl_iptr on_iptr kn_nils cl_nils on_nils kn_sl cl_sl on_sl kn_imm cl_imm on_imm kn_mp cl_mp on_mp kn_nilm cl_nilm on_nilm kn_fn cl_fn on_fn kn_nilf cl_nilf on_nilf kn_agg cl_agg scalEq flatEq eqV s_copy_i s_copy_s s_Cp s_clr s_clrn s_Cl s_appz s_Az s_ext s_Ov s_mapB s_mapBS s_rng s_rngn s_Rn s_nxt s_Nx0 s_ent s_mkmap s_mset s_mdel mapOf s_Mg_n s_Mqg_n s_gw_b s_gw_u s_gw_gb s_gw_f
def I_lo (H0 : Heap) (k : Nat) (T : Nat → AV) (H : Heap) : Prop := k = 0 ∧ H = H0 ∧ T 3 = .int .i64 0 ∧ T 12 = .int .i64 0 ∧ T 13 = .int .i64 0
theorem k_loose0 {H : Heap} {d f k : Nat} {F K : FileL} (hD : DiskQ H d f k .nils F K []) : CC PP F_disk_Disk_Loose [.ptr d 0] H fun v H' => H' = H ∧ v = .int .i64 0 := by
  have hd := k_diskNone hD
  refine CC.by_vc ok_disk_Disk_Loose (by simp) ?_
  unfold c_disk_Disk_Loose
  simp [hd]
  refine LoopV.mk2 (I_lo H) 0 ⟨rfl, rfl, by simp, by simp, by simp⟩ ?_
  rintro k T H' ⟨rfl, rfl, t3, t12, t13⟩
  simp [t3, t12, t13]
end Go.Proofs.Ytffifddlooligaa
