/- Disks: names in order, sync, crashes. -/
import Derived.Test.YtcpfodhhjkaibaaGreatKB
import Derived.Test.YtcpfodhhjkaibaaGreatGK
set_option linter.unusedVariables false
set_option linter.unusedSimpArgs false
set_option maxRecDepth 100000
namespace Go.Proofs.YtcpfodhhjkaibaaGreat
open Go.Sf
attribute [local simp] s_skip s_ops s_draw s_any s_contA s_tdone s_ttwo s_top_p s_top_pick s_top_e s_top_g s_seq s_cond s_block s_loop s_exit s_ret s_mark s_then_n s_then_e s_then_r s_in_n s_in_e s_in_r s_contC s_contO s_contQ s_contT s_nil s_cons_p s_cons_pick s_cons_e s_cons_g s_qnil s_qcons_p s_qcons_pick s_qcons_e s_qcons_g s_M s_Mg s_Mq s_Mqg s_G_p s_G_pick s_G_e s_Gq_p s_Gq_pick s_Gq_e s_if s_call s_callv s_qcall s_qcallv s_getAll_nil s_getAll_cons s_put_some s_put_none s_ev_t s_ev_c s_ev_f un evP evK argT resAV lenOf_nils lenOf_imm lenOf_sl lenOf_str optI slcV binV isShift binInt binStr shiftInt pickV unV s_append s_alloc s_box s_bslice s_Bs_t s_Bs_f s_store1 s_storeN s_St1 s_St s_s2b s_markb s_Mk s_mkslice s_qbslice s_qs2b s_ret_n s_ret_r s_retc_n s_retc_r s_RV_nil s_RV_t s_RV_c s_RV1 tupOf fillC kn_int cl_int on_int kn_bool cl_bool on_bool kn_str cl_str on_str kn_nilp cl_nilp on_nilp kn_ptr cl_ptr on_ptr kn_iptr cl_iptr on_iptr kn_nils cl_nils on_nils kn_sl cl_sl on_sl kn_imm cl_imm on_imm kn_mp cl_mp on_mp kn_nilm cl_nilm on_nilm kn_fn cl_fn on_fn kn_nilf cl_nilf on_nilf kn_agg cl_agg scalEq flatEq eqV s_copy_i s_copy_s s_Cp s_clr s_clrn s_Cl s_appz s_Az s_ext s_Ov s_mapB s_mapBS s_rng s_rngn s_Rn s_nxt s_Nx0 s_ent s_mkmap s_mset s_mdel mapOf s_Mg_n s_Mqg_n s_gw_b s_gw_u s_gw_gb s_gw_f
theorem vrels_strs {M : Mem} : ∀ {ss : List ByteArray} {vs : List Value}, VRels M (ss.map .str) vs ↔ vs = ss.map .string
  | [], vs => by simp [VRels]
  | s :: ss, vs => by
    simp only [List.map_cons, VRels, VRel]
    constructor
    · rintro ⟨v, vs', rfl, rfl, h⟩
      rw [vrels_strs.1 h]
    · rintro rfl
      exact ⟨_, _, rfl, rfl, vrels_strs.2 rfl⟩
abbrev KT : TypeId := Tryz.keysA_ren.t 26
theorem p_sorted {H : Heap} {c mb : Nat} {es : List (AV × AV)} {ns : List ByteArray} (hc : H c = some (.cells [.mp mb] 1)) (hm : H mb = some (.map es)) (hk : es.map (·.1) = ns.map .str) (hsz : ∀ n ∈ ns, n.size ≤ maxLen)
    (hlen : ns.length * 16 ≤ 140737488355328) : CC PP F_slices_Sorted_string [.fn (.func F_keys_1) [] [.ptr c 0]] H fun v H' => H' = H ∧ IsS v (sortS ns) := by
  intro M w vs hv hr
  obtain ⟨rfl⟩ : vs = [.func (.func F_keys_1) #[] #[.pointer (some ⟨c, 0, none⟩)]] := by
    simp only [VRels, VRel] at hv
    obtain ⟨_, _, rfl, ⟨xs, ys, rfl, h1, y, _, h2, rfl, rfl⟩, rfl⟩ := hv
    have e1 : xs = #[] := by apply Array.toList_inj.1; simpa using h1
    have e2 : ys = #[.pointer (some ⟨c, 0, none⟩)] := by apply Array.toList_inj.1; simpa using h2
    rw [e1, e2]
  obtain ⟨o, ho, hrel⟩ := hr.live _ _ hm
  simp only [BRel] at hrel
  obtain ⟨xs, clock, rfl, hst, hks, hvs⟩ := hrel
  rw [hk] at hks
  have hkeys := vrels_strs.1 hks
  have hcl := hr.lt hc
  obtain ⟨u, hcell, hu⟩ := hr.cell hc (o := 0) (v := .mp mb) rfl
  simp only [VRel] at hu
  subst hu
  have hKT : PP.underlying KT = some .string := Tryz.keysA.t26
  have hxl : xs.size = ns.length := by have := congrArg List.length hkeys; simpa using this
  have hmx : xs.size ≤ maxLen := by have : (140737488355328 : Nat) ≤ maxLen := by decide
                                    omega
  let R : Value → Option (DataW Unit × List MemPlace) := fun _ => some (.nil, [])
  have hkey : ∀ x ∈ xs.toList, ∃ s : ByteArray, x.key = .string s ∧ s.size ≤ maxLen := fun x hx => by
    have : x.key ∈ xs.toList.map (·.key) := List.mem_map.2 ⟨x, hx, rfl⟩
    rw [hkeys] at this
    obtain ⟨s, hs, he⟩ := List.mem_map.1 this
    exact ⟨s, he.symm, hsz s hs⟩
  have hrd : ∀ x ∈ xs.toList, ∀ s : ByteArray, x.key = .string s → s.size ≤ maxLen → Go.WideElems.rd PP KT R x = some (.string s.data.toList, .nil) := fun x hx s hs hl => by
    unfold Go.WideElems.rd
    rw [hs]
    have : keyOf PP KT (.string s) = some (.string s.data.toList) := by simp [keyOf, hKT, mapKey, hl]
    rw [this]; rfl
  have hown : w.ownsMap PP KT R mb xs.size (.map ((xs.toList.map (Go.WideElems.rg PP KT R)).foldr DataW.insert [])) :=
    ⟨xs, clock, ho, ⟨hmx, hst, fun x hx => by obtain ⟨s, h1, h2⟩ := hkey x hx; exact ⟨_, hrd x hx s h1 h2⟩⟩, Nat.le_refl _, rfl⟩
  have hD : Maps.size (.map ((xs.toList.map (Go.WideElems.rg PP KT R)).foldr DataW.insert []) : DataW Unit) = ns.length := by
    rw [Maps.size_eq, (Go.WideShapes.sorted_perm _).length_eq, List.length_map, ← hxl]; simp
  have hstr : (strKeys (.map ((xs.toList.map (Go.WideElems.rg PP KT R)).foldr DataW.insert []) : DataW Unit)).Perm (ns.map fun n => n.data.toList) := by
    unfold strKeys
    refine ((Go.WideShapes.sorted_perm _).map _).trans ?_
    have : (xs.toList.map (Go.WideElems.rg PP KT R)).map (fun p => Go.strOf p.1) = ns.map fun n => n.data.toList := by
      have e : ∀ x ∈ xs.toList, Go.strOf (Go.WideElems.rg PP KT R x).1 = (match x.key with | .string s => s.data.toList | _ => []) := fun x hx => by
        obtain ⟨s, h1, h2⟩ := hkey x hx
        rw [Go.WideElems.rg_of (hrd x hx s h1 h2), h1]; rfl
      rw [List.map_map]
      have e2 : xs.toList.map ((fun p => Go.strOf p.1) ∘ Go.WideElems.rg PP KT R) = (xs.toList.map (·.key)).map fun v => match v with | .string s => s.data.toList | _ => [] := by
        rw [List.map_map]
        exact List.map_congr_left fun x hx => e x hx
      rw [e2, hkeys, List.map_map]; rfl
    rw [this]
  have hseq := AnyZ.keys_gives (ρ := Tryz.keysA_ren) { Tryz.keysA with } Fence.wide 2 trivial rfl (by omega) c mb xs.size _ w hcl hcell hown
  have cS := AnyZ.sorted_in Tryz.sortedA Fence.wide 5 trivial trivial trivial trivial rfl (by omega) (sortsA _) (enters_of Tryz.func170 (by kernel_rfl) rfl) F_keys_1 #[.pointer (some ⟨c, 0, none⟩)] trivial (enters_of Tryz.func171 (by kernel_rfl) rfl) _ _ (by rw [hD]; omega) (by rw [hD]; exact hlen) _ hseq
  refine (callsIn_wide.1 cS).mono ?_
  rintro e w' ⟨v, ss, rfl, hS, hrow, hnil, hb⟩
  have hsort : (ss.mergeSort fun x y => decide (x ≤ y)) = (ns.map fun n => n.data.toList).mergeSort fun x y => decide (x ≤ y) := mergeSort_of_perm (hS.trans hstr)
  obtain ⟨hrl, ⟨rfl, h0⟩ | ⟨g, cap, cur, rfl, hg, hcur, hcap, _, _, htake⟩⟩ := hrow
  · obtain ⟨r', f'⟩ := hr.below hb
    have hss : ss = [] := List.length_eq_zero_iff.1 h0
    refine ⟨.nils, _, M, H, rfl, by simp only [VRel], r', f', rfl, .inl ⟨rfl, ?_⟩⟩
    unfold sortS
    rw [← hsort, hss]; simp
  · obtain ⟨r', f'⟩ := hr.below_hold hb hg hcur
    have hsl : (sortS ns).length = ss.length := by unfold sortS; rw [← hsort]; simp
    refine ⟨.imm ((sortS ns).map .str) (sortS ns).length none, _, _, H, rfl, ?_, r', f', rfl, .inr ⟨none, rfl⟩⟩
    simp only [VRel]
    refine ⟨some ⟨g, 0, none⟩, cur.toList.take (ss.length * 1), cap, by rw [hsl], fun x h => (by cases h), by rw [hsl]; exact hcap, fun h => (by cases h), fun a ha => ?_, ?_⟩
    · cases ha
      refine ⟨fun _ => rfl, fun j u hj => ?_⟩
      rw [List.getElem?_take] at hj
      split at hj
      · simp only [madd, if_true, Nat.zero_add]; exact hj
      · cases hj
    · rw [htake, vrels_strs, hsort]
      unfold sortS
      rw [List.map_map]; rfl
theorem k_diskSync {H : Heap} {d f k : Nat} {av : AV} {F K A : FileL} (hD : DiskQ H d f k av F K A) :
    CC PP F_disk_Disk_Sync [.ptr d 0] H fun v H' => ∃ k', H k' = none ∧ DiskQ H' d f k' .nils F F [] ∧ ∀ x, x ≠ d → H x ≠ none → H' x = H x := by
  obtain ⟨es, ks, acts, hDA, hF, hK, hAc⟩ := hD
  have hd := hDA.hd
  refine CC.by_vc ok_disk_Disk_Sync (by simp) ?_
  unfold c_disk_Disk_Sync
  simp [hd]
  refine CallK.of (k_mapsClone hDA.hf) ?_
  rintro v H' ⟨k', rfl, hk', rfl⟩
  have hdk : d ≠ k' := fun h => by rw [← h, hd] at hk'; cases hk'
  have hfk : f ≠ k' := fun h => by rw [← h, hDA.hf] at hk'; cases hk'
  have hdf : d ≠ f := fun h => by rw [h, hDA.hf] at hd; cases hd
  simp [Heap.set_ne, hdk, hd, Heap.set_self]
  refine ⟨k', hk', ⟨es, es, [], ⟨Heap.set_self _ _ _, ?_, ?_, ⟨rfl, .inl ⟨rfl, rfl⟩⟩, hfk, by simp [blkOf]⟩, hF, hF, rfl⟩, fun x h1 h2 => ?_⟩
  · rw [Heap.set_ne _ _ (Ne.symm hdf), Heap.set_ne _ _ (Ne.symm hdf), Heap.set_ne _ _ hfk]; exact hDA.hf
  · rw [Heap.set_ne _ _ (Ne.symm hdk), Heap.set_ne _ _ (Ne.symm hdk), Heap.set_self]
  · rw [Heap.set_ne _ _ h1, Heap.set_ne _ _ h1, Heap.set_ne _ _ (fun h => h2 (by rw [h]; exact hk'))]
theorem fs_keys : ∀ {es : List (AV × AV)} {F : FileL}, FsRel es F → es.map (·.1) = (F.map (·.1)).map .str
  | [], [], _ => rfl
  | [], _ :: _, h => h.elim
  | _ :: _, [], h => h.elim
  | e :: es, p :: F, h => by simp only [List.map_cons, h.1, fs_keys h.2.2]
theorem k_diskList {H : Heap} {d f k : Nat} {av : AV} {F K A : FileL} (hD : DiskQ H d f k av F K A) (hsz : ∀ p ∈ F, p.1.size ≤ maxLen) (hlen : F.length ≤ 2 ^ 40) :
    CC PP F_disk_Disk_List [.ptr d 0] H fun v H' => H' = H ∧ IsS v (sortS (F.map (·.1))) := by
  obtain ⟨es, ks, acts, hDA, hF, hK, hAc⟩ := hD
  have hd := hDA.hd
  have main : CC PP F_disk_Disk_List [.ptr d 0] H fun v H' => (∀ x, H x ≠ none → H' x = H x) ∧ IsS v (sortS (F.map (·.1))) := by
    refine CC.by_vc ok_disk_Disk_List (by simp) ?_
    unfold c_disk_Disk_List
    simp [hd]
    refine CallK.of k_keys ?_
    rintro v H' ⟨c, rfl, hc, rfl⟩
    simp
    have hfc : f ≠ c := fun h => by rw [← h, hDA.hf] at hc; cases hc
    refine CallK.of (p_sorted (c := c) (mb := f) (es := es) (ns := F.map (·.1)) (Heap.set_self _ _ _) (by rw [Heap.set_ne _ _ hfc]; exact hDA.hf) (fs_keys hF) (fun n hn => by obtain ⟨p, hp, rfl⟩ := List.mem_map.1 hn; exact hsz p hp) (by simp; omega)) ?_
    rintro v H' ⟨rfl, hv⟩
    simp [hv.un]
    exact ⟨fun x hx => Heap.set_ne _ _ (fun h => hx (by rw [h]; exact hc)), hv⟩
  exact main.forget fun v H' ⟨h1, h2⟩ => ⟨H, fun b => by
    cases hb : H b with
    | none => exact .inr rfl
    | some x => exact .inl (by rw [← hb, h1 b (by rw [hb]; simp)]), rfl, h2⟩
end Go.Proofs.YtcpfodhhjkaibaaGreat
