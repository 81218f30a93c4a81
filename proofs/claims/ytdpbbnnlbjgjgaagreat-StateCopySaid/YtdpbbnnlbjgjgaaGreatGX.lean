/- Disks: names in order, sync, crashes. Disks: what a crash leaves. Stores. Stores: what is there; what is put. One of each. -/
import Derived.Test.YtdpbbnnlbjgjgaaGreatKB
import Derived.Test.YtdpbbnnlbjgjgaaGreatGK
import Derived.Test.YtdpbbnnlbjgjgaaGreatN2
set_option linter.unusedVariables false
set_option linter.unusedSimpArgs false
set_option maxRecDepth 100000
open Go.Sf
attribute [local simp] s_skip s_ops s_draw s_any s_contA s_tdone s_ttwo s_top_p s_top_pick s_top_e s_top_g s_seq s_cond s_block s_loop s_exit s_ret s_mark s_then_n s_then_e s_then_r s_in_n s_in_e s_in_r s_contC s_contO s_contQ s_contT s_nil s_cons_p s_cons_pick s_cons_e s_cons_g s_qnil s_qcons_p s_qcons_pick s_qcons_e s_qcons_g s_M s_Mg s_Mq s_Mqg s_G_p s_G_pick s_G_e s_Gq_p s_Gq_pick s_Gq_e s_if s_call s_callv s_qcall s_qcallv s_getAll_nil s_getAll_cons s_put_some s_put_none s_ev_t s_ev_c s_ev_f un evP evK argT resAV lenOf_nils lenOf_imm lenOf_sl lenOf_str optI slcV binV isShift binInt binStr shiftInt pickV unV s_append s_alloc s_box s_bslice s_Bs_t s_Bs_f s_store1 s_storeN s_St1 s_St s_s2b s_markb s_Mk s_mkslice s_qbslice s_qs2b s_ret_n s_ret_r s_retc_n s_retc_r s_RV_nil s_RV_t s_RV_c s_RV1 tupOf fillC kn_int cl_int on_int kn_bool cl_bool on_bool kn_str cl_str on_str kn_nilp cl_nilp on_nilp kn_ptr cl_ptr on_ptr kn_iptr cl_iptr on_iptr kn_nils cl_nils on_nils kn_sl cl_sl on_sl kn_imm cl_imm on_imm kn_mp cl_mp on_mp kn_nilm cl_nilm on_nilm kn_fn cl_fn on_fn kn_nilf cl_nilf on_nilf kn_agg cl_agg scalEq flatEq eqV s_copy_i s_copy_s s_Cp s_clr s_clrn s_Cl s_appz s_Az s_ext s_Ov s_mapB s_mapBS s_rng s_rngn s_Rn s_nxt s_Nx0 s_ent s_mkmap s_mset s_mdel mapOf s_Mg_n s_Mqg_n s_gw_b s_gw_u s_gw_gb s_gw_f
namespace Go.Proofs.YtdpbbnnlbjgjgaaGreat
open Go.Sf
theorem vrels_strs {M : Mem} : ∀ {ss : List ByteArray} {vs : List Value}, VRels M (ss.map .str) vs ↔ vs = ss.map .string
  | [], vs => by simp [VRels]
  | s :: ss, vs => by
    simp only [List.map_cons, VRels, VRel]
    constructor
    · rintro ⟨v, vs', rfl, rfl, h⟩
      rw [vrels_strs.1 h]
    · rintro rfl
      exact ⟨_, _, rfl, rfl, vrels_strs.2 rfl⟩
abbrev KT : TypeId := Tryz.keysA_ren.t 26
theorem p_sorted {H : Heap} {c mb : Nat} {es : List (AV × AV)} {ns : List ByteArray} (hc : H c = some (.cells [.mp mb] 1)) (hm : H mb = some (.map es)) (hk : es.map (·.1) = ns.map .str) (hsz : ∀ n ∈ ns, n.size ≤ maxLen)
    (hlen : ns.length * 16 ≤ 140737488355328) : CC PP F_slices_Sorted_string [.fn (.func F_keys_1) [] [.ptr c 0]] H fun v H' => H' = H ∧ IsS v (sortS ns) := by
  intro M w vs hv hr
  obtain ⟨rfl⟩ : vs = [.func (.func F_keys_1) #[] #[.pointer (some ⟨c, 0, none⟩)]] := by
    simp only [VRels, VRel] at hv
    obtain ⟨_, _, rfl, ⟨xs, ys, rfl, h1, y, _, h2, rfl, rfl⟩, rfl⟩ := hv
    have e1 : xs = #[] := by apply Array.toList_inj.1; simpa using h1
    have e2 : ys = #[.pointer (some ⟨c, 0, none⟩)] := by apply Array.toList_inj.1; simpa using h2
    rw [e1, e2]
  obtain ⟨o, ho, hrel⟩ := hr.live _ _ hm
  simp only [BRel] at hrel
  obtain ⟨xs, clock, rfl, hst, hks, hvs⟩ := hrel
  rw [hk] at hks
  have hkeys := vrels_strs.1 hks
  have hcl := hr.lt hc
  obtain ⟨u, hcell, hu⟩ := hr.cell hc (o := 0) (v := .mp mb) rfl
  simp only [VRel] at hu
  subst hu
  have hKT : PP.underlying KT = some .string := Tryz.keysA.t26
  have hxl : xs.size = ns.length := by have := congrArg List.length hkeys; simpa using this
  have hmx : xs.size ≤ maxLen := by have : (140737488355328 : Nat) ≤ maxLen := by decide
                                    omega
  let R : Value → Option (DataW Unit × List MemPlace) := fun _ => some (.nil, [])
  have hkey : ∀ x ∈ xs.toList, ∃ s : ByteArray, x.key = .string s ∧ s.size ≤ maxLen := fun x hx => by
    have : x.key ∈ xs.toList.map (·.key) := List.mem_map.2 ⟨x, hx, rfl⟩
    rw [hkeys] at this
    obtain ⟨s, hs, he⟩ := List.mem_map.1 this
    exact ⟨s, he.symm, hsz s hs⟩
  have hrd : ∀ x ∈ xs.toList, ∀ s : ByteArray, x.key = .string s → s.size ≤ maxLen → Go.WideElems.rd PP KT R x = some (.string s.data.toList, .nil) := fun x hx s hs hl => by
    unfold Go.WideElems.rd
    rw [hs]
    have : keyOf PP KT (.string s) = some (.string s.data.toList) := by simp [keyOf, hKT, mapKey, hl]
    rw [this]; rfl
  have hown : w.ownsMap PP KT R mb xs.size (.map ((xs.toList.map (Go.WideElems.rg PP KT R)).foldr DataW.insert [])) :=
    ⟨xs, clock, ho, ⟨hmx, hst, fun x hx => by obtain ⟨s, h1, h2⟩ := hkey x hx; exact ⟨_, hrd x hx s h1 h2⟩⟩, Nat.le_refl _, rfl⟩
  have hD : Maps.size (.map ((xs.toList.map (Go.WideElems.rg PP KT R)).foldr DataW.insert []) : DataW Unit) = ns.length := by
    rw [Maps.size_eq, (Go.WideShapes.sorted_perm _).length_eq, List.length_map, ← hxl]; simp
  have hstr : (strKeys (.map ((xs.toList.map (Go.WideElems.rg PP KT R)).foldr DataW.insert []) : DataW Unit)).Perm (ns.map fun n => n.data.toList) := by
    unfold strKeys
    refine ((Go.WideShapes.sorted_perm _).map _).trans ?_
    have : (xs.toList.map (Go.WideElems.rg PP KT R)).map (fun p => Go.strOf p.1) = ns.map fun n => n.data.toList := by
      have e : ∀ x ∈ xs.toList, Go.strOf (Go.WideElems.rg PP KT R x).1 = (match x.key with | .string s => s.data.toList | _ => []) := fun x hx => by
        obtain ⟨s, h1, h2⟩ := hkey x hx
        rw [Go.WideElems.rg_of (hrd x hx s h1 h2), h1]; rfl
      rw [List.map_map]
      have e2 : xs.toList.map ((fun p => Go.strOf p.1) ∘ Go.WideElems.rg PP KT R) = (xs.toList.map (·.key)).map fun v => match v with | .string s => s.data.toList | _ => [] := by
        rw [List.map_map]
        exact List.map_congr_left fun x hx => e x hx
      rw [e2, hkeys, List.map_map]; rfl
    rw [this]
  have hseq := AnyZ.keys_gives (ρ := Tryz.keysA_ren) { Tryz.keysA with } Fence.wide 2 trivial rfl (by omega) c mb xs.size _ w hcl hcell hown
  have cS := AnyZ.sorted_in Tryz.sortedA Fence.wide 5 trivial trivial trivial trivial rfl (by omega) (sortsA _) (enters_of Tryz.func168 (by kernel_rfl) rfl) F_keys_1 #[.pointer (some ⟨c, 0, none⟩)] trivial (enters_of Tryz.func169 (by kernel_rfl) rfl) _ _ (by rw [hD]; omega) (by rw [hD]; exact hlen) _ hseq
  refine (callsIn_wide.1 cS).mono ?_
  rintro e w' ⟨v, ss, rfl, hS, hrow, hnil, hb⟩
  have hsort : (ss.mergeSort fun x y => decide (x ≤ y)) = (ns.map fun n => n.data.toList).mergeSort fun x y => decide (x ≤ y) := mergeSort_of_perm (hS.trans hstr)
  obtain ⟨hrl, ⟨rfl, h0⟩ | ⟨g, cap, cur, rfl, hg, hcur, hcap, _, _, htake⟩⟩ := hrow
  · obtain ⟨r', f'⟩ := hr.below hb
    have hss : ss = [] := List.length_eq_zero_iff.1 h0
    refine ⟨.nils, _, M, H, rfl, by simp only [VRel], r', f', rfl, .inl ⟨rfl, ?_⟩⟩
    unfold sortS
    rw [← hsort, hss]; simp
  · obtain ⟨r', f'⟩ := hr.below_hold hb hg hcur
    have hsl : (sortS ns).length = ss.length := by unfold sortS; rw [← hsort]; simp
    refine ⟨.imm ((sortS ns).map .str) (sortS ns).length none, _, _, H, rfl, ?_, r', f', rfl, .inr ⟨none, rfl⟩⟩
    simp only [VRel]
    refine ⟨some ⟨g, 0, none⟩, cur.toList.take (ss.length * 1), cap, by rw [hsl], fun x h => (by cases h), by rw [hsl]; exact hcap, fun h => (by cases h), fun a ha => ?_, ?_⟩
    · cases ha
      refine ⟨fun _ => rfl, fun j u hj => ?_⟩
      rw [List.getElem?_take] at hj
      split at hj
      · simp only [madd, if_true, Nat.zero_add]; exact hj
      · cases hj
    · rw [htake, vrels_strs, hsort]
      unfold sortS
      rw [List.map_map]; rfl
theorem k_diskSync {H : Heap} {d f k : Nat} {av : AV} {F K A : FileL} (hD : DiskQ H d f k av F K A) :
    CC PP F_disk_Disk_Sync [.ptr d 0] H fun v H' => ∃ k', H k' = none ∧ DiskQ H' d f k' .nils F F [] ∧ ∀ x, x ≠ d → H x ≠ none → H' x = H x := by
  obtain ⟨es, ks, acts, hDA, hF, hK, hAc⟩ := hD
  have hd := hDA.hd
  refine CC.by_vc ok_disk_Disk_Sync (by simp) ?_
  unfold c_disk_Disk_Sync
  simp [hd]
  refine CallK.of (k_mapsClone hDA.hf) ?_
  rintro v H' ⟨k', rfl, hk', rfl⟩
  have hdk : d ≠ k' := fun h => by rw [← h, hd] at hk'; cases hk'
  have hfk : f ≠ k' := fun h => by rw [← h, hDA.hf] at hk'; cases hk'
  have hdf : d ≠ f := fun h => by rw [h, hDA.hf] at hd; cases hd
  simp [Heap.set_ne, hdk, hd, Heap.set_self]
  refine ⟨k', hk', ⟨es, es, [], ⟨Heap.set_self _ _ _, ?_, ?_, ⟨rfl, .inl ⟨rfl, rfl⟩⟩, hfk, by simp [blkOf]⟩, hF, hF, rfl⟩, fun x h1 h2 => ?_⟩
  · rw [Heap.set_ne _ _ (Ne.symm hdf), Heap.set_ne _ _ (Ne.symm hdf), Heap.set_ne _ _ hfk]; exact hDA.hf
  · rw [Heap.set_ne _ _ (Ne.symm hdk), Heap.set_ne _ _ (Ne.symm hdk), Heap.set_self]
  · rw [Heap.set_ne _ _ h1, Heap.set_ne _ _ h1, Heap.set_ne _ _ (fun h => h2 (by rw [h]; exact hk'))]
theorem fs_keys : ∀ {es : List (AV × AV)} {F : FileL}, FsRel es F → es.map (·.1) = (F.map (·.1)).map .str
  | [], [], _ => rfl
  | [], _ :: _, h => h.elim
  | _ :: _, [], h => h.elim
  | e :: es, p :: F, h => by simp only [List.map_cons, h.1, fs_keys h.2.2]
theorem k_diskList {H : Heap} {d f k : Nat} {av : AV} {F K A : FileL} (hD : DiskQ H d f k av F K A) (hsz : ∀ p ∈ F, p.1.size ≤ maxLen) (hlen : F.length ≤ 2 ^ 40) :
    CC PP F_disk_Disk_List [.ptr d 0] H fun v H' => H' = H ∧ IsS v (sortS (F.map (·.1))) := by
  obtain ⟨es, ks, acts, hDA, hF, hK, hAc⟩ := hD
  have hd := hDA.hd
  have main : CC PP F_disk_Disk_List [.ptr d 0] H fun v H' => (∀ x, H x ≠ none → H' x = H x) ∧ IsS v (sortS (F.map (·.1))) := by
    refine CC.by_vc ok_disk_Disk_List (by simp) ?_
    unfold c_disk_Disk_List
    simp [hd]
    refine CallK.of k_keys ?_
    rintro v H' ⟨c, rfl, hc, rfl⟩
    simp
    have hfc : f ≠ c := fun h => by rw [← h, hDA.hf] at hc; cases hc
    refine CallK.of (p_sorted (c := c) (mb := f) (es := es) (ns := F.map (·.1)) (Heap.set_self _ _ _) (by rw [Heap.set_ne _ _ hfc]; exact hDA.hf) (fs_keys hF) (fun n hn => by obtain ⟨p, hp, rfl⟩ := List.mem_map.1 hn; exact hsz p hp) (by simp; omega)) ?_
    rintro v H' ⟨rfl, hv⟩
    simp [hv.un]
    exact ⟨fun x hx => Heap.set_ne _ _ (fun h => hx (by rw [h]; exact hc)), hv⟩
  exact main.forget fun v H' ⟨h1, h2⟩ => ⟨H, fun b => by
    cases hb : H b with
    | none => exact .inr rfl
    | some x => exact .inl (by rw [← hb, h1 b (by rw [hb]; simp)]), rfl, h2⟩
end Go.Proofs.YtdpbbnnlbjgjgaaGreat
set_option linter.unusedVariables false
set_option linter.unusedSimpArgs false
set_option maxRecDepth 100000
namespace Go.Sf
/-- What a crash leaves of files to which these acts were done, as many bytes of them being kept. -/
def leftF : Nat → FileL → FileL → FileL
  | _, [], M => M
  | q, p :: A, M => if p.2.length ≤ q then leftF (q - p.2.length) A (fapp M p.1 p.2) else if q = 0 then M else fapp M p.1 (p.2.take q)
def totL : FileL → Nat
  | [] => 0
  | p :: F => p.2.length + totL F
theorem fget_le (n : ByteArray) : ∀ F : FileL, (fget n F).length ≤ totL F := by
  intro F
  unfold fget
  cases h : fidx n F with
  | none => simp
  | some j =>
    have hj := fidx_lt h
    simp only [Option.bind_some, List.getElem?_eq_getElem hj]
    clear h
    induction F generalizing j with
    | nil => simp at hj
    | cons p F ih =>
      cases j with
      | zero => simp [totL]
      | succ j =>
        have := ih j (by simpa using hj)
        simp only [List.getElem_cons_succ, totL]; omega
theorem totL_append (F G : FileL) : totL (F ++ G) = totL F + totL G := by
  induction F with
  | nil => simp [totL]
  | cons p F ih => simp only [List.cons_append, totL, ih]; omega
theorem totL_set : ∀ (F : FileL) (j : Nat) (hj : j < F.length) (p : ByteArray × List UInt8), totL (F.set j p) + F[j].2.length = totL F + p.2.length
  | [], j, hj, p => by simp at hj
  | q :: F, 0, hj, p => by simp [totL]; omega
  | q :: F, j + 1, hj, p => by
    have := totL_set F j (by simpa using hj) p
    simp only [List.set_cons_succ, totL, List.getElem_cons_succ]; omega
theorem totL_fapp (F : FileL) (n : ByteArray) (l : List UInt8) : totL (fapp F n l) = totL F + l.length := by
  unfold fapp fset fget
  cases h : fidx n F with
  | none => simp [totL_append, totL]
  | some j =>
    have hj := fidx_lt h
    simp only [Option.bind_some, List.getElem?_eq_getElem hj]
    have := totL_set F j hj (n, F[j].2 ++ l)
    simp only [List.length_append] at this; omega
theorem totL_drop (A : FileL) {i : Nat} {p : ByteArray × List UInt8} (h : A[i]? = some p) : totL (A.drop i) = p.2.length + totL (A.drop (i + 1)) := by
  obtain ⟨hi, rfl⟩ := List.getElem?_eq_some_iff.1 h
  rw [List.drop_eq_getElem_cons hi]; rfl
end Go.Sf
namespace Go.Proofs.YtdpbbnnlbjgjgaaGreat
open Go.Sf
def I_left (H0 : Heap) (g : Nat) (av : AV) (A W : FileL) (k : Nat) (T : Nat → AV) (H : Heap) : Prop :=
  ∃ (i q : Nat) (es : List (AV × AV)) (M : FileL), k + i = A.length ∧ T 1 = .int .i64 q ∧ q < 2 ^ 62 ∧ T 5 = .mp g ∧ T 19 = av ∧ T 20 = .int .i64 A.length ∧ T 21 = .int .i64 i ∧ H g = some (.map es) ∧ FsRel es M ∧ leftF q (A.drop i) M = W ∧
    totL M + totL (A.drop i) ≤ 2 ^ 40 ∧ ∀ x, H0 x ≠ none → H x = H0 x
theorem k_diskLeft {H0 : Heap} {d f k : Nat} {av : AV} {F K A : FileL} (hD : DiskQ H0 d f k av F K A) (kept : Int) (h1 : -9223372036854775808 ≤ kept) (h2 : kept < 2 ^ 62) (hA : A.length < 2 ^ 30) (ht : totL K + totL A ≤ 2 ^ 40) :
    CC PP F_disk_Disk_left [.ptr d 0, .int .i64 kept] H0 fun v H' => ∃ g es, v = .mp g ∧ H0 g = none ∧ H' g = some (.map es) ∧ FsRel es (leftF kept.toNat A K) ∧ ∀ x, H0 x ≠ none → H' x = H0 x := by
  obtain ⟨es, ks, acts, hDA, hF, hK, hAc⟩ := hD
  have hd := hDA.hd
  refine CC.by_vc ok_disk_Disk_left (by simp) ?_
  unfold c_disk_Disk_left
  simp [hd]
  refine CallK.of (k_mapsClone hDA.hk) ?_
  rintro v H1 ⟨g, rfl, hg, rfl⟩
  have hdg : d ≠ g := fun h => by rw [← h, hd] at hg; cases hg
  have hmax : (if kept < 0 then (0 : Int) else kept) = (kept.toNat : Int) := by split <;> omega
  have old0 : ∀ x, H0 x ≠ none → (H0.set g (some (.map ks))) x = H0 x := fun x hx => Heap.set_ne _ _ (fun h => hx (by rw [h]; exact hg))
  obtain ⟨hal, ⟨rfl, hA0⟩ | ⟨b, c, rfl, hb, hc⟩⟩ := hDA.ha
  · have hAn : A = [] := List.length_eq_zero_iff.1 hA0
    subst hAn
    simp [hmax, Heap.set_ne, hdg, hd]
    refine LoopV.mk2 (I_left H0 g .nils [] (leftF kept.toNat [] K)) 0 ⟨0, kept.toNat, ks, K, rfl, by simp, by omega, by simp, by simp, by simp, by simp, Heap.set_self _ _ _, hK, rfl, by simpa [totL] using ht, old0⟩ ?_
    rintro q T H ⟨i, q', es', M, hk, t1, hq, t5, t19, t20, t21, hHg, hM, hW, htot, hold⟩
    have hi : i = 0 := by simp at hk; omega
    subst hi
    simp [t20, t21, t5]
    refine ⟨hg, _, hHg, ?_, hold⟩
    rw [← hW]; exact hM
  · have hbg : b ≠ g := fun h => by rw [← h, hb] at hg; cases hg
    simp [hmax, Heap.set_ne, hdg, hd]
    refine LoopV.mk2 (I_left H0 g (.sl b 0 A.length c) A (leftF kept.toNat A K)) A.length ⟨0, kept.toNat, ks, K, by omega, by simp, by omega, by simp, by simp, by simp, by simp, Heap.set_self _ _ _, hK, rfl, by simpa using ht, old0⟩ ?_
    rintro q T H ⟨i, q', es', M, hk, t1, hq, t5, t19, t20, t21, hHg, hM, hW, htot, hold⟩
    rcases Nat.lt_or_ge i A.length with hi | hi
    · obtain ⟨k', rfl⟩ : ∃ k', q = k' + 1 := ⟨q - 1, by omega⟩
      have hAi : A[i]? = some A[i] := by simp [hi]
      have hdr : A.drop i = A[i] :: A.drop (i + 1) := List.drop_eq_getElem_cons hi
      have htd := totL_drop A hAi
      generalize A[i] = p at hAi hdr htd
      obtain ⟨ub, hcell, hub, hlen⟩ := hAc.at hAi
      have hHb : H b = some (.cells acts (c * 4)) := by rw [hold b (by rw [hb]; simp)]; exact hb
      simp [t19, t20, t21, hi, hHb, hcell, hlen]
      intro bm hbm
      have hgm : g ≠ bm := fun h => by rw [← h, hHg] at hbm; cases hbm
      have doit : ∀ (u : AV) (l : List UInt8) (H2 : Heap), IsB u l → l.length ≤ p.2.length → H2 g = some (.map es') → CC PP F_disk_do [.mp g, .agg [.int .i64 0, .str p.1, u, .int .i64 0]] H2 fun v H' => ∃ es2, H' g = some (.map es2) ∧ FsRel es2 (fapp M p.1 l) ∧ ∀ x, x ≠ g → H2 x ≠ none → H' x = H2 x := fun u l H2 hu hl hg2 =>
        (k_do hg2 (hM.find (n := p.1)) (hM.val p.1) hu 0 (by have := fget_le p.1 M; omega)).mono fun v H' ⟨w, q1, q2, q3⟩ => ⟨_, q2, hM.put q1, q3⟩
      have again : ∀ (T : Nat → AV) (H' H2 : Heap) (es2 : List (AV × AV)), p.2.length ≤ q' → (∀ x, x ≠ g → H2 x ≠ none → H' x = H2 x) → (∀ x, H x ≠ none → x ≠ g → H2 x = H x) → H' g = some (.map es2) → FsRel es2 (fapp M p.1 p.2) → T 1 = .int .i64 ((q' - p.2.length : Nat) : Int) → T 5 = .mp g → T 19 = .sl b 0 A.length c → T 20 = .int .i64 A.length → T 21 = .int .i64 ((i + 1 : Nat) : Int) →
          Again2 (I_left H0 g (.sl b 0 A.length c) A (leftF kept.toNat A K)) (k' + 1) ⟨T, H'⟩ := fun T H' H2 es2 a1 a2 a3 a4 a5 a6 a7 a8 a9 a10 => by
        refine Again2.mk k' (by omega) ⟨i + 1, q' - p.2.length, es2, fapp M p.1 p.2, by omega, a6, by omega, a7, a8, a9, a10, a4, a5, ?_, ?_, fun x hx => ?_⟩
        · rw [← hW, hdr]; simp only [leftF]; rw [if_pos a1]
        · rw [totL_fapp]; omega
        · have hxg : x ≠ g := fun h => hx (by rw [h]; exact hg)
          rw [a2 x hxg (by rw [a3 x (by rw [hold x hx]; exact hx) hxg, hold x hx]; exact hx), a3 x (by rw [hold x hx]; exact hx) hxg, hold x hx]
      have hxm : ∀ w x, H x ≠ none → x ≠ g → (H.set bm w) x = H x := fun w x hx _ => Heap.set_ne _ _ (fun h => hx (by rw [h]; exact hbm))
      rcases hub with ⟨rfl, hp2⟩ | ⟨cu, rfl⟩
      · have hq0 : ¬ ((q' : Int) < 0) := by omega
        simp [Heap.set_self, Heap.set_set, t1, t5, hq0]
        refine CallK.of (doit .nils p.2 _ (.inl ⟨rfl, hp2⟩) (Nat.le_refl _) (by rw [Heap.set_ne _ _ hgm]; exact hHg)) ?_
        rintro v H' ⟨es2, w1, w2, w3⟩
        simp [t21]
        refine again _ _ _ es2 (by rw [hp2]; simp) w3 (hxm _) w1 w2 ?_ ?_ ?_ ?_ ?_
        · simp [hp2]; rw [wrap_i64 (by omega) (by omega)]
        · simp [t5]
        · simp [t19]
        · simp [t20]
        · simp; rw [wrap_i64 (by omega) (by omega)]
      · by_cases hw : p.2.length ≤ q'
        · have hw' : ¬ (q' < p.2.length) := by omega
          have hw2 : (p.2.length : Int) ≤ (q' : Int) := by omega
          simp [Heap.set_self, Heap.set_set, t1, t5, hw, hw', immB, bytesV_length]
          refine CallK.of (doit (.imm (List.take p.2.length (bytesV p.2)) p.2.length cu) p.2 _ (.inr ⟨cu, by rw [List.take_of_length_le (by simp [bytesV_length])]; rfl⟩) (Nat.le_refl _) (by rw [Heap.set_ne _ _ hgm]; exact hHg)) ?_
          rintro v H' ⟨es2, w1, w2, w3⟩
          simp [t21]
          refine again _ _ _ es2 hw w3 (hxm _) w1 w2 ?_ ?_ ?_ ?_ ?_
          · simp; rw [wrap_i64 (by omega) (by omega)]; omega
          · simp [t5]
          · simp [t19]
          · simp [t20]
          · simp; rw [wrap_i64 (by omega) (by omega)]
        · have hw' : q' < p.2.length := by omega
          rcases Nat.eq_zero_or_pos q' with rfl | hq1
          · simp [Heap.set_self, Heap.set_set, t1, t5, hw, hw', immB, bytesV_length]
            have hpn : p.2 ≠ [] := fun h => by rw [h] at hw; simp at hw
            simp [hpn]
            refine ⟨hg, es', by rw [Heap.set_ne _ _ hgm]; exact hHg, ?_, fun x hx => ?_⟩
            · rw [← hW, hdr]; simp only [leftF]; rw [if_neg hw]; simpa using hM
            · rw [hxm _ x (by rw [hold x hx]; exact hx) (fun h => hx (by rw [h]; exact hg)), hold x hx]
          · simp [Heap.set_self, Heap.set_set, t1, t5, hw, hw', immB, bytesV_length, hq1]
            refine ⟨by omega, ?_⟩
            refine CallK.of (doit (.imm (List.take q' (bytesV p.2)) q' cu) (p.2.take q') _ (.inr ⟨cu, ?_⟩) (by simp; omega) (by rw [Heap.set_ne _ _ hgm]; exact hHg)) ?_
            · simp [immB, bytesV_take]; omega
            rintro v H' ⟨es2, w1, w2, w3⟩
            simp [t5]
            refine ⟨hg, es2, w1, ?_, fun x hx => ?_⟩
            · rw [← hW, hdr]; simp only [leftF]; rw [if_neg hw, if_neg (by omega)]; exact w2
            · have hxg : x ≠ g := fun h => hx (by rw [h]; exact hg)
              rw [w3 x hxg (by rw [hxm _ x (by rw [hold x hx]; exact hx) hxg, hold x hx]; exact hx), hxm _ x (by rw [hold x hx]; exact hx) hxg, hold x hx]
    · obtain rfl : q = 0 := by omega
      have hi' : ¬ i < A.length := by omega
      simp [t20, t21, t5, hi']
      rw [List.drop_of_length_le hi] at hW
      refine ⟨hg, _, hHg, ?_, hold⟩
      rw [← hW]; exact hM
theorem diskQ_mono {H H' : Heap} {d f k : Nat} {av : AV} {F K A : FileL} (h : DiskQ H d f k av F K A) (m : ∀ x, H x ≠ none → H' x = H x) : DiskQ H' d f k av F K A := by
  obtain ⟨es, ks, acts, ⟨hd, hf, hk, ha, fk, ad⟩, hF, hK, hAc⟩ := h
  exact ⟨es, ks, acts, ⟨by rw [m d (by rw [hd]; simp)]; exact hd, by rw [m f (by rw [hf]; simp)]; exact hf, by rw [m k (by rw [hk]; simp)]; exact hk,
    ha.keep2 fun b hb => m b (by obtain ⟨cs, q, hq⟩ := ha.blk_live hb; rw [hq]; simp), fk, ad⟩, hF, hK, hAc⟩
def I_crash (H0 : Heap) (d : Nat) (v : AV) (n : Nat) (k : Nat) (T : Nat → AV) (H : Heap) : Prop :=
  ∃ (i : Nat) (b : Int), k + i = n ∧ H = H0 ∧ T 7 = .ptr d 0 ∧ T 22 = v ∧ T 23 = .int .i64 n ∧ T 24 = .int .i64 i ∧ T 2 = .int .i64 b ∧ b < 0 ∧ -2 ^ 62 - i * 2 ^ 40 < b
/-- A crash: what it leaves is another disk. -/
theorem k_diskCrash {H0 : Heap} {d f k : Nat} {av : AV} {F K A : FileL} (hD : DiskQ H0 d f k av F K A) (kept bad : Int) (h1 : -9223372036854775808 ≤ kept) (h2 : kept < 2 ^ 62) (hbad : bad < 0) (hbad2 : -2 ^ 62 < bad) (hA : A.length < 2 ^ 30) (ht : totL K + totL A ≤ 2 ^ 40)
    (hsz : ∀ p ∈ leftF kept.toNat A K, p.1.size ≤ maxLen) (hlen : (leftF kept.toNat A K).length ≤ 2 ^ 20) (htl : totL (leftF kept.toNat A K) ≤ 2 ^ 40) :
    CC PP F_disk_Disk_Crash [.ptr d 0, .int .i64 kept, .int .i64 bad] H0 fun v H' => ∃ d' f' k', v = .ptr d' 0 ∧ H0 d' = none ∧ H0 f' = none ∧ H0 k' = none ∧ DiskQ H' d' f' k' .nils (leftF kept.toNat A K) (leftF kept.toNat A K) [] ∧ ∀ x, H0 x ≠ none → H' x = H0 x := by
  have hd := k_diskNone hD
  refine CC.by_vc ok_disk_Disk_Crash (by simp) ?_
  unfold c_disk_Disk_Crash
  simp
  refine CallK.of k_diskNew ?_
  rintro v H1 ⟨d1, f1, k1, rfl, hD1, n1, n2, n3, o1⟩
  have hd1 : H1 d = some (.cells [.mp f, .mp k, av] 3) := by rw [o1 d (by rw [hd]; simp)]; exact hd
  simp
  have hDH := diskQ_mono hD o1
  refine CallK.of (k_diskLeft hDH kept h1 h2 hA ht) ?_
  rintro v H2 ⟨g, es, rfl, hg1, hg2, hFs, o2⟩
  obtain ⟨es1, ks1, acts1, hDA1, hF1, hK1, hAc1⟩ := hD1
  have hd2 : H2 d1 = some (.cells [.mp f1, .mp k1, .nils] 3) := by rw [o2 d1 (by rw [hDA1.hd]; simp)]; exact hDA1.hd
  have hgd : g ≠ d1 := fun h => by rw [h, hDA1.hd] at hg1; cases hg1
  have hgk : g ≠ k1 := fun h => by rw [h, hDA1.hk] at hg1; cases hg1
  have hkd : k1 ≠ d1 := fun h => by have := hDA1.hk; rw [h, hDA1.hd] at this; cases this
  simp [hd2]
  have hD3 : DiskQ (H2.set d1 (some (.cells [.mp g, .mp k1, .nils] 3))) d1 g k1 .nils (leftF kept.toNat A K) [] [] := by
    refine ⟨es, ks1, [], ⟨Heap.set_self _ _ _, ?_, ?_, ⟨rfl, .inl ⟨rfl, rfl⟩⟩, hgk, by simp [blkOf]⟩, hFs, hK1, rfl⟩
    · rw [Heap.set_ne _ _ hgd]; exact hg2
    · rw [Heap.set_ne _ _ hkd, o2 k1 (by rw [hDA1.hk]; simp)]; exact hDA1.hk
  have o3 : ∀ x, H0 x ≠ none → (H2.set d1 (some (.cells [.mp g, .mp k1, .nils] 3))) x = H0 x := fun x hx => by
    rw [Heap.set_ne _ _ (fun h => hx (by rw [h]; exact n1)), o2 x (by rw [o1 x hx]; exact hx), o1 x hx]
  have g0 : H0 g = none := by
    cases hq : H0 g with
    | none => rfl
    | some z => have := o1 g (by rw [hq]; simp); rw [hg1, hq] at this; cases this
  generalize H2.set d1 (some (.cells [.mp g, .mp k1, .nils] 3)) = H3 at *
  generalize leftF kept.toNat A K = L at *
  refine CallK.of (k_diskList hD3 hsz (by omega)) ?_
  rintro v H4 ⟨rfl, hv⟩
  have hns : (sortS (L.map (·.1))).length = L.length := by unfold sortS; simp
  generalize sortS (L.map (·.1)) = ss at *
  have hd3 := k_diskNone hD3
  obtain ⟨es3, ks3, acts3, hDA3, hF3, _, _⟩ := hD3
  have hf3 := hDA3.hf
  have hD3 : DiskQ H4 d1 g k1 .nils L [] [] := ⟨es3, ks3, acts3, hDA3, hF3, ‹_›, ‹_›⟩
  rcases hv with ⟨rfl, rfl⟩ | ⟨c, rfl⟩
  · simp
    refine LoopV.mk2 (I_crash H4 d1 .nils 0) 0 ⟨0, bad, rfl, rfl, by simp, by simp, by simp, by simp, by simp, hbad, by omega⟩ ?_
    rintro q T H ⟨i, b, hk, rfl, t7, t22, t23, t24, t2, hb1, hb2⟩
    have hi : i = 0 := by omega
    subst hi
    simp [t7, t22, t23, t24]
    refine CallK.of (k_diskSync hD3) ?_
    rintro v H5 ⟨k', hk', hD5, o5⟩
    simp [t7]
    have hk0 : H0 k' = none := by
      cases hq : H0 k' with
      | none => rfl
      | some z => have := o3 k' (by rw [hq]; simp); rw [hk', hq] at this; cases this
    exact ⟨n1, g, g0, k', hk0, hD5, fun x hx => by rw [o5 x (fun h => hx (by rw [h]; exact n1)) (by rw [o3 x hx]; exact hx), o3 x hx]⟩
  · simp
    refine LoopV.mk2 (I_crash H4 d1 (.imm (ss.map .str) ss.length c) ss.length) ss.length ⟨0, bad, by omega, rfl, by simp, by simp, by simp, by simp, by simp, hbad, by omega⟩ ?_
    rintro q T H ⟨i, b, hk, rfl, t7, t22, t23, t24, t2, hb1, hb2⟩
    rcases Nat.lt_or_ge i ss.length with hi | hi
    · obtain ⟨k', rfl⟩ : ∃ k', q = k' + 1 := ⟨q - 1, by omega⟩
      have hsi : (ss.map AV.str)[i]? = some (.str ss[i]) := by simp [hi]
      obtain ⟨n, hn⟩ : ∃ n, ss[i] = n := ⟨_, rfl⟩
      rw [hn] at hsi
      have hfind := hF3.find (n := n)
      have hval := hF3.val n
      have hvv : lkpV false .nils es3 (fidx n L) = valAt es3 (fidx n L) := rfl
      have hfl := fget_le n L
      have hb0 : ¬ (0 ≤ b) := by omega
      rcases hval with ⟨hval, hg⟩ | ⟨cc, hval⟩
      · simp [t7, t22, t23, t24, t2, hi, hn, hd3, hf3, hfind, hvv, hval, hb0, immB]
        refine Again2.mk k' (by omega) ⟨i + 1, b - (fget n L).length, by omega, rfl, by simp [t7], by simp [t22], by simp [t23], ?_, ?_, by omega, by push_cast; omega⟩
        · simp; rw [wrap_i64 (by omega) (by omega)]
        · simp [put, tset]
          rw [wrap_i64 (by omega) (by omega), hg]; simp
      · simp [t7, t22, t23, t24, t2, hi, hn, hd3, hf3, hfind, hvv, hval, hb0, immB]
        refine Again2.mk k' (by omega) ⟨i + 1, b - (fget n L).length, by omega, rfl, by simp [t7], by simp [t22], by simp [t23], ?_, ?_, by omega, by push_cast; omega⟩
        · simp; rw [wrap_i64 (by omega) (by omega)]
        · simp [put, tset]
          rw [wrap_i64 (by omega) (by omega)]
    · obtain rfl : q = 0 := by omega
      simp [t7, t22, t23, t24, show ¬ i < ss.length by omega]
      refine CallK.of (k_diskSync hD3) ?_
      rintro v H5 ⟨k', hk', hD5, o5⟩
      simp [t7]
      have hk0 : H0 k' = none := by
        cases hq : H0 k' with
        | none => rfl
        | some z => have := o3 k' (by rw [hq]; simp); rw [hk', hq] at this; cases this
      exact ⟨n1, g, g0, k', hk0, hD5, fun x hx => by rw [o5 x (fun h => hx (by rw [h]; exact n1)) (by rw [o3 x hx]; exact hx), o3 x hx]⟩
end Go.Proofs.YtdpbbnnlbjgjgaaGreat
set_option linter.unusedVariables false
set_option linter.unusedSimpArgs false
set_option maxRecDepth 100000
namespace Go.Sf
/-- A slice's cells stand for objects. -/
def ObjRel (r : List AV) : FileL → Prop
  | [] => r = []
  | p :: A => ∃ b r', r = .str p.1 :: b :: r' ∧ IsB b p.2 ∧ ObjRel r' A
theorem ObjRel.snoc {n : ByteArray} {b : AV} {l : List UInt8} (k : IsB b l) : ∀ {A : FileL} {r : List AV}, ObjRel r A → ObjRel (r ++ [.str n, b]) (A ++ [(n, l)])
  | [], r, h => by simp only [ObjRel] at h; subst h; exact ⟨b, [], rfl, k, rfl⟩
  | p :: A, r, h => by
    simp only [ObjRel] at h
    obtain ⟨b', r', rfl, h1, h2⟩ := h
    exact ⟨b', _, rfl, h1, ObjRel.snoc k h2⟩
theorem ObjRel.at : ∀ {A : FileL} {r : List AV}, ObjRel r A → ∀ {i : Nat} {p : ByteArray × List UInt8}, A[i]? = some p → ∃ b, (r.drop (i * 2)).take 2 = [.str p.1, b] ∧ IsB b p.2 ∧ i * 2 + 2 ≤ r.length
  | [], r, h, i, p, hi => by simp at hi
  | q :: A, r, h, i, p, hi => by
    simp only [ObjRel] at h
    obtain ⟨b, r', rfl, h1, h2⟩ := h
    cases i with
    | zero => simp at hi; subst hi; exact ⟨b, by simp, h1, by simp⟩
    | succ i =>
      obtain ⟨b', e1, e2, e3⟩ := ObjRel.at h2 (i := i) (by simpa using hi)
      refine ⟨b', ?_, e2, by simp; omega⟩
      rw [show (i + 1) * 2 = 2 + i * 2 by omega, ← List.drop_drop]
      exact e1
theorem ObjRel.length : ∀ {A : FileL} {r : List AV}, ObjRel r A → r.length = A.length * 2
  | [], r, h => by simp only [ObjRel] at h; subst h; rfl
  | p :: A, r, h => by
    simp only [ObjRel] at h
    obtain ⟨b, r', rfl, h1, h2⟩ := h
    have := ObjRel.length h2
    simp only [List.length_cons]; omega
def lessS (n m : ByteArray) : Bool := decide (cmpS n m < 0)
/-- Where an object is, or would be; whether it is there. -/
def findO (name : ByteArray) (A : FileL) : Nat × Bool :=
  ((A.takeWhile fun p => lessS p.1 name).length, match A[(A.takeWhile fun p => lessS p.1 name).length]? with
    | some p => decide (cmpS p.1 name = 0)
    | none => false)
/-- Names that rise. -/
def MonoO (name : ByteArray) (A : FileL) : Prop := ∀ (i j : Nat) (p q : ByteArray × List UInt8), i ≤ j → A[i]? = some p → A[j]? = some q → lessS q.1 name = true → lessS p.1 name = true
theorem takeWhile_len {α : Type} (f : α → Bool) : ∀ (l : List α) (i : Nat), i ≤ l.length → (∀ k x, k < i → l[k]? = some x → f x = true) → (∀ x, l[i]? = some x → f x = false) → (l.takeWhile f).length = i
  | [], i, h, _, _ => by simp at h; simp [h]
  | a :: l, 0, h, _, h2 => by
    have := h2 a rfl
    simp [List.takeWhile_cons, this]
  | a :: l, i + 1, h, h1, h2 => by
    have h0 := h1 0 a (by omega) rfl
    simp only [List.takeWhile_cons, h0, if_true, List.length_cons]
    rw [takeWhile_len f l i (by simpa using h) (fun k x hk hx => h1 (k + 1) x (by omega) (by simpa using hx)) (fun x hx => h2 x (by simpa using hx))]
/-- A store's blocks hold these objects. -/
structure StoreQ (H : Heap) (s : Nat) (v : AV) (A : FileL) (room : Int) : Prop where
  hs : H s = some (.cells [v, .int .i64 room] 2)
  cs : ∃ cs, OwnR H 2 A.length v cs ∧ ObjRel cs A
  ne : blkOf v ≠ some s
end Go.Sf
namespace Go.Proofs.YtdpbbnnlbjgjgaaGreat
open Go.Sf
theorem k_storeNew {H : Heap} (room : Int) (h : 0 ≤ room) : CC PP F_store_New [.int .i64 room] H fun v H' => ∃ s, v = .ptr s 0 ∧ H s = none ∧ StoreQ H' s .nils [] room ∧ ∀ x, H x ≠ none → H' x = H x := by
  refine CC.by_vc ok_store_New (by simp) ?_
  unfold c_store_New
  have h' : ¬ room < 0 := by omega
  simp [h']
  intro s hs
  simp
  exact ⟨hs, ⟨Heap.set_self _ _ _, ⟨[], ⟨rfl, .inl ⟨rfl, rfl⟩⟩, rfl⟩, by simp [blkOf]⟩, fun x hx => Heap.set_ne _ _ (fun h => hx (by rw [h]; exact hs))⟩
theorem p_find1 (a name : ByteArray) {b : AV} {l : List UInt8} (hb : IsB b l) : CP PP F_store_Store_find_1 [.agg [.str a, b], .str name] (fun v => v = .int .i64 (cmpS a name)) := by
  refine CP.by_vc ok_store_Store_find_1 (by simp) ?_
  unfold c_store_Store_find_1
  simp
  intro bx hbx
  simp [Heap.set_self]
  refine CallK.pure (p_strCompare _ _) ?_
  rintro v rfl
  simp
def I_bs (v : AV) (name : ByteArray) (A : FileL) (H0 : Heap) (k : Nat) (T : Nat → AV) (H : Heap) : Prop :=
  ∃ (i j : Nat), j = i + k ∧ j ≤ A.length ∧ H = H0 ∧ T 0 = v ∧ T 1 = .str name ∧ T 2 = .fn (.func F_store_Store_find_1) [] [] ∧ T 8 = .int .i64 A.length ∧ T 9 = .int .i64 i ∧ T 10 = .int .i64 j ∧
    (∀ (q : Nat) p, q < i → A[q]? = some p → lessS p.1 name = true) ∧ (∀ (q : Nat) p, j ≤ q → A[q]? = some p → lessS p.1 name = false)
theorem k_bs {H0 : Heap} {v : AV} {A : FileL} {cs : List AV} (ho : OwnR H0 2 A.length v cs) (hO : ObjRel cs A) (name : ByteArray) (hm : MonoO name A) (hl : A.length < 2 ^ 30) :
    CC PP F_slices_BinarySearchFunc_store_object_store_object_string [v, .str name, .fn (.func F_store_Store_find_1) [] []] H0 fun u H' => H' = H0 ∧ u = .tup [.int .i64 (findO name A).1, .bool (findO name A).2] := by
  refine CC.by_vc ok_slices_BinarySearchFunc_store_object_store_object_string (by simp) ?_
  unfold c_slices_BinarySearchFunc_store_object_store_object_string
  obtain ⟨hcl, ⟨rfl, hA0⟩ | ⟨b, c, rfl, hb, hc⟩⟩ := ho
  · have hAn : A = [] := List.length_eq_zero_iff.1 hA0
    subst hAn
    simp
    refine LoopV.mk2 (I_bs .nils name [] H0) 0 ⟨0, 0, rfl, by simp, rfl, by simp, by simp, by simp, by simp, by simp, by simp, fun q p h => by omega, fun q p h hq => by simp at hq⟩ ?_
    rintro q T H ⟨i, j, hj, hjl, rfl, t0, t1, t2, t8, t9, t10, hlo, hhi⟩
    have hi : i = 0 := by simp at hjl; omega
    have hj0 : j = 0 := by simp at hjl; omega
    subst hi
    subst hj0
    simp [t0, t1, t2, t8, t9, t10]
    simp [findO]
  · simp
    have hcall : callB PP F_store_Store_find_1 = true := by kernel_rfl
    refine LoopV.mk2 (I_bs (.sl b 0 A.length c) name A H0) A.length ⟨0, A.length, by omega, by omega, rfl, by simp, by simp, by simp, by simp, by simp, by simp, fun q p h => by omega, fun q p h hq => by have := (List.getElem?_eq_some_iff.1 hq).1; omega⟩ ?_
    rintro q T H ⟨i, j, hj, hjl, rfl, t0, t1, t2, t8, t9, t10, hlo, hhi⟩
    rcases Nat.eq_zero_or_pos q with rfl | hq
    · have hji : j = i := by omega
      subst hji
      have hlen : (A.takeWhile fun p => lessS p.1 name).length = j := takeWhile_len _ A j hjl (fun k x hk hx => hlo k x hk hx) (fun x hx => hhi j x (by omega) hx)
      rcases Nat.lt_or_ge j A.length with hjA | hjA
      · have hAj : A[j]? = some A[j] := by simp [hjA]
        obtain ⟨p, hp⟩ : ∃ p, A[j] = p := ⟨_, rfl⟩
        rw [hp] at hAj
        obtain ⟨ub, hcell, hub, hle⟩ := hO.at hAj
        have hfo : findO name A = (j, decide (cmpS p.1 name = 0)) := by unfold findO; rw [hlen, hAj]
        simp [t0, t1, t2, t8, t9, t10, hjA, hb, hcell, hle, hcall]
        refine CallK.pure (p_find1 _ _ hub) ?_
        rintro _ rfl
        simp [hfo]
      · have hfo : findO name A = (j, false) := by unfold findO; rw [hlen, List.getElem?_eq_none hjA]
        have hjA' : ¬ j < A.length := by omega
        simp [t0, t1, t2, t8, t9, t10, hjA', hfo, hb]
    · have hij : i < j := by omega
      have hw1 : IntKind.u64.wrap (IntKind.i64.wrap ((i : Int) + (j : Int))) = ((i + j : Nat) : Int) := by rw [wrap_i64 (by omega) (by omega), wrap_u64 (by omega) (by omega)]; omega
      have hw2 : IntKind.i64.wrap (((i : Int) + (j : Int)).fdiv (2 ^ Nat.min 1 IntKind.u64.bits)) = (((i + j) / 2 : Nat) : Int) := by
        rw [show (2 : Int) ^ Nat.min 1 IntKind.u64.bits = 2 from rfl, Int.fdiv_eq_ediv_of_nonneg _ (by omega), wrap_i64 (by omega) (by omega)]; omega
      have hh1 : i ≤ (i + j) / 2 ∧ (i + j) / 2 < j := by omega
      generalize hhe : (i + j) / 2 = h at hw2 hh1
      have hhA : h < A.length := by omega
      have hAh : A[h]? = some A[h] := by simp [hhA]
      obtain ⟨p, hp⟩ : ∃ p, A[h] = p := ⟨_, rfl⟩
      rw [hp] at hAh
      obtain ⟨ub, hcell, hub, hle⟩ := hO.at hAh
      simp [t0, t1, t2, t8, t9, t10, hij, hw1, hw2, hhA, hb, hcell, hle, hcall]
      refine CallK.pure (p_find1 _ _ hub) ?_
      rintro _ rfl
      by_cases hless : cmpS p.1 name < 0
      · have hlp : lessS p.1 name = true := by simp [lessS, hless]
        simp [hless]
        refine Again2.mk (j - (h + 1)) (by omega) ⟨h + 1, j, by omega, hjl, rfl, by simp [t0], by simp [t1], by simp [t2], by simp [t8], ?_, by simp [t10], fun k x hk hx => ?_, hhi⟩
        · simp; rw [wrap_i64 (by omega) (by omega)]
        · exact hm k h x p (by omega) hx hAh hlp
      · have hlp : lessS p.1 name = false := by simp [lessS, hless]
        simp [hless]
        refine Again2.mk (h - i) (by omega) ⟨i, h, by omega, by omega, rfl, by simp [t0], by simp [t1], by simp [t2], by simp [t8], by simp [t9], by simp, hlo, fun k x hk hx => ?_⟩
        cases hx' : lessS x.1 name with
        | false => rfl
        | true => rw [hm h k p x hk hAh hx hx'] at hlp; cases hlp
end Go.Proofs.YtdpbbnnlbjgjgaaGreat
set_option linter.unusedVariables false
set_option linter.unusedSimpArgs false
set_option maxRecDepth 100000
namespace Go.Proofs.YtdpbbnnlbjgjgaaGreat
open Go.Sf
theorem k_find {H : Heap} {s : Nat} {v : AV} {A : FileL} {room : Int} (hS : StoreQ H s v A room) (name : ByteArray) (hm : MonoO name A) (hl : A.length < 2 ^ 30) :
    CC PP F_store_Store_find [.ptr s 0, .str name] H fun u H' => H' = H ∧ u = .tup [.int .i64 (findO name A).1, .bool (findO name A).2] := by
  obtain ⟨hs, ⟨cs, ho, hO⟩, ne⟩ := hS
  refine CC.by_vc ok_store_Store_find (by simp) ?_
  unfold c_store_Store_find
  simp [hs, ho.un]
  refine CallK.of (k_bs ho hO name hm hl) ?_
  rintro _ H' ⟨rfl, rfl⟩
  simp
theorem storeQ_mono {H H' : Heap} {s : Nat} {v : AV} {A : FileL} {room : Int} (h : StoreQ H s v A room) (m : ∀ x, H x ≠ none → H' x = H x) : StoreQ H' s v A room := by
  obtain ⟨hs, ⟨cs, ho, hO⟩, ne⟩ := h
  exact ⟨by rw [m s (by rw [hs]; simp)]; exact hs, ⟨cs, ho.keep2 fun b hb => m b (by obtain ⟨cs, q, hq⟩ := ho.blk_live hb; rw [hq]; simp), hO⟩, ne⟩
theorem k_has1 {H : Heap} {s b : Nat} {v : AV} {A : FileL} {room : Int} (hS : StoreQ H s v A room) (hb : H b = some (.cells [.ptr s 0] 1)) (name : ByteArray) (hm : MonoO name A) (hl : A.length < 2 ^ 30) :
    CC PP F_store_Store_Has_1 [.str name, .ptr b 0] H fun u H' => H' = H ∧ u = .bool (!(findO name A).2) := by
  refine CC.by_vc ok_store_Store_Has_1 (by simp) ?_
  unfold c_store_Store_Has_1
  simp [hb]
  refine CallK.of (k_find hS name hm hl) ?_
  rintro _ H' ⟨rfl, rfl⟩
  simp
def missO (A : FileL) : List ByteArray → Nat → Int
  | [], _ => -1
  | n :: ns, i => if (findO n A).2 then missO A ns (i + 1) else i
theorem missO_lt (A : FileL) : ∀ (ns : List ByteArray) (i : Nat), (0 ≤ missO A ns i ↔ ¬ ∀ n ∈ ns, (findO n A).2 = true)
  | [], i => by simp [missO]
  | n :: ns, i => by
    unfold missO
    cases h : (findO n A).2 with
    | true => simp [h, missO_lt A ns (i + 1)]
    | false => simp [h]
def I_idxS (H0 : Heap) (v : AV) (b : Nat) (A : FileL) (ns : List ByteArray) (k : Nat) (T : Nat → AV) (H : Heap) : Prop :=
  ∃ i : Nat, k + i = ns.length ∧ H = H0 ∧ T 0 = v ∧ T 1 = .fn (.func F_store_Store_Has_1) [] [.ptr b 0] ∧ T 7 = .int .i64 ns.length ∧ T 8 = .int .i64 i ∧ missO A (ns.drop i) i = missO A ns 0
theorem k_idxS {H0 : Heap} {s b : Nat} {v u : AV} {A : FileL} {room : Int} {ns : List ByteArray} (hS : StoreQ H0 s v A room) (hb : H0 b = some (.cells [.ptr s 0] 1)) (hu : IsS u ns) (hm : ∀ n ∈ ns, MonoO n A) (hl : A.length < 2 ^ 30) (hns : ns.length < 2 ^ 40) :
    CC PP F_slices_IndexFunc_string_string [u, .fn (.func F_store_Store_Has_1) [] [.ptr b 0]] H0 fun r H' => H' = H0 ∧ r = .int .i64 (missO A ns 0) := by
  refine CC.by_vc ok_slices_IndexFunc_string_string (by simp) ?_
  unfold c_slices_IndexFunc_string_string
  have hcall : callB PP F_store_Store_Has_1 = true := by kernel_rfl
  rcases hu with ⟨rfl, rfl⟩ | ⟨c, rfl⟩
  · simp
    refine LoopV.mk2 (I_idxS H0 .nils b A []) 0 ⟨0, rfl, rfl, by simp, by simp, by simp, by simp, rfl⟩ ?_
    rintro k T H ⟨i, hk, rfl, h0, h1, h7, h8, hq⟩
    have hi : i = 0 := by simp at hk; omega
    subst hi
    simp [h0, h1, h7, h8, missO]
  · simp
    refine LoopV.mk2 (I_idxS H0 (.imm (ns.map .str) ns.length c) b A ns) ns.length ⟨0, by omega, rfl, by simp, by simp, by simp, by simp, rfl⟩ ?_
    rintro k T H ⟨i, hk, rfl, h0, h1, h7, h8, hq⟩
    rcases Nat.lt_or_ge i ns.length with hi | hi
    · obtain ⟨k', rfl⟩ : ∃ k', k = k' + 1 := ⟨k - 1, by omega⟩
      have hdr : ns.drop i = ns[i] :: ns.drop (i + 1) := List.drop_eq_getElem_cons hi
      have hmem : ns[i] ∈ ns := List.getElem_mem hi
      obtain ⟨n, hn⟩ : ∃ n, ns[i] = n := ⟨_, rfl⟩
      rw [hn] at hdr hmem
      simp [h0, h1, h7, h8, hi, hn, hcall]
      refine CallK.of (k_has1 hS hb n (hm n hmem) hl) ?_
      rintro _ H' ⟨rfl, rfl⟩
      rw [hdr] at hq
      rw [show missO A (n :: ns.drop (i + 1)) i = if (findO n A).2 then missO A (ns.drop (i + 1)) (i + 1) else i from rfl] at hq
      cases hf : (findO n A).2 with
      | true =>
        rw [hf] at hq
        simp [hf, h8]
        refine Again2.mk k' (by omega) ⟨i + 1, by omega, rfl, by simp [h0], by simp [h1], by simp [h7], ?_, by simpa using hq⟩
        simp; rw [wrap_i64 (by omega) (by omega)]
      | false =>
        rw [hf] at hq
        simp [hf]
        simpa using hq
    · obtain rfl : k = 0 := by omega
      rw [List.drop_of_length_le hi] at hq
      simp [h0, h1, h7, h8, show ¬ i < ns.length by omega]
      rw [← hq]; rfl
theorem k_has {H0 : Heap} {s : Nat} {v u : AV} {A : FileL} {room : Int} {ns : List ByteArray} (hS : StoreQ H0 s v A room) (hu : IsS u ns) (hm : ∀ n ∈ ns, MonoO n A) (hl : A.length < 2 ^ 30) (hns : ns.length < 2 ^ 40) :
    CC PP F_store_Store_Has [.ptr s 0, u] H0 fun r H' => H' = H0 ∧ r = .bool (ns.all fun n => (findO n A).2) := by
  have main : CC PP F_store_Store_Has [.ptr s 0, u] H0 fun r H' => (∀ x, H0 x ≠ none → H' x = H0 x) ∧ r = .bool (ns.all fun n => (findO n A).2) := by
    refine CC.by_vc ok_store_Store_Has (by simp) ?_
    unfold c_store_Store_Has
    simp
    intro bx hbx
    have old : ∀ x, H0 x ≠ none → (H0.set bx (some (.cells [.ptr s 0] 1))) x = H0 x := fun x hx => Heap.set_ne _ _ (fun h => hx (by rw [h]; exact hbx))
    simp [Heap.set_self, hu.un]
    have hcont : CC PP F_slices_ContainsFunc_string_string [u, .fn (.func F_store_Store_Has_1) [] [.ptr bx 0]] (H0.set bx (some (.cells [.ptr s 0] 1))) fun r H' => H' = H0.set bx (some (.cells [.ptr s 0] 1)) ∧ r = .bool (decide (0 ≤ missO A ns 0)) := by
      refine CC.by_vc ok_slices_ContainsFunc_string_string (by simp) ?_
      unfold c_slices_ContainsFunc_string_string
      simp [hu.un]
      refine CallK.of (k_idxS (storeQ_mono hS old) (Heap.set_self _ _ _) hu hm hl hns) ?_
      rintro _ H' ⟨rfl, rfl⟩
      simp
    refine CallK.of hcont ?_
    rintro _ H' ⟨rfl, rfl⟩
    simp
    refine ⟨fun x hx => old x hx, ?_⟩
    have := missO_lt A ns 0
    rw [Bool.eq_iff_iff, decide_eq_true_iff, this]
    simp
  exact main.forget fun v H' ⟨h1, h2⟩ => ⟨H0, fun b => by
    cases hb : H0 b with
    | none => exact .inr rfl
    | some x => exact .inl (by rw [← hb, h1 b (by rw [hb]; simp)]), rfl, h2⟩
theorem k_insertEnd {H : Heap} {v : AV} {n : Nat} {cs : List AV} (ho : OwnR H 2 n v cs) (name : ByteArray) {b : AV} {l : List UInt8} (hb : IsB b l) (hn : n < 2 ^ 30) :
    CC PP F_slices_Insert_store_object_store_object [v, .int .i64 n, .imm [.str name, b] 1 (some 1)] H fun v' H' => OwnR H' 2 (n + 1) v' (cs ++ [.str name, b]) ∧ KeepB H H' (blkOf v) ∧ (∀ x, blkOf v' = some x → H x = none ∨ blkOf v = some x) := by
  refine CC.by_vc ok_slices_Insert_store_object_store_object (by simp) ?_
  unfold c_slices_Insert_store_object_store_object
  have ho' := ho
  obtain ⟨hcl, ⟨rfl, rfl⟩ | ⟨b', c, rfl, hb', hc⟩⟩ := ho
  · simp
    refine vcAp_row (.inl ho') (x := .imm [.str name, b] 1 (some 1)) (new := [.str name, b]) (m := 1) rfl rfl rfl (by omega) (by simp [hb.one]) (by omega) (.inl (by simp)) ?_
    intro v' H' h1 h2 h3
    simp [h1.un]
    exact ⟨h1, h2, h3⟩
  · simp
    refine ⟨hc, ?_⟩
    refine vcAp_row (.inl ho') (x := .imm [.str name, b] 1 (some 1)) (new := [.str name, b]) (m := 1) rfl rfl rfl (by omega) (by simp [hb.one]) (by omega) (.inl (by simp)) ?_
    intro v' H' h1 h2 h3
    simp [h1.un]
    exact ⟨h1, h2, h3⟩
theorem k_putNew {H : Heap} {s : Nat} {v : AV} {A : FileL} (hS : StoreQ H s v A 0) {name : ByteArray} (hn0 : name ≠ ⟨#[]⟩) (hn : name.size ≤ 40) {b : AV} {l : List UInt8} (hb : IsB b l) (hl : l.length ≤ 65536) (hm : MonoO name A) (hA : A.length < 2 ^ 20)
    (hf : findO name A = (A.length, false)) :
    CC PP F_store_Store_Put [.ptr s 0, .str name, b, .bool false] H fun r H' => r = .int .i64 0 ∧ ∃ v', StoreQ H' s v' (A ++ [(name, l)]) 0 ∧ (∀ x, blkOf v' = some x → H x = none ∨ blkOf v = some x) ∧ ∀ x, x ≠ s → blkOf v ≠ some x → H x ≠ none → H' x = H x := by
  have hS' := hS
  obtain ⟨hs, ⟨cs, ho, hO⟩, ne⟩ := hS
  refine CC.by_vc ok_store_Store_Put (by simp) ?_
  unfold c_store_Store_Put
  have h40 : ¬ (40 : Int) < name.size := by omega
  have hcl := p_clone hb (by omega)
  have ins : ∀ u, IsB u l → CC PP F_slices_Insert_store_object_store_object [v, .int .i64 A.length, .imm [.str name, u] 1 (some 1)] H fun v' H' => H' s = some (.cells [v, .int .i64 0] 2) ∧ AV.one v' = true ∧ un v' = (True, v') ∧
      ∃ v'', StoreQ (H'.set s (some (.cells [v', .int .i64 0] 2))) s v'' (A ++ [(name, l)]) 0 ∧ (∀ x, blkOf v'' = some x → H x = none ∨ blkOf v = some x) ∧ ∀ x, x ≠ s → blkOf v ≠ some x → H x ≠ none → (H'.set s (some (.cells [v', .int .i64 0] 2))) x = H x := fun u hu =>
    (k_insertEnd ho name hu (by omega)).mono fun v' H' ⟨h1, h2, h3⟩ => by
      have hvs : blkOf v' ≠ some s := fun h => by
        rcases h3 s h with h | h
        · rw [hs] at h; cases h
        · exact ne h
      refine ⟨by rw [h2 s ne (by rw [hs]; simp)]; exact hs, h1.one, h1.un, v', ⟨Heap.set_self _ _ _, ⟨_, ?_, hO.snoc hu⟩, hvs⟩, h3, fun x x1 x2 x3 => ?_⟩
      · rw [List.length_append]
        exact h1.keep2 fun x hx => Heap.set_ne _ _ (fun h => hvs (by rw [← h]; exact hx))
      · rw [Heap.set_ne _ _ x1, h2 x x2 x3]
  have hun := ho.un
  obtain ⟨hcl2, ⟨rfl, hA0⟩ | ⟨b', c', rfl, hb', hc'⟩⟩ := ho
  · have hA1 : A = [] := List.length_eq_zero_iff.1 hA0
    subst hA1
    rcases hb with ⟨rfl, rfl⟩ | ⟨c, rfl⟩
    · simp [hn0, h40]
      refine CallK.of (k_find hS' name hm (by omega)) ?_
      rintro _ H' ⟨rfl, rfl⟩
      rw [hf]
      simp [hs]
      refine ⟨.int .i64 0, ?_⟩
      simp [hs]
      refine ⟨?_, ?_⟩
      · refine CallK.pure hcl ?_
        intro u hu
        simp [hu.un, hu.known, hu.cellsL, hs]
        refine CallK.of (ins u hu) ?_
        rintro v' H2 ⟨q1, q2, q3, q4⟩
        simp [q1, q2, q3]
        simpa using q4
      · refine CallK.pure hcl ?_
        intro u hu
        simp [hu.un, hu.known, hu.cellsL, hs]
        refine ⟨?_, ?_, ?_⟩
        all_goals
          refine CallK.of (ins u hu) ?_
          rintro v' H2 ⟨q1, q2, q3, q4⟩
          simp [q1, q2, q3]
          simpa using q4
    · simp [hn0, h40, immB]
      refine ⟨by omega, fun _ => ?_⟩
      refine CallK.of (k_find hS' name hm (by omega)) ?_
      rintro _ H' ⟨rfl, rfl⟩
      rw [hf]
      simp [hs]
      refine ⟨.int .i64 0, ?_⟩
      simp [hs]
      refine ⟨?_, ?_⟩
      · refine CallK.pure hcl ?_
        intro u hu
        simp [hu.un, hu.known, hu.cellsL, hs]
        refine CallK.of (ins u hu) ?_
        rintro v' H2 ⟨q1, q2, q3, q4⟩
        simp [q1, q2, q3]
        simpa using q4
      · refine CallK.pure hcl ?_
        intro u hu
        simp [hu.un, hu.known, hu.cellsL, hs]
        refine ⟨?_, ?_, ?_⟩
        all_goals
          refine CallK.of (ins u hu) ?_
          rintro v' H2 ⟨q1, q2, q3, q4⟩
          simp [q1, q2, q3]
          simpa using q4
  · rcases hb with ⟨rfl, rfl⟩ | ⟨c, rfl⟩
    · simp [hn0, h40]
      refine CallK.of (k_find hS' name hm (by omega)) ?_
      rintro _ H' ⟨rfl, rfl⟩
      rw [hf]
      have hnone : cs[A.length * 2 + 1]? = none := List.getElem?_eq_none (by omega)
      simp [hs, hb', hnone]
      refine ⟨.int .i64 0, ?_⟩
      simp [hs]
      refine ⟨?_, ?_⟩
      · refine CallK.pure hcl ?_
        intro u hu
        simp [hu.un, hu.known, hu.cellsL, hs]
        refine CallK.of (ins u hu) ?_
        rintro v' H2 ⟨q1, q2, q3, q4⟩
        simp [q1, q2, q3]
        simpa using q4
      · refine CallK.pure hcl ?_
        intro u hu
        simp [hu.un, hu.known, hu.cellsL, hs]
        refine ⟨?_, ?_, ?_⟩
        all_goals
          refine CallK.of (ins u hu) ?_
          rintro v' H2 ⟨q1, q2, q3, q4⟩
          simp [q1, q2, q3]
          simpa using q4
    · simp [hn0, h40, immB]
      refine ⟨by omega, fun _ => ?_⟩
      refine CallK.of (k_find hS' name hm (by omega)) ?_
      rintro _ H' ⟨rfl, rfl⟩
      rw [hf]
      have hnone : cs[A.length * 2 + 1]? = none := List.getElem?_eq_none (by omega)
      simp [hs, hb', hnone]
      refine ⟨.int .i64 0, ?_⟩
      simp [hs]
      refine ⟨?_, ?_⟩
      · refine CallK.pure hcl ?_
        intro u hu
        simp [hu.un, hu.known, hu.cellsL, hs]
        refine CallK.of (ins u hu) ?_
        rintro v' H2 ⟨q1, q2, q3, q4⟩
        simp [q1, q2, q3]
        simpa using q4
      · refine CallK.pure hcl ?_
        intro u hu
        simp [hu.un, hu.known, hu.cellsL, hs]
        refine ⟨?_, ?_, ?_⟩
        all_goals
          refine CallK.of (ins u hu) ?_
          rintro v' H2 ⟨q1, q2, q3, q4⟩
          simp [q1, q2, q3]
          simpa using q4
end Go.Proofs.YtdpbbnnlbjgjgaaGreat
set_option linter.unusedVariables false
set_option linter.unusedSimpArgs false
set_option maxRecDepth 100000
namespace Go.Proofs.YtdpbbnnlbjgjgaaGreat
open Go.Sf
theorem diskQ_keep {H H' : Heap} {d f k : Nat} {av : AV} {F K A : FileL} (h : DiskQ H d f k av F K A) (m : ∀ x, x = d ∨ x = f ∨ x = k ∨ blkOf av = some x → H x ≠ none → H' x = H x) : DiskQ H' d f k av F K A := by
  obtain ⟨es, ks, acts, ⟨hd, hf, hk, ha, fk, ad⟩, hF, hK, hAc⟩ := h
  exact ⟨es, ks, acts, ⟨by rw [m d (.inl rfl) (by rw [hd]; simp)]; exact hd, by rw [m f (.inr (.inl rfl)) (by rw [hf]; simp)]; exact hf, by rw [m k (.inr (.inr (.inl rfl))) (by rw [hk]; simp)]; exact hk,
    ha.keep2 fun b hb => m b (.inr (.inr (.inr hb))) (by obtain ⟨cs, q, hq⟩ := ha.blk_live hb; rw [hq]; simp), fk, ad⟩, hF, hK, hAc⟩
theorem storeQ_keep {H H' : Heap} {s : Nat} {v : AV} {A : FileL} {room : Int} (h : StoreQ H s v A room) (m : ∀ x, x = s ∨ blkOf v = some x → H x ≠ none → H' x = H x) : StoreQ H' s v A room := by
  obtain ⟨hs, ⟨cs, ho, hO⟩, ne⟩ := h
  exact ⟨by rw [m s (.inl rfl) (by rw [hs]; simp)]; exact hs, ⟨cs, ho.keep2 fun b hb => m b (.inr hb) (by obtain ⟨cs, q, hq⟩ := ho.blk_live hb; rw [hq]; simp), hO⟩, ne⟩
theorem diskQ_live {H : Heap} {d f k : Nat} {av : AV} {F K A : FileL} (h : DiskQ H d f k av F K A) {x : Nat} (hx : x = d ∨ x = f ∨ x = k ∨ blkOf av = some x) : H x ≠ none := by
  obtain ⟨es, ks, acts, ⟨hd, hf, hk, ha, fk, ad⟩, hF, hK, hAc⟩ := h
  rcases hx with rfl | rfl | rfl | hx
  · rw [hd]; simp
  · rw [hf]; simp
  · rw [hk]; simp
  · obtain ⟨cs, q, hq⟩ := ha.blk_live hx
    rw [hq]; simp
theorem storeQ_live {H : Heap} {s : Nat} {v : AV} {A : FileL} {room : Int} (h : StoreQ H s v A room) {x : Nat} (hx : x = s ∨ blkOf v = some x) : H x ≠ none := by
  obtain ⟨hs, ⟨cs, ho, hO⟩, ne⟩ := h
  rcases hx with rfl | hx
  · rw [hs]; simp
  · obtain ⟨cs, q, hq⟩ := ho.blk_live hx
    rw [hq]; simp
/-- The blocks of a store and those of a disk are others. -/
def Apart (s : Nat) (v : AV) (d f k : Nat) (av : AV) : Prop := ∀ x, (x = s ∨ blkOf v = some x) → ¬ (x = d ∨ x = f ∨ x = k ∨ blkOf av = some x)
theorem p_begun : CP PP F_Rlaw1_begun [] (fun v => v = .bool true) := by
  refine CP.by_vc ok_Rlaw1_begun (by simp) ?_
  unfold c_Rlaw1_begun
  simp
  refine CallK.pure (p_put .nil 300 (by omega) (by simp)) ?_
  rintro _ rfl
  simp [immB]
  refine CallK.pure (p_get (l := enc 300) (.inr ⟨none, rfl⟩)) ?_
  rintro _ rfl
  have h300 : num (enc 300) = (300, 2, 0) := by
    have := num_enc (n := 300) (by omega) []
    rw [List.append_nil] at this
    rw [this, enc_ge (by omega), enc_lt (by omega)]; rfl
  rw [h300]
  simp [resN]
  intro b1 hb1
  simp [Heap.set_self, Heap.set_set, Heap.set_same (H := Heap.nil) (b := b1) (x := none) rfl]
  have hBB : IsBB (.imm [.imm [.int .u8 97, .int .u8 98] 2 (some 2)] 1 (some 1)) [[97, 98]] := .inr ⟨_, some 1, rfl, rfl, fun i w l h1 h2 => by
    cases i with
    | zero => simp at h1 h2; subst h1; subst h2; exact .inr ⟨some 2, rfl⟩
    | succ i => simp at h1⟩
  have hfl : (frameL [97, 98]).length = 7 := by unfold frameL; rw [enc_lt (by decide)]; rfl
  have hput : putL [] [[97, 98]] = frameL [97, 98] := by unfold putL; rw [if_pos (by simp)]; simp
  have hgf : getFrame (frameL [97, 98]) = ([97, 98], 7, 0) := by
    have := getFrame_frameL (t := [97, 98]) (by simp) []
    rw [List.append_nil, hfl] at this; exact this
  refine CallK.pure (p_framePut .nil hBB (by rw [hput, hfl]; omega) (by simp)) ?_
  intro u1 hu1
  rw [hput] at hu1
  simp [hu1.un]
  refine CallK.pure (p_frameGet hu1 (by rw [hfl]; omega)) ?_
  rintro _ ⟨u2, rfl, hu2⟩
  rw [hgf] at hu2 ⊢
  obtain ⟨c2, rfl⟩ : ∃ c, u2 = immB [97, 98] c := hu2.resolve_left (by simp)
  simp [hu2.un, immB]
  refine CallK.of (k_storeNew 0 (by omega)) ?_
  rintro _ H1 ⟨s, rfl, hs0, hS1, o1⟩
  simp
  refine CallK.of k_diskNew ?_
  rintro _ H2 ⟨d, f, k, rfl, hD2, nd, nf, nk, o2⟩
  have hS2 := storeQ_mono hS1 o2
  have ap2 : Apart s .nils d f k .nils := fun x hx hy => by
    have h1 := storeQ_live hS1 hx
    rcases hy with rfl | rfl | rfl | hy
    · exact h1 nd
    · exact h1 nf
    · exact h1 nk
    · cases hy
  clear o1 o2 hS1 hs0 nd nf nk
  simp
  refine CallK.of (k_putNew hS2 (name := ⟨#[120]⟩) (by decide) (by decide) (b := .imm [.int .u8 1, .int .u8 2] 2 (some 2)) (l := [1, 2]) (.inr ⟨some 2, rfl⟩) (by simp) (fun i j p q _ h => by simp at h) (by simp) rfl) ?_
  rintro _ H3 ⟨rfl, sv, hS3, n3, o3⟩
  have hD3 : DiskQ H3 d f k .nils [] [] [] := diskQ_keep hD2 fun x hx hn => o3 x (fun h => ap2 s (.inl rfl) (by rw [← h]; exact hx)) (by simp [blkOf]) hn
  have ap3 : Apart s sv d f k .nils := fun x hx hy => by
    rcases hx with rfl | hx
    · exact ap2 _ (.inl rfl) hy
    · rcases n3 x hx with h | h
      · exact diskQ_live hD2 hy h
      · cases h
  clear ap2 o3 n3 hD2 hS2
  simp
  intro b2 hb2
  simp [Heap.set_self, Heap.set_set, Heap.set_same hb2]
  refine CallK.of (k_diskAppend hD3 (name := ⟨#[102]⟩) (b := .imm [.int .u8 104, .int .u8 101, .int .u8 108, .int .u8 108, .int .u8 111] 5 (some 5)) (l := [104, 101, 108, 108, 111]) (.inr ⟨some 5, rfl⟩) (by decide) (by decide) (by simp [fget, fidx]) (by simp)) ?_
  rintro _ H4 ⟨rfl, av4, hD4, n4, o4⟩
  have hF4 : fapp [] ⟨#[102]⟩ [104, 101, 108, 108, 111] = [(⟨#[102]⟩, [104, 101, 108, 108, 111])] := by simp [fapp, fset, fget, fidx]
  rw [hF4] at hD4
  have hS4 : StoreQ H4 s sv _ 0 := storeQ_keep hS3 fun x hx hn => o4 x (fun h => ap3 x hx (.inl h)) (fun h => ap3 x hx (.inr (.inl h))) (by simp [blkOf]) hn
  have ap4 : Apart s sv d f k av4 := fun x hx hy => by
    rcases hy with h | h | h | h
    · exact ap3 x hx (.inl h)
    · exact ap3 x hx (.inr (.inl h))
    · exact ap3 x hx (.inr (.inr (.inl h)))
    · rcases n4 with h2 | h2
      · rw [h2] at h; cases h
      · exact storeQ_live hS3 hx (h2 x h)
  clear ap3 o4 n4 hD3 hS3 hF4
  simp
  refine CallK.of (k_diskSync hD4) ?_
  rintro _ H5 ⟨k5, nk5, hD5, o5⟩
  have hS5 : StoreQ H5 s sv _ 0 := storeQ_keep hS4 fun x hx hn => o5 x (fun h => ap4 x hx (.inl h)) hn
  have ap5 : Apart s sv d f k5 .nils := fun x hx hy => by
    rcases hy with h | h | h | h
    · exact ap4 x hx (.inl h)
    · exact ap4 x hx (.inr (.inl h))
    · rw [h] at hx; exact storeQ_live hS4 hx nk5
    · cases h
  clear ap4 o5 hD4 hS4
  simp
  intro b3 hb3
  simp [Heap.set_self, Heap.set_set, Heap.set_same hb3]
  refine CallK.of (k_diskAppend hD5 (name := ⟨#[102]⟩) (b := .imm [.int .u8 33, .int .u8 33] 2 (some 2)) (l := [33, 33]) (.inr ⟨some 2, rfl⟩) (by decide) (by decide) (by simp [fget, fidx]) (by simp)) ?_
  rintro _ H6 ⟨rfl, av6, hD6, n6, o6⟩
  have hS6 : StoreQ H6 s sv _ 0 := storeQ_keep hS5 fun x hx hn => o6 x (fun h => ap5 x hx (.inl h)) (fun h => ap5 x hx (.inr (.inl h))) (by simp [blkOf]) hn
  clear ap5 o6 n6 hD5 hS5
  simp
  have hL : leftF (1 : Int).toNat ([] ++ [(⟨#[102]⟩, [33, 33])]) [(⟨#[102]⟩, [104, 101, 108, 108, 111])] = [((⟨#[102]⟩ : ByteArray), ([104, 101, 108, 108, 111, 33] : List UInt8))] := by
    simp [leftF, fapp, fset, fget, fidx]
  refine CallK.of (k_diskCrash hD6 1 (-1) (by omega) (by omega) (by omega) (by omega) (by simp) (by simp [totL]) (by rw [hL]; intro p hp; simp at hp; subst hp; decide) (by rw [hL]; simp) (by rw [hL]; simp [totL])) ?_
  rintro _ H7 ⟨d7, f7, k7, rfl, _, _, _, hD7, o7⟩
  rw [hL] at hD7
  have hS7 := storeQ_mono hS6 o7
  clear o7 hS6 hD6
  simp
  have hfg : fget ⟨#[102]⟩ [((⟨#[102]⟩ : ByteArray), ([104, 101, 108, 108, 111, 33] : List UInt8))] = [104, 101, 108, 108, 111, 33] := by simp [fget, fidx]
  refine CallK.of (k_diskRead hD7 ⟨#[102]⟩ (by rw [hfg]; simp)) ?_
  rintro v H8 ⟨rfl, hv⟩
  rw [show fidx ⟨#[102]⟩ [((⟨#[102]⟩ : ByteArray), ([104, 101, 108, 108, 111, 33] : List UInt8))] = some 0 by simp [fidx], hfg] at hv
  obtain ⟨u3, rfl, hu3⟩ := hv
  obtain ⟨c3, rfl⟩ : ∃ c, u3 = immB [104, 101, 108, 108, 111, 33] c := hu3.resolve_left (by simp)
  simp [hu3.un, immB]
  intro b14 hb14
  have hS9 : StoreQ ((H8.set b14 (some (Blk.cells [.int .i64 0, .int .i64 0, .int .i64 0, .int .i64 0, .int .i64 0, .int .i64 0] 6))).set b14 (some (Blk.cells [.int .i64 5, .int .i64 1, .int .i64 1, .int .i64 5, .int .i64 3, .int .i64 (-9)] 6))) s sv ([] ++ [(⟨#[120]⟩, [1, 2])]) 0 := storeQ_mono hS7 fun x hx => by
    rw [Heap.set_set, Heap.set_ne _ _ (fun h => hx (by rw [h]; exact hb14))]
  have hm9 : ((H8.set b14 (some (Blk.cells [.int .i64 0, .int .i64 0, .int .i64 0, .int .i64 0, .int .i64 0, .int .i64 0] 6))).set b14 (some (Blk.cells [.int .i64 5, .int .i64 1, .int .i64 1, .int .i64 5, .int .i64 3, .int .i64 (-9)] 6))) b14 = some (Blk.cells [.int .i64 5, .int .i64 1, .int .i64 1, .int .i64 5, .int .i64 3, .int .i64 (-9)] 6) := Heap.set_self _ _ _
  simp [Heap.set_self]
  generalize ((H8.set b14 (some (Blk.cells [.int .i64 0, .int .i64 0, .int .i64 0, .int .i64 0, .int .i64 0, .int .i64 0] 6))).set b14 (some (Blk.cells [.int .i64 5, .int .i64 1, .int .i64 1, .int .i64 5, .int .i64 3, .int .i64 (-9)] 6))) = H9 at *
  have hmm : mayM ⟨5, 1, 1, 5, 3, -9⟩ = true := by decide
  have hpm : putM [⟨5, 1, 1, 5, 3, -9⟩] = [5, 1, 1, 5, 3, 17] := by
    have e5 : enc (5 : Int).toNat = [5] := enc_lt (by decide)
    have e1 : enc (1 : Int).toNat = [1] := enc_lt (by decide)
    have e3 : enc (3 : Int).toNat = [3] := enc_lt (by decide)
    have ez : enc (zig (-9)) = [17] := enc_lt (by decide)
    simp only [putM, List.filter_cons, hmm, if_true, List.filter_nil, List.flatMap_cons, List.flatMap_nil, List.append_nil, encM]
    rw [show fieldsK 5 = true from rfl, show valuesK 5 = true from rfl, e5, e1, e3, ez]
    rfl
  refine CallK.pure (p_mutPut (ms := [⟨5, 1, 1, 5, 3, -9⟩]) .nil (.inr ⟨some 1, rfl⟩) (by simp [okM]) (by simp)) ?_
  intro u4 hu4
  rw [List.nil_append, hpm] at hu4
  simp [hu4.un]
  refine CallK.pure (p_mutGet hu4 (by simp)) ?_
  rintro _ rfl
  rw [show getMutL [5, 1, 1, 5, 3, 17] = (⟨5, 1, 1, 5, 3, -9⟩, 6, 0) by decide +kernel]
  simp [mutCs]
  intro b15 hb15
  have n15 : b14 ≠ b15 := fun h => by rw [← h, hm9] at hb15; cases hb15
  have hS10 : StoreQ ((H9.set b15 (some (Blk.cells [.int .i64 0, .int .i64 0, .int .i64 0, .int .i64 0, .int .i64 0, .int .i64 0] 6))).set b15 (some (Blk.cells [.int .i64 5, .int .i64 1, .int .i64 1, .int .i64 5, .int .i64 3, .int .i64 (-9)] 6))) s sv ([] ++ [(⟨#[120]⟩, [1, 2])]) 0 := storeQ_mono hS9 fun x hx => by
    rw [Heap.set_set, Heap.set_ne _ _ (fun h => hx (by rw [h]; exact hb15))]
  have hm10 : ((H9.set b15 (some (Blk.cells [.int .i64 0, .int .i64 0, .int .i64 0, .int .i64 0, .int .i64 0, .int .i64 0] 6))).set b15 (some (Blk.cells [.int .i64 5, .int .i64 1, .int .i64 1, .int .i64 5, .int .i64 3, .int .i64 (-9)] 6))) b14 = some (.cells [.int .i64 5, .int .i64 1, .int .i64 1, .int .i64 5, .int .i64 3, .int .i64 (-9)] 6) := by
    rw [Heap.set_ne _ _ n15, Heap.set_ne _ _ n15]; exact hm9
  have hy10 : ((H9.set b15 (some (Blk.cells [.int .i64 0, .int .i64 0, .int .i64 0, .int .i64 0, .int .i64 0, .int .i64 0] 6))).set b15 (some (Blk.cells [.int .i64 5, .int .i64 1, .int .i64 1, .int .i64 5, .int .i64 3, .int .i64 (-9)] 6))) b15 = some (.cells [.int .i64 5, .int .i64 1, .int .i64 1, .int .i64 5, .int .i64 3, .int .i64 (-9)] 6) := Heap.set_self _ _ _
  simp [Heap.set_self, cellsOf_imm, bytesV, byteV, toBytes]
  generalize ((H9.set b15 (some (Blk.cells [.int .i64 0, .int .i64 0, .int .i64 0, .int .i64 0, .int .i64 0, .int .i64 0] 6))).set b15 (some (Blk.cells [.int .i64 5, .int .i64 1, .int .i64 1, .int .i64 5, .int .i64 3, .int .i64 (-9)] 6))) = H10 at *
  refine CallK.of (k_has hS10 (ns := [⟨#[120]⟩]) (.inr ⟨some 1, rfl⟩) (fun n _ i j p q hij hp hq h => ?_) (by simp) (by simp)) ?_
  · have hj : j = 0 := by
      have := (List.getElem?_eq_some_iff.1 hq).1
      simp at this; omega
    have hi : i = 0 := by omega
    subst hi; subst hj
    rw [hp] at hq; cases hq; exact h
  rintro _ H11 ⟨rfl, rfl⟩
  rw [show ([⟨#[120]⟩] : List ByteArray).all (fun n => (findO n ([] ++ [((⟨#[120]⟩ : ByteArray), ([1, 2] : List UInt8))])).2) = true by decide +kernel]
  simp [hm10, hy10, cellsOf_imm, bytesV, byteV, toBytes]
  have bb2 : IsBB (.imm [.imm [.int .u8 1] 1 (some 1), .imm [.int .u8 2] 1 (some 1)] 2 (some 2)) [[1], [2]] := .inr ⟨_, some 2, rfl, rfl, fun i w l h1 h2 => by
    rcases i with _ | _ | i
    · simp at h1 h2; subst h1; subst h2; exact .inr ⟨some 1, rfl⟩
    · simp at h1 h2; subst h1; subst h2; exact .inr ⟨some 1, rfl⟩
    · simp at h1⟩
  refine CallK.pure (p_sumOf bb2 (by simp) (by simp)) ?_
  rintro _ rfl
  simp
  have bb1 : IsBB (.imm [.imm [.int .u8 1, .int .u8 2] 2 (some 2)] 1 (some 1)) [[1, 2]] := .inr ⟨_, some 1, rfl, rfl, fun i w l h1 h2 => by
    rcases i with _ | i
    · simp at h1 h2; subst h1; subst h2; exact .inr ⟨some 2, rfl⟩
    · simp at h1⟩
  refine CallK.pure (p_sumOf bb1 (by simp) (by simp)) ?_
  rintro _ rfl
  simp
  refine CallK.pure (p_sumOf (.inl ⟨rfl, rfl⟩) (by simp) (by simp)) ?_
  rintro _ rfl
  rw [show sumL ([] : List (List UInt8)).flatten = 1 from rfl]
  simp [hm10]
  refine CallK.pure (p_may ⟨5, 1, 1, 5, 3, -9⟩) ?_
  rintro _ rfl
  rw [hmm]
  simp
end Go.Proofs.YtdpbbnnlbjgjgaaGreat
