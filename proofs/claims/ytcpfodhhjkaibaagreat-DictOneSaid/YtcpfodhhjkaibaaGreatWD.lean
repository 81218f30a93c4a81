/- DictOne. -/
import Derived.Test.YtcpfodhhjkaibaaGreatSB
import Derived.Test.YtcpfodhhjkaibaaGreatCN
set_option linter.unusedVariables false
set_option linter.unusedSimpArgs false
set_option maxRecDepth 100000
set_option maxHeartbeats 8000000
namespace Go.Proofs.YtcpfodhhjkaibaaGreat
open Go.Sf
attribute [local simp] s_skip s_ops s_draw s_any s_contA s_tdone s_ttwo s_top_p s_top_pick s_top_e s_top_g s_seq s_cond s_block s_loop s_exit s_ret s_mark s_then_n s_then_e s_then_r s_in_n s_in_e s_in_r s_contC s_contO s_contQ s_contT s_nil s_cons_p s_cons_pick s_cons_e s_cons_g s_qnil s_qcons_p s_qcons_pick s_qcons_e s_qcons_g s_M s_Mg s_Mq s_Mqg s_G_p s_G_pick s_G_e s_Gq_p s_Gq_pick s_Gq_e s_if s_call s_callv s_qcall s_qcallv s_getAll_nil s_getAll_cons s_put_some s_put_none s_ev_t s_ev_c s_ev_f un evP evK argT resAV lenOf_nils lenOf_imm lenOf_sl lenOf_str optI slcV binV isShift binInt binStr shiftInt pickV unV s_append s_alloc s_box s_bslice s_Bs_t s_Bs_f s_store1 s_storeN s_St1 s_St s_s2b s_markb s_Mk s_mkslice s_qbslice s_qs2b s_ret_n s_ret_r s_retc_n s_retc_r s_RV_nil s_RV_t s_RV_c s_RV1 tupOf fillC kn_int cl_int on_int kn_bool cl_bool on_bool kn_str cl_str on_str kn_nilp cl_nilp on_nilp kn_ptr cl_ptr on_ptr kn_iptr cl_iptr on_iptr kn_nils cl_nils on_nils kn_sl cl_sl on_sl kn_imm cl_imm on_imm kn_mp cl_mp on_mp kn_nilm cl_nilm on_nilm kn_fn cl_fn on_fn kn_nilf cl_nilf on_nilf kn_agg cl_agg scalEq flatEq eqV s_copy_i s_copy_s s_Cp s_clr s_clrn s_Cl s_appz s_Az s_ext s_Ov s_mapB s_mapBS s_rng s_rngn s_Rn s_nxt s_Nx0 s_ent s_mkmap s_mset s_mdel mapOf s_Mg_n s_Mqg_n s_gw_b s_gw_u s_gw_gb s_gw_f
/-! A dictionary of which one key alone has fields. -/
def dOf (k : K3T) (A : FieldsL) : CellsK FieldsL := if A = [] then [] else [(k, A)]
def OkA (A : FieldsL) : Prop := RisF A ∧ ∀ q ∈ A, 0 ≤ q.1 ∧ q.1 < 8
theorem okA_put {f v : Int} {A : FieldsL} (h : OkA A) (h0 : 0 ≤ f) (h1 : f < 8) : OkA (putF f v A) := ⟨risF_put h.1, fun q hq => by
  rcases mem_putF h.1 hq with rfl | hq
  · exact ⟨h0, h1⟩
  · exact h.2 q hq⟩
theorem okA_cut {f : Int} {A : FieldsL} (h : OkA A) : OkA (cutF f A) := ⟨risF_cut h.1, fun q hq => h.2 q (mem_cutF hq)⟩
theorem okD_dOf {k : K3T} {A : FieldsL} (h : OkA A) : OkD (dOf k A) := by
  unfold dOf
  split
  · exact okD_nil
  · rename_i hne
    refine ⟨by unfold SortedK; simp, fun p hp => ?_⟩
    simp only [List.mem_singleton] at hp
    subst hp
    exact ⟨hne, h.1, h.2⟩
theorem dictK_dOf (k m : K3T) (A : FieldsL) : dictK m (dOf k A) = if m = k then A else [] := by
  unfold dOf
  split
  · rename_i e; subst e; simp [dictK, getK]
  · unfold dictK
    simp only [getK]
    by_cases e : m = k
    · subst e; simp
    · simp [e, Ne.symm e]
theorem put_dOf {k : K3T} {f v : Int} {A : FieldsL} (h : OkA A) (h0 : 0 ≤ f) (h1 : f < 8) : (putD k f v (dOf k A)).1 = dOf k (putF f v A) :=
  okD_ext (okD_put (okD_dOf h)) (okD_dOf (okA_put h h0 h1)) fun m => by
    rw [dictK_put (okD_dOf h) ⟨h0, h1⟩, dictK_dOf, dictK_dOf, dictK_dOf, if_pos rfl]
    by_cases e : m = k
    · rw [if_pos e, if_pos e]
    · rw [if_neg e, if_neg e, if_neg e]
theorem cut_dOf {k : K3T} {f : Int} {A : FieldsL} (h : OkA A) : cutD k f (dOf k A) = (dOf k (cutF f A), (getF f A).isSome) := by
  have e1 : (cutD k f (dOf k A)).1 = dOf k (cutF f A) :=
    okD_ext (okD_cut (okD_dOf h)) (okD_dOf (okA_cut h)) fun m => by
      rw [dictK_cut (okD_dOf h), dictK_dOf, dictK_dOf, dictK_dOf, if_pos rfl]
      by_cases e : m = k
      · rw [if_pos e, if_pos e]
      · rw [if_neg e, if_neg e, if_neg e]
  have e2 : (cutD k f (dOf k A)).2 = (getF f A).isSome := by
    unfold cutD
    rw [dictK_dOf, if_pos rfl]
    cases getF f A <;> simp
  rw [← e1, ← e2]
theorem dOf_len (k : K3T) (A : FieldsL) : (dOf k A).length = if A = [] then 0 else 1 := by
  unfold dOf
  split <;> rfl
/-! What the law keeps: eight numbers, and which of them are in. -/
def encW (A : FieldsL) : List AV := (List.range 8).map fun (f : Nat) => AV.int .i64 ((getF f A).getD 0)
def encB (A : FieldsL) : List AV := (List.range 8).map fun (f : Nat) => AV.bool (getF f A).isSome
theorem encW_put {f : Nat} {v : Int} {A : FieldsL} (h : OkA A) : (encW A).set f (.int .i64 v) = encW (putF f v A) := by
  unfold encW
  apply List.ext_getElem?
  intro i
  rw [List.getElem?_set]
  simp only [List.length_map, List.length_range, List.getElem?_map]
  by_cases hi : i < 8
  · rw [List.getElem?_range hi]
    simp only [Option.map_some]
    rw [getF_put h.1]
    by_cases e : f = i
    · subst e; simp [hi]
    · have e2 : ¬ (i : Int) = f := by omega
      rw [if_neg e, if_neg e2]
  · rw [List.getElem?_eq_none (by simp; omega)]
    simp
    omega
theorem encB_put {f : Nat} {v : Int} {A : FieldsL} (h : OkA A) : (encB A).set f (.bool true) = encB (putF f v A) := by
  unfold encB
  apply List.ext_getElem?
  intro i
  rw [List.getElem?_set]
  simp only [List.length_map, List.length_range, List.getElem?_map]
  by_cases hi : i < 8
  · rw [List.getElem?_range hi]
    simp only [Option.map_some]
    rw [getF_put h.1]
    by_cases e : f = i
    · subst e; simp [hi]
    · have e2 : ¬ (i : Int) = f := by omega
      rw [if_neg e, if_neg e2]
  · rw [List.getElem?_eq_none (by simp; omega)]
    simp
    omega
theorem encB_cut {f : Nat} {A : FieldsL} (h : OkA A) : (encB A).set f (.bool false) = encB (cutF f A) := by
  unfold encB
  apply List.ext_getElem?
  intro i
  rw [List.getElem?_set]
  simp only [List.length_map, List.length_range, List.getElem?_map]
  by_cases hi : i < 8
  · rw [List.getElem?_range hi]
    simp only [Option.map_some]
    rw [getF_cut h.1]
    by_cases e : f = i
    · subst e; simp [hi]
    · have e2 : ¬ (i : Int) = f := by omega
      rw [if_neg e, if_neg e2]
  · rw [List.getElem?_eq_none (by simp; omega)]
    simp
    omega
theorem encW_at {f : Nat} (A : FieldsL) (h : f < 8) : (encW A)[f]? = some (.int .i64 ((getF f A).getD 0)) := by
  unfold encW; rw [List.getElem?_map, List.getElem?_range h]; rfl
theorem encB_at {f : Nat} (A : FieldsL) (h : f < 8) : (encB A)[f]? = some (.bool (getF f A).isSome) := by
  unfold encB; rw [List.getElem?_map, List.getElem?_range h]; rfl
theorem encW_len (A : FieldsL) : (encW A).length = 8 := by unfold encW; simp
theorem encB_len (A : FieldsL) : (encB A).length = 8 := by unfold encB; simp
/-- How many of the first n fields are in. -/
def cntA (A : FieldsL) (n : Nat) : Nat := ((List.range n).filter fun (f : Nat) => (getF f A).isSome).length
theorem cntA_succ (A : FieldsL) (n : Nat) : cntA A (n + 1) = cntA A n + if (getF n A).isSome = true then 1 else 0 := by
  unfold cntA
  rw [List.range_succ, List.filter_append, List.length_append]
  congr 1
  by_cases h : (getF n A).isSome = true <;> simp [h]
theorem cntA_all {A : FieldsL} (h : OkA A) : cntA A 8 = A.length := by
  have hk : (A.map (·.1)).Pairwise fun a b => a < b := risF_keys.1 h.1
  have e : ((List.range 8).filter fun (f : Nat) => (getF f A).isSome).map (fun (f : Nat) => (f : Int)) = A.map (·.1) := by
    have s1 : (((List.range 8).filter fun (f : Nat) => (getF f A).isSome).map (fun (f : Nat) => (f : Int))).Pairwise fun a b => a < b := by
      rw [List.pairwise_map]
      exact (List.pairwise_lt_range.filter _).imp fun h => by omega
    refine List.Perm.eq_of_pairwise (le := fun a b : Int => a ≤ b) (fun a b _ _ h1 h2 => by omega) (s1.imp fun h => by omega) (hk.imp fun h => by omega) ?_
    refine (List.perm_ext_iff_of_nodup (s1.imp fun h => by omega) (hk.imp fun h => by omega)).2 fun x => ?_
    rw [List.mem_map, List.mem_map]
    constructor
    · rintro ⟨f, hf, rfl⟩
      obtain ⟨_, hs⟩ := List.mem_filter.1 hf
      obtain ⟨v, hv⟩ := Option.isSome_iff_exists.1 hs
      exact ⟨_, mem_of_getF hv, rfl⟩
    · rintro ⟨q, hq, rfl⟩
      obtain ⟨h0, h1⟩ := h.2 q hq
      refine ⟨q.1.toNat, List.mem_filter.2 ⟨by simp; omega, ?_⟩, by omega⟩
      rw [show ((q.1.toNat : Nat) : Int) = q.1 by omega, getF_of_mem h.1 hq]; rfl
  have := congrArg List.length e
  simpa [cntA] using this
structure D1 (H : Heap) (p y bw bb : Nat) (k : K3T) (A W B : FieldsL) (F : Nat → Prop) : Prop where
  d : DicQ H p (dOf k A) F
  hy : H y = some (.cells (k3 k) 3)
  hw : H bw = some (.cells (encW W) 8)
  hb : H bb = some (.cells (encB B) 8)
  out : ¬ F y ∧ ¬ F bw ∧ ¬ F bb
  ne : y ≠ bw ∧ y ≠ bb ∧ bw ≠ bb
  ok : OkA A
theorem D1.of {H H' : Heap} {p y bw bb : Nat} {k : K3T} {A A' W B : FieldsL} {F F' : Nat → Prop} (h : D1 H p y bw bb k A W B F) (hd : DicQ H' p (dOf k A') F') (hu : UpdF F F' H H') (ho : OkA A') : D1 H' p y bw bb k A' W B F' := by
  obtain ⟨o1, o2, o3⟩ := h.out
  have e1 := hu.1 y o1 (by rw [h.hy]; simp)
  have e2 := hu.1 bw o2 (by rw [h.hw]; simp)
  have e3 := hu.1 bb o3 (by rw [h.hb]; simp)
  exact ⟨hd, by rw [e1]; exact h.hy, by rw [e2]; exact h.hw, by rw [e3]; exact h.hb, ⟨fun e => (hu.2 y e).elim o1 (by rw [h.hy]; simp), fun e => (hu.2 bw e).elim o2 (by rw [h.hw]; simp), fun e => (hu.2 bb e).elim o3 (by rw [h.hb]; simp)⟩, h.ne, ho⟩
theorem D1.len {H : Heap} {p y bw bb : Nat} {k : K3T} {A W B : FieldsL} {F : Nat → Prop} (h : D1 H p y bw bb k A W B F) : (dOf k A).length ≤ 1 := by
  rw [dOf_len]; split <;> omega
theorem D1.put {H : Heap} {p y bw bb : Nat} {k : K3T} {A W B : FieldsL} {F : Nat → Prop} (h : D1 H p y bw bb k A W B F) {f : Int} (v : Int) (h0 : 0 ≤ f) (h1 : f < 8) :
    CC PP F_dict_Dicts_PutField [.ptr p 0, .agg (k3 k), .int .i64 f, .int .i64 v] H fun r H' => un r = (True, r) ∧ ∃ F', D1 H' p y bw bb k (putF f v A) W B F' :=
  (k_dPut h.d (by have := h.len; omega) k f v).mono fun r H' ⟨e, F', d2, u2⟩ => ⟨by rw [e]; rfl, F', h.of (by rw [← put_dOf h.ok h0 h1]; exact d2) u2 (okA_put h.ok h0 h1)⟩
theorem D1.cut {H : Heap} {p y bw bb : Nat} {k : K3T} {A W B : FieldsL} {F : Nat → Prop} (h : D1 H p y bw bb k A W B F) (f : Int) :
    CC PP F_dict_Dicts_CutField [.ptr p 0, .agg (k3 k), .int .i64 f] H fun r H' => r = .bool (getF f A).isSome ∧ ∃ F', D1 H' p y bw bb k (cutF f A) W B F' :=
  (k_dCut h.d (by have := h.len; omega) k f).mono fun r H' ⟨e, F', d2, u2⟩ => by
    rw [cut_dOf h.ok] at e d2
    exact ⟨e, F', h.of d2 u2 (okA_cut h.ok)⟩
theorem D1.setW {H : Heap} {p y bw bb : Nat} {k : K3T} {A W B : FieldsL} {F : Nat → Prop} (h : D1 H p y bw bb k A W B F) (W' : FieldsL) : D1 (H.set bw (some (.cells (encW W') 8))) p y bw bb k A W' B F :=
  ⟨h.d.keep fun x hx => Heap.set_ne _ _ (fun e => h.out.2.1 (by rw [← e]; exact hx)), by rw [Heap.set_ne _ _ h.ne.1]; exact h.hy, Heap.set_self _ _ _, by rw [Heap.set_ne _ _ (Ne.symm h.ne.2.2)]; exact h.hb, h.out, h.ne, h.ok⟩
theorem D1.setB {H : Heap} {p y bw bb : Nat} {k : K3T} {A W B : FieldsL} {F : Nat → Prop} (h : D1 H p y bw bb k A W B F) (B' : FieldsL) : D1 (H.set bb (some (.cells (encB B') 8))) p y bw bb k A W B' F :=
  ⟨h.d.keep fun x hx => Heap.set_ne _ _ (fun e => h.out.2.2 (by rw [← e]; exact hx)), by rw [Heap.set_ne _ _ h.ne.2.1]; exact h.hy, by rw [Heap.set_ne _ _ h.ne.2.2]; exact h.hw, Heap.set_self _ _ _, h.out, h.ne, h.ok⟩
theorem emptyD {H : Heap} {p : Nat} : DicQ (H.set p (some (.cells [.nils] 1))) p [] (fun x => x = p) :=
  ⟨[], .nils, rfl, ⟨Heap.set_self _ _ _, ⟨rfl, .inl ⟨rfl, rfl⟩⟩, (fun e => by cases e), (fun q h => by cases h), (fun q h => by cases h), .nil⟩, okD_nil, fun x => by simp [dicF, blkOf]⟩
def I_d1 (fs vs : List Int) (ct : Int) (p y bw bb : Nat) (k : K3T) (m : Nat) (T : Nat → AV) (H : Heap) : Prop :=
  ∃ (i : Nat) (A : FieldsL) (F : Nat → Prop), i + m = 30 ∧ T 0 = .imm (intsV fs) fs.length none ∧ T 1 = .imm (intsV vs) vs.length none ∧ T 2 = .int .i64 ct ∧ T 8 = .ptr p 0 ∧ T 9 = .ptr y 0 ∧ T 10 = .ptr bw 0 ∧ T 11 = .ptr bb 0 ∧ T 12 = .int .i64 i ∧ D1 H p y bw bb k A A A F
def I_d2 (p y bw bb : Nat) (k : K3T) (A W : FieldsL) (F : Nat → Prop) (m : Nat) (T : Nat → AV) (H : Heap) : Prop :=
  ∃ i : Nat, i + m = 8 ∧ T 8 = .ptr p 0 ∧ T 9 = .ptr y 0 ∧ T 10 = .ptr bw 0 ∧ T 11 = .ptr bb 0 ∧ T 14 = .int .i64 (cntA A i : Nat) ∧ T 82 = .int .i64 i ∧ D1 H p y bw bb k A W A F
theorem cntA_le (A : FieldsL) (n : Nat) : cntA A n ≤ n := by
  unfold cntA
  have := List.length_filter_le (fun (f : Nat) => (getF f A).isSome) (List.range n)
  rw [List.length_range] at this; exact this
theorem p_DictOne (fs : List Int) (hfl : fs.length < 2 ^ 63) (hfb : ∀ n ∈ fs, IntKind.i64.min ≤ n ∧ n ≤ IntKind.i64.max) (vs : List Int) (hvl : vs.length < 2 ^ 63) (hvb : ∀ n ∈ vs, IntKind.i64.min ≤ n ∧ n ≤ IntKind.i64.max) (ct : Int) (hc0 : IntKind.i64.min ≤ ct) (hc1 : ct ≤ IntKind.i64.max) :
    CP PP F_Rlaw7_DictOne [.imm (intsV fs) fs.length none, .imm (intsV vs) vs.length none, .int .i64 ct] (fun v => v = .bool true) := by
  refine CP.by_vc ok_Rlaw7_DictOne (by simp) ?_
  unfold c_Rlaw7_DictOne
  have hfv := intsV_length fs
  have hvv := intsV_length vs
  simp
  refine CallK.pure p_begun7 ?_
  rintro _ rfl
  simp
  refine CallK.of k_dNew ?_
  rintro _ H1 ⟨p, rfl, hp, hH1⟩
  simp
  refine CallK.pure (p_key 2 1 9) ?_
  rintro _ rfl
  generalize keyN 2 1 9 = k
  have hk3 : (k3 k).length = 3 := rfl
  have hkone : ∀ z, z ∈ k3 k → z.one = true := fun z hz => List.all_eq_true.1 (show (k3 k).all AV.one = true from rfl) z hz
  have htk : (k3 k).take 3 = k3 k := rfl
  simp
  intro y hy
  simp [Heap.set_self, Heap.set_set, hk3]
  refine ⟨hkone, ?_⟩
  intro bw hbw
  simp
  intro bb hbb
  simp
  have hyp : y ≠ p := fun e => by rw [e, hH1, Heap.set_self] at hy; cases hy
  have hby : bw ≠ y := fun e => by rw [e, Heap.set_self] at hbw; cases hbw
  have hbp : bw ≠ p := fun e => by rw [e, Heap.set_ne _ _ (Ne.symm hyp), hH1, Heap.set_self] at hbw; cases hbw
  have hcw : bb ≠ bw := fun e => by rw [e, Heap.set_self] at hbb; cases hbb
  have hcy : bb ≠ y := fun e => by rw [e, Heap.set_ne _ _ (Ne.symm hby), Heap.set_self] at hbb; cases hbb
  have hcp : bb ≠ p := fun e => by rw [e, Heap.set_ne _ _ (Ne.symm hbp), Heap.set_ne _ _ (Ne.symm hyp), hH1, Heap.set_self] at hbb; cases hbb
  have hd0 : DicQ H1 p [] (fun x => x = p) := by rw [hH1]; exact emptyD
  have st : D1 (((H1.set y (some (.cells (k3 k) 3))).set bw (some (.cells (encW []) 8))).set bb (some (.cells (encB []) 8))) p y bw bb k [] [] [] (fun x => x = p) := by
    refine ⟨(show DicQ H1 p (dOf k []) _ from hd0).keep fun x hx => ?_, ?_, ?_, ?_, ⟨hyp, hbp, hcp⟩, ⟨Ne.symm hby, Ne.symm hcy, Ne.symm hcw⟩, ⟨.nil, fun q h => by cases h⟩⟩
    · subst hx
      rw [Heap.set_ne _ _ (Ne.symm hcp), Heap.set_ne _ _ (Ne.symm hbp), Heap.set_ne _ _ (Ne.symm hyp)]
    · rw [Heap.set_ne _ _ (Ne.symm hcy), Heap.set_ne _ _ (Ne.symm hby), Heap.set_self]
    · rw [Heap.set_ne _ _ (Ne.symm hcw), Heap.set_self]
    · exact Heap.set_self _ _ _
  change LoopV _ ⟨_, (((H1.set y (some (.cells (k3 k) 3))).set bw (some (.cells (encW []) 8))).set bb (some (.cells (encB []) 8)))⟩ _
  refine LoopV.mk2 (I_d1 fs vs ct p y bw bb k) 30 ⟨0, [], _, by omega, by simp, by simp, by simp, by simp, by simp, by simp, by simp, by simp, st⟩ ?_
  clear st hd0 hy hbw hbb hyp hby hbp hcw hcy hcp hp hH1
  rintro m T H ⟨i, A, F, him, t0, t1, t2, t8, t9, t10, t11, t12, st⟩
  by_cases hlt : (i < fs.length ∧ i < vs.length) ∧ i < 30
  · obtain ⟨⟨hi1, hi2⟩, hi3⟩ := hlt
    obtain ⟨x, hx⟩ : ∃ x, fs[i]? = some x := ⟨fs[i], by simp [hi1]⟩
    obtain ⟨v, hv⟩ : ∃ v, vs[i]? = some v := ⟨vs[i], by simp [hi2]⟩
    have hxv : (intsV fs)[i]? = some (.int .i64 x) := by unfold intsV; rw [List.getElem?_map, hx]; rfl
    have hvv' : (intsV vs)[i]? = some (.int .i64 v) := by unfold intsV; rw [List.getElem?_map, hv]; rfl
    have b1 : -8 < x.tmod 8 ∧ x.tmod 8 < 8 := tmod_b x 8 (by omega)
    have w1 : IntKind.i64.wrap (x.tmod 8 + 8) = x.tmod 8 + 8 := wrap_i64 (by omega) (by omega)
    have e1 : (x.tmod 8 + 8).tmod 8 = (x.tmod 8 + 8) % 8 := Int.tmod_eq_emod_of_nonneg (by omega)
    obtain ⟨f, hf, hf8⟩ : ∃ f : Nat, (x.tmod 8 + 8).tmod 8 = (f : Int) ∧ f < 8 := ⟨((x.tmod 8 + 8) % 8).toNat, by omega, by omega⟩
    have hi3z : (i : Int) < 30 := by omega
    generalize hXe : intsV fs = X at *
    generalize hYe : intsV vs = Y at *
    have hxg : ∀ h : i < X.length, X[i]'h = .int .i64 x := fun h => (List.getElem?_eq_some_iff.1 hxv).2
    have hyg : ∀ h : i < Y.length, Y[i]'h = .int .i64 v := fun h => (List.getElem?_eq_some_iff.1 hvv').2
    have jy := st.hy
    simp [t0, t1, t12, hi1, hi2, hi3z, hxg, hfv, w1, hf, t8, t9, jy, hk3, htk, hyg, hvv]
    refine CallK.of (st.put v (by omega) (by omega)) ?_
    rintro r H2 ⟨hr, F2, st2⟩
    have hf8z : (f : Int) < 8 := by omega
    have jw := st2.hw
    have lw := encW_len A
    have lb := encB_len A
    have jb2 : ∀ X, (H2.set bw X) bb = some (.cells (encB A) 8) := fun X => by rw [Heap.set_ne _ _ (Ne.symm st2.ne.2.2)]; exact st2.hb
    simp [hr, t1, t12, hi2, hyg, hvv, t10, t11, hf8, hf8z, jw, lw, jb2, lb]
    rw [encW_put st.ok, encB_put st.ok]
    have st4 := (st2.setW (putF f v A)).setB (putF f v A)
    refine Again2.mk (m - 1) (by omega) ⟨i + 1, putF f v A, F2, by omega, by simp [t0, hXe], by simp [t1, hYe], by simp [t2], by simp [t8], by simp [t9], by simp [t10], by simp [t11], ?_, st4⟩
    simp
    rw [wrap_i64 (by omega) (by omega)]
  · have b1 : -8 < ct.tmod 8 ∧ ct.tmod 8 < 8 := tmod_b ct 8 (by omega)
    have w1 : IntKind.i64.wrap (ct.tmod 8 + 8) = ct.tmod 8 + 8 := wrap_i64 (by omega) (by omega)
    have e1 : (ct.tmod 8 + 8).tmod 8 = (ct.tmod 8 + 8) % 8 := Int.tmod_eq_emod_of_nonneg (by omega)
    obtain ⟨c, hc, hc8⟩ : ∃ c : Nat, (ct.tmod 8 + 8).tmod 8 = (c : Int) ∧ c < 8 := ⟨((ct.tmod 8 + 8) % 8).toNat, by omega, by omega⟩
    have hc8z : (c : Int) < 8 := by omega
    have jy := st.hy
    have jb := st.hb
    have lb := encB_len A
    have hbc : ∀ h, (encB A)[c]'h = .bool (getF c A).isSome := fun h => (List.getElem?_eq_some_iff.1 (encB_at A hc8)).2
    have hcut := st.cut c
    have hcut2 : ∀ {H2 F2}, D1 H2 p y bw bb k (cutF c A) A A F2 → CC PP F_dict_Dicts_CutField [.ptr p 0, .agg (k3 k), .int .i64 c] H2 fun r H' => r = .bool false ∧ ∃ F', D1 H' p y bw bb k (cutF c A) A A F' := fun h =>
      (h.cut c).mono fun r H' ⟨e, F', d⟩ => by
        have hn : getF c (cutF c A) = none := by rw [getF_cut st.ok.1, if_pos rfl]
        have hc2 : cutF c (cutF c A) = cutF c A := by unfold cutF at hn ⊢; rw [if_neg (by rw [hn]; simp)]
        rw [hc2] at d
        exact ⟨by rw [e, hn]; rfl, F', d⟩
    refine (have tail : ∀ (T : Nat → AV) (H : Heap) (F : Nat → Prop), T 8 = .ptr p 0 → T 9 = .ptr y 0 → T 10 = .ptr bw 0 → T 11 = .ptr bb 0 → T 14 = .int .i64 0 → T 82 = .int .i64 0 → D1 H p y bw bb k (cutF c A) A (cutF c A) F → LoopV ?R ⟨T, H⟩ ?Q := ?tl
      ?main)
    case main =>
      have hcond : (¬ i < fs.length) ∨ (i < fs.length ∧ ¬ i < vs.length) ∨ (i < fs.length ∧ i < vs.length ∧ ¬ (i : Int) < 30) := by omega
      rcases hcond with h1 | ⟨h1, h2⟩ | ⟨h1, h2, h3⟩
      case' inl => simp [t0, t1, t12, h1, hfv, hvv, t2, w1, hc, t8, t9, t11, jy, jb, hk3, htk, hc8, hc8z, lb, hbc]
      case' inr.inl => simp [t0, t1, t12, h1, h2, hfv, hvv, t2, w1, hc, t8, t9, t11, jy, jb, hk3, htk, hc8, hc8z, lb, hbc]
      case' inr.inr => simp [t0, t1, t12, h1, h2, h3, hfv, hvv, t2, w1, hc, t8, t9, t11, jy, jb, hk3, htk, hc8, hc8z, lb, hbc]
      all_goals
        repeat' (refine And.intro ?_ ?_)
      all_goals
        refine CallK.of hcut ?_
        rintro _ H2 ⟨rfl, F2, st2⟩
        have jy2 := st2.hy
        have jb2 := st2.hb
        simp [t8, t9, t11, jy2, jb2, hk3, htk, hc8, hc8z, lb, hbc]
        refine CallK.of (hcut2 st2) ?_
        rintro _ H3 ⟨rfl, F3, st3⟩
        have jb3 := st3.hb
        simp [t11, jb3, hc8, hc8z, lb]
        rw [encB_cut st.ok]
        refine tail _ _ F3 ?_ ?_ ?_ ?_ ?_ ?_ (st3.setB _)
        all_goals simp [t8, t9, t10, t11]
    case tl =>
      clear hcut hcut2 hbc
      have hA2 := okA_cut (f := c) st.ok
      have hsub : ∀ (j : Nat) (w : Int), getF j (cutF c A) = some w → getF j A = some w := fun j w h => by
        rw [getF_cut st.ok.1] at h
        split at h
        · cases h
        · exact h
      have hAW := encW_len A
      have hAB := encB_len (cutF c A)
      intro T H F t8 t9 t10 t11 t14 t82 st
      have hW : ∀ {j : Nat}, j < 8 → ∀ h, (encW A)[j]'h = .int .i64 ((getF j A).getD 0) := fun hj h => (List.getElem?_eq_some_iff.1 (encW_at A hj)).2
      have hB : ∀ {j : Nat}, j < 8 → ∀ h, (encB (cutF c A))[j]'h = .bool (getF j (cutF c A)).isSome := fun hj h => (List.getElem?_eq_some_iff.1 (encB_at (cutF c A) hj)).2
      generalize cutF c A = A' at *
      refine LoopV.mk2 (I_d2 p y bw bb k A' A F) 8 ⟨0, by omega, t8, t9, t10, t11, t14, t82, st⟩ ?_
      clear t8 t9 t10 t11 t14 t82 st
      rintro m T H ⟨j, hjm, t8, t9, t10, t11, t14, t82, st⟩
      have jy := st.hy
      have jw := st.hw
      have jb := st.hb
      have hl1 := st.len
      by_cases hj : j < 8
      · have hjz : (j : Int) < 8 := by omega
        have hWj := hW hj
        have hBj := hB hj
        have hcs := cntA_succ A' j
        have hcl := cntA_le A' j
        have wj : IntKind.i64.wrap ((j : Int) + 1) = ((j + 1 : Nat) : Int) := wrap_i64 (by omega) (by omega)
        have wc : IntKind.i64.wrap ((cntA A' j : Int) + 1) = ((cntA A' j + 1 : Nat) : Int) := wrap_i64 (by omega) (by omega)
        simp [t8, t9, t82, hjz, jy, hk3, htk]
        refine CallK.of (k_dField st.d (by omega) k j) ?_
        rintro _ _ ⟨rfl, rfl⟩
        rw [dictK_dOf, if_pos rfl]
        cases hg : getF j A' with
        | some w =>
          rw [hg] at hBj hcs
          rw [hsub j w hg] at hWj
          simp [t9, t10, t11, t82, hj, hjz, jw, jb, hWj, hBj, hAW, hAB, t14]
          exact Again2.mk (m - 1) (by omega) ⟨j + 1, by omega, by simp [t8], by simp [t9], by simp [t10], by simp [t11], by simp [hcs, wc], by simp [wj], st⟩
        | none =>
          rw [hg] at hBj hcs
          simp [t9, t10, t11, t82, hj, hjz, jw, jb, hWj, hBj, hAW, hAB, t14]
          exact Again2.mk (m - 1) (by omega) ⟨j + 1, by omega, by simp [t8], by simp [t9], by simp [t10], by simp [t11], by simp [hcs, t14], by simp [wj], st⟩
      · have hje : j = 8 := by omega
        subst hje
        rw [cntA_all hA2] at t14
        simp [t8, t9, t82, jy, hk3, htk]
        refine CallK.of (k_dDict st.d (by omega) k) ?_
        rintro _ _ ⟨rfl, rfl⟩
        rw [dictK_dOf, if_pos rfl]
        simp [immF, t14, t8]
        refine CallK.of (k_keysD st.d (by omega)) ?_
        rintro _ _ ⟨rfl, rfl⟩
        have hdl := dOf_len k A'
        simp [keysI, hdl, t14]
        cases A' with
        | nil => simp
        | cons q A' => simp
end Go.Proofs.YtcpfodhhjkaibaaGreat
