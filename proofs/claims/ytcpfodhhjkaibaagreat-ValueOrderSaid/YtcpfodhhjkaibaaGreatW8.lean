/- ValueOrder. -/
import Derived.Test.YtcpfodhhjkaibaaGreatSB
import Derived.Test.YtcpfodhhjkaibaaGreatCI
set_option linter.unusedVariables false
set_option linter.unusedSimpArgs false
set_option maxRecDepth 100000
set_option maxHeartbeats 8000000
namespace Go.Proofs.YtcpfodhhjkaibaaGreat
open Go.Sf
attribute [local simp] s_skip s_ops s_draw s_any s_contA s_tdone s_ttwo s_top_p s_top_pick s_top_e s_top_g s_seq s_cond s_block s_loop s_exit s_ret s_mark s_then_n s_then_e s_then_r s_in_n s_in_e s_in_r s_contC s_contO s_contQ s_contT s_nil s_cons_p s_cons_pick s_cons_e s_cons_g s_qnil s_qcons_p s_qcons_pick s_qcons_e s_qcons_g s_M s_Mg s_Mq s_Mqg s_G_p s_G_pick s_G_e s_Gq_p s_Gq_pick s_Gq_e s_if s_call s_callv s_qcall s_qcallv s_getAll_nil s_getAll_cons s_put_some s_put_none s_ev_t s_ev_c s_ev_f un evP evK argT resAV lenOf_nils lenOf_imm lenOf_sl lenOf_str optI slcV binV isShift binInt binStr shiftInt pickV unV s_append s_alloc s_box s_bslice s_Bs_t s_Bs_f s_store1 s_storeN s_St1 s_St s_s2b s_markb s_Mk s_mkslice s_qbslice s_qs2b s_ret_n s_ret_r s_retc_n s_retc_r s_RV_nil s_RV_t s_RV_c s_RV1 tupOf fillC kn_int cl_int on_int kn_bool cl_bool on_bool kn_str cl_str on_str kn_nilp cl_nilp on_nilp kn_ptr cl_ptr on_ptr kn_iptr cl_iptr on_iptr kn_nils cl_nils on_nils kn_sl cl_sl on_sl kn_imm cl_imm on_imm kn_mp cl_mp on_mp kn_nilm cl_nilm on_nilm kn_fn cl_fn on_fn kn_nilf cl_nilf on_nilf kn_agg cl_agg scalEq flatEq eqV s_copy_i s_copy_s s_Cp s_clr s_clrn s_Cl s_appz s_Az s_ext s_Ov s_mapB s_mapBS s_rng s_rngn s_Rn s_nxt s_Nx0 s_ent s_mkmap s_mset s_mdel mapOf s_Mg_n s_Mqg_n s_gw_b s_gw_u s_gw_gb s_gw_f
attribute [local simp] s_drawA s_contP s_pend0 s_pend1 s_anyT0 s_anyT1
/-! Values set from the front, and from the back where none is yet: one. -/
def fwd (L : List (K3T × Int)) (A : CellsK Int) : CellsK Int := L.foldl (fun A p => updK p.1 p.2 A) A
def addB (p : K3T × Int) (B : CellsK Int) : CellsK Int := if (getK p.1 B).isSome = true then B else updK p.1 p.2 B
def bwd (L : List (K3T × Int)) : CellsK Int := L.foldr addB []
theorem addB_sorted (p : K3T × Int) {B : CellsK Int} (h : SortedK B) : SortedK (addB p B) := by
  unfold addB; split
  · exact h
  · exact sortedK_upd h
theorem bwd_sorted : ∀ L, SortedK (bwd L)
  | [] => .nil
  | p :: L => addB_sorted p (bwd_sorted L)
theorem fwd_sorted : ∀ (L : List (K3T × Int)) (A : CellsK Int), SortedK A → SortedK (fwd L A)
  | [], A, h => h
  | p :: L, A, h => fwd_sorted L _ (sortedK_upd h)
theorem getK_fwd (m : K3T) : ∀ (L : List (K3T × Int)) (A : CellsK Int), SortedK A → getK m (fwd L A) = (getK m (bwd L)).or (getK m A)
  | [], A, h => rfl
  | p :: L, A, h => by
    show getK m (fwd L (updK p.1 p.2 A)) = (getK m (addB p (bwd L))).or (getK m A)
    rw [getK_fwd m L _ (sortedK_upd h), getK_upd h]
    unfold addB
    by_cases hs : (getK p.1 (bwd L)).isSome = true
    · rw [if_pos hs]
      by_cases e : m = p.1
      · subst e
        obtain ⟨x, hx⟩ := Option.isSome_iff_exists.1 hs
        rw [hx]; rfl
      · rw [if_neg e]
    · rw [if_neg hs, getK_upd (bwd_sorted L)]
      by_cases e : m = p.1
      · subst e
        have : getK p.1 (bwd L) = none := by simpa using hs
        rw [this]; simp
      · rw [if_neg e, if_neg e]
theorem fwd_bwd (L : List (K3T × Int)) : fwd L [] = bwd L :=
  sortedK_ext (fwd_sorted L [] .nil) (bwd_sorted L) fun k => by rw [getK_fwd k L [] .nil]; simp [getK]
theorem fwd_snoc (L : List (K3T × Int)) (p : K3T × Int) (A : CellsK Int) : fwd (L ++ [p]) A = updK p.1 p.2 (fwd L A) := by
  unfold fwd; rw [List.foldl_append]; rfl
theorem fwd_len : ∀ (L : List (K3T × Int)) (A : CellsK Int), (fwd L A).length ≤ A.length + L.length
  | [], A => by simp [fwd]
  | p :: L, A => by
    have h1 := fwd_len L (updK p.1 p.2 A)
    have h2 := length_upd p.1 p.2 A
    show (fwd L (updK p.1 p.2 A)).length ≤ _
    simp; omega
theorem bwd_len (L : List (K3T × Int)) : (bwd L).length ≤ L.length := by
  have := fwd_len L []
  rw [fwd_bwd] at this; simpa using this
def keyQ (x : Int) : K3T := keyN x (x.tdiv 4) x
def itemsQ (ids vs : List Int) (n : Nat) : List (K3T × Int) := ((ids.zip vs).take n).map fun p => (keyQ p.1, p.2)
theorem items_at {ids vs : List Int} {n i : Nat} {x v : Int} (hx : ids[i]? = some x) (hv : vs[i]? = some v) (hi : i < n) : (itemsQ ids vs n)[i]? = some (keyQ x, v) := by
  unfold itemsQ
  rw [List.getElem?_map, List.getElem?_take, if_pos hi, (List.getElem?_zip_eq_some (z := (x, v))).2 ⟨hx, hv⟩]; rfl
theorem items_len {ids vs : List Int} {n : Nat} (h1 : n ≤ ids.length) (h2 : n ≤ vs.length) : (itemsQ ids vs n).length = n := by
  unfold itemsQ; rw [List.length_map, List.length_take, List.length_zip]; omega
def I_vo1 (ids vs : List Int) (L : List (K3T × Int)) (pa pb n : Nat) (m : Nat) (T : Nat → AV) (H : Heap) : Prop :=
  ∃ (i : Nat) (F : Nat → Prop), i + m = n ∧ T 0 = .imm (intsV ids) ids.length none ∧ T 1 = .imm (intsV vs) vs.length none ∧ T 6 = .ptr pa 0 ∧ T 7 = .ptr pb 0 ∧ T 8 = .int .i64 n ∧ T 9 = .int .i64 i ∧
    ValQ H pa (fwd (L.take i) []) F ∧ ValQ H pb [] (fun x => x = pb) ∧ ¬ F pb
def I_vo2 (ids vs : List Int) (L : List (K3T × Int)) (pa pb : Nat) (F : Nat → Prop) (m : Nat) (T : Nat → AV) (H : Heap) : Prop :=
  ∃ G : Nat → Prop, m ≤ L.length ∧ T 0 = .imm (intsV ids) ids.length none ∧ T 1 = .imm (intsV vs) vs.length none ∧ T 6 = .ptr pa 0 ∧ T 7 = .ptr pb 0 ∧ T 10 = .int .i64 ((m : Int) - 1) ∧
    ValQ H pa (fwd L []) F ∧ ValQ H pb (bwd (L.drop m)) G ∧ ∀ x, F x → ¬ G x
def I_vo3 (pa pb : Nat) (A : CellsK Int) (F G : Nat → Prop) (KS : List K3T) (m : Nat) (T : Nat → AV) (H : Heap) : Prop :=
  ∃ i : Nat, i + m = KS.length ∧ T 6 = .ptr pa 0 ∧ T 7 = .ptr pb 0 ∧ T 14 = keysI KS ∧ T 15 = keysI KS ∧ T 101 = .int .i64 KS.length ∧ T 102 = .int .i64 i ∧ ValQ H pa A F ∧ ValQ H pb A G
theorem p_ValueOrder (ids : List Int) (hil : ids.length < 2 ^ 63) (hib : ∀ n ∈ ids, IntKind.i64.min ≤ n ∧ n ≤ IntKind.i64.max) (vs : List Int) (hvl : vs.length < 2 ^ 63) (hvb : ∀ n ∈ vs, IntKind.i64.min ≤ n ∧ n ≤ IntKind.i64.max) :
    CP PP F_Rlaw7_ValueOrder [.imm (intsV ids) ids.length none, .imm (intsV vs) vs.length none] (fun v => v = .bool true) := by
  refine CP.by_vc ok_Rlaw7_ValueOrder (by simp) ?_
  unfold c_Rlaw7_ValueOrder
  have hiv := intsV_length ids
  have hvv := intsV_length vs
  obtain ⟨n, hn⟩ : ∃ n, n = min (min ids.length vs.length) 20 := ⟨_, rfl⟩
  have n1 : n ≤ ids.length := by omega
  have n2 : n ≤ vs.length := by omega
  have n3 : n ≤ 20 := by omega
  simp
  refine CallK.pure p_begun7 ?_
  rintro _ rfl
  simp
  refine CallK.of k_vNew ?_
  rintro _ H1 ⟨pa, rfl, hpa, hH1⟩
  simp
  refine CallK.of k_vNew ?_
  rintro _ H2 ⟨pb, rfl, hpb, hH2⟩
  have nab : pb ≠ pa := fun e => by rw [e, hH1, Heap.set_self] at hpb; cases hpb
  have va : ValQ H2 pa [] (fun x => x = pa) := ⟨.nils, by rw [hH2, Heap.set_ne _ _ (Ne.symm nab), hH1]; exact Heap.set_self _ _ _, ⟨rfl, .inl ⟨rfl, rfl⟩⟩, (fun e => by cases e), .nil, fun x => by simp [blkOf]⟩
  have vb : ValQ H2 pb [] (fun x => x = pb) := ⟨.nils, by rw [hH2]; exact Heap.set_self _ _ _, ⟨rfl, .inl ⟨rfl, rfl⟩⟩, (fun e => by cases e), .nil, fun x => by simp [blkOf]⟩
  clear hpa hpb hH1 hH2
  have hif : (if (20 : Int) < (if vs.length < ids.length then (vs.length : Int) else (ids.length : Int)) then (20 : Int) else (if vs.length < ids.length then (vs.length : Int) else (ids.length : Int))) = (n : Int) := by
    split <;> split at * <;> omega
  simp [hif]
  have hLn := items_len n1 n2
  generalize hLe : itemsQ ids vs n = L at *
  refine LoopV.mk2 (I_vo1 ids vs L pa pb n) n ⟨0, _, by omega, by simp, by simp, by simp, by simp, (by simp [hif]), by simp, va, vb, nab⟩ ?_
  clear va vb nab hif
  rintro m T H ⟨i, F, him, t0, t1, t6, t7, t8, t9, va, vb, nab⟩
  by_cases hi : i < n
  · obtain ⟨x, hx⟩ : ∃ x, ids[i]? = some x := ⟨ids[i], by simp [show i < ids.length by omega]⟩
    obtain ⟨v, hv⟩ : ∃ v, vs[i]? = some v := ⟨vs[i], by simp [show i < vs.length by omega]⟩
    have hit := items_at hx hv hi
    rw [hLe] at hit
    have hxv : (intsV ids)[i]? = some (.int .i64 x) := by unfold intsV; rw [List.getElem?_map, hx]; rfl
    have hvv' : (intsV vs)[i]? = some (.int .i64 v) := by unfold intsV; rw [List.getElem?_map, hv]; rfl
    have hq : IntKind.i64.wrap (x.tdiv 4) = x.tdiv 4 := by
      have hb := hib x (List.mem_of_getElem? hx)
      have hd : (x.tdiv 4).natAbs = x.natAbs / 4 := Int.natAbs_tdiv x 4
      have e1 : IntKind.i64.min = -9223372036854775808 := rfl
      have e2 : IntKind.i64.max = 9223372036854775807 := rfl
      rw [e1, e2] at hb
      refine wrap_i64 ?_ ?_ <;> omega
    generalize hXe : intsV ids = X at *
    generalize hYe : intsV vs = Y at *
    have hxg : ∀ h : i < X.length, X[i]'h = .int .i64 x := fun h => (List.getElem?_eq_some_iff.1 hxv).2
    have hyg : ∀ h : i < Y.length, Y[i]'h = .int .i64 v := fun h => (List.getElem?_eq_some_iff.1 hvv').2
    have i1 : i < ids.length := by omega
    have i2 : i < vs.length := by omega
    simp [t0, t1, t6, t8, t9, hi, hxg, hyg, hiv, hvv, hq, i1, i2]
    refine CallQ.of (p_key x (x.tdiv 4) x) ?_
    simp [t0, t1, t6, t8, t9, hi, hxg, hyg, hiv, hvv, hq, i1, i2]
    have hcl := fwd_len (L.take i) []
    rw [List.length_take] at hcl
    refine CallK.of (k_vSet va (by simp at hcl; omega) (keyQ x) v) ?_
    rintro _ H2 ⟨rfl, F2, va2, u2⟩
    obtain ⟨kb, kn⟩ := keepO u2 (F := fun x => x = pb) (fun x hx e => nab (by rw [← hx]; exact e)) (fun x hx => vb.live hx)
    have vb2 := vb.keep kb
    simp [t9]
    refine Again2.mk (m - 1) (by omega) ⟨i + 1, F2, by omega, by simp [t0, hXe], by simp [t1, hYe], by simp [t6], by simp [t7], by simp [t8], ?_, ?_, vb2, kn pb rfl⟩
    · simp; rw [wrap_i64 (by omega) (by omega)]
    · rw [List.take_add_one, hit, Option.toList_some, fwd_snoc]; exact va2
  · have w1 : IntKind.i64.wrap ((n : Int) - 1) = (n : Int) - 1 := wrap_i64 (by omega) (by omega)
    have hin : i = n := by omega
    subst hin
    have htk : L.take i = L := List.take_of_length_le (by omega)
    rw [htk] at va
    simp [t8, t9, w1]
    refine LoopV.mk2 (I_vo2 ids vs L pa pb F) i ⟨fun x => x = pb, by omega, by simp [t0], by simp [t1], by simp [t6], by simp [t7], by simp, va, by rw [List.drop_eq_nil_of_le (by omega)]; exact vb, fun x hx e => nab (by rw [← e]; exact hx)⟩ ?_
    clear va vb nab htk t0 t1 t6 t7 t8 t9 him w1
    rintro m T H ⟨G, hmL, t0, t1, t6, t7, t10, va, vb, dis⟩
    have hlB := bwd_len (L.drop m)
    rw [List.length_drop] at hlB
    cases m with
    | succ j =>
      have hjn : j < i := by omega
      · obtain ⟨x, hx⟩ : ∃ x, ids[j]? = some x := ⟨ids[j], by simp [show j < ids.length by omega]⟩
        obtain ⟨v, hv⟩ : ∃ v, vs[j]? = some v := ⟨vs[j], by simp [show j < vs.length by omega]⟩
        have hit := items_at hx hv hjn
        rw [hLe] at hit
        have hxv : (intsV ids)[j]? = some (.int .i64 x) := by unfold intsV; rw [List.getElem?_map, hx]; rfl
        have hvv' : (intsV vs)[j]? = some (.int .i64 v) := by unfold intsV; rw [List.getElem?_map, hv]; rfl
        have hq : IntKind.i64.wrap (x.tdiv 4) = x.tdiv 4 := by
          have hb := hib x (List.mem_of_getElem? hx)
          have hd : (x.tdiv 4).natAbs = x.natAbs / 4 := Int.natAbs_tdiv x 4
          have e1 : IntKind.i64.min = -9223372036854775808 := rfl
          have e2 : IntKind.i64.max = 9223372036854775807 := rfl
          rw [e1, e2] at hb
          refine wrap_i64 ?_ ?_ <;> omega
        have hdr : L.drop j = (keyQ x, v) :: L.drop (j + 1) := by
          obtain ⟨h1, h2⟩ := List.getElem?_eq_some_iff.1 hit
          rw [List.drop_eq_getElem_cons h1, h2]
        have hbd : bwd (L.drop j) = addB (keyQ x, v) (bwd (L.drop (j + 1))) := by rw [hdr]; rfl
        generalize hXe : intsV ids = X at *
        generalize hYe : intsV vs = Y at *
        have hxg : ∀ h : j < X.length, X[j]'h = .int .i64 x := fun h => (List.getElem?_eq_some_iff.1 hxv).2
        have hyg : ∀ h : j < Y.length, Y[j]'h = .int .i64 v := fun h => (List.getElem?_eq_some_iff.1 hvv').2
        have i1 : j < ids.length := by omega
        have i2 : j < vs.length := by omega
        have tj : T 10 = .int .i64 (j : Int) := by rw [t10]; congr 1; omega
        have wj : IntKind.i64.wrap ((j : Int) - 1) = (j : Int) - 1 := wrap_i64 (by omega) (by omega)
        simp [t0, t1, t6, t7, tj, hxg, hyg, hiv, hvv, hq, i1, i2]
        refine CallQ.of (p_key x (x.tdiv 4) x) ?_
        have hk3 : (k3 (keyN x (x.tdiv 4) x)).length = 3 := rfl
        have hkone : ∀ z, z ∈ k3 (keyN x (x.tdiv 4) x) → z.one = true := fun z hz => List.all_eq_true.1 (show (k3 (keyN x (x.tdiv 4) x)).all AV.one = true from rfl) z hz
        simp
        intro y hy
        simp [Heap.set_self, Heap.set_set, hk3]
        refine ⟨hkone, ?_⟩
        have old : ∀ z, H z ≠ none → (H.set y (some (.cells (k3 (keyN x (x.tdiv 4) x)) 3))) z = H z := fun z hz => Heap.set_ne _ _ (fun e => hz (by rw [e]; exact hy))
        have va2 := va.keep fun z hz => old z (va.live hz)
        have vb2 := vb.keep fun z hz => old z (vb.live hz)
        have hyy : (H.set y (some (.cells (k3 (keyN x (x.tdiv 4) x)) 3))) y = some (.cells (k3 (keyN x (x.tdiv 4) x)) 3) := Heap.set_self _ _ _
        have nG : ¬ G y := fun e => vb.live e hy
        have nF : ¬ F y := fun e => va.live e hy
        generalize H.set y (some (.cells (k3 (keyN x (x.tdiv 4) x)) 3)) = Hy at *
        have htk : (k3 (keyN x (x.tdiv 4) x)).take 3 = k3 (keyN x (x.tdiv 4) x) := rfl
        simp [t7, hyy, hk3, htk]
        refine CallK.of (k_vValue vb2 (by omega) (keyN x (x.tdiv 4) x)) ?_
        rintro _ _ ⟨rfl, rfl⟩
        cases hg : getK (keyN x (x.tdiv 4) x) (bwd (L.drop (j + 1))) with
        | some w =>
          have hb2 : bwd (L.drop j) = bwd (L.drop (j + 1)) := by rw [hbd]; unfold addB keyQ; rw [if_pos (by rw [hg]; rfl)]
          simp [tj, wj]
          exact Again2.mk j (by omega) ⟨G, by omega, by simp [t0, hXe], by simp [t1, hYe], by simp [t6], by simp [t7], by simp, va2, by rw [hb2]; exact vb2, dis⟩
        | none =>
          have hb2 : bwd (L.drop j) = updK (keyQ x) v (bwd (L.drop (j + 1))) := by rw [hbd]; unfold addB keyQ; rw [if_neg (by rw [hg]; simp)]
          simp [t1, t7, tj, hyy, hk3, htk, hyg, hvv, i2]
          refine CallK.of (k_vSet vb2 (by omega) (keyN x (x.tdiv 4) x) v) ?_
          rintro _ H4 ⟨rfl, G2, vb3, u3⟩
          obtain ⟨kb, kn⟩ := keepO u3 (F := F) dis (fun z hz => va2.live hz)
          have va3 := va2.keep kb
          simp [tj, wj]
          exact Again2.mk j (by omega) ⟨G2, by omega, by simp [t0, hXe], by simp [t1, hYe], by simp [t6], by simp [t7], by simp, va3, by rw [hb2]; exact vb3, kn⟩
    | zero =>
      rw [List.drop_zero, ← fwd_bwd] at vb
      have hfl := fwd_len L []
      simp only [List.length_nil, Nat.zero_add] at hfl
      have hsA : SortedK (fwd L []) := fwd_sorted L [] .nil
      generalize fwd L [] = A at *
      simp [t10, t6, t7]
      refine CallK.of (k_keysV va (by omega)) ?_
      rintro _ _ ⟨rfl, rfl⟩
      simp [t7]
      refine CallK.of (k_keysV vb (by omega)) ?_
      rintro _ _ ⟨rfl, rfl⟩
      have hmemK : ∀ x, x ∈ A.map (·.1) → (getK x A).isSome = true := fun x hx => some_ne.2 ((getK_mem x A).2 hx)
      have hKl : (A.map (·.1)).length = A.length := List.length_map _
      obtain ⟨KS, hKS⟩ : ∃ KS, KS = A.map (·.1) := ⟨_, rfl⟩
      rw [← hKS] at hmemK hKl ⊢
      have hun : ∀ ks, un (keysI ks) = (True, keysI ks) := fun _ => rfl
      simp [hun]
      simp [keysI]
      refine LoopV.mk2 (I_vo3 pa pb A F G KS) KS.length ⟨0, by omega, by simp [t6], by simp [t7], by simp [keysI], by simp [keysI], by simp, by simp, va, vb⟩ ?_
      rintro m T H ⟨k, hkm, t6, t7, t14, t15, t101, t102, va, vb⟩
      by_cases hk : k < KS.length
      · obtain ⟨x, hx⟩ : ∃ x, KS[k]? = some x := ⟨KS[k], by simp [hk]⟩
        obtain ⟨a1, a2⟩ := k3_at hx
        have hxm := hmemK x (List.mem_of_getElem? hx)
        obtain ⟨w, hw⟩ := Option.isSome_iff_exists.1 hxm
        simp only [keysI] at t14 t15
        generalize hKe : KS.flatMap k3 = K at *
        simp [t6, t14, t101, t102, hk, a1, a2]
        refine CallK.of (k_vValue va (by omega) x) ?_
        rintro _ _ ⟨rfl, rfl⟩
        simp [t7, t14, t102, hk, a1, a2, hw]
        refine CallK.of (k_vValue vb (by omega) x) ?_
        rintro _ _ ⟨rfl, rfl⟩
        have hfe : flatEq [.i, .i, .i] (k3 x) (k3 x) = some true := by simp [k3, flatEq, scalEq]
        simp [t14, t15, t102, hk, a1, a2, hw, hfe]
        refine Again2.mk (m - 1) (by omega) ⟨k + 1, by omega, by simp [t6], by simp [t7], by simp [t14, keysI, hKe], by simp [t15, keysI, hKe], by simp [t101], ?_, va, vb⟩
        simp
        rw [wrap_i64 (by omega) (by omega)]
      · simp [t101, t102, hk]
end Go.Proofs.YtcpfodhhjkaibaaGreat
