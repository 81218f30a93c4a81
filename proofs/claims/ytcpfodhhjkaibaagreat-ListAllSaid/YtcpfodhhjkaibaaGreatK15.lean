/- Stores. -/
import Derived.Test.YtcpfodhhjkaibaaGreatK14
set_option linter.unusedVariables false
set_option linter.unusedSimpArgs false
set_option maxRecDepth 100000
namespace Go.Sf
/-- A slice's cells stand for objects. -/
def ObjRel (r : List AV) : FileL → Prop
  | [] => r = []
  | p :: A => ∃ b r', r = .str p.1 :: b :: r' ∧ IsB b p.2 ∧ ObjRel r' A
theorem ObjRel.snoc {n : ByteArray} {b : AV} {l : List UInt8} (k : IsB b l) : ∀ {A : FileL} {r : List AV}, ObjRel r A → ObjRel (r ++ [.str n, b]) (A ++ [(n, l)])
  | [], r, h => by simp only [ObjRel] at h; subst h; exact ⟨b, [], rfl, k, rfl⟩
  | p :: A, r, h => by
    simp only [ObjRel] at h
    obtain ⟨b', r', rfl, h1, h2⟩ := h
    exact ⟨b', _, rfl, h1, ObjRel.snoc k h2⟩
theorem ObjRel.at : ∀ {A : FileL} {r : List AV}, ObjRel r A → ∀ {i : Nat} {p : ByteArray × List UInt8}, A[i]? = some p → ∃ b, (r.drop (i * 2)).take 2 = [.str p.1, b] ∧ IsB b p.2 ∧ i * 2 + 2 ≤ r.length
  | [], r, h, i, p, hi => by simp at hi
  | q :: A, r, h, i, p, hi => by
    simp only [ObjRel] at h
    obtain ⟨b, r', rfl, h1, h2⟩ := h
    cases i with
    | zero => simp at hi; subst hi; exact ⟨b, by simp, h1, by simp⟩
    | succ i =>
      obtain ⟨b', e1, e2, e3⟩ := ObjRel.at h2 (i := i) (by simpa using hi)
      refine ⟨b', ?_, e2, by simp; omega⟩
      rw [show (i + 1) * 2 = 2 + i * 2 by omega, ← List.drop_drop]
      exact e1
theorem ObjRel.length : ∀ {A : FileL} {r : List AV}, ObjRel r A → r.length = A.length * 2
  | [], r, h => by simp only [ObjRel] at h; subst h; rfl
  | p :: A, r, h => by
    simp only [ObjRel] at h
    obtain ⟨b, r', rfl, h1, h2⟩ := h
    have := ObjRel.length h2
    simp only [List.length_cons]; omega
def lessS (n m : ByteArray) : Bool := decide (cmpS n m < 0)
/-- Where an object is, or would be; whether it is there. -/
def findO (name : ByteArray) (A : FileL) : Nat × Bool :=
  ((A.takeWhile fun p => lessS p.1 name).length, match A[(A.takeWhile fun p => lessS p.1 name).length]? with
    | some p => decide (cmpS p.1 name = 0)
    | none => false)
/-- Names that rise. -/
def MonoO (name : ByteArray) (A : FileL) : Prop := ∀ (i j : Nat) (p q : ByteArray × List UInt8), i ≤ j → A[i]? = some p → A[j]? = some q → lessS q.1 name = true → lessS p.1 name = true
theorem takeWhile_len {α : Type} (f : α → Bool) : ∀ (l : List α) (i : Nat), i ≤ l.length → (∀ k x, k < i → l[k]? = some x → f x = true) → (∀ x, l[i]? = some x → f x = false) → (l.takeWhile f).length = i
  | [], i, h, _, _ => by simp at h; simp [h]
  | a :: l, 0, h, _, h2 => by
    have := h2 a rfl
    simp [List.takeWhile_cons, this]
  | a :: l, i + 1, h, h1, h2 => by
    have h0 := h1 0 a (by omega) rfl
    simp only [List.takeWhile_cons, h0, if_true, List.length_cons]
    rw [takeWhile_len f l i (by simpa using h) (fun k x hk hx => h1 (k + 1) x (by omega) (by simpa using hx)) (fun x hx => h2 x (by simpa using hx))]
/-- A store's blocks hold these objects. -/
structure StoreQ (H : Heap) (s : Nat) (v : AV) (A : FileL) (room : Int) : Prop where
  hs : H s = some (.cells [v, .int .i64 room] 2)
  cs : ∃ cs, OwnR H 2 A.length v cs ∧ ObjRel cs A
  ne : blkOf v ≠ some s
end Go.Sf
namespace Go.Proofs.YtcpfodhhjkaibaaGreat
open Go.Sf
attribute [local simp] s_skip s_ops s_draw s_any s_contA s_tdone s_ttwo s_top_p s_top_pick s_top_e s_top_g s_seq s_cond s_block s_loop s_exit s_ret s_mark s_then_n s_then_e s_then_r s_in_n s_in_e s_in_r s_contC s_contO s_contQ s_contT s_nil s_cons_p s_cons_pick s_cons_e s_cons_g s_qnil s_qcons_p s_qcons_pick s_qcons_e s_qcons_g s_M s_Mg s_Mq s_Mqg s_G_p s_G_pick s_G_e s_Gq_p s_Gq_pick s_Gq_e s_if s_call s_callv s_qcall s_qcallv s_getAll_nil s_getAll_cons s_put_some s_put_none s_ev_t s_ev_c s_ev_f un evP evK argT resAV lenOf_nils lenOf_imm lenOf_sl lenOf_str optI slcV binV isShift binInt binStr shiftInt pickV unV s_append s_alloc s_box s_bslice s_Bs_t s_Bs_f s_store1 s_storeN s_St1 s_St s_s2b s_markb s_Mk s_mkslice s_qbslice s_qs2b s_ret_n s_ret_r s_retc_n s_retc_r s_RV_nil s_RV_t s_RV_c s_RV1 tupOf fillC kn_int cl_int on_int kn_bool cl_bool on_bool kn_str cl_str on_str kn_nilp cl_nilp on_nilp kn_ptr cl_ptr on_ptr kn_iptr cl_iptr on_iptr kn_nils cl_nils on_nils kn_sl cl_sl on_sl kn_imm cl_imm on_imm kn_mp cl_mp on_mp kn_nilm cl_nilm on_nilm kn_fn cl_fn on_fn kn_nilf cl_nilf on_nilf kn_agg cl_agg scalEq flatEq eqV s_copy_i s_copy_s s_Cp s_clr s_clrn s_Cl s_appz s_Az s_ext s_Ov s_mapB s_mapBS s_rng s_rngn s_Rn s_nxt s_Nx0 s_ent s_mkmap s_mset s_mdel mapOf s_Mg_n s_Mqg_n s_gw_b s_gw_u s_gw_gb s_gw_f
theorem k_storeNew {H : Heap} (room : Int) (h : 0 ≤ room) : CC PP F_store_New [.int .i64 room] H fun v H' => ∃ s, v = .ptr s 0 ∧ H s = none ∧ StoreQ H' s .nils [] room ∧ ∀ x, H x ≠ none → H' x = H x := by
  refine CC.by_vc ok_store_New (by simp) ?_
  unfold c_store_New
  have h' : ¬ room < 0 := by omega
  simp [h']
  intro s hs
  simp
  exact ⟨hs, ⟨Heap.set_self _ _ _, ⟨[], ⟨rfl, .inl ⟨rfl, rfl⟩⟩, rfl⟩, by simp [blkOf]⟩, fun x hx => Heap.set_ne _ _ (fun h => hx (by rw [h]; exact hs))⟩
theorem p_find1 (a name : ByteArray) {b : AV} {l : List UInt8} (hb : IsB b l) : CP PP F_store_Store_find_1 [.agg [.str a, b], .str name] (fun v => v = .int .i64 (cmpS a name)) := by
  refine CP.by_vc ok_store_Store_find_1 (by simp) ?_
  unfold c_store_Store_find_1
  simp
  intro bx hbx
  simp [Heap.set_self]
  refine CallK.pure (p_strCompare _ _) ?_
  rintro v rfl
  simp
def I_bs (v : AV) (name : ByteArray) (A : FileL) (H0 : Heap) (k : Nat) (T : Nat → AV) (H : Heap) : Prop :=
  ∃ (i j : Nat), j = i + k ∧ j ≤ A.length ∧ H = H0 ∧ T 0 = v ∧ T 1 = .str name ∧ T 2 = .fn (.func F_store_Store_find_1) [] [] ∧ T 8 = .int .i64 A.length ∧ T 9 = .int .i64 i ∧ T 10 = .int .i64 j ∧
    (∀ (q : Nat) p, q < i → A[q]? = some p → lessS p.1 name = true) ∧ (∀ (q : Nat) p, j ≤ q → A[q]? = some p → lessS p.1 name = false)
theorem k_bs {H0 : Heap} {v : AV} {A : FileL} {cs : List AV} (ho : OwnR H0 2 A.length v cs) (hO : ObjRel cs A) (name : ByteArray) (hm : MonoO name A) (hl : A.length < 2 ^ 30) :
    CC PP F_slices_BinarySearchFunc_store_object_store_object_string [v, .str name, .fn (.func F_store_Store_find_1) [] []] H0 fun u H' => H' = H0 ∧ u = .tup [.int .i64 (findO name A).1, .bool (findO name A).2] := by
  refine CC.by_vc ok_slices_BinarySearchFunc_store_object_store_object_string (by simp) ?_
  unfold c_slices_BinarySearchFunc_store_object_store_object_string
  obtain ⟨hcl, ⟨rfl, hA0⟩ | ⟨b, c, rfl, hb, hc⟩⟩ := ho
  · have hAn : A = [] := List.length_eq_zero_iff.1 hA0
    subst hAn
    simp
    refine LoopV.mk2 (I_bs .nils name [] H0) 0 ⟨0, 0, rfl, by simp, rfl, by simp, by simp, by simp, by simp, by simp, by simp, fun q p h => by omega, fun q p h hq => by simp at hq⟩ ?_
    rintro q T H ⟨i, j, hj, hjl, rfl, t0, t1, t2, t8, t9, t10, hlo, hhi⟩
    have hi : i = 0 := by simp at hjl; omega
    have hj0 : j = 0 := by simp at hjl; omega
    subst hi
    subst hj0
    simp [t0, t1, t2, t8, t9, t10]
    simp [findO]
  · simp
    have hcall : callB PP F_store_Store_find_1 = true := by kernel_rfl
    refine LoopV.mk2 (I_bs (.sl b 0 A.length c) name A H0) A.length ⟨0, A.length, by omega, by omega, rfl, by simp, by simp, by simp, by simp, by simp, by simp, fun q p h => by omega, fun q p h hq => by have := (List.getElem?_eq_some_iff.1 hq).1; omega⟩ ?_
    rintro q T H ⟨i, j, hj, hjl, rfl, t0, t1, t2, t8, t9, t10, hlo, hhi⟩
    rcases Nat.eq_zero_or_pos q with rfl | hq
    · have hji : j = i := by omega
      subst hji
      have hlen : (A.takeWhile fun p => lessS p.1 name).length = j := takeWhile_len _ A j hjl (fun k x hk hx => hlo k x hk hx) (fun x hx => hhi j x (by omega) hx)
      rcases Nat.lt_or_ge j A.length with hjA | hjA
      · have hAj : A[j]? = some A[j] := by simp [hjA]
        obtain ⟨p, hp⟩ : ∃ p, A[j] = p := ⟨_, rfl⟩
        rw [hp] at hAj
        obtain ⟨ub, hcell, hub, hle⟩ := hO.at hAj
        have hfo : findO name A = (j, decide (cmpS p.1 name = 0)) := by unfold findO; rw [hlen, hAj]
        simp [t0, t1, t2, t8, t9, t10, hjA, hb, hcell, hle, hcall]
        refine CallK.pure (p_find1 _ _ hub) ?_
        rintro _ rfl
        simp [hfo]
      · have hfo : findO name A = (j, false) := by unfold findO; rw [hlen, List.getElem?_eq_none hjA]
        have hjA' : ¬ j < A.length := by omega
        simp [t0, t1, t2, t8, t9, t10, hjA', hfo, hb]
    · have hij : i < j := by omega
      have hw1 : IntKind.u64.wrap (IntKind.i64.wrap ((i : Int) + (j : Int))) = ((i + j : Nat) : Int) := by rw [wrap_i64 (by omega) (by omega), wrap_u64 (by omega) (by omega)]; omega
      have hw2 : IntKind.i64.wrap (((i : Int) + (j : Int)).fdiv (2 ^ Nat.min 1 IntKind.u64.bits)) = (((i + j) / 2 : Nat) : Int) := by
        rw [show (2 : Int) ^ Nat.min 1 IntKind.u64.bits = 2 from rfl, Int.fdiv_eq_ediv_of_nonneg _ (by omega), wrap_i64 (by omega) (by omega)]; omega
      have hh1 : i ≤ (i + j) / 2 ∧ (i + j) / 2 < j := by omega
      generalize hhe : (i + j) / 2 = h at hw2 hh1
      have hhA : h < A.length := by omega
      have hAh : A[h]? = some A[h] := by simp [hhA]
      obtain ⟨p, hp⟩ : ∃ p, A[h] = p := ⟨_, rfl⟩
      rw [hp] at hAh
      obtain ⟨ub, hcell, hub, hle⟩ := hO.at hAh
      simp [t0, t1, t2, t8, t9, t10, hij, hw1, hw2, hhA, hb, hcell, hle, hcall]
      refine CallK.pure (p_find1 _ _ hub) ?_
      rintro _ rfl
      by_cases hless : cmpS p.1 name < 0
      · have hlp : lessS p.1 name = true := by simp [lessS, hless]
        simp [hless]
        refine Again2.mk (j - (h + 1)) (by omega) ⟨h + 1, j, by omega, hjl, rfl, by simp [t0], by simp [t1], by simp [t2], by simp [t8], ?_, by simp [t10], fun k x hk hx => ?_, hhi⟩
        · simp; rw [wrap_i64 (by omega) (by omega)]
        · exact hm k h x p (by omega) hx hAh hlp
      · have hlp : lessS p.1 name = false := by simp [lessS, hless]
        simp [hless]
        refine Again2.mk (h - i) (by omega) ⟨i, h, by omega, by omega, rfl, by simp [t0], by simp [t1], by simp [t2], by simp [t8], by simp [t9], by simp, hlo, fun k x hk hx => ?_⟩
        cases hx' : lessS x.1 name with
        | false => rfl
        | true => rw [hm h k p x hk hAh hx hx'] at hlp; cases hlp
end Go.Proofs.YtcpfodhhjkaibaaGreat
