/- Stores: what is told; StoreAtom. -/
import Derived.Test.YtffifddlooligaaLV
import Derived.Test.YtffifddlooligaaLX
import Derived.Test.YtffifddlooligaaL3
import Derived.Test.YtffifddlooligaaC8
set_option linter.unusedVariables false
set_option linter.unusedSimpArgs false
set_option maxRecDepth 100000
set_option maxHeartbeats 4000000
namespace Go.Proofs.Ytffifddlooligaa
open Go.Sf
attribute [local simp] s_skip s_ops s_draw s_any s_contA s_tdone s_ttwo s_top_p s_top_pick s_top_e s_top_g s_seq s_cond s_block s_loop s_exit s_ret s_mark s_then_n s_then_e s_then_r s_in_n s_in_e s_in_r s_contC s_contO s_contQ s_contT s_nil s_cons_p s_cons_pick s_cons_e s_cons_g s_qnil s_qcons_p s_qcons_pick s_qcons_e s_qcons_g s_M s_Mg s_Mq s_Mqg s_G_p s_G_pick s_G_e s_Gq_p s_Gq_pick s_Gq_e s_if s_call s_callv s_qcall s_qcallv s_getAll_nil s_getAll_cons s_put_some s_put_none s_ev_t s_ev_c s_ev_f un evP evK argT resAV lenOf_nils lenOf_imm lenOf_sl lenOf_str optI slcV binV isShift binInt binStr shiftInt pickV unV s_append s_alloc s_box s_bslice s_Bs_t s_Bs_f s_store1 s_storeN s_St1 s_St s_s2b s_markb s_Mk s_mkslice s_qbslice s_qs2b s_ret_n s_ret_r s_retc_n s_retc_r s_RV_nil s_RV_t s_RV_c s_RV1 tupOf fillC kn_int cl_int on_int kn_bool cl_bool on_bool kn_str cl_str on_str kn_nilp cl_nilp on_nilp kn_ptr cl_ptr on_ptr kn_iptr cl_iptr on_iptr kn_nils cl_nils on_nils kn_sl cl_sl on_sl kn_imm cl_imm on_imm kn_mp cl_mp on_mp kn_nilm cl_nilm on_nilm kn_fn cl_fn on_fn kn_nilf cl_nilf on_nilf kn_agg cl_agg scalEq flatEq eqV s_copy_i s_copy_s s_Cp s_clr s_clrn s_Cl s_appz s_Az s_ext s_Ov s_mapB s_mapBS s_rng s_rngn s_Rn s_nxt s_Nx0 s_ent s_mkmap s_mset s_mdel mapOf s_Mg_n s_Mqg_n s_gw_b s_gw_u s_gw_gb s_gw_f
theorem k_getNone {H : Heap} {s : Nat} {v : AV} {A : FileL} {room : Int} (hS : StoreQ H s v A room) {name : ByteArray} (hm : MonoO name A) (hA : A.length < 2 ^ 20) (hth : (findO name A).2 = false) :
    CC PP F_store_Store_Get [.ptr s 0, .str name] H fun r H' => H' = H ∧ r = .tup [.nils, .int .i64 3] := by
  refine CC.by_vc ok_store_Store_Get (by simp) ?_
  unfold c_store_Store_Get
  simp
  refine CallK.of (k_find hS name hm (by omega)) ?_
  rintro _ H' ⟨rfl, rfl⟩
  simp [hth]
theorem k_getG {H : Heap} {s : Nat} {v : AV} {A : FileL} {room : Int} (hS : StoreQ H s v A room) {name : ByteArray} (hm : MonoO name A) (hA : A.length < 2 ^ 20) (hth : (findO name A).2 = true) {p : ByteArray × List UInt8} (hp : A[(findO name A).1]? = some p)
    {Q : AV → Heap → Prop} (hQ : ∀ u, IsB u p.2 → CC PP F_slices_Clone_byte_byte [u] H fun w H' => Sf.un w = (True, w) ∧ AV.one w = true ∧ Q (.tup [w, .int .i64 0]) H') :
    CC PP F_store_Store_Get [.ptr s 0, .str name] H Q := by
  have hS' := hS
  obtain ⟨hs, ⟨cs, ho, hO⟩, ne⟩ := hS
  have hpi : (findO name A).1 < A.length := (List.getElem?_eq_some_iff.1 hp).1
  obtain ⟨u, hu1, hu2, hu3⟩ := hO.at hp
  have hload : cs[(findO name A).1 * 2 + 1]? = some u := by
    have := congrArg (fun l : List AV => l[1]?) hu1
    simp only [List.getElem?_take, List.getElem?_drop] at this
    simpa using this
  refine CC.by_vc ok_store_Store_Get (by simp) ?_
  unfold c_store_Store_Get
  simp
  refine CallK.of (k_find hS' name hm (by omega)) ?_
  rintro _ H' ⟨rfl, rfl⟩
  rcases ho.2 with ⟨rfl, hA0⟩ | ⟨bv, cv, rfl, hbv, hcv⟩
  · omega
  simp [hth, hs, hpi, hbv, hload, hu2.un]
  refine CallK.of (hQ u hu2) ?_
  rintro w H' ⟨h1, h2, h3⟩
  simp [h1, h2]
  exact h3
theorem k_get {H : Heap} {s : Nat} {v : AV} {A : FileL} {room : Int} (hS : StoreQ H s v A room) {name : ByteArray} (hm : MonoO name A) (hA : A.length < 2 ^ 20) (hth : (findO name A).2 = true) {p : ByteArray × List UInt8} (hp : A[(findO name A).1]? = some p) (hl : p.2.length ≤ 2 ^ 40) :
    CC PP F_store_Store_Get [.ptr s 0, .str name] H fun r H' => H' = H ∧ ∃ w, IsB w p.2 ∧ r = .tup [w, .int .i64 0] :=
  k_getG hS hm hA hth hp fun u hu => (k_cloneA (.inl hu) hl).mono fun w H' ⟨h1, h2⟩ => ⟨h2.un, h2.one, h1, w, h2, rfl⟩
theorem k_getM {H : Heap} {s : Nat} {v : AV} {A : FileL} {room : Int} (hS : StoreQ H s v A room) {name : ByteArray} (hm : MonoO name A) (hA : A.length < 2 ^ 20) (hth : (findO name A).2 = true) {p : ByteArray × List UInt8} (hp : A[(findO name A).1]? = some p) (hl : p.2.length ≤ 2 ^ 40) (hne : p.2 ≠ []) :
    CC PP F_store_Store_Get [.ptr s 0, .str name] H fun r H' => ∃ w, r = .tup [w, .int .i64 0] ∧ OwnR H' 1 p.2.length w (bytesV p.2) ∧ (∀ x, H x ≠ none → H' x = H x) ∧ ∀ x, blkOf w = some x → H x = none :=
  k_getG hS hm hA hth hp fun u hu => (k_cloneM (.inl hu) hl hne).mono fun w H' ⟨h1, h2, h3⟩ => ⟨h1.un, h1.one, w, rfl, h1, h2, h3⟩
theorem findO_nil (name : ByteArray) : findO name [] = (0, false) := rfl
theorem cmpB_self : ∀ l : List UInt8, Lib.compareBytes l l = 0
  | [] => rfl
  | a :: l => by unfold Lib.compareBytes; rw [if_neg (UInt8.lt_irrefl a), if_neg (UInt8.lt_irrefl a)]; exact cmpB_self l
theorem cmpS_self (n : ByteArray) : cmpS n n = 0 := cmpB_self _
theorem findO_one (name : ByteArray) (l : List UInt8) : findO name [(name, l)] = (0, true) := by
  have : lessS name name = false := by unfold lessS; rw [cmpS_self]; simp
  unfold findO
  simp [this, cmpS_self]
theorem monoO_le {name : ByteArray} {A : FileL} (h : A.length ≤ 1) : MonoO name A := fun i j p q hij h1 h2 h3 => by
  have hi := (List.getElem?_eq_some_iff.1 h1).1
  have hj := (List.getElem?_eq_some_iff.1 h2).1
  obtain rfl : i = j := by omega
  rw [h1] at h2; cases h2; exact h3
def I_sa (s : Nat) (name : ByteArray) (l : List UInt8) (f : Nat) (k : Nat) (T : Nat → AV) (H : Heap) : Prop :=
  ∃ i : Nat, i + k = f ∧ T 0 = .str name ∧ T 1 = immB l none ∧ T 2 = .int .i64 f ∧ T 8 = .ptr s 0 ∧ T 9 = .int .i64 i ∧ ∃ v, StoreQ H s v [] 0
theorem p_StoreAtom (name0 : ByteArray) (hname : name0.size ≤ maxLen) (b0 : List UInt8) (hb : b0.length < 2 ^ 63) (fails : Int) (hf0 : IntKind.i64.min ≤ fails) (hf1 : fails ≤ IntKind.i64.max) :
    CP PP F_Rlaw1_StoreAtom [.str name0, immB b0 none, .int .i64 fails] (fun v => v = .bool true) := by
  have hf0' : -9223372036854775808 ≤ fails := hf0
  have hf1' : fails ≤ 9223372036854775807 := hf1
  obtain ⟨f, hf, hfe⟩ := place (n := 5) hf0' hf1' (by omega) (by omega)
  refine CP.by_vc ok_Rlaw1_StoreAtom (by simp) ?_
  unfold c_Rlaw1_StoreAtom
  simp
  refine CallK.pure p_begun ?_
  rintro _ rfl
  simp
  refine CallK.pure (p_cut name0 30 (by omega) (Nat.lt_of_le_of_lt hname (by decide))) ?_
  rintro _ rfl
  have hsz : ((⟨#[110]⟩ : ByteArray).size : Int) = 1 := rfl
  simp [immB, hsz]
  refine ⟨by omega, CallK.pure (CP.imm (p_short (a := immB b0 none) (.inr ⟨none, rfl⟩) 60 (by omega) hb)) ?_⟩
  have hl60 : (b0.take 60).length ≤ 60 := by simp; omega
  generalize b0.take 60 = l at *
  rintro _ rfl
  have hnm : (⟨#[110]⟩ ++ name0.extract 0 30 : ByteArray).size ≤ 40 := by rw [ByteArray.size_append, ByteArray.size_extract]; show 1 + _ ≤ 40; omega
  have hn0 : (⟨#[110]⟩ ++ name0.extract 0 30 : ByteArray) ≠ ⟨#[]⟩ := fun h => by
    have := congrArg ByteArray.size h
    rw [ByteArray.size_append] at this
    have h1 : (⟨#[110]⟩ : ByteArray).size = 1 := rfl
    have h2 : (⟨#[]⟩ : ByteArray).size = 0 := rfl
    omega
  generalize (⟨#[110]⟩ ++ name0.extract 0 30 : ByteArray) = name at *
  simp [immB]
  refine CallK.of (k_storeNew 0 (by omega)) ?_
  rintro _ H1 ⟨s, rfl, hs0, hS1, o1⟩
  simp
  have hfe' : (IntKind.i64.wrap (fails.tmod 5 + 5)).tmod 5 = (f : Int) := hfe
  refine LoopV.mk2 (I_sa s name l f) f ⟨0, by omega, by simp, by simp [immB], by simp [hfe'], by simp, by simp, _, hS1⟩ ?_
  clear hS1 o1 hs0
  rintro k T H ⟨i, hik, t0, t1, t2, t8, t9, v, hS⟩
  by_cases hk : k = 0
  · subst hk
    obtain rfl : i = f := by omega
    simp [t0, t1, t2, t8, t9, immB]
    refine CallK.of (k_storeNew 0 (by omega)) ?_
    rintro _ H2 ⟨s2, rfl, hs0, hS2, o1⟩
    have hS3 := storeQ_mono hS o1
    simp [t0]
    refine CallK.of (k_getNone hS2 (name := name) (monoO_le (by simp)) (by simp) (by rw [findO_nil])) ?_
    rintro _ H3 ⟨rfl, rfl⟩
    simp [t0, t1, t8, immB]
    refine CallK.of (k_storePut hS3 (by omega) (by omega) hn0 hnm (b := immB l none) (.inl (IsB.imm _ none)) (by omega) (monoO_le (by simp)) (by simp) (by simp [totL]) false) ?_
    rintro _ H4 ⟨rfl, v4, hS4, n4, o4⟩
    have e1 : putR name l false [] 0 = 0 := by simp [putR, findO_nil]
    have e2 : putA name l false [] 0 = [(name, l)] := by simp [putA, findO_nil, insO]
    rw [e1]
    rw [e2] at hS4
    simp [t0, t8]
    refine CallK.of (k_get hS4 (monoO_le (by simp)) (by simp) (by rw [findO_one]) (p := (name, l)) (by rw [findO_one]; rfl) (by simp; omega)) ?_
    rintro _ H5 ⟨rfl, w, hw, rfl⟩
    simp [hw.un, immB, hw.known, t1]
    refine CallK.pure (p_same (b := .imm (bytesV l) l.length none) hw (.inr ⟨none, rfl⟩)) ?_
    rintro _ rfl
    simp
  · have hlt : (i : Int) < f := by omega
    simp [t0, t1, t2, t8, t9, hlt, immB]
    refine CallK.of (k_storePut hS (by omega) (by omega) hn0 hnm (b := immB l none) (.inl (IsB.imm _ none)) (by omega) (monoO_le (by simp)) (by simp) (by simp [totL]) true) ?_
    rintro _ H4 ⟨rfl, v4, hS4, n4, o4⟩
    have e1 : putR name l true [] 0 = 5 := by simp [putR, findO_nil]
    have e2 : putA name l true [] 0 = [] := by simp [putA, findO_nil, insO]
    rw [e1]
    rw [e2] at hS4
    simp [t8, t0]
    refine CallK.of (k_has hS4 (u := .imm [.str name] 1 (some 1)) (ns := [name]) (.inr ⟨some 1, rfl⟩) (fun n _ => monoO_le (by simp)) (by simp) (by simp)) ?_
    rintro _ H5 ⟨rfl, rfl⟩
    simp [findO_nil, t8]
    refine CallK.of (k_used hS4 (by simp) (by simp [totL])) ?_
    rintro _ H5 ⟨rfl, rfl⟩
    simp [totL, t9]
    refine Again2.mk (k - 1) (by omega) ⟨i + 1, by omega, by simp [t0], by simp [t1], by simp [t2], by simp [t8], ?_, v4, hS4⟩
    simp; rw [wrap_i64 (by omega) (by omega)]
end Go.Proofs.Ytffifddlooligaa
