/- ValueAll. -/
import Derived.Test.YtcpfodhhjkaibaaGreatSB
import Derived.Test.YtcpfodhhjkaibaaGreatQ6
set_option linter.unusedVariables false
set_option linter.unusedSimpArgs false
set_option maxRecDepth 100000
set_option maxHeartbeats 8000000
namespace Go.Proofs.YtcpfodhhjkaibaaGreat
open Go.Sf
attribute [local simp] s_skip s_ops s_draw s_any s_contA s_tdone s_ttwo s_top_p s_top_pick s_top_e s_top_g s_seq s_cond s_block s_loop s_exit s_ret s_mark s_then_n s_then_e s_then_r s_in_n s_in_e s_in_r s_contC s_contO s_contQ s_contT s_nil s_cons_p s_cons_pick s_cons_e s_cons_g s_qnil s_qcons_p s_qcons_pick s_qcons_e s_qcons_g s_M s_Mg s_Mq s_Mqg s_G_p s_G_pick s_G_e s_Gq_p s_Gq_pick s_Gq_e s_if s_call s_callv s_qcall s_qcallv s_getAll_nil s_getAll_cons s_put_some s_put_none s_ev_t s_ev_c s_ev_f un evP evK argT resAV lenOf_nils lenOf_imm lenOf_sl lenOf_str optI slcV binV isShift binInt binStr shiftInt pickV unV s_append s_alloc s_box s_bslice s_Bs_t s_Bs_f s_store1 s_storeN s_St1 s_St s_s2b s_markb s_Mk s_mkslice s_qbslice s_qs2b s_ret_n s_ret_r s_retc_n s_retc_r s_RV_nil s_RV_t s_RV_c s_RV1 tupOf fillC kn_int cl_int on_int kn_bool cl_bool on_bool kn_str cl_str on_str kn_nilp cl_nilp on_nilp kn_ptr cl_ptr on_ptr kn_iptr cl_iptr on_iptr kn_nils cl_nils on_nils kn_sl cl_sl on_sl kn_imm cl_imm on_imm kn_mp cl_mp on_mp kn_nilm cl_nilm on_nilm kn_fn cl_fn on_fn kn_nilf cl_nilf on_nilf kn_agg cl_agg scalEq flatEq eqV s_copy_i s_copy_s s_Cp s_clr s_clrn s_Cl s_appz s_Az s_ext s_Ov s_mapB s_mapBS s_rng s_rngn s_Rn s_nxt s_Nx0 s_ent s_mkmap s_mset s_mdel mapOf s_Mg_n s_Mqg_n s_gw_b s_gw_u s_gw_gb s_gw_f
def I_ris (ks : List K3T) (c : Option Nat) (m : Nat) (T : Nat → AV) (H : Heap) : Prop := ∃ i : Nat, 1 ≤ i ∧ i + m = ks.length + 1 ∧ T 0 = .imm (ks.flatMap k3) ks.length c ∧ T 3 = .int .i64 i
theorem p_rising {ks : List K3T} (h : RisK ks) (hl : ks.length < 2 ^ 40) {c : Option Nat} : CP PP F_Rlaw7_rising [.imm (ks.flatMap k3) ks.length c] (fun v => v = .bool true) := by
  refine CP.by_vc ok_Rlaw7_rising (by simp) ?_
  unfold c_Rlaw7_rising
  simp
  refine LoopV.mk2 (I_ris ks c) ks.length ⟨1, by omega, by omega, by simp, by simp⟩ ?_
  rintro m T H ⟨i, hi1, him, t0, t3⟩
  by_cases hi : i < ks.length
  · obtain ⟨x, hx⟩ : ∃ x, ks[i - 1]? = some x := ⟨ks[i - 1]'(by omega), by rw [List.getElem?_eq_getElem (by omega)]⟩
    obtain ⟨y, hy⟩ : ∃ y, ks[i]? = some y := ⟨ks[i], by simp [hi]⟩
    obtain ⟨a1, a2⟩ := k3_at hx
    obtain ⟨b1, b2⟩ := k3_at hy
    have w1 : IntKind.i64.wrap ((i : Int) - 1) = ((i - 1 : Nat) : Int) := by rw [wrap_i64 (by omega) (by omega)]; omega
    have hi1' : i - 1 < ks.length := by omega
    have hless : lessK x y = true := by
      obtain ⟨p1, p2⟩ := List.getElem?_eq_some_iff.1 hx
      obtain ⟨q1, q2⟩ := List.getElem?_eq_some_iff.1 hy
      have := List.pairwise_iff_getElem.1 h (i - 1) i p1 q1 (by omega)
      rwa [p2, q2] at this
    generalize hXe : ks.flatMap k3 = X at *
    simp [t0, t3, hi, a1, a2, b1, b2, w1, hi1']
    refine CallQ.of (p_rLess x y) ?_
    simp [hless, t3]
    refine Again2.mk (m - 1) (by omega) ⟨i + 1, by omega, by omega, by simp [t0, hXe], ?_⟩
    simp; rw [wrap_i64 (by omega) (by omega)]
  · simp [t0, t3, hi]
theorem keys_ris {β : Type} {A : CellsK β} (h : SortedK A) : RisK (A.map (·.1)) := sortedK_keys.1 h
theorem mdel_ents (k : K3T) (W : List (K3T × Int)) : mdelV (entsA encInt W) (midx k W) = entsA encInt (mcut k W) := by
  unfold mcut
  cases midx k W with
  | none => rfl
  | some j => simp [mdelV, entsA, List.eraseIdx_eq_take_drop_succ, List.map_take, List.map_drop]
theorem ents_length (W : List (K3T × Int)) : (entsA encInt W).length = W.length := by simp [entsA]
def I_vb (os : List KopT) (i p pm y : Nat) (KS : List K3T) (key : K3T) (A : CellsK Int) (W : List (K3T × Int)) (F : Nat → Prop) (m : Nat) (T : Nat → AV) (H : Heap) : Prop :=
  ∃ j : Nat, j + m = KS.length ∧ T 0 = .imm (os.flatMap kopCs) os.length none ∧ T 4 = .ptr p 0 ∧ T 5 = .mp pm ∧ T 6 = .int .i64 i ∧ T 7 = .ptr y 0 ∧ T 86 = .imm (KS.flatMap k3) KS.length none ∧ T 87 = .int .i64 KS.length ∧ T 88 = .int .i64 j ∧
    ValQ H p A F ∧ H pm = some (.map (entsA encInt W)) ∧ H y = some (.cells (k3 key) 3)
def I_va (os : List KopT) (m : Nat) (T : Nat → AV) (H : Heap) : Prop :=
  ∃ (i p pm : Nat) (A : CellsK Int) (W : List (K3T × Int)) (F : Nat → Prop), i + m = 51 ∧ i ≤ 50 ∧ T 0 = .imm (os.flatMap kopCs) os.length none ∧ T 4 = .ptr p 0 ∧ T 5 = .mp pm ∧ T 6 = .int .i64 i ∧ ValQ H p A F ∧ H pm = some (.map (entsA encInt W)) ∧ ¬ F pm ∧
    (W.map (·.1)).Nodup ∧ (∀ k, getK k A = getK k W) ∧ A.length ≤ i
theorem p_ValueAll (os : List KopT) (hos : os.length < 2 ^ 63) (ho : ∀ o ∈ os, okKop o) : CP PP F_Rlaw7_ValueAll [.imm (os.flatMap kopCs) os.length none] (fun v => v = .bool true) := by
  refine CP.by_vc ok_Rlaw7_ValueAll (by simp) ?_
  unfold c_Rlaw7_ValueAll
  simp
  refine CallK.pure p_begun7 ?_
  rintro _ rfl
  simp
  refine CallK.of k_vNew ?_
  rintro _ H1 ⟨p, rfl, hp, rfl⟩
  simp
  intro pm hpm
  simp
  have hpp : p ≠ pm := fun e => by rw [e, Heap.set_self] at hpm; cases hpm
  refine LoopV.mk2 (I_va os) 51 ⟨0, p, pm, [], [], fun x => x = p, by omega, by omega, by simp, by simp, by simp, by simp, ⟨.nils, by rw [Heap.set_ne _ _ hpp, Heap.set_self], ⟨rfl, .inl ⟨rfl, rfl⟩⟩, (fun e => by cases e), .nil, fun x => by simp [blkOf]⟩, Heap.set_self _ _ _, Ne.symm hpp, by simp, fun k => rfl, by simp⟩ ?_
  rintro m T H ⟨i, p, pm, A, W, F, him, hi50, t0, t4, t5, t6, hV, hB, hFm, hnd, hag, hlen⟩
  by_cases hi : i < os.length
  · by_cases h50 : i < 50
    · obtain ⟨o, hoi⟩ : ∃ o, os[i]? = some o := ⟨os[i], by simp [hi]⟩
      obtain ⟨g0, g4, g5, g6⟩ := kop_get hoi
      have gk := kop_key hoi
      obtain ⟨f1, f2⟩ := kop_at hoi
      have h50z : (i : Int) < 50 := by omega
      have hk3 : (k3 o.key).length = 3 := rfl
      have hkone : ∀ x, x ∈ k3 o.key → x.one = true := fun x hx => List.all_eq_true.1 (show (k3 o.key).all AV.one = true from rfl) x hx
      have f3 : i * 7 + 1 + 3 ≤ (os.flatMap kopCs).length := by omega
      generalize hXe : os.flatMap kopCs = X at *
      simp [t0, t4, t5, t6, hi, h50z, gk, f3]
      intro y hy
      simp [t0, t4, t5, t6, Heap.set_self, Heap.set_set, hk3]
      refine ⟨hkone, ?_⟩
      have holdy : ∀ x, H x ≠ none → (H.set y (some (.cells (k3 o.key) 3))) x = H x := fun x hx => Heap.set_ne _ _ (fun e => hx (by rw [e]; exact hy))
      have hVy := hV.keep (H' := H.set y (some (.cells (k3 o.key) 3))) fun x hx => holdy x (hV.live hx)
      have hBy : (H.set y (some (.cells (k3 o.key) 3))) pm = some (.map (entsA encInt W)) := by rw [holdy pm (by rw [hB]; simp)]; exact hB
      have hyy : (H.set y (some (.cells (k3 o.key) 3))) y = some (.cells (k3 o.key) 3) := Heap.set_self _ _ _
      have hFy : ¬ F y := fun e => hV.live e hy
      have hpy : pm ≠ y := fun e => by rw [e, hy] at hB; cases hB
      generalize H.set y (some (.cells (k3 o.key) 3)) = Hy at *
      simp [t5, t0, t6, hi, hyy, tk3, hk3, hBy, find_ents, lkp_ents, g0]
      have hbit := and1 o.kind
      obtain ⟨bit, hbe⟩ : ∃ bit, bitsOf .i64 (· &&& ·) o.kind 1 = bit := ⟨_, rfl⟩
      rw [hbe] at hbit ⊢
      have hsA : SortedK A := by obtain ⟨_, _, _, _, h, _⟩ := hV; exact h
      have dec0 : ∀ b : Bool, ∀ q : Prop, [Decidable q] → (b = true ↔ q) → b = decide q := fun b q _ h => by rw [Bool.eq_iff_iff, h, decide_eq_true_iff]
      refine ⟨fun hz => ?set, fun hz => ?uns⟩
      case' set =>
        simp [t4, t0, t6, hi, hyy, tk3, hk3, g5]
        refine CallK.of (k_vSet hVy (by omega) o.key o.v) ?_
        rintro _ H2 ⟨rfl, F2, v2, u2⟩
        have hB2 : H2 pm = some (.map (entsA encInt W)) := by rw [u2.1 pm hFm (by rw [hBy]; simp)]; exact hBy
        have hy2 : H2 y = some (.cells (k3 o.key) 3) := by rw [u2.1 y hFy (by rw [hyy]; simp)]; exact hyy
        have hF2 : ¬ F2 pm := fun e => (u2.2 pm e).elim hFm (by rw [hBy]; simp)
        have hFy2 : ¬ F2 y := fun e => (u2.2 y e).elim hFy (by rw [hyy]; simp)
        simp [t5, t4, t0, t6, hi, hy2, tk3, hk3, g5, hB2, s_Mset (find_ents o.key W), mset_ents]
        have hV3 := v2.keep (H' := H2.set pm (some (.map (entsA encInt (mput o.key o.v W))))) fun x hx => Heap.set_ne _ _ (fun e => hF2 (by rw [← e]; exact hx))
        have hB3 : (H2.set pm (some (.map (entsA encInt (mput o.key o.v W))))) pm = some (.map (entsA encInt (mput o.key o.v W))) := Heap.set_self _ _ _
        have hy3 : (H2.set pm (some (.map (entsA encInt (mput o.key o.v W))))) y = some (.cells (k3 o.key) 3) := by rw [Heap.set_ne _ _ (Ne.symm hpy)]; exact hy2
        have hnd3 := nodup_mput (k := o.key) (v := o.v) hnd
        have hag3 : ∀ k, getK k (updK o.key o.v A) = getK k (mput o.key o.v W) := fun k => by rw [getK_upd hsA, getK_mput, hag]
        have hlen3 : (updK o.key o.v A).length ≤ i + 1 := by have := length_upd o.key o.v A; omega
        have hth3 : (getK o.key (updK o.key o.v A)).isSome = decide (bit = 0) := by rw [getK_upd hsA, if_pos rfl, hz]; rfl
        have hd3 : getK o.key (updK o.key o.v A) = none → (0 : Int) = 0 := fun _ => rfl
        generalize H2.set pm (some (.map (entsA encInt (mput o.key o.v W)))) = H3 at *
        generalize updK o.key o.v A = A3 at *
        generalize mput o.key o.v W = W3 at *
      case' uns =>
        simp [t4, t0, t6, hi, hyy, tk3, hk3, g5]
        refine CallK.of (k_vUnset hVy (by omega) o.key) ?_
        rintro _ H2 ⟨rfl, F2, v2, u2⟩
        have hB2 : H2 pm = some (.map (entsA encInt W)) := by rw [u2.1 pm hFm (by rw [hBy]; simp)]; exact hBy
        have hy2 : H2 y = some (.cells (k3 o.key) 3) := by rw [u2.1 y hFy (by rw [hyy]; simp)]; exact hyy
        have hF2 : ¬ F2 pm := fun e => (u2.2 pm e).elim hFm (by rw [hBy]; simp)
        have hFy2 : ¬ F2 y := fun e => (u2.2 y e).elim hFy (by rw [hyy]; simp)
        rw [hag]
        simp [t5, t4, t0, t6, hi, hy2, tk3, hk3, g5, hB2, s_Mdel (find_ents o.key W), mdel_ents]
        have hV3 := v2.keep (H' := H2.set pm (some (.map (entsA encInt (mcut o.key W))))) fun x hx => Heap.set_ne _ _ (fun e => hF2 (by rw [← e]; exact hx))
        have hB3 : (H2.set pm (some (.map (entsA encInt (mcut o.key W))))) pm = some (.map (entsA encInt (mcut o.key W))) := Heap.set_self _ _ _
        have hy3 : (H2.set pm (some (.map (entsA encInt (mcut o.key W))))) y = some (.cells (k3 o.key) 3) := by rw [Heap.set_ne _ _ (Ne.symm hpy)]; exact hy2
        have hnd3 := nodup_mcut (k := o.key) hnd
        have hag3 : ∀ k, getK k (cutK o.key A) = getK k (mcut o.key W) := fun k => by rw [getK_cut hsA, getK_mcut _ _ _ hnd, hag]
        have hlen3 : (cutK o.key A).length ≤ i + 1 := by have := length_cut o.key A; omega
        have hth3 : (getK o.key (cutK o.key A)).isSome = decide (bit = 0) := by rw [getK_cut hsA, if_pos rfl]; simp [hz]
        generalize H2.set pm (some (.map (entsA encInt (mcut o.key W)))) = H3 at *
        generalize cutK o.key A = A3 at *
        generalize mcut o.key W = W3 at *
      all_goals
        have hs3 : SortedK A3 := by obtain ⟨_, _, _, _, h, _⟩ := hV3; exact h
        have hll : A3.length = W3.length := same_length (sortedK_nodup hs3) hnd3 fun k => by rw [hag3]
        refine CallK.of (k_keysV hV3 (by omega)) ?_
        rintro _ H4 ⟨rfl, rfl⟩
        have hris := keys_ris hs3
        have hmemK : ∀ x, x ∈ A3.map (·.1) → (getK x A3).isSome = true := fun x hx => some_ne.2 ((getK_mem x A3).2 hx)
        have hKl : (A3.map (·.1)).length = A3.length := List.length_map _
        obtain ⟨KS, hKS⟩ : ∃ KS, KS = A3.map (·.1) := ⟨_, rfl⟩
        rw [← hKS] at hris hmemK hKl ⊢
        have hKW : KS.length = W3.length := by omega
        simp [keysI, t5, t4, t0, t6, hB3, ents_length, hKW]
        rw [← hKW]
        refine CallK.pure (p_rising hris (by omega)) ?_
        rintro _ rfl
        simp
        refine LoopV.mk2 (I_vb os i p pm y KS o.key A3 W3 F2) KS.length ⟨0, by omega, by simp [t0, hXe], by simp [t4], by simp [t5], by simp [t6], by simp, by simp, by simp, by simp, hV3, hB3, hy3⟩ ?_
        rintro m2 T2 H5 ⟨j, hjm, q0, q4, q5, q6, q7, q86, q87, q88, hV5, hB5, hy5⟩
        rw [hXe] at q0
        by_cases hj : j < KS.length
        · obtain ⟨x, hx⟩ : ∃ x, KS[j]? = some x := ⟨KS[j], by simp [hj]⟩
          obtain ⟨a1, a2⟩ := k3_at hx
          have hx3 : (k3 x).length = 3 := rfl
          have hxone : ∀ z, z ∈ k3 x → z.one = true := fun z hz => List.all_eq_true.1 (show (k3 x).all AV.one = true from rfl) z hz
          have hxm := hmemK x (List.mem_of_getElem? hx)
          generalize hKe : KS.flatMap k3 = K at *
          simp [q0, q4, q5, q6, q7, q86, q87, q88, hj, a1, a2]
          intro z hz5
          have holdz : ∀ w, H5 w ≠ none → (H5.set z (some (.cells (k3 x) 3))) w = H5 w := fun w hw => Heap.set_ne _ _ (fun e => hw (by rw [e]; exact hz5))
          simp [q4, q5, Heap.set_self, Heap.set_set, hx3]
          refine ⟨hxone, ?_⟩
          have hV6 := hV5.keep (H' := H5.set z (some (.cells (k3 x) 3))) fun w hw => holdz w (hV5.live hw)
          have hB6 : (H5.set z (some (.cells (k3 x) 3))) pm = some (.map (entsA encInt W3)) := by rw [holdz pm (by rw [hB5]; simp)]; exact hB5
          have hy6 : (H5.set z (some (.cells (k3 x) 3))) y = some (.cells (k3 o.key) 3) := by rw [holdz y (by rw [hy5]; simp)]; exact hy5
          have hz6 : (H5.set z (some (.cells (k3 x) 3))) z = some (.cells (k3 x) 3) := Heap.set_self _ _ _
          generalize H5.set z (some (.cells (k3 x) 3)) = H6 at *
          simp [q4, q5, hz6, tk3, hx3]
          refine CallK.of (k_vValue hV6 (by omega) x) ?_
          rintro _ H7 ⟨rfl, rfl⟩
          rw [hag3, ← hag3 x] at hxm
          rw [hag3] at hxm ⊢
          simp [q4, q5, q88, hz6, tk3, hx3, hB6, find_ents, lkp_ents, hxm]
          refine Again2.mk (m2 - 1) (by omega) ⟨j + 1, by omega, by simp [q0, hXe], by simp [q4], by simp [q5], by simp [q6], by simp [q7], by simp [q86, hKe], by simp [q87], ?_, hV6, hB6, hy6⟩
          simp; rw [wrap_i64 (by omega) (by omega)]
        · simp [q0, q4, q5, q6, q7, q86, q87, q88, hj, hy5, tk3, hk3]
          refine CallK.of (k_vValue hV5 (by omega) o.key) ?_
          rintro _ H7 ⟨rfl, rfl⟩
          have h01 : bit = 0 ∨ ¬ bit = 0 := Classical.em _
          rw [hth3]
          have hd0 : ¬ bit = 0 → (getK o.key A3).getD 0 = 0 := fun hb => by
            have : (getK o.key A3).isSome = false := by rw [hth3]; simp [hb]
            cases hg : getK o.key A3 with
            | none => rfl
            | some n => rw [hg] at this; cases this
          generalize (getK o.key A3).getD 0 = d at *
          simp [q0, q6, hi, g0, hbe]
          refine ⟨hd0, fun _ => Again2.mk (m - 1) (by omega) ⟨i + 1, p, pm, A3, W3, F2, by omega, by omega, by simp [q0, hXe], by simp [q4], by simp [q5], ?_, hV5, hB5, hF2, hnd3, hag3, hlen3⟩⟩
          simp; rw [wrap_i64 (by omega) (by omega)]
    · have : i = 50 := by omega
      subst this
      simp [t0, t4, t5, t6, hi]
  · simp [t0, t4, t5, t6, hi]
end Go.Proofs.YtcpfodhhjkaibaaGreat
