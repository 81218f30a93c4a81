/- Changes one behind the other: read back as they were. -/
import Derived.Test.YtffifddlooligaaC5
import Derived.Test.YtffifddlooligaaLX
import Derived.Test.YtffifddlooligaaL3
import Derived.Test.YtffifddlooligaaLM
import Derived.Test.YtffifddlooligaaLQ
set_option linter.unusedVariables false
set_option linter.unusedSimpArgs false
set_option maxRecDepth 100000
set_option maxHeartbeats 4000000
namespace Go.Proofs.Ytffifddlooligaa
open Go.Sf
attribute [local simp] s_skip s_ops s_draw s_any s_contA s_tdone s_ttwo s_top_p s_top_pick s_top_e s_top_g s_seq s_cond s_block s_loop s_exit s_ret s_mark s_then_n s_then_e s_then_r s_in_n s_in_e s_in_r s_contC s_contO s_contQ s_contT s_nil s_cons_p s_cons_pick s_cons_e s_cons_g s_qnil s_qcons_p s_qcons_pick s_qcons_e s_qcons_g s_M s_Mg s_Mq s_Mqg s_G_p s_G_pick s_G_e s_Gq_p s_Gq_pick s_Gq_e s_if s_call s_callv s_qcall s_qcallv s_getAll_nil s_getAll_cons s_put_some s_put_none s_ev_t s_ev_c s_ev_f un evP evK argT resAV lenOf_nils lenOf_imm lenOf_sl lenOf_str optI slcV binV isShift binInt binStr shiftInt pickV unV s_append s_alloc s_box s_bslice s_Bs_t s_Bs_f s_store1 s_storeN s_St1 s_St s_s2b s_markb s_Mk s_mkslice s_qbslice s_qs2b s_ret_n s_ret_r s_retc_n s_retc_r s_RV_nil s_RV_t s_RV_c s_RV1 tupOf fillC kn_int cl_int on_int kn_bool cl_bool on_bool kn_str cl_str on_str kn_nilp cl_nilp on_nilp kn_ptr cl_ptr on_ptr kn_iptr cl_iptr on_iptr kn_nils cl_nils on_nils kn_sl cl_sl on_sl kn_imm cl_imm on_imm kn_mp cl_mp on_mp kn_nilm cl_nilm on_nilm kn_fn cl_fn on_fn kn_nilf cl_nilf on_nilf kn_agg cl_agg scalEq flatEq eqV s_copy_i s_copy_s s_Cp s_clr s_clrn s_Cl s_appz s_Az s_ext s_Ov s_mkmap s_mset s_mdel mapOf s_Mg_n s_Mqg_n s_gw_b s_gw_u s_gw_gb s_gw_f
theorem immB_drop (l : List UInt8) (n : Nat) (c : Option Nat) : AV.imm (List.take (l.length - n) (List.drop n (bytesV l))) (l.length - n) c = immB (l.drop n) c := by
  rw [List.take_of_length_le (by simp [bytesV_length])]
  simp [immB, bytesV_drop]
def immM (ms : List MutT) (c : Option Nat) : AV := .imm (ms.flatMap mutCs) ms.length c
theorem immM_is (ms : List MutT) (c : Option Nat) : IsMM (immM ms c) ms := .inr ⟨c, rfl⟩
theorem immM_one (m : MutT) (c : Option Nat) : IsMM (.imm (mutCs m) 1 c) [m] := .inr ⟨c, by simp⟩
def mayL (ms : List MutT) (i : Nat) : List MutT := (ms.take i).filter mayM
theorem mayL_succ {ms : List MutT} {i : Nat} {m : MutT} (h : ms[i]? = some m) : mayL ms (i + 1) = mayL ms i ++ (if mayM m then [m] else []) := by
  unfold mayL
  rw [List.take_add_one, h, Option.toList_some, List.filter_append]
  cases hm : mayM m <;> simp [List.filter_cons, hm]
theorem mayL_len (ms : List MutT) (i : Nat) : (mayL ms i).length ≤ i := by
  unfold mayL
  have := List.length_filter_le mayM (ms.take i)
  have h2 : (ms.take i).length ≤ i := by simp; omega
  omega
theorem putM_all {L : List MutT} (h : ∀ m ∈ L, mayM m = true) : putM L = L.flatMap encM := by
  unfold putM; rw [List.filter_eq_self.2 h]
def I_e1 (ms : List MutT) (k : Nat) (T : Nat → AV) (H : Heap) : Prop :=
  ∃ (i : Nat) (v : AV), k + i = min ms.length 15 ∧ T 0 = immM ms none ∧ T 4 = v ∧ T 5 = .int .i64 i ∧ OwnR H 6 (mayL ms i).length v ((mayL ms i).flatMap mutCs)
def I_e2 (L : List MutT) (a : AV) (k : Nat) (T : Nat → AV) (H : Heap) : Prop :=
  ∃ (i : Nat) (v : AV), k + i = L.length ∧ T 4 = immM L none ∧ T 6 = a ∧ T 41 = .int .i64 L.length ∧ T 42 = .int .i64 i ∧ T 7 = v ∧ IsB v (putM (L.take i))
def I_e3 (L : List MutT) (k : Nat) (T : Nat → AV) (H : Heap) : Prop :=
  ∃ (i : Nat), k + i = L.length ∧ T 4 = immM L none ∧ T 58 = .int .i64 L.length ∧ T 59 = .int .i64 i ∧ T 6 = immB (putM (L.drop i)) none
theorem p_MutOrder (ms : List MutT) (hl : ms.length < 2 ^ 63) (hok : ∀ m ∈ ms, okM m) : CP PP F_Rlaw1_MutOrder [.imm (ms.flatMap mutCs) ms.length none] (fun v => v = .bool true) := by
  refine CP.by_vc ok_Rlaw1_MutOrder (by simp) ?_
  unfold c_Rlaw1_MutOrder
  simp
  refine CallK.pure p_begun ?_
  rintro _ rfl
  simp
  refine LoopV.mk2 (I_e1 ms) (min ms.length 15) ⟨0, .nils, by omega, by simp [immM], by simp, by simp, ⟨by simp [mayL], .inl ⟨rfl, by simp [mayL]⟩⟩⟩ ?_
  rintro k T H ⟨i, v, hk, t0, t4, t5, ho⟩
  have hcs := mutCs_at ms
  have hlen := mutCs_len ms
  by_cases hk0 : k = 0
  rotate_left
  · have hi : i < ms.length := by omega
    have hmi : ms[i]? = some ms[i] := by simp [hi]
    obtain ⟨hc1, hc2⟩ := hcs i ms[i] hmi
    have hsu := mayL_succ hmi
    have hll := mayL_len ms i
    have hb15 : (i : Int) < 15 := by omega
    have hbl : (i : Int) < ms.length := by omega
    generalize hm : ms[i] = m at *
    have back : ∀ (T' : Nat → AV) (H' : Heap) (v' : AV), T' 0 = T 0 → T' 4 = v' → T' 5 = .int .i64 (IntKind.i64.wrap ((i : Int) + 1)) → OwnR H' 6 (mayL ms (i + 1)).length v' ((mayL ms (i + 1)).flatMap mutCs) → Again2 (I_e1 ms) k ⟨T', H'⟩ := fun T' H' v' q0 q4 q5 qo =>
      Again2.mk (k - 1) (by omega) ⟨i + 1, v', by omega, by rw [q0]; exact t0, q4, by rw [q5, wrap_i64 (by omega) (by omega)]; rfl, qo⟩
    simp only [immM] at t0
    clear hcs hlen
    generalize ms.flatMap mutCs = cs at *
    simp [t0, t4, t5, hbl, hb15, hc1, hc2, ho.un]
    refine CallK.pure (p_rMayMut m) ?_
    rintro _ rfl
    cases hM : mayM m with
    | false =>
      rw [hM] at hsu
      simp [hM, t5]
      refine back _ _ v (by simp) (by simp [t4]) (by simp) ?_
      rw [hsu]; simpa using ho
    | true =>
      rw [hM, if_pos rfl] at hsu
      simp [hM, t0, t4, t5, hc1, hc2, ho.un, mutCs, hi]
      refine vcAp_row (x := .imm (mutCs m) 1 (some 1)) (.inl ho) (new := mutCs m) (m := 1) rfl rfl rfl (by omega) rfl (by omega) (.inl (by simp [mutCs])) ?_
      intro v' H' ho' _ _
      simp [t5, ho'.un]
      refine back _ _ v' (by simp) (by simp) (by simp) ?_
      rw [hsu, List.length_append, List.flatMap_append]
      simpa using ho'
  subst hk0
  obtain rfl : i = min ms.length 15 := by omega
  have hLl := mayL_len ms (min ms.length 15)
  have hLM : ∀ m ∈ mayL ms (min ms.length 15), mayM m = true := fun m hm => (List.mem_filter.1 hm).2
  have hLo : ∀ m ∈ mayL ms (min ms.length 15), okM m := fun m hm => hok m (List.mem_of_mem_take (List.mem_filter.1 hm).1)
  have hout : ¬ ((((min ms.length 15 : Nat) : Int) < ms.length) ∧ ((min ms.length 15 : Nat) : Int) < 15) := by omega
  have hi15 : min ms.length 15 ≤ 15 := Nat.min_le_right _ _
  generalize mayL ms (min ms.length 15) = L at *
  generalize min ms.length 15 = i at *
  simp only [immM] at t0
  refine (have tail : ∀ (T : Nat → AV) (H : Heap), T 4 = v → OwnR H 6 L.length v (L.flatMap mutCs) → MarkV ?R ⟨T, H⟩ ?Q := ?tl
    ?main)
  case main =>
    by_cases hx : (i : Int) < ms.length
    · have hx2 : ¬ (i : Int) < 15 := fun h => hout ⟨hx, h⟩
      simp [t0, t4, t5, hx, hx2]
      refine tail _ _ ?_ ho
      simp [t4]
    · simp [t0, t4, t5, hx]
      refine tail _ _ ?_ ho
      simp [t4]
  case tl =>
    clear t0 t4 t5 ho
    intro T H t4 ho
    refine MarkV.ownS 4 t4 ho ?_
    intro H1 _
    simp
    refine CallK.pure (CP.imm (p_mutPut (a := .nils) (l := []) .nil (immM_is L none) hLo (by simp; omega))) ?_
    rintro _ rfl
    simp [immB]
    refine LoopV.mk2 (I_e2 L (immB (putM L) none)) L.length ⟨0, .nils, by omega, by simp [immM], by simp [immB], by simp, by simp, by simp, by simpa [putM] using IsB.nil⟩ ?_
    clear t4 ho
    rintro k T H ⟨j, v, hk, t4, t6, t41, t42, t7, hv⟩
    by_cases hk0 : k = 0
    rotate_left
    · have hj : j < L.length := by omega
      have hmj : L[j]? = some L[j] := by simp [hj]
      have hmm := hLo L[j] (by simp)
      have hmM := hLM L[j] (by simp)
      have hsu := putM_succ hmj
      have hpl := putM_le (L.take j) (fun m h => hLo m (List.mem_of_mem_take h))
      obtain ⟨hc1, hc2⟩ := mutCs_at L j _ hmj
      have h2 : (L.take j).length ≤ j := by simp; omega
      generalize L[j] = m at *
      rw [hmM, if_pos rfl] at hsu
      have back : ∀ (T' : Nat → AV) (H' : Heap) (v' : AV), T' 4 = T 4 → T' 6 = T 6 → T' 41 = T 41 → T' 42 = .int .i64 (IntKind.i64.wrap ((j : Int) + 1)) → T' 7 = v' → IsB v' (putM (L.take (j + 1))) → Again2 (I_e2 L (immB (putM L) none)) k ⟨T', H'⟩ := fun T' H' v' q4 q6 q41 q42 q7 qv =>
        Again2.mk (k - 1) (by omega) ⟨j + 1, v', by omega, by rw [q4]; exact t4, by rw [q6]; exact t6, by rw [q41]; exact t41, by rw [q42, wrap_i64 (by omega) (by omega)]; rfl, q7, qv⟩
      simp only [immM] at t4
      generalize L.flatMap mutCs = cs at *
      simp [t4, t6, t41, t42, t7, hj, hc1, hc2, hv.un, mutCs]
      refine CallK.pure (p_mutPut hv (immM_one m (some 1)) (fun x hx => by simp at hx; rw [hx]; exact hmm) (by simp; omega)) ?_
      intro v' hv'
      simp [t42, hv'.un]
      refine back _ _ v' (by simp) (by simp) (by simp) (by simp) (by simp) ?_
      rw [hsu]
      simpa [putM, hmM] using hv'
    subst hk0
    obtain rfl : j = L.length := by omega
    rw [List.take_length] at hv
    simp [t41, t42, t6, t7, hv.un, immB]
    refine CallK.pure (p_same (l := putM L) (m := putM L) (.inr ⟨none, rfl⟩) hv) ?_
    rintro _ rfl
    have t4' := t4
    simp only [immM] at t4
    simp [t4]
    refine LoopV.mk2 (I_e3 L) L.length ⟨0, by omega, by simp [t4, immM], by simp, by simp, by simp [t6]⟩ ?_
    clear t4 t4' t6 t41 t42 t7 hv
    rintro k T H ⟨j, hk, t4, t58, t59, t6⟩
    by_cases hk0 : k = 0
    rotate_left
    · have hj : j < L.length := by omega
      have hmj : L[j]? = some L[j] := by simp [hj]
      have hmm := hLo L[j] (by simp)
      have hmM := hLM L[j] (by simp)
      have hpl := putM_le L hLo
      have hdr : putM (L.drop j) = encM L[j] ++ putM (L.drop (j + 1)) := by
        rw [putM_all (fun m hm => hLM m (List.mem_of_mem_drop hm)), putM_all (fun m hm => hLM m (List.mem_of_mem_drop hm)), List.drop_eq_getElem_cons hj]; rfl
      have hpd : (putM (L.drop j)).length ≤ 60 * L.length := by
        have := putM_le (L.drop j) (fun m h => hLo m (List.mem_of_mem_drop h))
        rw [List.length_drop] at this; omega
      have hge := getMut_enc L[j] hmm hmM (putM (L.drop (j + 1)))
      rw [← hdr] at hge
      have hel : (encM L[j]).length ≤ (putM (L.drop j)).length := by rw [hdr]; simp
      have hdd : (putM (L.drop j)).drop (encM L[j]).length = putM (L.drop (j + 1)) := by rw [hdr, List.drop_left]
      have hep : 1 ≤ (encM L[j]).length := by
        have := enc_ne L[j].k.toNat
        have h3 : 0 < (enc L[j].k.toNat).length := List.length_pos_iff.2 this
        unfold encM; simp only [List.length_append]; omega
      obtain ⟨hc1, hc2⟩ := mutCs_at L j _ hmj
      generalize L[j] = m at *
      have back : ∀ (T' : Nat → AV) (H' : Heap), T' 4 = T 4 → T' 58 = T 58 → T' 59 = .int .i64 (IntKind.i64.wrap ((j : Int) + 1)) → T' 6 = immB (putM (L.drop (j + 1))) none → Again2 (I_e3 L) k ⟨T', H'⟩ := fun T' H' q4 q58 q59 q6 =>
        Again2.mk (k - 1) (by omega) ⟨j + 1, by omega, by rw [q4]; exact t4, by rw [q58]; exact t58, by rw [q59, wrap_i64 (by omega) (by omega)]; rfl, q6⟩
      simp only [immM] at t4
      generalize L.flatMap mutCs = cs at *
      generalize putM (L.drop j) = pl at *
      simp [t6, t58, t59, hj, immB]
      refine CallK.pure (p_mutGet (l := pl) (.inr ⟨none, rfl⟩) (by omega)) ?_
      rintro _ rfl
      rw [hge]
      simp [mutCs]
      intro x hx
      simp [Heap.set_self, t4, t6, t58, t59, hj, hc1, hc2, mutCs, immB, hel, show ¬ pl.length < (encM m).length by omega, show ¬ (pl.length : Int) < (encM m).length by omega, show ¬ ((encM m).length : Int) < 1 by omega, show ¬ (encM m).length < 1 by omega]
      refine ⟨bytesV_length _, back _ _ (by simp) (by simp) (by simp) ?_⟩
      simp [immB_drop, hdd]
    subst hk0
    obtain rfl : j = L.length := by omega
    simp [t58, t59, t6, immB, putM]
end Go.Proofs.Ytffifddlooligaa
