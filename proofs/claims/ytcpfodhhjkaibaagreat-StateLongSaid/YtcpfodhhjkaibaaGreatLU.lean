/- Stores: what they hold; bytes that may be the caller's own row. -/
import Derived.Test.YtcpfodhhjkaibaaGreatLS
import Derived.Test.YtcpfodhhjkaibaaGreatKZ
set_option linter.unusedVariables false
set_option linter.unusedSimpArgs false
set_option maxRecDepth 100000
set_option maxHeartbeats 4000000
namespace Go.Proofs.YtcpfodhhjkaibaaGreat
open Go.Sf
attribute [local simp] s_skip s_ops s_draw s_any s_contA s_tdone s_ttwo s_top_p s_top_pick s_top_e s_top_g s_seq s_cond s_block s_loop s_exit s_ret s_mark s_then_n s_then_e s_then_r s_in_n s_in_e s_in_r s_contC s_contO s_contQ s_contT s_nil s_cons_p s_cons_pick s_cons_e s_cons_g s_qnil s_qcons_p s_qcons_pick s_qcons_e s_qcons_g s_M s_Mg s_Mq s_Mqg s_G_p s_G_pick s_G_e s_Gq_p s_Gq_pick s_Gq_e s_if s_call s_callv s_qcall s_qcallv s_getAll_nil s_getAll_cons s_put_some s_put_none s_ev_t s_ev_c s_ev_f un evP evK argT resAV lenOf_nils lenOf_imm lenOf_sl lenOf_str optI slcV binV isShift binInt binStr shiftInt pickV unV s_append s_alloc s_box s_bslice s_Bs_t s_Bs_f s_store1 s_storeN s_St1 s_St s_s2b s_markb s_Mk s_mkslice s_qbslice s_qs2b s_ret_n s_ret_r s_retc_n s_retc_r s_RV_nil s_RV_t s_RV_c s_RV1 tupOf fillC kn_int cl_int on_int kn_bool cl_bool on_bool kn_str cl_str on_str kn_nilp cl_nilp on_nilp kn_ptr cl_ptr on_ptr kn_iptr cl_iptr on_iptr kn_nils cl_nils on_nils kn_sl cl_sl on_sl kn_imm cl_imm on_imm kn_mp cl_mp on_mp kn_nilm cl_nilm on_nilm kn_fn cl_fn on_fn kn_nilf cl_nilf on_nilf kn_agg cl_agg scalEq flatEq eqV s_copy_i s_copy_s s_Cp s_clr s_clrn s_Cl s_appz s_Az s_ext s_Ov s_mapB s_mapBS s_rng s_rngn s_Rn s_nxt s_Nx0 s_ent s_mkmap s_mset s_mdel mapOf s_Mg_n s_Mqg_n s_gw_b s_gw_u s_gw_gb s_gw_f
theorem CC.back {P : Program} {f : FuncId} {args : List AV} {H0 : Heap} {Q : AV → Prop} (h : CC P f args H0 fun r H' => (∀ x, H0 x ≠ none → H' x = H0 x) ∧ Q r) : CC P f args H0 fun r H' => H' = H0 ∧ Q r :=
  h.forget fun v H' ⟨h1, h2⟩ => ⟨H0, fun b => by
    cases hb : H0 b with
    | none => exact .inr rfl
    | some x => exact .inl (by rw [← hb, h1 b (by rw [hb]; simp)]), rfl, h2⟩
theorem totL_take (A : FileL) {i : Nat} {p : ByteArray × List UInt8} (h : A[i]? = some p) : totL (A.take (i + 1)) = totL (A.take i) + p.2.length := by
  rw [List.take_add_one, h, totL_append]; rfl
theorem totL_take_le (A : FileL) (i : Nat) : totL (A.take i) ≤ totL A := by
  have := totL_append (A.take i) (A.drop i)
  rw [List.take_append_drop] at this; omega
def I_used (H0 : Heap) (v : AV) (A : FileL) (k : Nat) (T : Nat → AV) (H : Heap) : Prop :=
  ∃ (i : Nat), k + i = A.length ∧ T 11 = v ∧ T 12 = .int .i64 A.length ∧ T 13 = .int .i64 i ∧ T 3 = .int .i64 (totL (A.take i)) ∧ ∀ x, H0 x ≠ none → H x = H0 x
theorem k_used {H0 : Heap} {s : Nat} {v : AV} {A : FileL} {room : Int} (hS : StoreQ H0 s v A room) (hl : A.length < 2 ^ 30) (ht : totL A ≤ 2 ^ 40) :
    CC PP F_store_Store_Used [.ptr s 0] H0 fun r H' => H' = H0 ∧ r = .int .i64 (totL A) := by
  refine CC.back ?_
  obtain ⟨hs, ⟨cs, ho, hO⟩, ne⟩ := hS
  refine CC.by_vc ok_store_Store_Used (by simp) ?_
  unfold c_store_Store_Used
  obtain ⟨hcl, ⟨rfl, hA0⟩ | ⟨b, c, rfl, hb, hc⟩⟩ := ho
  · have hA1 : A = [] := List.length_eq_zero_iff.1 hA0
    subst hA1
    simp [hs]
    refine LoopV.mk2 (I_used H0 .nils []) 0 ⟨0, rfl, by simp, by simp, by simp, by simp [totL], fun _ _ => rfl⟩ ?_
    rintro k T H ⟨i, hk, t11, t12, t13, t3, hold⟩
    have hi : i = 0 := by simp at hk; omega
    subst hi
    simp [t11, t12, t13, t3, totL] at *
    exact hold
  · simp [hs]
    refine LoopV.mk2 (I_used H0 (.sl b 0 A.length c) A) A.length ⟨0, by omega, by simp, by simp, by simp, by simp [totL], fun _ _ => rfl⟩ ?_
    rintro k T H ⟨i, hk, t11, t12, t13, t3, hold⟩
    by_cases hk0 : k = 0
    · subst hk0
      obtain rfl : i = A.length := by omega
      rw [List.take_length] at t3
      simp [t11, t12, t13, t3]
      exact hold
    · have hi : i < A.length := by omega
      have hai : A[i]? = some A[i] := by simp [hi]
      obtain ⟨u, hc1, hc2, hc3⟩ := hO.at hai
      have htt := totL_take A hai
      have hle := totL_take_le A (i + 1)
      generalize A[i] = p at *
      have hbH : H b = some (.cells cs (c * 2)) := by rw [hold b (by rw [hb]; simp)]; exact hb
      simp [t11, t12, t13, t3, hi, hbH, hc1, hc3]
      intro y hy
      have hyn : ∀ x, H0 x ≠ none → x ≠ y := fun x hx h => by rw [← h, hold x hx] at hy; exact hx hy
      have w : IntKind.i64.wrap ((totL (A.take i) : Int) + (p.2.length : Int)) = ((totL (A.take (i + 1)) : Nat) : Int) := by rw [wrap_i64 (by omega) (by omega)]; omega
      have back : ∀ (T' : Nat → AV) (H' : Heap), T' 11 = T 11 → T' 12 = T 12 → T' 13 = .int .i64 (IntKind.i64.wrap ((i : Int) + 1)) → T' 3 = .int .i64 (totL (A.take (i + 1)) : Nat) → (∀ x, x ≠ y → H' x = H x) → Again2 (I_used H0 (.sl b 0 A.length c) A) k ⟨T', H'⟩ := fun T' H' q11 q12 q13 q3 qh =>
        Again2.mk (k - 1) (by omega) ⟨i + 1, by omega, by rw [q11]; exact t11, by rw [q12]; exact t12, by rw [q13, wrap_i64 (by omega) (by omega)]; rfl, q3, fun x hx => by rw [qh x (hyn x hx)]; exact hold x hx⟩
      rcases hc2 with ⟨rfl, hp⟩ | ⟨cu, rfl⟩
      · rw [hp] at w
        simp at w
        simp [Heap.set_self, t3, t13, w]
        refine back _ _ ?_ ?_ ?_ ?_ ?_
        · simp
        · simp
        · simp
        · simp
        · intro x hx
          rw [Heap.set_ne _ _ hx, Heap.set_ne _ _ hx]
      · simp [Heap.set_self, t3, t13, immB, w]
        refine back _ _ ?_ ?_ ?_ ?_ ?_
        · simp
        · simp
        · simp
        · simp
        · intro x hx
          rw [Heap.set_ne _ _ hx, Heap.set_ne _ _ hx]
/-- Bytes that are handed on: held for good, or a row of the caller's own. -/
def BArg (H : Heap) (b : AV) (l : List UInt8) : Prop := IsB b l ∨ ∃ x c, b = .sl x 0 l.length c ∧ H x = some (.cells (bytesV l) c)
theorem k_cloneA {H : Heap} {b : AV} {l : List UInt8} (hb : BArg H b l) (hl : l.length ≤ 2 ^ 40) : CC PP F_slices_Clone_byte_byte [b] H fun v H' => H' = H ∧ IsB v l := by
  rcases hb with hb | ⟨x, c, rfl, hx⟩
  · exact CP.use (p_clone hb hl) fun v hv => ⟨rfl, hv⟩
  · have hcells : cellsOf H 1 (.sl x 0 l.length c) = some (bytesV l) := by
      simp only [cellsOf, hx]
      by_cases h0 : l.length = 0
      · rw [if_pos h0, List.length_eq_zero_iff.1 h0]; rfl
      · rw [if_neg h0, if_pos (by rw [bytesV_length]; omega), List.drop_zero, List.take_of_length_le (by rw [bytesV_length]; omega)]
    refine CC.back (Q := fun v => IsB v l) ?_
    refine CC.by_vc ok_slices_Clone_byte_byte (by simp) ?_
    unfold c_slices_Clone_byte_byte
    simp
    refine vcAp_hold (n := 0) (cs := []) (.inr ⟨rfl, rfl⟩) hcells rfl (bytesV_one _) (by omega) ?_
    intro H' hk
    simp
    exact ⟨fun y hy => hk y (by simp [blkOf]) hy, .inr ⟨none, by simp [immB]⟩⟩
/-- A copy that is the caller's own to write. -/
theorem k_cloneM {H : Heap} {b : AV} {l : List UInt8} (hb : BArg H b l) (hl : l.length ≤ 2 ^ 40) (hne : l ≠ []) : CC PP F_slices_Clone_byte_byte [b] H fun v H' => OwnR H' 1 l.length v (bytesV l) ∧ (∀ x, H x ≠ none → H' x = H x) ∧ ∀ x, blkOf v = some x → H x = none := by
  have hbn : bytesV l ≠ [] := by simpa [bytesV] using hne
  have hcells : cellsOf H 1 b = some (bytesV l) := by
    rcases hb with hb | ⟨x, c, rfl, hx⟩
    · exact hb.cells H
    · simp only [cellsOf, hx]
      by_cases h0 : l.length = 0
      · rw [if_pos h0, List.length_eq_zero_iff.1 h0]; rfl
      · rw [if_neg h0, if_pos (by rw [bytesV_length]; omega), List.drop_zero, List.take_of_length_le (by rw [bytesV_length]; omega)]
  have hlen : lenOf b = some l.length := by
    rcases hb with hb | ⟨x, c, rfl, hx⟩
    · exact hb.len
    · rfl
  refine CC.by_vc ok_slices_Clone_byte_byteM (by simp) ?_
  unfold c_slices_Clone_byte_byteM
  have fin : ∀ (K : AS → Prop) (d : Option Nat) (T : Nat → AV), (∀ v H', OwnR H' 1 l.length v (bytesV l) → (∀ x, H x ≠ none → H' x = H x) → (∀ x, blkOf v = some x → H x = none) → K ⟨put T d v, H'⟩) → vcAp false 1 1 (appOld H 1 (.imm [] 0 (some 0))) (cellsOf H 1 b) (some 0) (lenOf b) (.imm [] 0 (some 0)) d T H K := fun K d T h =>
    vcAp_row (n := 0) (cs := []) (.inr ⟨rfl, rfl⟩) hcells hlen (by rw [bytesV_length]; omega) (by omega) (bytesV_one _) (by omega) (.inl hbn) fun v' H' h1 h2 h3 => h v' H' (by simpa using h1) (fun x hx => h2 x (by simp [blkOf]) hx) (fun x hx => by
      rcases h3 x hx with h | h
      · exact h
      · simp [blkOf] at h)
  rcases hb with (⟨rfl, h0⟩ | ⟨c, rfl⟩) | ⟨x, c, rfl, hx⟩
  · exact absurd h0 hne
  · obtain ⟨y, r, rfl⟩ : ∃ y r, l = y :: r := by cases l with | nil => exact absurd rfl hne | cons y r => exact ⟨y, r, rfl⟩
    simp [immB]
    refine fin _ _ _ fun v H' h1 h2 h3 => ?_
    simp [h1.un]
    exact ⟨h1, h2, h3⟩
  · simp
    refine fin _ _ _ fun v H' h1 h2 h3 => ?_
    simp [h1.un]
    exact ⟨h1, h2, h3⟩
end Go.Proofs.YtcpfodhhjkaibaaGreat
