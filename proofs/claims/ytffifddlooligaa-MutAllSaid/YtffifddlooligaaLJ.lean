/- Any change, written and read, or left out; any bytes. -/
import Derived.Test.YtffifddlooligaaC7
import Derived.Test.YtffifddlooligaaLX
import Derived.Test.YtffifddlooligaaLE
import Derived.Test.YtffifddlooligaaLP
import Derived.Test.YtffifddlooligaaLG
set_option linter.unusedVariables false
set_option linter.unusedSimpArgs false
set_option maxRecDepth 100000
set_option maxHeartbeats 4000000
namespace Go.Proofs.Ytffifddlooligaa
open Go.Sf
attribute [local simp] s_skip s_ops s_draw s_any s_contA s_tdone s_ttwo s_top_p s_top_pick s_top_e s_top_g s_seq s_cond s_block s_loop s_exit s_ret s_mark s_then_n s_then_e s_then_r s_in_n s_in_e s_in_r s_contC s_contO s_contQ s_contT s_nil s_cons_p s_cons_pick s_cons_e s_cons_g s_qnil s_qcons_p s_qcons_pick s_qcons_e s_qcons_g s_M s_Mg s_Mq s_Mqg s_G_p s_G_pick s_G_e s_Gq_p s_Gq_pick s_Gq_e s_if s_call s_callv s_qcall s_qcallv s_getAll_nil s_getAll_cons s_put_some s_put_none s_ev_t s_ev_c s_ev_f un evP evK argT resAV lenOf_nils lenOf_imm lenOf_sl lenOf_str optI slcV binV isShift binInt binStr shiftInt pickV unV s_append s_alloc s_box s_bslice s_Bs_t s_Bs_f s_store1 s_storeN s_St1 s_St s_s2b s_markb s_Mk s_mkslice s_qbslice s_qs2b s_ret_n s_ret_r s_retc_n s_retc_r s_RV_nil s_RV_t s_RV_c s_RV1 tupOf fillC kn_int cl_int on_int kn_bool cl_bool on_bool kn_str cl_str on_str kn_nilp cl_nilp on_nilp kn_ptr cl_ptr on_ptr kn_iptr cl_iptr on_iptr kn_nils cl_nils on_nils kn_sl cl_sl on_sl kn_imm cl_imm on_imm kn_mp cl_mp on_mp kn_nilm cl_nilm on_nilm kn_fn cl_fn on_fn kn_nilf cl_nilf on_nilf kn_agg cl_agg scalEq flatEq eqV s_copy_i s_copy_s s_Cp s_clr s_clrn s_Cl s_appz s_Az s_ext s_Ov s_mkmap s_mset s_mdel mapOf s_Mg_n s_Mqg_n s_gw_b s_gw_u s_gw_gb s_gw_f
def I_j1 (ms : List MutT) (at' : Int) (x : Nat) (raw : List UInt8) (k : Nat) (T : Nat → AV) (H : Heap) : Prop :=
  ∃ (i : Nat) (v u : AV), k + i = ms.length ∧ T 0 = immM ms none ∧ T 1 = .int .i64 at' ∧ T 2 = .int .u8 x ∧ T 3 = immB raw none ∧ T 10 = v ∧ T 11 = u ∧ T 40 = .int .i64 ms.length ∧ T 41 = .int .i64 i ∧
    OwnR H 1 (putM (ms.take i)).length v (bytesV (putM (ms.take i))) ∧ OwnR H 6 (mayL ms i).length u ((mayL ms i).flatMap mutCs) ∧ ∀ b, blkOf v = some b → blkOf u ≠ some b
def I_j2 (L : List MutT) (at' : Int) (x : Nat) (raw W : List UInt8) (k : Nat) (T : Nat → AV) (H : Heap) : Prop :=
  ∃ (i : Nat), k + i = L.length ∧ T 1 = .int .i64 at' ∧ T 2 = .int .u8 x ∧ T 3 = immB raw none ∧ T 10 = immB W none ∧ T 11 = immM L none ∧ T 87 = .int .i64 L.length ∧ T 88 = .int .i64 i ∧ T 14 = immB (putM (L.drop i)) none
def I_j3 (C : List (List UInt8)) (c : Option Nat) (k : Nat) (T : Nat → AV) (H : Heap) : Prop :=
  ∃ (i : Nat), k + i = C.length ∧ T 160 = .imm (bbV C) C.length c ∧ T 161 = .int .i64 C.length ∧ T 162 = .int .i64 i ∧ T 14 = immB [] none
theorem immM_take (ms : List MutT) (n : Nat) : AV.imm (List.take (min ms.length n * 6) (ms.flatMap mutCs)) (min ms.length n) none = immM (ms.take n) none := by
  have : (ms.take n).flatMap mutCs = (ms.flatMap mutCs).take (min ms.length n * 6) := by
    rw [← List.take_append_drop n ms]
    simp only [List.flatMap_append]
    have h1 : ((ms.take n).flatMap mutCs).length = min ms.length n * 6 := by rw [mutCs_len, List.length_take, Nat.min_comm]
    rw [List.take_append_drop, ← h1, List.take_left]
  unfold immM
  rw [this, List.length_take, Nat.min_comm n]
theorem putM_may (ms : List MutT) : putM (ms.filter mayM) = putM ms := by
  unfold putM; rw [List.filter_filter]; simp
theorem p_MutAll (ms0 : List MutT) (hl0 : ms0.length < 2 ^ 63) (hok0 : ∀ m ∈ ms0, okM m) (at' : Int) (ha0 : IntKind.i64.min ≤ at') (ha1 : at' ≤ IntKind.i64.max) (x : Nat) (hx : x < 256) (raw0 : List UInt8) (hraw : raw0.length < 2 ^ 63) :
    CP PP F_Rlaw1_MutAll [.imm (ms0.flatMap mutCs) ms0.length none, .int .i64 at', .int .u8 x, immB raw0 none] (fun v => v = .bool true) := by
  have ha0' : -9223372036854775808 ≤ at' := ha0
  have ha1' : at' ≤ 9223372036854775807 := ha1
  refine CP.by_vc ok_Rlaw1_MutAll (by simp) ?_
  unfold c_Rlaw1_MutAll
  simp
  refine CallK.pure p_begun ?_
  rintro _ rfl
  have hm : ∀ n : Nat, (if (8 : Int) < n then 8 else (n : Int)) = ((min n 8 : Nat) : Int) := fun n => by split <;> omega
  have hQ : ∀ K : AV → Prop, K (immB (raw0.take 20) none) → CallQ PP F_Rlaw1_Short [AV.imm (bytesV raw0) raw0.length none, AV.int .i64 20] K := fun K k =>
    CallQ.of (CP.imm (p_short (a := immB raw0 none) (.inr ⟨none, rfl⟩) 20 (by omega) hraw)) k
  have hmt := immM_take ms0 8
  have hlen0 := mutCs_len ms0
  have hml : min ms0.length 8 ≤ ms0.length := Nat.min_le_left _ _
  generalize ms0.flatMap mutCs = cs0 at *
  simp [hm, immB]
  refine ⟨⟨by omega, hlen0⟩, hQ _ ?_⟩
  rw [hmt]
  have hok : ∀ m ∈ ms0.take 8, okM m := fun m h => hok0 m (List.mem_of_mem_take h)
  have h8 : (ms0.take 8).length ≤ 8 := by simp; omega
  have hr20 : (raw0.take 20).length ≤ 20 := by simp; omega
  generalize ms0.take 8 = ms at *
  generalize raw0.take 20 = raw at *
  have hP := putM_le ms hok
  have hcs := mutCs_at ms
  simp [immM, immB]
  refine LoopV.mk2 (I_j1 ms at' x raw) ms.length ⟨0, .nils, .nils, by omega, by simp [immM], by simp, by simp, by simp [immB], by simp, by simp, by simp, by simp, ⟨by simp [putM, bytesV], .inl ⟨rfl, by simp [putM]⟩⟩, ⟨by simp [mayL], .inl ⟨rfl, by simp [mayL]⟩⟩, by simp [blkOf]⟩ ?_
  rintro k T H ⟨i, v, u, hk, t0, t1, t2, t3, t10, t11, t40, t41, ho, hu, hne⟩
  by_cases hk0 : k = 0
  rotate_left
  · have hi : i < ms.length := by omega
    have hmi : ms[i]? = some ms[i] := by simp [hi]
    obtain ⟨hc1, hc2⟩ := hcs i ms[i] hmi
    have hsu := mayL_succ hmi
    have hsp := putM_succ hmi
    have hll := mayL_len ms i
    have hpl := putM_le (ms.take i) (fun m h => hok m (List.mem_of_mem_take h))
    have htl : (ms.take i).length ≤ i := by simp; omega
    have hbl : (i : Int) < ms.length := by omega
    have hmo : okM ms[i] := hok _ (List.getElem_mem hi)
    generalize hm : ms[i] = m at *
    have back : ∀ (T' : Nat → AV) (H' : Heap) (v' u' : AV), T' 0 = T 0 → T' 1 = T 1 → T' 2 = T 2 → T' 3 = T 3 → T' 10 = v' → T' 11 = u' → T' 40 = T 40 → T' 41 = .int .i64 (IntKind.i64.wrap ((i : Int) + 1)) →
        OwnR H' 1 (putM (ms.take (i + 1))).length v' (bytesV (putM (ms.take (i + 1)))) → OwnR H' 6 (mayL ms (i + 1)).length u' ((mayL ms (i + 1)).flatMap mutCs) → (∀ b, blkOf v' = some b → blkOf u' ≠ some b) → Again2 (I_j1 ms at' x raw) k ⟨T', H'⟩ := fun T' H' v' u' q0 q1 q2 q3 q10 q11 q40 q41 qo qu qn =>
      Again2.mk (k - 1) (by omega) ⟨i + 1, v', u', by omega, by rw [q0]; exact t0, by rw [q1]; exact t1, by rw [q2]; exact t2, by rw [q3]; exact t3, q10, q11, by rw [q40]; exact t40, by rw [q41, wrap_i64 (by omega) (by omega)]; rfl, qo, qu, qn⟩
    simp only [immM] at t0
    clear hcs
    generalize ms.flatMap mutCs = cs at *
    simp [t0, t10, t11, t40, t41, hi, hbl, hc1, hc2, ho.un, hu.un]
    refine CallQ.of (p_may m) ?_
    simp [t0, t10, t11, t40, t41, hi, hbl, hc1, hc2]
    refine CallQ.of (p_rMayMut m) ?_
    simp [t0, t10, t11, t40, t41, hi, hbl, hc1, hc2]
    refine CallK.pure (p_rMayMut m) ?_
    rintro _ rfl
    cases hM : mayM m with
    | false =>
      rw [hM] at hsu hsp
      simp [hM, t41]
      refine back _ _ v u (by simp) (by simp) (by simp) (by simp) (by simp [t10]) (by simp [t11]) (by simp) (by simp) ?_ ?_ hne
      · rw [hsp]; simpa using ho
      · rw [hsu]; simpa using hu
    | true =>
      rw [hM, if_pos rfl] at hsu hsp
      have hel := encM_le m hmo hM
      simp [hM, t0, t10, t11, t41, hc1, hc2, ho.un, hi]
      refine CallK.pure (p_rMut m hmo hM) ?_
      rintro _ rfl
      have hnm : encM m ≠ [] := fun e => by
        have h3 : 0 < (enc m.k.toNat).length := List.length_pos_iff.2 (enc_ne _)
        have := congrArg List.length e
        unfold encM at this; simp only [List.length_append, List.length_nil] at this; omega
      simp [t10, ho.un, immB]
      refine vcAp_row (x := .imm (bytesV (encM m)) (encM m).length none) (.inl ho) (new := bytesV (encM m)) (m := (encM m).length) ((IsB.imm _ none).cells _) rfl (by rw [bytesV_length]; omega) (by omega) (bytesV_one _) (by omega) (.inl (by simp [bytesV, hnm])) ?_
      intro v' H1 ho1 hk1 hn1
      have hu1 : OwnR H1 6 (mayL ms i).length u ((mayL ms i).flatMap mutCs) := hu.keep hk1 (fun b hb h => hne b h hb)
      have hne1 : ∀ b, blkOf v' = some b → blkOf u ≠ some b := fun b hb hb2 => by
        rcases hn1 b hb with h | h
        · obtain ⟨c, q, hq⟩ := hu.blk_live hb2; rw [h] at hq; cases hq
        · exact hne b h hb2
      simp [t0, t11, t41, hc1, hc2, ho1.un, hu1.un, hi, mutCs]
      refine vcAp_row (x := .imm (mutCs m) 1 (some 1)) (.inl hu1) (new := mutCs m) (m := 1) rfl rfl rfl (by omega) rfl (by omega) (.inl (by simp [mutCs])) ?_
      intro u' H2 hu2 hk2 hn2
      have ho2 : OwnR H2 1 _ v' _ := ho1.keep hk2 (fun b hb h => hne1 b hb h)
      simp [t41, ho2.un, hu2.un]
      refine back _ _ v' u' (by simp) (by simp) (by simp) (by simp) (by simp) (by simp) (by simp) (by simp) ?_ ?_ ?_
      · rw [hsp, List.length_append, bytesV_append]; exact ho2
      · rw [hsu, List.length_append, List.flatMap_append]
        simpa using hu2
      · intro b hb hb2
        rcases hn2 b hb2 with h | h
        · obtain ⟨c, q, hq⟩ := ho1.blk_live hb; rw [h] at hq; cases hq
        · exact hne1 b hb h
  subst hk0
  obtain rfl : i = ms.length := by omega
  rw [List.take_length] at ho
  have hL1 : mayL ms ms.length = ms.filter mayM := by unfold mayL; rw [List.take_length]
  have hLl := mayL_len ms ms.length
  rw [hL1] at hu hLl
  have hLM : ∀ m ∈ ms.filter mayM, mayM m = true := fun m hm => (List.mem_filter.1 hm).2
  have hLo : ∀ m ∈ ms.filter mayM, okM m := fun m hm => hok m (List.mem_filter.1 hm).1
  have hLP := putM_may ms
  generalize ms.filter mayM = L at *
  simp [t40, t41]
  refine MarkV.own2 10 11 (by omega) t10 ho t11 hu hne ?_
  intro H1
  simp [t0, t3, immM, immB]
  refine CallK.pure (CP.imm (p_mutPut (a := immB raw none) (l := raw) (.inr ⟨none, rfl⟩) (immM_is ms none) hok (by omega))) ?_
  rintro _ rfl
  simp [t3, immB]
  refine app_row (IsB.imm raw none) (by omega) ?_
  intro v1 H2 ho1 _
  simp [ho1.un]
  refine app_hold (l := raw) (m := putM ms) ho1 (IsB.imm (putM ms) none) (by omega) ?_
  intro H3 _
  simp [immB]
  refine CallK.pure (p_same (l := raw ++ putM ms) (m := raw ++ putM ms) (.inr ⟨none, by simp [immB]⟩) (.inr ⟨none, by simp [immB]⟩)) ?_
  rintro _ rfl
  simp
  refine LoopV.mk2 (I_j2 L at' x raw (putM ms)) L.length ⟨0, by omega, by simp [t1], by simp [t2], by simp [t3], by simp [immB], by simp [immM], by simp, by simp, by simp [immB, hLP]⟩ ?_
  clear t0 t1 t2 t3 t10 t11 t40 t41 ho hu hne ho1
  rintro k T H ⟨j, hk, t1, t2, t3, t10, t11, t87, t88, t14⟩
  by_cases hk0 : k = 0
  rotate_left
  · have hj : j < L.length := by omega
    have hmj : L[j]? = some L[j] := by simp [hj]
    have hmm := hLo L[j] (by simp)
    have hmM := hLM L[j] (by simp)
    have hdr : putM (L.drop j) = encM L[j] ++ putM (L.drop (j + 1)) := by
      rw [putM_all (fun m hm => hLM m (List.mem_of_mem_drop hm)), putM_all (fun m hm => hLM m (List.mem_of_mem_drop hm)), List.drop_eq_getElem_cons hj]; rfl
    have hpd : (putM (L.drop j)).length ≤ 60 * L.length := by
      have := putM_le (L.drop j) (fun m h => hLo m (List.mem_of_mem_drop h))
      rw [List.length_drop] at this; omega
    have hge := getMut_enc L[j] hmm hmM (putM (L.drop (j + 1)))
    rw [← hdr] at hge
    have hel : (encM L[j]).length ≤ (putM (L.drop j)).length := by rw [hdr]; simp
    have hdd : (putM (L.drop j)).drop (encM L[j]).length = putM (L.drop (j + 1)) := by rw [hdr, List.drop_left]
    have hep : 1 ≤ (encM L[j]).length := by
      have := enc_ne L[j].k.toNat
      have h3 : 0 < (enc L[j].k.toNat).length := List.length_pos_iff.2 this
      unfold encM; simp only [List.length_append]; omega
    obtain ⟨hc1, hc2⟩ := mutCs_at L j _ hmj
    generalize L[j] = m at *
    have back : ∀ (T' : Nat → AV) (H' : Heap), T' 1 = T 1 → T' 2 = T 2 → T' 3 = T 3 → T' 10 = T 10 → T' 11 = T 11 → T' 87 = T 87 → T' 88 = .int .i64 (IntKind.i64.wrap ((j : Int) + 1)) → T' 14 = immB (putM (L.drop (j + 1))) none → Again2 (I_j2 L at' x raw (putM ms)) k ⟨T', H'⟩ := fun T' H' q1 q2 q3 q10 q11 q87 q88 q14 =>
      Again2.mk (k - 1) (by omega) ⟨j + 1, by omega, by rw [q1]; exact t1, by rw [q2]; exact t2, by rw [q3]; exact t3, by rw [q10]; exact t10, by rw [q11]; exact t11, by rw [q87]; exact t87, by rw [q88, wrap_i64 (by omega) (by omega)]; rfl, q14⟩
    simp only [immM] at t11
    generalize L.flatMap mutCs = cs at *
    generalize putM (L.drop j) = pl at *
    simp [t14, t87, t88, hj, immB]
    refine CallK.pure (p_mutGet (l := pl) (.inr ⟨none, rfl⟩) (by omega)) ?_
    rintro _ rfl
    rw [hge]
    simp [mutCs]
    intro y hy
    simp [Heap.set_self, t11, t14, t87, t88, hj, hc1, hc2, mutCs, immB, hel, show ¬ pl.length < (encM m).length by omega, show ¬ (pl.length : Int) < (encM m).length by omega, show ¬ ((encM m).length : Int) < 1 by omega, show ¬ (encM m).length < 1 by omega]
    refine ⟨bytesV_length _, back _ _ (by simp) (by simp) (by simp) (by simp) (by simp) (by simp) (by simp) ?_⟩
    simp [immB_drop, hdd]
  subst hk0
  obtain rfl : j = L.length := by omega
  rw [show putM (L.drop L.length) = [] by simp [putM]] at t14
  generalize hB : putM ms = B at *
  have hBl : B.length ≤ 480 := by omega
  simp [t87, t88, t3, t10, immB]
  refine (have tail : ∀ (T : Nat → AV) (H : Heap) (C : List (List UInt8)) (c : Option Nat), C.length ≤ 3 → (∀ l ∈ C, l.length ≤ 2000) → T 160 = .imm (bbV C) C.length c → T 161 = .int .i64 C.length → T 162 = .int .i64 0 → T 14 = immB [] none → LoopV ?R ⟨T, H⟩ ?Q := ?tl
    ?main)
  case main =>
    refine ⟨fun hpos => ?_, fun _ => ?_⟩
    · have hB0 : B ≠ [] := fun e => by rw [e] at hpos; simp at hpos
      have hBp : 0 < B.length := List.length_pos_iff.2 hB0
      refine app_row (IsB.imm B none) (by omega) ?_
      intro v7 H7 ho7 _
      obtain ⟨bk, cp, rfl, hb, hcp, hlen⟩ := own_sl ho7 (by omega)
      obtain ⟨i, hi, hpl⟩ := place ha0' ha1' hBp (by omega)
      have hge : (bytesV B)[i]'(by rw [bytesV_length]; exact hi) = .int .u8 B[i].toNat := by simp [bytesV, byteV]
      have hz : B[i].toNat ^^^ x < 2 ^ 8 := Nat.xor_lt_two_pow B[i].toNat_lt hx
      have hxor := xor_u8 (y := B[i].toNat) B[i].toNat_lt hx
      have hset : (bytesV B).set i (AV.int .u8 ((B[i].toNat ^^^ x : Nat) : Int)) = bytesV (B.set i (UInt8.ofNat (B[i].toNat ^^^ x))) := by
        rw [u8_ofNat hz]; unfold bytesV; rw [List.map_set]
      generalize hyv : UInt8.ofNat (B[i].toNat ^^^ x) = y at *
      simp [t1, t2, hpl, hb, hge, hxor, hset, hi, hB0, bytesV_length]
      refine MarkV.frz 20 (b := bk) (n := B.length) (c := cp) (k := cp) (cs := bytesV (B.set i y)) (by simp) (Heap.set_self _ _ _) hcp ?_
      simp [t10, t1, hpl, hB0, immB]
      refine ⟨⟨by omega, bytesV_length _⟩, ?_⟩
      have hmin : min i B.length = i := by omega
      refine vcAp_hold (n := 1) (cs := [immB raw none]) (.inr ⟨rfl, by simp [immB]⟩) (new := [immB (B.set i y) none, immB (B.take i) none]) (m := 2) (by simp [cellsOf, immB, bytesV_take, hmin]) rfl rfl (by omega) ?_
      intro H8 _
      simp
      refine tail _ _ [raw, B.set i y, B.take i] none (by simp) ?_ ?_ ?_ ?_ ?_
      · intro l hl
        simp at hl
        rcases hl with rfl | rfl | rfl
        · omega
        · simp; omega
        · simp; omega
      · simp [bbV]
      · simp
      · simp
      · simp [t14, immB]
    · refine tail _ _ [raw] (some 1) (by simp) (fun l hl => by simp at hl; rw [hl]; omega) ?_ ?_ ?_ ?_
      · simp [bbV, immB]
      · simp
      · simp
      · simp [t14, immB]
  case tl =>
    clear t1 t2 t3 t10 t11 t87 t88 t14
    intro T H C c hC hCl t160 t161 t162 t14
    refine LoopV.mk2 (I_j3 C c) C.length ⟨0, by omega, t160, t161, by simpa using t162, t14⟩ ?_
    clear t160 t161 t162 t14
    rintro k T H ⟨j, hj, t160, t161, t162, t14⟩
    by_cases hk : k = 0
    · subst hk
      obtain rfl : j = C.length := by omega
      simp [t161, t162, t14, immB]
    · have hlt : j < C.length := by omega
      have hbv : (bbV C)[j]? = some (immB C[j] none) := by unfold bbV; simp [hlt]
      have hcl := hCl C[j] (by simp)
      generalize C[j] = l at *
      simp [t160, t161, t162, hlt, hbv, immB]
      refine CallK.pure (p_mutGet (l := l) (.inr ⟨none, rfl⟩) (by omega)) ?_
      rintro _ rfl
      simp
      intro y1 h1
      simp [Heap.set_self, mutCs]
      refine CallK.pure (p_rGetMut l (by omega)) ?_
      rintro _ rfl
      simp [resM]
      intro y2 h2
      have n21 : y2 ≠ y1 := fun h => by rw [h, Heap.set_self] at h2; cases h2
      simp [Heap.set_self, Heap.set_ne _ _ (Ne.symm n21), mutCs, t162]
      refine Again2.mk (k - 1) (by omega) ⟨j + 1, by omega, by simp [t160], by simp [t161], ?_, by simp [t14]⟩
      simp; rw [wrap_i64 (by omega) (by omega)]
end Go.Proofs.Ytffifddlooligaa
