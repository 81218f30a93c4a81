/- Changes written; a reader of small numbers. -/
import Derived.Test.YtcpfodhhjkaibaaGreatK8
set_option linter.unusedVariables false
set_option linter.unusedSimpArgs false
set_option maxRecDepth 100000
namespace Go.Proofs.YtcpfodhhjkaibaaGreat
open Go.Sf
attribute [local simp] s_skip s_ops s_draw s_any s_contA s_tdone s_ttwo s_top_p s_top_pick s_top_e s_top_g s_seq s_cond s_block s_loop s_exit s_ret s_mark s_then_n s_then_e s_then_r s_in_n s_in_e s_in_r s_contC s_contO s_contQ s_contT s_nil s_cons_p s_cons_pick s_cons_e s_cons_g s_qnil s_qcons_p s_qcons_pick s_qcons_e s_qcons_g s_M s_Mg s_Mq s_Mqg s_G_p s_G_pick s_G_e s_Gq_p s_Gq_pick s_Gq_e s_if s_call s_callv s_qcall s_qcallv s_getAll_nil s_getAll_cons s_put_some s_put_none s_ev_t s_ev_c s_ev_f un evP evK argT resAV lenOf_nils lenOf_imm lenOf_sl lenOf_str optI slcV binV isShift binInt binStr shiftInt pickV unV s_append s_alloc s_box s_bslice s_Bs_t s_Bs_f s_store1 s_storeN s_St1 s_St s_s2b s_markb s_Mk s_mkslice s_qbslice s_qs2b s_ret_n s_ret_r s_retc_n s_retc_r s_RV_nil s_RV_t s_RV_c s_RV1 tupOf fillC kn_int cl_int on_int kn_bool cl_bool on_bool kn_str cl_str on_str kn_nilp cl_nilp on_nilp kn_ptr cl_ptr on_ptr kn_iptr cl_iptr on_iptr kn_nils cl_nils on_nils kn_sl cl_sl on_sl kn_imm cl_imm on_imm kn_mp cl_mp on_mp kn_nilm cl_nilm on_nilm kn_fn cl_fn on_fn kn_nilf cl_nilf on_nilf kn_agg cl_agg scalEq flatEq eqV s_copy_i s_copy_s s_Cp s_clr s_clrn s_Cl s_appz s_Az s_ext s_Ov s_mapB s_mapBS s_rng s_rngn s_Rn s_nxt s_Nx0 s_ent s_mkmap s_mset s_mdel mapOf s_Mg_n s_Mqg_n s_gw_b s_gw_u s_gw_gb s_gw_f
def smallR (l : List UInt8) (n e : Nat) : Int × Nat × Nat :=
  if e ≠ 0 then (-1, n, e) else
    (if (num (l.drop n)).2.2 ≠ 0 ∨ 255 < (num (l.drop n)).1 then -1 else ((num (l.drop n)).1 : Int), n + (num (l.drop n)).2.1, (num (l.drop n)).2.2)
theorem isB_drop (l : List UInt8) (n : Nat) (c : Option Nat) : IsB (.imm (List.take (l.length - n) (List.drop n (bytesV l))) (l.length - n) c) (l.drop n) := by
  refine .inr ⟨c, ?_⟩
  rw [List.take_of_length_le (by simp [bytesV_length])]
  simp [immB, bytesV_drop]
theorem num_took (l : List UInt8) : (num l).2.1 ≤ 10 ∧ (num l).2.1 ≤ l.length := by
  by_cases h : (num l).2.2 = 0
  · exact ⟨(num_ok h).2.2, (num_ok h).2.1⟩
  · rw [(num_bad h).2]; omega
theorem Heap.set_same {H : Heap} {b : Nat} {x : Option Blk} (h : H b = x) : H.set b x = H := by
  funext k; unfold Heap.set; split
  · rename_i e; rw [e, h]
  · rfl
theorem Heap.set_set (H : Heap) (b : Nat) (x y : Option Blk) : (H.set b x).set b y = H.set b y := by
  funext k; unfold Heap.set; split <;> rfl
theorem k_small {v : AV} {l : List UInt8} (hv : IsB v l) {H : Heap} {b n e : Nat} (hH : H b = some (.cells [v, .int .i64 n, .int .i64 e] 3)) (hn : n ≤ l.length) (hl : l.length ≤ 2 ^ 40) :
    CC PP F_mut_reader_small [.ptr b 0] H fun r H' => r = .int .i64 (smallR l n e).1 ∧ H' = H.set b (some (.cells [v, .int .i64 (smallR l n e).2.1, .int .i64 (smallR l n e).2.2] 3)) := by
  refine CC.by_vc ok_mut_reader_small (by simp) ?_
  unfold c_mut_reader_small
  by_cases h0 : e = 0
  · subst h0
    have ht := num_took (l.drop n)
    have hlt := num_lt (l.drop n)
    rw [List.length_drop] at ht
    have e1 : IntKind.i64.wrap ((n : Int) + ((num (l.drop n)).2.1 : Int)) = ((n + (num (l.drop n)).2.1 : Nat) : Int) := by rw [wrap_i64 (by omega) (by omega)]; omega
    have key : ∀ x, IsB x (l.drop n) → CP PP F_num_Get [x] (fun v => v = resN (num (l.drop n))) := fun x hx => p_get hx
    rcases hv with ⟨rfl, rfl⟩ | ⟨c, rfl⟩
    · have hn0 : n = 0 := by simpa using hn
      subst hn0
      simp [hH]
      refine CallQ.of (p_get .nil) ?_
      simp [resN, hH, show num [] = (0, 0, 8) from rfl, Heap.set_self, Heap.set_set]
      simp [smallR, show num [] = (0, 0, 8) from rfl]
      try rfl
    · simp only [immB] at hH ⊢
      simp [hH, hn]
      refine ⟨bytesV_length _, ?_⟩
      refine CallQ.of (p_get (isB_drop l n _)) ?_
      simp [resN, hH, Heap.set_self, Heap.set_set, e1]
      by_cases h8 : (num (l.drop n)).2.2 = 0
      · by_cases h255 : 255 < (num (l.drop n)).1
        · simp [h8, smallR, h255, show (255 : Int) < (num (l.drop n)).1 by omega, show ¬ ((num (l.drop n)).1 : Int) ≤ 255 by omega]
        · have e2 : IntKind.i64.wrap ((num (l.drop n)).1 : Int) = (num (l.drop n)).1 := wrap_i64 (by omega) (by omega)
          simp [h8, smallR, h255, show ¬ (255 : Int) < (num (l.drop n)).1 by omega, show ((num (l.drop n)).1 : Int) ≤ 255 by omega, e2]
      · simp [h8, smallR]
  · have h0' : ¬ ((e : Int) = 0) := by omega
    simp [hH, h0, h0', smallR, Heap.set_same hH]
/-- Changes written. -/
def encM (m : MutT) : List UInt8 := enc m.k.toNat ++ (enc m.g.toNat ++ (enc m.n.toNat ++ (enc m.i.toNat ++ ((if fieldsK m.k then enc m.f.toNat else []) ++ (if valuesK m.k then enc (zig m.v) else [])))))
def putM (ms : List MutT) : List UInt8 := (ms.filter mayM).flatMap encM
def okM (m : MutT) : Prop := ∀ x ∈ [m.k, m.g, m.n, m.i, m.f, m.v], -9223372036854775808 ≤ x ∧ x < 9223372036854775808
def IsMM (v : AV) (ms : List MutT) : Prop := (v = .nils ∧ ms = []) ∨ ∃ c, v = .imm (ms.flatMap mutCs) ms.length c
theorem IsMM.un {v : AV} {ms : List MutT} (h : IsMM v ms) : Sf.un v = (True, v) := by
  rcases h with ⟨rfl, rfl⟩ | ⟨c, rfl⟩ <;> rfl
theorem mutCs_at (ms : List MutT) : ∀ (i : Nat) (m : MutT), ms[i]? = some m → ((ms.flatMap mutCs).drop (i * 6)).take 6 = mutCs m ∧ i * 6 + 6 ≤ (ms.flatMap mutCs).length := by
  induction ms with
  | nil => intro i m h; simp at h
  | cons a ms ih =>
    intro i m h
    cases i with
    | zero => simp at h; subst h; simp [mutCs]
    | succ i =>
      have := ih i m (by simpa using h)
      have e : (i + 1) * 6 = 6 + i * 6 := by omega
      rw [e]
      constructor
      · rw [List.flatMap_cons, ← List.drop_drop]
        rw [show (mutCs a ++ ms.flatMap mutCs).drop 6 = ms.flatMap mutCs from by rw [List.drop_left' (by rfl)]]
        exact this.1
      · rw [List.flatMap_cons, List.length_append, show (mutCs a).length = 6 from rfl]; omega
theorem mutCs_len (ms : List MutT) : (ms.flatMap mutCs).length = ms.length * 6 := by
  induction ms with
  | nil => rfl
  | cons a ms ih => rw [List.flatMap_cons, List.length_append, ih]; simp [mutCs]; omega
theorem encM_le (m : MutT) (h : okM m) (hm : mayM m = true) : (encM m).length ≤ 60 := by
  have e : ∀ n : Nat, n < 2 ^ 64 → (enc n).length ≤ 10 := fun n hn => enc_len64 hn
  have h1 := h m.k (by simp)
  have h2 := h m.g (by simp)
  have h3 := h m.n (by simp)
  have h4 := h m.i (by simp)
  have h5 := h m.f (by simp)
  have h6 := h m.v (by simp)
  have e1 := e m.k.toNat (by omega)
  have e2 := e m.g.toNat (by omega)
  have e3 := e m.n.toNat (by omega)
  have e4 := e m.i.toNat (by omega)
  have e5 := e m.f.toNat (by omega)
  have e6 := e (zig m.v) (zig_lt h6.1 h6.2)
  unfold encM
  simp only [List.length_append]
  cases fieldsK m.k <;> cases valuesK m.k <;> simp <;> omega
theorem putM_le : ∀ (ms : List MutT), (∀ m ∈ ms, okM m) → (putM ms).length ≤ 60 * ms.length
  | [], _ => by simp [putM]
  | m :: ms, h => by
    have ih := putM_le ms fun x hx => h x (by simp [hx])
    unfold putM at *
    cases hm : mayM m with
    | true =>
      have := encM_le m (h m (by simp)) hm
      simp only [List.filter_cons, hm, if_true, List.flatMap_cons, List.length_append, List.length_cons]; omega
    | false =>
      simp only [List.filter_cons, hm, Bool.false_eq_true, if_false, List.length_cons]; omega
theorem putM_succ {ms : List MutT} {i : Nat} {m : MutT} (h : ms[i]? = some m) : putM (ms.take (i + 1)) = putM (ms.take i) ++ (if mayM m then encM m else []) := by
  unfold putM
  rw [List.take_add_one, h, Option.toList_some, List.filter_append, List.flatMap_append]
  cases hm : mayM m <;> simp [List.filter_cons, hm]
def encF (xs : List Nat) : List UInt8 := xs.flatMap enc
def I_min (vm : AV) (n i : Nat) (x y z u f : Nat) (w : Int) (b : Nat) (l : List UInt8) (k : Nat) (T : Nat → AV) (H : Heap) : Prop :=
  ∃ (j : Nat) (v : AV), k + j = 4 ∧ T 9 = vm ∧ T 10 = .int .i64 n ∧ T 11 = .int .i64 i ∧ T 6 = .ptr b 0 ∧ T 29 = .imm [.int .i64 x, .int .i64 y, .int .i64 z, .int .i64 u] 4 (some 4) ∧ T 30 = .int .i64 4 ∧ T 31 = .int .i64 j ∧
    T 0 = v ∧ IsB v (l ++ encF (([x, y, z, u] : List Nat).take j)) ∧ H b = some (.cells [.int .i64 x, .int .i64 y, .int .i64 z, .int .i64 u, .int .i64 f, .int .i64 w] 6)
def I_mput (vm : AV) (ms : List MutT) (l : List UInt8) (k : Nat) (T : Nat → AV) (H : Heap) : Prop :=
  ∃ (i : Nat) (v : AV), k + i = ms.length ∧ T 9 = vm ∧ T 10 = .int .i64 ms.length ∧ T 11 = .int .i64 i ∧ T 0 = v ∧ IsB v (l ++ putM (ms.take i))
theorem mayM_nat {m : MutT} (h : mayM m = true) : 0 ≤ m.k ∧ m.k ≤ 6 ∧ 0 ≤ m.g ∧ m.g < 4 ∧ 0 ≤ m.n ∧ m.n < 2 ∧ 0 ≤ m.i ∧ m.i < 24 ∧ 0 ≤ m.f ∧ m.f < 8 := by
  unfold mayM isK at h
  simp only [Bool.and_eq_true, decide_eq_true_eq] at h
  obtain ⟨⟨⟨⟨h1, h2⟩, h3⟩, h4⟩, _⟩ := h
  refine ⟨by omega, h2, h3.1.1.1.1.1, h3.1.1.1.1.2, h3.1.1.1.2, h3.1.1.2, h3.1.2, h3.2, ?_⟩
  cases hf : fieldsK m.k <;> simp [hf] at h4 <;> omega
theorem p_mutPut {a vm : AV} {l : List UInt8} {ms : List MutT} (ha : IsB a l) (hm : IsMM vm ms) (hok : ∀ m ∈ ms, okM m) (hl : l.length + 60 * ms.length ≤ 2 ^ 40) : CP PP F_mut_Put [a, vm] (fun v => IsB v (l ++ putM ms)) := by
  refine CP.by_vc ok_mut_Put (by simp) ?_
  unfold c_mut_Put
  have hcs := mutCs_at ms
  have hlen := mutCs_len ms
  have hsz : ∀ i, (putM (ms.take i)).length ≤ 60 * i := fun i => by
    have := putM_le (ms.take i) (fun m h => hok m (List.mem_of_mem_take h))
    have h2 : (ms.take i).length ≤ i := by simp; omega
    omega
  rcases hm with ⟨rfl, rfl⟩ | ⟨c, rfl⟩
  · simp
    refine LoopV.mk2 (I_mput .nils [] l) 0 ⟨0, a, rfl, by simp, by simp, by simp, by simp, by simpa [putM] using ha⟩ ?_
    rintro k T H ⟨i, v, hk, h9, h10, h11, h0, hv⟩
    have hi : i = 0 := by simp at hk; omega
    subst hi
    simp [h9, h10, h11, h0, hv.un]
    simpa [putM] using hv
  · generalize ms.flatMap mutCs = cs at *
    simp
    refine LoopV.mk2 (I_mput _ ms l) ms.length ⟨0, a, by omega, by simp; rfl, by simp, by simp, by simp, by simpa [putM] using ha⟩ ?_
    rintro k T H ⟨i, v, hk, h9, h10, h11, h0, hv⟩
    rcases Nat.lt_or_ge i ms.length with hi | hi
    · obtain ⟨k', rfl⟩ : ∃ k', k = k' + 1 := ⟨k - 1, by omega⟩
      have hmi : ms[i]? = some ms[i] := by simp [hi]
      have hmm := hok _ (List.getElem_mem hi)
      have hsi := hsz i
      have hsu := hsz (i + 1)
      generalize ms[i] = m at hmi hmm
      obtain ⟨hc1, hc2⟩ := hcs i m hmi
      have hsucc := putM_succ hmi
      simp [h9, h10, h11, h0, hi, hc1, hc2, hv.un]
      intro b hb
      simp [Heap.set_self, mutCs]
      refine CallK.pure (p_may m) ?_
      rintro u rfl
      cases hM : mayM m with
      | false =>
        simp [hM, h11]
        refine Again2.mk k' (by omega) ⟨i + 1, v, by omega, by simp [h9], by simp [h10], ?_, by simp [h0], ?_⟩
        · simp; rw [wrap_i64 (by omega) (by omega)]
        · rw [hsucc, hM]; simpa using hv
      | true =>
        obtain ⟨n1, n2, n3, n4, n5, n6, n7, n8, n9, n10⟩ := mayM_nat hM
        have hme := encM_le m hmm hM
        have hv6 := hmm m.v (by simp)
        have hls : (l ++ putM (ms.take i)).length + 60 ≤ 2 ^ 40 := by rw [List.length_append]; omega
        rw [hM, if_pos rfl] at hsucc
        obtain ⟨mk, mg, mn, mi, mf, mv⟩ := m
        simp only at n1 n2 n3 n4 n5 n6 n7 n8 n9 n10 hv6
        obtain ⟨x, rfl⟩ := Int.eq_ofNat_of_zero_le n1
        obtain ⟨y, rfl⟩ := Int.eq_ofNat_of_zero_le n3
        obtain ⟨z, rfl⟩ := Int.eq_ofNat_of_zero_le n5
        obtain ⟨u, rfl⟩ := Int.eq_ofNat_of_zero_le n7
        obtain ⟨f, rfl⟩ := Int.eq_ofNat_of_zero_le n9
        have hE : encM ⟨x, y, z, u, f, mv⟩ = encF [x, y, z, u] ++ ((if fieldsK x then enc f else []) ++ (if valuesK x then enc (zig mv) else [])) := by
          simp [encM, encF]
        have hL : ∀ j, (encF (([x, y, z, u] : List Nat).take j)).length ≤ 40 := fun j => by
          have e1 := enc_len64 (n := x) (by omega)
          have e2 := enc_len64 (n := y) (by omega)
          have e3 := enc_len64 (n := z) (by omega)
          have e4 := enc_len64 (n := u) (by omega)
          have hj : j = 0 ∨ j = 1 ∨ j = 2 ∨ j = 3 ∨ 4 ≤ j := by omega
          rcases hj with rfl | rfl | rfl | rfl | hj
          · simp [encF]
          · simp [encF]; omega
          · simp [encF]; omega
          · simp [encF]; omega
          · rw [List.take_of_length_le (by simpa using hj)]; simp [encF]; omega
        simp [hM, Heap.set_self]
        generalize hpre : l ++ putM (ms.take i) = pre at *
        refine LoopV.mk2 (I_min (.imm cs ms.length c) ms.length i x y z u f mv b pre) 4 ⟨0, v, rfl, by simp [h9], by simp [h10], by simp [h11], by simp, by simp, by simp, by simp, by simp [h0], by simpa [encF] using hv, by simp [Heap.set_self]⟩ ?_
        rintro q T H ⟨j, v, hq, h9, h10, h11, h6, h29, h30, h31, h0, hv, hH⟩
        have hLj := hL j
        have hcap : (pre ++ encF (([x, y, z, u] : List Nat).take j)).length ≤ 2 ^ 40 := by
          rw [List.length_append]; omega
        have hj : j = 0 ∨ j = 1 ∨ j = 2 ∨ j = 3 ∨ j = 4 := by omega
        rcases hj with rfl | rfl | rfl | rfl | rfl
        · simp [h29, h30, h31, h0, hv.un]
          rw [wrap_u64 (n := (x : Int)) (by omega) (by omega)]
          refine CallK.pure (p_put hv x (by omega) hcap) ?_
          rintro _ rfl
          simp [h31, immB]
          refine Again2.mk 3 (by omega) ⟨1, _, rfl, by simp [h9], by simp [h10], by simp [h11], by simp [h6], by simp [h29], by simp [h30], ?_, by simp; rfl, ?_, hH⟩
          · simp; rfl
          · refine .inr ⟨none, ?_⟩
            simp [encF, immB, Nat.add_assoc]
        · simp [h29, h30, h31, h0, hv.un]
          rw [wrap_u64 (n := (y : Int)) (by omega) (by omega)]
          refine CallK.pure (p_put hv y (by omega) hcap) ?_
          rintro _ rfl
          simp [h31, immB]
          refine Again2.mk 2 (by omega) ⟨2, _, rfl, by simp [h9], by simp [h10], by simp [h11], by simp [h6], by simp [h29], by simp [h30], ?_, by simp; rfl, ?_, hH⟩
          · simp; rfl
          · refine .inr ⟨none, ?_⟩
            simp [encF, immB, Nat.add_assoc]
        · simp [h29, h30, h31, h0, hv.un]
          rw [wrap_u64 (n := (z : Int)) (by omega) (by omega)]
          refine CallK.pure (p_put hv z (by omega) hcap) ?_
          rintro _ rfl
          simp [h31, immB]
          refine Again2.mk 1 (by omega) ⟨3, _, rfl, by simp [h9], by simp [h10], by simp [h11], by simp [h6], by simp [h29], by simp [h30], ?_, by simp; rfl, ?_, hH⟩
          · simp; rfl
          · refine .inr ⟨none, ?_⟩
            simp [encF, immB, Nat.add_assoc]
        · simp [h29, h30, h31, h0, hv.un]
          rw [wrap_u64 (n := (u : Int)) (by omega) (by omega)]
          refine CallK.pure (p_put hv u (by omega) hcap) ?_
          rintro _ rfl
          simp [h31, immB]
          refine Again2.mk 0 (by omega) ⟨4, _, rfl, by simp [h9], by simp [h10], by simp [h11], by simp [h6], by simp [h29], by simp [h30], ?_, by simp; rfl, ?_, hH⟩
          · simp; rfl
          · refine .inr ⟨none, ?_⟩
            simp [encF, immB, Nat.add_assoc]
        · simp only [List.take_succ_cons, List.take_zero] at hv hcap
          have hEl : (encF [x, y, z, u]).length ≤ 40 := by simpa using hLj
          have hpl : pre.length + 60 ≤ 2 ^ 40 := hls
          have hel : ∀ w : List UInt8, w = pre ++ encM ⟨x, y, z, u, f, mv⟩ → l ++ putM (ms.take (i + 1)) = w := fun w hw => by
            rw [hw, hsucc, ← List.append_assoc, hpre]
          rw [hE] at hel
          generalize encF [x, y, z, u] = e4 at *
          simp [h29, h30, h31, h0, h6, hv.un, hH]
          refine CallK.pure (p_fields _) ?_
          rintro _ rfl
          have fin : ∀ (T : Nat → AV) (v : AV), T 9 = .imm cs ms.length c → T 10 = .int .i64 ms.length → T 11 = .int .i64 (i + 1 : Nat) → T 0 = v → IsB v (l ++ putM (ms.take (i + 1))) → I_mput (.imm cs ms.length c) ms l k' T H :=
            fun T v a1 a2 a3 a4 a5 => ⟨i + 1, v, by omega, a1, a2, a3, a4, a5⟩
          have hw11 : IntKind.i64.wrap ((i : Int) + 1) = ((i + 1 : Nat) : Int) := by rw [wrap_i64 (by omega) (by omega)]; omega
          cases hF : fieldsK x with
          | false =>
            simp [h6, h0, hv.un, hH]
            refine CallK.pure (p_values _) ?_
            rintro _ rfl
            cases hV : valuesK x with
            | false =>
              simp [h11]
              refine Again2.mk k' (by omega) (fin _ v (by simp [h9]) (by simp [h10]) (by simpa using hw11) (by simp [h0]) ?_)
              rw [hel _ (by simp [hF, hV]; rfl)]
              exact hv
            | true =>
              simp [h6, h0, hv.un, hH]
              refine CallK.pure (k_putInt hv mv hv6.1 hv6.2 hcap) ?_
              rintro _ rfl
              simp [h11, immB]
              refine Again2.mk k' (by omega) (fin _ _ (by simp [h9]) (by simp [h10]) (by simpa using hw11) (by simp; rfl) ?_)
              rw [hel _ (by simp [hF, hV]; rfl)]
              exact .inr ⟨none, by simp [immB]⟩
          | true =>
            simp [h6, h0, hv.un, hH]
            rw [wrap_u64 (n := (f : Int)) (by omega) (by omega)]
            refine CallK.pure (p_put hv f (by omega) hcap) ?_
            rintro _ rfl
            simp [h6, immB, hH]
            refine CallK.pure (p_values _) ?_
            rintro _ rfl
            cases hV : valuesK x with
            | false =>
              simp [h11]
              refine Again2.mk k' (by omega) (fin _ _ (by simp [h9]) (by simp [h10]) (by simpa using hw11) (by simp; rfl) ?_)
              rw [hel _ (by simp [hF, hV]; rfl)]
              exact .inr ⟨none, by simp [immB]⟩
            | true =>
              simp [h6, hH]
              have hlf := enc_len64 (n := f) (by omega)
              refine CallK.pure (k_putInt (a := .imm (bytesV (pre ++ (e4 ++ enc f))) (pre.length + (e4.length + (enc f).length)) none) (l := pre ++ (e4 ++ enc f)) (.inr ⟨none, by simp [immB]⟩) mv hv6.1 hv6.2 (by simp only [List.length_append] at *; omega)) ?_
              rintro _ rfl
              simp [h11, immB]
              refine Again2.mk k' (by omega) (fin _ _ (by simp [h9]) (by simp [h10]) (by simpa using hw11) (by simp; rfl) ?_)
              rw [hel _ (by simp [hF, hV]; rfl)]
              exact .inr ⟨none, by simp [immB]⟩
    · obtain rfl : k = 0 := by omega
      have : i = ms.length := by omega
      subst this
      simp [h9, h10, h11, h0, hv.un]
      rw [List.take_length] at hv
      exact hv
end Go.Proofs.YtcpfodhhjkaibaaGreat
