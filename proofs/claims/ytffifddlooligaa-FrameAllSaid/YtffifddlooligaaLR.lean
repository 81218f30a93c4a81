/- The document's frames. -/
import Derived.Test.YtffifddlooligaaLG
set_option linter.unusedVariables false
set_option linter.unusedSimpArgs false
set_option maxRecDepth 100000
namespace Go.Sf
def valL : List UInt8 → Nat
  | [] => 0
  | b :: r => b.toNat + 256 * valL r
theorem valL_lt : ∀ (q : List UInt8), valL q < 256 ^ q.length
  | [] => by simp [valL]
  | b :: r => by
    have h1 := valL_lt r
    have h2 := b.toNat_lt
    have h3 : 256 ^ (b :: r).length = 256 * 256 ^ r.length := by rw [List.length_cons, Nat.pow_succ, Nat.mul_comm]
    unfold valL; omega
theorem ofNat_eq {n : Nat} {b : UInt8} (h : n = b.toNat) : UInt8.ofNat n = b := by rw [h]; simp
theorem le4_valL {q : List UInt8} (h : q.length = 4) : le4 (valL q) = q := by
  match q, h with
  | [a, b, c, d], _ =>
    have h1 := a.toNat_lt
    have h2 := b.toNat_lt
    have h3 := c.toNat_lt
    have h4 := d.toNat_lt
    unfold le4
    simp only [valL]
    rw [ofNat_eq (b := a) (by omega), ofNat_eq (b := b) (by omega), ofNat_eq (b := c) (by omega), ofNat_eq (b := d) (by omega)]
theorem valL_le4 {x : Nat} (h : x < 4294967296) : valL (le4 x) = x := by
  unfold le4
  simp only [valL, u8_small (Nat.mod_lt _ (show 0 < 256 by omega))]
  omega
theorem le4_iff {x : Nat} {q : List UInt8} (h : x < 4294967296) (hq : q.length = 4) : le4 x = q ↔ x = valL q :=
  ⟨fun e => by rw [← e, valL_le4 h], fun e => by rw [e, le4_valL hq]⟩
end Go.Sf
namespace Go.Proofs.Ytffifddlooligaa
open Go.Sf
attribute [local simp] s_skip s_ops s_draw s_any s_contA s_tdone s_ttwo s_top_p s_top_pick s_top_e s_top_g s_seq s_cond s_block s_loop s_exit s_ret s_mark s_then_n s_then_e s_then_r s_in_n s_in_e s_in_r s_contC s_contO s_contQ s_contT s_nil s_cons_p s_cons_pick s_cons_e s_cons_g s_qnil s_qcons_p s_qcons_pick s_qcons_e s_qcons_g s_M s_Mg s_Mq s_Mqg s_G_p s_G_pick s_G_e s_Gq_p s_Gq_pick s_Gq_e s_if s_call s_callv s_qcall s_qcallv s_getAll_nil s_getAll_cons s_put_some s_put_none s_ev_t s_ev_c s_ev_f un evP evK argT resAV lenOf_nils lenOf_imm lenOf_sl lenOf_str optI slcV binV isShift binInt binStr shiftInt pickV unV s_append s_alloc s_box s_bslice s_Bs_t s_Bs_f s_store1 s_storeN s_St1 s_St s_s2b s_markb s_Mk s_mkslice s_qbslice s_qs2b s_ret_n s_ret_r s_retc_n s_retc_r s_RV_nil s_RV_t s_RV_c s_RV1 tupOf fillC kn_int cl_int on_int kn_bool cl_bool on_bool kn_str cl_str on_str kn_nilp cl_nilp on_nilp kn_ptr cl_ptr on_ptr kn_iptr cl_iptr on_iptr kn_nils cl_nils on_nils kn_sl cl_sl on_sl kn_imm cl_imm on_imm kn_mp cl_mp on_mp kn_nilm cl_nilm on_nilm kn_fn cl_fn on_fn kn_nilf cl_nilf on_nilf kn_agg cl_agg scalEq flatEq eqV s_copy_i s_copy_s s_Cp s_clr s_clrn s_Cl s_appz s_Az s_ext s_Ov s_mkmap s_mset s_mdel mapOf s_Mg_n s_Mqg_n s_gw_b s_gw_u s_gw_gb s_gw_f
theorem p_rFrame (t : List UInt8) (ht : t.length ≤ 2 ^ 30) : CP PP F_Rref1_Frame [immB t none] (fun v => v = immB (frameL t) none) := by
  refine CP.by_vc ok_Rref1_Frame (by simp) ?_
  unfold c_Rref1_Frame
  have hel := enc_len64 (n := t.length) (by omega)
  have w1 : IntKind.u64.wrap (t.length : Int) = t.length := wrap_u64 (by omega) (by omega)
  simp [immB, w1]
  refine CallK.own (k_rNum t.length (by omega)) ?_
  intro v H' ho _ _
  simp [ho.un]
  refine CallK.pure (p_rSum (l := t) (.inr ⟨none, rfl⟩) (by omega)) ?_
  rintro _ rfl
  have hs := sumL_lt t
  simp [ho.un]
  have e0 : AV.int .u8 (IntKind.u8.wrap (((sumL t : Nat) : Int).tmod 256)) = byteV (UInt8.ofNat (sumL t % 256)) := by
    rw [show ((sumL t : Nat) : Int).tmod 256 = ((sumL t % 256 : Nat) : Int) from rfl, wrap_u8 (by omega), u8_ofNat (by omega)]
  have e1 : AV.int .u8 (IntKind.u8.wrap ((IntKind.u32.wrap (((sumL t : Nat) : Int) / 256)).tmod 256)) = byteV (UInt8.ofNat (sumL t / 256 % 256)) := by
    rw [wrap_u32 (by omega) (by omega), show (((sumL t : Nat) : Int) / 256).tmod 256 = ((sumL t / 256 % 256 : Nat) : Int) from rfl, wrap_u8 (by omega), u8_ofNat (by omega)]
  have e2 : AV.int .u8 (IntKind.u8.wrap ((IntKind.u32.wrap (((sumL t : Nat) : Int) / 65536)).tmod 256)) = byteV (UInt8.ofNat (sumL t / 65536 % 256)) := by
    rw [wrap_u32 (by omega) (by omega), show (((sumL t : Nat) : Int) / 65536).tmod 256 = ((sumL t / 65536 % 256 : Nat) : Int) from rfl, wrap_u8 (by omega), u8_ofNat (by omega)]
  have e3 : AV.int .u8 (IntKind.u8.wrap (IntKind.u32.wrap (((sumL t : Nat) : Int) / 16777216))) = byteV (UInt8.ofNat (sumL t / 16777216 % 256)) := by
    rw [wrap_u32 (by omega) (by omega), show ((sumL t : Nat) : Int) / 16777216 = ((sumL t / 16777216 % 256 : Nat) : Int) by omega, wrap_u8 (by omega), u8_ofNat (by omega)]
  rw [e0, e1, e2, e3]
  have hl4 : IsB (.imm (bytesV (le4 (sumL t))) 4 (some 4)) (le4 (sumL t)) := .inr ⟨some 4, rfl⟩
  refine vcAp_row (.inl ho) (new := bytesV (le4 (sumL t))) (m := 4) rfl rfl rfl (by omega) (bytesV_one _) (by omega) (.inl (by simp [bytesV, le4])) ?_
  intro v2 H2 ho2 _ _
  simp [ho2.un]
  have ho3 : OwnR H2 1 (enc t.length ++ le4 (sumL t)).length v2 (bytesV (enc t.length ++ le4 (sumL t))) := by
    rw [bytesV_append, List.length_append, le4_length]; exact ho2
  refine app_hold ho3 (IsB.imm t none) (by simp only [List.length_append, le4_length]; omega) ?_
  intro H3 _
  simp [immB, frameL, le4_length, Nat.add_assoc]
def I_rg (l : List UInt8) (n m : Nat) (q : List UInt8) (k : Nat) (T : Nat → AV) (H : Heap) : Prop :=
  k ≤ 4 ∧ T 0 = immB l none ∧ T 5 = .int .u64 m ∧ T 6 = .int .i64 n ∧ T 8 = .int .u32 (valL (q.drop k)) ∧ T 9 = .int .i64 ((k : Int) - 1) ∧ H = Heap.nil
theorem p_rGetFrame (l : List UInt8) (hl : l.length ≤ 2 ^ 40) : CP PP F_Rref1_GetFrame [immB l none] (RFrame (getFrame l)) := by
  refine CP.by_vc ok_Rref1_GetFrame (by simp) ?_
  unfold c_Rref1_GetFrame
  simp [immB]
  refine CallK.pure (p_rGet (l := l) (.inr ⟨none, rfl⟩)) ?_
  rintro _ rfl
  have hok := num_ok (l := l)
  have hlt := num_lt l
  unfold getFrame
  generalize num l = r at *
  obtain ⟨m, n, e⟩ := r
  by_cases he : e = 0
  rotate_left
  · have hne : ¬ ((e : Nat) : Int) = 0 := by omega
    simp [resN, he, hne]
    exact ⟨_, rfl, .nil⟩
  subst he
  simp at hok hlt
  simp [resN]
  by_cases hm : 4096 < m
  · have hm1 : (4096 : Int) < m := by omega
    have hm2 : ¬ (m : Int) ≤ 4096 := by omega
    simp [hm, hm1, hm2]
    exact ⟨_, rfl, .nil⟩
  have hm1 : ¬ (4096 : Int) < m := by omega
  have hm2 : (m : Int) ≤ 4096 := by omega
  have w1 : IntKind.i64.wrap (m : Int) = m := wrap_i64 (by omega) (by omega)
  have w2 : IntKind.i64.wrap (4 + (m : Int)) = 4 + m := wrap_i64 (by omega) (by omega)
  have w3 : IntKind.i64.wrap ((l.length : Int) - n) = (l.length : Int) - n := wrap_i64 (by omega) (by omega)
  simp [hm, hm1, hm2, w1, w2, w3]
  by_cases hs : l.length - n < 4 + m
  · have hs1 : (l.length : Int) - n < 4 + m := by omega
    have hs2 : ¬ 4 + (m : Int) ≤ (l.length : Int) - n := by omega
    simp [hs, hs1, hs2]
    exact ⟨_, rfl, .nil⟩
  have hs1 : ¬ (l.length : Int) - n < 4 + m := by omega
  have hs2 : 4 + (m : Int) ≤ (l.length : Int) - n := by omega
  simp [hs, hs1, hs2]
  have hq : ((l.drop n).take 4).length = 4 := by simp; omega
  have hqi : ∀ i, i < 4 → ((l.drop n).take 4)[i]? = l[n + i]? := fun i hi => by rw [List.getElem?_take_of_lt hi, List.getElem?_drop]
  generalize (l.drop n).take 4 = q at *
  refine LoopV.mk2 (I_rg l n m q) 4 ⟨by omega, by simp [immB], by simp, by simp, by simp [List.drop_eq_nil_of_le (Nat.le_of_eq hq), valL], by simp, rfl⟩ ?_
  rintro k T H ⟨hk, t0, t5, t6, t8, t9, rfl⟩
  rcases k with _ | k
  · obtain ⟨a1, ha1, w4⟩ : ∃ a : Nat, a = n + 4 ∧ IntKind.i64.wrap ((n : Int) + 4) = a := ⟨n + 4, rfl, by rw [wrap_i64 (by omega) (by omega)]; omega⟩
    obtain ⟨a2, ha2, w5⟩ : ∃ a : Nat, a = a1 + m ∧ IntKind.i64.wrap ((a1 : Int) + (m : Int)) = a := ⟨a1 + m, rfl, by rw [wrap_i64 (by omega) (by omega)]; omega⟩
    rw [← ha1]
    have hX : List.take m (List.drop a1 (bytesV l)) = bytesV (List.take m (List.drop a1 l)) := by rw [bytesV_drop, bytesV_take]
    have hXl : (List.take m (List.drop a1 l)).length = m := by simp; omega
    have hiff := le4_iff (sumL_lt (List.take m (List.drop a1 l))) hq
    generalize hXv : List.take m (List.drop a1 l) = X at *
    have hsub : a2 - a1 = m := by omega
    have hB : IsB (.imm (bytesV X) m none) X := .inr ⟨none, by simp only [immB, hXl]⟩
    simp only [List.drop_zero] at t8
    simp [t0, t5, t6, t8, t9, w1, w4, w5, immB, hsub, hX]
    refine ⟨⟨by omega, by omega, bytesV_length _⟩, ?_⟩
    refine CallK.pure (p_rSum hB (by omega)) ?_
    rintro _ rfl
    by_cases hS : sumL X = valL q
    · have hle := hiff.2 hS
      have hS2 : ((sumL X : Nat) : Int) = valL q := by omega
      simp [t8, hle, hS]
      refine vcAp_hold (n := 0) (cs := []) (.inl ⟨rfl, .inl ⟨rfl, rfl⟩⟩) (hB.cells _) hB.len (bytesV_one _) (by omega) ?_
      intro H' _
      simp [t5, t6, w1, w4, w5]
      rw [if_pos (by rw [← hS]; exact hle), ← ha2]
      exact ⟨_, rfl, .inr ⟨none, rfl⟩⟩
    · have hle : ¬ le4 (sumL X) = q := fun h => hS (hiff.1 h)
      have hS2 : ¬ ((sumL X : Nat) : Int) = valL q := by omega
      simp [t8, hle, hS2]
      exact ⟨_, rfl, .nil⟩
  · have hkl : k < 4 := by omega
    obtain ⟨a1, ha1, w4⟩ : ∃ a : Nat, a = n + k ∧ IntKind.i64.wrap ((n : Int) + (k : Int)) = a := ⟨n + k, rfl, by rw [wrap_i64 (by omega) (by omega)]; omega⟩
    have hlt1 : a1 < l.length := by omega
    have hge : (bytesV l)[a1]? = some (.int .u8 l[a1].toNat) := by simp [bytesV, byteV, hlt1]
    have hqd : q.drop k = l[a1] :: q.drop (k + 1) := by
      rw [List.drop_eq_getElem_cons (by omega)]
      congr 1
      have := hqi k hkl
      rw [← ha1, List.getElem?_eq_getElem (by omega), List.getElem?_eq_getElem hlt1] at this
      simpa using this
    have hv := valL_lt (q.drop (k + 1))
    have hb := l[a1].toNat_lt
    have hq4 : (q.drop (k + 1)).length ≤ 3 := by simp; omega
    have hp4 : (256 : Nat) ^ (q.drop (k + 1)).length ≤ 256 ^ 3 := Nat.pow_le_pow_right (by omega) hq4
    have hvv : IntKind.u32.wrap (IntKind.u32.wrap (((valL (q.drop (k + 1)) : Nat) : Int) * 256) + IntKind.u32.wrap ((l[a1].toNat : Nat) : Int)) = ((valL (q.drop k) : Nat) : Int) := by
      rw [hqd]
      simp only [valL]
      rw [wrap_u32 (n := ((valL (q.drop (k + 1)) : Nat) : Int) * 256) (by omega) (by omega), wrap_u32 (n := ((l[a1].toNat : Nat) : Int)) (by omega) (by omega), wrap_u32 (by omega) (by omega)]
      omega
    simp [t0, t5, t6, t8, t9, immB, w4, hlt1, hge, hvv]
    refine Again2.mk k (by omega) ⟨by omega, by simp [t0, immB], by simp [t5], by simp [t6], by simp, ?_, rfl⟩
    simp
    rw [wrap_i64 (by omega) (by omega)]
def I_rall (l : List UInt8) (k : Nat) (T : Nat → AV) (H : Heap) : Prop :=
  ∃ (a : Nat) (ts : List (List UInt8)) (v : AV), a ≤ l.length ∧ l.length - a ≤ k ∧ ts.length ≤ a ∧ allFr l = (ts ++ (allF k (l.drop a)).1, a + (allF k (l.drop a)).2.1, (allF k (l.drop a)).2.2) ∧
    OwnR H 1 ts.length v (bbV ts) ∧ T 0 = immB l none ∧ T 5 = v ∧ T 6 = .int .i64 a
theorem k_rFrames (l : List UInt8) (hl : l.length ≤ 2 ^ 40) : CC PP F_Rref1_Frames [immB l none] Heap.nil (fun u H' => ∃ v, u = .tup (v :: [.int .i64 (allFr l).2.1, .int .i64 (allFr l).2.2]) ∧ OwnR H' 1 (allFr l).1.length v (bbV (allFr l).1)) := by
  refine CC.by_vc ok_Rref1_Frames (by simp) ?_
  unfold c_Rref1_Frames
  simp
  refine LoopV.mk2 (I_rall l) l.length ⟨0, [], .nils, by omega, by omega, by simp, by simp [allFr], ⟨rfl, .inl ⟨rfl, rfl⟩⟩, by simp, by simp, by simp⟩ ?_
  rintro k T H ⟨a, ts, v, ha, hk, hts, hres, ho, t0, t2, t3⟩
  by_cases hlt : a < l.length
  · obtain ⟨k, rfl⟩ : ∃ k', k = k' + 1 := ⟨k - 1, by omega⟩
    have hne : l.drop a ≠ [] := fun e => by have := congrArg List.length e; simp at this; omega
    have hli : (a : Int) < l.length := by omega
    have hdl : (l.drop a).length = l.length - a := by simp
    have hd : List.take (l.length - a) (List.drop a (bytesV l)) = bytesV (l.drop a) := by
      rw [List.take_of_length_le (by simp [bytesV_length])]; unfold bytesV; rw [List.map_drop]
    simp [t0, t2, t3, immB, hlt]
    refine ⟨⟨by omega, bytesV_length _⟩, ?_⟩
    rw [hd, ← hdl]
    refine CallK.pure (immF (p_rGetFrame (l.drop a) (by omega))) ?_
    rintro _ rfl
    have hgo := getFrame_ok (l := l.drop a)
    simp only [allF, if_neg hne] at hres
    generalize hg : getFrame (l.drop a) = g at *
    obtain ⟨t, m, e⟩ := g
    by_cases he : e = 0
    · subst he
      simp at hres hgo
      simp [t0, t2, t3, immB, ho.un]
      refine vcAp_row (.inl ho) (new := [immB t none]) (m := 1) rfl rfl rfl (by omega) rfl (by omega) (.inl (by simp)) ?_
      intro v' H' ho' _ _
      simp [t3, ho'.un]
      refine Again2.mk k (by omega) ⟨a + m, ts ++ [t], v', by omega, by omega, by simp; omega, ?_, ?_, by simp [t0, immB], by simp, ?_⟩
      · rw [hres]; simp [Nat.add_assoc]
      · simpa [bbV] using ho'
      · simp; rw [wrap_i64 (by omega) (by omega)]
    · simp [he] at hres
      simp [t0, t2, t3, immB, he, ho.un]
      rw [hres]
      exact ⟨v, ⟨rfl, rfl, rfl⟩, ho⟩
  · have hd : l.drop a = [] := List.drop_eq_nil_of_le (by omega)
    rw [hd, allF_nil] at hres
    have hli : ¬ (a : Int) < l.length := by omega
    simp [t0, t2, t3, immB, hlt, ho.un]
    simp at hres
    rw [hres]
    exact ⟨v, ⟨rfl, rfl, rfl⟩, ho⟩
theorem p_rFrames (l : List UInt8) (hl : l.length ≤ 2 ^ 40) : CP PP F_Rref1_Frames [immB l none] (fun u => u = RAll (allFr l)) := holdT (k_rFrames l hl)
end Go.Proofs.Ytffifddlooligaa
