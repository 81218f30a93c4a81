/- A byte more turns the sum; two bytes changed for one another, too. -/
import Derived.Test.YtffifddlooligaaL3
set_option linter.unusedVariables false
set_option linter.unusedSimpArgs false
set_option maxRecDepth 100000
namespace Go.Sf
/-- A place and the one behind it in a row, out of any number. -/
theorem place2 {at' : Int} {n : Nat} (h0 : -9223372036854775808 ≤ at') (h1 : at' ≤ 9223372036854775807) (hn : 2 ≤ n) (hn2 : n < 2 ^ 40) :
    ∃ i : Nat, i + 1 < n ∧ (IntKind.i64.wrap (IntKind.i64.wrap (at'.tmod (IntKind.i64.wrap ((n : Int) - 1)) + n) - 1)).tmod (IntKind.i64.wrap ((n : Int) - 1)) = i := by
  have e : IntKind.i64.wrap ((n : Int) - 1) = ((n - 1 : Nat) : Int) := by rw [wrap_i64 (by omega) (by omega)]; omega
  rw [e]
  have hb : (at'.tmod ((n - 1 : Nat) : Int)).natAbs < n - 1 := by
    have := Int.natAbs_tmod at' ((n - 1 : Nat) : Int)
    rw [this]; simp only [Int.natAbs_natCast]; exact Nat.mod_lt _ (by omega)
  generalize at'.tmod ((n - 1 : Nat) : Int) = t at *
  rw [wrap_i64 (n := t + (n : Int)) (by omega) (by omega), wrap_i64 (n := t + (n : Int) - 1) (by omega) (by omega)]
  obtain ⟨k, hk⟩ := Int.eq_ofNat_of_zero_le (show 0 ≤ t + n - 1 by omega)
  rw [hk]
  have := Nat.mod_lt k (show 0 < n - 1 by omega)
  exact ⟨k % (n - 1), by omega, rfl⟩
theorem split2 {b : List UInt8} {i : Nat} (h : i + 1 < b.length) : ∃ p x y q, p.length = i ∧ b = p ++ x :: y :: q :=
  ⟨b.take i, b[i], b[i + 1], b.drop (i + 2), by simp; omega, by
    rw [← List.drop_eq_getElem_cons h, ← List.drop_eq_getElem_cons (show i < b.length by omega), List.take_append_drop]⟩
theorem swap_facts {b : List UInt8} {i : Nat} (h : i + 1 < b.length) : ((sumL b = sumL ((b.set i b[i + 1]).set (i + 1) b[i])) ↔ b[i + 1] = b[i]) ∧
    ((b.set i b[i + 1]).set (i + 1) b[i])[i]? = some b[i + 1] ∧ ((b.set i b[i + 1]).set (i + 1) b[i])[i + 1]? = some b[i] := by
  obtain ⟨p, x, y, q, hp, rfl⟩ := split2 h
  subst hp
  simp [List.set_append, List.getElem_append]
  rw [sum_swapped]
  exact eq_comm
end Go.Sf
namespace Go.Proofs.Ytffifddlooligaa
open Go.Sf
attribute [local simp] s_skip s_ops s_draw s_any s_contA s_tdone s_ttwo s_top_p s_top_pick s_top_e s_top_g s_seq s_cond s_block s_loop s_exit s_ret s_mark s_then_n s_then_e s_then_r s_in_n s_in_e s_in_r s_contC s_contO s_contQ s_contT s_nil s_cons_p s_cons_pick s_cons_e s_cons_g s_qnil s_qcons_p s_qcons_pick s_qcons_e s_qcons_g s_M s_Mg s_Mq s_Mqg s_G_p s_G_pick s_G_e s_Gq_p s_Gq_pick s_Gq_e s_if s_call s_callv s_qcall s_qcallv s_getAll_nil s_getAll_cons s_put_some s_put_none s_ev_t s_ev_c s_ev_f un evP evK argT resAV lenOf_nils lenOf_imm lenOf_sl lenOf_str optI slcV binV isShift binInt binStr shiftInt pickV unV s_append s_alloc s_box s_bslice s_Bs_t s_Bs_f s_store1 s_storeN s_St1 s_St s_s2b s_markb s_Mk s_mkslice s_qbslice s_qs2b s_ret_n s_ret_r s_retc_n s_retc_r s_RV_nil s_RV_t s_RV_c s_RV1 tupOf fillC kn_int cl_int on_int kn_bool cl_bool on_bool kn_str cl_str on_str kn_nilp cl_nilp on_nilp kn_ptr cl_ptr on_ptr kn_iptr cl_iptr on_iptr kn_nils cl_nils on_nils kn_sl cl_sl on_sl kn_imm cl_imm on_imm kn_mp cl_mp on_mp kn_nilm cl_nilm on_nilm kn_fn cl_fn on_fn kn_nilf cl_nilf on_nilf kn_agg cl_agg scalEq flatEq eqV s_mkmap s_mset s_mdel mapOf s_Mg_n s_Mqg_n s_gw_b s_gw_u s_gw_gb s_gw_f
theorem p_SumEnd (lb : List UInt8) (hlb : lb.length < 2 ^ 63) (at' : Int) (ha0 : IntKind.i64.min ≤ at') (ha1 : at' ≤ IntKind.i64.max) (x : Nat) (hx : x < 256) :
    CP PP F_Rlaw1_SumEnd [immB lb none, .int .i64 at', .int .u8 x] (fun v => v = .bool true) := by
  have ha0' : -9223372036854775808 ≤ at' := ha0
  have ha1' : at' ≤ 9223372036854775807 := ha1
  refine CP.by_vc ok_Rlaw1_SumEnd (by simp) ?_
  unfold c_Rlaw1_SumEnd
  simp
  refine CallK.pure p_begun ?_
  rintro _ rfl
  simp [immB]
  refine CallK.pure (CP.imm (p_short (a := immB lb none) (.inr ⟨none, rfl⟩) 250 (by omega) hlb)) ?_
  rintro _ rfl
  have h20 : (lb.take 250).length ≤ 250 := by simp; omega
  generalize lb.take 250 = b at *
  simp [immB]
  refine CallK.pure (p_sumOf (bb_one b none (some 1)) (by simp) (by simp; omega)) ?_
  rintro _ rfl
  simp
  refine CallK.pure (p_sumOf (ls := [b, [UInt8.ofNat x]]) ?_ (by simp) (by simp; omega)) ?_
  · refine .inr ⟨_, some 2, rfl, rfl, fun i w m h1 h2 => ?_⟩
    rcases i with _ | _ | i
    · simp at h1 h2; subst h1; subst h2; exact .inr ⟨none, rfl⟩
    · simp at h1 h2; subst h1; subst h2; exact .inr ⟨some 1, by simp [immB, bytesV, byteV, Nat.mod_eq_of_lt hx]⟩
    · simp at h1
  rintro _ rfl
  have hm := sum_more h20 (UInt8.ofNat x)
  have hm' : ¬ ((sumL b : Nat) : Int) = ((sumL (b ++ [UInt8.ofNat x]) : Nat) : Int) := by omega
  simp only [List.flatten_cons, List.flatten_nil, List.append_nil]
  simp [hm']
  intro h2
  obtain ⟨i, hi, hpl⟩ := place2 ha0' ha1' (n := b.length) (by omega) (by omega)
  have hn1 : ¬ IntKind.i64.wrap ((b.length : Int) - 1) = 0 := by rw [wrap_i64 (by omega) (by omega)]; omega
  refine ⟨hn1, ?_⟩
  simp only [hpl]
  refine app_row (IsB.imm b none) (by omega) ?_
  intro v1 H1 ho1 _
  obtain ⟨bk, cp, rfl, hb, hcp, hlen⟩ := own_sl ho1 (by omega)
  have w1 : IntKind.i64.wrap ((i : Int) + 1) = ((i + 1 : Nat) : Int) := by rw [wrap_i64 (by omega) (by omega)]; omega
  have hge : (bytesV b)[i]'(by rw [bytesV_length]; omega) = .int .u8 b[i].toNat := by simp [bytesV, byteV]
  have hge1 : (bytesV b)[i + 1]'(by rw [bytesV_length]; omega) = .int .u8 b[i + 1].toNat := by simp [bytesV, byteV]
  have hi0 : i < b.length := by omega
  have lt : ∀ a c : Nat, (a : Int) < c ↔ a < c := fun a c => by omega
  have hset0 : ∀ (l : List UInt8) (j : Nat) (y : UInt8), (bytesV l).set j (AV.int .u8 (y.toNat : Int)) = bytesV (l.set j y) := fun l j y => by
    unfold bytesV; rw [List.map_set]; rfl
  have hp0 : (0 : Int) ≤ (i : Int) + 1 := by omega
  have hp1 : (i : Int) + 1 < b.length := by omega
  refine (have tail : ∀ (T : Nat → AV) (H : Heap), T 0 = immB b none → T 8 = .int .i64 i → T 9 = .sl bk 0 b.length cp → H bk = some (.cells (bytesV ((b.set i b[i + 1]).set (i + 1) b[i])) cp) → MarkV ?R ⟨T, H⟩ ?Q := ?tl
    ?main)
  case main =>
    simp [w1, hb, hge, hge1, hi, hi0, bytesV_length, hset0, hp0, hp1, Heap.set_self, Heap.set_set]
    repeat' apply And.intro
    all_goals (refine tail _ _ ?_ ?_ ?_ (Heap.set_self _ _ _) <;> simp [immB])
  case tl =>
    intro T H t0 t8 t9 hH
    refine MarkV.frz 9 (b := bk) (n := b.length) (c := cp) (k := cp) (cs := bytesV ((b.set i b[i + 1]).set (i + 1) b[i])) t9 hH hcp ?_
    simp [t0, t8, t9, immB]
    refine CallQ.of (p_sumOf (bb_one b none (some 1)) (by simp) (by simp; omega)) ?_
    simp [t0, t8, t9, immB]
    refine CallQ.of (p_sumOf (ls := [(b.set i b[i + 1]).set (i + 1) b[i]]) ?_ (by simp) (by simp; omega)) ?_
    · have := bb_one ((b.set i b[i + 1]).set (i + 1) b[i]) none (some 1)
      simpa [immB] using this
    obtain ⟨f1, f2, f3⟩ := swap_facts hi
    generalize (b.set i b[i + 1]).set (i + 1) b[i] = c at *
    have g1 : (bytesV c)[i]? = some (.int .u8 b[i + 1].toNat) := by unfold bytesV; rw [List.getElem?_map, f2]; rfl
    have g2 : (bytesV c)[i + 1]? = some (.int .u8 b[i].toNat) := by unfold bytesV; rw [List.getElem?_map, f3]; rfl
    simp [t0, t8, t9, immB, w1, hp0, hp1, g1, g2, hi, hi0]
    rw [Int.ofNat_inj, Int.ofNat_inj, f1]
    exact ⟨fun h => by rw [h], fun h => UInt8.toNat_inj.1 h⟩
end Go.Proofs.Ytffifddlooligaa
