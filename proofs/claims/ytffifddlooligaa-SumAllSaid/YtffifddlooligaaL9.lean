/- Sums of bytes, at once, part by part. -/
import Derived.Test.YtffifddlooligaaL8
set_option linter.unusedVariables false
set_option linter.unusedSimpArgs false
set_option maxRecDepth 100000
namespace Go.Proofs.Ytffifddlooligaa
open Go.Sf
attribute [local simp] s_skip s_ops s_draw s_any s_contA s_tdone s_ttwo s_top_p s_top_pick s_top_e s_top_g s_seq s_cond s_block s_loop s_exit s_ret s_mark s_then_n s_then_e s_then_r s_in_n s_in_e s_in_r s_contC s_contO s_contQ s_contT s_nil s_cons_p s_cons_pick s_cons_e s_cons_g s_qnil s_qcons_p s_qcons_pick s_qcons_e s_qcons_g s_M s_Mg s_Mq s_Mqg s_G_p s_G_pick s_G_e s_Gq_p s_Gq_pick s_Gq_e s_if s_call s_callv s_qcall s_qcallv s_getAll_nil s_getAll_cons s_put_some s_put_none s_ev_t s_ev_c s_ev_f un evP evK argT resAV lenOf_nils lenOf_imm lenOf_sl lenOf_str optI slcV binV isShift binInt binStr shiftInt pickV unV s_append s_alloc s_box s_bslice s_Bs_t s_Bs_f s_store1 s_storeN s_St1 s_St s_s2b s_markb s_Mk s_mkslice s_qbslice s_qs2b s_ret_n s_ret_r s_retc_n s_retc_r s_RV_nil s_RV_t s_RV_c s_RV1 tupOf fillC kn_int cl_int on_int kn_bool cl_bool on_bool kn_str cl_str on_str kn_nilp cl_nilp on_nilp kn_ptr cl_ptr on_ptr kn_iptr cl_iptr on_iptr kn_nils cl_nils on_nils kn_sl cl_sl on_sl kn_imm cl_imm on_imm kn_mp cl_mp on_mp kn_nilm cl_nilm on_nilm kn_fn cl_fn on_fn kn_nilf cl_nilf on_nilf kn_agg cl_agg scalEq flatEq eqV s_mkmap s_mset s_mdel mapOf s_Mg_n s_Mqg_n s_gw_b s_gw_u s_gw_gb s_gw_f
theorem k_sumNew' {H : Heap} : CC PP F_sum_New [] H (fun v H' => ∃ b, v = .ptr b 0 ∧ SumAt H' b (1, 0) ∧ H b = none ∧ ∀ c, H c ≠ none → H' c = H c) := by
  refine CC.frameN k_sumNew (Sub.nil H) fun v H1' ⟨b, hv, hb⟩ hnew => ⟨b, hv, ?_, ?_, ?_⟩
  · unfold SumAt at *; rw [Heap.over_new (hnew b rfl (by rw [hb]; simp))]; exact hb
  · exact hnew b rfl (by unfold SumAt at hb; rw [hb]; simp)
  · intro c hc; rw [Heap.over_out rfl hc]
def one (b : Nat) (x : Option Blk) : Heap := fun c => if c = b then x else none
theorem k_sumAdd' {H : Heap} {b : Nat} {p : Nat × Nat} {v : AV} {ls : List (List UInt8)} (hv : IsBB v ls) (hp : okA p) (hb : SumAt H b p) (hl : ls.length < 2 ^ 62) (hls : ∀ l ∈ ls, l.length < 2 ^ 62) :
    CC PP F_sum_Sum_Add [.ptr b 0, v] H (fun u H' => u = .ptr b 0 ∧ SumAt H' b (ls.flatten.foldl stepA p) ∧ ∀ c, c ≠ b → H c ≠ none → H' c = H c) := by
  have h1 : SumAt (one b (H b)) b p := by unfold SumAt one at *; simp [hb]
  refine CC.frameN (k_sumAdd hv hp h1 hl hls) (H := H) (fun c => ?_) fun u H1' ⟨hu, hs⟩ hnew => ⟨hu, ?_, ?_⟩
  · by_cases hc : c = b
    · subst hc; exact .inl (by simp [one])
    · exact .inr (by simp [one, hc])
  · unfold SumAt at hs h1 ⊢
    rw [Heap.over_in (by rw [h1]; simp)]; exact hs
  · intro c hc hn
    rw [Heap.over_out (by unfold one; simp [hc]) hn]
theorem bb_map (ls : List (List UInt8)) (c : Option Nat) : IsBB (.imm (ls.map fun l => immB l none) ls.length c) ls := .inr ⟨_, c, rfl, by simp, fun i w l h1 h2 => by
  rw [List.getElem?_map, h2] at h1
  simp at h1; subst h1; exact .inr ⟨none, rfl⟩⟩
def I_sa (b : List UInt8) (cs : List Int) (s : Nat) (k : Nat) (T : Nat → AV) (H : Heap) : Prop :=
  ∃ (j a : Nat) (ls : List (List UInt8)) (v : AV), j + k = cs.length ∧ j ≤ 12 ∧ a ≤ b.length ∧ ls.length = j ∧ ls.flatten = b.take a ∧ (∀ l ∈ ls, l.length ≤ 400) ∧ OwnR H 1 ls.length v (ls.map fun l => immB l none) ∧ (∀ x, blkOf v = some x → x ≠ s) ∧
    T 0 = immB b none ∧ T 1 = immI .i64 cs ∧ T 6 = .ptr s 0 ∧ T 7 = v ∧ T 8 = .int .i64 a ∧ T 9 = .int .i64 j ∧ SumAt H s ((b.take a).foldl stepA (1, 0))
theorem p_SumAll (lb : List UInt8) (hlb : lb.length < 2 ^ 63) (cs : List Int) (hcs : cs.length < 2 ^ 63) (bc : ∀ n ∈ cs, IntKind.i64.min ≤ n ∧ n ≤ IntKind.i64.max) :
    CP PP F_Rlaw1_SumAll [immB lb none, .imm (cs.map (.int .i64 ·)) cs.length none] (fun v => v = .bool true) := by
  refine CP.by_vc ok_Rlaw1_SumAll (by simp) ?_
  unfold c_Rlaw1_SumAll
  simp
  refine CallK.pure p_begun ?_
  rintro _ rfl
  simp [immB]
  refine CallK.pure (CP.imm (p_short (a := immB lb none) (.inr ⟨none, rfl⟩) 400 (by omega) hlb)) ?_
  rintro _ rfl
  have h20 : (lb.take 400).length ≤ 400 := by simp; omega
  generalize lb.take 400 = b at *
  simp [immB]
  refine CallK.of k_sumNew' ?_
  rintro _ H1 ⟨s, rfl, hs, _, _⟩
  simp
  refine LoopV.mk2 (I_sa b cs s) cs.length ⟨0, 0, [], .nils, by omega, by omega, by omega, rfl, by simp, by simp, ⟨rfl, .inl ⟨rfl, rfl⟩⟩, by simp [blkOf], by simp [immB], by simp [immI], by simp, by simp, by simp, by simp, by simpa using hs⟩ ?_
  clear hs
  rintro k T H ⟨j, a, ls, v, hj, hj12, ha, hlj, hfl, hle, ho, hvs, t0, t1, t6, t7, t8, t9, hs⟩
  by_cases hk : j < cs.length ∧ j < 12
  · obtain ⟨hk1, hk2⟩ := hk
    have hz := bc cs[j] (by simp)
    obtain ⟨r, hr, hpl⟩ := place hz.1 hz.2 (n := 40) (by omega) (by omega)
    simp at hpl
    have hk2' : (j : Int) < 12 := by omega
    obtain ⟨e, he1, he2, hE⟩ : ∃ e : Nat, a ≤ e ∧ e ≤ b.length ∧ (if (b.length : Int) < IntKind.i64.wrap ((a : Int) + (r : Int)) then (b.length : Int) else IntKind.i64.wrap ((a : Int) + (r : Int))) = e := by
      rw [wrap_i64 (by omega) (by omega)]
      by_cases h : (b.length : Int) < (a : Int) + r
      · exact ⟨b.length, ha, Nat.le_refl _, if_pos h⟩
      · exact ⟨a + r, by omega, by omega, by rw [if_neg h]; omega⟩
    have hpart : List.take (e - a) (List.drop a (bytesV b)) = bytesV ((b.drop a).take (e - a)) := by unfold bytesV; rw [List.map_take, List.map_drop]
    have hplen : ((b.drop a).take (e - a)).length = e - a := by simp; omega
    have htk : b.take e = b.take a ++ (b.drop a).take (e - a) := by
      rw [← List.take_append_drop a (b.take e), List.take_take, List.drop_take]; congr 2; omega
    generalize hP : (b.drop a).take (e - a) = P at *
    simp [t0, t1, t6, t7, t8, t9, immI, hk1, hk2', immB, hpl, ho.un, hE]
    refine ⟨⟨by omega, by omega, bytesV_length _⟩, ?_⟩
    rw [hpart, ← hplen]
    refine vcAp_row (.inl ho) (new := [immB P none]) (m := 1) rfl rfl rfl (by omega) rfl (by omega) (.inl (by simp)) ?_
    intro v' H' ho' hkeep hfr
    have hs' : SumAt H' s ((b.take a).foldl stepA (1, 0)) := by
      unfold SumAt at *; rw [hkeep s (fun h => hvs s h rfl) (by rw [hs]; simp)]; exact hs
    simp [t0, t6, t8, immB, hE, ho'.un]
    refine ⟨⟨by omega, by omega, bytesV_length _⟩, ?_⟩
    rw [hpart, ← hplen]
    refine CallK.of (k_sumAdd' (ls := [P]) ?_ (okA.fold _ ⟨by omega, by omega⟩) hs' (by simp) (by simp; omega)) ?_
    · have := bb_one P none (some 1)
      simpa [immB] using this
    rintro _ H2 ⟨rfl, hs2, hk2⟩
    simp [t6, t9]
    refine Again2.mk (k - 1) (by omega) ⟨j + 1, e, ls ++ [P], v', by omega, by omega, he2, by simp [hlj], by simp [hfl, htk], ?_, ?_, ?_, by simp [t0, immB], by simp [t1, immI], by simp [t6], by simp, by simp, ?_, ?_⟩
    · intro l hl
      rw [List.mem_append] at hl
      rcases hl with hl | hl
      · exact hle l hl
      · simp at hl; subst hl; omega
    · have : OwnR H' 1 (ls ++ [P]).length v' ((ls ++ [P]).map fun l => immB l none) := by simpa using ho'
      obtain ⟨q1, ⟨q2, q3⟩ | ⟨x, c, rfl, q2, q3⟩⟩ := this
      · exact ⟨q1, .inl ⟨q2, q3⟩⟩
      · refine ⟨q1, .inr ⟨x, c, rfl, ?_, q3⟩⟩
        rw [hk2 x (fun hx => ?_) (by rw [q2]; simp)]
        · exact q2
        · subst hx
          rcases hfr x rfl with h | h
          · unfold SumAt at hs; rw [hs] at h; cases h
          · exact hvs x h rfl
    · intro x hx hxs
      subst hxs
      rcases hfr x hx with h | h
      · unfold SumAt at hs; rw [hs] at h; cases h
      · exact hvs x h rfl
    · simp; rw [wrap_i64 (by omega) (by omega)]
    · rw [htk, List.foldl_append]; simpa using hs2
  · have hj2 : ¬ (j < cs.length ∧ (j : Int) < 12) := fun h => hk ⟨h.1, by omega⟩
    have hcond : (if j < cs.length then decide ((j : Int) < 12) else false) = false := by
      split
      · rename_i h; simp; omega
      · rfl
    simp [t0, t1, t6, t7, t8, t9, immI, immB, ho.un]
    refine ⟨fun h1 h2 => absurd ⟨h1, h2⟩ hj2, fun _ => ⟨⟨ha, bytesV_length _⟩, ?_⟩⟩
    have hpart : List.take (b.length - a) (List.drop a (bytesV b)) = bytesV (b.drop a) := by
      rw [List.take_of_length_le (by simp [bytesV_length])]; unfold bytesV; rw [List.map_drop]
    have hplen : (b.drop a).length = b.length - a := by simp
    have htk : b.take a ++ b.drop a = b := List.take_append_drop a b
    generalize b.drop a = P at *
    rw [hpart, ← hplen]
    refine vcAp_hold (.inl ho) (new := [immB P none]) (m := 1) rfl rfl rfl (by omega) ?_
    intro H' hkeep
    have hs' : SumAt H' s ((b.take a).foldl stepA (1, 0)) := by
      unfold SumAt at *; rw [hkeep s (fun h => hvs s h rfl) (by rw [hs]; simp)]; exact hs
    simp [t0, t6, t8, immB]
    refine ⟨⟨ha, bytesV_length _⟩, ?_⟩
    rw [hpart, ← hplen]
    refine CallK.of (k_sumAdd' (ls := [P]) ?_ (okA.fold _ ⟨by omega, by omega⟩) hs' (by simp) (by simp; omega)) ?_
    · have := bb_one P none (some 1)
      simpa [immB] using this
    rintro _ H2 ⟨rfl, hs2, _⟩
    simp [t0, immB]
    refine CallK.pure (p_rSum (l := b) (.inr ⟨none, rfl⟩) (by omega)) ?_
    rintro _ rfl
    simp [t0, immB]
    refine CallK.pure (p_sumOf (bb_one b none (some 1)) (by simp) (by simp; omega)) ?_
    rintro _ rfl
    simp
    have hbb : IsBB (.imm (ls.map (fun l => immB l none) ++ [immB P none]) (ls.length + 1) none) (ls ++ [P]) := by
      have := bb_map (ls ++ [P]) none
      simpa using this
    have hlen' : ∀ l ∈ ls ++ [P], l.length < 2 ^ 62 := fun l hl => by
      rw [List.mem_append] at hl
      rcases hl with hl | hl
      · have := hle l hl; omega
      · simp at hl; subst hl; omega
    have hflat : (ls ++ [P]).flatten = b := by rw [List.flatten_append, hfl]; simpa using htk
    refine CallK.pure (p_sumOf (ls := ls ++ [P]) ?_ (by simp; omega) hlen') ?_
    · simpa [immB] using hbb
    rw [hflat]
    rintro _ rfl
    simp [t6]
    have hsum : ([P].flatten).foldl stepA ((b.take a).foldl stepA (1, 0)) = sumP b := by
      unfold sumP
      rw [← List.foldl_append]
      simp [htk]
    rw [hsum] at hs2
    refine CallK.of (k_sumVal (sumP_ok b) hs2) ?_
    rintro _ H3 rfl
    have hsl : (sumP b).2 * 65536 + (sumP b).1 = sumL b := rfl
    rw [hsl]
    simp
    refine CallK.of k_sumNew' ?_
    rintro _ H4 ⟨s2, rfl, hs4, _, _⟩
    simp
    refine CallK.of (k_sumAdd' (ls := ls ++ [P]) ?_ ⟨by omega, by omega⟩ hs4 (by simp; omega) hlen') ?_
    · simpa [immB] using hbb
    rw [hflat]
    rintro _ H5 ⟨rfl, hs5, _⟩
    simp
    refine CallK.of (k_sumVal (sumP_ok b) hs5) ?_
    rintro _ H6 rfl
    rw [hsl]
    simp
end Go.Proofs.Ytffifddlooligaa
