/- ListHundred. -/
import Derived.Test.YtcpfodhhjkaibaaGreatSB
import Derived.Test.YtcpfodhhjkaibaaGreatCF
set_option linter.unusedVariables false
set_option linter.unusedSimpArgs false
set_option maxRecDepth 100000
set_option maxHeartbeats 8000000
namespace Go.Proofs.YtcpfodhhjkaibaaGreat
open Go.Sf
attribute [local simp] s_skip s_ops s_draw s_any s_contA s_tdone s_ttwo s_top_p s_top_pick s_top_e s_top_g s_seq s_cond s_block s_loop s_exit s_ret s_mark s_then_n s_then_e s_then_r s_in_n s_in_e s_in_r s_contC s_contO s_contQ s_contT s_nil s_cons_p s_cons_pick s_cons_e s_cons_g s_qnil s_qcons_p s_qcons_pick s_qcons_e s_qcons_g s_M s_Mg s_Mq s_Mqg s_G_p s_G_pick s_G_e s_Gq_p s_Gq_pick s_Gq_e s_if s_call s_callv s_qcall s_qcallv s_getAll_nil s_getAll_cons s_put_some s_put_none s_ev_t s_ev_c s_ev_f un evP evK argT resAV lenOf_nils lenOf_imm lenOf_sl lenOf_str optI slcV binV isShift binInt binStr shiftInt pickV unV s_append s_alloc s_box s_bslice s_Bs_t s_Bs_f s_store1 s_storeN s_St1 s_St s_s2b s_markb s_Mk s_mkslice s_qbslice s_qs2b s_ret_n s_ret_r s_retc_n s_retc_r s_RV_nil s_RV_t s_RV_c s_RV1 tupOf fillC kn_int cl_int on_int kn_bool cl_bool on_bool kn_str cl_str on_str kn_nilp cl_nilp on_nilp kn_ptr cl_ptr on_ptr kn_iptr cl_iptr on_iptr kn_nils cl_nils on_nils kn_sl cl_sl on_sl kn_imm cl_imm on_imm kn_mp cl_mp on_mp kn_nilm cl_nilm on_nilm kn_fn cl_fn on_fn kn_nilf cl_nilf on_nilf kn_agg cl_agg scalEq flatEq eqV s_copy_i s_copy_s s_Cp s_clr s_clrn s_Cl s_appz s_Az s_ext s_Ov s_mapB s_mapBS s_rng s_rngn s_Rn s_nxt s_Nx0 s_ent s_mkmap s_mset s_mdel mapOf s_Mg_n s_Mqg_n s_gw_b s_gw_u s_gw_gb s_gw_f
theorem rep_int (n : Nat) : (List.replicate n ([AV.int IntKind.i64 0] : List AV)).flatten = intsV (List.replicate n 0) := by
  unfold intsV
  induction n with
  | zero => rfl
  | succ n ih => rw [List.replicate_succ, List.flatten_cons, ih, List.replicate_succ, List.map_cons]; rfl
theorem push_r (k : K3T) (ns : List Int) (L : CellsK (List Int)) : (pushL k ns L).2 = if (listK k L).length + ns.length ≤ 100 then 0 else 4 := by
  unfold pushL
  rw [List.length_append]
  by_cases h : 100 < (listK k L).length + ns.length
  · have h' : ¬ (listK k L).length + ns.length ≤ 100 := by omega
    simp only [h, h', if_true, if_false]
  · have h' : (listK k L).length + ns.length ≤ 100 := by omega
    simp only [h, h', if_true, if_false]
    split <;> rfl
theorem p_ListHundred (n : Int) (hn0 : IntKind.i64.min ≤ n) (hn1 : n ≤ IntKind.i64.max) (m : Int) (hm0 : IntKind.i64.min ≤ m) (hm1 : m ≤ IntKind.i64.max) : CP PP F_Rlaw7_ListHundred [.int .i64 n, .int .i64 m] (fun v => v = .bool true) := by
  refine CP.by_vc ok_Rlaw7_ListHundred (by simp) ?_
  unfold c_Rlaw7_ListHundred
  have b1 : -110 < n.tmod 110 ∧ n.tmod 110 < 110 := tmod_b n 110 (by omega)
  have b2 : -30 < m.tmod 30 ∧ m.tmod 30 < 30 := tmod_b m 30 (by omega)
  have w1 : IntKind.i64.wrap (n.tmod 110 + 110) = n.tmod 110 + 110 := wrap_i64 (by omega) (by omega)
  have w2 : IntKind.i64.wrap (m.tmod 30 + 30) = m.tmod 30 + 30 := wrap_i64 (by omega) (by omega)
  have e1 : (n.tmod 110 + 110).tmod 110 = (n.tmod 110 + 110) % 110 := Int.tmod_eq_emod_of_nonneg (by omega)
  have e2 : (m.tmod 30 + 30).tmod 30 = (m.tmod 30 + 30) % 30 := Int.tmod_eq_emod_of_nonneg (by omega)
  obtain ⟨a, ha, hal⟩ : ∃ a : Nat, (n.tmod 110 + 110).tmod 110 = a ∧ a < 110 := by
    rw [e1]
    obtain ⟨a, ha⟩ := Int.eq_ofNat_of_zero_le (show 0 ≤ (n.tmod 110 + 110) % 110 by omega)
    exact ⟨a, ha, by omega⟩
  obtain ⟨c, hc, hcl⟩ : ∃ c : Nat, (m.tmod 30 + 30).tmod 30 = c ∧ c < 30 := by
    rw [e2]
    obtain ⟨c, hc⟩ := Int.eq_ofNat_of_zero_le (show 0 ≤ (m.tmod 30 + 30) % 30 by omega)
    exact ⟨c, hc, by omega⟩
  have hkA : keyN 1 0 3 = (1, 0, 3) := by decide
  have hkB : keyN 1 1 3 = (1, 1, 3) := by decide
  simp
  refine CallK.pure p_begun7 ?_
  rintro _ rfl
  simp [w1, w2, ha, hc]
  refine CallK.of k_lNew ?_
  rintro _ H1 ⟨p, rfl, hp, hH1⟩
  have l1 : LstQ H1 p [] (fun x => x = p) := ⟨.nils, by rw [hH1]; exact Heap.set_self _ _ _, ⟨rfl, .inl ⟨rfl, rfl⟩⟩, (fun e => by cases e), okL_nil, fun x => by simp [blkOf]⟩
  simp
  refine CallK.pure (p_key 1 0 3) ?_
  rintro _ rfl
  simp
  refine CallK.pure (p_key 1 1 3) ?_
  rintro _ rfl
  rw [hkA, hkB]
  have k3A : (k3 (1, 0, 3)).length = 3 := rfl
  have k3B : (k3 (1, 1, 3)).length = 3 := rfl
  have oneA : ∀ x, x ∈ k3 (1, 0, 3) → x.one = true := fun x hx => List.all_eq_true.1 (show (k3 (1, 0, 3)).all AV.one = true from rfl) x hx
  have oneB : ∀ x, x ∈ k3 (1, 1, 3) → x.one = true := fun x hx => List.all_eq_true.1 (show (k3 (1, 1, 3)).all AV.one = true from rfl) x hx
  simp
  intro y hy
  simp
  intro z hz
  obtain ⟨nzy, -⟩ := Heap.fresh_ne hz
  simp [Heap.set_self, Heap.set_set, Heap.set_ne _ _ (Ne.symm nzy), k3A, k3B]
  refine ⟨oneA, ?_⟩
  refine ⟨oneB, ?_⟩
  simp [Heap.set_self, Heap.set_set, Heap.set_ne _ _ nzy, Heap.set_ne _ _ (Ne.symm nzy), k3B]
  have hzp : z ≠ p := fun e => by
    have := l1.live (x := p) rfl
    rw [e] at hz
    by_cases hyp : p = y
    · rw [hyp] at this; exact this hy
    · rw [Heap.set_ne _ _ hyp] at hz; exact this hz
  have hyp : y ≠ p := fun e => l1.live (x := p) rfl (by rw [← e]; exact hy)
  obtain ⟨H2, hH2⟩ : ∃ H2, H2 = ((((H1.set y (some (Blk.cells [AV.int IntKind.i64 0, AV.int IntKind.i64 0, AV.int IntKind.i64 0] 3))).set z (some (Blk.cells [AV.int IntKind.i64 0, AV.int IntKind.i64 0, AV.int IntKind.i64 0] 3))).set y (some (Blk.cells (k3 (1, 0, 3)) 3))).set z (some (Blk.cells (k3 (1, 1, 3)) 3))) := ⟨_, rfl⟩
  rw [← hH2]
  have y2 : H2 y = some (.cells (k3 (1, 0, 3)) 3) := by rw [hH2, Heap.set_ne _ _ (Ne.symm nzy), Heap.set_self]
  have z2 : H2 z = some (.cells (k3 (1, 1, 3)) 3) := by rw [hH2, Heap.set_self]
  have l2 : LstQ H2 p [] (fun x => x = p) := l1.keep fun x hx => by
    rw [hx, hH2, Heap.set_ne _ _ (Ne.symm hzp), Heap.set_ne _ _ (Ne.symm hyp), Heap.set_ne _ _ (Ne.symm hzp), Heap.set_ne _ _ (Ne.symm hyp)]
  clear hH2 hz hy hH1 hp l1
  generalize hkA' : ((1, 0, 3) : K3T) = kA at *
  generalize hkB' : ((1, 1, 3) : K3T) = kB at *
  have hAB : kA ≠ kB := by rw [← hkA', ← hkB']; decide
  have tA : (k3 kA).take 3 = k3 kA := rfl
  have tB : (k3 kB).take 3 = k3 kB := rfl
  simp [z2, tB, k3B]
  refine CallK.of (k_lPush l2 (by simp) kB (ns := [5]) (.inr ⟨_, rfl⟩) (by simp)) ?_
  rintro _ H3 ⟨rfl, F3, l3, u3⟩
  have y3 : H3 y = some (.cells (k3 kA) 3) := by rw [u3.1 y hyp (by rw [y2]; simp)]; exact y2
  have z3 : H3 z = some (.cells (k3 kB) 3) := by rw [u3.1 z hzp (by rw [z2]; simp)]; exact z2
  have y3F : ¬ F3 y := fun e => (u3.2 y e).elim hyp (by rw [y2]; simp)
  have z3F : ¬ F3 z := fun e => (u3.2 z e).elim hzp (by rw [z2]; simp)
  have okl : OkL ([] : CellsK (List Int)) := okL_nil
  have q3 : ∀ k, listK k (pushL kB [5] ([] : CellsK (List Int))).1 = if k = kB then [5] else [] := fun k => by
    rw [getK_push okl]
    by_cases e : k = kB
    · rw [if_pos ⟨e, by simp [listK, getK]⟩, if_pos e]; rfl
    · rw [if_neg (fun h => e h.1), if_neg e]; rfl
  have n3 : (pushL kB [5] ([] : CellsK (List Int))).1.length ≤ 1 := length_push _ _ _
  have ok3 : OkL (pushL kB [5] ([] : CellsK (List Int))).1 := okL_push okl
  generalize (pushL kB [5] ([] : CellsK (List Int))).1 = L3 at *
  have hrl : ∀ x : Nat, (List.replicate x (0 : Int)).length = x := fun x => by simp
  have acap : (a : Int) * 8 ≤ 140737488355328 := by omega
  have ccap : (c : Int) * 8 ≤ 140737488355328 := by omega
  simp [y3, tA, k3A, acap, show (a : Int) ≤ 9223372036854775807 by omega]
  have isA : ∀ x : Nat, IsIs (.imm (List.replicate x (AV.int IntKind.i64 0)) x (some x)) (List.replicate x 0) := fun x => .inr ⟨some x, by rw [hrl]; simp [intsV]⟩
  repeat' (refine And.intro ?_ ?_)
  all_goals
    refine CallK.of (k_lPush l3 (by omega) kA (isA a) (by rw [hrl]; omega)) ?_
    rintro _ H4 ⟨rfl, F4, l4, u4⟩
    have y4 : H4 y = some (.cells (k3 kA) 3) := by rw [u4.1 y y3F (by rw [y3]; simp)]; exact y3
    have z4 : H4 z = some (.cells (k3 kB) 3) := by rw [u4.1 z z3F (by rw [z3]; simp)]; exact z3
    have y4F : ¬ F4 y := fun e => (u4.2 y e).elim y3F (by rw [y3]; simp)
    have z4F : ¬ F4 z := fun e => (u4.2 z e).elim z3F (by rw [z3]; simp)
    have r4 := push_r kA (List.replicate a 0) L3
    rw [q3, if_neg hAB, hrl, List.length_nil, Nat.zero_add] at r4
    have q4 : ∀ k, listK k (pushL kA (List.replicate a 0) L3).1 = if k = kA then (if a ≤ 100 then List.replicate a 0 else []) else if k = kB then [5] else [] := fun k => by
      rw [getK_push ok3, q3, if_neg hAB, List.nil_append, hrl]
      by_cases e : k = kA
      · subst e
        rw [if_pos rfl]
        by_cases h : a ≤ 100
        · rw [if_pos ⟨rfl, h⟩, if_pos h]
        · rw [if_neg (fun x => h x.2), if_neg h, q3, if_neg hAB]
      · rw [if_neg (fun x => e x.1), if_neg e, q3]
    have n4 : (pushL kA (List.replicate a 0) L3).1.length ≤ 2 := by have := length_push kA (List.replicate a 0) L3; omega
    have ok4 : OkL (pushL kA (List.replicate a 0) L3).1 := okL_push ok3
    rw [r4]
    generalize (pushL kA (List.replicate a 0) L3).1 = L4 at *
    obtain ⟨hv, hhv, hhe⟩ : ∃ hv : Nat, hv ≤ 100 ∧ hv = if a ≤ 100 then a else 0 := by
      by_cases h : a ≤ 100
      · exact ⟨a, h, by rw [if_pos h]⟩
      · exact ⟨0, by omega, by rw [if_neg h]⟩
    have q4A : (listK kA L4).length = hv := by
      rw [q4, if_pos rfl, hhe]
      by_cases h : a ≤ 100
      · rw [if_pos h, if_pos h, hrl]
      · rw [if_neg h, if_neg h]; rfl
    by_cases h100 : a ≤ 100
    · have hva : hv = a := by rw [hhe, if_pos h100]
      have hz100 : ¬ (100 : Int) < a := by omega
      have haz : (a : Int) ≤ 100 := by omega
      simp [y4, tA, k3A, h100, hz100, ccap, show (c : Int) ≤ 9223372036854775807 by omega]
      repeat' (refine And.intro ?_ ?_)
      all_goals
        refine CallK.of (k_lPush l4 (by omega) kA (isA c) (by rw [hrl]; omega)) ?_
        rintro _ H5 ⟨rfl, F5, l5, u5⟩
        have y5 : H5 y = some (.cells (k3 kA) 3) := by rw [u5.1 y y4F (by rw [y4]; simp)]; exact y4
        have z5 : H5 z = some (.cells (k3 kB) 3) := by rw [u5.1 z z4F (by rw [z4]; simp)]; exact z4
        have y5F : ¬ F5 y := fun e => (u5.2 y e).elim y4F (by rw [y4]; simp)
        have r5 := push_r kA (List.replicate c 0) L4
        rw [q4A, hrl] at r5
        have q5 : ∀ k, listK k (pushL kA (List.replicate c 0) L4).1 = if k = kA ∧ hv + c ≤ 100 then listK kA L4 ++ List.replicate c 0 else listK k L4 := fun k => by rw [getK_push ok4, List.length_append, q4A, hrl]
        have n5 : (pushL kA (List.replicate c 0) L4).1.length ≤ 3 := by have := length_push kA (List.replicate c 0) L4; omega
        have ok5 : OkL (pushL kA (List.replicate c 0) L4).1 := okL_push ok4
        rw [r5]
        generalize (pushL kA (List.replicate c 0) L4).1 = L5 at *
        have q5B : listK kB L5 = [5] := by rw [q5, if_neg (fun h => hAB h.1.symm), q4, if_neg (Ne.symm hAB), if_pos rfl]
        have q5N : ∀ k, k ≠ kA → k ≠ kB → listK k L5 = [] := fun k h1 h2 => by rw [q5, if_neg (fun h => h1 h.1), q4, if_neg h1, if_neg h2]
        have q5A : (listK kA L5).length = if hv + c ≤ 100 then hv + c else hv := by
          rw [q5]
          by_cases h : hv + c ≤ 100
          · rw [if_pos ⟨rfl, h⟩, if_pos h, List.length_append, q4A, hrl]
          · rw [if_neg (fun x => h x.2), if_neg h, q4A]
        have l6L : ∀ k, listK k (clearL kA L5).1 = if k = kB then [5] else [] := fun k => by
          rw [listK_clear ok5]
          by_cases e : k = kA
          · subst e; rw [if_pos rfl, if_neg hAB]
          · rw [if_neg e]
            by_cases e2 : k = kB
            · subst e2; rw [if_pos rfl, q5B]
            · rw [if_neg e2, q5N k e e2]
        have ok6 : OkL (clearL kA L5).1 := okL_clear ok5
        have n6 : (clearL kA L5).1.length = 1 := by
          have := same_length (A := (clearL kA L5).1) (W := [(kB, ([5] : List Int))]) (sortedK_nodup ok6.1) (by simp) fun k => by
            have h1 := listK_none (k := k) ok6
            rw [l6L] at h1
            by_cases e : k = kB
            · subst e
              simp only [if_pos] at h1
              simp [getK]
              exact fun h => by have := h1.2 h; simp at this
            · rw [if_neg e] at h1
              have : getK k (clearL kA L5).1 = none := h1.1 rfl
              rw [this]; simp [getK, Ne.symm e]
          simpa using this
        have pn : pushL kA [] (clearL kA L5).1 = ((clearL kA L5).1, 0) := by
          unfold pushL
          rw [l6L, if_neg hAB]; simp
        by_cases h2 : hv + c ≤ 100
        · rw [if_pos h2] at q5A ⊢
          rw [hva] at h2 q5A
          have w5 : IntKind.i64.wrap ((a : Int) + (c : Int)) = (a : Int) + (c : Int) := wrap_i64 (by omega) (by omega)
          have hle : ¬ (100 : Int) < (a : Int) + (c : Int) := by omega
          simp [w5, hle, haz, y5, tA, k3A, show ¬ 100 < a + c by omega]
          refine CallK.of (k_lList l5 (by omega) kA) ?_
          rintro _ H6 ⟨rfl, rfl⟩
          simp [immI, q5A, z5, tB, k3B]
          refine CallK.of (k_lList l5 (by omega) kB) ?_
          rintro _ H6 ⟨rfl, rfl⟩
          simp [immI, q5B, y5, tA, k3A]
          refine CallK.of (k_lClear l5 (by omega) kA) ?_
          rintro _ H7 ⟨rfl, F7, l7, u7⟩
          have y7 : H7 y = some (.cells (k3 kA) 3) := by rw [u7.1 y y5F (by rw [y5]; simp)]; exact y5
          have y7F : ¬ F7 y := fun e => (u7.2 y e).elim y5F (by rw [y5]; simp)
          simp [q5A, y7, tA, k3A]
          refine CallK.of (k_lList l7 (by omega) kA) ?_
          rintro _ H8 ⟨rfl, rfl⟩
          rw [l6L, if_neg hAB]
          simp [immI, y7, tA, k3A]
          refine CallK.of (k_lPush l7 (by omega) kA (a := .nils) (ns := []) (.inl ⟨rfl, rfl⟩) (by simp)) ?_
          rw [pn]
          rintro _ H9 ⟨rfl, F9, l9, u9⟩
          simp
          refine CallK.of (k_keysL l9 (by simp only; omega)) ?_
          rintro _ H10 ⟨rfl, rfl⟩
          simp [keysI, n6]
        · rw [if_neg h2] at q5A ⊢
          rw [hva] at h2 q5A
          have w5 : IntKind.i64.wrap ((a : Int) + (c : Int)) = (a : Int) + (c : Int) := wrap_i64 (by omega) (by omega)
          have hle : (100 : Int) < (a : Int) + (c : Int) := by omega
          simp [w5, hle, haz, y5, tA, k3A, show 100 < a + c by omega]
          refine CallK.of (k_lList l5 (by omega) kA) ?_
          rintro _ H6 ⟨rfl, rfl⟩
          simp [immI, q5A, z5, tB, k3B]
          refine CallK.of (k_lList l5 (by omega) kB) ?_
          rintro _ H6 ⟨rfl, rfl⟩
          simp [immI, q5B, y5, tA, k3A]
          refine CallK.of (k_lClear l5 (by omega) kA) ?_
          rintro _ H7 ⟨rfl, F7, l7, u7⟩
          have y7 : H7 y = some (.cells (k3 kA) 3) := by rw [u7.1 y y5F (by rw [y5]; simp)]; exact y5
          have y7F : ¬ F7 y := fun e => (u7.2 y e).elim y5F (by rw [y5]; simp)
          simp [q5A, y7, tA, k3A]
          refine CallK.of (k_lList l7 (by omega) kA) ?_
          rintro _ H8 ⟨rfl, rfl⟩
          rw [l6L, if_neg hAB]
          simp [immI, y7, tA, k3A]
          refine CallK.of (k_lPush l7 (by omega) kA (a := .nils) (ns := []) (.inl ⟨rfl, rfl⟩) (by simp)) ?_
          rw [pn]
          rintro _ H9 ⟨rfl, F9, l9, u9⟩
          simp
          refine CallK.of (k_keysL l9 (by simp only; omega)) ?_
          rintro _ H10 ⟨rfl, rfl⟩
          simp [keysI, n6]
    · have hva : hv = 0 := by rw [hhe, if_neg h100]
      have hz100 : (100 : Int) < a := by omega
      simp [y4, tA, k3A, h100, hz100, ccap, show (c : Int) ≤ 9223372036854775807 by omega]
      repeat' (refine And.intro ?_ ?_)
      all_goals
        refine CallK.of (k_lPush l4 (by omega) kA (isA c) (by rw [hrl]; omega)) ?_
        rintro _ H5 ⟨rfl, F5, l5, u5⟩
        have y5 : H5 y = some (.cells (k3 kA) 3) := by rw [u5.1 y y4F (by rw [y4]; simp)]; exact y4
        have z5 : H5 z = some (.cells (k3 kB) 3) := by rw [u5.1 z z4F (by rw [z4]; simp)]; exact z4
        have y5F : ¬ F5 y := fun e => (u5.2 y e).elim y4F (by rw [y4]; simp)
        have r5 := push_r kA (List.replicate c 0) L4
        rw [q4A, hrl] at r5
        have q5 : ∀ k, listK k (pushL kA (List.replicate c 0) L4).1 = if k = kA ∧ hv + c ≤ 100 then listK kA L4 ++ List.replicate c 0 else listK k L4 := fun k => by rw [getK_push ok4, List.length_append, q4A, hrl]
        have n5 : (pushL kA (List.replicate c 0) L4).1.length ≤ 3 := by have := length_push kA (List.replicate c 0) L4; omega
        have ok5 : OkL (pushL kA (List.replicate c 0) L4).1 := okL_push ok4
        rw [r5]
        generalize (pushL kA (List.replicate c 0) L4).1 = L5 at *
        have q5B : listK kB L5 = [5] := by rw [q5, if_neg (fun h => hAB h.1.symm), q4, if_neg (Ne.symm hAB), if_pos rfl]
        have q5N : ∀ k, k ≠ kA → k ≠ kB → listK k L5 = [] := fun k h1 h2 => by rw [q5, if_neg (fun h => h1 h.1), q4, if_neg h1, if_neg h2]
        have q5A : (listK kA L5).length = if hv + c ≤ 100 then hv + c else hv := by
          rw [q5]
          by_cases h : hv + c ≤ 100
          · rw [if_pos ⟨rfl, h⟩, if_pos h, List.length_append, q4A, hrl]
          · rw [if_neg (fun x => h x.2), if_neg h, q4A]
        have l6L : ∀ k, listK k (clearL kA L5).1 = if k = kB then [5] else [] := fun k => by
          rw [listK_clear ok5]
          by_cases e : k = kA
          · subst e; rw [if_pos rfl, if_neg hAB]
          · rw [if_neg e]
            by_cases e2 : k = kB
            · subst e2; rw [if_pos rfl, q5B]
            · rw [if_neg e2, q5N k e e2]
        have ok6 : OkL (clearL kA L5).1 := okL_clear ok5
        have n6 : (clearL kA L5).1.length = 1 := by
          have := same_length (A := (clearL kA L5).1) (W := [(kB, ([5] : List Int))]) (sortedK_nodup ok6.1) (by simp) fun k => by
            have h1 := listK_none (k := k) ok6
            rw [l6L] at h1
            by_cases e : k = kB
            · subst e
              simp only [if_pos] at h1
              simp [getK]
              exact fun h => by have := h1.2 h; simp at this
            · rw [if_neg e] at h1
              have : getK k (clearL kA L5).1 = none := h1.1 rfl
              rw [this]; simp [getK, Ne.symm e]
          simpa using this
        have pn : pushL kA [] (clearL kA L5).1 = ((clearL kA L5).1, 0) := by
          unfold pushL
          rw [l6L, if_neg hAB]; simp
        by_cases h2 : hv + c ≤ 100
        · rw [if_pos h2] at q5A ⊢
          rw [hva] at h2 q5A
          have w5 : IntKind.i64.wrap (c : Int) = (c : Int) := wrap_i64 (by omega) (by omega)
          have hle : ¬ (100 : Int) < (c : Int) := by omega
          simp [w5, hle, hz100, show ¬ (a : Int) ≤ 100 by omega, y5, tA, k3A, show ¬ 100 < c by omega]
          refine CallK.of (k_lList l5 (by omega) kA) ?_
          rintro _ H6 ⟨rfl, rfl⟩
          simp [immI, q5A, z5, tB, k3B]
          refine CallK.of (k_lList l5 (by omega) kB) ?_
          rintro _ H6 ⟨rfl, rfl⟩
          simp [immI, q5B, y5, tA, k3A]
          refine CallK.of (k_lClear l5 (by omega) kA) ?_
          rintro _ H7 ⟨rfl, F7, l7, u7⟩
          have y7 : H7 y = some (.cells (k3 kA) 3) := by rw [u7.1 y y5F (by rw [y5]; simp)]; exact y5
          have y7F : ¬ F7 y := fun e => (u7.2 y e).elim y5F (by rw [y5]; simp)
          simp [q5A, y7, tA, k3A]
          refine CallK.of (k_lList l7 (by omega) kA) ?_
          rintro _ H8 ⟨rfl, rfl⟩
          rw [l6L, if_neg hAB]
          simp [immI, y7, tA, k3A]
          refine CallK.of (k_lPush l7 (by omega) kA (a := .nils) (ns := []) (.inl ⟨rfl, rfl⟩) (by simp)) ?_
          rw [pn]
          rintro _ H9 ⟨rfl, F9, l9, u9⟩
          simp
          refine CallK.of (k_keysL l9 (by simp only; omega)) ?_
          rintro _ H10 ⟨rfl, rfl⟩
          simp [keysI, n6]
        · rw [if_neg h2] at q5A ⊢
          rw [hva] at h2 q5A
          exact absurd h2 (by omega)
end Go.Proofs.YtcpfodhhjkaibaaGreat
