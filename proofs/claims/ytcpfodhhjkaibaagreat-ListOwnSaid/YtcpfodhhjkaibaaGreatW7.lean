/- ListOwn. -/
import Derived.Test.YtcpfodhhjkaibaaGreatSB
import Derived.Test.YtcpfodhhjkaibaaGreatCK
set_option linter.unusedVariables false
set_option linter.unusedSimpArgs false
set_option maxRecDepth 100000
set_option maxHeartbeats 8000000
namespace Go.Proofs.YtcpfodhhjkaibaaGreat
open Go.Sf
attribute [local simp] s_skip s_ops s_draw s_any s_contA s_tdone s_ttwo s_top_p s_top_pick s_top_e s_top_g s_seq s_cond s_block s_loop s_exit s_ret s_mark s_then_n s_then_e s_then_r s_in_n s_in_e s_in_r s_contC s_contO s_contQ s_contT s_nil s_cons_p s_cons_pick s_cons_e s_cons_g s_qnil s_qcons_p s_qcons_pick s_qcons_e s_qcons_g s_M s_Mg s_Mq s_Mqg s_G_p s_G_pick s_G_e s_Gq_p s_Gq_pick s_Gq_e s_if s_call s_callv s_qcall s_qcallv s_getAll_nil s_getAll_cons s_put_some s_put_none s_ev_t s_ev_c s_ev_f un evP evK argT resAV lenOf_nils lenOf_imm lenOf_sl lenOf_str optI slcV binV isShift binInt binStr shiftInt pickV unV s_append s_alloc s_box s_bslice s_Bs_t s_Bs_f s_store1 s_storeN s_St1 s_St s_s2b s_markb s_Mk s_mkslice s_qbslice s_qs2b s_ret_n s_ret_r s_retc_n s_retc_r s_RV_nil s_RV_t s_RV_c s_RV1 tupOf fillC kn_int cl_int on_int kn_bool cl_bool on_bool kn_str cl_str on_str kn_nilp cl_nilp on_nilp kn_ptr cl_ptr on_ptr kn_iptr cl_iptr on_iptr kn_nils cl_nils on_nils kn_sl cl_sl on_sl kn_imm cl_imm on_imm kn_mp cl_mp on_mp kn_nilm cl_nilm on_nilm kn_fn cl_fn on_fn kn_nilf cl_nilf on_nilf kn_agg cl_agg scalEq flatEq eqV s_copy_i s_copy_s s_Cp s_clr s_clrn s_Cl s_appz s_Az s_ext s_Ov s_mapB s_mapBS s_rng s_rngn s_Rn s_nxt s_Nx0 s_ent s_mkmap s_mset s_mdel mapOf s_Mg_n s_Mqg_n s_gw_b s_gw_u s_gw_gb s_gw_f
theorem k_lPushO {H : Heap} {p : Nat} {A : CellsK (List Int)} {F : Nat → Prop} (hV : LstQ H p A F) (hl : A.length < 2 ^ 28) (k : K3T) {b0 c0 : Nat} {ns : List Int} (hns : ns ≠ []) (hb0 : H b0 = some (.cells (intsV ns) c0)) (hc0 : ns.length ≤ c0) (hn : ns.length ≤ 2 ^ 32) :
    CC PP F_list_Lists_Push [.ptr p 0, .agg (k3 k), .sl b0 0 ns.length c0] H fun r H' => r = .int .i64 (pushL k ns A).2 ∧ ∃ F', LstQ H' p (pushL k ns A).1 F' ∧ UpdF F F' H H' := by
  have hkeep0 := hV
  refine CC.by_vc ok_list_Lists_Push (by simp) ?_
  unfold c_list_Lists_Push
  have hoA : OwnR H 1 ns.length (.sl b0 0 ns.length c0) (intsV ns) := ⟨by rw [intsV_length]; omega, .inr ⟨b0, c0, rfl, by rw [hb0, Nat.mul_one], hc0⟩⟩
  have hcA : ∀ H', H' b0 = H b0 → cellsOf H' 1 (.sl b0 0 ns.length c0) = some (intsV ns) := fun H' h => (hoA.agree fun x hx => by cases hx; exact h).cells
  have hunA : un (.sl b0 0 ns.length c0) = (True, .sl b0 0 ns.length c0) := rfl
  simp [hunA]
  intro b hb
  have hk3 : (k3 k).length = 3 := rfl
  have old : ∀ x, H x ≠ none → (H.set b (some (.cells (k3 k) 3))) x = H x := fun x hx => Heap.set_ne _ _ (fun h => hx (by rw [h]; exact hb))
  simp only [hk3]
  generalize hH1 : H.set b (some (.cells (k3 k) 3)) = H1 at *
  have hb1 : H1 b = some (.cells (k3 k) 3) := by rw [← hH1]; exact Heap.set_self _ _ _
  have hV1 : LstQ H1 p A F := hV.keep fun x hx => old x (hV.live hx)
  simp [hk3, hb1, tk3, hunA]
  refine CallK.of (k_lListM hV1 (by omega) k) ?_
  intro r H2 ⟨g1, g2, g3⟩
  have hunr := g1.un
  have hle : (listK k A).length ≤ 100 := listK_le (by obtain ⟨_, _, _, _, h, _⟩ := hV; exact h)
  simp [hunr, hunA]
  have hH2b : H2 b0 = H b0 := by
    have e1 : H1 b0 = H b0 := old b0 (by rw [hb0]; simp)
    rw [g2 b0 (by rw [e1, hb0]; simp), e1]
  have hbd : ((listK k A).length + ns.length) * 8 ≤ 140737488355328 := by omega
  refine vcAp_hold (n := (listK k A).length) (m := ns.length) (.inl g1) (hcA _ hH2b) rfl (intsV_one _) hbd ?_
  intro H3 g4
  have old3 : ∀ x, H x ≠ none → H3 x = H x := fun x hx => by
    have e1 : H1 x = H x := old x hx
    have e2 : H2 x = H1 x := g2 x (by rw [e1]; exact hx)
    rw [g4 x (fun e => by have := g3 x e; rw [e1] at this; exact hx this) (by rw [e2, e1]; exact hx), e2, e1]
  have hb3 : H3 b = some (.cells (k3 k) 3) := by
    have e2 : H2 b = H1 b := g2 b (by rw [hb1]; simp)
    rw [g4 b (fun e => by have := g3 b e; rw [hb1] at this; cases this) (by rw [e2, hb1]; simp), e2]; exact hb1
  have hV3 : LstQ H3 p A F := hV.keep fun x hx => old3 x (hV.live hx)
  clear g1 g2 g3 g4 hV1 hunr
  have hap : intsV (listK k A) ++ intsV ns = intsV (listK k A ++ ns) := (intsV_append _ _).symm
  have hlap : (listK k A).length + ns.length = (listK k A ++ ns).length := by rw [List.length_append]
  rw [hap]
  have same : pushL k ns A = (A, (pushL k ns A).2) → ∃ F', LstQ H3 p (pushL k ns A).1 F' ∧ UpdF F F' H H3 := fun e => by
    rw [e]; exact ⟨F, hV3, fun x hx hn => old3 x hn, fun x hx => .inl hx⟩
  by_cases hbig : 100 < (listK k A ++ ns).length
  · have hP : pushL k ns A = (A, 4) := by unfold pushL; rw [if_pos hbig]
    have hbz : (100 : Int) < ((listK k A).length : Int) + (ns.length : Int) := by rw [List.length_append] at hbig; omega
    simp [hbz]
    refine ⟨by rw [hP], same (by rw [hP])⟩
  have hbz : ¬ (100 : Int) < ((listK k A).length : Int) + (ns.length : Int) := by rw [List.length_append] at hbig; omega
  have hnl : ns.length ≠ 0 := fun e => hns (List.length_eq_zero_iff.1 e)
  have hP : pushL k ns A = (updK k (listK k A ++ ns) A, 0) := by unfold pushL; rw [if_neg hbig, if_neg hns]
  rw [hP]
  generalize hal : listK k A ++ ns = all at *
  have hone1 : (intsV all).all AV.one = true := intsV_one _
  generalize hN : (listK k A).length + ns.length = N at *
  simp [hbz, hns, hb3, tk3, hk3]
  have hN1 : (N : Int) ≤ 100 := by omega
  refine ⟨hN1, fun _ => ?_⟩
  clear same hcA hunA hV hkeep0 hoA hH2b
  obtain ⟨v, hp1, ho1, hne, hs, hF⟩ := hV3
  refine CallK.of (k_lAt hp1 ho1 hs.1 (by omega) k) ?_
  rintro _ H' ⟨rfl, rfl⟩
  have hvone : AV.one (.imm (intsV all) N none) = true := rfl
  cases hg : getK k A with
  | none =>
    have hle := posK_le k A
    have ins : CC PP F_slices_Insert_list_cell_list_cell [v, .int .i64 (posK k A), .imm (k3 k ++ [AV.nils]) 1 (some 1)] H' fun v2 H2 => ∃ bv c, v2 = .sl bv 0 (A.length + 1) c ∧ H2 bv = some (.cells (((A.take (posK k A)).flatMap encL) ++ ((k3 k ++ [AV.nils]) ++ ((A.drop (posK k A)).flatMap encL))) (c * 4)) ∧ A.length + 1 ≤ c ∧ H2 p = some (.cells [v] 1) ∧ bv ≠ p ∧
        (∀ x, blkOf v ≠ some x → H' x ≠ none → H2 x = H' x) ∧ (H' bv = none ∨ blkOf v = some bv) :=
      (k_insL ho1 (fm_one encL_one A) (x := k3 k ++ [AV.nils]) rfl rfl hle (by omega)).mono fun v2 H2 ⟨h1, h2, h3⟩ => by
        obtain ⟨bv, c, rfl, hbv, hc⟩ := h1.slOf (by omega)
        refine ⟨bv, c, rfl, ?_, hc, by rw [h2 p hne (by rw [hp1]; simp)]; exact hp1, fun e => ?_, h2, h3 bv rfl⟩
        · rw [hbv, fm_take encL_length, fm_drop encL_length]
        · rcases h3 bv rfl with h | h
          · rw [e, hp1] at h; cases h
          · exact hne (by rw [← e]; exact h)
    have hu : updK k all A = insK k all A := by unfold updK; rw [if_neg (by rw [hg]; simp)]
    have hst : (((A.take (posK k A)).flatMap encL) ++ ((k3 k ++ [AV.nils]) ++ ((A.drop (posK k A)).flatMap encL))).set (posK k A * 4 + 3) (.imm (intsV all) N none) = (insK k all A).flatMap encL := by
      have h1 : ((A.take (posK k A)).flatMap encL).length = posK k A * 4 := by rw [fm_length encL_length, List.length_take, Nat.min_eq_left hle]
      rw [List.set_append_right _ _ (by omega), h1, Nat.add_sub_cancel_left]
      unfold insK
      rw [List.flatMap_append, List.flatMap_cons]
      subst hN
      rw [hlap]
      rfl
    have hX : (((A.take (posK k A)).flatMap encL) ++ ((k3 k ++ [AV.nils]) ++ ((A.drop (posK k A)).flatMap encL))).length = (A.length + 1) * 4 := by
      simp only [List.length_append, fm_length encL_length, List.length_take, List.length_drop, hk3, List.length_cons, List.length_nil]; omega
    have hun := ho1.un
    have hso : OkL (insK k all A) := by
      have := okL_push (k := k) (ns := ns) hs
      rw [hP, hu] at this; exact this
    rw [hu]
    have hX2 := fm_length encL_length (insK k all A)
    have hln := insK_len k all A
    generalize ((A.take (posK k A)).flatMap encL) ++ ((k3 k ++ [AV.nils]) ++ ((A.drop (posK k A)).flatMap encL)) = X at *
    simp [hp1, hb3, tk3, hk3, hun]
    repeat' (refine And.intro ?_ ?_)
    all_goals
      refine CallK.of ins ?_
      rintro _ H2 ⟨bv, c, rfl, hbv, hc, hp2, hbp, hkeep, hfresh⟩
      simp [hp2, Heap.set_self, show posK k A < A.length + 1 by omega, Heap.set_ne _ _ hbp, hbv]
      rw [hst]
      refine ⟨by omega, by omega, fun x => x = p ∨ x = bv, ⟨.sl bv 0 (A.length + 1) c, by rw [Heap.set_ne _ _ (Ne.symm hbp), Heap.set_self], ⟨hX2, .inr ⟨bv, c, by rw [hln], Heap.set_self _ _ _, by rw [hln]; exact hc⟩⟩, fun e => hbp (by cases e; rfl), hso, fun x => by simp [blkOf, eq_comm]⟩, fun x hx hn => ?_, fun x hx => ?_⟩
      · have e1 : x ≠ p := fun e => hx ((hF x).2 (.inl e))
        have e2 : blkOf v ≠ some x := fun e => hx ((hF x).2 (.inr e))
        have e3 : x ≠ bv := fun e => by
          rcases hfresh with h | h
          · rw [← e, old3 x hn] at h; exact hn h
          · exact e2 (by rw [e]; exact h)
        rw [Heap.set_ne _ _ e3, Heap.set_ne _ _ e1, hkeep x e2 (by rw [old3 x hn]; exact hn), old3 x hn]
      · rcases hx with rfl | rfl
        · exact .inl ((hF _).2 (.inl rfl))
        · rcases hfresh with h | h
          · refine .inr (Classical.byContradiction fun hn => ?_)
            rw [old3 _ hn] at h; exact hn h
          · exact .inl ((hF _).2 (.inr h))
  | some u =>
    obtain ⟨h1, h2⟩ := at_there hs.1 hg
    obtain ⟨bv, c, rfl, hbv, hc⟩ := ho1.slOf (by omega)
    have hX := fm_length encL_length A
    have hst := fm_set1 (enc := encL) encL_length h1 (j := 3) (y := (k, all)) (v := .imm (intsV all) N none) (by omega) (by subst hN; rw [hlap]; rfl)
    have hu : updK k all A = A.set (posK k A) (k, all) := by unfold updK; rw [if_pos (by rw [hg]; rfl)]; rfl
    have hX2 := fm_length encL_length (A.set (posK k A) (k, all))
    have hso : OkL (updK k all A) := by
      have := okL_push (k := k) (ns := ns) hs
      rw [hP] at this; exact this
    rw [hu] at hso
    generalize hXe : A.flatMap encL = X at *
    simp [hp1, h2, hbv]
    rw [hst, hu]
    have hbp : bv ≠ p := fun e => hne (by rw [e]; rfl)
    refine ⟨by omega, F, ⟨.sl bv 0 A.length c, by rw [Heap.set_ne _ _ (Ne.symm hbp)]; exact hp1, ⟨hX2, .inr ⟨bv, c, by rw [List.length_set], Heap.set_self _ _ _, by rw [List.length_set]; exact hc⟩⟩, hne, hso, hF⟩, fun x hx hn => ?_, fun x hx => .inl hx⟩
    rw [Heap.set_ne _ _ (fun e => hx ((hF x).2 (.inr (by rw [e]; rfl))))]
    exact old3 x hn
def I_lo (p y bu cu : Nat) (A : CellsK (List Int)) (F : Nat → Prop) (cs : List Int) (a b c d e f r : Nat) (m : Nat) (T : Nat → AV) (H : Heap) : Prop :=
  ∃ (i : Nat) (l : List Int), i + m = r ∧ T a = .ptr p 0 ∧ T b = .ptr y 0 ∧ T c = .sl bu 0 r cu ∧ T d = .imm (intsV cs) r none ∧ T e = .int .i64 r ∧ T f = .int .i64 i ∧ l.length = r ∧ H bu = some (.cells (intsV l) cu) ∧
    H y = some (.cells [.int .i64 3, .int .i64 1, .int .i64 7] 3) ∧ LstQ H p A F
def I_lo3 (cs : List Int) (r : Nat) (m : Nat) (T : Nat → AV) (H : Heap) : Prop :=
  ∃ i : Nat, i + m = r ∧ T 11 = .imm (intsV cs) r none ∧ T 7 = .imm (intsV cs) r none ∧ T 63 = .int .i64 r ∧ T 64 = .int .i64 i
theorem p_ListOwn (ns : List Int) (hl : ns.length < 2 ^ 63) (hb : ∀ n ∈ ns, IntKind.i64.min ≤ n ∧ n ≤ IntKind.i64.max) : CP PP F_Rlaw7_ListOwn [.imm (intsV ns) ns.length none] (fun v => v = .bool true) := by
  refine CP.by_vc ok_Rlaw7_ListOwn (by simp) ?_
  unfold c_Rlaw7_ListOwn
  have hk0 : keyN 3 1 7 = (3, 1, 7) := by decide
  have hil := intsV_length ns
  simp
  refine CallK.pure p_begun7 ?_
  rintro _ rfl
  simp
  refine CallK.of k_lNew ?_
  rintro _ H1 ⟨p, rfl, hp, hH1⟩
  have l1 : LstQ H1 p [] (fun x => x = p) := ⟨.nils, by rw [hH1]; exact Heap.set_self _ _ _, ⟨rfl, .inl ⟨rfl, rfl⟩⟩, (fun e => by cases e), okL_nil, fun x => by simp [blkOf]⟩
  simp
  refine CallK.pure (p_key 3 1 7) ?_
  rintro _ rfl
  rw [hk0]
  simp only [k3]
  simp
  intro y hy
  simp [Heap.set_self, Heap.set_set]
  have l2 := l1.keep (H' := H1.set y (some (.cells [.int .i64 3, .int .i64 1, .int .i64 7] 3))) fun x hx => Heap.set_ne _ _ (fun e => l1.live hx (by rw [e]; exact hy))
  have yp : y ≠ p := fun e => l1.live e hy
  have y2 : (H1.set y (some (.cells [.int .i64 3, .int .i64 1, .int .i64 7] 3))) y = some (.cells [.int .i64 3, .int .i64 1, .int .i64 7] 3) := Heap.set_self _ _ _
  generalize H1.set y (some (.cells [.int .i64 3, .int .i64 1, .int .i64 7] 3)) = H2 at *
  intro b1 hb1
  have l3 := l2.keep (H' := H2.set b1 (some (.cells [.int .i64 4] 1))) fun x hx => Heap.set_ne _ _ (fun e => l2.live hx (by rw [e]; exact hb1))
  have bp : b1 ≠ p := fun e => l2.live e hb1
  have by' : b1 ≠ y := fun e => by rw [e, y2] at hb1; cases hb1
  have y3 : (H2.set b1 (some (.cells [.int .i64 4] 1))) y = some (.cells [.int .i64 3, .int .i64 1, .int .i64 7] 3) := by rw [Heap.set_ne _ _ (Ne.symm by')]; exact y2
  have o3 : OwnR (H2.set b1 (some (.cells [.int .i64 4] 1))) 1 1 (.sl b1 0 1 1) [.int .i64 4] := ⟨rfl, .inr ⟨b1, 1, rfl, Heap.set_self _ _ _, by omega⟩⟩
  generalize H2.set b1 (some (.cells [.int .i64 4] 1)) = H3 at *
  clear l1 l2 hb1 y2 hy hp hH1
  obtain ⟨q, hq⟩ : ∃ q, q = min ns.length 20 := ⟨_, rfl⟩
  have hql : q ≤ ns.length := by omega
  have hif : (if (20 : Int) < (ns.length : Int) then (20 : Int) else (ns.length : Int)) = (q : Int) := by split <;> omega
  simp [hif, hql, hil]
  obtain ⟨cs, hcs⟩ : ∃ cs : List Int, cs = 4 :: ns.take q := ⟨_, rfl⟩
  have hcl : cs.length = q + 1 := by rw [hcs, List.length_cons, List.length_take]; omega
  have htk : (intsV ns).take q = intsV (ns.take q) := by unfold intsV; rw [List.map_take]
  have hca : cellsOf H3 1 (.imm ((intsV ns).take q) q none) = some ((intsV ns).take q) := by rw [cellsOf_imm]; exact if_pos (by rw [List.length_take, hil]; omega)
  refine vcAp_row (bytes := 8) (x := .imm ((intsV ns).take q) q none) (n := 1) (m := q) (new := (intsV ns).take q) (.inl o3) hca rfl (by rw [List.length_take, hil]; omega) (by omega) (by rw [htk]; exact intsV_one _) (by omega) (.inr o3) ?_
  intro u H4 g1 g2 g3
  have e4 : [AV.int .i64 4] ++ (intsV ns).take q = intsV cs := by rw [htk, hcs]; rfl
  rw [e4] at g1
  obtain ⟨bu, cu, rfl, hbu, hcu⟩ := g1.slOf (by omega)
  have bup : bu ≠ p := fun e => by
    rcases g3 bu rfl with h | h
    · exact l3.live (x := bu) e h
    · cases h; exact bp e
  have buy : bu ≠ y := fun e => by
    rcases g3 bu rfl with h | h
    · rw [e, y3] at h; cases h
    · cases h; exact by' e
  have l4 := l3.keep (H' := H4) fun x hx => g2 x (by intro e; cases e; exact bp hx) (l3.live hx)
  have y4 : H4 y = some (.cells [.int .i64 3, .int .i64 1, .int .i64 7] 3) := by rw [g2 y (by intro e; cases e; exact by' rfl) (by rw [y3]; simp)]; exact y3
  clear g2 g3 o3 y3 l3 bp by'
  have hcv : (intsV cs).length = q + 1 := by rw [intsV_length, hcl]
  rw [Nat.mul_one] at hbu
  have hbu' : H4 bu = some (.cells (intsV cs) (cu * 1)) := by rw [Nat.mul_one]; exact hbu
  have g1c := g1.cells
  obtain ⟨r, hr⟩ : ∃ r, r = 1 + q := ⟨_, rfl⟩
  rw [← hr] at g1 g1c hcu
  rw [← hr]
  have hrl : cs.length = r := by rw [hcl, hr]; omega
  have hr21 : r ≤ 21 := by omega
  have hr1 : 1 ≤ r := by omega
  clear hq hql hif hca htk e4 hcl hcs hr hcv
  simp [hbu]
  refine vcAp_hold (bytes := 8) (x := .sl bu 0 r cu) (n := 0) (m := r) (cs := []) (new := intsV cs) (.inl ⟨rfl, .inl ⟨rfl, rfl⟩⟩) g1c rfl (intsV_one _) (by omega) ?_
  intro H5 k5
  have l5 := l4.keep (H' := H5) fun x hx => k5 x (by simp [blkOf]) (l4.live hx)
  have y5 : H5 y = some (.cells [.int .i64 3, .int .i64 1, .int .i64 7] 3) := by rw [k5 y (by simp [blkOf]) (by rw [y4]; simp)]; exact y4
  have b5 : H5 bu = some (.cells (intsV cs) cu) := by rw [k5 bu (by simp [blkOf]) (by rw [hbu]; simp)]; exact hbu
  clear k5 l4 y4 hbu hbu' g1 g1c
  simp [y5]
  have hcne : cs ≠ [] := fun e => by rw [e] at hrl; simp at hrl; omega
  have hpush := k_lPushO l5 (by simp) (3, 1, 7) hcne b5 (by omega) (by omega)
  rw [hrl] at hpush
  refine CallK.of hpush ?_
  rintro _ H6 ⟨rfl, F6, l6, u6⟩
  have pr : (pushL (3, 1, 7) cs ([] : CellsK (List Int))).2 = 0 := by
    unfold pushL
    have : listK (3, 1, 7) ([] : CellsK (List Int)) = [] := rfl
    rw [this, List.nil_append, if_neg (by omega), if_neg hcne]
  have pl : listK (3, 1, 7) (pushL (3, 1, 7) cs ([] : CellsK (List Int))).1 = cs := by
    unfold pushL
    have : listK (3, 1, 7) ([] : CellsK (List Int)) = [] := rfl
    rw [this, List.nil_append, if_neg (by omega), if_neg hcne]
    simp [updK, getK, insK, posK, listK]
  have pn := length_push (3, 1, 7) cs ([] : CellsK (List Int))
  rw [pr]
  have y6 : H6 y = some (.cells [.int .i64 3, .int .i64 1, .int .i64 7] 3) := by rw [u6.1 y yp (by rw [y5]; simp)]; exact y5
  have b6 : H6 bu = some (.cells (intsV cs) cu) := by rw [u6.1 bu bup (by rw [b5]; simp)]; exact b5
  have yF : ¬ F6 y := fun e => (u6.2 y e).elim yp (by rw [y5]; simp)
  have bF : ¬ F6 bu := fun e => (u6.2 bu e).elim bup (by rw [b5]; simp)
  clear hpush u6 l5 y5 b5 bup yp
  generalize (pushL (3, 1, 7) cs ([] : CellsK (List Int))).1 = A at *
  simp at pn
  simp
  refine LoopV.mk2 (I_lo p y bu cu A F6 cs 4 5 6 7 33 34 r) r ⟨0, cs, by omega, by simp, by simp, by simp, by simp, by simp, by simp, hrl, b6, y6, l6⟩ ?_
  rintro m T H ⟨i, l, him, t4, t5, t6, t7, t33, t34, hll, hbu, hy, hL⟩
  have hlv := intsV_length l
  by_cases hi : i < r
  · obtain ⟨x, hx⟩ : ∃ x, l[i]? = some x := ⟨l[i], by simp [hll, hi]⟩
    have hxv : (intsV l)[i]? = some (.int .i64 x) := by unfold intsV; rw [List.getElem?_map, hx]; rfl
    generalize hXe : intsV l = X at *
    have hxg : ∀ h : i < X.length, X[i]'h = .int .i64 x := fun h => (List.getElem?_eq_some_iff.1 hxv).2
    simp [t33, t34, t6, hi, hbu, hxv, hlv, hll, hxg]
    refine Again2.mk (m - 1) (by omega) ⟨i + 1, l.set i (IntKind.i64.wrap (x + 1)), by omega, by simp [t4], by simp [t5], by simp [t6], by simp [t7], by simp [t33], ?_, by rw [List.length_set]; exact hll, ?_, ?_, ?_⟩
    · simp; rw [wrap_i64 (by omega) (by omega)]
    · rw [Heap.set_self, ← hXe]; unfold intsV; rw [List.map_set]
    · rw [Heap.set_ne _ _ (Ne.symm buy)]; exact hy
    · exact hL.keep fun z hz => Heap.set_ne _ _ (fun e => bF (by rw [← e]; exact hz))
  · simp [t33, t34, hi, t4, t5, hy]
    refine CallK.of (k_lListM hL (by omega) (3, 1, 7)) ?_
    rintro u2 H7 ⟨o7, k7, n7⟩
    rw [pl, hrl] at o7
    obtain ⟨br, cr, rfl, hbr, hcr⟩ := o7.slOf (by omega)
    rw [Nat.mul_one] at hbr
    have hn7 := n7 br rfl
    have bF2 : ¬ F6 br := fun e => hL.live e hn7
    have bry : br ≠ y := fun e => by rw [e, hy] at hn7; cases hn7
    have y7 : H7 y = some (.cells [.int .i64 3, .int .i64 1, .int .i64 7] 3) := by rw [k7 y (by rw [hy]; simp)]; exact hy
    have l7 := hL.keep (H' := H7) fun x hx => k7 x (hL.live hx)
    simp [hbr]
    refine LoopV.mk2 (I_lo p y br cr A F6 cs 4 5 9 7 48 49 r) r ⟨0, cs, by omega, by simp [t4], by simp [t5], by simp, by simp [t7], by simp, by simp, hrl, hbr, y7, l7⟩ ?_
    clear t4 t5 t6 t7 t33 t34 hbu hy hL him hll hlv hi k7 n7 o7 hbr hn7 y7 l7
    rintro m T H ⟨i, l, him, t4, t5, t6, t7, t33, t34, hll, hbu, hy, hL⟩
    have hlv := intsV_length l
    by_cases hi : i < r
    · obtain ⟨x, hx⟩ : ∃ x, l[i]? = some x := ⟨l[i], by simp [hll, hi]⟩
      have hxv : (intsV l)[i]? = some (.int .i64 x) := by unfold intsV; rw [List.getElem?_map, hx]; rfl
      generalize hXe : intsV l = X at *
      have hxg : ∀ h : i < X.length, X[i]'h = .int .i64 x := fun h => (List.getElem?_eq_some_iff.1 hxv).2
      simp [t33, t34, t6, hi, hbu, hxv, hlv, hll, hxg]
      refine Again2.mk (m - 1) (by omega) ⟨i + 1, l.set i (IntKind.i64.wrap (x + 5)), by omega, by simp [t4], by simp [t5], by simp [t6], by simp [t7], by simp [t33], ?_, by rw [List.length_set]; exact hll, ?_, ?_, ?_⟩
      · simp; rw [wrap_i64 (by omega) (by omega)]
      · rw [Heap.set_self, ← hXe]; unfold intsV; rw [List.map_set]
      · rw [Heap.set_ne _ _ (Ne.symm bry)]; exact hy
      · exact hL.keep fun z hz => Heap.set_ne _ _ (fun e => bF2 (by rw [← e]; exact hz))
    · simp [t33, t34, hi, t4, t5, hy]
      refine CallK.of (k_lList hL (by omega) (3, 1, 7)) ?_
      rintro _ H8 ⟨rfl, rfl⟩
      rw [pl]
      simp [immI, t7, hrl]
      refine LoopV.mk2 (I_lo3 cs r) r ⟨0, by omega, by simp, by simp [t7], by simp, by simp⟩ ?_
      have hcv : (intsV cs).length = r := by rw [intsV_length, hrl]
      rintro m T H ⟨i, him, u11, u7, u63, u64⟩
      by_cases hi : i < r
      · obtain ⟨x, hx⟩ : ∃ x, cs[i]? = some x := ⟨cs[i], by simp [hrl, hi]⟩
        have hxv : (intsV cs)[i]? = some (.int .i64 x) := by unfold intsV; rw [List.getElem?_map, hx]; rfl
        generalize hXe : intsV cs = X at *
        have hxg : ∀ h : i < X.length, X[i]'h = .int .i64 x := fun h => (List.getElem?_eq_some_iff.1 hxv).2
        simp [u11, u7, u63, u64, hi, hcv, hxg]
        refine Again2.mk (m - 1) (by omega) ⟨i + 1, by omega, by simp [u11, hXe], by simp [u7, hXe], by simp [u63], ?_⟩
        simp; rw [wrap_i64 (by omega) (by omega)]
      · simp [u63, u64, hi]
end Go.Proofs.YtcpfodhhjkaibaaGreat
