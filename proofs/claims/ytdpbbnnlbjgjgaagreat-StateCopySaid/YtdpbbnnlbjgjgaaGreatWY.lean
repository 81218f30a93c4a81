/- StateCopy. -/
import Derived.Test.YtdpbbnnlbjgjgaaGreatWV
set_option linter.unusedVariables false
set_option linter.unusedSimpArgs false
set_option maxRecDepth 100000
set_option maxHeartbeats 8000000
namespace Go.Proofs.YtdpbbnnlbjgjgaaGreat
open Go.Sf
attribute [local simp] s_skip s_ops s_draw s_any s_contA s_tdone s_ttwo s_top_p s_top_pick s_top_e s_top_g s_seq s_cond s_block s_loop s_exit s_ret s_mark s_then_n s_then_e s_then_r s_in_n s_in_e s_in_r s_contC s_contO s_contQ s_contT s_nil s_cons_p s_cons_pick s_cons_e s_cons_g s_qnil s_qcons_p s_qcons_pick s_qcons_e s_qcons_g s_M s_Mg s_Mq s_Mqg s_G_p s_G_pick s_G_e s_Gq_p s_Gq_pick s_Gq_e s_if s_call s_callv s_qcall s_qcallv s_getAll_nil s_getAll_cons s_put_some s_put_none s_ev_t s_ev_c s_ev_f un evP evK argT resAV lenOf_nils lenOf_imm lenOf_sl lenOf_str optI slcV binV isShift binInt binStr shiftInt pickV unV s_append s_alloc s_box s_bslice s_Bs_t s_Bs_f s_store1 s_storeN s_St1 s_St s_s2b s_markb s_Mk s_mkslice s_qbslice s_qs2b s_ret_n s_ret_r s_retc_n s_retc_r s_RV_nil s_RV_t s_RV_c s_RV1 tupOf fillC kn_int cl_int on_int kn_bool cl_bool on_bool kn_str cl_str on_str kn_nilp cl_nilp on_nilp kn_ptr cl_ptr on_ptr kn_iptr cl_iptr on_iptr kn_nils cl_nils on_nils kn_sl cl_sl on_sl kn_imm cl_imm on_imm kn_mp cl_mp on_mp kn_nilm cl_nilm on_nilm kn_fn cl_fn on_fn kn_nilf cl_nilf on_nilf kn_agg cl_agg scalEq flatEq eqV s_copy_i s_copy_s s_Cp s_clr s_clrn s_Cl s_appz s_Az s_ext s_Ov s_mapB s_mapBS s_rng s_rngn s_Rn s_nxt s_Nx0 s_ent s_mkmap s_mset s_mdel mapOf s_Mg_n s_Mqg_n s_gw_b s_gw_u s_gw_gb s_gw_f
theorem TwoS.keep {H H' : Heap} {a w : Nat} {S : StT} {F : Nat → Prop} (h : TwoS H a w S F) (k : ∀ x, H x ≠ none → H' x = H x) : TwoS H' a w S F :=
  ⟨h.s.keep fun x hx => k x (h.s.live hx), h.r.keep (k w h.r.live), h.o, h.k⟩
/-- Two states, and the reference's. -/
structure FourS (H : Heap) (a w c v : Nat) (S : StT) (F : Nat → Prop) (R : StT) (G : Nat → Prop) : Prop where
  one : TwoS H a w S F
  two : TwoS H c v R G
  d : ∀ x, G x → ¬ F x
  ov : ¬ F v
  ow : ¬ G w
  ne : w ≠ v
theorem FourS.keep {H H' : Heap} {a w c v : Nat} {S R : StT} {F G : Nat → Prop} (h : FourS H a w c v S F R G) (k : ∀ x, H x ≠ none → H' x = H x) : FourS H' a w c v S F R G :=
  ⟨h.one.keep k, h.two.keep k, h.d, h.ov, h.ow, h.ne⟩
theorem FourS.step {H H2 H3 : Heap} {a w c v : Nat} {S R R' : StT} {F G G2 : Nat → Prop} (h : FourS H a w c v S F R G) (h1 : StQ H2 c R' G2) (u1 : UpdF G G2 H H2) (h2 : RefQ H3 v R') (u2 : ∀ x, x ≠ v → H2 x ≠ none → H3 x = H2 x) (hk : KeysOK R') : FourS H3 a w c v S F R' G2 := by
  have k0 := keepO u1 (F := F) (fun x hx hg => h.d x hg hx) (fun x hx => h.one.s.live hx)
  have a2 : StQ H2 a S F := h.one.s.keep k0.1
  have w2 : RefQ H2 w S := h.one.r.keep (u1.1 w h.ow h.one.r.live)
  have now : ¬ G2 w := fun e => (u1.2 w e).elim h.ow h.one.r.live
  exact ⟨⟨a2.keep fun x hx => u2 x (fun e => h.ov (by rw [← e]; exact hx)) (a2.live hx), w2.keep (u2 w h.ne w2.live), h.one.o, h.one.k⟩, h.two.step h1 u1 h2 u2 hk, fun x hx hf => k0.2 x hf hx, h.ov, now, h.ne⟩
/-- What is written into what was told. -/
structure WOK (Hc H : Heap) (row : AV) (Z : List CellM) : Prop where
  old : ∀ x, Hc x ≠ none → H x = Hc x
  own : OwnR H 7 Z.length row (Z.flatMap encCM)
  rows : RowsM Hc H (blkOf row) Z
theorem WOK.new {Hc H : Heap} {row : AV} {Z : List CellM} (h : WOK Hc H row Z) {y : Nat} (hy : H y = none) (B : Blk) : WOK Hc (H.set y (some B)) row Z := by
  have old : ∀ x, H x ≠ none → (H.set y (some B)) x = H x := fun x hx => Heap.set_ne _ _ (fun e => hx (by rw [e]; exact hy))
  refine ⟨fun x hx => by rw [old x (by rw [h.old x hx]; exact hx)]; exact h.old x hx, h.own.agree fun b hb => old b (h.own.live hb), fun c hc => ⟨(h.rows c hc).1.keep fun b hb ho => ⟨old b hb, ho⟩, (h.rows c hc).2.keep fun b hb ho => ⟨old b hb, ho⟩⟩⟩
theorem WOK.write {Hc H : Heap} {row : AV} {Z : List CellM} (h : WOK Hc H row Z) {b m : Nat} {l l' : List Int} (hb : H b = some (.cells (intsV l) m)) (hl : l'.length = l.length) (hn : Hc b = none) (ho : blkOf row ≠ some b) : WOK Hc (H.set b (some (.cells (intsV l') m))) row Z :=
  ⟨fun x hx => by rw [Heap.set_ne _ _ (fun e => hx (by rw [e]; exact hn))]; exact h.old x hx, h.own.agree fun x hx => Heap.set_ne _ _ (fun e => ho (by rw [hx, e])), fun c hc => ⟨(h.rows c hc).1.write hb hl, (h.rows c hc).2.write hb hl⟩⟩
theorem intsV_ne {l : List Int} {z : CellM} : intsV l ≠ encCM z := fun e => by
  have h := congrArg (fun L : List AV => L[3]?) e
  simp only [intsV, List.getElem?_map] at h
  have h2 : (encCM z)[3]? = some (.bool z.has) := rfl
  rw [h2] at h
  cases hq : l[3]? with
  | none => rw [hq] at h; cases h
  | some x => rw [hq] at h; cases h
def UOf (v : AV) (n : Nat) : Prop := (v = .nils ∧ n = 0) ∨ ∃ b c, v = .sl b 0 n c
theorem IRow.uof {H0 H : Heap} {o : Option Nat} {sz : Nat} {v : AV} (h : IRow H0 H o sz v) : ∃ n, UOf v n ∧ lenOf v = some n ∧ n < 2 ^ 40 := by
  rcases h with rfl | ⟨b, n, c, l, rfl, _, _, h4, _⟩
  · exact ⟨0, .inl ⟨rfl, rfl⟩, rfl, by omega⟩
  · exact ⟨n, .inr ⟨b, c, rfl⟩, rfl, h4⟩
def I_w1 (a w c v : Nat) (row : AV) (Z : List CellM) (Hc : Heap) (m : Nat) (T : Nat → AV) (H : Heap) : Prop :=
  ∃ i : Nat, i + m = Z.length ∧ T 6 = .ptr a 0 ∧ T 7 = .ptr w 0 ∧ T 8 = .ptr c 0 ∧ T 9 = .ptr v 0 ∧ T 56 = row ∧ T 57 = .int .i64 Z.length ∧ T 58 = .int .i64 i ∧ WOK Hc H row Z
def I_w2 (a w c v : Nat) (row : AV) (Z : List CellM) (Hc : Heap) (i y n : Nat) (z : CellM) (m : Nat) (T : Nat → AV) (H : Heap) : Prop :=
  ∃ j : Nat, j + m = n ∧ T 6 = .ptr a 0 ∧ T 7 = .ptr w 0 ∧ T 8 = .ptr c 0 ∧ T 9 = .ptr v 0 ∧ T 56 = row ∧ T 57 = .int .i64 Z.length ∧ T 58 = .int .i64 i ∧ T 11 = .ptr y 0 ∧ T 64 = .int .i64 n ∧ T 65 = .int .i64 j ∧ WOK Hc H row Z ∧ H y = some (.cells (encCM z) 7)
def I_w3 (a w c v : Nat) (row : AV) (Z : List CellM) (Hc : Heap) (i y n : Nat) (z : CellM) (m : Nat) (T : Nat → AV) (H : Heap) : Prop :=
  ∃ j : Nat, j + m = n ∧ T 6 = .ptr a 0 ∧ T 7 = .ptr w 0 ∧ T 8 = .ptr c 0 ∧ T 9 = .ptr v 0 ∧ T 56 = row ∧ T 57 = .int .i64 Z.length ∧ T 58 = .int .i64 i ∧ T 11 = .ptr y 0 ∧ T 78 = .int .i64 n ∧ T 79 = .int .i64 j ∧ WOK Hc H row Z ∧ H y = some (.cells (encCM z) 7)
theorem p_StateCopy (ms : List MutT) (hms : ms.length < 2 ^ 63) (hmo : ∀ m ∈ ms, okM m) (ns : List MutT) (hns : ns.length < 2 ^ 63) (hno : ∀ m ∈ ns, okM m) : CP PP F_Rlaw7_StateCopy [.imm (ms.flatMap mutCs) ms.length none, .imm (ns.flatMap mutCs) ns.length none] (fun v => v = .bool true) := by
  refine CP.by_vc ok_Rlaw7_StateCopy (by simp) ?_
  unfold c_Rlaw7_StateCopy
  simp
  refine CallK.pure p_begun7 ?_
  rintro _ rfl
  obtain ⟨q, hq⟩ : ∃ q, q = min ns.length 20 := ⟨_, rfl⟩
  obtain ⟨p, hp⟩ : ∃ p, p = min ms.length 20 := ⟨_, rfl⟩
  have hqz : (if (20 : Int) < (ns.length : Int) then (20 : Int) else (ns.length : Int)) = (q : Int) := by split <;> omega
  have hpz : (if (20 : Int) < (ms.length : Int) then (20 : Int) else (ms.length : Int)) = (p : Int) := by split <;> omega
  have hql : q ≤ ns.length := by omega
  have hpl : p ≤ ms.length := by omega
  have l1 := fm_length (enc := mutCs) mutCs_six ns
  have l2 := fm_length (enc := mutCs) mutCs_six ms
  have v1 : AV.imm ((ns.flatMap mutCs).take (q * 6)) q none = immM (ns.take q) none := by
    unfold immM
    rw [fm_take (enc := mutCs) mutCs_six ns, List.length_take, Nat.min_eq_left hql]
  have v2 : AV.imm ((ms.flatMap mutCs).take (p * 6)) p none = immM (ms.take p) none := by
    unfold immM
    rw [fm_take (enc := mutCs) mutCs_six ms, List.length_take, Nat.min_eq_left hpl]
  have n1 : (ns.take q).length ≤ 20 := by rw [List.length_take]; omega
  have n2 : (ms.take p).length ≤ 20 := by rw [List.length_take]; omega
  generalize ns.take q = N at *
  generalize ms.take p = M at *
  generalize ns.flatMap mutCs = X at *
  generalize ms.flatMap mutCs = Y at *
  have hum : ∀ l, un (immM l none) = (True, immM l none) := fun _ => rfl
  have huC : ∀ l, un (immC l) = (True, immC l) := fun _ => rfl
  simp [hqz, hpz, hql, hpl, l1, l2, v1, v2, hum]
  refine CallK.of k_stNew ?_
  rintro _ H1 ⟨a, F, rfl, a1, -, -⟩
  simp
  refine CallK.of k_rnew ?_
  rintro _ H2 ⟨w, rfl, w0, w1, u1⟩
  have hT := TwoS.new a1 w0 w1 u1
  have hc0 : cntS StT.nil = 0 := rfl
  simp [hum]
  refine CallK.of (k_do0 hT.s (by omega) (by omega)) ?_
  rintro _ H3 ⟨rfl, F2, a2, u2⟩
  simp [hum]
  refine CallK.of (k_rdo (hT.ref a2 u2) hT.ok (by omega)) ?_
  rintro _ H4 ⟨rfl, w3, u3⟩
  have hT3 := hT.step a2 u2 w3 u3 (keysOK_do hT.ok hT.k M)
  have hc3 : cntS (doS M StT.nil).1 ≤ 20 := by have := cntS_do M StT.nil; omega
  generalize (doS M StT.nil).1 = S at *
  clear hT a1 a2 u1 u2 u3 w0 w1 w3
  simp
  refine CallK.of (k_copy (.inl ⟨a, _, rfl, hT3.s⟩) (by omega)) ?_
  rintro _ H5 ⟨c, G, rfl, c1, c2, c3⟩
  have hT5 := hT3.keep c2
  simp
  refine CallK.of (k_rcopy hT5.r hT5.ok) ?_
  rintro _ H6 ⟨v, rfl, v0, v1', u6⟩
  have hF : FourS H6 a w c v S F2 S G := ⟨hT5.keep fun x hx => u6 x (fun e => hx (by rw [e]; exact v0)), ⟨c1.keep fun x hx => u6 x (fun e => c1.live hx (by rw [e]; exact v0)), v1', fun e => c1.live e v0, hT5.k⟩,
    fun x hx hf => hT3.s.live hf (c3 x hx), fun e => hT5.s.live e v0, fun e => hT3.r.live (c3 w e), fun e => hT5.r.live (by rw [e]; exact v0)⟩
  clear hT3 hT5 c1 c2 c3 v0 v1' u6
  simp
  refine CallK.of (k_eqS (.inl ⟨a, _, rfl, hF.one.s⟩) (.inl ⟨c, _, rfl, hF.two.s⟩) (by omega) (by omega)) ?_
  rintro _ _ ⟨rfl, rfl⟩
  rw [show eqS S S = true from (eqS_iff S S).2 rfl]
  simp [hum]
  refine CallK.of (k_do0 hF.two.s (by omega) (by omega)) ?_
  rintro _ H7 ⟨rfl, G2, a7, u7⟩
  simp [hum]
  refine CallK.of (k_rdo (hF.two.ref a7 u7) hF.two.ok (by omega)) ?_
  rintro _ H8 ⟨rfl, w8, u8⟩
  have hF8 := hF.step a7 u7 w8 u8 (keysOK_do hF.two.ok hF.two.k N)
  have hc8 : cntS (doS N S).1 ≤ 40 := by have := cntS_do N S; omega
  generalize (doS N S).1 = R at *
  clear hF a7 u7 w8 u8
  simp
  refine CallK.of (k_cellsM hF8.one.s (by omega)) ?_
  rintro row H9 ⟨Z, z1, z2, z3, z4, z5⟩
  have hW : WOK H8 H9 row Z := ⟨z3, z1, z5⟩
  have hun := z1.un
  have hlen := z1.lenOf
  have hU : UOf row Z.length := by
    obtain ⟨_, ⟨e1, e2⟩ | ⟨b, cc, e1, _⟩⟩ := z1
    · exact .inl ⟨e1, e2⟩
    · exact .inr ⟨b, cc, e1⟩
  refine (have tail : ∀ (T' : Nat → AV), T' 6 = .ptr a 0 → T' 7 = .ptr w 0 → T' 8 = .ptr c 0 → T' 9 = .ptr v 0 → T' 56 = row → T' 57 = .int .i64 Z.length → T' 58 = .int .i64 0 → LoopV ?R ⟨T', H9⟩ ?Q := ?tl
    ?main)
  case main =>
    rcases hU with ⟨hr, hz0⟩ | ⟨br, cr, hr⟩
    · have hz9 : (0 : Int) = (Z.length : Int) := by omega
      simp [hr]
      refine tail _ ?_ ?_ ?_ ?_ ?_ ?_ ?_
      all_goals simp [hr]
      exact hz9
    · simp [hr]
      refine tail _ ?_ ?_ ?_ ?_ ?_ ?_ ?_
      all_goals simp [hr]
  case tl =>
    intro T' t6 t7 t8 t9 t56 t57 t58
    refine LoopV.mk2 (I_w1 a w c v row Z H8) Z.length ⟨0, by omega, t6, t7, t8, t9, t56, t57, t58, hW⟩ ?_
    clear hW hU hun hlen t6 t7 t8 t9 t56 t57 t58 z1 z3 z4 z5
    rintro m T H ⟨i, him, t6, t7, t8, t9, t56, t57, t58, hW⟩
    by_cases hi : i < Z.length
    case pos =>
      obtain ⟨z, hzi⟩ : ∃ z, Z[i]? = some z := ⟨Z[i], by simp [hi]⟩
      have hzm := List.mem_of_getElem? hzi
      obtain ⟨f1, f2⟩ := fm_at (enc := encCM) encCM_length hzi
      have wi : IntKind.i64.wrap ((i : Int) + 1) = ((i + 1 : Nat) : Int) := wrap_i64 (by omega) (by omega)
      obtain ⟨br, cr, hre, hbr, hcr⟩ := hW.own.slOf (by omega)
      obtain ⟨iu, iv⟩ := hW.rows z hzm
      have e7 := encCM_length z
      have t7' : (encCM z).take 7 = encCM z := rfl
      have hone1 : (encCM z).all AV.one = true := by
        simp [encCM, k3, AV.one]
        exact ⟨iu.one, iv.one⟩
      have hone : ∀ x, x ∈ encCM z → x.one = true := fun x hx => List.all_eq_true.1 hone1 x hx
      have x5 : ∀ h, (encCM z)[5]'h = z.u := fun _ => rfl
      have x6 : ∀ h, (encCM z)[6]'h = z.d := fun _ => rfl
      have hbr' := hbr
      generalize hXe : Z.flatMap encCM = ZX at hbr' f1 f2
      simp [t6, t7, t8, t9, t56, t57, t58, hi, hre, hbr', f1, f2]
      intro y hy
      simp [Heap.set_self, Heap.set_set, e7]
      refine ⟨hone, ?_⟩
      have hWy := hW.new hy (.cells (encCM z) 7)
      have hyy : (H.set y (some (.cells (encCM z) 7))) y = some (.cells (encCM z) 7) := Heap.set_self _ _ _
      generalize H.set y (some (.cells (encCM z) 7)) = Hy at *
      obtain ⟨nu, hu1, hu2, hu3⟩ := iu.uof
      obtain ⟨nd, hd1, hd2, hd3⟩ := iv.uof
      simp [hyy, e7, x5]
      refine (have tail2 : ∀ (T' : Nat → AV), T' 6 = .ptr a 0 → T' 7 = .ptr w 0 → T' 8 = .ptr c 0 → T' 9 = .ptr v 0 → T' 56 = row → T' 57 = .int .i64 Z.length → T' 58 = .int .i64 i → T' 11 = .ptr y 0 → T' 64 = .int .i64 nu → T' 65 = .int .i64 0 → LoopV ?R2 ⟨T', Hy⟩ ?Q2 := ?tl2
        ?main2)
      case main2 =>
        rcases hu1 with ⟨hr, hz0⟩ | ⟨bu, cu, hr⟩
        · simp [hr]
          refine tail2 _ ?_ ?_ ?_ ?_ ?_ ?_ ?_ ?_ ?_ ?_
          all_goals simp [t6, t7, t8, t9, t56, t57, t58, hre, hz0]
        · simp [hr]
          refine tail2 _ ?_ ?_ ?_ ?_ ?_ ?_ ?_ ?_ ?_ ?_
          all_goals simp [t6, t7, t8, t9, t56, t57, t58, hre]
      case tl2 =>
        clear t6 t7 t8 t9 t56 t57 t58
        intro T' t6 t7 t8 t9 t56 t57 t58 t11 t64 t65
        refine LoopV.mk2 (I_w2 a w c v row Z H8 i y nu z) nu ⟨0, by omega, t6, t7, t8, t9, t56, t57, t58, t11, t64, t65, hWy, hyy⟩ ?_
        clear t6 t7 t8 t9 t56 t57 t58 t11 t64 t65 hWy hyy hW iu iv hbr hbr' hy
        rintro m2 T H ⟨j, hjm, t6, t7, t8, t9, t56, t57, t58, t11, t64, t65, hW, hyy⟩
        by_cases hj : j < nu
        case pos =>
          have wj : IntKind.i64.wrap ((j : Int) + 1) = ((j + 1 : Nat) : Int) := wrap_i64 (by omega) (by omega)
          obtain ⟨bu, cu, hr⟩ : ∃ b c, z.u = .sl b 0 nu c := by
            rcases hu1 with ⟨_, h0⟩ | h
            · omega
            · exact h
          obtain ⟨l, hbu, hll, hn8, hnr⟩ : ∃ l : List Int, H bu = some (.cells (intsV l) (cu * 1)) ∧ l.length = nu * 1 ∧ H8 bu = none ∧ blkOf row ≠ some bu := by
            rcases (hW.rows z hzm).1 with h | ⟨b, n, c, l, h1, h2, h3, h4, h5, h6⟩
            · rw [hr] at h; cases h
            · rw [hr] at h1; cases h1; exact ⟨l, h2, h3, h5, h6⟩
          have hjl : j < l.length := by omega
          obtain ⟨x, hx⟩ : ∃ x, l[j]? = some x := ⟨l[j], by simp [hjl]⟩
          have hld : (intsV l)[j]? = some (.int .i64 x) := by unfold intsV; rw [List.getElem?_map, hx]; rfl
          have hyb : y ≠ bu := fun e => by rw [e, hbu] at hyy; simp only [Option.some.injEq, Blk.cells.injEq] at hyy; exact intsV_ne hyy.1
          simp [t6, t7, t8, t9, t56, t57, t58, t11, t64, t65, hj, hyy, e7, x5, hr, hbu, hld]
          rw [Nat.mul_one] at hbu
          have hset : (intsV l).set j (.int .i64 (IntKind.i64.wrap (x + 1))) = intsV (l.set j (IntKind.i64.wrap (x + 1))) := by unfold intsV; rw [List.map_set]
          rw [hset, wj]
          exact ⟨by rw [intsV_length]; exact hjl, Again2.mk (m2 - 1) (by omega) ⟨j + 1, by omega, by simp [t6], by simp [t7], by simp [t8], by simp [t9], by simp [t56], by simp [t57], by simp [t58], by simp [t11], by simp [t64], by simp, hW.write hbu (by simp) hn8 hnr, by rw [Heap.set_ne _ _ hyb]; exact hyy⟩⟩
        simp [t6, t7, t8, t9, t56, t57, t58, t11, t64, t65, hj, hyy, e7, x6]
        refine (have tail3 : ∀ (T' : Nat → AV), T' 6 = .ptr a 0 → T' 7 = .ptr w 0 → T' 8 = .ptr c 0 → T' 9 = .ptr v 0 → T' 56 = row → T' 57 = .int .i64 Z.length → T' 58 = .int .i64 i → T' 11 = .ptr y 0 → T' 78 = .int .i64 nd → T' 79 = .int .i64 0 → LoopV ?R3 ⟨T', H⟩ ?Q3 := ?tl3
          ?main3)
        case main3 =>
          rcases hd1 with ⟨hr, hz0⟩ | ⟨bu, cu, hr⟩
          · simp [hr]
            refine tail3 _ ?_ ?_ ?_ ?_ ?_ ?_ ?_ ?_ ?_ ?_
            all_goals simp [t6, t7, t8, t9, t56, t57, t58, t11, hz0]
          · simp [hr]
            refine tail3 _ ?_ ?_ ?_ ?_ ?_ ?_ ?_ ?_ ?_ ?_
            all_goals simp [t6, t7, t8, t9, t56, t57, t58, t11]
        case tl3 =>
          clear t6 t7 t8 t9 t56 t57 t58 t11 t64 t65 hj hjm
          intro T' t6 t7 t8 t9 t56 t57 t58 t11 t64 t65
          refine LoopV.mk2 (I_w3 a w c v row Z H8 i y nd z) nd ⟨0, by omega, t6, t7, t8, t9, t56, t57, t58, t11, t64, t65, hW, hyy⟩ ?_
          clear t6 t7 t8 t9 t56 t57 t58 t11 t64 t65 hyy hW
          rintro m3 T H ⟨j, hjm, t6, t7, t8, t9, t56, t57, t58, t11, t64, t65, hW, hyy⟩
          by_cases hj : j < nd
          case pos =>
            have wj : IntKind.i64.wrap ((j : Int) + 1) = ((j + 1 : Nat) : Int) := wrap_i64 (by omega) (by omega)
            obtain ⟨bu, cu, hr⟩ : ∃ b c, z.d = .sl b 0 nd c := by
              rcases hd1 with ⟨_, h0⟩ | h
              · omega
              · exact h
            obtain ⟨l, hbu, hll, hn8, hnr⟩ : ∃ l : List Int, H bu = some (.cells (intsV l) (cu * 2)) ∧ l.length = nd * 2 ∧ H8 bu = none ∧ blkOf row ≠ some bu := by
              rcases (hW.rows z hzm).2 with h | ⟨b, n, c, l, h1, h2, h3, h4, h5, h6⟩
              · rw [hr] at h; cases h
              · rw [hr] at h1; cases h1; exact ⟨l, h2, h3, h5, h6⟩
            have hjl : j * 2 + 1 < l.length := by omega
            obtain ⟨x, hx⟩ : ∃ x, l[j * 2 + 1]? = some x := ⟨l[j * 2 + 1], by simp [hjl]⟩
            have hld : (intsV l)[j * 2 + 1]? = some (.int .i64 x) := by unfold intsV; rw [List.getElem?_map, hx]; rfl
            have hyb : y ≠ bu := fun e => by rw [e, hbu] at hyy; simp only [Option.some.injEq, Blk.cells.injEq] at hyy; exact intsV_ne hyy.1
            simp [t6, t7, t8, t9, t56, t57, t58, t11, t64, t65, hj, hyy, e7, x6, hr, hbu, hld]
            have hset : (intsV l).set (j * 2 + 1) (.int .i64 (IntKind.i64.wrap (x + 1))) = intsV (l.set (j * 2 + 1) (IntKind.i64.wrap (x + 1))) := by unfold intsV; rw [List.map_set]
            rw [hset, wj]
            exact ⟨by rw [intsV_length]; exact hjl, Again2.mk (m3 - 1) (by omega) ⟨j + 1, by omega, by simp [t6], by simp [t7], by simp [t8], by simp [t9], by simp [t56], by simp [t57], by simp [t58], by simp [t11], by simp [t64], by simp, hW.write hbu (by simp) hn8 hnr, by rw [Heap.set_ne _ _ hyb]; exact hyy⟩⟩
          simp [t6, t7, t8, t9, t56, t57, t58, t11, t64, t65, hj, wi]
          exact Again2.mk (m - 1) (by omega) ⟨i + 1, by omega, by simp [t6], by simp [t7], by simp [t8], by simp [t9], by simp [t56, hre], by simp [t57], by simp, by rw [← hre]; exact hW⟩
    have hF := hF8.keep hW.old
    have hiz : ¬ (i : Int) < Z.length := by omega
    simp [t6, t7, t8, t9, t56, t57, t58, hi]
    refine CallK.of (k_rcells hF.one.r hF.one.ok hF.one.k) ?_
    rintro _ _ ⟨rfl, rfl⟩
    simp [t9]
    refine CallK.of (k_rcells hF.two.r hF.two.ok hF.two.k) ?_
    rintro _ _ ⟨rfl, rfl⟩
    have h1 := cells_len S
    have h2 := cells_len R
    simp [t6, huC]
    refine CallK.of (k_cells (.inl ⟨a, _, rfl, hF.one.s⟩) (by omega)) ?_
    rintro _ _ ⟨rfl, rfl⟩
    simp [huC]
    refine CallK.pure (p_eqS hF.one.ok (by omega)) ?_
    rintro _ rfl
    simp [t8]
    refine CallK.of (k_cells (.inl ⟨c, _, rfl, hF.two.s⟩) (by omega)) ?_
    rintro _ _ ⟨rfl, rfl⟩
    simp [huC]
    refine CallK.pure (p_eqS hF.two.ok (by omega)) ?_
    rintro _ rfl
    simp [t6, t8]
    refine CallK.of (k_eqS (.inl ⟨a, _, rfl, hF.one.s⟩) (.inl ⟨c, _, rfl, hF.two.s⟩) (by omega) (by omega)) ?_
    rintro _ _ ⟨rfl, rfl⟩
    simp [huC]
    refine CallK.pure (p_eqS hF.one.ok (by omega)) ?_
    rintro _ rfl
    have he : eqS S R = decide (cellsS S = cellsS R) := by
      rw [Bool.eq_iff_iff, decide_eq_true_iff, eqS_iff]
      exact ⟨fun e => by rw [e], cellsS_inj hF.one.ok hF.two.ok⟩
    rw [he]
    simp
end Go.Proofs.YtdpbbnnlbjgjgaaGreat
