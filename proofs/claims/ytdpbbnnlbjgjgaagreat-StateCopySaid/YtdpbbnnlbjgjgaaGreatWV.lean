/- Cells told with lists and dictionaries of the caller's own. -/
import Derived.Test.YtdpbbnnlbjgjgaaGreatCW
import Derived.Test.YtdpbbnnlbjgjgaaGreatGR
set_option linter.unusedVariables false
set_option linter.unusedSimpArgs false
set_option maxRecDepth 100000
set_option maxHeartbeats 8000000
namespace Go.Proofs.YtdpbbnnlbjgjgaaGreat
open Go.Sf
attribute [local simp] s_skip s_ops s_draw s_any s_contA s_tdone s_ttwo s_top_p s_top_pick s_top_e s_top_g s_seq s_cond s_block s_loop s_exit s_ret s_mark s_then_n s_then_e s_then_r s_in_n s_in_e s_in_r s_contC s_contO s_contQ s_contT s_nil s_cons_p s_cons_pick s_cons_e s_cons_g s_qnil s_qcons_p s_qcons_pick s_qcons_e s_qcons_g s_M s_Mg s_Mq s_Mqg s_G_p s_G_pick s_G_e s_Gq_p s_Gq_pick s_Gq_e s_if s_call s_callv s_qcall s_qcallv s_getAll_nil s_getAll_cons s_put_some s_put_none s_ev_t s_ev_c s_ev_f un evP evK argT resAV lenOf_nils lenOf_imm lenOf_sl lenOf_str optI slcV binV isShift binInt binStr shiftInt pickV unV s_append s_alloc s_box s_bslice s_Bs_t s_Bs_f s_store1 s_storeN s_St1 s_St s_s2b s_markb s_Mk s_mkslice s_qbslice s_qs2b s_ret_n s_ret_r s_retc_n s_retc_r s_RV_nil s_RV_t s_RV_c s_RV1 tupOf fillC kn_int cl_int on_int kn_bool cl_bool on_bool kn_str cl_str on_str kn_nilp cl_nilp on_nilp kn_ptr cl_ptr on_ptr kn_iptr cl_iptr on_iptr kn_nils cl_nils on_nils kn_sl cl_sl on_sl kn_imm cl_imm on_imm kn_mp cl_mp on_mp kn_nilm cl_nilm on_nilm kn_fn cl_fn on_fn kn_nilf cl_nilf on_nilf kn_agg cl_agg scalEq flatEq eqV s_copy_i s_copy_s s_Cp s_clr s_clrn s_Cl s_appz s_Az s_ext s_Ov s_mapB s_mapBS s_rng s_rngn s_Rn s_nxt s_Nx0 s_ent s_mkmap s_mset s_mdel mapOf s_Mg_n s_Mqg_n s_gw_b s_gw_u s_gw_gb s_gw_f
attribute [local simp] s_contG s_contAR s_rdone s_rtwo s_rop_p s_rop_e
theorem k_cloneFM {H : Heap} {b c : Nat} {fs : FieldsL} (hb : H b = some (.cells (fieldsA fs) (c * 2))) (hc : fs.length ≤ c) (hne : fs ≠ []) (hl : fs.length ≤ 2 ^ 40) : CC PP F_slices_Clone_api_Field_api_Field [.sl b 0 fs.length c] H fun v H' => OwnR H' 2 fs.length v (fieldsA fs) ∧ (∀ x, H x ≠ none → H' x = H x) ∧ ∀ x, blkOf v = some x → H x = none := by
  have ho : OwnR H 2 fs.length (.sl b 0 fs.length c) (fieldsA fs) := ⟨fieldsA_length fs, .inr ⟨b, c, rfl, hb, hc⟩⟩
  have hpos := List.length_pos_iff.2 hne
  refine CC.by_vc ok_slices_Clone_api_Field_api_FieldM (by simp) ?_
  unfold c_slices_Clone_api_Field_api_FieldM
  simp
  refine vcAp_row (n := 0) (cs := []) (m := fs.length) (.inr ⟨rfl, rfl⟩) ho.cells rfl (fieldsA_length fs) (by omega) (fieldsA_one _) (by omega) (.inl (fun e => by have := fieldsA_length fs; rw [e] at this; simp at this; omega)) ?_
  intro v H' h1 h2 h3
  have hun := h1.un
  simp [hun]
  refine ⟨by simpa using h1, fun x hx => h2 x (by simp [blkOf]) hx, fun x hx => ?_⟩
  rcases h3 x hx with h | h
  · exact h
  · simp [blkOf] at h
theorem k_dDictM {H : Heap} {p : Nat} {D : CellsK FieldsL} {F : Nat → Prop} (hV : DicQ H p D F) (hl : D.length < 2 ^ 29) (k : K3T) :
    CC PP F_dict_Dicts_Dict [.ptr p 0, .agg (k3 k)] H fun r H' => OwnR H' 2 (dictK k D).length r (fieldsA (dictK k D)) ∧ (∀ x, H x ≠ none → H' x = H x) ∧ ∀ x, blkOf r = some x → H x = none := by
  obtain ⟨E, v, rfl, ⟨hp, ho, hne, hrow, -, -⟩, hs, -⟩ := hV
  rw [dicE_length] at hl
  have hsE := dicE_sorted.1 hs.1
  refine CC.by_vc ok_dict_Dicts_Dict (by simp) ?_
  unfold c_dict_Dicts_Dict
  simp
  intro b hb
  have hk3 : (k3 k).length = 3 := rfl
  have old : ∀ x, H x ≠ none → (H.set b (some (.cells (k3 k) 3))) x = H x := fun x hx => Heap.set_ne _ _ (fun h => hx (by rw [h]; exact hb))
  have hp1 : (H.set b (some (.cells (k3 k) 3))) p = some (.cells [v] 1) := by rw [old p (by rw [hp]; simp)]; exact hp
  have ho1 : OwnR (H.set b (some (.cells (k3 k) 3))) 4 E.length v (E.flatMap encD) := ho.agree fun x hx => old x (ho.live hx)
  simp [hk3, Heap.set_self, tk3]
  refine CallK.of (k_dAt hp1 ho1 hsE (by omega) k) ?_
  rintro _ H' ⟨rfl, rfl⟩
  cases hg : getK k E with
  | none =>
    have hlk : dictK k (dicE E) = [] := by unfold dictK; rw [dicE_get, hg]; rfl
    rw [hlk]
    simp
    exact ⟨⟨rfl, .inl ⟨rfl, rfl⟩⟩, old, fun x hx => by cases hx⟩
  | some l =>
    obtain ⟨fs, u⟩ := l
    have hlk : dictK k (dicE E) = fs := by unfold dictK; rw [dicE_get, hg]; rfl
    obtain ⟨h1, h2⟩ := at_there hsE hg
    have hmem := List.mem_of_getElem? h1
    have hou := hrow _ hmem
    simp only at hou
    have hfs : fs ≠ [] := (hs.2 (k, fs) (List.mem_map.2 ⟨_, hmem, rfl⟩)).1
    have hle := dictK_le (k := k) hs
    rw [hlk] at hle ⊢
    obtain ⟨bv, c, rfl, hbv, hc⟩ := ho1.slOf (by omega)
    obtain ⟨bu, cu, rfl, hbu, hcu⟩ := hou.slOf (List.length_pos_iff.2 hfs)
    have hbu1 : (H.set b (some (.cells (k3 k) 3))) bu = some (.cells (fieldsA fs) (cu * 2)) := by rw [old bu (by rw [hbu]; simp)]; exact hbu
    have hld : (E.flatMap encD)[posK k E * 4 + 3]? = some (.sl bu 0 fs.length cu) := fm_get (enc := encD) encD_length h1 (j := 3) (by omega)
    generalize E.flatMap encD = X at *
    simp [hp1, h2, hbv, hld]
    refine CallK.of (k_cloneFM hbu1 hcu hfs (by omega)) ?_
    intro u2 H2 ⟨g1, g2, g3⟩
    have hun := g1.un
    simp [hun]
    refine ⟨g1, fun x hx => by rw [g2 x (by rw [old x hx]; exact hx)]; exact old x hx, fun x hx => Classical.byContradiction fun hn => ?_⟩
    have := g3 x hx
    rw [old x hn] at this; exact hn this
/-- A row of numbers, in a block that was not there, and not in the block o. -/
def IRow (H0 H : Heap) (o : Option Nat) (sz : Nat) (v : AV) : Prop := v = .nils ∨ ∃ b n c l, v = .sl b 0 n c ∧ H b = some (.cells (intsV l) (c * sz)) ∧ l.length = n * sz ∧ n < 2 ^ 40 ∧ H0 b = none ∧ o ≠ some b
theorem IRow.one {H0 H : Heap} {o : Option Nat} {sz : Nat} {v : AV} (h : IRow H0 H o sz v) : v.one = true := by
  rcases h with rfl | ⟨b, n, c, l, rfl, _⟩ <;> rfl
theorem IRow.known {H0 H : Heap} {o : Option Nat} {sz : Nat} {v : AV} (h : IRow H0 H o sz v) : v.known = true := by
  rcases h with rfl | ⟨b, n, c, l, rfl, _⟩ <;> rfl
theorem IRow.cellsL {H0 H : Heap} {o : Option Nat} {sz : Nat} {v : AV} (h : IRow H0 H o sz v) : AV.cellsL v = [v] := by
  rcases h with rfl | ⟨b, n, c, l, rfl, _⟩ <;> rfl
theorem IRow.un {H0 H : Heap} {o : Option Nat} {sz : Nat} {v : AV} (h : IRow H0 H o sz v) : Sf.un v = (True, v) := by
  rcases h with rfl | ⟨b, n, c, l, rfl, _⟩ <;> rfl
theorem IRow.keep {H0 H H' : Heap} {o o' : Option Nat} {sz : Nat} {v : AV} (h : IRow H0 H o sz v) (k : ∀ b, H b ≠ none → o ≠ some b → H' b = H b ∧ o' ≠ some b) : IRow H0 H' o' sz v := by
  rcases h with h | ⟨b, n, c, l, h1, h2, h3, h4, h5, h6⟩
  · exact .inl h
  · obtain ⟨k1, k2⟩ := k b (by rw [h2]; simp) h6
    exact .inr ⟨b, n, c, l, h1, by rw [k1]; exact h2, h3, h4, h5, k2⟩
theorem intsV_inj {a b : List Int} (h : intsV a = intsV b) : a = b := by
  unfold intsV at h
  exact (List.map_inj_right fun x y e => by simpa using e).1 h
theorem IRow.write {H0 H : Heap} {o : Option Nat} {sz : Nat} {v : AV} (h : IRow H0 H o sz v) {b m : Nat} {l l' : List Int} (hb : H b = some (.cells (intsV l) m)) (hl : l'.length = l.length) : IRow H0 (H.set b (some (.cells (intsV l') m))) o sz v := by
  rcases h with h | ⟨b2, n, c, l2, h1, h2, h3, h4, h5, h6⟩
  · exact .inl h
  · by_cases e : b2 = b
    · subst e
      rw [h2] at hb
      simp only [Option.some.injEq, Blk.cells.injEq] at hb
      obtain ⟨e1, e2⟩ := hb
      have e3 := intsV_inj e1
      exact .inr ⟨b2, n, c, l', h1, by rw [Heap.set_self, e2], by rw [hl, ← e3]; exact h3, h4, h5, h6⟩
    · exact .inr ⟨b2, n, c, l2, h1, by rw [Heap.set_ne _ _ e]; exact h2, h3, h4, h5, h6⟩
theorem IRow.of1 {H0 H : Heap} {o : Option Nat} {v : AV} {l : List Int} (h : OwnR H 1 l.length v (intsV l)) (hl : l.length < 2 ^ 40) (hf : ∀ x, blkOf v = some x → H0 x = none ∧ o ≠ some x) : IRow H0 H o 1 v := by
  obtain ⟨h1, ⟨h2, _⟩ | ⟨b, c, rfl, h3, h4⟩⟩ := h
  · exact .inl h2
  · obtain ⟨f1, f2⟩ := hf b rfl
    exact .inr ⟨b, l.length, c, l, rfl, h3, by omega, hl, f1, f2⟩
theorem fieldsA_ints (fs : FieldsL) : fieldsA fs = intsV (fs.flatMap fun q => [q.1, q.2]) := by
  unfold intsV fieldsA
  rw [List.map_flatMap]; rfl
theorem IRow.of2 {H0 H : Heap} {o : Option Nat} {v : AV} {fs : FieldsL} (h : OwnR H 2 fs.length v (fieldsA fs)) (hl : fs.length < 2 ^ 40) (hf : ∀ x, blkOf v = some x → H0 x = none ∧ o ≠ some x) : IRow H0 H o 2 v := by
  obtain ⟨h1, ⟨h2, _⟩ | ⟨b, c, rfl, h3, h4⟩⟩ := h
  · exact .inl h2
  · obtain ⟨f1, f2⟩ := hf b rfl
    rw [fieldsA_ints] at h1 h3
    exact .inr ⟨b, fs.length, c, _, rfl, h3, by simpa [intsV] using h1, hl, f1, f2⟩
/-- A cell as it is told. -/
structure CellM where
  k : K3T
  has : Bool
  n : Int
  u : AV
  d : AV
def encCM (c : CellM) : List AV := k3 c.k ++ [.bool c.has, .int .i64 c.n, c.u, c.d]
theorem encCM_length (c : CellM) : (encCM c).length = 7 := rfl
def RowsM (H0 H : Heap) (o : Option Nat) (Z : List CellM) : Prop := ∀ c ∈ Z, IRow H0 H o 1 c.u ∧ IRow H0 H o 2 c.d
def only2 (H : Heap) (a b : Nat) : Heap := fun x => if x = a ∨ x = b then H x else none
theorem only2_sub (H : Heap) (a b : Nat) : Sub (only2 H a b) H := fun x => by unfold only2; split <;> simp
theorem only2_a (H : Heap) (a b : Nat) : only2 H a b a = H a := by unfold only2; simp
theorem only2_b (H : Heap) (a b : Nat) : only2 H a b b = H b := by unfold only2; simp
theorem only2_keep {H H' : Heap} {a b : Nat} (h1 : H' a = H a) (h2 : H' b = H b) : Sub (only2 H a b) H' := fun x => by
  unfold only2
  split
  · rename_i h
    rcases h with rfl | rfl
    · exact .inl h1.symm
    · exact .inl h2.symm
  · exact .inr rfl
def I_clM (H0 : Heap) (s : Nat) (S : StT) (ks : List K3T) (row : AV) (bk ck : Nat) (m : Nat) (T : Nat → AV) (H : Heap) : Prop :=
  ∃ (i : Nat) (u : AV) (Z : List CellM), i + m = ks.length ∧ T 0 = .ptr s 0 ∧ T 31 = row ∧ T 32 = .int .i64 ks.length ∧ T 33 = .int .i64 i ∧ T 4 = u ∧ OwnR H 7 Z.length u (Z.flatMap encCM) ∧ Z.length = i ∧ (∀ x, H0 x ≠ none → H x = H0 x) ∧ (∀ b, blkOf u = some b → H0 b = none) ∧
    (ks ≠ [] → H bk = some (.cells (ks.flatMap k3) ck)) ∧ blkOf u ≠ some bk ∧ RowsM H0 H (blkOf u) Z
theorem k_cellsM {H0 : Heap} {s : Nat} {S : StT} {F : Nat → Prop} (hS : StQ H0 s S F) (hc : cntS S < 2 ^ 20) :
    CC PP F_state_State_Cells [.ptr s 0] H0 fun r H' => ∃ Z : List CellM, OwnR H' 7 Z.length r (Z.flatMap encCM) ∧ Z.length < 2 ^ 40 ∧ (∀ x, H0 x ≠ none → H' x = H0 x) ∧ (∀ b, blkOf r = some b → H0 b = none) ∧ RowsM H0 H' (blkOf r) Z := by
  have hS0 := hS
  obtain ⟨pv, pl, pd, F1, F2, F3, h1, h2, h3, h4, _⟩ := hS
  refine CC.by_vc ok_state_State_CellsM (by simp) ?_
  unfold c_state_State_CellsM
  unfold cntS at hc
  have e3 : [S.V.map (·.1), S.L.map (·.1), S.D.map (·.1)].flatten = S.V.map (·.1) ++ (S.L.map (·.1) ++ S.D.map (·.1)) := by simp
  have hall : (S.V.map (·.1) ++ (S.L.map (·.1) ++ S.D.map (·.1))).length ≤ 2 ^ 39 := by simp only [List.length_append, List.length_map]; omega
  have hkn : ∀ ks, AV.known (keysI ks) = true := fun _ => rfl
  have hku : ∀ ks, un (keysI ks) = (True, keysI ks) := fun _ => rfl
  have hkc : ∀ ks, AV.cellsL (keysI ks) = [keysI ks] := fun _ => rfl
  have hks : keysS S = setOf (S.V.map (·.1) ++ (S.L.map (·.1) ++ S.D.map (·.1))) := rfl
  simp [h1]
  refine CallQ.ofH (k_keysV h2 (by omega)) ?_
  simp [h1, hku]
  refine CallQ.ofH (k_keysL h3 (by omega)) ?_
  simp [h1, hku]
  refine CallQ.ofH (k_keysD h4 (by omega)) ?_
  simp [hku, hkn, hkc]
  have hcc := k_concat (H := H0) [S.V.map (·.1), S.L.map (·.1), S.D.map (·.1)] e3 (by simp) (by omega)
  generalize hAll : S.V.map (·.1) ++ (S.L.map (·.1) ++ S.D.map (·.1)) = all at *
  refine CallK.of hcc ?_
  intro v1 H1 ⟨g1, g2, g3⟩
  have hun1 := g1.un
  simp [hun1]
  refine CallK.of (k_sortKeys g1 (by omega)) ?_
  rintro _ H2 ⟨rfl, q1, q2⟩
  simp [hun1]
  have hml : (all.mergeSort fun x y => !(lessK y x)).length = all.length := List.length_mergeSort _
  rw [← hml] at q1
  refine CallK.of (k_compact q1 (by omega)) ?_
  intro v2 H3 ⟨r1, r2, r3⟩
  rw [dedup_merge, ← hks] at r1
  have hold3 : ∀ x, H0 x ≠ none → H3 x = H0 x := fun x hx => by
    have n1 : blkOf v1 ≠ some x := fun e => hx (g3 x e)
    have a1 : H1 x = H0 x := g2 x hx
    have a2 : H2 x = H1 x := q2 x n1 (by rw [a1]; exact hx)
    rw [r2 x n1 (by rw [a2, a1]; exact hx), a2, a1]
  have hfr3 : ∀ b, blkOf v2 = some b → H0 b = none := fun b hb => g3 b (r3 b hb)
  clear g1 g2 g3 q1 q2 r2 r3 hcc hun1
  have hkl : (keysS S).length < 2 ^ 40 := by have := keysS_length S; omega
  generalize keysS S = ks at *
  obtain ⟨hrl, ⟨rfl, hz⟩ | ⟨bk, ck, rfl, hbk, hck⟩⟩ := r1
  · obtain rfl : ks = [] := List.length_eq_zero_iff.1 hz
    simp
    refine LoopV.mk2 (I_clM H0 s S [] .nils 0 0) 0 ⟨0, .nils, [], rfl, by simp, by simp, by simp, by simp, by simp, ⟨rfl, .inl ⟨rfl, rfl⟩⟩, rfl, hold3, (fun b hb => by cases hb), (fun h => absurd rfl h), (fun e => by cases e), (fun c hc => by cases hc)⟩ ?_
    rintro m T H ⟨i, u, Z, him, t0, t31, t32, t33, t4, hO, hZi, hold, hfr, hrow, hnb, hR⟩
    have hi0 : i = 0 := by simp at him; omega
    subst hi0
    have hun := hO.un
    simp [t0, t31, t32, t33, t4, hun]
    exact ⟨Z, hO, by omega, hold, hfr, hR⟩
  · have hbk0 : H0 bk = none := hfr3 bk rfl
    simp
    refine LoopV.mk2 (I_clM H0 s S ks (.sl bk 0 ks.length ck) bk (ck * 3)) ks.length ⟨0, .nils, [], by omega, by simp, by simp, by simp, by simp, by simp, ⟨rfl, .inl ⟨rfl, rfl⟩⟩, rfl, hold3, (fun b hb => by cases hb), (fun _ => hbk), (fun e => by cases e), (fun c hc => by cases hc)⟩ ?_
    rintro m T H ⟨i, u, Z, him, t0, t31, t32, t33, t4, hO, hZi, hold, hfr, hrow, hnb, hR⟩
    have hun := hO.un
    by_cases hi : i < ks.length
    · obtain ⟨k, hk⟩ : ∃ k, ks[i]? = some k := ⟨ks[i], by simp [hi]⟩
      obtain ⟨f1, f2⟩ := k3_at hk
      have hrow' := hrow (fun e => by rw [e] at hi; simp at hi)
      have hk3 : (k3 k).length = 3 := rfl
      have hkone : ∀ x, x ∈ k3 k → x.one = true := fun x hx => List.all_eq_true.1 (show (k3 k).all AV.one = true from rfl) x hx
      generalize hXe : ks.flatMap k3 = X at *
      simp [t0, t31, t32, t33, t4, hun, hi, hrow', f1, f2]
      intro y hy
      have hyn : ∀ x, H0 x ≠ none → x ≠ y := fun x hx h => by rw [← h, hold x hx] at hy; exact hx hy
      simp [t0, t31, t32, t33, t4, hun, Heap.set_self, Heap.set_set, hk3]
      refine ⟨hkone, ?_⟩
      have holdy : ∀ x, H0 x ≠ none → (H.set y (some (.cells (k3 k) 3))) x = H0 x := fun x hx => by rw [Heap.set_ne _ _ (hyn x hx)]; exact hold x hx
      have hSy : StQ (H.set y (some (.cells (k3 k) 3))) s S F := hS0.keep fun x hx => holdy x (hS0.live hx)
      have hOy : OwnR (H.set y (some (.cells (k3 k) 3))) 7 Z.length u (Z.flatMap encCM) := hO.agree fun x hx => Heap.set_ne _ _ (fun e => by have := hO.live hx; rw [e, hy] at this; exact this rfl)
      have hby : (H.set y (some (.cells (k3 k) 3))) bk = some (.cells X (ck * 3)) := by rw [Heap.set_ne _ _ (fun e => by rw [← e, hrow'] at hy; cases hy)]; exact hrow'
      have oldy : ∀ x, H x ≠ none → (H.set y (some (.cells (k3 k) 3))) x = H x := fun x hx => Heap.set_ne _ _ (fun e => hx (by rw [e]; exact hy))
      have hRy : RowsM H0 (H.set y (some (.cells (k3 k) 3))) (blkOf u) Z := fun c hc => ⟨(hR c hc).1.keep fun b hb ho => ⟨oldy b hb, ho⟩, (hR c hc).2.keep fun b hb ho => ⟨oldy b hb, ho⟩⟩
      have hyy : (H.set y (some (.cells (k3 k) 3))) y = some (.cells (k3 k) 3) := Heap.set_self _ _ _
      generalize H.set y (some (.cells (k3 k) 3)) = Hy at *
      obtain ⟨pv', pl', pd', G1, G2, G3, j1, j2, j3, j4, _⟩ := hSy
      simp [j1, hyy, tk3, hk3]
      refine CallQ.ofH ((k_vValue j2 (by omega) k).mono fun r H' h => ⟨h.2, h.1⟩) ?_
      simp [j1, hyy, tk3, hk3, hun, t4, t0]
      rw [s_drawG]
      refine ⟨only2 Hy s y, only2_sub _ _ _, ?_⟩
      have oa : only2 Hy s y s = some (.cells [.ptr pv' 0, .ptr pl' 0, .ptr pd' 0] 3) := by rw [only2_a]; exact j1
      have ob : only2 Hy s y y = some (.cells (k3 k) 3) := by rw [only2_b]; exact hyy
      simp [oa, ob, tk3, hk3, hun, t4, t0]
      have uK : ∀ x, H0 x ≠ none → Hy x ≠ none := fun x hx => by rw [holdy x hx]; exact hx
      have lK := listK_le (k := k) (hS0.ok).l
      have dK := dictK_le (k := k) (hS0.ok).d
      refine CallK.of (k_lListM j3 (by omega) k) ?_
      intro ul H3 ⟨g1, g2, g3⟩
      have sub3 : Sub (only2 Hy s y) H3 := only2_keep (g2 s (by rw [j1]; simp)) (g2 y (by rw [hyy]; simp))
      have j4' : DicQ H3 pd' S.D G3 := j4.keep fun x hx => g2 x (j4.live hx)
      have hun3 := g1.un
      simp [sub3, hun3]
      refine CallK.of (k_dDictM j4' (by omega) k) ?_
      intro ud H4 ⟨e1, e2, e3⟩
      have keep4 : ∀ x, Hy x ≠ none → H4 x = Hy x := fun x hx => by rw [e2 x (by rw [g2 x hx]; exact hx)]; exact g2 x hx
      have sub4 : Sub (only2 Hy s y) H4 := only2_keep (keep4 s (by rw [j1]; simp)) (keep4 y (by rw [hyy]; simp))
      have hun4 := e1.un
      have iu : IRow H0 H4 (blkOf u) 1 ul := IRow.of1 (g1.agree fun b hb => e2 b (g1.live hb)) (by omega) fun x hx => by
        have hn := g3 x hx
        exact ⟨Classical.byContradiction fun h => uK x h hn, fun e => hOy.live e hn⟩
      have iv : IRow H0 H4 (blkOf u) 2 ud := IRow.of2 e1 (by omega) fun x hx => by
        have hn := e3 x hx
        have hn2 : Hy x = none := Classical.byContradiction fun h => by rw [g2 x h] at hn; exact h hn
        exact ⟨Classical.byContradiction fun h => uK x h hn2, fun e => hOy.live e hn2⟩
      have hR4 : RowsM H0 H4 (blkOf u) Z := fun c hc => ⟨(hRy c hc).1.keep fun b hb ho => ⟨keep4 b hb, ho⟩, (hRy c hc).2.keep fun b hb ho => ⟨keep4 b hb, ho⟩⟩
      have hO4 : OwnR H4 7 Z.length u (Z.flatMap encCM) := hOy.agree fun b hb => keep4 b (hOy.live hb)
      have ku := iu.known
      have kv := iv.known
      have cu := iu.cellsL
      have cv := iv.cellsL
      simp [sub4, hun3, hun4, hun, ku, kv, cu, cv, hk3]
      have hce : cellsOf H4 7 (.imm (encCM ⟨k, (getK k S.V).isSome, (getK k S.V).getD 0, ul, ud⟩) 1 (some 1)) = some (encCM ⟨k, (getK k S.V).isSome, (getK k S.V).getD 0, ul, ud⟩) := by rw [cellsOf_imm]; exact if_pos (by rw [encCM_length])
      have hone : (encCM ⟨k, (getK k S.V).isSome, (getK k S.V).getD 0, ul, ud⟩).all AV.one = true := by
        simp [encCM, k3, AV.one]
        exact ⟨iu.one, iv.one⟩
      refine vcAp_row (x := .imm (encCM ⟨k, (getK k S.V).isSome, (getK k S.V).getD 0, ul, ud⟩) 1 (some 1)) (n := Z.length) (m := 1) (new := encCM ⟨k, (getK k S.V).isSome, (getK k S.V).getD 0, ul, ud⟩) (.inl hO4) hce rfl rfl (by omega) hone (by omega) (.inl (by simp [encCM])) ?_
      intro u2 H5 w1 w2 w3
      have hun2 := w1.un
      have nb : ∀ b, H4 b ≠ none → blkOf u ≠ some b → H5 b = H4 b ∧ blkOf u2 ≠ some b := fun b hb ho => ⟨w2 b ho hb, fun e => by
        rcases w3 b e with h | h
        · exact hb h
        · exact ho h⟩
      have us : blkOf u ≠ some s := fun e => hS0.live (x := s) (by obtain ⟨_, _, _, _, _, _, _, _, _, _, _, _, _, _, h9⟩ := hS0; exact (h9 s).2 (.inl rfl)) (hfr s e)
      have uy : blkOf u ≠ some y := fun e => hO.live e hy
      have sub5 : Sub (only2 Hy s y) H5 := only2_keep (by rw [(nb s (by rw [keep4 s (by rw [j1]; simp), j1]; simp) us).1]; exact keep4 s (by rw [j1]; simp)) (by rw [(nb y (by rw [keep4 y (by rw [hyy]; simp), hyy]; simp) uy).1]; exact keep4 y (by rw [hyy]; simp))
      simp [sub5, hun2, t33]
      have k4 : ∀ x, H0 x ≠ none → H4 x = H0 x := fun x hx => by rw [keep4 x (uK x hx)]; exact holdy x hx
      refine Again2.mk (m - 1) (by omega) ⟨i + 1, u2, Z ++ [⟨k, (getK k S.V).isSome, (getK k S.V).getD 0, ul, ud⟩], by omega, by simp [t0], by simp [t31], by simp [t32], ?_, by simp, ?_, by simp; omega, fun x hx => ?_, fun b hb => ?_, fun _ => ?_, ?_, fun c hc => ?_⟩
      · simp; rw [wrap_i64 (by omega) (by omega)]
      · rw [List.flatMap_append, List.length_append]; simpa using w1
      · rw [(nb x (by rw [k4 x hx]; exact hx) (fun e => hx (hfr x e))).1]; exact k4 x hx
      · rcases w3 b hb with h | h
        · refine Classical.byContradiction fun hn => ?_
          rw [k4 b hn] at h; exact hn h
        · exact hfr b h
      · rw [hXe, (nb bk (by rw [keep4 bk (by rw [hby]; simp), hby]; simp) hnb).1, keep4 bk (by rw [hby]; simp)]; exact hby
      · exact (nb bk (by rw [keep4 bk (by rw [hby]; simp), hby]; simp) hnb).2
      · rcases List.mem_append.1 hc with hc | hc
        · exact ⟨(hR4 c hc).1.keep nb, (hR4 c hc).2.keep nb⟩
        · simp at hc; rw [hc]; exact ⟨iu.keep nb, iv.keep nb⟩
    · have hie : i = ks.length := by omega
      subst hie
      simp [t0, t31, t32, t33, t4, hun]
      exact ⟨Z, hO, by omega, hold, hfr, hR⟩
end Go.Proofs.YtdpbbnnlbjgjgaaGreat
