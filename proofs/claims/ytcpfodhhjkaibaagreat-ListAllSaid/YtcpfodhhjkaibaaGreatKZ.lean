/- One of each. -/
import Derived.Test.YtcpfodhhjkaibaaGreatK16
import Derived.Test.YtcpfodhhjkaibaaGreatN2
set_option linter.unusedVariables false
set_option linter.unusedSimpArgs false
set_option maxRecDepth 100000
namespace Go.Proofs.YtcpfodhhjkaibaaGreat
open Go.Sf
attribute [local simp] s_skip s_ops s_draw s_any s_contA s_tdone s_ttwo s_top_p s_top_pick s_top_e s_top_g s_seq s_cond s_block s_loop s_exit s_ret s_mark s_then_n s_then_e s_then_r s_in_n s_in_e s_in_r s_contC s_contO s_contQ s_contT s_nil s_cons_p s_cons_pick s_cons_e s_cons_g s_qnil s_qcons_p s_qcons_pick s_qcons_e s_qcons_g s_M s_Mg s_Mq s_Mqg s_G_p s_G_pick s_G_e s_Gq_p s_Gq_pick s_Gq_e s_if s_call s_callv s_qcall s_qcallv s_getAll_nil s_getAll_cons s_put_some s_put_none s_ev_t s_ev_c s_ev_f un evP evK argT resAV lenOf_nils lenOf_imm lenOf_sl lenOf_str optI slcV binV isShift binInt binStr shiftInt pickV unV s_append s_alloc s_box s_bslice s_Bs_t s_Bs_f s_store1 s_storeN s_St1 s_St s_s2b s_markb s_Mk s_mkslice s_qbslice s_qs2b s_ret_n s_ret_r s_retc_n s_retc_r s_RV_nil s_RV_t s_RV_c s_RV1 tupOf fillC kn_int cl_int on_int kn_bool cl_bool on_bool kn_str cl_str on_str kn_nilp cl_nilp on_nilp kn_ptr cl_ptr on_ptr kn_iptr cl_iptr on_iptr kn_nils cl_nils on_nils kn_sl cl_sl on_sl kn_imm cl_imm on_imm kn_mp cl_mp on_mp kn_nilm cl_nilm on_nilm kn_fn cl_fn on_fn kn_nilf cl_nilf on_nilf kn_agg cl_agg scalEq flatEq eqV s_copy_i s_copy_s s_Cp s_clr s_clrn s_Cl s_appz s_Az s_ext s_Ov s_mapB s_mapBS s_rng s_rngn s_Rn s_nxt s_Nx0 s_ent s_mkmap s_mset s_mdel mapOf s_Mg_n s_Mqg_n s_gw_b s_gw_u s_gw_gb s_gw_f
theorem diskQ_keep {H H' : Heap} {d f k : Nat} {av : AV} {F K A : FileL} (h : DiskQ H d f k av F K A) (m : ∀ x, x = d ∨ x = f ∨ x = k ∨ blkOf av = some x → H x ≠ none → H' x = H x) : DiskQ H' d f k av F K A := by
  obtain ⟨es, ks, acts, ⟨hd, hf, hk, ha, fk, ad⟩, hF, hK, hAc⟩ := h
  exact ⟨es, ks, acts, ⟨by rw [m d (.inl rfl) (by rw [hd]; simp)]; exact hd, by rw [m f (.inr (.inl rfl)) (by rw [hf]; simp)]; exact hf, by rw [m k (.inr (.inr (.inl rfl))) (by rw [hk]; simp)]; exact hk,
    ha.keep2 fun b hb => m b (.inr (.inr (.inr hb))) (by obtain ⟨cs, q, hq⟩ := ha.blk_live hb; rw [hq]; simp), fk, ad⟩, hF, hK, hAc⟩
theorem storeQ_keep {H H' : Heap} {s : Nat} {v : AV} {A : FileL} {room : Int} (h : StoreQ H s v A room) (m : ∀ x, x = s ∨ blkOf v = some x → H x ≠ none → H' x = H x) : StoreQ H' s v A room := by
  obtain ⟨hs, ⟨cs, ho, hO⟩, ne⟩ := h
  exact ⟨by rw [m s (.inl rfl) (by rw [hs]; simp)]; exact hs, ⟨cs, ho.keep2 fun b hb => m b (.inr hb) (by obtain ⟨cs, q, hq⟩ := ho.blk_live hb; rw [hq]; simp), hO⟩, ne⟩
theorem diskQ_live {H : Heap} {d f k : Nat} {av : AV} {F K A : FileL} (h : DiskQ H d f k av F K A) {x : Nat} (hx : x = d ∨ x = f ∨ x = k ∨ blkOf av = some x) : H x ≠ none := by
  obtain ⟨es, ks, acts, ⟨hd, hf, hk, ha, fk, ad⟩, hF, hK, hAc⟩ := h
  rcases hx with rfl | rfl | rfl | hx
  · rw [hd]; simp
  · rw [hf]; simp
  · rw [hk]; simp
  · obtain ⟨cs, q, hq⟩ := ha.blk_live hx
    rw [hq]; simp
theorem storeQ_live {H : Heap} {s : Nat} {v : AV} {A : FileL} {room : Int} (h : StoreQ H s v A room) {x : Nat} (hx : x = s ∨ blkOf v = some x) : H x ≠ none := by
  obtain ⟨hs, ⟨cs, ho, hO⟩, ne⟩ := h
  rcases hx with rfl | hx
  · rw [hs]; simp
  · obtain ⟨cs, q, hq⟩ := ho.blk_live hx
    rw [hq]; simp
/-- The blocks of a store and those of a disk are others. -/
def Apart (s : Nat) (v : AV) (d f k : Nat) (av : AV) : Prop := ∀ x, (x = s ∨ blkOf v = some x) → ¬ (x = d ∨ x = f ∨ x = k ∨ blkOf av = some x)
theorem p_begun : CP PP F_Rlaw1_begun [] (fun v => v = .bool true) := by
  refine CP.by_vc ok_Rlaw1_begun (by simp) ?_
  unfold c_Rlaw1_begun
  simp
  refine CallK.pure (p_put .nil 300 (by omega) (by simp)) ?_
  rintro _ rfl
  simp [immB]
  refine CallK.pure (p_get (l := enc 300) (.inr ⟨none, rfl⟩)) ?_
  rintro _ rfl
  have h300 : num (enc 300) = (300, 2, 0) := by
    have := num_enc (n := 300) (by omega) []
    rw [List.append_nil] at this
    rw [this, enc_ge (by omega), enc_lt (by omega)]; rfl
  rw [h300]
  simp [resN]
  intro b1 hb1
  simp [Heap.set_self, Heap.set_set, Heap.set_same (H := Heap.nil) (b := b1) (x := none) rfl]
  have hBB : IsBB (.imm [.imm [.int .u8 97, .int .u8 98] 2 (some 2)] 1 (some 1)) [[97, 98]] := .inr ⟨_, some 1, rfl, rfl, fun i w l h1 h2 => by
    cases i with
    | zero => simp at h1 h2; subst h1; subst h2; exact .inr ⟨some 2, rfl⟩
    | succ i => simp at h1⟩
  have hfl : (frameL [97, 98]).length = 7 := by unfold frameL; rw [enc_lt (by decide)]; rfl
  have hput : putL [] [[97, 98]] = frameL [97, 98] := by unfold putL; rw [if_pos (by simp)]; simp
  have hgf : getFrame (frameL [97, 98]) = ([97, 98], 7, 0) := by
    have := getFrame_frameL (t := [97, 98]) (by simp) []
    rw [List.append_nil, hfl] at this; exact this
  refine CallK.pure (p_framePut .nil hBB (by rw [hput, hfl]; omega) (by simp)) ?_
  intro u1 hu1
  rw [hput] at hu1
  simp [hu1.un]
  refine CallK.pure (p_frameGet hu1 (by rw [hfl]; omega)) ?_
  rintro _ ⟨u2, rfl, hu2⟩
  rw [hgf] at hu2 ⊢
  obtain ⟨c2, rfl⟩ : ∃ c, u2 = immB [97, 98] c := hu2.resolve_left (by simp)
  simp [hu2.un, immB]
  refine CallK.of (k_storeNew 0 (by omega)) ?_
  rintro _ H1 ⟨s, rfl, hs0, hS1, o1⟩
  simp
  refine CallK.of k_diskNew ?_
  rintro _ H2 ⟨d, f, k, rfl, hD2, nd, nf, nk, o2⟩
  have hS2 := storeQ_mono hS1 o2
  have ap2 : Apart s .nils d f k .nils := fun x hx hy => by
    have h1 := storeQ_live hS1 hx
    rcases hy with rfl | rfl | rfl | hy
    · exact h1 nd
    · exact h1 nf
    · exact h1 nk
    · cases hy
  clear o1 o2 hS1 hs0 nd nf nk
  simp
  refine CallK.of (k_putNew hS2 (name := ⟨#[120]⟩) (by decide) (by decide) (b := .imm [.int .u8 1, .int .u8 2] 2 (some 2)) (l := [1, 2]) (.inr ⟨some 2, rfl⟩) (by simp) (fun i j p q _ h => by simp at h) (by simp) rfl) ?_
  rintro _ H3 ⟨rfl, sv, hS3, n3, o3⟩
  have hD3 : DiskQ H3 d f k .nils [] [] [] := diskQ_keep hD2 fun x hx hn => o3 x (fun h => ap2 s (.inl rfl) (by rw [← h]; exact hx)) (by simp [blkOf]) hn
  have ap3 : Apart s sv d f k .nils := fun x hx hy => by
    rcases hx with rfl | hx
    · exact ap2 _ (.inl rfl) hy
    · rcases n3 x hx with h | h
      · exact diskQ_live hD2 hy h
      · cases h
  clear ap2 o3 n3 hD2 hS2
  simp
  intro b2 hb2
  simp [Heap.set_self, Heap.set_set, Heap.set_same hb2]
  refine CallK.of (k_diskAppend hD3 (name := ⟨#[102]⟩) (b := .imm [.int .u8 104, .int .u8 101, .int .u8 108, .int .u8 108, .int .u8 111] 5 (some 5)) (l := [104, 101, 108, 108, 111]) (.inr ⟨some 5, rfl⟩) (by decide) (by decide) (by simp [fget, fidx]) (by simp)) ?_
  rintro _ H4 ⟨rfl, av4, hD4, n4, o4⟩
  have hF4 : fapp [] ⟨#[102]⟩ [104, 101, 108, 108, 111] = [(⟨#[102]⟩, [104, 101, 108, 108, 111])] := by simp [fapp, fset, fget, fidx]
  rw [hF4] at hD4
  have hS4 : StoreQ H4 s sv _ 0 := storeQ_keep hS3 fun x hx hn => o4 x (fun h => ap3 x hx (.inl h)) (fun h => ap3 x hx (.inr (.inl h))) (by simp [blkOf]) hn
  have ap4 : Apart s sv d f k av4 := fun x hx hy => by
    rcases hy with h | h | h | h
    · exact ap3 x hx (.inl h)
    · exact ap3 x hx (.inr (.inl h))
    · exact ap3 x hx (.inr (.inr (.inl h)))
    · rcases n4 with h2 | h2
      · rw [h2] at h; cases h
      · exact storeQ_live hS3 hx (h2 x h)
  clear ap3 o4 n4 hD3 hS3 hF4
  simp
  refine CallK.of (k_diskSync hD4) ?_
  rintro _ H5 ⟨k5, nk5, hD5, o5⟩
  have hS5 : StoreQ H5 s sv _ 0 := storeQ_keep hS4 fun x hx hn => o5 x (fun h => ap4 x hx (.inl h)) hn
  have ap5 : Apart s sv d f k5 .nils := fun x hx hy => by
    rcases hy with h | h | h | h
    · exact ap4 x hx (.inl h)
    · exact ap4 x hx (.inr (.inl h))
    · rw [h] at hx; exact storeQ_live hS4 hx nk5
    · cases h
  clear ap4 o5 hD4 hS4
  simp
  intro b3 hb3
  simp [Heap.set_self, Heap.set_set, Heap.set_same hb3]
  refine CallK.of (k_diskAppend hD5 (name := ⟨#[102]⟩) (b := .imm [.int .u8 33, .int .u8 33] 2 (some 2)) (l := [33, 33]) (.inr ⟨some 2, rfl⟩) (by decide) (by decide) (by simp [fget, fidx]) (by simp)) ?_
  rintro _ H6 ⟨rfl, av6, hD6, n6, o6⟩
  have hS6 : StoreQ H6 s sv _ 0 := storeQ_keep hS5 fun x hx hn => o6 x (fun h => ap5 x hx (.inl h)) (fun h => ap5 x hx (.inr (.inl h))) (by simp [blkOf]) hn
  clear ap5 o6 n6 hD5 hS5
  simp
  have hL : leftF (1 : Int).toNat ([] ++ [(⟨#[102]⟩, [33, 33])]) [(⟨#[102]⟩, [104, 101, 108, 108, 111])] = [((⟨#[102]⟩ : ByteArray), ([104, 101, 108, 108, 111, 33] : List UInt8))] := by
    simp [leftF, fapp, fset, fget, fidx]
  refine CallK.of (k_diskCrash hD6 1 (-1) (by omega) (by omega) (by omega) (by omega) (by simp) (by simp [totL]) (by rw [hL]; intro p hp; simp at hp; subst hp; decide) (by rw [hL]; simp) (by rw [hL]; simp [totL])) ?_
  rintro _ H7 ⟨d7, f7, k7, rfl, _, _, _, hD7, o7⟩
  rw [hL] at hD7
  have hS7 := storeQ_mono hS6 o7
  clear o7 hS6 hD6
  simp
  have hfg : fget ⟨#[102]⟩ [((⟨#[102]⟩ : ByteArray), ([104, 101, 108, 108, 111, 33] : List UInt8))] = [104, 101, 108, 108, 111, 33] := by simp [fget, fidx]
  refine CallK.of (k_diskRead hD7 ⟨#[102]⟩ (by rw [hfg]; simp)) ?_
  rintro v H8 ⟨rfl, hv⟩
  rw [show fidx ⟨#[102]⟩ [((⟨#[102]⟩ : ByteArray), ([104, 101, 108, 108, 111, 33] : List UInt8))] = some 0 by simp [fidx], hfg] at hv
  obtain ⟨u3, rfl, hu3⟩ := hv
  obtain ⟨c3, rfl⟩ : ∃ c, u3 = immB [104, 101, 108, 108, 111, 33] c := hu3.resolve_left (by simp)
  simp [hu3.un, immB]
  intro b14 hb14
  have hS9 : StoreQ ((H8.set b14 (some (Blk.cells [.int .i64 0, .int .i64 0, .int .i64 0, .int .i64 0, .int .i64 0, .int .i64 0] 6))).set b14 (some (Blk.cells [.int .i64 5, .int .i64 1, .int .i64 1, .int .i64 5, .int .i64 3, .int .i64 (-9)] 6))) s sv ([] ++ [(⟨#[120]⟩, [1, 2])]) 0 := storeQ_mono hS7 fun x hx => by
    rw [Heap.set_set, Heap.set_ne _ _ (fun h => hx (by rw [h]; exact hb14))]
  have hm9 : ((H8.set b14 (some (Blk.cells [.int .i64 0, .int .i64 0, .int .i64 0, .int .i64 0, .int .i64 0, .int .i64 0] 6))).set b14 (some (Blk.cells [.int .i64 5, .int .i64 1, .int .i64 1, .int .i64 5, .int .i64 3, .int .i64 (-9)] 6))) b14 = some (Blk.cells [.int .i64 5, .int .i64 1, .int .i64 1, .int .i64 5, .int .i64 3, .int .i64 (-9)] 6) := Heap.set_self _ _ _
  simp [Heap.set_self]
  generalize ((H8.set b14 (some (Blk.cells [.int .i64 0, .int .i64 0, .int .i64 0, .int .i64 0, .int .i64 0, .int .i64 0] 6))).set b14 (some (Blk.cells [.int .i64 5, .int .i64 1, .int .i64 1, .int .i64 5, .int .i64 3, .int .i64 (-9)] 6))) = H9 at *
  have hmm : mayM ⟨5, 1, 1, 5, 3, -9⟩ = true := by decide
  have hpm : putM [⟨5, 1, 1, 5, 3, -9⟩] = [5, 1, 1, 5, 3, 17] := by
    have e5 : enc (5 : Int).toNat = [5] := enc_lt (by decide)
    have e1 : enc (1 : Int).toNat = [1] := enc_lt (by decide)
    have e3 : enc (3 : Int).toNat = [3] := enc_lt (by decide)
    have ez : enc (zig (-9)) = [17] := enc_lt (by decide)
    simp only [putM, List.filter_cons, hmm, if_true, List.filter_nil, List.flatMap_cons, List.flatMap_nil, List.append_nil, encM]
    rw [show fieldsK 5 = true from rfl, show valuesK 5 = true from rfl, e5, e1, e3, ez]
    rfl
  refine CallK.pure (p_mutPut (ms := [⟨5, 1, 1, 5, 3, -9⟩]) .nil (.inr ⟨some 1, rfl⟩) (by simp [okM]) (by simp)) ?_
  intro u4 hu4
  rw [List.nil_append, hpm] at hu4
  simp [hu4.un]
  refine CallK.pure (p_mutGet hu4 (by simp)) ?_
  rintro _ rfl
  rw [show getMutL [5, 1, 1, 5, 3, 17] = (⟨5, 1, 1, 5, 3, -9⟩, 6, 0) by decide +kernel]
  simp [mutCs]
  intro b15 hb15
  have n15 : b14 ≠ b15 := fun h => by rw [← h, hm9] at hb15; cases hb15
  have hS10 : StoreQ ((H9.set b15 (some (Blk.cells [.int .i64 0, .int .i64 0, .int .i64 0, .int .i64 0, .int .i64 0, .int .i64 0] 6))).set b15 (some (Blk.cells [.int .i64 5, .int .i64 1, .int .i64 1, .int .i64 5, .int .i64 3, .int .i64 (-9)] 6))) s sv ([] ++ [(⟨#[120]⟩, [1, 2])]) 0 := storeQ_mono hS9 fun x hx => by
    rw [Heap.set_set, Heap.set_ne _ _ (fun h => hx (by rw [h]; exact hb15))]
  have hm10 : ((H9.set b15 (some (Blk.cells [.int .i64 0, .int .i64 0, .int .i64 0, .int .i64 0, .int .i64 0, .int .i64 0] 6))).set b15 (some (Blk.cells [.int .i64 5, .int .i64 1, .int .i64 1, .int .i64 5, .int .i64 3, .int .i64 (-9)] 6))) b14 = some (.cells [.int .i64 5, .int .i64 1, .int .i64 1, .int .i64 5, .int .i64 3, .int .i64 (-9)] 6) := by
    rw [Heap.set_ne _ _ n15, Heap.set_ne _ _ n15]; exact hm9
  have hy10 : ((H9.set b15 (some (Blk.cells [.int .i64 0, .int .i64 0, .int .i64 0, .int .i64 0, .int .i64 0, .int .i64 0] 6))).set b15 (some (Blk.cells [.int .i64 5, .int .i64 1, .int .i64 1, .int .i64 5, .int .i64 3, .int .i64 (-9)] 6))) b15 = some (.cells [.int .i64 5, .int .i64 1, .int .i64 1, .int .i64 5, .int .i64 3, .int .i64 (-9)] 6) := Heap.set_self _ _ _
  simp [Heap.set_self, cellsOf_imm, bytesV, byteV, toBytes]
  generalize ((H9.set b15 (some (Blk.cells [.int .i64 0, .int .i64 0, .int .i64 0, .int .i64 0, .int .i64 0, .int .i64 0] 6))).set b15 (some (Blk.cells [.int .i64 5, .int .i64 1, .int .i64 1, .int .i64 5, .int .i64 3, .int .i64 (-9)] 6))) = H10 at *
  refine CallK.of (k_has hS10 (ns := [⟨#[120]⟩]) (.inr ⟨some 1, rfl⟩) (fun n _ i j p q hij hp hq h => ?_) (by simp) (by simp)) ?_
  · have hj : j = 0 := by
      have := (List.getElem?_eq_some_iff.1 hq).1
      simp at this; omega
    have hi : i = 0 := by omega
    subst hi; subst hj
    rw [hp] at hq; cases hq; exact h
  rintro _ H11 ⟨rfl, rfl⟩
  rw [show ([⟨#[120]⟩] : List ByteArray).all (fun n => (findO n ([] ++ [((⟨#[120]⟩ : ByteArray), ([1, 2] : List UInt8))])).2) = true by decide +kernel]
  simp [hm10, hy10, cellsOf_imm, bytesV, byteV, toBytes]
  have bb2 : IsBB (.imm [.imm [.int .u8 1] 1 (some 1), .imm [.int .u8 2] 1 (some 1)] 2 (some 2)) [[1], [2]] := .inr ⟨_, some 2, rfl, rfl, fun i w l h1 h2 => by
    rcases i with _ | _ | i
    · simp at h1 h2; subst h1; subst h2; exact .inr ⟨some 1, rfl⟩
    · simp at h1 h2; subst h1; subst h2; exact .inr ⟨some 1, rfl⟩
    · simp at h1⟩
  refine CallK.pure (p_sumOf bb2 (by simp) (by simp)) ?_
  rintro _ rfl
  simp
  have bb1 : IsBB (.imm [.imm [.int .u8 1, .int .u8 2] 2 (some 2)] 1 (some 1)) [[1, 2]] := .inr ⟨_, some 1, rfl, rfl, fun i w l h1 h2 => by
    rcases i with _ | i
    · simp at h1 h2; subst h1; subst h2; exact .inr ⟨some 2, rfl⟩
    · simp at h1⟩
  refine CallK.pure (p_sumOf bb1 (by simp) (by simp)) ?_
  rintro _ rfl
  simp
  refine CallK.pure (p_sumOf (.inl ⟨rfl, rfl⟩) (by simp) (by simp)) ?_
  rintro _ rfl
  rw [show sumL ([] : List (List UInt8)).flatten = 1 from rfl]
  simp [hm10]
  refine CallK.pure (p_may ⟨5, 1, 1, 5, 3, -9⟩) ?_
  rintro _ rfl
  rw [hmm]
  simp
end Go.Proofs.YtcpfodhhjkaibaaGreat
