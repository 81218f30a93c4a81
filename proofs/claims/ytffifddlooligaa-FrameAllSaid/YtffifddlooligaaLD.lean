/- Texts in frames, and back. -/
import Derived.Test.YtffifddlooligaaC6
import Derived.Test.YtffifddlooligaaLR
import Derived.Test.YtffifddlooligaaLO
set_option linter.unusedVariables false
set_option linter.unusedSimpArgs false
set_option maxRecDepth 100000
namespace Go.Sf
theorem Weak.own {T : Nat → AV} {H : Heap} {d n : Nat} {v : AV} {cs : List AV} (hT : T d = v) (ho : OwnR H 1 n v cs) : ∃ H', Weak ⟨T, H⟩ ⟨put T (some d) (.imm cs n none), H'⟩ := by
  obtain ⟨hl, ⟨rfl, rfl⟩ | ⟨b, c, rfl, hb, hc⟩⟩ := ho
  · have hcs : cs = [] := List.length_eq_zero_iff.1 (by simpa using hl)
    subst hcs
    refine ⟨H, fun m M a w h1 h2 => ⟨M, ⟨h1.1, fun i hi => ?_⟩, h2, .refl _ _ _⟩⟩
    simp only [put, tset]
    by_cases hid : i = d
    · subst hid
      rw [if_pos rfl]
      have hx : VRel M (T i) (a.getD i undef) := h1.2 i hi
      rw [hT] at hx
      have := nil_imm hx
      simpa [immB, bytesV] using this
    · rw [if_neg hid]; exact h1.2 i hi
  · exact ⟨_, Weak.frz hT hb hc⟩
/-- A row of the call's own, held for good from here on. -/
theorem MarkV.own {R : AS → (Exit → AS → Prop) → Prop} {Q : Exit → AS → Prop} {T : Nat → AV} {H : Heap} (d : Nat) {n : Nat} {v : AV} {cs : List AV} (hT : T d = v) (ho : OwnR H 1 n v cs)
    (h : ∀ H', R ⟨put T (some d) (.imm cs n none), H'⟩ Q) : MarkV R ⟨T, H⟩ Q := by
  obtain ⟨H', hw⟩ := Weak.own hT ho
  exact ⟨_, hw, h H'⟩
end Go.Sf
namespace Go.Proofs.Ytffifddlooligaa
open Go.Sf
attribute [local simp] s_skip s_ops s_draw s_any s_contA s_tdone s_ttwo s_top_p s_top_pick s_top_e s_top_g s_seq s_cond s_block s_loop s_exit s_ret s_mark s_then_n s_then_e s_then_r s_in_n s_in_e s_in_r s_contC s_contO s_contQ s_contT s_nil s_cons_p s_cons_pick s_cons_e s_cons_g s_qnil s_qcons_p s_qcons_pick s_qcons_e s_qcons_g s_M s_Mg s_Mq s_Mqg s_G_p s_G_pick s_G_e s_Gq_p s_Gq_pick s_Gq_e s_if s_call s_callv s_qcall s_qcallv s_getAll_nil s_getAll_cons s_put_some s_put_none s_ev_t s_ev_c s_ev_f un evP evK argT resAV lenOf_nils lenOf_imm lenOf_sl lenOf_str optI slcV binV isShift binInt binStr shiftInt pickV unV s_append s_alloc s_box s_bslice s_Bs_t s_Bs_f s_store1 s_storeN s_St1 s_St s_s2b s_markb s_Mk s_mkslice s_qbslice s_qs2b s_ret_n s_ret_r s_retc_n s_retc_r s_RV_nil s_RV_t s_RV_c s_RV1 tupOf fillC kn_int cl_int on_int kn_bool cl_bool on_bool kn_str cl_str on_str kn_nilp cl_nilp on_nilp kn_ptr cl_ptr on_ptr kn_iptr cl_iptr on_iptr kn_nils cl_nils on_nils kn_sl cl_sl on_sl kn_imm cl_imm on_imm kn_mp cl_mp on_mp kn_nilm cl_nilm on_nilm kn_fn cl_fn on_fn kn_nilf cl_nilf on_nilf kn_agg cl_agg scalEq flatEq eqV s_copy_i s_copy_s s_Cp s_clr s_clrn s_Cl s_appz s_Az s_ext s_Ov s_mkmap s_mset s_mdel mapOf s_Mg_n s_Mqg_n s_gw_b s_gw_u s_gw_gb s_gw_f
def shs (ts : List (List UInt8)) : List (List UInt8) := ts.map fun t => t.take 100
def frs (ts : List (List UInt8)) : List UInt8 := (ts.map fun t => frameL (t.take 100)).flatten
def I_f1 (ts : List (List UInt8)) (at' : Int) (x : Nat) (cut : Int) (raw : List UInt8) (k : Nat) (T : Nat → AV) (H : Heap) : Prop :=
  ∃ (j : Nat) (v : AV), j + k = ts.length ∧ T 0 = .imm (bbV ts) ts.length none ∧ T 1 = .int .i64 at' ∧ T 2 = .int .u8 x ∧ T 3 = .int .i64 cut ∧ T 4 = immB raw none ∧ T 12 = v ∧
    OwnR H 1 (frs (ts.take j)).length v (bytesV (frs (ts.take j))) ∧ T 44 = .int .i64 ts.length ∧ T 45 = .int .i64 j
def I_f2 (ts : List (List UInt8)) (at' : Int) (x : Nat) (cut : Int) (raw : List UInt8) (k : Nat) (T : Nat → AV) (H : Heap) : Prop :=
  ∃ (j : Nat) (v : AV), j + k = ts.length ∧ T 0 = .imm (bbV ts) ts.length none ∧ T 1 = .int .i64 at' ∧ T 2 = .int .u8 x ∧ T 3 = .int .i64 cut ∧ T 4 = immB raw none ∧ T 12 = immB (frs ts) none ∧ T 14 = v ∧
    OwnR H 1 (shs (ts.take j)).length v (bbV (shs (ts.take j))) ∧ T 58 = .int .i64 ts.length ∧ T 59 = .int .i64 j
theorem frs_take {ts : List (List UInt8)} {j : Nat} (h : j < ts.length) : frs (ts.take (j + 1)) = frs (ts.take j) ++ frameL (ts[j].take 100) := by
  unfold frs; rw [← List.take_append_getElem h]; simp only [List.map_append, List.flatten_append, List.map_cons, List.map_nil, List.flatten_cons, List.flatten_nil, List.append_nil]
theorem frame_len (t : List UInt8) (h : t.length ≤ 100) : (frameL t).length ≤ 105 := by rw [frame_short h]; simp [le4_length]; omega
theorem frs_len : ∀ (ts : List (List UInt8)), (frs ts).length ≤ 105 * ts.length
  | [] => by simp [frs]
  | t :: ts => by
    have h1 := frs_len ts
    have h2 := frame_len (t.take 100) (by simp; omega)
    unfold frs at *
    simp only [List.map_cons, List.flatten_cons, List.length_append, List.length_cons]; omega
def I_f3 (L : List (List UInt8)) (c : Option Nat) (k : Nat) (T : Nat → AV) (H : Heap) : Prop :=
  ∃ j : Nat, j + k = L.length ∧ T 131 = .imm (bbV L) L.length c ∧ T 132 = .int .i64 L.length ∧ T 133 = .int .i64 j
def I_f4 (L R : List (List UInt8)) (c : Option Nat) (j : Nat) (k : Nat) (T : Nat → AV) (H : Heap) : Prop :=
  ∃ q : Nat, q + k = R.length ∧ T 20 = .imm (bbV R) R.length none ∧ T 23 = .imm (bbV R) R.length none ∧ T 193 = .int .i64 R.length ∧ T 194 = .int .i64 q ∧ T 131 = .imm (bbV L) L.length c ∧ T 132 = .int .i64 L.length ∧ T 133 = .int .i64 j
theorem allF_len : ∀ (f : Nat) (l : List UInt8), (allF f l).1.length ≤ f ∧ (allF f l).2.1 ≤ l.length
  | 0, l => by simp [allF]
  | f + 1, l => by
    unfold allF
    split
    · simp
    · split
      · simp
      · rename_i h
        have h1 := allF_len f (l.drop (getFrame l).2.1)
        have h2 := getFrame_ok (l := l) (by simpa using h)
        simp only [List.length_cons, List.length_drop] at *
        omega
theorem putL_shs (l : List UInt8) (ts : List (List UInt8)) : putL l (shs ts) = l ++ frs ts := by
  unfold putL
  rw [if_pos (fun u hu => by
    unfold shs at hu
    rw [List.mem_map] at hu
    obtain ⟨t, _, rfl⟩ := hu
    simp; omega)]
  unfold frs shs
  rw [List.map_map]; rfl
theorem p_FrameAll (ts0 : List (List UInt8)) (hts : ts0.length < 2 ^ 63) (hts2 : ∀ t ∈ ts0, t.length < 2 ^ 63) (at' : Int) (ha0 : IntKind.i64.min ≤ at') (ha1 : at' ≤ IntKind.i64.max) (x : Nat) (hx : x < 256)
    (cut : Int) (hc0 : IntKind.i64.min ≤ cut) (hc1 : cut ≤ IntKind.i64.max) (raw0 : List UInt8) (hraw : raw0.length < 2 ^ 63) :
    CP PP F_Rlaw1_FrameAll [.imm (ts0.map fun l => immB l none) ts0.length none, .int .i64 at', .int .u8 x, .int .i64 cut, immB raw0 none] (fun v => v = .bool true) := by
  have ha0' : -9223372036854775808 ≤ at' := ha0
  have ha1' : at' ≤ 9223372036854775807 := ha1
  have hc0' : -9223372036854775808 ≤ cut := hc0
  have hc1' : cut ≤ 9223372036854775807 := hc1
  refine CP.by_vc ok_Rlaw1_FrameAll (by simp) ?_
  unfold c_Rlaw1_FrameAll
  simp
  refine CallK.pure p_begun ?_
  rintro _ rfl
  have hm : ∀ n : Nat, (if (6 : Int) < n then 6 else (n : Int)) = ((min n 6 : Nat) : Int) := fun n => by split <;> omega
  simp [hm, immB]
  have hQ : ∀ K : AV → Prop, K (immB (raw0.take 60) none) → CallQ PP F_Rlaw1_Short [AV.imm (bytesV raw0) raw0.length none, AV.int .i64 60] K := fun K k =>
    CallQ.of (CP.imm (p_short (a := immB raw0 none) (.inr ⟨none, rfl⟩) 60 (by omega) hraw)) k
  refine ⟨by omega, hQ _ ?_⟩
  have h6 : (ts0.take 6).length ≤ 6 := by simp; omega
  have hr60 : (raw0.take 60).length ≤ 60 := by simp; omega
  have hts6 : ∀ t ∈ ts0.take 6, t.length < 2 ^ 63 := fun t ht => hts2 t (List.mem_of_mem_take ht)
  have eT : AV.imm (List.take (min ts0.length 6) (ts0.map fun l => AV.imm (bytesV l) l.length none)) (min ts0.length 6) none = .imm (bbV (ts0.take 6)) (ts0.take 6).length none := by
    unfold bbV immB
    rw [List.map_take, List.length_take, Nat.min_comm 6]
    congr 1
    rw [List.take_eq_take_iff]; simp; omega
  have eL : ((min ts0.length 6 : Nat) : Int) = (ts0.take 6).length := by simp; omega
  rw [eT]
  generalize ts0.take 6 = ts at *
  generalize raw0.take 60 = raw at *
  have hfl := frs_len ts
  simp [immB]
  refine LoopV.mk2 (I_f1 ts at' x cut raw) ts.length ⟨0, .nils, by omega, by simp, by simp, by simp, by simp, by simp [immB], by simp, ⟨by simp [frs, bytesV], .inl ⟨rfl, by simp [frs]⟩⟩, by simp, by simp⟩ ?_
  rintro k T H ⟨j, v, hj, t0, t1, t2, t3, t4, t12, ho, t44, t45⟩
  by_cases hk : k = 0
  rotate_left
  · have hlt : j < ts.length := by omega
    have hb := hts6 ts[j] (by simp)
    have hbv : (bbV ts)[j]? = some (immB ts[j] none) := by unfold bbV; simp [hlt]
    have hl2 := frs_len (ts.take j)
    have hl3 : (ts.take j).length ≤ 6 := by simp; omega
    have hfr := frame_len (ts[j].take 100) (by simp; omega)
    simp [t0, t12, t44, t45, hlt, hbv, ho.un, immB]
    refine CallK.pure (CP.imm (p_short (a := immB ts[j] none) (.inr ⟨none, rfl⟩) 100 (by omega) hb)) ?_
    have hft := frs_take hlt
    have hPl : (ts[j].take 100).length ≤ 100 := by simp; omega
    generalize ts[j].take 100 = P at *
    rintro _ rfl
    simp [ho.un, immB]
    refine CallK.pure (p_rFrame P (by omega)) ?_
    rintro _ rfl
    simp [ho.un, immB]
    have hne : frameL P ≠ [] := fun e => by have := congrArg List.length e; rw [frame_short hPl] at this; simp at this
    refine vcAp_row (.inl ho) (new := bytesV (frameL P)) (m := (frameL P).length) ((IsB.imm _ none).cells _) rfl (by rw [bytesV_length]; omega) (by omega) (bytesV_one _) (by omega) (.inl (by simp [bytesV, hne])) ?_
    intro v' H' ho' _ _
    simp [t45, ho'.un]
    refine Again2.mk (k - 1) (by omega) ⟨j + 1, v', by omega, by simp [t0], by simp [t1], by simp [t2], by simp [t3], by simp [t4], by simp, ?_, by simp [t44], ?_⟩
    · rw [hft, List.length_append, bytesV_append]; exact ho'
    · simp; rw [wrap_i64 (by omega) (by omega)]
  subst hk
  obtain rfl : j = ts.length := by omega
  rw [List.take_length] at ho
  simp [t44, t45]
  refine MarkV.own 12 (by simp [t12]) ho ?_
  intro H1
  simp [t0]
  refine LoopV.mk2 (I_f2 ts at' x cut raw) ts.length ⟨0, .nils, by omega, by simp [t0], by simp [t1], by simp [t2], by simp [t3], by simp [t4], by simp [immB], by simp, ⟨by simp [bbV], .inl ⟨rfl, rfl⟩⟩, by simp, by simp⟩ ?_
  clear t0 t1 t2 t3 t4 t12 ho t44 t45
  rintro k T H ⟨j, v, hj, t0, t1, t2, t3, t4, t12, t14, ho, t44, t45⟩
  by_cases hk : k = 0
  rotate_left
  · have hlt : j < ts.length := by omega
    have hb := hts6 ts[j] (by simp)
    have hbv : (bbV ts)[j]? = some (immB ts[j] none) := by unfold bbV; simp [hlt]
    have hl3 : (ts.take j).length ≤ 6 := by simp; omega
    simp [t0, t14, t44, t45, hlt, hbv, ho.un, immB]
    refine CallK.pure (CP.imm (p_short (a := immB ts[j] none) (.inr ⟨none, rfl⟩) 100 (by omega) hb)) ?_
    have hft : shs (ts.take (j + 1)) = shs (ts.take j) ++ [ts[j].take 100] := by
      unfold shs; rw [← List.take_append_getElem hlt, List.map_append]; rfl
    generalize ts[j].take 100 = P at *
    rintro _ rfl
    simp [ho.un, immB]
    refine vcAp_row (.inl ho) (new := [immB P none]) (m := 1) rfl rfl rfl (by omega) rfl (by simp [shs]; omega) (.inl (by simp)) ?_
    intro v' H' ho' _ _
    simp [t45, ho'.un]
    refine Again2.mk (k - 1) (by omega) ⟨j + 1, v', by omega, by simp [t0], by simp [t1], by simp [t2], by simp [t3], by simp [t4], by simp [t12], by simp, ?_, by simp [t44], ?_⟩
    · rw [hft]; simpa [bbV] using ho'
    · simp; rw [wrap_i64 (by omega) (by omega)]
  subst hk
  obtain rfl : j = ts.length := by omega
  rw [List.take_length] at ho
  simp [t44, t45]
  refine MarkV.own 14 (by simp [t14]) ho ?_
  intro H2
  simp
  have hsl : (shs ts).length = ts.length := by simp [shs]
  have hp1 := putL_shs [] ts
  have hp2 := putL_shs raw ts
  have hBB := bbV_isBB (shs ts) none
  have hbb : ∀ c, IsBB (.imm (bbV (shs ts)) (shs ts).length c) (shs ts) := bbV_isBB (shs ts)
  generalize hB : frs ts = B at *
  have hBl : B.length ≤ 630 := by omega
  generalize shs ts = S at *
  refine CallK.pure (CP.imm (p_framePut (l := []) (ls := S) .nil hBB (by rw [hp1]; simp; omega) (by omega))) ?_
  rw [hp1]
  rintro _ rfl
  simp [t12, immB]
  refine CallK.pure (p_same (l := B) (m := B) (.inr ⟨none, rfl⟩) (.inr ⟨none, rfl⟩)) ?_
  rintro _ rfl
  simp [t4, immB]
  refine CallK.pure (CP.imm (p_framePut (l := raw) (ls := S) (.inr ⟨none, rfl⟩) hBB (by rw [hp2]; simp; omega) (by omega))) ?_
  rw [hp2]
  rintro _ rfl
  simp [t4, immB]
  refine app_row (IsB.imm raw none) (by omega) ?_
  intro v1 H3 ho1 _
  simp [t12, ho1.un, immB]
  refine app_hold ho1 (IsB.imm B none) (by omega) ?_
  intro H4 _
  simp [immB]
  refine CallK.pure (p_same (l := raw ++ B) (m := raw ++ B) (.inr ⟨none, by simp [immB]⟩) (.inr ⟨none, by simp [immB]⟩)) ?_
  rintro _ rfl
  simp [t12, t4, immB]
  refine app_row (IsB.imm B none) (by omega) ?_
  intro v2 H5 ho2 _
  simp [t4, ho2.un, immB]
  refine app_hold ho2 (IsB.imm raw none) (by omega) ?_
  intro H6 _
  simp [t12, immB]
  refine (have tail : ∀ (T : Nat → AV) (H : Heap) (L : List (List UInt8)) (c : Option Nat), L.length ≤ 5 → (∀ l ∈ L, l.length ≤ 2000) → T 131 = .imm (bbV L) L.length c → T 132 = .int .i64 L.length → T 133 = .int .i64 0 → LoopV ?R ⟨T, H⟩ ?Q := ?tl
    ?main)
  case main =>
    have e3 : AV.imm [AV.imm (bytesV B) B.length none, AV.imm (bytesV raw) raw.length none, AV.imm (bytesV (B ++ raw)) (B.length + raw.length) none] 3 (some 3) = .imm (bbV [B, raw, B ++ raw]) [B, raw, B ++ raw].length (some 3) := by simp [bbV, immB]
    have hL3 : ∀ l ∈ [B, raw, B ++ raw], l.length ≤ 2000 := fun l hl => by
      simp at hl
      rcases hl with rfl | rfl | rfl
      · omega
      · omega
      · simp; omega
    refine ⟨fun hpos => ?_, fun _ => ?_⟩
    · have hB0 : B ≠ [] := fun e => by rw [e] at hpos; simp at hpos
      have hBp : 0 < B.length := List.length_pos_iff.2 hB0
      refine app_row (IsB.imm B none) (by omega) ?_
      intro v7 H7 ho7 _
      obtain ⟨bk, cp, rfl, hb, hcp, hlen⟩ := own_sl ho7 (by omega)
      obtain ⟨i, hi, hpl⟩ := place ha0' ha1' hBp (by omega)
      obtain ⟨i2, hi2, hpl2⟩ := place hc0' hc1' hBp (by omega)
      have hge : (bytesV B)[i]'(by rw [bytesV_length]; exact hi) = .int .u8 B[i].toNat := by simp [bytesV, byteV]
      have hz : B[i].toNat ^^^ x < 2 ^ 8 := Nat.xor_lt_two_pow B[i].toNat_lt hx
      have hxor := xor_u8 (y := B[i].toNat) B[i].toNat_lt hx
      have hset : (bytesV B).set i (AV.int .u8 ((B[i].toNat ^^^ x : Nat) : Int)) = bytesV (B.set i (UInt8.ofNat (B[i].toNat ^^^ x))) := by
        rw [u8_ofNat hz]; unfold bytesV; rw [List.map_set]
      generalize hyv : UInt8.ofNat (B[i].toNat ^^^ x) = y at *
      simp [t1, t2, hpl, hb, hge, hxor, hset, hi, hB0, bytesV_length]
      refine MarkV.frz 17 (b := bk) (n := B.length) (c := cp) (k := cp) (cs := bytesV (B.set i y)) (by simp) (Heap.set_self _ _ _) hcp ?_
      simp [t12, t3, hpl2, hB0, immB]
      refine ⟨⟨by omega, bytesV_length _⟩, ?_⟩
      have hmin : min i2 B.length = i2 := by omega
      refine vcAp_hold (n := 3) (cs := [immB B none, immB raw none, immB (B ++ raw) none]) (.inr ⟨rfl, by simp [immB]⟩) (new := [immB (B.set i y) none, immB (B.take i2) none]) (m := 2) (by simp [cellsOf, immB, bytesV_take, hmin]) rfl rfl (by omega) ?_
      intro H8 _
      simp
      refine tail _ _ [B, raw, B ++ raw, B.set i y, B.take i2] none (by simp) ?_ ?_ ?_ ?_
      · intro l hl
        rw [show [B, raw, B ++ raw, B.set i y, B.take i2] = [B, raw, B ++ raw] ++ [B.set i y, B.take i2] from rfl, List.mem_append] at hl
        rcases hl with hl | hl
        · exact hL3 l hl
        · simp at hl
          rcases hl with rfl | rfl
          · simp; omega
          · simp; omega
      · simp [bbV]
      · simp
      · simp
    · refine tail _ _ [B, raw, B ++ raw] (some 3) (by simp) hL3 ?_ ?_ ?_
      · simp [bbV, immB]
      · simp
      · simp
  case tl =>
    intro T H L c hL hLl t131 t132 t133
    refine LoopV.mk2 (I_f3 L c) L.length ⟨0, by omega, t131, t132, by simpa using t133⟩ ?_
    clear t131 t132 t133
    rintro k T H ⟨j, hj, t131, t132, t133⟩
    by_cases hk : k = 0
    · subst hk
      obtain rfl : j = L.length := by omega
      simp [t132, t133]
    · have hlt : j < L.length := by omega
      have hbv : (bbV L)[j]? = some (immB L[j] none) := by unfold bbV; simp [hlt]
      have hcl := hLl L[j] (by simp)
      generalize L[j] = l at *
      simp [t131, t132, t133, hlt, hbv, immB]
      refine CallK.pure (p_frameAll l (by omega)) ?_
      rintro _ rfl
      simp [RAll, immB]
      refine CallK.pure (p_rFrames l (by omega)) ?_
      rintro _ rfl
      simp [RAll, immB]
      refine CallK.pure (immF (p_frameGet (l := l) (.inr ⟨none, rfl⟩) (by omega))) ?_
      rintro _ rfl
      simp [immB]
      refine CallK.pure (immF (p_rGetFrame l (by omega))) ?_
      rintro _ rfl
      simp [immB]
      have hal := allF_len l.length l
      have hal' : (allFr l).1.length ≤ l.length := hal.1
      generalize (allFr l).1 = R at *
      refine CallK.pure (p_same (l := (getFrame l).1) (m := (getFrame l).1) (.inr ⟨none, rfl⟩) (.inr ⟨none, rfl⟩)) ?_
      rintro _ rfl
      simp
      refine LoopV.mk2 (I_f4 L R c j) R.length ⟨0, by omega, by simp, by simp, by simp, by simp, by simp [t131], by simp [t132], by simp [t133]⟩ ?_
      clear t131 t132 t133
      rintro k2 T H ⟨q, hq, t20, t23, t193, t194, t131, t132, t133⟩
      by_cases hk2 : k2 = 0
      · subst hk2
        obtain rfl : q = R.length := by omega
        simp [t193, t194, t133]
        refine Again2.mk (k - 1) (by omega) ⟨j + 1, by omega, by simp [t131], by simp [t132], ?_⟩
        simp; rw [wrap_i64 (by omega) (by omega)]
      · have hlt2 : q < R.length := by omega
        have hbv2 : (bbV R)[q]? = some (immB R[q] none) := by unfold bbV; simp [hlt2]
        simp [t20, t23, t193, t194, hlt2, hbv2, immB]
        refine CallQ.of (p_same (l := R[q]) (m := R[q]) (.inr ⟨none, rfl⟩) (.inr ⟨none, rfl⟩)) ?_
        simp [t194]
        refine Again2.mk (k2 - 1) (by omega) ⟨q + 1, by omega, by simp [t20], by simp [t23], by simp [t193], ?_, by simp [t131], by simp [t132], by simp [t133]⟩
        simp; rw [wrap_i64 (by omega) (by omega)]
end Go.Proofs.Ytffifddlooligaa
