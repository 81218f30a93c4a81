/- StateKeys. -/
import Derived.Test.YtcpfodhhjkaibaaGreatSB
import Derived.Test.YtcpfodhhjkaibaaGreatLQ
import Derived.Test.YtcpfodhhjkaibaaGreatCQ
import Derived.Test.YtcpfodhhjkaibaaGreatWM
set_option linter.unusedVariables false
set_option linter.unusedSimpArgs false
set_option maxRecDepth 100000
set_option maxHeartbeats 8000000
namespace Go.Proofs.YtcpfodhhjkaibaaGreat
open Go.Sf
attribute [local simp] s_skip s_ops s_draw s_any s_contA s_tdone s_ttwo s_top_p s_top_pick s_top_e s_top_g s_seq s_cond s_block s_loop s_exit s_ret s_mark s_then_n s_then_e s_then_r s_in_n s_in_e s_in_r s_contC s_contO s_contQ s_contT s_nil s_cons_p s_cons_pick s_cons_e s_cons_g s_qnil s_qcons_p s_qcons_pick s_qcons_e s_qcons_g s_M s_Mg s_Mq s_Mqg s_G_p s_G_pick s_G_e s_Gq_p s_Gq_pick s_Gq_e s_if s_call s_callv s_qcall s_qcallv s_getAll_nil s_getAll_cons s_put_some s_put_none s_ev_t s_ev_c s_ev_f un evP evK argT resAV lenOf_nils lenOf_imm lenOf_sl lenOf_str optI slcV binV isShift binInt binStr shiftInt pickV unV s_append s_alloc s_box s_bslice s_Bs_t s_Bs_f s_store1 s_storeN s_St1 s_St s_s2b s_markb s_Mk s_mkslice s_qbslice s_qs2b s_ret_n s_ret_r s_retc_n s_retc_r s_RV_nil s_RV_t s_RV_c s_RV1 tupOf fillC kn_int cl_int on_int kn_bool cl_bool on_bool kn_str cl_str on_str kn_nilp cl_nilp on_nilp kn_ptr cl_ptr on_ptr kn_iptr cl_iptr on_iptr kn_nils cl_nils on_nils kn_sl cl_sl on_sl kn_imm cl_imm on_imm kn_mp cl_mp on_mp kn_nilm cl_nilm on_nilm kn_fn cl_fn on_fn kn_nilf cl_nilf on_nilf kn_agg cl_agg scalEq flatEq eqV s_copy_i s_copy_s s_Cp s_clr s_clrn s_Cl s_appz s_Az s_ext s_Ov s_mapB s_mapBS s_rng s_rngn s_Rn s_nxt s_Nx0 s_ent s_mkmap s_mset s_mdel mapOf s_Mg_n s_Mqg_n s_gw_b s_gw_u s_gw_gb s_gw_f
def encU (_ : Unit) : AV := .bool true
/-- The keys of a state, of each kind. -/
def kindsS (S : StT) : List (List K3T) := [S.V.map (·.1), S.L.map (·.1), S.D.map (·.1)]
def rowsK (Ls : List (List K3T)) : List AV := Ls.map keysI
def I_k1 (ms : List MutT) (s : Nat) (m : Nat) (T : Nat → AV) (H : Heap) : Prop :=
  ∃ (i : Nat) (S : StT) (F : Nat → Prop), i + m = 40 ∧ T 0 = immM ms none ∧ T 4 = .ptr s 0 ∧ T 5 = .int .i64 i ∧ StQ H s S F ∧ cntS S ≤ i
/-- What the map holds behind some keys. -/
structure KSt (H : Heap) (s bm : Nat) (S : StT) (F : Nat → Prop) (W : List (K3T × Unit)) (seen : List K3T) : Prop where
  hs : StQ H s S F
  hm : H bm = some (.map (entsA encU W))
  out : ¬ F bm
  nd : (W.map (·.1)).Nodup
  mem : ∀ k, getK k W ≠ none ↔ k ∈ seen
theorem KSt.put {H : Heap} {s bm : Nat} {S : StT} {F : Nat → Prop} {W : List (K3T × Unit)} {seen : List K3T} (h : KSt H s bm S F W seen) (x : K3T) : KSt (H.set bm (some (.map (entsA encU (mput x () W))))) s bm S F (mput x () W) (seen ++ [x]) :=
  ⟨h.hs.keep fun y hy => Heap.set_ne _ _ (fun e => h.out (by rw [← e]; exact hy)), Heap.set_self _ _ _, h.out, nodup_mput h.nd, fun k => by
    rw [getK_mput, List.mem_append, List.mem_singleton]
    by_cases e : k = x
    · simp [e]
    · rw [if_neg e, h.mem]; simp [e]⟩
def I_k2 (s bm : Nat) (S : StT) (F : Nat → Prop) (m : Nat) (T : Nat → AV) (H : Heap) : Prop :=
  ∃ (i : Nat) (W : List (K3T × Unit)), i + m = 3 ∧ T 4 = .ptr s 0 ∧ T 6 = .mp bm ∧ T 50 = .imm (rowsK (kindsS S)) 3 (some 3) ∧ T 51 = .int .i64 3 ∧ T 52 = .int .i64 i ∧ KSt H s bm S F W ((kindsS S).take i).flatten
def I_k3 (s bm : Nat) (S : StT) (F : Nat → Prop) (i : Nat) (l : List K3T) (m : Nat) (T : Nat → AV) (H : Heap) : Prop :=
  ∃ (j : Nat) (W : List (K3T × Unit)), j + m = l.length ∧ T 4 = .ptr s 0 ∧ T 6 = .mp bm ∧ T 50 = .imm (rowsK (kindsS S)) 3 (some 3) ∧ T 51 = .int .i64 3 ∧ T 52 = .int .i64 i ∧ T 8 = keysI l ∧ T 57 = .int .i64 l.length ∧ T 58 = .int .i64 j ∧
    KSt H s bm S F W (((kindsS S).take i).flatten ++ l.take j)
def I_k4 (s bm : Nat) (S : StT) (F : Nat → Prop) (W : List (K3T × Unit)) (seen : List K3T) (cs : List CellT) (m : Nat) (T : Nat → AV) (H : Heap) : Prop :=
  ∃ j : Nat, j + m = cs.length ∧ T 6 = .mp bm ∧ T 10 = immC cs ∧ T 85 = immC cs ∧ T 86 = .int .i64 cs.length ∧ T 87 = .int .i64 j ∧ KSt H s bm S F W seen
theorem p_StateKeys (ms : List MutT) (hms : ms.length < 2 ^ 63) (hmo : ∀ m ∈ ms, okM m) : CP PP F_Rlaw7_StateKeys [.imm (ms.flatMap mutCs) ms.length none] (fun v => v = .bool true) := by
  refine CP.by_vc ok_Rlaw7_StateKeys (by simp) ?_
  unfold c_Rlaw7_StateKeys
  simp
  refine CallK.pure p_begun7 ?_
  rintro _ rfl
  simp
  refine CallK.of k_stNew ?_
  rintro _ H1 ⟨s, F, rfl, s1, -, -⟩
  simp
  refine LoopV.mk2 (I_k1 ms s) 40 ⟨0, StT.nil, F, by omega, by simp [immM], by simp, by simp, s1, by simp [cntS, StT.nil]⟩ ?_
  clear s1
  rintro m T H ⟨i, S, F, him, t0, t4, t5, st, hc⟩
  simp only [immM] at t0
  by_cases hlt : i < ms.length ∧ i < 40
  · obtain ⟨hi, h20⟩ := hlt
    obtain ⟨mu, hmu⟩ : ∃ mu, ms[i]? = some mu := ⟨ms[i], by simp [hi]⟩
    obtain ⟨f1, f2⟩ := fm_at (enc := mutCs) mutCs_six hmu
    have h20z : (i : Int) < 40 := by omega
    have m6 := mutCs_six mu
    generalize hXe : ms.flatMap mutCs = X at *
    simp [t0, t4, t5, hi, h20z, f1, f2, m6]
    refine CallK.of (k_do0 st (by omega) (ms := [mu]) (by simp) (c := some 1)) ?_
    rintro _ H2 ⟨rfl, F2, s2, -⟩
    have hc2 := cntS_do [mu] S
    simp [t5]
    refine Again2.mk (m - 1) (by omega) ⟨i + 1, _, F2, by omega, by simp [t0, immM, hXe], by simp [t4], ?_, s2, ?_⟩
    · simp; rw [wrap_i64 (by omega) (by omega)]
    · simp at hc2; omega
  · have hc40 : cntS S ≤ 40 := by omega
    by_cases hi : i < ms.length
    case' pos =>
      have h20z : ¬ (i : Int) < 40 := by omega
      simp [t0, t4, t5, hi, h20z]
    case' neg =>
      simp [t0, t4, t5, hi]
    all_goals
      intro bm hbm
      have kst : KSt (H.set bm (some (.map []))) s bm S F [] [] :=
        ⟨st.keep fun x hx => Heap.set_ne _ _ (fun e => st.live hx (by rw [e]; exact hbm)), Heap.set_self _ _ _, fun e => st.live e hbm, by simp, fun k => by simp [getK]⟩
      generalize H.set bm (some (.map [])) = H2 at *
      have hcV : S.V.length ≤ 40 := by unfold cntS at hc40; omega
      have hcL : S.L.length ≤ 40 := by unfold cntS at hc40; omega
      have hcD : S.D.length ≤ 40 := by unfold cntS at hc40; omega
      obtain ⟨pv, pl, pd, F1, F2, F3, j1, j2, j3, j4, -⟩ := id kst.hs
      simp [t4, j1]
      refine CallQ.ofH (k_keysV j2 (by omega)) ?_
      simp [t4, j1, keysI]
      refine CallQ.ofH (k_keysL j3 (by omega)) ?_
      simp [t4, j1, keysI]
      refine CallQ.ofH (k_keysD j4 (by omega)) ?_
      simp [t4, j1, keysI]
      have hok := kst.hs.ok
      have hris : ∀ l ∈ kindsS S, RisK l := fun l hl => by
        simp only [kindsS, List.mem_cons, List.not_mem_nil, or_false] at hl
        rcases hl with rfl | rfl | rfl
        · exact sortedK_keys.1 hok.v
        · exact sortedK_keys.1 hok.l.1
        · exact sortedK_keys.1 hok.d.1
      have hlen : ∀ l ∈ kindsS S, l.length ≤ 40 := fun l hl => by
        simp only [kindsS, List.mem_cons, List.not_mem_nil, or_false] at hl
        rcases hl with rfl | rfl | rfl <;> simpa using (by assumption)
      have hrl : (rowsK (kindsS S)).length = 3 := rfl
      have hkl : (kindsS S).length = 3 := rfl
      have hmemS : ∀ k, k ∈ (kindsS S).flatten ↔ k ∈ keysS S := fun k => by
        rw [mem_keysS, getK_mem, getK_mem, getK_mem]
        simp [kindsS]
      refine LoopV.mk2 (I_k2 s bm S F) 3 ⟨0, [], by omega, by simp [t4], by simp, by simp [rowsK, kindsS, keysI], by simp, by simp, kst⟩ ?_
      clear kst j1 j2 j3 j4 t0 t4 t5 him st hbm
      rintro m T H ⟨i, W, him, t4, t6, t50, t51, t52, kst⟩
      by_cases hi : i < 3
      · obtain ⟨l, hl⟩ : ∃ l, (kindsS S)[i]? = some l := ⟨(kindsS S)[i]'(by rw [hkl]; exact hi), by simp [hkl, hi]⟩
        have hlm := List.mem_of_getElem? hl
        have hRl := hris l hlm
        have hLl := hlen l hlm
        have hrow : (rowsK (kindsS S))[i]? = some (keysI l) := by unfold rowsK; rw [List.getElem?_map, hl]; rfl
        have hiz : (i : Int) < 3 := by omega
        have htk : ((kindsS S).take (i + 1)).flatten = ((kindsS S).take i).flatten ++ l := by
          rw [List.take_add_one, hl]; simp
        generalize hRe : rowsK (kindsS S) = R at *
        have hrg : ∀ h : i < R.length, R[i]'h = keysI l := fun h => (List.getElem?_eq_some_iff.1 hrow).2
        have hun : un (keysI l) = (True, keysI l) := rfl
        simp [t50, t51, t52, hiz, hi, hrl, hrg, hun]
        simp [keysI]
        refine LoopV.mk2 (I_k3 s bm S F i l) l.length ⟨0, W, by omega, by simp [t4], by simp [t6], by simp [t50, hRe], by simp [t51], by simp [t52], by simp [keysI], by simp, by simp, by simpa using kst⟩ ?_
        clear kst t4 t6 t50 t51 t52
        rintro m2 T H ⟨j, W, hjm, t4, t6, t50, t51, t52, t8, t57, t58, kst⟩
        by_cases hj : j < l.length
        · obtain ⟨x, hx⟩ : ∃ x, l[j]? = some x := ⟨l[j], by simp [hj]⟩
          obtain ⟨a1, a2⟩ := k3_at hx
          have hmm := kst.hm
          have kst2 := kst.put x
          have htl : l.take (j + 1) = l.take j ++ [x] := by rw [List.take_add_one, hx]; rfl
          rw [List.append_assoc, ← htl] at kst2
          have wj : IntKind.i64.wrap ((j : Int) + 1) = ((j + 1 : Nat) : Int) := wrap_i64 (by omega) (by omega)
          simp only [keysI] at t8
          have hset := msetV_ents encU x () W
          simp only [encU] at hset
          cases j with
          | zero =>
            simp only [Nat.zero_mul, List.drop_zero, Nat.zero_add] at a1 a2 wj
            generalize hKe : l.flatMap k3 = K at *
            simp [t6, t8, t57, t58, hj, a1, a2, hmm, s_Mset (findI_ents encU x W), hset]
            refine ⟨.bool true, ?_⟩
            simp [t6, t8, t57, t58, hj, a1, a2, hmm, s_Mset (findI_ents encU x W), hset]
            exact Again2.mk (m2 - 1) (by omega) ⟨1, _, by omega, by simp [t4], by simp [t6], by simp [t50, hRe], by simp [t51], by simp [t52], by simp [t8, keysI, hKe], by simp [t57], by simp; exact wrap_i64 (by omega) (by omega), kst2⟩
          | succ j' =>
            obtain ⟨x', hx'⟩ : ∃ x, l[j']? = some x := ⟨l[j'], by simp [show j' < l.length by omega]⟩
            obtain ⟨b1, b2⟩ := k3_at hx'
            have hless : lessK x' x = true := by
              have h1 := List.pairwise_iff_getElem.1 hRl j' (j' + 1) (by omega) hj (by omega)
              rw [(List.getElem?_eq_some_iff.1 hx').2, (List.getElem?_eq_some_iff.1 hx).2] at h1
              exact h1
            have wm : IntKind.i64.wrap (j' : Int) = (j' : Int) := wrap_i64 (by omega) (by omega)
            have hj'l : j' < l.length := by omega
            have hjz : (j' : Int) + 1 < l.length := by omega
            have hj0 : (0 : Int) ≤ (j' : Int) + 1 := by omega
            have hpos : (0 : Int) < (j' : Int) + 1 := by omega
            generalize hKe : l.flatMap k3 = K at *
            simp [t6, t8, t57, t58, hj, a1, a2, b1, b2, hmm, hpos, wm, hj'l, hjz, hj0]
            refine ⟨_, CallQ.of (p_rLess x' x) rfl, ?_⟩
            rw [hless]
            simp [t6, t8, t57, t58, hj, a1, a2, hmm, hjz, hj0, s_Mset (findI_ents encU x W), hset]
            exact Again2.mk (m2 - 1) (by omega) ⟨j' + 1 + 1, _, by omega, by simp [t4], by simp [t6], by simp [t50, hRe], by simp [t51], by simp [t52], by simp [t8, keysI, hKe], by simp [t57], by simpa using wj, kst2⟩
        · have hje : j = l.length := by omega
          subst hje
          rw [List.take_length, ← htk] at kst
          have wi : IntKind.i64.wrap ((i : Int) + 1) = ((i + 1 : Nat) : Int) := wrap_i64 (by omega) (by omega)
          simp [t57, t58, t52]
          exact Again2.mk (m - 1) (by omega) ⟨i + 1, W, by omega, by simp [t4], by simp [t6], by simp [t50, hRe], by simp [t51], by simp [wi], kst⟩
      · have hie : i = 3 := by omega
        subst hie
        rw [List.take_of_length_le (by rw [hkl]; omega)] at kst
        simp [t51, t52, t4]
        refine CallK.of (k_cells (.inl ⟨s, F, rfl, kst.hs⟩) (by omega)) ?_
        rintro _ _ ⟨rfl, rfl⟩
        have hin : ∀ c ∈ cellsS S, (getK c.1 W).isSome = true := fun c hc => by
          obtain ⟨k, hk, rfl⟩ := List.mem_map.1 hc
          exact some_ne.2 ((kst.mem _).2 ((hmemS _).2 hk))
        have hWl : W.length = (cellsS S).length := by
          have h1 : (cellsS S).length = (keysS S).length := by unfold cellsS; rw [List.length_map]
          have h2 : ∀ x, x ∈ W.map (·.1) ↔ x ∈ keysS S := fun x => by rw [← getK_mem, kst.mem, hmemS]
          have h3 := risK_nodup (risK_setOf (S.V.map (·.1) ++ (S.L.map (·.1) ++ S.D.map (·.1))))
          have h4 := nodupK_le kst.nd fun x hx => (h2 x).1 hx
          have h5 := nodupK_le h3 fun x hx => (h2 x).2 hx
          rw [List.length_map] at h4 h5
          rw [h1]
          unfold keysS at h4 ⊢
          omega
        have hcl : (cellsS S).length ≤ 120 := by
          have := keysS_length S
          unfold cellsS; rw [List.length_map]; omega
        generalize cellsS S = cs at *
        have hun : un (immC cs) = (True, immC cs) := rfl
        simp [hun]
        simp [immC]
        refine LoopV.mk2 (I_k4 s bm S F W (kindsS S).flatten cs) cs.length ⟨0, by omega, by simp [t6], by simp [immC], by simp [immC], by simp, by simp, kst⟩ ?_
        clear kst t4 t6 t50 t51 t52
        rintro m T H ⟨j, hjm, t6, t10, t85, t86, t87, kst⟩
        by_cases hj : j < cs.length
        · obtain ⟨c, hc⟩ : ∃ c, cs[j]? = some c := ⟨cs[j], by simp [hj]⟩
          obtain ⟨f1, f2⟩ := fm_at (enc := encC) encC_length hc
          have hcin := hin c (List.mem_of_getElem? hc)
          have c7 := encC_length c
          have c3 : (encC c).take 3 = k3 c.1 := rfl
          have hcone : ∀ z, z ∈ encC c → z.one = true := fun z hz => List.all_eq_true.1 (show (encC c).all AV.one = true from rfl) z hz
          have hlk := lkpF_ents encU (.bool false) c.1 W
          obtain ⟨u, hu⟩ := Option.isSome_iff_exists.1 hcin
          rw [hu] at hlk
          simp only [Option.map_some, Option.getD_some, encU] at hlk
          have wj : IntKind.i64.wrap ((j : Int) + 1) = ((j + 1 : Nat) : Int) := wrap_i64 (by omega) (by omega)
          simp only [immC] at t10 t85
          generalize hXe : cs.flatMap encC = X at *
          simp [t85, t86, t87, hj, f1, f2]
          intro b hb
          have kst2 : KSt (H.set b (some (.cells (encC c) 7))) s bm S F W (kindsS S).flatten :=
            ⟨kst.hs.keep fun x hx => Heap.set_ne _ _ (fun e => kst.hs.live hx (by rw [e]; exact hb)), by rw [Heap.set_ne _ _ (fun e => by rw [← e, kst.hm] at hb; cases hb)]; exact kst.hm, kst.out, kst.nd, kst.mem⟩
          have hbb : (H.set b (some (.cells (encC c) 7))) b = some (.cells (encC c) 7) := Heap.set_self _ _ _
          simp [Heap.set_self, Heap.set_set, c7]
          refine ⟨hcone, ?_⟩
          generalize H.set b (some (.cells (encC c) 7)) = Hb at *
          have hmm := kst2.hm
          simp [t6, hbb, c7, c3, hmm, findI_ents, hlk, t87]
          exact Again2.mk (m - 1) (by omega) ⟨j + 1, by omega, by simp [t6], by simp [t10, immC, hXe], by simp [t85, immC, hXe], by simp [t86], by simp [wj], kst2⟩
        · have hmm := kst.hm
          simp only [immC] at t10
          simp [t86, t87, hj, t10, t6, hmm, entsA_length, hWl]
end Go.Proofs.YtcpfodhhjkaibaaGreat
