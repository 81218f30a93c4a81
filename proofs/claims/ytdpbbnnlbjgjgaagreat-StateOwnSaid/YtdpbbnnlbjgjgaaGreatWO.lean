/- StateOwn. -/
import Derived.Test.YtdpbbnnlbjgjgaaGreatCV
import Derived.Test.YtdpbbnnlbjgjgaaGreatGR
import Derived.Test.YtdpbbnnlbjgjgaaGreatQ6
set_option linter.unusedVariables false
set_option linter.unusedSimpArgs false
set_option maxRecDepth 100000
set_option maxHeartbeats 8000000
namespace Go.Proofs.YtdpbbnnlbjgjgaaGreat
open Go.Sf
attribute [local simp] s_skip s_ops s_draw s_any s_contA s_tdone s_ttwo s_top_p s_top_pick s_top_e s_top_g s_seq s_cond s_block s_loop s_exit s_ret s_mark s_then_n s_then_e s_then_r s_in_n s_in_e s_in_r s_contC s_contO s_contQ s_contT s_nil s_cons_p s_cons_pick s_cons_e s_cons_g s_qnil s_qcons_p s_qcons_pick s_qcons_e s_qcons_g s_M s_Mg s_Mq s_Mqg s_G_p s_G_pick s_G_e s_Gq_p s_Gq_pick s_Gq_e s_if s_call s_callv s_qcall s_qcallv s_getAll_nil s_getAll_cons s_put_some s_put_none s_ev_t s_ev_c s_ev_f un evP evK argT resAV lenOf_nils lenOf_imm lenOf_sl lenOf_str optI slcV binV isShift binInt binStr shiftInt pickV unV s_append s_alloc s_box s_bslice s_Bs_t s_Bs_f s_store1 s_storeN s_St1 s_St s_s2b s_markb s_Mk s_mkslice s_qbslice s_qs2b s_ret_n s_ret_r s_retc_n s_retc_r s_RV_nil s_RV_t s_RV_c s_RV1 tupOf fillC kn_int cl_int on_int kn_bool cl_bool on_bool kn_str cl_str on_str kn_nilp cl_nilp on_nilp kn_ptr cl_ptr on_ptr kn_iptr cl_iptr on_iptr kn_nils cl_nils on_nils kn_sl cl_sl on_sl kn_imm cl_imm on_imm kn_mp cl_mp on_mp kn_nilm cl_nilm on_nilm kn_fn cl_fn on_fn kn_nilf cl_nilf on_nilf kn_agg cl_agg scalEq flatEq eqV s_copy_i s_copy_s s_Cp s_clr s_clrn s_Cl s_appz s_Az s_ext s_Ov s_mapB s_mapBS s_rng s_rngn s_Rn s_nxt s_Nx0 s_ent s_mkmap s_mset s_mdel mapOf s_Mg_n s_Mqg_n s_gw_b s_gw_u s_gw_gb s_gw_f
theorem do_one {S : StT} (h : OkS S) {mu : MutT} (hm : mayM mu = true) : (doS [mu] S).1 = oneS mu S := by
  unfold doS
  have h1 : ([mu].any fun m => !mayM m) = false := by simp [hm]
  rw [h1, if_neg (by simp)]
  have hle := listK_le (k := mu.key) h.l
  by_cases hf : fullS S.L [] [mu] = true
  · rw [if_pos hf]
    have hN : 100 < fullN S.L [] mu := by
      simp only [fullS] at hf
      by_cases e : 100 < fullN S.L [] mu
      · exact e
      · rw [if_neg e] at hf; cases hf
    have hk : mu.k = 3 := by
      refine Classical.byContradiction fun hk => ?_
      unfold fullN at hN
      rw [if_neg hk] at hN
      split at hN
      · omega
      · simp only [getK, Option.getD_none] at hN; omega
    have hN2 : 100 < ((listK mu.key S.L).length : Int) + 1 := by
      unfold fullN at hN; rw [if_pos hk] at hN; simpa [getK] using hN
    show S = oneS mu S
    unfold oneS
    rw [if_neg (by omega), if_neg (by omega), if_pos hk]
    unfold pushL
    rw [if_pos (by simp; omega)]
  · rw [if_neg hf]; rfl
def fldN (f : Int) : Int := (f.tmod 8 + 8).tmod 8
theorem fldN_ok (f : Int) : 0 ≤ fldN f ∧ fldN f < 8 := by
  have b : -8 < f.tmod 8 ∧ f.tmod 8 < 8 := tmod_b f 8 (by omega)
  have h : (f.tmod 8 + 8).tmod 8 = (f.tmod 8 + 8) % 8 := Int.tmod_eq_emod_of_nonneg (by omega)
  unfold fldN; rw [h]; omega
theorem may_of {k f v : Int} {q : K3T} (hq : isK q.1 q.2.1 q.2.2 = true) (hk : 1 ≤ k ∧ k ≤ 6) (hf : fieldsK k = true → 0 ≤ f ∧ f < 8) (hf2 : fieldsK k = false → f = 0) (hv : valuesK k = false → v = 0) : mayM ⟨k, q.1, q.2.1, q.2.2, f, v⟩ = true := by
  unfold mayM
  simp only [hq, hk.1, hk.2, decide_true, Bool.true_and]
  cases h1 : fieldsK k <;> cases h2 : valuesK k <;> simp [h1, h2] at * <;> simp_all
theorem TwoS.thru {Hq H5 H7 : Heap} {a w q : Nat} {S S' : StT} {F F5 : Nat → Prop} {B : Option Blk} (h : TwoS Hq a w S F) (a5 : StQ H5 a S' F5) (u5 : UpdF F F5 Hq H5) (nq : ¬ F5 q) (w7 : RefQ H7 w S') (u7 : ∀ x, x ≠ w → (H5.set q B) x ≠ none → H7 x = (H5.set q B) x) (hk : KeysOK S') : TwoS H7 a w S' F5 := by
  have no : ¬ F5 w := fun e => (u5.2 w e).elim h.o h.r.live
  refine ⟨a5.keep fun x hx => ?_, w7, no, hk⟩
  have hxq : x ≠ q := fun e => nq (by rw [← e]; exact hx)
  rw [u7 x (fun e => no (by rw [← e]; exact hx)) (by rw [Heap.set_ne _ _ hxq]; exact a5.live hx), Heap.set_ne _ _ hxq]
def I_so (os : List KopT) (a w : Nat) (m : Nat) (T : Nat → AV) (H : Heap) : Prop :=
  ∃ (i : Nat) (S : StT) (F : Nat → Prop), i + m = 30 ∧ T 1 = .imm (os.flatMap kopCs) os.length none ∧ T 6 = .ptr a 0 ∧ T 7 = .ptr w 0 ∧ T 8 = .int .i64 i ∧ TwoS H a w S F ∧ cntS S ≤ 20 + i
theorem p_StateOwn (ms : List MutT) (hms : ms.length < 2 ^ 63) (hmo : ∀ m ∈ ms, okM m) (os : List KopT) (hos : os.length < 2 ^ 63) (ho : ∀ o ∈ os, okKop o) : CP PP F_Rlaw7_StateOwn [.imm (ms.flatMap mutCs) ms.length none, .imm (os.flatMap kopCs) os.length none] (fun v => v = .bool true) := by
  refine CP.by_vc ok_Rlaw7_StateOwn (by simp) ?_
  unfold c_Rlaw7_StateOwn
  simp
  refine CallK.pure p_begun7 ?_
  rintro _ rfl
  obtain ⟨p, hp⟩ : ∃ p, p = min ms.length 20 := ⟨_, rfl⟩
  have hpz : (if (20 : Int) < (ms.length : Int) then (20 : Int) else (ms.length : Int)) = (p : Int) := by split <;> omega
  have hpl : p ≤ ms.length := by omega
  have l2 := fm_length (enc := mutCs) mutCs_six ms
  have v2 : AV.imm ((ms.flatMap mutCs).take (p * 6)) p none = immM (ms.take p) none := by
    unfold immM
    rw [fm_take (enc := mutCs) mutCs_six ms, List.length_take, Nat.min_eq_left hpl]
  have n2 : (ms.take p).length ≤ 20 := by rw [List.length_take]; omega
  have hum : ∀ l, un (immM l none) = (True, immM l none) := fun _ => rfl
  have huC : ∀ l, un (immC l) = (True, immC l) := fun _ => rfl
  have hkop : os.flatMap kopCs = os.flatMap kopCs := rfl
  generalize ms.take p = M at *
  generalize ms.flatMap mutCs = Y at *
  simp
  refine CallK.of k_stNew ?_
  rintro _ H1 ⟨a, F, rfl, a1, -, -⟩
  simp
  refine CallK.of k_rnew ?_
  rintro _ H2 ⟨w, rfl, w0, w1, u1⟩
  have hT := TwoS.new a1 w0 w1 u1
  have hc0 : cntS StT.nil = 0 := rfl
  simp [hpz, hpl, l2, v2, hum]
  refine CallK.of (k_do0 hT.s (by omega) (by omega)) ?_
  rintro _ H3 ⟨rfl, F2, a2, u2⟩
  simp [hum]
  refine CallK.of (k_rdo (hT.ref a2 u2) hT.ok (by omega)) ?_
  rintro _ H4 ⟨rfl, w3, u3⟩
  have hT3 := hT.step a2 u2 w3 u3 (keysOK_do hT.ok hT.k M)
  have hc3 : cntS (doS M StT.nil).1 ≤ 20 := by have := cntS_do M StT.nil; omega
  generalize (doS M StT.nil).1 = S at *
  simp
  refine LoopV.mk2 (I_so os a w) 30 ⟨0, S, F2, by omega, by simp, by simp, by simp, by simp, hT3, by omega⟩ ?_
  clear hT hT3 a1 a2 u1 u2 u3 w0 w1 w3 hc3
  rintro m T H ⟨i, S, F, him, t1, t6, t7, t8, hT, hc⟩
  by_cases hlt : i < os.length ∧ i < 30
  case neg =>
    by_cases hi : i < os.length
    · have h30z : ¬ (i : Int) < 30 := by omega
      simp [t1, t6, t7, t8, hi, h30z]
    · simp [t1, t6, t7, t8, hi]
  obtain ⟨hi, h30⟩ := hlt
  obtain ⟨o, hoi⟩ : ∃ o, os[i]? = some o := ⟨os[i], by simp [hi]⟩
  obtain ⟨f1, f2⟩ := kop_at hoi
  have h30z : (i : Int) < 30 := by omega
  have o7 := kopCs_length o
  have hone1 : (kopCs o).all AV.one = true := rfl
  have hone : ∀ x, x ∈ kopCs o → x.one = true := fun x hx => List.all_eq_true.1 hone1 x hx
  have x0 : ∀ h, (kopCs o)[0]'h = .int .i64 o.kind := fun _ => rfl
  have x1 : ∀ h, (kopCs o)[1]'h = .int .i64 o.key.1 := fun _ => rfl
  have x2 : ∀ h, (kopCs o)[2]'h = .int .i64 o.key.2.1 := fun _ => rfl
  have x3 : ∀ h, (kopCs o)[3]'h = .int .i64 o.key.2.2 := fun _ => rfl
  have x4 : ∀ h, (kopCs o)[4]'h = .int .i64 o.f := fun _ => rfl
  have x5 : ∀ h, (kopCs o)[5]'h = .int .i64 o.v := fun _ => rfl
  have wi : IntKind.i64.wrap ((i : Int) + 1) = ((i + 1 : Nat) : Int) := wrap_i64 (by omega) (by omega)
  have b1 : -8 < o.f.tmod 8 ∧ o.f.tmod 8 < 8 := tmod_b o.f 8 (by omega)
  have w8 : IntKind.i64.wrap (o.f.tmod 8 + 8) = o.f.tmod 8 + 8 := wrap_i64 (by omega) (by omega)
  generalize hXe : os.flatMap kopCs = X at *
  simp [t1, t6, t7, t8, hi, h30z, f1, f2]
  intro y hy
  simp [Heap.set_self, Heap.set_set, o7]
  refine ⟨hone, ?_⟩
  have hyy : (H.set y (some (.cells (kopCs o) 7))) y = some (.cells (kopCs o) 7) := Heap.set_self _ _ _
  have oldy : ∀ x, H x ≠ none → (H.set y (some (.cells (kopCs o) 7))) x = H x := fun x hx => Heap.set_ne _ _ (fun e => hx (by rw [e]; exact hy))
  generalize H.set y (some (.cells (kopCs o) 7)) = Hy at *
  simp [hyy, o7, x1, x2, x3]
  refine CallK.pure (p_key _ _ _) ?_
  rintro _ rfl
  have hkok := keyN_ok o.key.1 o.key.2.1 o.key.2.2
  generalize keyN o.key.1 o.key.2.1 o.key.2.2 = kn at *
  simp
  intro z hz
  have hk3 : (k3 kn).length = 3 := rfl
  have htk3 : (k3 kn).take 3 = k3 kn := rfl
  have hkone : ∀ x, x ∈ k3 kn → x.one = true := fun x hx => List.all_eq_true.1 (show (k3 kn).all AV.one = true from rfl) x hx
  have hzy : z ≠ y := fun e => by rw [e, hyy] at hz; cases hz
  simp [Heap.set_self, Heap.set_set, hk3]
  refine ⟨hkone, ?_⟩
  have hzz : (Hy.set z (some (.cells (k3 kn) 3))) z = some (.cells (k3 kn) 3) := Heap.set_self _ _ _
  have oldz : ∀ x, Hy x ≠ none → (Hy.set z (some (.cells (k3 kn) 3))) x = Hy x := fun x hx => Heap.set_ne _ _ (fun e => hx (by rw [e]; exact hz))
  have hyz : (Hy.set z (some (.cells (k3 kn) 3))) y = some (.cells (kopCs o) 7) := by rw [oldz y (by rw [hyy]; simp)]; exact hyy
  generalize Hy.set z (some (.cells (k3 kn) 3)) = Hz at *
  simp [hyz, o7, x4, w8]
  intro q hq
  have hfl : (o.f.tmod 8 + 8).tmod 8 = fldN o.f := rfl
  have hfok := fldN_ok o.f
  rw [hfl]
  generalize fldN o.f = fl at *
  have hqq : (Hz.set q (some (.cells [.int .i64 0, .int .i64 0, .int .i64 0, .int .i64 0, .int .i64 0, .int .i64 0] 6))) q = some (.cells [.int .i64 0, .int .i64 0, .int .i64 0, .int .i64 0, .int .i64 0, .int .i64 0] 6) := Heap.set_self _ _ _
  have oldq : ∀ x, Hz x ≠ none → (Hz.set q (some (.cells [.int .i64 0, .int .i64 0, .int .i64 0, .int .i64 0, .int .i64 0, .int .i64 0] 6))) x = Hz x := fun x hx => Heap.set_ne _ _ (fun e => hx (by rw [e]; exact hq))
  simp only [List.length_cons, List.length_nil, Nat.reduceAdd]
  have hyq : (Hz.set q (some (.cells [.int .i64 0, .int .i64 0, .int .i64 0, .int .i64 0, .int .i64 0, .int .i64 0] 6))) y = some (.cells (kopCs o) 7) := by rw [oldq y (by rw [hyz]; simp)]; exact hyz
  have hzq : (Hz.set q (some (.cells [.int .i64 0, .int .i64 0, .int .i64 0, .int .i64 0, .int .i64 0, .int .i64 0] 6))) z = some (.cells (k3 kn) 3) := by rw [oldq z (by rw [hzz]; simp)]; exact hzz
  have old : ∀ x, H x ≠ none → (Hz.set q (some (.cells [.int .i64 0, .int .i64 0, .int .i64 0, .int .i64 0, .int .i64 0, .int .i64 0] 6))) x = H x := fun x hx => by
    have h1 : Hy x ≠ none := by rw [oldy x hx]; exact hx
    have h2 : Hz x ≠ none := by rw [oldz x h1]; exact h1
    rw [oldq x h2, oldz x h1, oldy x hx]
  have fy : H y = none := hy
  have fz : ∀ x, H x ≠ none → x ≠ z := fun x hx e => by
    rw [e] at hx
    have := oldy z hx
    rw [hz] at this; exact hx this.symm
  have fq : ∀ x, H x ≠ none → x ≠ q := fun x hx e => by
    have h1 : Hy x ≠ none := by rw [oldy x hx]; exact hx
    have h2 : Hz x ≠ none := by rw [oldz x h1]; exact h1
    rw [e] at h2; exact h2 hq
  have hqz : q ≠ z := fun e => by rw [e, hzz] at hq; cases hq
  have hqy : q ≠ y := fun e => by rw [e, hyz] at hq; cases hq
  generalize Hz.set q (some (.cells [.int .i64 0, .int .i64 0, .int .i64 0, .int .i64 0, .int .i64 0, .int .i64 0] 6)) = Hq at *
  have hTq : TwoS Hq a w S F := ⟨hT.s.keep fun x hx => old x (hT.s.live hx), hT.r.keep (old w hT.r.live), hT.o, hT.k⟩
  have hwq : w ≠ q := fq w hT.r.live
  have nz : ¬ F z := fun e => fz z (hT.s.live e) rfl
  have nq : ¬ F q := fun e => fq q (hT.s.live e) rfl
  have ny : ¬ F y := fun e => hT.s.live e hy
  clear oldy oldz oldq old fy fz fq hy hyy hyz hz hzz hq hT
  obtain ⟨pv, pl, pd, F1, F2, F3, h1, h2, h3, h4, h5, h6, h7, h8, h9⟩ := id hTq.s
  have q6 : ([.int .i64 0, .int .i64 0, .int .i64 0, .int .i64 0, .int .i64 0, .int .i64 0] : List AV).length = 6 := rfl
  unfold cntS at hc
  have hkey : ∀ k f v, (⟨k, kn.1, kn.2.1, kn.2.2, f, v⟩ : MutT).key = kn := fun _ _ _ => rfl
  by_cases k0 : o.kind.tmod 6 = 0
  case' pos =>
    obtain ⟨mu, hmu⟩ : ∃ mu : MutT, mu = ⟨1, kn.1, kn.2.1, kn.2.2, 0, o.v⟩ := ⟨_, rfl⟩
    have hmay : mayM mu = true := by rw [hmu]; exact may_of hkok (by omega) (by simp [fieldsK]) (by simp) (by simp [valuesK])
    simp [hyq, hzq, o7, x0, x5, hk3, htk3, t6, h1, k0]
    refine CallK.of (k_vSet h2 (by omega) kn o.v) ?_
    rintro _ H5 ⟨rfl, F1', g1, g2⟩
    obtain ⟨F5, a5, u5⟩ := StQ.updV h1 h2 h3 h4 h5 h6 h7 h8 h9 g1 g2
    have e5 : oneS mu S = { S with V := updK kn o.v S.V } := by rw [hmu]; rfl
  case' neg =>
    by_cases k1 : o.kind.tmod 6 = 1
    case' pos =>
      obtain ⟨mu, hmu⟩ : ∃ mu : MutT, mu = ⟨2, kn.1, kn.2.1, kn.2.2, 0, 0⟩ := ⟨_, rfl⟩
      have hmay : mayM mu = true := by rw [hmu]; exact may_of hkok (by omega) (by simp [fieldsK]) (by simp) (by simp)
      simp [hyq, hzq, o7, x0, x5, hk3, htk3, t6, h1, k0, k1]
      refine CallK.of (k_vUnset h2 (by omega) kn) ?_
      rintro _ H5 ⟨rfl, F1', g1, g2⟩
      obtain ⟨F5, a5, u5⟩ := StQ.updV h1 h2 h3 h4 h5 h6 h7 h8 h9 g1 g2
      have e5 : oneS mu S = { S with V := cutK kn S.V } := by rw [hmu]; rfl
    case' neg =>
      by_cases k2 : o.kind.tmod 6 = 2
      case' pos =>
        obtain ⟨mu, hmu⟩ : ∃ mu : MutT, mu = ⟨3, kn.1, kn.2.1, kn.2.2, 0, o.v⟩ := ⟨_, rfl⟩
        have hmay : mayM mu = true := by rw [hmu]; exact may_of hkok (by omega) (by simp [fieldsK]) (by simp) (by simp [valuesK])
        simp [hyq, hzq, o7, x0, x5, hk3, htk3, t6, h1, k0, k1, k2]
        refine CallK.of (k_lPush h3 (by omega) kn (ns := [o.v]) (.inr ⟨_, rfl⟩) (by simp)) ?_
        rintro _ H5 ⟨rfl, F2', g1, g2⟩
        obtain ⟨F5, a5, u5⟩ := StQ.updL h1 h2 h3 h4 h5 h6 h7 h8 h9 g1 g2
        have e5 : oneS mu S = { S with L := (pushL kn [o.v] S.L).1 } := by rw [hmu]; rfl
      case' neg =>
        by_cases k3' : o.kind.tmod 6 = 3
        case' pos =>
          obtain ⟨mu, hmu⟩ : ∃ mu : MutT, mu = ⟨4, kn.1, kn.2.1, kn.2.2, 0, 0⟩ := ⟨_, rfl⟩
          have hmay : mayM mu = true := by rw [hmu]; exact may_of hkok (by omega) (by simp [fieldsK]) (by simp) (by simp)
          simp [hyq, hzq, o7, x0, x5, hk3, htk3, t6, h1, k0, k1, k2, k3']
          refine CallK.of (k_lClear h3 (by omega) kn) ?_
          rintro _ H5 ⟨rfl, F2', g1, g2⟩
          obtain ⟨F5, a5, u5⟩ := StQ.updL h1 h2 h3 h4 h5 h6 h7 h8 h9 g1 g2
          have e5 : oneS mu S = { S with L := (clearL kn S.L).1 } := by rw [hmu]; rfl
        case' neg =>
          by_cases k4 : o.kind.tmod 6 = 4
          case' pos =>
            obtain ⟨mu, hmu⟩ : ∃ mu : MutT, mu = ⟨5, kn.1, kn.2.1, kn.2.2, fl, o.v⟩ := ⟨_, rfl⟩
            have hmay : mayM mu = true := by rw [hmu]; exact may_of hkok (by omega) (fun _ => hfok) (by simp [fieldsK]) (by simp [valuesK])
            simp [hyq, hzq, o7, x0, x5, hk3, htk3, t6, h1, k0, k1, k2, k3', k4]
            refine CallK.of (k_dPut h4 (by omega) kn fl o.v) ?_
            rintro _ H5 ⟨rfl, F3', g1, g2⟩
            obtain ⟨F5, a5, u5⟩ := StQ.updD h1 h2 h3 h4 h5 h6 h7 h8 h9 g1 g2
            have e5 : oneS mu S = { S with D := (putD kn fl o.v S.D).1 } := by rw [hmu]; rfl
          case' neg =>
            obtain ⟨mu, hmu⟩ : ∃ mu : MutT, mu = ⟨6, kn.1, kn.2.1, kn.2.2, fl, 0⟩ := ⟨_, rfl⟩
            have hmay : mayM mu = true := by rw [hmu]; exact may_of hkok (by omega) (fun _ => hfok) (by simp [fieldsK]) (by simp)
            simp [hyq, hzq, o7, x0, x5, hk3, htk3, t6, h1, k0, k1, k2, k3', k4]
            refine CallK.of (k_dCut h4 (by omega) kn fl) ?_
            rintro _ H5 ⟨rfl, F3', g1, g2⟩
            obtain ⟨F5, a5, u5⟩ := StQ.updD h1 h2 h3 h4 h5 h6 h7 h8 h9 g1 g2
            have e5 : oneS mu S = { S with D := (cutD kn fl S.D).1 } := by rw [hmu]; rfl
  all_goals
    rw [← e5] at a5
    have y5 : H5 y = some (.cells (kopCs o) 7) := by rw [u5.1 y ny (by rw [hyq]; simp)]; exact hyq
    have z5 : H5 z = some (.cells (k3 kn) 3) := by rw [u5.1 z nz (by rw [hzq]; simp)]; exact hzq
    have q5 : H5 q = some (.cells [.int .i64 0, .int .i64 0, .int .i64 0, .int .i64 0, .int .i64 0, .int .i64 0] 6) := by rw [u5.1 q nq (by rw [hqq]; simp)]; exact hqq
    have nq5 : ¬ F5 q := fun e => (u5.2 q e).elim nq (by rw [hqq]; simp)
    simp [y5, z5, q5, o7, x5, hk3, htk3, Heap.set_self, Heap.set_ne _ _ (Ne.symm hqz), Heap.set_ne _ _ (Ne.symm hqy), Heap.set_set]
    simp [t7]
    refine ⟨hkone, ?_⟩
    have hr := k_rdo (c := some 1) (ms := [mu]) (RefQ.keep (RefQ.keep hTq.r (u5.1 w hTq.o hTq.r.live)) (Heap.set_ne H5 (some (Blk.cells (mutCs mu) 6)) hwq)) hTq.ok (by simp)
    rw [hmu] at hr
    refine CallK.of hr ?_
    rw [← hmu]
    rintro _ H7 ⟨rfl, w7, u7⟩
    have hk7 := keysOK_do hTq.ok hTq.k [mu]
    have hc7 := cntS_one mu S
    rw [do_one hTq.ok hmay] at w7 hk7
    have hT7 := TwoS.thru hTq a5 u5 nq5 w7 u7 hk7
    have hc8 : cntS (oneS mu S) ≤ 20 + (i + 1) := by unfold cntS at hc7 ⊢; omega
    clear e5
    generalize oneS mu S = S7 at *
    simp [t6]
    refine CallK.of (k_cells (.inl ⟨a, _, rfl, hT7.s⟩) (by omega)) ?_
    rintro _ _ ⟨rfl, rfl⟩
    have hcl := cells_len S7
    simp [t7]
    refine CallK.of (k_rcells hT7.r hT7.ok hT7.k) ?_
    rintro _ _ ⟨rfl, rfl⟩
    simp [huC]
    refine CallK.pure (p_eqS hT7.ok (by omega)) ?_
    rintro _ rfl
    simp [t8, wi]
    exact Again2.mk (m - 1) (by omega) ⟨i + 1, S7, F5, by omega, by simp [t1, hXe], by simp [t6], by simp [t7], by simp, hT7, hc8⟩
end Go.Proofs.YtdpbbnnlbjgjgaaGreat
