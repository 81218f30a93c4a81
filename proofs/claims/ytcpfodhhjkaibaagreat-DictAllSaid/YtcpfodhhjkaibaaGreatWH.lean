/- DictAll. -/
import Derived.Test.YtcpfodhhjkaibaaGreatCS
import Derived.Test.YtcpfodhhjkaibaaGreatWG
import Derived.Test.YtcpfodhhjkaibaaGreatWI
set_option linter.unusedVariables false
set_option linter.unusedSimpArgs false
set_option maxRecDepth 100000
set_option maxHeartbeats 8000000
namespace Go.Proofs.YtcpfodhhjkaibaaGreat
open Go.Sf
attribute [local simp] s_skip s_ops s_draw s_any s_contA s_tdone s_ttwo s_top_p s_top_pick s_top_e s_top_g s_seq s_cond s_block s_loop s_exit s_ret s_mark s_then_n s_then_e s_then_r s_in_n s_in_e s_in_r s_contC s_contO s_contQ s_contT s_nil s_cons_p s_cons_pick s_cons_e s_cons_g s_qnil s_qcons_p s_qcons_pick s_qcons_e s_qcons_g s_M s_Mg s_Mq s_Mqg s_G_p s_G_pick s_G_e s_Gq_p s_Gq_pick s_Gq_e s_if s_call s_callv s_qcall s_qcallv s_getAll_nil s_getAll_cons s_put_some s_put_none s_ev_t s_ev_c s_ev_f un evP evK argT resAV lenOf_nils lenOf_imm lenOf_sl lenOf_str optI slcV binV isShift binInt binStr shiftInt pickV unV s_append s_alloc s_box s_bslice s_Bs_t s_Bs_f s_store1 s_storeN s_St1 s_St s_s2b s_markb s_Mk s_mkslice s_qbslice s_qs2b s_ret_n s_ret_r s_retc_n s_retc_r s_RV_nil s_RV_t s_RV_c s_RV1 tupOf fillC kn_int cl_int on_int kn_bool cl_bool on_bool kn_str cl_str on_str kn_nilp cl_nilp on_nilp kn_ptr cl_ptr on_ptr kn_iptr cl_iptr on_iptr kn_nils cl_nils on_nils kn_sl cl_sl on_sl kn_imm cl_imm on_imm kn_mp cl_mp on_mp kn_nilm cl_nilm on_nilm kn_fn cl_fn on_fn kn_nilf cl_nilf on_nilf kn_agg cl_agg scalEq flatEq eqV s_copy_i s_copy_s s_Cp s_clr s_clrn s_Cl s_appz s_Az s_ext s_Ov s_mapB s_mapBS s_rng s_rngn s_Rn s_nxt s_Nx0 s_ent s_mkmap s_mset s_mdel mapOf s_Mg_n s_Mqg_n s_gw_b s_gw_u s_gw_gb s_gw_f
attribute [local simp] s_drawF s_contTA
def encB (b : Nat) : AV := .mp b
/-- Dictionaries, and a map of maps. -/
structure DB (H : Heap) (p pm : Nat) (D : CellsK FieldsL) (W : List (K3T × Nat)) (C : K3T → FieldsL) (F : Nat → Prop) : Prop where
  d : DicQ H p D F
  m : H pm = some (.map (entsA encB W))
  out : ¬ F pm
  nd : (W.map (·.1)).Nodup
  inn : ∀ k b, getK k W = some b → H b = some (.map (entsF (C k))) ∧ ¬ F b ∧ b ≠ pm
  inj : ∀ k k' b, getK k W = some b → getK k' W = some b → k = k'
  ne : ∀ k, ((C k).map (·.1)).Nodup
  abs : ∀ k, getK k W = none → C k = []
def EqD (D : CellsK FieldsL) (C : K3T → FieldsL) : Prop := ∀ k f, getF f (dictK k D) = getF f (C k)
def setC (C : K3T → FieldsL) (k : K3T) (E : FieldsL) : K3T → FieldsL := fun x => if x = k then E else C x
theorem DB.ok {H : Heap} {p pm : Nat} {D : CellsK FieldsL} {W : List (K3T × Nat)} {C : K3T → FieldsL} {F : Nat → Prop} (h : DB H p pm D W C F) : OkD D := by
  obtain ⟨_, _, _, _, h, _⟩ := h.d; exact h
theorem DB.keep {H H' : Heap} {p pm : Nat} {D : CellsK FieldsL} {W : List (K3T × Nat)} {C : K3T → FieldsL} {F : Nat → Prop} (h : DB H p pm D W C F) (k : ∀ x, H x ≠ none → H' x = H x) : DB H' p pm D W C F :=
  ⟨h.d.keep fun x hx => k x (h.d.live hx), by rw [k pm (by rw [h.m]; simp)]; exact h.m, h.out, h.nd, fun q b hb => by
    obtain ⟨h1, h2, h3⟩ := h.inn q b hb
    exact ⟨by rw [k b (by rw [h1]; simp)]; exact h1, h2, h3⟩, h.inj, h.ne, h.abs⟩
theorem DB.upd {H H' : Heap} {p pm : Nat} {D D' : CellsK FieldsL} {W : List (K3T × Nat)} {C : K3T → FieldsL} {F F' : Nat → Prop} (h : DB H p pm D W C F) (hd : DicQ H' p D' F') (hu : UpdF F F' H H') : DB H' p pm D' W C F' :=
  ⟨hd, by rw [hu.1 pm h.out (by rw [h.m]; simp)]; exact h.m, fun e => (hu.2 pm e).elim h.out (by rw [h.m]; simp), h.nd, fun q b hb => by
    obtain ⟨h1, h2, h3⟩ := h.inn q b hb
    exact ⟨by rw [hu.1 b h2 (by rw [h1]; simp)]; exact h1, fun e => (hu.2 b e).elim h2 (by rw [h1]; simp), h3⟩, h.inj, h.ne, h.abs⟩
theorem DB.inner {H : Heap} {p pm : Nat} {D : CellsK FieldsL} {W : List (K3T × Nat)} {C : K3T → FieldsL} {F : Nat → Prop} (h : DB H p pm D W C F) {k : K3T} {b : Nat} (hg : getK k W = some b) {E : FieldsL} (hE : (E.map (·.1)).Nodup) :
    DB (H.set b (some (.map (entsF E)))) p pm D W (setC C k E) F := by
  obtain ⟨h1, h2, h3⟩ := h.inn k b hg
  refine ⟨h.d.keep fun x hx => Heap.set_ne _ _ (fun e => h2 (by rw [← e]; exact hx)), by rw [Heap.set_ne _ _ (Ne.symm h3)]; exact h.m, h.out, h.nd, fun q c hc => ?_, h.inj, fun q => ?_, fun q hq => ?_⟩
  · obtain ⟨g1, g2, g3⟩ := h.inn q c hc
    refine ⟨?_, g2, g3⟩
    unfold setC
    by_cases e : q = k
    · subst e
      rw [hg] at hc; cases hc
      rw [if_pos rfl, Heap.set_self]
    · have hcb : c ≠ b := fun e2 => e (h.inj q k c hc (by rw [e2]; exact hg))
      rw [if_neg e, Heap.set_ne _ _ hcb]; exact g1
  · unfold setC; split
    · exact hE
    · exact h.ne q
  · unfold setC
    rw [if_neg (fun e => by rw [e, hg] at hq; cases hq)]; exact h.abs q hq
theorem DB.new {H : Heap} {p pm b : Nat} {D : CellsK FieldsL} {W : List (K3T × Nat)} {C : K3T → FieldsL} {F : Nat → Prop} (h : DB H p pm D W C F) {k : K3T} (hg : getK k W = none) (hb : H b = none) :
    DB ((H.set b (some (.map []))).set pm (some (.map (entsA encB (mput k b W))))) p pm D (mput k b W) C F := by
  have hbp : b ≠ pm := fun e => by rw [e, h.m] at hb; cases hb
  have hbF : ¬ F b := fun e => h.d.live e hb
  have hnb : ∀ q c, getK q W = some c → c ≠ b := fun q c hc e => by have := (h.inn q c hc).1; rw [e, hb] at this; cases this
  refine ⟨h.d.keep fun x hx => ?_, Heap.set_self _ _ _, h.out, nodup_mput h.nd, fun q c hc => ?_, fun q q' c hc hc' => ?_, h.ne, fun q hq => ?_⟩
  · rw [Heap.set_ne _ _ (fun e => h.out (by rw [← e]; exact hx)), Heap.set_ne _ _ (fun e => hbF (by rw [← e]; exact hx))]
  · rw [getK_mput] at hc
    split at hc
    · rename_i e
      cases hc
      rw [e, h.abs k hg]
      exact ⟨by rw [Heap.set_ne _ _ hbp, Heap.set_self]; rfl, hbF, hbp⟩
    · obtain ⟨g1, g2, g3⟩ := h.inn q c hc
      exact ⟨by rw [Heap.set_ne _ _ g3, Heap.set_ne _ _ (hnb q c hc)]; exact g1, g2, g3⟩
  · rw [getK_mput] at hc hc'
    split at hc
    · rename_i e
      cases hc
      split at hc'
      · rename_i e'; rw [e, e']
      · exact absurd rfl (hnb q' _ hc')
    · split at hc'
      · cases hc'; exact absurd rfl (hnb q _ hc)
      · exact h.inj q q' c hc hc'
  · rw [getK_mput] at hq
    split at hq
    · cases hq
    · exact h.abs q hq
theorem eqD_nil {D : CellsK FieldsL} {C : K3T → FieldsL} (h : EqD D C) (k : K3T) : dictK k D = [] ↔ C k = [] := by
  have aux : ∀ {A B : FieldsL}, (∀ f, getF f A = getF f B) → A = [] → B = [] := by
    intro A B h e
    subst e
    cases B with
    | nil => rfl
    | cons q B => have := h q.1; simp [getF] at this
  exact ⟨aux (h k), aux fun f => (h k f).symm⟩
theorem full_dict {D : CellsK FieldsL} {W : List (K3T × Nat)} {C : K3T → FieldsL} (hD : OkD D) (hW : (W.map (·.1)).Nodup) (ha : ∀ k, getK k W = none → C k = []) (h : EqD D C) :
    (W.filter fun q => !(C q.1).isEmpty).length = D.length := by
  have h1 : ((W.filter fun q => !(C q.1).isEmpty).map (·.1)).Nodup := (List.filter_sublist.map _).nodup hW
  have h2 := sortedK_nodup hD.1
  have h3 : ∀ k, k ∈ D.map (·.1) ↔ C k ≠ [] := fun k => by
    rw [← getK_mem]
    exact not_congr (by rw [← dictK_none hD, eqD_nil h])
  have h4 : ∀ k, k ∈ (W.filter fun q => !(C q.1).isEmpty).map (·.1) ↔ C k ≠ [] := fun k => by
    constructor
    · intro hk
      obtain ⟨q, hq, rfl⟩ := List.mem_map.1 hk
      simpa using (List.mem_filter.1 hq).2
    · intro hk
      have hg : getK k W ≠ none := fun e => hk (ha k e)
      obtain ⟨q, hq, rfl⟩ := List.mem_map.1 ((getK_mem k W).1 hg)
      exact List.mem_map.2 ⟨q, List.mem_filter.2 ⟨hq, by simpa using hk⟩, rfl⟩
  have a := nodupK_le h1 fun x hx => (h3 x).2 ((h4 x).1 hx)
  have b := nodupK_le h2 fun x hx => (h4 x).2 ((h3 x).1 hx)
  rw [List.length_map, List.length_map] at a b
  omega
theorem getK_nodup {β : Type} {k : K3T} {v : β} : ∀ {W : List (K3T × β)}, (W.map (·.1)).Nodup → (k, v) ∈ W → getK k W = some v
  | [], _, h => by cases h
  | p :: W, hn, h => by
    rw [List.map_cons, List.nodup_cons] at hn
    simp only [getK]
    rcases List.mem_cons.1 h with rfl | h
    · simp
    · rw [if_neg (fun e => hn.1 (by rw [e]; exact List.mem_map.2 ⟨_, h, rfl⟩))]
      exact getK_nodup hn.2 h
def I_db (X : List AV) (n i p pm y bi clock : Nat) (sq : List Nat) (Z : List (Nat × Bool)) (H5 : Heap) (m : Nat) (T : Nat → AV) (H : Heap) : Prop :=
  ∃ seen : Array Nat, m + seen.size = sq.length ∧ T 0 = .imm X n none ∧ T 4 = .ptr p 0 ∧ T 5 = .mp pm ∧ T 6 = .int .i64 i ∧ T 7 = .ptr y 0 ∧ T 13 = .int .i64 (cntE seen.toList Z : Nat) ∧ T 108 = .ptr bi 0 ∧ seen.toList.Nodup ∧ (∀ x ∈ seen.toList, x ∈ sq) ∧
    H = H5.set bi (some (.raw (.mapIter (some pm) clock seen clock)))
theorem fields_at {fs : FieldsL} {j : Nat} {q : Int × Int} (h : fs[j]? = some q) : (fieldsA fs)[j * 2]? = some (.int .i64 q.1) ∧ (fieldsA fs)[j * 2 + 1]? = some (.int .i64 q.2) := by
  have g := fun i (hi : i < 2) => fm_get (enc := fun q : Int × Int => [AV.int .i64 q.1, AV.int .i64 q.2]) (k := 2) (fun _ => rfl) h hi
  exact ⟨g 0 (by omega), g 1 (by omega)⟩
def I_dc (X : List AV) (n i p pm y : Nat) (D : CellsK FieldsL) (W : List (K3T × Nat)) (C : K3T → FieldsL) (F : Nat → Prop) (k : K3T) (fs : FieldsL) (m : Nat) (T : Nat → AV) (H : Heap) : Prop :=
  ∃ j : Nat, j + m = fs.length ∧ T 0 = .imm X n none ∧ T 4 = .ptr p 0 ∧ T 5 = .mp pm ∧ T 6 = .int .i64 i ∧ T 7 = .ptr y 0 ∧ T 17 = .imm (fieldsA fs) fs.length none ∧ T 142 = .int .i64 fs.length ∧ T 143 = .int .i64 j ∧ DB H p pm D W C F ∧ H y = some (.cells (k3 k) 3)
def I_da (os : List KopT) (p pm : Nat) (m : Nat) (T : Nat → AV) (H : Heap) : Prop :=
  ∃ (i : Nat) (D : CellsK FieldsL) (W : List (K3T × Nat)) (C : K3T → FieldsL) (F : Nat → Prop), i + m = 60 ∧ T 0 = .imm (os.flatMap kopCs) os.length none ∧ T 4 = .ptr p 0 ∧ T 5 = .mp pm ∧ T 6 = .int .i64 i ∧ DB H p pm D W C F ∧ EqD D C ∧ D.length ≤ i ∧ W.length ≤ i
theorem p_DictAll (os : List KopT) (hos : os.length < 2 ^ 63) (ho : ∀ o ∈ os, okKop o) : CP PP F_Rlaw7_DictAll [.imm (os.flatMap kopCs) os.length none] (fun v => v = .bool true) := by
  refine CP.by_vc ok_Rlaw7_DictAll (by simp) ?_
  unfold c_Rlaw7_DictAll
  simp
  refine CallK.pure p_begun7 ?_
  rintro _ rfl
  simp
  refine CallK.of k_dNew ?_
  rintro _ H1 ⟨p, rfl, hp, rfl⟩
  simp
  intro pm hpm
  simp
  have hpp : p ≠ pm := fun e => by rw [e, Heap.set_self] at hpm; cases hpm
  have hd0 : DicQ ((Heap.nil.set p (some (.cells [.nils] 1))).set pm (some (.map []))) p [] (fun x => x = p) :=
    ⟨[], .nils, rfl, ⟨by rw [Heap.set_ne _ _ hpp, Heap.set_self], ⟨rfl, .inl ⟨rfl, rfl⟩⟩, (fun e => by cases e), (fun q h => by cases h), (fun q h => by cases h), .nil⟩, okD_nil, fun x => by simp [dicF, blkOf]⟩
  refine LoopV.mk2 (I_da os p pm) 60 ⟨0, [], [], fun _ => [], _, by omega, by simp, by simp, by simp, by simp, ⟨hd0, Heap.set_self _ _ _, fun e => hpp e.symm, by simp, (fun k b h => by cases h), (fun k k' b h => by cases h), (fun k => by simp), fun k _ => rfl⟩, (fun k f => rfl), by simp, by simp⟩ ?_
  clear hd0 hpp hpm hp
  rintro m T H ⟨i, D, W, C, F, him, t0, t4, t5, t6, st, heq, hlD, hlW⟩
  by_cases hlt : i < os.length ∧ i < 60
  · obtain ⟨hi, h60⟩ := hlt
    obtain ⟨o, hoi⟩ : ∃ o, os[i]? = some o := ⟨os[i], by simp [hi]⟩
    obtain ⟨g0, g4, g5, g6⟩ := kop_get hoi
    have gk := kop_key hoi
    obtain ⟨f1, f2⟩ := kop_at hoi
    have h60z : (i : Int) < 60 := by omega
    have hk3 : (k3 o.key).length = 3 := rfl
    have htk3 : (k3 o.key).take 3 = k3 o.key := rfl
    have hkone : ∀ x, x ∈ k3 o.key → x.one = true := fun x hx => List.all_eq_true.1 (show (k3 o.key).all AV.one = true from rfl) x hx
    have f3 : i * 7 + 1 + 3 ≤ (os.flatMap kopCs).length := by omega
    generalize hXe : os.flatMap kopCs = X at *
    simp [t0, t4, t5, t6, hi, h60z, gk, f3, g4]
    intro y hy
    simp [Heap.set_self, Heap.set_set, hk3]
    refine ⟨hkone, ?_⟩
    have old : ∀ x, H x ≠ none → (H.set y (some (.cells (k3 o.key) 3))) x = H x := fun x hx => Heap.set_ne _ _ (fun e => hx (by rw [e]; exact hy))
    have st2 := st.keep old
    have hyy : (H.set y (some (.cells (k3 o.key) 3))) y = some (.cells (k3 o.key) 3) := Heap.set_self _ _ _
    have hFy : ¬ F y := fun e => st.d.live e hy
    have hpy : pm ≠ y := fun e => by have := st.m; rw [e, hy] at this; cases this
    have hWy : ∀ k b, getK k W = some b → b ≠ y := fun k b hb e => by have := (st.inn k b hb).1; rw [e, hy] at this; cases this
    generalize H.set y (some (.cells (k3 o.key) 3)) = H2 at *
    clear st old hy
    have hM := st2.m
    have hlk := lkpF_ents encB .nilm o.key W
    have hfi := findI_ents encB o.key W
    refine (have tail : ∀ (T : Nat → AV) (H : Heap) (D' : CellsK FieldsL) (W' : List (K3T × Nat)) (C' : K3T → FieldsL) (F' : Nat → Prop), T 0 = .imm X os.length none → T 4 = .ptr p 0 → T 5 = .mp pm → T 6 = .int .i64 i → T 7 = .ptr y 0 → DB H p pm D' W' C' F' → EqD D' C' → H y = some (.cells (k3 o.key) 3) → ¬ F' y → (∀ k b, getK k W' = some b → b ≠ y) → D'.length ≤ i + 1 → W'.length ≤ i + 1 → RunR ?R ⟨T, H⟩ ?Q := ?tl
      ?main)
    case main =>
      have hcD : D.length < 2 ^ 28 := by omega
      have hf0 : findI .i (.int .i64 o.f) [] = some none := rfl
      have hl0 : lkpV true (.int .i64 0) [] none = .tup [.int .i64 0, .bool false] := rfl
      by_cases hkd : o.kind.tmod 3 = 0
      case' neg =>
        have hput := k_dPut st2.d hcD o.key o.f o.v
        by_cases hr : 0 ≤ o.f ∧ o.f < 8
        case' neg =>
          have hr2 : (o.f < 0 ∧ ¬ 0 ≤ o.f) ∨ (0 ≤ o.f ∧ ¬ o.f < 8) := by omega
          have hP : putD o.key o.f o.v D = (D, 2) := by unfold putD; rw [if_pos (by omega)]
          rw [hP] at hput
          cases hg : getK o.key W
          case' none =>
            rw [hg] at hlk
            simp only [Option.map_none, Option.getD_none] at hlk
            rcases hr2 with ⟨_, hr1⟩ | ⟨hr0, hr1⟩
            case' inl => simp [t0, t4, t5, t6, hi, g0, g5, hkd, hyy, hk3, htk3, hM, hfi, hlk, hf0, hl0, hr1]
            case' inr => simp [t0, t4, t5, t6, hi, g0, g5, hkd, hyy, hk3, htk3, hM, hfi, hlk, hf0, hl0, hr0, hr1]
          case' some b =>
            rw [hg] at hlk
            simp only [Option.map_some, Option.getD_some, encB] at hlk
            have hbi := (st2.inn o.key b hg).1
            have hfF := findF o.f (C o.key)
            have hlF := lkpI_ents o.f (C o.key)
            rcases hr2 with ⟨_, hr1⟩ | ⟨hr0, hr1⟩
            case' inl => simp [t0, t4, t5, t6, hi, g0, g5, hkd, hyy, hk3, htk3, hM, hfi, hlk, hbi, hfF, hlF, hr1]
            case' inr => simp [t0, t4, t5, t6, hi, g0, g5, hkd, hyy, hk3, htk3, hM, hfi, hlk, hbi, hfF, hlF, hr0, hr1]
          all_goals
            repeat' (with_reducible refine And.intro ?_ ?_)
          all_goals
            refine CallK.of hput ?_
            rintro _ H3 ⟨rfl, F3, d3, u3⟩
            have st3 := st2.upd d3 u3
            have y3 : H3 y = some (.cells (k3 o.key) 3) := by rw [u3.1 y hFy (by rw [hyy]; simp)]; exact hyy
            have nF : ¬ F3 y := fun e => (u3.2 y e).elim hFy (by rw [hyy]; simp)
            simp
            refine MarkV.same ?_
            refine tail _ _ D W C F3 ?_ ?_ ?_ ?_ ?_ st3 heq y3 nF hWy (by omega) (by omega)
            all_goals simp [t0, t4, t5, t6]
        case' pos =>
          obtain ⟨hr0, hr1⟩ := hr
          cases hg : getK o.key W
          case' none =>
            rw [hg] at hlk
            simp only [Option.map_none, Option.getD_none] at hlk
            simp [t0, t4, t5, t6, hi, g0, g5, hkd, hyy, hk3, htk3, hM, hfi, hlk, hf0, hl0, hr0, hr1]
            intro b hb
            have hbp : b ≠ pm := fun e => by rw [e, hM] at hb; cases hb
            have hby : b ≠ y := fun e => by rw [e, hyy] at hb; cases hb
            have st3 := st2.new hg hb
            have m2 : (H2.set b (some (.map []))) pm = some (.map (entsA encB W)) := by rw [Heap.set_ne _ _ (Ne.symm hbp)]; exact hM
            have hset : msetV (.agg (k3 o.key)) (.mp b) (entsA encB W) (midx o.key W) = entsA encB (mput o.key b W) := msetV_ents encB o.key b W
            simp [t5, m2, s_Mset hfi, hset]
            have hg3 : getK o.key (mput o.key b W) = some b := by rw [getK_mput, if_pos rfl]
            have hW3 : ∀ k c, getK k (mput o.key b W) = some c → c ≠ y := fun k c hc => by
              rw [getK_mput] at hc
              split at hc
              · cases hc; exact hby
              · exact hWy k c hc
            have hlW3 : (mput o.key b W).length ≤ i + 1 := by unfold mput; split <;> simp <;> omega
            have y3 : ((H2.set b (some (.map []))).set pm (some (.map (entsA encB (mput o.key b W))))) y = some (.cells (k3 o.key) 3) := by rw [Heap.set_ne _ _ (Ne.symm hpy), Heap.set_ne _ _ (Ne.symm hby)]; exact hyy
            generalize (H2.set b (some (.map []))).set pm (some (.map (entsA encB (mput o.key b W)))) = H3 at *
            generalize mput o.key b W = W3 at *
            have hm3 := st3.m
            have hlk3 := lkpF_ents encB .nilm o.key W3
            have hfi3 := findI_ents encB o.key W3
            rw [hg3] at hlk3
            simp only [Option.map_some, Option.getD_some, encB] at hlk3
            have hb3 := (st3.inn o.key b hg3).1
            have hfF := findF o.f (C o.key)
            have hsF := msetI_ents o.f o.v (C o.key)
            have y4' : (H3.set b (some (.map (entsF (iput o.f o.v (C o.key)))))) y = some (.cells (k3 o.key) 3) := by rw [Heap.set_ne _ _ (Ne.symm hby)]; exact y3
            simp [t0, t5, t6, hi, g5, y3, hk3, htk3, hm3, hfi3, hlk3, hb3, s_Mset hfF, hsF]
          case' some b =>
            have st3 := st2
            have hg3 := hg
            have hW3 := hWy
            have hlW3 : W.length ≤ i + 1 := by omega
            have y3 := hyy
            rw [hg] at hlk
            simp only [Option.map_some, Option.getD_some, encB] at hlk
            have hb3 := (st2.inn o.key b hg).1
            have hfF := findF o.f (C o.key)
            have hlF := lkpI_ents o.f (C o.key)
            have hsF := msetI_ents o.f o.v (C o.key)
            have hby := hWy o.key b hg
            have y4' : (H2.set b (some (.map (entsF (iput o.f o.v (C o.key)))))) y = some (.cells (k3 o.key) 3) := by rw [Heap.set_ne _ _ (Ne.symm hby)]; exact y3
            simp [t0, t4, t5, t6, hi, g0, g5, hkd, hyy, hk3, htk3, hM, hfi, hlk, hb3, hfF, hlF, hr0, hr1, s_Mset hfF, hsF]
          all_goals
            have st4 := st3.inner hg3 (nodup_iput (k := o.f) (v := o.v) (st3.ne o.key))
            have heq4 : EqD (putD o.key o.f o.v D).1 (setC C o.key (iput o.f o.v (C o.key))) := fun k f => by
              unfold setC
              rw [dictK_put st2.ok ⟨hr0, hr1⟩]
              by_cases e : k = o.key
              · rw [if_pos e, if_pos e, getF_put (dictK_ok st2.ok).1, getF_iput, heq]
              · rw [if_neg e, if_neg e]; exact heq k f
            have hlP := length_put o.key o.f o.v D
            have hP2 : (putD o.key o.f o.v D).2 = 0 := by unfold putD; rw [if_neg (by omega)]
            have hput4 := k_dPut st4.d hcD o.key o.f o.v
            simp [t0, t4, t6, hi, g5, y4', hk3, htk3]
            repeat' (with_reducible refine And.intro ?_ ?_)
          all_goals
            refine CallK.of hput4 ?_
            rintro _ H5 ⟨rfl, F5, d5, u5⟩
            have st5 := st4.upd d5 u5
            have y5 : H5 y = some (.cells (k3 o.key) 3) := by rw [u5.1 y hFy (by rw [y4']; simp)]; exact y4'
            have nF : ¬ F5 y := fun e => (u5.2 y e).elim hFy (by rw [y4']; simp)
            simp [hP2]
            refine MarkV.same ?_
            refine tail _ _ _ _ _ F5 ?_ ?_ ?_ ?_ ?_ st5 heq4 y5 nF hW3 (by omega) hlW3
            all_goals simp [t0, t4, t5, t6]
      case' pos =>
        have hcut := k_dCut st2.d hcD o.key o.f
        have hc2 : (cutD o.key o.f D).2 = (getF o.f (C o.key)).isSome := by
          rw [← heq]
          unfold cutD
          cases getF o.f (dictK o.key D) <;> rfl
        have hlC := length_cutD o.key o.f D
        have heqC : ∀ k f, getF f (dictK k (cutD o.key o.f D).1) = if k = o.key then (if f = o.f then none else getF f (C k)) else getF f (C k) := fun k f => by
          rw [dictK_cut st2.ok]
          by_cases e : k = o.key
          · rw [if_pos e, if_pos e, getF_cut (dictK_ok st2.ok).1, heq, e]
          · rw [if_neg e, if_neg e]; exact heq k f
        rw [hc2] at hcut
        have hok : keyOK .i (.int .i64 o.f) = true := rfl
        cases hg : getK o.key W
        case' none =>
          rw [hg] at hlk
          simp only [Option.map_none, Option.getD_none] at hlk
          have hC0 := st2.abs o.key hg
          rw [hC0] at hcut
          simp [t0, t4, t5, t6, hi, g0, hkd, hyy, hk3, htk3, hM, hfi, hlk, hf0, hl0]
          refine CallK.of hcut ?_
          rintro _ H3 ⟨rfl, F3, d3, u3⟩
          have st3 := st2.upd d3 u3
          have y3 : H3 y = some (.cells (k3 o.key) 3) := by rw [u3.1 y hFy (by rw [hyy]; simp)]; exact hyy
          have nF : ¬ F3 y := fun e => (u3.2 y e).elim hFy (by rw [hyy]; simp)
          have m3 := st3.m
          have heq3 : EqD (cutD o.key o.f D).1 C := fun k f => by
            rw [heqC]
            by_cases e : k = o.key
            · rw [if_pos e, e, hC0]; simp [getF]
            · rw [if_neg e]
          simp [t5, y3, hk3, htk3, m3, hfi, hlk, s_mdeln, hok, getF]
          refine MarkV.same ?_
          refine tail _ _ _ _ _ F3 ?_ ?_ ?_ ?_ ?_ st3 heq3 y3 nF hWy (by omega) (by omega)
          all_goals simp [t0, t4, t5, t6]
        case' some b =>
          rw [hg] at hlk
          simp only [Option.map_some, Option.getD_some, encB] at hlk
          have hbi := (st2.inn o.key b hg).1
          have hfF := findF o.f (C o.key)
          have hlF := lkpI_ents o.f (C o.key)
          have hdF := mdelI_ents o.f (C o.key)
          have hby := hWy o.key b hg
          simp [t0, t4, t5, t6, hi, g0, hkd, hyy, hk3, htk3, hM, hfi, hlk, hbi, hfF, hlF]
          refine CallK.of hcut ?_
          rintro _ H3 ⟨rfl, F3, d3, u3⟩
          have st3 := st2.upd d3 u3
          have y3 : H3 y = some (.cells (k3 o.key) 3) := by rw [u3.1 y hFy (by rw [hyy]; simp)]; exact hyy
          have nF : ¬ F3 y := fun e => (u3.2 y e).elim hFy (by rw [hyy]; simp)
          have m3 := st3.m
          have b3 := (st3.inn o.key b hg).1
          have st4 := st3.inner hg (nodup_icut (k := o.f) (st3.ne o.key))
          have heq3 : EqD (cutD o.key o.f D).1 (setC C o.key (icut o.f (C o.key))) := fun k f => by
            rw [heqC]
            unfold setC
            by_cases e : k = o.key
            · rw [if_pos e, if_pos e, getF_icut _ _ _ (st2.ne o.key), e]
            · rw [if_neg e, if_neg e]
          have y4 : (H3.set b (some (.map (entsF (icut o.f (C o.key)))))) y = some (.cells (k3 o.key) 3) := by rw [Heap.set_ne _ _ (Ne.symm hby)]; exact y3
          simp [t5, y3, hk3, htk3, m3, hfi, hlk, b3, s_Mdel hfF, hdF]
          refine MarkV.same ?_
          refine tail _ _ _ _ _ F3 ?_ ?_ ?_ ?_ ?_ st4 heq3 y4 nF hWy (by omega) (by omega)
          all_goals simp [t0, t4, t5, t6]
    case tl =>
      clear hlk hfi hM hFy hyy hpy hWy st2
      intro T H D W C F t0 t4 t5 t6 t7 st heq hyy hFy hWy hlD hlW
      unfold RunR
      simp [t5, st.m]
      intro bi sq clock hbi hsl hsd hsc
      rw [entsA_length] at hsl
      have hbm : bi ≠ pm := fun e => by rw [e, st.m] at hbi; cases hbi
      have d5 : DicQ (H.set pm (some (.mapS (entsA encB W) sq clock))) p D F := st.d.keep fun x hx => Heap.set_ne _ _ (fun e => st.out (by rw [← e]; exact hx))
      have hpy : y ≠ pm := fun e => by have := st.m; rw [← e, hyy] at this; cases this
      have y5 : (H.set pm (some (.mapS (entsA encB W) sq clock))) y = some (.cells (k3 o.key) 3) := by rw [Heap.set_ne _ _ hpy]; exact hyy
      have m5 : (H.set pm (some (.mapS (entsA encB W) sq clock))) pm = some (.mapS (entsA encB W) sq clock) := Heap.set_self _ _ _
      have b5 : (H.set pm (some (.mapS (entsA encB W) sq clock))) bi = none := by rw [Heap.set_ne _ _ hbm]; exact hbi
      have inn5 : ∀ k b, getK k W = some b → (H.set pm (some (.mapS (entsA encB W) sq clock))) b = some (.map (entsF (C k))) ∧ ¬ F b ∧ b ≠ pm := fun k b hb => by
        obtain ⟨g1, g2, g3⟩ := st.inn k b hb
        exact ⟨by rw [Heap.set_ne _ _ g3]; exact g1, g2, g3⟩
      generalize H.set pm (some (.mapS (entsA encB W) sq clock)) = H5 at *
      have hout := st.out
      have hnd := st.nd
      have hinj := st.inj
      have hne := st.ne
      have habs := st.abs
      have hokD := st.ok
      clear st hyy hbi
      obtain ⟨Z, hZ⟩ : ∃ Z, Z = sq.zip (W.map fun q => !(C q.1).isEmpty) := ⟨_, rfl⟩
      have hZ1 : Z.map (·.1) = sq := by rw [hZ, List.map_fst_zip (by simp [hsl])]
      have hZl : Z.length = sq.length := by rw [← hZ1, List.length_map]
      have hZ2 : (Z.filter (·.2)).length = D.length := by
        rw [← full_dict hokD hnd habs heq, hZ]
        have e : (sq.zip (W.map fun q => !(C q.1).isEmpty)).map (·.2) = W.map fun q => !(C q.1).isEmpty := List.map_snd_zip (by simp [hsl])
        have e2 := congrArg (fun l : List Bool => (l.filter id).length) e
        simpa [List.filter_map, Function.comp_def] using e2
      refine LoopV.mk2 (I_db X os.length i p pm y bi clock sq Z H5) sq.length ⟨#[], by simp, by simp [t0], by simp [t4], by simp [t5], by simp [t6], by simp [t7], by simp [cntE_none], by simp, by simp, by simp, rfl⟩ ?_
      clear t0 t4 t5 t6 t7 T
      rintro k T H ⟨seen, hks, t0, t4, t5, t6, t7, t13, t108, hsn, hsq, rfl⟩
      have hcl := cntE_le seen.toList Z
      have put8 : ∀ S x, H5 x ≠ none → (H5.set bi (some (.raw (.mapIter (some pm) clock S clock)))) x = H5 x := fun S x hx => Heap.set_ne _ _ (fun e => hx (by rw [e]; exact b5))
      have m7 : (H5.set bi (some (.raw (.mapIter (some pm) clock seen clock)))) pm = some (.mapS (entsA encB W) sq clock) := by rw [put8 _ pm (by rw [m5]; simp)]; exact m5
      simp [t108]
      refine Nx.mk (Heap.set_self _ _ _) m7 (fun hall => ?_) (fun j e x he hx hxs => ?_)
      · have hcA : cntE seen.toList Z = D.length := by rw [cntE_all (fun p hp => hall p.1 (by rw [← hZ1]; exact List.mem_map_of_mem hp)), hZ2]
        rw [hcA] at t13
        have d8 := d5.keep fun x hx => put8 seen x (d5.live hx)
        have y8 : (H5.set bi (some (.raw (.mapIter (some pm) clock seen clock)))) y = some (.cells (k3 o.key) 3) := by rw [put8 seen y (by rw [y5]; simp)]; exact y5
        have inn8 : ∀ k b, getK k W = some b → (H5.set bi (some (.raw (.mapIter (some pm) clock seen clock)))) b = some (.map (entsF (C k))) ∧ ¬ F b ∧ b ≠ pm := fun k b hb => by
          obtain ⟨g1, g2, g3⟩ := inn5 k b hb
          exact ⟨by rw [put8 seen b (by rw [g1]; simp)]; exact g1, g2, g3⟩
        clear put8
        generalize H5.set bi (some (.raw (.mapIter (some pm) clock seen clock))) = H8 at *
        simp
        refine MarkV.mapV (b := pm) m7 rfl rfl (fun _ _ h => h) ?_
        have st9 : DB (H8.set pm (some (.map (entsA encB W)))) p pm D W C F := ⟨d8.keep fun x hx => Heap.set_ne _ _ (fun e => hout (by rw [← e]; exact hx)), Heap.set_self _ _ _, hout, hnd, fun k b hb => by
          obtain ⟨g1, g2, g3⟩ := inn8 k b hb
          exact ⟨by rw [Heap.set_ne _ _ g3]; exact g1, g2, g3⟩, hinj, hne, habs⟩
        have y9 : (H8.set pm (some (.map (entsA encB W)))) y = some (.cells (k3 o.key) 3) := by rw [Heap.set_ne _ _ hpy]; exact y8
        generalize H8.set pm (some (.map (entsA encB W))) = H9 at *
        clear d5 y5 m5 b5 inn5 d8 y8 m7 inn8 hall hsn hsq hks hcl hZ hZ1 hZl hZ2 hcA
        unfold RunR
        simp [t4]
        refine CallQ.ofH (k_keysD st9.d (by omega)) ?_
        simp [t4, t7, y9, hk3, htk3]
        refine CallQ.ofH ((k_dDict st9.d (by omega) o.key).mono fun r H' h => ⟨h.2, h.1⟩) ?_
        have hris : RisK (D.map (·.1)) := sortedK_keys.1 hokD.1
        have hKl : (D.map (·.1)).length = D.length := List.length_map _
        obtain ⟨KS, hKS⟩ : ∃ KS, KS = D.map (·.1) := ⟨_, rfl⟩
        rw [← hKS] at hris hKl ⊢
        rw [← hKl] at t13
        simp [keysI, t13]
        have hunF : un (immF (dictK o.key D)) = (True, immF (dictK o.key D)) := rfl
        rw [hunF]
        refine ⟨trivial, ?_⟩
        refine CallK.pure (p_rising2 hris (by omega)) ?_
        rintro _ rfl
        have hfl := fields_len (dictK_ok (k := o.key) hokD).1 (hne o.key) (heq o.key)
        have hf8 := dictK_le (k := o.key) hokD
        have hfr := (dictK_ok (k := o.key) hokD).1
        have heq2 := heq o.key
        have hlk := lkpF_ents encB .nilm o.key W
        have hfi := findI_ents encB o.key W
        have m9 := st9.m
        have hDl : D.length < 2 ^ 29 := by omega
        have hdf : ∀ H, DB H p pm D W C F → ∀ g, CC PP F_dict_Dicts_Field [.ptr p 0, .agg (k3 o.key), .int .i64 g] H fun r H' => r = .tup [.int .i64 ((getF g (dictK o.key D)).getD 0), .bool (getF g (dictK o.key D)).isSome] ∧ H' = H := fun H h g => (k_dField h.d hDl o.key g).mono fun r H' h => ⟨h.2, h.1⟩
        obtain ⟨fs, hfs⟩ : ∃ fs, fs = dictK o.key D := ⟨_, rfl⟩
        rw [← hfs] at hfl hf8 hfr heq2 hdf ⊢
        clear hfs hunF hris hKl hKS
        refine (have tail2 : ∀ (T : Nat → AV) (H : Heap), I_dc X os.length i p pm y D W C F o.key fs fs.length T H → LoopV ?R2 ⟨T, H⟩ ?Q2 := ?tl2
          ?main2)
        case main2 =>
          cases hg : getK o.key W
          case' none =>
            rw [hg] at hlk
            simp only [Option.map_none, Option.getD_none] at hlk
            have hC0 := habs o.key hg
            have hfz : fs = [] := List.length_eq_zero_iff.1 (by rw [hfl, hC0]; rfl)
            simp [immF, hfz, t5, t7, y9, hk3, htk3, m9, hfi, hlk]
          case' some b =>
            rw [hg] at hlk
            simp only [Option.map_some, Option.getD_some, encB] at hlk
            have hb9 := (st9.inn o.key b hg).1
            have hel := entsF_length (C o.key)
            have hfz : True := trivial
            simp [immF, t5, t7, y9, hk3, htk3, m9, hfi, hlk, hb9, hel, hfl]
          all_goals
            refine tail2 _ _ ⟨0, by omega, ?_, ?_, ?_, ?_, ?_, ?_, ?_, ?_, st9, y9⟩
            all_goals first
              | (simp [t0, t4, t5, t6, t7, hfz, hfl]; done)
              | (simp [t0, t4, t5, t6, t7, hfz, hfl, immF]; done)
        case tl2 =>
          intro T H hI
          refine LoopV.mk2 (I_dc X os.length i p pm y D W C F o.key fs) fs.length hI ?_
          clear hI t0 t4 t5 t6 t7 t108 y9 st9 m9 t13
          rintro k T H ⟨j, hjk, t0, t4, t5, t6, t7, t17, t142, t143, st, hy⟩
          by_cases hj : j < fs.length
          · obtain ⟨q, hq⟩ : ∃ q, fs[j]? = some q := ⟨fs[j], by simp [hj]⟩
            obtain ⟨c0, c1⟩ := fields_at hq
            have hgq := getF_of_mem hfr (List.mem_of_getElem? hq)
            have hgC := heq2 q.1
            rw [hgq] at hgC
            have hdfq := hdf H st q.1
            rw [hgq] at hdfq
            have hM := st.m
            have wj : IntKind.i64.wrap ((j : Int) + 1) = ((j + 1 : Nat) : Int) := wrap_i64 (by omega) (by omega)
            cases hg : getK o.key W with
            | none =>
              have hC0 := habs o.key hg
              have hz : fs.length = 0 := by rw [hfl, hC0]; rfl
              omega
            | some b =>
              rw [hg] at hlk
              simp only [Option.map_some, Option.getD_some, encB] at hlk
              have hbb := (st.inn o.key b hg).1
              have hfF := findF q.1 (C o.key)
              have hlF := lkpI_ents q.1 (C o.key)
              rw [← hgC] at hlF
              have hfal := fieldsA_length fs
              cases j with
              | zero =>
                simp only [Nat.zero_mul, Nat.zero_add] at c0 c1
                generalize hFe : fieldsA fs = FA at *
                simp [t5, t7, t17, t142, t143, hj, hy, hk3, htk3, hM, hfi, hlk, hbb, c0, c1, hfF, hlF, t4]
                refine CallQ.ofH hdfq ?_
                have wn : IntKind.i64.wrap (-1) = -1 := by decide
                simp [t17, t143, hj, c0, c1, wn]
                exact Again2.mk (k - 1) (by omega) ⟨1, by omega, by simp [t0], by simp [t4], by simp [t5], by simp [t6], by simp [t7], by simp [t17, hFe], by simp [t142], by simpa using wj, st, hy⟩
              | succ j' =>
                obtain ⟨q', hq'⟩ : ∃ q, fs[j']? = some q := ⟨fs[j'], by simp [show j' < fs.length by omega]⟩
                obtain ⟨e0, e1⟩ := fields_at hq'
                have hlt : q'.1 < q.1 := by
                  have h1 := List.pairwise_iff_getElem.1 hfr j' (j' + 1) (by omega) hj (by omega)
                  rw [(List.getElem?_eq_some_iff.1 hq').2, (List.getElem?_eq_some_iff.1 hq).2] at h1
                  exact h1
                have wm : IntKind.i64.wrap (j' : Int) = (j' : Int) := wrap_i64 (by omega) (by omega)
                have hj'l : j' < fs.length := by omega
                have hjz : (j' : Int) + 1 < fs.length := by omega
                have hj0 : (0 : Int) ≤ (j' : Int) + 1 := by omega
                have hpos : (0 : Int) < (j' : Int) + 1 := by omega
                have hnle : ¬ q.1 ≤ q'.1 := by omega
                generalize hFe : fieldsA fs = FA at *
                simp [t5, t7, t17, t142, t143, hj, hy, hk3, htk3, hM, hfi, hlk, hbb, c0, c1, hfF, hlF, t4, hjz, hj0]
                refine CallQ.ofH hdfq ?_
                simp [t17, t143, hj, c0, c1, e0, e1, wm, hj'l, hjz, hj0, hpos, hnle]
                exact Again2.mk (k - 1) (by omega) ⟨j' + 1 + 1, by omega, by simp [t0], by simp [t4], by simp [t5], by simp [t6], by simp [t7], by simp [t17, hFe], by simp [t142], by simpa using wj, st, hy⟩
          · have hje : j = fs.length := by omega
            have wi : IntKind.i64.wrap ((i : Int) + 1) = ((i + 1 : Nat) : Int) := wrap_i64 (by omega) (by omega)
            simp [t142, t143, hje, t6]
            exact Again2.mk (m - 1) (by omega) ⟨i + 1, D, W, C, F, by omega, by simp [t0, hXe], by simp [t4], by simp [t5], by simp [wi], st, heq, hlD, hlW⟩
      · obtain ⟨kl, hkl, rfl⟩ : ∃ kl, W[j]? = some kl ∧ e = (keyA kl.1, encB kl.2) := by
          unfold entsA at he
          rw [List.getElem?_map] at he
          cases hw : W[j]? with
          | none => rw [hw] at he; cases he
          | some kl => rw [hw] at he; cases he; exact ⟨kl, rfl, rfl⟩
        obtain ⟨kk, bb⟩ := kl
        have hgk := getK_nodup hnd (List.mem_of_getElem? hkl)
        have hsn' : (seen.push x).toList.Nodup := by
          rw [Array.toList_push, List.nodup_append]
          exact ⟨hsn, by simp, fun a ha b hb e => by simp at hb; subst hb; subst e; exact hxs ha⟩
        have hsq' : ∀ y ∈ (seen.push x).toList, y ∈ sq := fun y hy => by
          rw [Array.toList_push, List.mem_append] at hy
          rcases hy with hy | hy
          · exact hsq y hy
          · simp at hy; subst hy; exact List.mem_of_getElem? hx
        have hcnt := nodupN_le hsn' hsq'
        have hzm : (x, !(C kk).isEmpty) ∈ Z := by
          rw [hZ]
          refine List.mem_of_getElem? (i := j) ?_
          rw [List.getElem?_zip_eq_some]
          exact ⟨hx, by rw [List.getElem?_map, hkl]; rfl⟩
        have hpush := cntE_push (seen := seen.toList) (by rw [hZ1]; exact hsd) hzm hxs
        have m8 : (H5.set bi (some (.raw (.mapIter (some pm) clock (seen.push x) clock)))) pm = some (.mapS (entsA encB W) sq clock) := by rw [put8 _ pm (by rw [m5]; simp)]; exact m5
        have b8 : (H5.set bi (some (.raw (.mapIter (some pm) clock (seen.push x) clock)))) bb = some (.map (entsF (C kk))) := by rw [put8 _ bb (by rw [(inn5 kk bb hgk).1]; simp)]; exact (inn5 kk bb hgk).1
        simp [Heap.set_set, t108]
        refine En.mk (Heap.set_self _ _ _) m8 hx he ?_
        have wc : IntKind.i64.wrap ((cntE seen.toList Z : Int) + 1) = ((cntE seen.toList Z + 1 : Nat) : Int) := wrap_i64 (by omega) (by omega)
        have hel := entsF_length (C kk)
        cases hC : C kk with
        | nil =>
          rw [hC] at hpush b8
          simp [encB, b8, t13, entsF]
          exact Again2.mk (k - 1) (by simp at hcnt; omega) ⟨seen.push x, by simp at hcnt ⊢; omega, by simp [t0], by simp [t4], by simp [t5], by simp [t6], by simp [t7], by rw [Array.toList_push, hpush]; simp [t13], by simp [t108], hsn', hsq', rfl⟩
        | cons z zs =>
          rw [hC] at hpush b8
          simp [encB, b8, t13, entsF]
          exact Again2.mk (k - 1) (by simp at hcnt; omega) ⟨seen.push x, by simp at hcnt ⊢; omega, by simp [t0], by simp [t4], by simp [t5], by simp [t6], by simp [t7], by rw [Array.toList_push, hpush]; simp [wc], by simp [t108], hsn', hsq', rfl⟩
  · by_cases hi : i < os.length
    · have h60z : ¬ (i : Int) < 60 := by omega
      simp [t0, t6, hi, h60z]
    · simp [t0, t6, hi]
end Go.Proofs.YtcpfodhhjkaibaaGreat
