/- ListAll. -/
import Derived.Test.YtcpfodhhjkaibaaGreatSB
import Derived.Test.YtcpfodhhjkaibaaGreatQ6
import Derived.Test.YtcpfodhhjkaibaaGreatCR
import Derived.Test.YtcpfodhhjkaibaaGreatWM
set_option linter.unusedVariables false
set_option linter.unusedSimpArgs false
set_option maxRecDepth 100000
set_option maxHeartbeats 8000000
namespace Go.Sf
/-- A map's values, told with less. -/
theorem Weak.mapV {T : Nat → AV} {H : Heap} {b : Nat} {B : Blk} {es es' : List (AV × AV)} (hb : H b = some B) (hB : mapB (some B) = some es) (hk : es'.map (·.1) = es.map (·.1))
    (hv : ∀ M xs, VRels M (es.map (·.2)) xs → VRels M (es'.map (·.2)) xs) : Weak ⟨T, H⟩ ⟨T, H.set b (some (.map es'))⟩ := by
  intro n M a w h1 h2
  refine ⟨M, h1, ⟨fun x o v e => ?_, fun x k e => ?_⟩, ⟨rfl, rfl, rfl, Nat.le_refl _, MLe.refl _, fun x _ hx => ⟨rfl, ?_, fun _ => rfl⟩⟩⟩
  · obtain ⟨g1, g2⟩ := h2.mem x o v e
    have g3 : H x = none := g1
    have : x ≠ b := fun e => by rw [e, hb] at g3; cases g3
    exact ⟨by rw [show (AS.mk T (H.set b (some (.map es')))).H = H.set b (some (.map es')) from rfl, Heap.set_ne _ _ this]; exact g3, g2⟩
  · simp only [] at e
    by_cases hx : x = b
    · subst hx
      rw [Heap.set_self] at e
      cases e
      obtain ⟨o, ho, hr⟩ := h2.live _ _ hb
      refine ⟨o, ho, ?_⟩
      have hr2 := BRel.mapB hB hr
      simp only [BRel] at hr2 ⊢
      obtain ⟨xs, clock, q1, q2, q3, q4⟩ := hr2
      exact ⟨xs, clock, q1, q2, by rw [hk]; exact q3, hv _ _ q4⟩
    · rw [Heap.set_ne _ _ hx] at e
      exact h2.live x k e
  · simp only [] at hx ⊢
    have : x ≠ b := fun e => by rw [e, hb] at hx; cases hx
    rw [Heap.set_ne _ _ this]; exact hx
/-- A condition, as one thing. -/
def RunR (R : AS → (Exit → AS → Prop) → Prop) (S : AS) (Q : Exit → AS → Prop) : Prop := R S Q
theorem MarkV.same {R : AS → (Exit → AS → Prop) → Prop} {S : AS} {Q : Exit → AS → Prop} (h : RunR R S Q) : MarkV R S Q := ⟨S, Weak.refl S, h⟩
theorem MarkV.mapV {R : AS → (Exit → AS → Prop) → Prop} {Q : Exit → AS → Prop} {T : Nat → AV} {H : Heap} {b : Nat} {B : Blk} {es es' : List (AV × AV)} (hb : H b = some B) (hB : mapB (some B) = some es) (hk : es'.map (·.1) = es.map (·.1))
    (hv : ∀ M xs, VRels M (es.map (·.2)) xs → VRels M (es'.map (·.2)) xs) (h : RunR R ⟨T, H.set b (some (.map es'))⟩ Q) : MarkV R ⟨T, H⟩ Q := ⟨_, Weak.mapV hb hB hk hv, h⟩
/-! How many of a map's values were seen that count. -/
def cntE (seen : List Nat) (Z : List (Nat × Bool)) : Nat := (Z.filter fun p => decide (p.1 ∈ seen) && p.2).length
theorem cntE_none (Z : List (Nat × Bool)) : cntE [] Z = 0 := by
  unfold cntE; simp
theorem cntE_out {seen : List Nat} {x : Nat} : ∀ {Z : List (Nat × Bool)}, x ∉ Z.map (·.1) → cntE (seen ++ [x]) Z = cntE seen Z
  | [], _ => rfl
  | p :: Z, h => by
    simp only [List.map_cons, List.mem_cons, not_or] at h
    have ih := cntE_out (seen := seen) h.2
    unfold cntE at ih ⊢
    rw [List.filter_cons, List.filter_cons]
    have e : decide (p.1 ∈ seen ++ [x]) = decide (p.1 ∈ seen) := by
      congr 1
      simp [Ne.symm h.1]
    rw [e]
    split
    · rw [List.length_cons, List.length_cons, ih]
    · exact ih
theorem cntE_push {seen : List Nat} {x : Nat} {c : Bool} : ∀ {Z : List (Nat × Bool)}, (Z.map (·.1)).Nodup → (x, c) ∈ Z → x ∉ seen → cntE (seen ++ [x]) Z = cntE seen Z + if c = true then 1 else 0
  | [], _, h, _ => by cases h
  | p :: Z, hn, h, hx => by
    rw [List.map_cons, List.nodup_cons] at hn
    rcases List.mem_cons.1 h with e | h
    · subst e
      have ih := cntE_out (seen := seen) (x := x) hn.1
      unfold cntE at ih ⊢
      rw [List.filter_cons, List.filter_cons]
      cases c with
      | true =>
        rw [if_pos (by simp), if_neg (by simp [hx]), List.length_cons, ih]; rfl
      | false =>
        simp only [Bool.and_false, Bool.false_eq_true, if_false, Nat.add_zero]
        exact ih
    · have hpx : p.1 ≠ x := fun e => hn.1 (by rw [e]; exact List.mem_map.2 ⟨_, h, rfl⟩)
      have ih := cntE_push hn.2 h hx
      unfold cntE at ih ⊢
      rw [List.filter_cons, List.filter_cons]
      have e : decide (p.1 ∈ seen ++ [x]) = decide (p.1 ∈ seen) := by
        congr 1
        simp [hpx]
      rw [e]
      split
      · rw [List.length_cons, List.length_cons, ih]; omega
      · exact ih
theorem cntE_all {seen : List Nat} : ∀ {Z : List (Nat × Bool)}, (∀ p ∈ Z, p.1 ∈ seen) → cntE seen Z = (Z.filter (·.2)).length
  | [], _ => rfl
  | p :: Z, h => by
    have ih := cntE_all (seen := seen) (Z := Z) fun q hq => h q (by simp [hq])
    unfold cntE at ih ⊢
    rw [List.filter_cons, List.filter_cons]
    have e : decide (p.1 ∈ seen) = true := by simpa using h p (by simp)
    rw [e, Bool.true_and]
    split
    · rw [List.length_cons, List.length_cons, ih]
    · exact ih
theorem cntE_le (seen : List Nat) (Z : List (Nat × Bool)) : cntE seen Z ≤ Z.length := List.length_filter_le _ _
/-- The keys of a map that have something are the keys of the lists. -/
theorem full_keys {β : Type} {A : CellsK (List β)} {W : List (K3T × List β)} (hA : SortedK A) (hne : ∀ p ∈ A, p.2 ≠ []) (hW : (W.map (·.1)).Nodup) (h : ∀ k, (getK k A).getD [] = (getK k W).getD []) :
    (W.filter fun p => !p.2.isEmpty).length = A.length := by
  have hs : ∀ {W : List (K3T × List β)}, (W.map (·.1)).Nodup → ∀ k, k ∈ (W.filter fun p => !p.2.isEmpty).map (·.1) ↔ (getK k W).getD [] ≠ [] := by
    intro W
    induction W with
    | nil => intro _ k; simp [getK]
    | cons p W ih =>
      intro hn k
      rw [List.map_cons, List.nodup_cons] at hn
      have ih := ih hn.2 k
      simp only [getK]
      by_cases e : p.1 = k
      · rw [if_pos e, Option.getD_some, List.filter_cons]
        by_cases hp : p.2 = []
        · have hnot : k ∉ (W.filter fun p => !p.2.isEmpty).map (·.1) := fun hk => by
            obtain ⟨q, hq, rfl⟩ := List.mem_map.1 hk
            exact hn.1 (by rw [e]; exact List.mem_map.2 ⟨q, (List.mem_filter.1 hq).1, rfl⟩)
          simp [hp]
          simpa using hnot
        · simp [hp, e]
      · rw [if_neg e, List.filter_cons]
        split
        · rw [List.map_cons, List.mem_cons]
          simp only [Ne.symm e, false_or]
          exact ih
        · exact ih
  have h1 : ((W.filter fun p => !p.2.isEmpty).map (·.1)).Nodup := (List.filter_sublist.map _).nodup hW
  have h2 := sortedK_nodup hA
  have h3 : ∀ k, k ∈ A.map (·.1) ↔ (getK k A).getD [] ≠ [] := fun k => by
    rw [← getK_mem]
    cases hg : getK k A with
    | none => simp
    | some l => simpa using hne _ (mem_of_getK hg)
  have h4 : ∀ k, k ∈ (W.filter fun p => !p.2.isEmpty).map (·.1) ↔ k ∈ A.map (·.1) := fun k => by rw [hs hW, h3, h]
  have a := nodupK_le h1 fun x hx => (h4 x).1 hx
  have b := nodupK_le h2 fun x hx => (h4 x).2 hx
  rw [List.length_map, List.length_map] at a b
  omega
end Go.Sf
namespace Go.Proofs.YtcpfodhhjkaibaaGreat
open Go.Sf
attribute [local simp] s_skip s_ops s_draw s_any s_contA s_tdone s_ttwo s_top_p s_top_pick s_top_e s_top_g s_seq s_cond s_block s_loop s_exit s_ret s_mark s_then_n s_then_e s_then_r s_in_n s_in_e s_in_r s_contC s_contO s_contQ s_contT s_nil s_cons_p s_cons_pick s_cons_e s_cons_g s_qnil s_qcons_p s_qcons_pick s_qcons_e s_qcons_g s_M s_Mg s_Mq s_Mqg s_G_p s_G_pick s_G_e s_Gq_p s_Gq_pick s_Gq_e s_if s_call s_callv s_qcall s_qcallv s_getAll_nil s_getAll_cons s_put_some s_put_none s_ev_t s_ev_c s_ev_f un evP evK argT resAV lenOf_nils lenOf_imm lenOf_sl lenOf_str optI slcV binV isShift binInt binStr shiftInt pickV unV s_append s_alloc s_box s_bslice s_Bs_t s_Bs_f s_store1 s_storeN s_St1 s_St s_s2b s_markb s_Mk s_mkslice s_qbslice s_qs2b s_ret_n s_ret_r s_retc_n s_retc_r s_RV_nil s_RV_t s_RV_c s_RV1 tupOf fillC kn_int cl_int on_int kn_bool cl_bool on_bool kn_str cl_str on_str kn_nilp cl_nilp on_nilp kn_ptr cl_ptr on_ptr kn_iptr cl_iptr on_iptr kn_nils cl_nils on_nils kn_sl cl_sl on_sl kn_imm cl_imm on_imm kn_mp cl_mp on_mp kn_nilm cl_nilm on_nilm kn_fn cl_fn on_fn kn_nilf cl_nilf on_nilf kn_agg cl_agg scalEq flatEq eqV s_copy_i s_copy_s s_Cp s_clr s_clrn s_Cl s_appz s_Az s_ext s_Ov s_mapB s_mapBS s_rng s_rngn s_Rn s_nxt s_Nx0 s_ent s_mkmap s_mset s_mdel mapOf s_Mg_n s_Mqg_n s_gw_b s_gw_u s_gw_gb s_gw_f
attribute [local simp] s_drawF s_contTA
/-- What the law keeps: lists, and a map that holds the same. -/
structure LA (H : Heap) (p pm : Nat) (A : CellsK (List Int)) (W : List (K3T × List Int)) (F : Nat → Prop) : Prop where
  l : LstQ H p A F
  m : H pm = some (.map (entsA immI W))
  out : ¬ F pm
  nd : (W.map (·.1)).Nodup
  eq : ∀ k, listK k A = (getK k W).getD []
theorem LA.keep {H H' : Heap} {p pm : Nat} {A : CellsK (List Int)} {W : List (K3T × List Int)} {F : Nat → Prop} (h : LA H p pm A W F) (k : ∀ x, H x ≠ none → H' x = H x) : LA H' p pm A W F :=
  ⟨h.l.keep fun x hx => k x (h.l.live hx), by rw [k pm (by rw [h.m]; simp)]; exact h.m, h.out, h.nd, h.eq⟩
theorem LA.ok {H : Heap} {p pm : Nat} {A : CellsK (List Int)} {W : List (K3T × List Int)} {F : Nat → Prop} (h : LA H p pm A W F) : OkL A := by
  obtain ⟨_, _, _, _, h, _⟩ := h.l; exact h
theorem LA.keep2 {H H' : Heap} {p pm : Nat} {A : CellsK (List Int)} {W : List (K3T × List Int)} {F : Nat → Prop} (h : LA H p pm A W F) (k : ∀ x, F x ∨ x = pm → H' x = H x) : LA H' p pm A W F :=
  ⟨h.l.keep fun x hx => k x (.inl hx), by rw [k pm (.inr rfl)]; exact h.m, h.out, h.nd, h.eq⟩
theorem vrels_less {M : Mem} {cs ds : List AV} {xs : List Value} (hl : cs.length = ds.length) (h : ∀ (i : Nat) (a b : AV), cs[i]? = some a → ds[i]? = some b → ∀ x, VRel M a x → VRel M b x) (hx : VRels M cs xs) : VRels M ds xs :=
  VRels.of_get (by rw [← hl, hx.length]) fun i b v hb hv => by
    have hi : i < cs.length := by rw [hl]; exact (List.getElem?_eq_some_iff.1 hb).1
    obtain ⟨v', h1, h2⟩ := hx.get (List.getElem?_eq_getElem hi)
    rw [hv] at h1; cases h1
    exact h i _ b (List.getElem?_eq_getElem hi) hb v h2
/-- A key to which nil was put tells an empty list. -/
theorem mset_nil (k : K3T) (W : List (K3T × List Int)) : (entsA immI (mput k [] W)).map (·.1) = (msetV (.agg (k3 k)) .nils (entsA immI W) (midx k W)).map (·.1) ∧
    ∀ M xs, VRels M ((msetV (.agg (k3 k)) .nils (entsA immI W) (midx k W)).map (·.2)) xs → VRels M ((entsA immI (mput k [] W)).map (·.2)) xs := by
  rw [← msetV_ents]
  cases midx k W with
  | none =>
    refine ⟨by simp [msetV], fun M xs h => vrels_less (by simp [msetV]) (fun i a b ha hb x hx => ?_) h⟩
    simp only [msetV, List.map_append, List.map_cons, List.map_nil, List.getElem?_append] at ha hb
    split at ha
    · rename_i hi
      rw [if_pos hi] at hb
      rw [ha] at hb; cases hb; exact hx
    · rename_i hi
      rw [if_neg hi] at hb
      cases hz : i - ((entsA immI W).map (·.2)).length with
      | zero => rw [hz] at ha hb; simp at ha hb; subst ha; subst hb; exact nil_imm hx
      | succ q => rw [hz] at ha; simp at ha
  | some j =>
    refine ⟨by simp [msetV, List.map_set], fun M xs h => vrels_less (by simp [msetV]) (fun i a b ha hb x hx => ?_) h⟩
    simp only [msetV, List.map_set, List.getElem?_set] at ha hb
    split at ha
    · rename_i hi
      rw [if_pos hi] at hb
      split at ha
      · rename_i hl
        rw [if_pos hl] at hb
        simp only [Option.some.injEq] at ha hb
        subst ha; subst hb; exact nil_imm hx
      · cases ha
    · rename_i hi
      rw [if_neg hi] at hb
      rw [ha] at hb; cases hb; exact hx
def I_ris2 (ks : List K3T) (c : Option Nat) (m : Nat) (T : Nat → AV) (H : Heap) : Prop := ∃ i : Nat, 1 ≤ i ∧ i + m = ks.length + 1 ∧ T 0 = .imm (ks.flatMap k3) ks.length c ∧ T 3 = .int .i64 i
theorem p_rising2 {ks : List K3T} (h : RisK ks) (hl : ks.length < 2 ^ 40) {c : Option Nat} : CP PP F_Rlaw7_rising [.imm (ks.flatMap k3) ks.length c] (fun v => v = .bool true) := by
  refine CP.by_vc ok_Rlaw7_rising (by simp) ?_
  unfold c_Rlaw7_rising
  simp
  refine LoopV.mk2 (I_ris2 ks c) ks.length ⟨1, by omega, by omega, by simp, by simp⟩ ?_
  rintro m T H ⟨i, hi1, him, t0, t3⟩
  by_cases hi : i < ks.length
  · obtain ⟨x, hx⟩ : ∃ x, ks[i - 1]? = some x := ⟨ks[i - 1]'(by omega), by rw [List.getElem?_eq_getElem (by omega)]⟩
    obtain ⟨y, hy⟩ : ∃ y, ks[i]? = some y := ⟨ks[i], by simp [hi]⟩
    obtain ⟨a1, a2⟩ := k3_at hx
    obtain ⟨b1, b2⟩ := k3_at hy
    have w1 : IntKind.i64.wrap ((i : Int) - 1) = ((i - 1 : Nat) : Int) := by rw [wrap_i64 (by omega) (by omega)]; omega
    have hi1' : i - 1 < ks.length := by omega
    have hless : lessK x y = true := by
      obtain ⟨p1, p2⟩ := List.getElem?_eq_some_iff.1 hx
      obtain ⟨q1, q2⟩ := List.getElem?_eq_some_iff.1 hy
      have := List.pairwise_iff_getElem.1 h (i - 1) i p1 q1 (by omega)
      rwa [p2, q2] at this
    generalize hXe : ks.flatMap k3 = X at *
    simp [t0, t3, hi, a1, a2, b1, b2, w1, hi1']
    refine CallQ.of (p_rLess x y) ?_
    simp [hless, t3]
    refine Again2.mk (m - 1) (by omega) ⟨i + 1, by omega, by omega, by simp [t0, hXe], ?_⟩
    simp; rw [wrap_i64 (by omega) (by omega)]
  · simp [t0, t3, hi]
theorem nodupN_le : ∀ {a b : List Nat}, a.Nodup → (∀ x ∈ a, x ∈ b) → a.length ≤ b.length
  | [], _, _, _ => Nat.zero_le _
  | x :: a, b, hn, h => by
    rw [List.nodup_cons] at hn
    have hx := h x (by simp)
    have := nodupN_le (a := a) (b := b.erase x) hn.2 fun y hy => by
      have hne : y ≠ x := fun e => hn.1 (by rw [← e]; exact hy)
      exact (List.mem_erase_of_ne hne).2 (h y (by simp [hy]))
    rw [List.length_erase_of_mem hx] at this
    have := List.length_pos_of_mem hx
    simp only [List.length_cons]; omega
def I_lb (X : List AV) (n i p pm y bi clock : Nat) (sq : List Nat) (Z : List (Nat × Bool)) (H5 : Heap) (m : Nat) (T : Nat → AV) (H : Heap) : Prop :=
  ∃ seen : Array Nat, m + seen.size = sq.length ∧ T 0 = .imm X n none ∧ T 4 = .ptr p 0 ∧ T 5 = .mp pm ∧ T 6 = .int .i64 i ∧ T 7 = .ptr y 0 ∧ T 10 = .int .i64 (cntE seen.toList Z : Nat) ∧ T 89 = .ptr bi 0 ∧ seen.toList.Nodup ∧ (∀ x ∈ seen.toList, x ∈ sq) ∧
    H = H5.set bi (some (.raw (.mapIter (some pm) clock seen clock)))
def I_lc (X : List AV) (n i p pm y : Nat) (u : AV) (A : CellsK (List Int)) (W : List (K3T × List Int)) (F : Nat → Prop) (k : K3T) (L : List Int) (m : Nat) (T : Nat → AV) (H : Heap) : Prop :=
  ∃ (j : Nat) (l : List Int), j + m = L.length ∧ T 0 = .imm X n none ∧ T 4 = .ptr p 0 ∧ T 5 = .mp pm ∧ T 6 = .int .i64 i ∧ T 7 = .ptr y 0 ∧ T 14 = u ∧ T 121 = .int .i64 L.length ∧ T 122 = .int .i64 j ∧ LA H p pm A W F ∧ H y = some (.cells (k3 k) 3) ∧ OwnR H 1 L.length u (intsV l) ∧ l.drop j = L.drop j
def I_la (os : List KopT) (p pm : Nat) (m : Nat) (T : Nat → AV) (H : Heap) : Prop :=
  ∃ (i : Nat) (A : CellsK (List Int)) (W : List (K3T × List Int)) (F : Nat → Prop), i + m = 60 ∧ T 0 = .imm (os.flatMap kopCs) os.length none ∧ T 4 = .ptr p 0 ∧ T 5 = .mp pm ∧ T 6 = .int .i64 i ∧ LA H p pm A W F ∧ A.length ≤ i ∧ W.length ≤ i
theorem p_ListAll (os : List KopT) (hos : os.length < 2 ^ 63) (ho : ∀ o ∈ os, okKop o) : CP PP F_Rlaw7_ListAll [.imm (os.flatMap kopCs) os.length none] (fun v => v = .bool true) := by
  refine CP.by_vc ok_Rlaw7_ListAll (by simp) ?_
  unfold c_Rlaw7_ListAll
  simp
  refine CallK.pure p_begun7 ?_
  rintro _ rfl
  simp
  refine CallK.of k_lNew ?_
  rintro _ H1 ⟨p, rfl, hp, rfl⟩
  simp
  intro pm hpm
  simp
  have hpp : p ≠ pm := fun e => by rw [e, Heap.set_self] at hpm; cases hpm
  have hl0 : LstQ ((Heap.nil.set p (some (.cells [.nils] 1))).set pm (some (.map []))) p [] (fun x => x = p) := ⟨.nils, by rw [Heap.set_ne _ _ hpp, Heap.set_self], ⟨rfl, .inl ⟨rfl, rfl⟩⟩, (fun e => by cases e), okL_nil, fun x => by simp [blkOf]⟩
  refine LoopV.mk2 (I_la os p pm) 60 ⟨0, [], [], _, by omega, by simp, by simp, by simp, by simp, ⟨hl0, Heap.set_self _ _ _, fun e => hpp e.symm, by simp, fun k => rfl⟩, by simp, by simp⟩ ?_
  clear hl0 hpp hpm hp
  rintro m T H ⟨i, A, W, F, him, t0, t4, t5, t6, st, hlA, hlW⟩
  by_cases hlt : i < os.length ∧ i < 60
  · obtain ⟨hi, h60⟩ := hlt
    obtain ⟨o, hoi⟩ : ∃ o, os[i]? = some o := ⟨os[i], by simp [hi]⟩
    obtain ⟨g0, g4, g5, g6⟩ := kop_get hoi
    have gk := kop_key hoi
    obtain ⟨f1, f2⟩ := kop_at hoi
    have hok := ho o (List.mem_of_getElem? hoi)
    have h60z : (i : Int) < 60 := by omega
    have hk3 : (k3 o.key).length = 3 := rfl
    have hkone : ∀ x, x ∈ k3 o.key → x.one = true := fun x hx => List.all_eq_true.1 (show (k3 o.key).all AV.one = true from rfl) x hx
    have f3 : i * 7 + 1 + 3 ≤ (os.flatMap kopCs).length := by omega
    obtain ⟨ns, hns⟩ : ∃ ns, ns = o.l.take 40 := ⟨_, rfl⟩
    have hnl : ns.length ≤ 40 := by rw [hns, List.length_take]; omega
    have hmin : (if (40 : Int) < (o.l.length : Int) then (40 : Int) else (o.l.length : Int)) = (ns.length : Int) := by rw [hns, List.length_take]; split <;> omega
    have hiv := intsV_length o.l
    have hnle : ns.length ≤ o.l.length := by rw [hns, List.length_take]; omega
    have htk : (intsV o.l).take ns.length = intsV ns := by
      rw [hns]; unfold intsV
      rw [← List.map_take, List.length_take, Nat.min_comm]
      congr 1
      rw [List.take_eq_take_iff]; omega
    generalize hXe : os.flatMap kopCs = X at *
    simp [t0, t4, t5, t6, hi, h60z, gk, f3, g6, immI, hmin, hiv, hnle, htk]
    intro y hy
    simp [Heap.set_self, Heap.set_set, hk3]
    refine ⟨hkone, ?_⟩
    have old : ∀ x, H x ≠ none → (H.set y (some (.cells (k3 o.key) 3))) x = H x := fun x hx => Heap.set_ne _ _ (fun e => hx (by rw [e]; exact hy))
    have st2 := st.keep old
    have hyy : (H.set y (some (.cells (k3 o.key) 3))) y = some (.cells (k3 o.key) 3) := Heap.set_self _ _ _
    have hFy : ¬ F y := fun e => st.l.live e hy
    have hpy : pm ≠ y := fun e => by have := st.m; rw [e, hy] at this; cases this
    generalize H.set y (some (.cells (k3 o.key) 3)) = H2 at *
    clear st old
    have hM := st2.m
    have htk3 : (k3 o.key).take 3 = k3 o.key := rfl
    have hlk := lkpF_ents immI .nils o.key W
    have hfi := findI_ents immI o.key W
    have hold := st2.eq o.key
    have holdle := listK_le (k := o.key) st2.ok
    have hni := intsV_length ns
    have hwl : IntKind.i64.wrap (((listK o.key A).length : Int) + (ns.length : Int)) = ((listK o.key A).length : Int) + (ns.length : Int) := wrap_i64 (by omega) (by omega)
    refine (have tail : ∀ (T : Nat → AV) (H : Heap) (A' : CellsK (List Int)) (W' : List (K3T × List Int)) (F' : Nat → Prop), T 0 = .imm X os.length none → T 4 = .ptr p 0 → T 5 = .mp pm → T 6 = .int .i64 i → T 7 = .ptr y 0 → LA H p pm A' W' F' → H y = some (.cells (k3 o.key) 3) → ¬ F' y → A'.length ≤ i + 1 → W'.length ≤ i + 1 → RunR ?R ⟨T, H⟩ ?Q := ?tl
      ?main)
    case main =>
      obtain ⟨old, hol⟩ : ∃ old, old = listK o.key A := ⟨_, rfl⟩
      rw [← hol] at hold holdle hwl
      have hval : AV.imm ([] ++ intsV old ++ intsV ns) (0 + old.length + ns.length) none = immI (old ++ ns) := by
        unfold immI; rw [intsV_append, List.length_append, List.nil_append, Nat.zero_add]
      have hset := msetV_ents immI o.key (old ++ ns) W
      have hni1 : (intsV ns).all AV.one = true := intsV_one ns
      have hoi1 : (intsV old).all AV.one = true := intsV_one old
      have hoil := intsV_length old
      have hcn : ∀ H', cellsOf H' 1 (AV.imm (intsV ns) ns.length none) = some (intsV ns) := fun H' => by rw [cellsOf_imm, if_pos (by rw [intsV_length]; omega)]
      have hns5 : IsIs (.imm (intsV ns) ns.length none) ns := .inr ⟨none, rfl⟩
      have hpush := k_lPush st2.l (by omega) o.key hns5 (by omega)
      have hw0 : IntKind.i64.wrap (ns.length : Int) = (ns.length : Int) := wrap_i64 (by omega) (by omega)
      by_cases hkd : o.kind.tmod 4 = 0
      case' neg =>
        by_cases hbig : 100 < old.length + ns.length
        case' pos =>
          have hP : pushL o.key ns A = (A, 4) := by unfold pushL; rw [← hol, if_pos (by rw [List.length_append]; exact hbig)]
          cases hg : getK o.key W
          case' none =>
            rw [hg] at hlk hold
            simp only [Option.map_none, Option.getD_none] at hlk hold
            have hbz : (100 : Int) < (ns.length : Int) := by rw [hold, List.length_nil] at hbig; omega
            simp [t0, t4, t5, t6, hi, g0, hkd, hyy, hk3, htk3, hM, hfi, hlk, hw0, hbz]
          case' some l0 =>
            rw [hg] at hlk hold
            simp only [Option.map_some, Option.getD_some] at hlk hold
            have hbz : (100 : Int) < (l0.length : Int) + (ns.length : Int) := by rw [hold] at hbig; omega
            rw [hold] at hwl
            simp [t0, t4, t5, t6, hi, g0, hkd, hyy, hk3, htk3, hM, hfi, hlk, immI, hwl, hbz]
          all_goals
            refine CallK.of hpush ?_
            rintro _ H3 ⟨rfl, F3, l3, u3⟩
            rw [hP] at l3
            have m3 : H3 pm = some (.map (entsA immI W)) := by rw [u3.1 pm st2.out (by rw [hM]; simp)]; exact hM
            have y3 : H3 y = some (.cells (k3 o.key) 3) := by rw [u3.1 y hFy (by rw [hyy]; simp)]; exact hyy
            simp [hP]
            have st3 : LA H3 p pm A W F3 := ⟨l3, m3, fun e => (u3.2 pm e).elim st2.out (by rw [hM]; simp), st2.nd, st2.eq⟩
            have nF : ¬ F3 y := fun e => (u3.2 y e).elim hFy (by rw [hyy]; simp)
            refine MarkV.same ?_
            refine tail _ _ A W F3 ?_ ?_ ?_ ?_ ?_ st3 y3 nF (by omega) (by omega)
            all_goals simp [t0, t4, t5, t6]
        case' neg =>
          have hPA : pushL o.key ns A = ((pushL o.key ns A).1, 0) := by
            unfold pushL; rw [← hol, if_neg (by rw [List.length_append]; exact hbig)]; split <;> rfl
          have hlP := length_push o.key ns A
          have hlW : (mput o.key (old ++ ns) W).length ≤ i + 1 := by unfold mput; split <;> simp <;> omega
          have heq : ∀ k, listK k (pushL o.key ns A).1 = (getK k (mput o.key (old ++ ns) W)).getD [] := fun k => by
            rw [getK_push st2.ok, getK_mput, ← hol]
            by_cases e : k = o.key
            · rw [if_pos ⟨e, by rw [List.length_append]; omega⟩, if_pos e]; rfl
            · rw [if_neg (fun h => e h.1), if_neg e]; exact st2.eq k
          cases hg : getK o.key W
          case' none =>
            rw [hg] at hlk hold
            simp only [Option.map_none, Option.getD_none] at hlk hold
            have hbz : ¬ (100 : Int) < (ns.length : Int) := by rw [hold, List.length_nil] at hbig; omega
            have hcl : ∀ H', cellsOf H' 1 AV.nils = some (intsV old) := fun H' => by rw [hold]; rfl
            have hln : lenOf AV.nils = some old.length := by rw [hold]; rfl
            simp [t0, t4, t5, t6, hi, g0, hkd, hyy, hk3, htk3, hM, hfi, hlk, hw0, hbz]
          case' some l0 =>
            rw [hg] at hlk hold
            simp only [Option.map_some, Option.getD_some] at hlk hold
            have hbz : ¬ (100 : Int) < (l0.length : Int) + (ns.length : Int) := by rw [hold] at hbig; omega
            rw [hold] at hwl
            have hcl : ∀ H', cellsOf H' 1 (AV.imm (intsV l0) l0.length none) = some (intsV old) := fun H' => by rw [hold, cellsOf_imm, if_pos (by rw [intsV_length]; omega)]
            have hln : lenOf (AV.imm (intsV l0) l0.length none) = some old.length := by rw [hold]; rfl
            simp [t0, t4, t5, t6, hi, g0, hkd, hyy, hk3, htk3, hM, hfi, hlk, immI, hwl, hbz]
          all_goals
            repeat' (with_reducible refine And.intro ?_ ?_)
          all_goals
            refine vcAp_row (bytes := 8) (sz := 1) (n := 0) (m := old.length) (new := intsV old) (cs := []) (.inl ⟨rfl, .inl ⟨rfl, rfl⟩⟩) (hcl _) hln (by rw [hoil]; omega) (by omega) hoi1 (by omega) (.inr ⟨rfl, .inl ⟨rfl, rfl⟩⟩) ?_
            intro u3 H3 q1 q2 q3
            have m3 : H3 pm = some (.map (entsA immI W)) := by rw [q2 pm (by simp [blkOf]) (by rw [hM]; simp)]; exact hM
            have y3 : H3 y = some (.cells (k3 o.key) 3) := by rw [q2 y (by simp [blkOf]) (by rw [hyy]; simp)]; exact hyy
            have n3 : ∀ b, blkOf u3 = some b → H2 b = none := fun b hb => (q3 b hb).elim id (fun e => by cases e)
            have hun3 := q1.un
            simp [t0, t4, t5, t6, y3, hk3, htk3, hun3]
            repeat' (with_reducible refine And.intro ?_ ?_)
          all_goals
            refine vcAp_hold (bytes := 8) (sz := 1) (new := intsV ns) (m := ns.length) (.inl q1) (hcn _) rfl hni1 (by omega) ?_
            intro H4 q4
            rw [hval]
            have m4 : H4 pm = some (.map (entsA immI W)) := by rw [q4 pm (fun e => by have := n3 pm e; rw [hM] at this; cases this) (by rw [m3]; simp)]; exact m3
            have y4 : H4 y = some (.cells (k3 o.key) 3) := by rw [q4 y (fun e => by have := n3 y e; rw [hyy] at this; cases this) (by rw [y3]; simp)]; exact y3
            have l4 : LstQ H4 p A F := st2.l.keep fun x hx => by
              have hx2 := st2.l.live hx
              have e3 : H3 x = H2 x := q2 x (by simp [blkOf]) hx2
              rw [q4 x (fun e => hx2 (n3 x e)) (by rw [e3]; exact hx2), e3]
            have hun4 : un (immI (old ++ ns)) = (True, immI (old ++ ns)) := rfl
            simp [t0, t4, t5, t6, y4, hk3, htk3, m4, s_Mset hfi, hset, hun4]
            have l5 : LstQ (H4.set pm (some (.map (entsA immI (mput o.key (old ++ ns) W))))) p A F := l4.keep fun x hx => Heap.set_ne _ _ (fun e => st2.out (by rw [← e]; exact hx))
            have m5 : (H4.set pm (some (.map (entsA immI (mput o.key (old ++ ns) W))))) pm = some (.map (entsA immI (mput o.key (old ++ ns) W))) := Heap.set_self _ _ _
            have y5 : (H4.set pm (some (.map (entsA immI (mput o.key (old ++ ns) W))))) y = some (.cells (k3 o.key) 3) := by rw [Heap.set_ne _ _ (Ne.symm hpy)]; exact y4
            generalize H4.set pm (some (.map (entsA immI (mput o.key (old ++ ns) W)))) = H5 at *
            simp [y5, t4, hk3, htk3]
            refine CallK.of (k_lPush l5 (by omega) o.key hns5 (by omega)) ?_
            rintro _ H6 ⟨rfl, F6, l6, u6⟩
            have hP2 : (pushL o.key ns A).2 = 0 := by rw [hPA]
            have st6 : LA H6 p pm (pushL o.key ns A).1 (mput o.key (old ++ ns) W) F6 := ⟨l6, by rw [u6.1 pm st2.out (by rw [m5]; simp)]; exact m5, fun e => (u6.2 pm e).elim st2.out (by rw [m5]; simp), nodup_mput st2.nd, heq⟩
            have y6 : H6 y = some (.cells (k3 o.key) 3) := by rw [u6.1 y hFy (by rw [y5]; simp)]; exact y5
            have nF : ¬ F6 y := fun e => (u6.2 y e).elim hFy (by rw [y5]; simp)
            simp [hP2]
            refine MarkV.same ?_
            refine tail _ _ _ _ F6 ?_ ?_ ?_ ?_ ?_ st6 y6 nF (by omega) hlW
            all_goals simp [t0, t4, t5, t6]
      case' pos =>
        have hlC : (clearL o.key A).1.length ≤ A.length := length_cut _ _
        have hlW : (mput o.key [] W).length ≤ i + 1 := by unfold mput; split <;> simp <;> omega
        have heq : ∀ k, listK k (clearL o.key A).1 = (getK k (mput o.key [] W)).getD [] := fun k => by
          rw [listK_clear st2.ok, getK_mput]
          by_cases e : k = o.key
          · rw [if_pos e, if_pos e]; rfl
          · rw [if_neg e, if_neg e]; exact st2.eq k
        obtain ⟨mn1, mn2⟩ := mset_nil o.key W
        have hclr := k_lClear st2.l (by omega) o.key
        rw [← hol] at hclr
        cases hg : getK o.key W
        case' none =>
          rw [hg] at hlk hold
          simp only [Option.map_none, Option.getD_none] at hlk hold
          rw [hold] at hclr
          have hle : lenOf AV.nils = some 0 := rfl
          simp [t0, t4, t5, t6, hi, g0, hkd, hyy, hk3, htk3, hM, hfi, hlk]
        case' some l0 =>
          rw [hg] at hlk hold
          simp only [Option.map_some, Option.getD_some] at hlk hold
          rw [hold] at hclr
          have hle : immI l0 = .imm (intsV l0) l0.length none := rfl
          simp [t0, t4, t5, t6, hi, g0, hkd, hyy, hk3, htk3, hM, hfi, hlk, immI]
        all_goals
          repeat' (with_reducible refine And.intro ?_ ?_)
        all_goals
          refine CallK.of hclr ?_
          rintro _ H3 ⟨rfl, F3, l3, u3⟩
          have m3 : H3 pm = some (.map (entsA immI W)) := by rw [u3.1 pm st2.out (by rw [hM]; simp)]; exact hM
          have y3 : H3 y = some (.cells (k3 o.key) 3) := by rw [u3.1 y hFy (by rw [hyy]; simp)]; exact hyy
          simp [t0, t4, t5, t6, y3, hk3, htk3, m3, hfi, hlk, hle, s_Mset hfi]
          refine MarkV.mapV (b := pm) (Heap.set_self _ _ _) rfl mn1 mn2 ?_
          rw [Heap.set_set]
          have nF : ¬ F3 y := fun e => (u3.2 y e).elim hFy (by rw [hyy]; simp)
          have nP : ¬ F3 pm := fun e => (u3.2 pm e).elim st2.out (by rw [hM]; simp)
          have st6 : LA (H3.set pm (some (.map (entsA immI (mput o.key [] W))))) p pm (clearL o.key A).1 (mput o.key [] W) F3 := ⟨l3.keep fun x hx => Heap.set_ne _ _ (fun e => nP (by rw [← e]; exact hx)), Heap.set_self _ _ _, nP, nodup_mput st2.nd, heq⟩
          have y6 : (H3.set pm (some (.map (entsA immI (mput o.key [] W))))) y = some (.cells (k3 o.key) 3) := by rw [Heap.set_ne _ _ (Ne.symm hpy)]; exact y3
          refine tail _ _ _ _ F3 ?_ ?_ ?_ ?_ ?_ st6 y6 nF (by omega) hlW
          all_goals simp [t0, t4, t5, t6]
    case tl =>
      clear hns hmin htk hold holdle hlk hfi hM hFy hyy hpy hwl st2
      intro T H A W F t0 t4 t5 t6 t7 st hyy hFy hlA hlW
      unfold RunR
      simp [t5, st.m]
      intro bi sq clock hbi hsl hsd hsc
      rw [entsA_length] at hsl
      have hbm : bi ≠ pm := fun e => by rw [e, st.m] at hbi; cases hbi
      have l5 : LstQ (H.set pm (some (.mapS (entsA immI W) sq clock))) p A F := st.l.keep fun x hx => Heap.set_ne _ _ (fun e => st.out (by rw [← e]; exact hx))
      have hpy : y ≠ pm := fun e => by have := st.m; rw [← e, hyy] at this; cases this
      have y5 : (H.set pm (some (.mapS (entsA immI W) sq clock))) y = some (.cells (k3 o.key) 3) := by rw [Heap.set_ne _ _ hpy]; exact hyy
      have m5 : (H.set pm (some (.mapS (entsA immI W) sq clock))) pm = some (.mapS (entsA immI W) sq clock) := Heap.set_self _ _ _
      have b5 : (H.set pm (some (.mapS (entsA immI W) sq clock))) bi = none := by rw [Heap.set_ne _ _ hbm]; exact hbi
      generalize H.set pm (some (.mapS (entsA immI W) sq clock)) = H5 at *
      have hout := st.out
      have hnd := st.nd
      have heq := st.eq
      have hokA := st.ok
      clear st hyy hbi
      obtain ⟨Z, hZ⟩ : ∃ Z, Z = sq.zip (W.map fun p => !p.2.isEmpty) := ⟨_, rfl⟩
      have hZ1 : Z.map (·.1) = sq := by rw [hZ, List.map_fst_zip (by simp [hsl])]
      have hZl : Z.length = sq.length := by rw [← hZ1, List.length_map]
      have hZ2 : (Z.filter (·.2)).length = A.length := by
        rw [← full_keys hokA.1 (fun p hp => (hokA.2 p hp).1) hnd heq, hZ]
        have e : (sq.zip (W.map fun p => !p.2.isEmpty)).map (·.2) = W.map fun p => !p.2.isEmpty := List.map_snd_zip (by simp [hsl])
        have e2 := congrArg (fun l : List Bool => (l.filter id).length) e
        simpa [List.filter_map, Function.comp_def] using e2
      refine LoopV.mk2 (I_lb X os.length i p pm y bi clock sq Z H5) sq.length ⟨#[], by simp, by simp [t0], by simp [t4], by simp [t5], by simp [t6], by simp [t7], by simp [cntE_none], by simp, by simp, by simp, rfl⟩ ?_
      clear t0 t4 t5 t6 t7 T
      rintro k T H ⟨seen, hks, t0, t4, t5, t6, t7, t10, t89, hsn, hsq, rfl⟩
      have hcl := cntE_le seen.toList Z
      have m7 : (H5.set bi (some (.raw (.mapIter (some pm) clock seen clock)))) pm = some (.mapS (entsA immI W) sq clock) := by rw [Heap.set_ne _ _ (Ne.symm hbm)]; exact m5
      simp [t89]
      refine Nx.mk (Heap.set_self _ _ _) m7 (fun hall => ?_) (fun j e x he hx hxs => ?_)
      · have hcA : cntE seen.toList Z = A.length := by rw [cntE_all (fun p hp => hall p.1 (by rw [← hZ1]; exact List.mem_map_of_mem hp)), hZ2]
        rw [hcA] at t10
        have put8 : ∀ x, H5 x ≠ none → (H5.set bi (some (.raw (.mapIter (some pm) clock seen clock)))) x = H5 x := fun x hx => Heap.set_ne _ _ (fun e => hx (by rw [e]; exact b5))
        have l8 := l5.keep fun x hx => put8 x (l5.live hx)
        have y8 : (H5.set bi (some (.raw (.mapIter (some pm) clock seen clock)))) y = some (.cells (k3 o.key) 3) := by rw [put8 y (by rw [y5]; simp)]; exact y5
        generalize H5.set bi (some (.raw (.mapIter (some pm) clock seen clock))) = H8 at *
        simp
        refine MarkV.mapV (b := pm) m7 rfl rfl (fun _ _ h => h) ?_
        have st9 : LA (H8.set pm (some (.map (entsA immI W)))) p pm A W F := ⟨l8.keep fun x hx => Heap.set_ne _ _ (fun e => hout (by rw [← e]; exact hx)), Heap.set_self _ _ _, hout, hnd, heq⟩
        have y9 : (H8.set pm (some (.map (entsA immI W)))) y = some (.cells (k3 o.key) 3) := by rw [Heap.set_ne _ _ hpy]; exact y8
        generalize H8.set pm (some (.map (entsA immI W))) = H9 at *
        clear l5 y5 m5 b5 l8 y8 m7 put8 hall hsn hsq hks hcl hZ hZ1 hZl hZ2 hcA
        unfold RunR
        simp [t4]
        refine CallK.of (k_keysL st9.l (by omega)) ?_
        rintro _ _ ⟨rfl, rfl⟩
        have hris : RisK (A.map (·.1)) := sortedK_keys.1 hokA.1
        have hKl : (A.map (·.1)).length = A.length := List.length_map _
        obtain ⟨KS, hKS⟩ : ∃ KS, KS = A.map (·.1) := ⟨_, rfl⟩
        rw [← hKS] at hris hKl ⊢
        have hun : un (keysI KS) = (True, keysI KS) := rfl
        have hlen : lenOf (keysI KS) = some KS.length := rfl
        rw [← hKl] at t10
        simp [keysI, t10]
        refine CallK.pure (p_rising2 hris (by omega)) ?_
        rintro _ rfl
        simp [t4, t7, y9, hk3, htk3]
        refine CallK.of (k_lListM st9.l (by omega) o.key) ?_
        intro u HA ⟨q1, q2, q3⟩
        have st10 := st9.keep q2
        have y10 : HA y = some (.cells (k3 o.key) 3) := by rw [q2 y (by rw [y9]; simp)]; exact y9
        have u10 : ∀ x, blkOf u = some x → ¬ F x ∧ x ≠ pm ∧ x ≠ y := fun x hx => by
          have hn := q3 x hx
          exact ⟨fun e => st9.l.live e hn, (fun (e : x = pm) => by rw [e, st9.m] at hn; cases hn), (fun (e : x = y) => by rw [e, y9] at hn; cases hn)⟩
        have hunu := q1.un
        have hlu := q1.lenOf
        have hLle := listK_le (k := o.key) hokA
        have hlk := lkpF_ents immI .nils o.key W
        have hfi := findI_ents immI o.key W
        have hL := heq o.key
        have m10 := st10.m
        obtain ⟨L, hLe⟩ : ∃ L, L = listK o.key A := ⟨_, rfl⟩
        rw [← hLe] at q1 hlu hLle hL
        clear hLe q2 q3 st9 y9 hris hKl hKS hun hlen
        refine (have tail2 : ∀ (T : Nat → AV) (H : Heap), I_lc X os.length i p pm y u A W F o.key L L.length T H → LoopV ?R2 ⟨T, H⟩ ?Q2 := ?tl2
          ?main2)
        case main2 =>
          obtain ⟨hul, hue⟩ := id q1
          rcases hue with ⟨rfl, hz⟩ | ⟨b, c, rfl, hb, hcc⟩
          case' inl =>
            have hLz : L = [] := List.length_eq_zero_iff.1 hz
            cases hg : getK o.key W
            case' none =>
              rw [hg] at hlk hL
              simp only [Option.map_none, Option.getD_none] at hlk hL
              simp [t5, t7, y10, hk3, htk3, m10, hfi, hlk]
            case' some l0 =>
              rw [hg] at hlk hL
              simp only [Option.map_some, Option.getD_some] at hlk hL
              rw [hLz] at hL
              rw [← hL] at hlk
              simp [t5, t7, y10, hk3, htk3, m10, hfi, hlk, immI]
          case' inr =>
            have hLz : True := trivial
            cases hg : getK o.key W
            case' none =>
              rw [hg] at hlk hL
              simp only [Option.map_none, Option.getD_none] at hlk hL
              simp [t5, t7, y10, hk3, htk3, m10, hfi, hlk, hL]
            case' some l0 =>
              rw [hg] at hlk hL
              simp only [Option.map_some, Option.getD_some] at hlk hL
              rw [← hL] at hlk
              simp [t5, t7, y10, hk3, htk3, m10, hfi, hlk, immI]
          all_goals
            refine tail2 _ _ ⟨0, L, by omega, ?_, ?_, ?_, ?_, ?_, ?_, ?_, ?_, st10, y10, q1, rfl⟩
            all_goals first
              | (simp [t0, t4, t5, t6, t7, hLz]; done)
              | (simp [t0, t4, t5, t6, t7, hL]; done)
        case tl2 =>
          clear q1 hlu hunu y10 m10 st10 t10
          intro T H hI
          refine LoopV.mk2 (I_lc X os.length i p pm y u A W F o.key L) L.length hI ?_
          clear hI t0 t4 t5 t6 t7 t89
          rintro k T H ⟨j, l, hjk, t0, t4, t5, t6, t7, t14, t121, t122, st, hy, hO, hdr⟩
          by_cases hj : j < L.length
          · obtain ⟨x, hx⟩ : ∃ x, L[j]? = some x := ⟨L[j], by simp [hj]⟩
            have hxl : l[j]? = some x := by
              have := congrArg (fun q : List Int => q[0]?) hdr
              simp only [List.getElem?_drop, Nat.add_zero] at this
              rw [this]; exact hx
            obtain ⟨b, c, rfl, hb, hcc⟩ := hO.slOf (by omega)
            obtain ⟨nb1, nb2, nb3⟩ := u10 b rfl
            have hll : l.length = L.length := by have := hO.1; rw [intsV_length] at this; omega
            have hvl : (intsV l)[j]? = some (.int .i64 x) := by unfold intsV; rw [List.getElem?_map, hxl]; rfl
            have hvL : (intsV L)[j]? = some (.int .i64 x) := by unfold intsV; rw [List.getElem?_map, hx]; rfl
            have hll2 := intsV_length l
            have hLl2 := intsV_length L
            have hset : (intsV l).set j (.int .i64 (IntKind.i64.wrap (x + 1))) = intsV (l.set j (IntKind.i64.wrap (x + 1))) := by unfold intsV; rw [List.map_set]
            have wj : IntKind.i64.wrap ((j : Int) + 1) = ((j + 1 : Nat) : Int) := wrap_i64 (by omega) (by omega)
            have hdr2 : ∀ v, (l.set j v).drop (j + 1) = L.drop (j + 1) := fun v => by
              rw [List.drop_set_of_lt (by omega), ← List.drop_drop, hdr, List.drop_drop]
            have hM := st.m
            cases hg : getK o.key W with
            | none => rw [hg] at hL; simp only [Option.getD_none] at hL; rw [hL] at hj; simp at hj
            | some l0 =>
              rw [hg] at hlk hL
              simp only [Option.map_some, Option.getD_some] at hlk hL
              rw [← hL] at hlk
              generalize hXl : intsV l = Xl at *
              generalize hXL : intsV L = XL at *
              have gl : ∀ h : j < Xl.length, Xl[j]'h = .int .i64 x := fun h => (List.getElem?_eq_some_iff.1 hvl).2
              have gL : ∀ h : j < XL.length, XL[j]'h = .int .i64 x := fun h => (List.getElem?_eq_some_iff.1 hvL).2
              simp [t5, t7, t14, t121, t122, hj, hb, hy, hk3, htk3, hM, hfi, hlk, immI, hXL, hll2, hLl2, hll, gl, gL]
              rw [hset]
              have hl' : (intsV (l.set j (IntKind.i64.wrap (x + 1)))).length = L.length * 1 := by rw [intsV_length, List.length_set]; omega
              refine Again2.mk (k - 1) (by omega) ⟨j + 1, l.set j (IntKind.i64.wrap (x + 1)), by omega, by simp [t0], by simp [t4], by simp [t5], by simp [t6], by simp [t7], by simp [t14], by simp [t121], by simp [wj], ?_, ?_, ⟨hl', .inr ⟨b, c, rfl, by rw [Heap.set_self, Nat.mul_one], hcc⟩⟩, hdr2 _⟩
              · exact st.keep2 fun x hx => Heap.set_ne _ _ fun e => by
                  rcases hx with hx | hx
                  · exact nb1 (by rw [← e]; exact hx)
                  · exact nb2 (by rw [← e]; exact hx)
              · rw [Heap.set_ne _ _ (Ne.symm nb3)]; exact hy
          · have hje : j = L.length := by omega
            have wi : IntKind.i64.wrap ((i : Int) + 1) = ((i + 1 : Nat) : Int) := wrap_i64 (by omega) (by omega)
            simp [t121, t122, hje, t6]
            exact Again2.mk (m - 1) (by omega) ⟨i + 1, A, W, F, by omega, by simp [t0, hXe], by simp [t4], by simp [t5], by simp [wi], st, hlA, hlW⟩
      · obtain ⟨kl, hkl, rfl⟩ : ∃ kl, W[j]? = some kl ∧ e = (keyA kl.1, immI kl.2) := by
          unfold entsA at he
          rw [List.getElem?_map] at he
          cases hw : W[j]? with
          | none => rw [hw] at he; cases he
          | some kl => rw [hw] at he; cases he; exact ⟨kl, rfl, rfl⟩
        have hsn' : (seen.push x).toList.Nodup := by
          rw [Array.toList_push, List.nodup_append]
          exact ⟨hsn, by simp, fun a ha b hb e => by simp at hb; subst hb; subst e; exact hxs ha⟩
        have hsq' : ∀ y ∈ (seen.push x).toList, y ∈ sq := fun y hy => by
          rw [Array.toList_push, List.mem_append] at hy
          rcases hy with hy | hy
          · exact hsq y hy
          · simp at hy; subst hy; exact List.mem_of_getElem? hx
        have hcnt := nodupN_le hsn' hsq'
        have hzm : (x, !kl.2.isEmpty) ∈ Z := by
          rw [hZ]
          refine List.mem_of_getElem? (i := j) ?_
          rw [List.getElem?_zip_eq_some]
          exact ⟨hx, by rw [List.getElem?_map, hkl]; rfl⟩
        have hpush := cntE_push (seen := seen.toList) (by rw [hZ1]; exact hsd) hzm hxs
        have m8 : (H5.set bi (some (.raw (.mapIter (some pm) clock (seen.push x) clock)))) pm = some (.mapS (entsA immI W) sq clock) := by rw [Heap.set_ne _ _ (Ne.symm hbm)]; exact m5
        simp [Heap.set_set, t89]
        refine En.mk (Heap.set_self _ _ _) m8 hx he ?_
        have wc : IntKind.i64.wrap ((cntE seen.toList Z : Int) + 1) = ((cntE seen.toList Z + 1 : Nat) : Int) := wrap_i64 (by omega) (by omega)
        obtain ⟨kk, ll⟩ := kl
        cases ll with
        | nil =>
          simp [immI, t10]
          exact Again2.mk (k - 1) (by simp at hcnt; omega) ⟨seen.push x, by simp at hcnt ⊢; omega, by simp [t0], by simp [t4], by simp [t5], by simp [t6], by simp [t7], by rw [Array.toList_push, hpush]; simp [t10], by simp [t89], hsn', hsq', rfl⟩
        | cons z zs =>
          simp [immI, t10]
          exact Again2.mk (k - 1) (by simp at hcnt; omega) ⟨seen.push x, by simp at hcnt ⊢; omega, by simp [t0], by simp [t4], by simp [t5], by simp [t6], by simp [t7], by rw [Array.toList_push, hpush]; simp [wc], by simp [t89], hsn', hsq', rfl⟩
  · by_cases hi : i < os.length
    · have h60z : ¬ (i : Int) < 60 := by omega
      simp [t0, t6, hi, h60z]
    · simp [t0, t6, hi]
end Go.Proofs.YtcpfodhhjkaibaaGreat
