/- Maps gone through, marks at maps, keys that rise. -/
import Derived.Test.YtdpbbnnlbjgjgaaGreatSB
import Derived.Test.YtdpbbnnlbjgjgaaGreatQ6
import Derived.Test.YtdpbbnnlbjgjgaaGreatWM
set_option linter.unusedVariables false
set_option linter.unusedSimpArgs false
set_option maxRecDepth 100000
namespace Go.Sf
/-- A map's values, told with less. -/
theorem Weak.mapV {T : Nat → AV} {H : Heap} {b : Nat} {B : Blk} {es es' : List (AV × AV)} (hb : H b = some B) (hB : mapB (some B) = some es) (hk : es'.map (·.1) = es.map (·.1))
    (hv : ∀ M xs, VRels M (es.map (·.2)) xs → VRels M (es'.map (·.2)) xs) : Weak ⟨T, H⟩ ⟨T, H.set b (some (.map es'))⟩ := by
  intro n M a w h1 h2
  refine ⟨M, h1, ⟨fun x o v e => ?_, fun x k e => ?_⟩, ⟨rfl, rfl, rfl, Nat.le_refl _, MLe.refl _, fun x _ hx => ⟨rfl, ?_, fun _ => rfl⟩⟩⟩
  · obtain ⟨g1, g2⟩ := h2.mem x o v e
    have g3 : H x = none := g1
    have : x ≠ b := fun e => by rw [e, hb] at g3; cases g3
    exact ⟨by rw [show (AS.mk T (H.set b (some (.map es')))).H = H.set b (some (.map es')) from rfl, Heap.set_ne _ _ this]; exact g3, g2⟩
  · simp only [] at e
    by_cases hx : x = b
    · subst hx
      rw [Heap.set_self] at e
      cases e
      obtain ⟨o, ho, hr⟩ := h2.live _ _ hb
      refine ⟨o, ho, ?_⟩
      have hr2 := BRel.mapB hB hr
      simp only [BRel] at hr2 ⊢
      obtain ⟨xs, clock, q1, q2, q3, q4⟩ := hr2
      exact ⟨xs, clock, q1, q2, by rw [hk]; exact q3, hv _ _ q4⟩
    · rw [Heap.set_ne _ _ hx] at e
      exact h2.live x k e
  · simp only [] at hx ⊢
    have : x ≠ b := fun e => by rw [e, hb] at hx; cases hx
    rw [Heap.set_ne _ _ this]; exact hx
/-- A condition, as one thing. -/
def RunR (R : AS → (Exit → AS → Prop) → Prop) (S : AS) (Q : Exit → AS → Prop) : Prop := R S Q
theorem MarkV.same {R : AS → (Exit → AS → Prop) → Prop} {S : AS} {Q : Exit → AS → Prop} (h : RunR R S Q) : MarkV R S Q := ⟨S, Weak.refl S, h⟩
theorem MarkV.mapV {R : AS → (Exit → AS → Prop) → Prop} {Q : Exit → AS → Prop} {T : Nat → AV} {H : Heap} {b : Nat} {B : Blk} {es es' : List (AV × AV)} (hb : H b = some B) (hB : mapB (some B) = some es) (hk : es'.map (·.1) = es.map (·.1))
    (hv : ∀ M xs, VRels M (es.map (·.2)) xs → VRels M (es'.map (·.2)) xs) (h : RunR R ⟨T, H.set b (some (.map es'))⟩ Q) : MarkV R ⟨T, H⟩ Q := ⟨_, Weak.mapV hb hB hk hv, h⟩
/-! How many of a map's values were seen that count. -/
def cntE (seen : List Nat) (Z : List (Nat × Bool)) : Nat := (Z.filter fun p => decide (p.1 ∈ seen) && p.2).length
theorem cntE_none (Z : List (Nat × Bool)) : cntE [] Z = 0 := by
  unfold cntE; simp
theorem cntE_out {seen : List Nat} {x : Nat} : ∀ {Z : List (Nat × Bool)}, x ∉ Z.map (·.1) → cntE (seen ++ [x]) Z = cntE seen Z
  | [], _ => rfl
  | p :: Z, h => by
    simp only [List.map_cons, List.mem_cons, not_or] at h
    have ih := cntE_out (seen := seen) h.2
    unfold cntE at ih ⊢
    rw [List.filter_cons, List.filter_cons]
    have e : decide (p.1 ∈ seen ++ [x]) = decide (p.1 ∈ seen) := by
      congr 1
      simp [Ne.symm h.1]
    rw [e]
    split
    · rw [List.length_cons, List.length_cons, ih]
    · exact ih
theorem cntE_push {seen : List Nat} {x : Nat} {c : Bool} : ∀ {Z : List (Nat × Bool)}, (Z.map (·.1)).Nodup → (x, c) ∈ Z → x ∉ seen → cntE (seen ++ [x]) Z = cntE seen Z + if c = true then 1 else 0
  | [], _, h, _ => by cases h
  | p :: Z, hn, h, hx => by
    rw [List.map_cons, List.nodup_cons] at hn
    rcases List.mem_cons.1 h with e | h
    · subst e
      have ih := cntE_out (seen := seen) (x := x) hn.1
      unfold cntE at ih ⊢
      rw [List.filter_cons, List.filter_cons]
      cases c with
      | true =>
        rw [if_pos (by simp), if_neg (by simp [hx]), List.length_cons, ih]; rfl
      | false =>
        simp only [Bool.and_false, Bool.false_eq_true, if_false, Nat.add_zero]
        exact ih
    · have hpx : p.1 ≠ x := fun e => hn.1 (by rw [e]; exact List.mem_map.2 ⟨_, h, rfl⟩)
      have ih := cntE_push hn.2 h hx
      unfold cntE at ih ⊢
      rw [List.filter_cons, List.filter_cons]
      have e : decide (p.1 ∈ seen ++ [x]) = decide (p.1 ∈ seen) := by
        congr 1
        simp [hpx]
      rw [e]
      split
      · rw [List.length_cons, List.length_cons, ih]; omega
      · exact ih
theorem cntE_all {seen : List Nat} : ∀ {Z : List (Nat × Bool)}, (∀ p ∈ Z, p.1 ∈ seen) → cntE seen Z = (Z.filter (·.2)).length
  | [], _ => rfl
  | p :: Z, h => by
    have ih := cntE_all (seen := seen) (Z := Z) fun q hq => h q (by simp [hq])
    unfold cntE at ih ⊢
    rw [List.filter_cons, List.filter_cons]
    have e : decide (p.1 ∈ seen) = true := by simpa using h p (by simp)
    rw [e, Bool.true_and]
    split
    · rw [List.length_cons, List.length_cons, ih]
    · exact ih
theorem cntE_le (seen : List Nat) (Z : List (Nat × Bool)) : cntE seen Z ≤ Z.length := List.length_filter_le _ _
/-- The keys of a map that have something are the keys of the lists. -/
theorem full_keys {β : Type} {A : CellsK (List β)} {W : List (K3T × List β)} (hA : SortedK A) (hne : ∀ p ∈ A, p.2 ≠ []) (hW : (W.map (·.1)).Nodup) (h : ∀ k, (getK k A).getD [] = (getK k W).getD []) :
    (W.filter fun p => !p.2.isEmpty).length = A.length := by
  have hs : ∀ {W : List (K3T × List β)}, (W.map (·.1)).Nodup → ∀ k, k ∈ (W.filter fun p => !p.2.isEmpty).map (·.1) ↔ (getK k W).getD [] ≠ [] := by
    intro W
    induction W with
    | nil => intro _ k; simp [getK]
    | cons p W ih =>
      intro hn k
      rw [List.map_cons, List.nodup_cons] at hn
      have ih := ih hn.2 k
      simp only [getK]
      by_cases e : p.1 = k
      · rw [if_pos e, Option.getD_some, List.filter_cons]
        by_cases hp : p.2 = []
        · have hnot : k ∉ (W.filter fun p => !p.2.isEmpty).map (·.1) := fun hk => by
            obtain ⟨q, hq, rfl⟩ := List.mem_map.1 hk
            exact hn.1 (by rw [e]; exact List.mem_map.2 ⟨q, (List.mem_filter.1 hq).1, rfl⟩)
          simp [hp]
          simpa using hnot
        · simp [hp, e]
      · rw [if_neg e, List.filter_cons]
        split
        · rw [List.map_cons, List.mem_cons]
          simp only [Ne.symm e, false_or]
          exact ih
        · exact ih
  have h1 : ((W.filter fun p => !p.2.isEmpty).map (·.1)).Nodup := (List.filter_sublist.map _).nodup hW
  have h2 := sortedK_nodup hA
  have h3 : ∀ k, k ∈ A.map (·.1) ↔ (getK k A).getD [] ≠ [] := fun k => by
    rw [← getK_mem]
    cases hg : getK k A with
    | none => simp
    | some l => simpa using hne _ (mem_of_getK hg)
  have h4 : ∀ k, k ∈ (W.filter fun p => !p.2.isEmpty).map (·.1) ↔ k ∈ A.map (·.1) := fun k => by rw [hs hW, h3, h]
  have a := nodupK_le h1 fun x hx => (h4 x).1 hx
  have b := nodupK_le h2 fun x hx => (h4 x).2 hx
  rw [List.length_map, List.length_map] at a b
  omega
theorem vrels_less {M : Mem} {cs ds : List AV} {xs : List Value} (hl : cs.length = ds.length) (h : ∀ (i : Nat) (a b : AV), cs[i]? = some a → ds[i]? = some b → ∀ x, VRel M a x → VRel M b x) (hx : VRels M cs xs) : VRels M ds xs :=
  VRels.of_get (by rw [← hl, hx.length]) fun i b v hb hv => by
    have hi : i < cs.length := by rw [hl]; exact (List.getElem?_eq_some_iff.1 hb).1
    obtain ⟨v', h1, h2⟩ := hx.get (List.getElem?_eq_getElem hi)
    rw [hv] at h1; cases h1
    exact h i _ b (List.getElem?_eq_getElem hi) hb v h2
theorem nodupN_le : ∀ {a b : List Nat}, a.Nodup → (∀ x ∈ a, x ∈ b) → a.length ≤ b.length
  | [], _, _, _ => Nat.zero_le _
  | x :: a, b, hn, h => by
    rw [List.nodup_cons] at hn
    have hx := h x (by simp)
    have := nodupN_le (a := a) (b := b.erase x) hn.2 fun y hy => by
      have hne : y ≠ x := fun e => hn.1 (by rw [← e]; exact hy)
      exact (List.mem_erase_of_ne hne).2 (h y (by simp [hy]))
    rw [List.length_erase_of_mem hx] at this
    have := List.length_pos_of_mem hx
    simp only [List.length_cons]; omega
end Go.Sf
namespace Go.Proofs.YtdpbbnnlbjgjgaaGreat
open Go.Sf
attribute [local simp] s_skip s_ops s_draw s_any s_contA s_tdone s_ttwo s_top_p s_top_pick s_top_e s_top_g s_seq s_cond s_block s_loop s_exit s_ret s_mark s_then_n s_then_e s_then_r s_in_n s_in_e s_in_r s_contC s_contO s_contQ s_contT s_nil s_cons_p s_cons_pick s_cons_e s_cons_g s_qnil s_qcons_p s_qcons_pick s_qcons_e s_qcons_g s_M s_Mg s_Mq s_Mqg s_G_p s_G_pick s_G_e s_Gq_p s_Gq_pick s_Gq_e s_if s_call s_callv s_qcall s_qcallv s_getAll_nil s_getAll_cons s_put_some s_put_none s_ev_t s_ev_c s_ev_f un evP evK argT resAV lenOf_nils lenOf_imm lenOf_sl lenOf_str optI slcV binV isShift binInt binStr shiftInt pickV unV s_append s_alloc s_box s_bslice s_Bs_t s_Bs_f s_store1 s_storeN s_St1 s_St s_s2b s_markb s_Mk s_mkslice s_qbslice s_qs2b s_ret_n s_ret_r s_retc_n s_retc_r s_RV_nil s_RV_t s_RV_c s_RV1 tupOf fillC kn_int cl_int on_int kn_bool cl_bool on_bool kn_str cl_str on_str kn_nilp cl_nilp on_nilp kn_ptr cl_ptr on_ptr kn_iptr cl_iptr on_iptr kn_nils cl_nils on_nils kn_sl cl_sl on_sl kn_imm cl_imm on_imm kn_mp cl_mp on_mp kn_nilm cl_nilm on_nilm kn_fn cl_fn on_fn kn_nilf cl_nilf on_nilf kn_agg cl_agg scalEq flatEq eqV s_copy_i s_copy_s s_Cp s_clr s_clrn s_Cl s_appz s_Az s_ext s_Ov s_mapB s_mapBS s_rng s_rngn s_Rn s_nxt s_Nx0 s_ent s_mkmap s_mset s_mdel mapOf s_Mg_n s_Mqg_n s_gw_b s_gw_u s_gw_gb s_gw_f
def I_ris2 (ks : List K3T) (c : Option Nat) (m : Nat) (T : Nat → AV) (H : Heap) : Prop := ∃ i : Nat, 1 ≤ i ∧ i + m = ks.length + 1 ∧ T 0 = .imm (ks.flatMap k3) ks.length c ∧ T 3 = .int .i64 i
end Go.Proofs.YtdpbbnnlbjgjgaaGreat
