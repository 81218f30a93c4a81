/- The keys of a state in order: the library's sort at them: a contract. -/
import Derived.Test.YtdpbbnnlbjgjgaaGreatN5
import Derived.Test.YtdpbbnnlbjgjgaaGreatGQ
import Derived.Test.YtdpbbnnlbjgjgaaGreatGV
import Derived.Test.YtdpbbnnlbjgjgaaGreatCB
import Derived.Test.YtdpbbnnlbjgjgaaGreatSG
import Derived.WalkKit
import Derived.StillTailTactics
set_option linter.unusedVariables false
set_option linter.unusedSimpArgs false
namespace Go.Proofs
open Go.Shelf Go.RowKit Go.Lib Go.Sort
set_option maxHeartbeats 1000000 in
theorem or3 (b : Nat) (x y z : Int) (W : World) (hx : W.cell? ⟨b, 0, none⟩ = some (.int .i64 x)) (hy : W.cell? ⟨b, 1, none⟩ = some (.int .i64 y)) (hz : W.cell? ⟨b, 2, none⟩ = some (.int .i64 z)) :
    Calls Tryz.prog 82 #[.slice (some ⟨b, 0, none⟩) 3 3] W fun e w' => e = .returned (.int .i64 (if x ≠ 0 then x else if y ≠ 0 then y else z)) ∧ w' = W := by
  go_enter Tryz.func82, Tryz.ntmps82
  go_wp2
  refine wp_loop_rounds 4 ?_
  rw [rounds_succ]
  go_wp2
  all_goals try (go_ret; exact ⟨by simp_all, rfl⟩)
  rw [rounds_succ]
  go_wp2
  all_goals try (go_ret; exact ⟨by simp_all, rfl⟩)
  rw [rounds_succ]
  go_wp2
  all_goals try (go_ret; exact ⟨by simp_all, rfl⟩)
  rw [rounds_succ]
  go_wp2
  all_goals (go_ret; exact ⟨by simp_all, rfl⟩)
theorem one_laid (V : World) (o : Obj) : (V.alloc o).heap[V.heap.size]? = some o := by
  show (V.heap.push o)[V.heap.size]? = some o
  exact Array.getElem?_push_size
theorem two_laid (V : World) (o1 o2 : Obj) : ((V.alloc o1).alloc o2).heap[V.heap.size]? = some o1 ∧ ((V.alloc o1).alloc o2).heap[V.heap.size + 1]? = some o2 := by
  show (((V.heap.push o1).push o2)[V.heap.size]?) = some o1 ∧ (((V.heap.push o1).push o2)[V.heap.size + 1]?) = some o2
  constructor
  · rw [Array.getElem?_push_lt (by simp)]; simp
  · have : V.heap.size + 1 = (V.heap.push o1).size := by simp
    rw [this, Array.getElem?_push_size]
set_option maxRecDepth 100000 in
set_option maxHeartbeats 1000000 in
theorem order_calls (x1 x2 x3 y1 y2 y3 r : Int) (hr : r = if Lib.compareInt x1 y1 ≠ 0 then Lib.compareInt x1 y1 else if Lib.compareInt x2 y2 ≠ 0 then Lib.compareInt x2 y2 else Lib.compareInt x3 y3) (W : World) :
    Calls Tryz.prog 49 #[.agg #[.int .i64 x1, .int .i64 x2, .int .i64 x3], .agg #[.int .i64 y1, .int .i64 y2, .int .i64 y3]] W fun e w' => e = .returned (.int .i64 r) ∧ ∃ q os', w' = grow (W.drewN q) os' := by
  have hor : ∀ (V : World) (b : Nat), V.cell? ⟨b, 0, none⟩ = some (.int .i64 (Lib.compareInt x1 y1)) → V.cell? ⟨b, 1, none⟩ = some (.int .i64 (Lib.compareInt x2 y2)) → V.cell? ⟨b, 2, none⟩ = some (.int .i64 (Lib.compareInt x3 y3)) →
      Calls Tryz.prog 82 #[.slice (some ⟨b, 0, none⟩) 3 3] V fun e w' => e = .returned (.int .i64 r) ∧ w' = V := fun V b h1 h2 h3 => by rw [hr]; exact or3 b _ _ _ V h1 h2 h3
  clear hr
  have mixed : Tryz.prog.follows .mixedOrders = true := Tryz.sortK.mixed
  have hcon := fun x y W' => AnyG.cmp_Compare_int Tryz.cmpInt x y W'
  change ∀ x y W', Calls Tryz.prog 83 _ _ _ at hcon
  generalize hc1 : Lib.compareInt x1 y1 = c1 at *
  generalize hc2 : Lib.compareInt x2 y2 = c2 at *
  generalize hc3 : Lib.compareInt x3 y3 = c3 at *
  go_enter Tryz.func49, Tryz.ntmps49
  go_wp2_with fail
  have z : W.heap.size < W.heap.size + 1 := Nat.lt_succ_self _
  generalize hW0 : (W.alloc (Obj.cells #[Value.int IntKind.i64 x1, Value.int IntKind.i64 x2, Value.int IntKind.i64 x3] 39)).alloc (Obj.cells #[Value.int IntKind.i64 y1, Value.int IntKind.i64 y2, Value.int IntKind.i64 y3] 39) = W0
  have hA0 : W0.cell? ⟨W.heap.size, 0, none⟩ = some (.int .i64 x1) := by unfold World.cell?; rw [← hW0, (two_laid W _ _).1]; rfl
  have hA1 : W0.cell? ⟨W.heap.size, 1, none⟩ = some (.int .i64 x2) := by unfold World.cell?; rw [← hW0, (two_laid W _ _).1]; rfl
  have hA2 : W0.cell? ⟨W.heap.size, 2, none⟩ = some (.int .i64 x3) := by unfold World.cell?; rw [← hW0, (two_laid W _ _).1]; rfl
  have hB0 : W0.cell? ⟨W.heap.size + 1, 0, none⟩ = some (.int .i64 y1) := by unfold World.cell?; rw [← hW0, (two_laid W _ _).2]; rfl
  have hB1 : W0.cell? ⟨W.heap.size + 1, 1, none⟩ = some (.int .i64 y2) := by unfold World.cell?; rw [← hW0, (two_laid W _ _).2]; rfl
  have hB2 : W0.cell? ⟨W.heap.size + 1, 2, none⟩ = some (.int .i64 y3) := by unfold World.cell?; rw [← hW0, (two_laid W _ _).2]; rfl
  refine wp_region_still_tail 15 mixed (by kernel_rfl) ?_
  simp only [List.take_succ_cons, List.take_zero, List.drop_succ_cons, List.drop_zero]
  obtain ⟨W1, hW1⟩ : ∃ W1, W1 = ({ W0 with drawn := W0.drawn + 1 } : World) := ⟨_, rfl⟩
  rw [← hW1]
  have gA0 : W1.cell? ⟨W.heap.size, 0, none⟩ = some (.int .i64 x1) := by rw [hW1]; exact hA0
  have gA1 : W1.cell? ⟨W.heap.size, 1, none⟩ = some (.int .i64 x2) := by rw [hW1]; exact hA1
  have gA2 : W1.cell? ⟨W.heap.size, 2, none⟩ = some (.int .i64 x3) := by rw [hW1]; exact hA2
  have gB0 : W1.cell? ⟨W.heap.size + 1, 0, none⟩ = some (.int .i64 y1) := by rw [hW1]; exact hB0
  have gB1 : W1.cell? ⟨W.heap.size + 1, 1, none⟩ = some (.int .i64 y2) := by rw [hW1]; exact hB1
  have gB2 : W1.cell? ⟨W.heap.size + 1, 2, none⟩ = some (.int .i64 y3) := by rw [hW1]; exact hB2
  have HW1 : Hid (W1 = ({ W0 with drawn := W0.drawn + 1 } : World)) := hW1
  have HW0 : Hid ((W.alloc (Obj.cells #[Value.int IntKind.i64 x1, Value.int IntKind.i64 x2, Value.int IntKind.i64 x3] 39)).alloc (Obj.cells #[Value.int IntKind.i64 y1, Value.int IntKind.i64 y2, Value.int IntKind.i64 y3] 39) = W0) := hW0
  clear hW1 hW0 hA0 hA1 hA2 hB0 hB1 hB2
  still_step; still_step; still_step; still_step
  still_call (hcon x1 y1 W1)
  still_step; still_step; still_step; still_step
  still_call (hcon x2 y2 W1)
  still_step; still_step; still_step; still_step
  still_call (hcon x3 y3 W1)
  refine wpStill_nil ?_
  generalize hc3' : compareInt x3 y3 = c3' at *
  subst hc3
  go_wp2_with (go_at_call 82; refine (hor _ _ (by unfold World.cell?; rw [one_laid]; rfl) (by unfold World.cell?; rw [one_laid]; rfl) (by unfold World.cell?; rw [one_laid]; rfl)).mono ?_; rintro e w' ⟨rfl, rfl⟩)
  go_ret
  refine ⟨by simp, 1, #[Obj.cells #[Value.int IntKind.i64 x1, Value.int IntKind.i64 x2, Value.int IntKind.i64 x3] 39, Obj.cells #[Value.int IntKind.i64 y1, Value.int IntKind.i64 y2, Value.int IntKind.i64 y3] 39, Obj.cells #[Value.int IntKind.i64 c1, Value.int IntKind.i64 c2, Value.int IntKind.i64 c3'] 3], ?_⟩
  rw [HW1.out, ← HW0.out]
  unfold grow World.drewN World.alloc
  simp
  apply Array.ext'
  simp
end Go.Proofs
set_option maxRecDepth 100000
namespace Go.Proofs.YtdpbbnnlbjgjgaaGreat
open Go.Sf Go.Shelf Go.Sort Go.Proofs
def encKV (x : K3T) : List Value := [.int .i64 x.1, .int .i64 x.2.1, .int .i64 x.2.2]
theorem compareInt_cmpI (a b : Int) : Lib.compareInt a b = cmpI a b := by
  unfold Lib.compareInt cmpI
  (repeat' split) <;> first | rfl | omega
theorem ltOf_cmpK (x y : K3T) : ltOf cmpK x y = lessK x y := by
  rw [← cmpK_lt]; rfl
theorem swoK : SWO (ltOf cmpK) where
  irrefl x := by rw [ltOf_cmpK]; simp [lessK_irr]
  trans x y z h1 h2 := by rw [ltOf_cmpK] at *; exact lessK_trans h1 h2
  ntrans x y z h1 h2 := by rw [ltOf_cmpK] at *; exact lessK_trans' h2 h1
theorem lays_cmp (blk off size : Nat) (w : World) : CmpLays PP 49 #[] encKV 3 cmpK blk off size w :=
  fun _ _ _ _ x y => order_calls x.1 x.2.1 x.2.2 y.1 y.2.1 y.2.2 (cmpK x y) (by rw [compareInt_cmpI, compareInt_cmpI, compareInt_cmpI]; rfl) _
theorem vrels_k3 (M : Mem) (x : K3T) (vs : List Value) : VRels M (k3 x) vs ↔ vs = encKV x := by
  simp only [k3, VRels, VRel, encKV]
  constructor
  · rintro ⟨_, _, rfl, rfl, _, _, rfl, rfl, _, _, rfl, rfl, rfl⟩; rfl
  · rintro rfl; exact ⟨_, _, rfl, rfl, _, _, rfl, rfl, _, _, rfl, rfl, rfl⟩
theorem k_sortKeys {H : Heap} {v : AV} {ks : List K3T} (ho : OwnR H 3 ks.length v (ks.flatMap k3)) (hn : ks.length < 2 ^ 40) :
    CC PP F_slices_SortFunc_api_Key_api_Key [v, .fn (.func 49) [] []] H fun r H' => r = .tup [] ∧ OwnR H' 3 ks.length v ((ks.mergeSort fun x y => !(lessK y x)).flatMap k3) ∧ KeepB H H' (blkOf v) := by
  obtain ⟨hcl, ⟨rfl, h0⟩ | ⟨b, c, rfl, hb, hc⟩⟩ := ho
  · obtain rfl : ks = [] := List.length_eq_zero_iff.1 h0
    intro M w vs hv hr
    obtain ⟨fv, rfl⟩ : ∃ fv, vs = [.slice none 0 0, fv] := by
      simp only [VRels] at hv
      obtain ⟨v0, r1, rfl, h1, v1, r2, rfl, h2, rfl⟩ := hv
      exact ⟨v1, by rw [vr_nils h1]⟩
    refine (show Calls PP F_slices_SortFunc_api_Key_api_Key #[.slice none 0 0, fv] w _ from AnyF.slices_SortFunc_none Tryz.sortK none 0 fv w).mono ?_
    rintro e w' ⟨rfl, rfl⟩
    refine ⟨.tup [], _, M, H, rfl, by simp only [VRel]; exact ⟨#[], rfl, .nil⟩, hr, .refl _ _ _, rfl, ⟨by simp, .inl ⟨rfl, rfl⟩⟩, fun _ _ _ => rfl⟩
  · intro M w vs hv hr
    obtain ⟨rfl⟩ : vs = [.slice (some ⟨b, 0, none⟩) ks.length c, .func (.func 49) #[] #[]] := by
      simp only [VRels, VRel] at hv
      obtain ⟨_, _, rfl, rfl, _, _, rfl, ⟨xs, ys, rfl, h1, h2⟩, rfl⟩ := hv
      have e1 : xs = #[] := by apply Array.toList_inj.1; simpa using h1
      have e2 : ys = #[] := by apply Array.toList_inj.1; simpa using h2
      rw [e1, e2]
    obtain ⟨hH, hlt, hrel⟩ := sort_rel (encV := encKV) (k := 3) (fun _ => rfl) (fun _ => rfl) vrels_k3 hr hb
    have eg : ∀ args w, (callFunc 49 args).run PP w = .ok (.enter 49 args) w := enters_of Tryz.func49 (by kernel_rfl) rfl
    have h := AnyQ.slices_SortFunc_total Tryz.sortK 3 Tryz.isAgg39 Tryz.sizeOf39 encKV (fun _ => rfl) (fun x v hv => by simp [encKV] at hv; rcases hv with rfl | rfl | rfl <;> rfl) cmpK swoK 49 #[] b 0 c ks.toArray w eg (lays_cmp b 0 _ w) hH hlt (by simp; omega)
      (fun x y h1 h2 => by
        rw [ltOf_cmpK] at h1 h2
        rcases lessK_tri x y with e | e | e
        · exact e
        · rw [h1] at e; cases e
        · rw [h2] at e; cases e)
    simp only [List.size_toArray] at h
    refine (show Calls PP F_slices_SortFunc_api_Key_api_Key #[.slice (some ⟨b, 0, none⟩) ks.length c, .func (.func 49) #[] #[]] w _ from h).mono ?_
    rintro e w' ⟨rfl, n, os, rfl⟩
    have hd : ((ks.mergeSort fun x y => !(ltOf cmpK y x)).toArray).size = ks.length := by simp
    obtain ⟨r', f'⟩ := hrel n (ks.mergeSort fun x y => !(ltOf cmpK y x)).toArray os hd
    have hms : (ks.mergeSort fun x y => !(ltOf cmpK y x)) = ks.mergeSort fun x y => !(lessK y x) := by
      congr 1; funext x y; rw [ltOf_cmpK]
    refine ⟨.tup [], _, M, _, rfl, by simp only [VRel]; exact ⟨#[], rfl, .nil⟩, r', f', rfl, ⟨?_, .inr ⟨b, c, rfl, ?_, hc⟩⟩, fun q hq _ => Heap.set_ne _ _ (fun e => hq (by rw [e]; rfl))⟩
    · rw [fm_length (k := 3) (fun _ => rfl), List.length_mergeSort]
    · rw [Heap.set_self]; simp [hms]
end Go.Proofs.YtdpbbnnlbjgjgaaGreat
