/- A state by 192 spots: plain facts. No function of the program is named here. A block's cells, told with less. The reference's state by spots: its functions. The reference's state: a copy, changes done. The reference's state: changes done. The reference's state: its cells. The reference's state: cells compared. Changes in lists of lists, cells: as they come in; what is cut off. Plain facts of changes done: keys that may be. No function of the program is named here. -/
import Derived.Test.YtdpbbnnlbjgjgaaGreatWP
import Derived.Test.YtdpbbnnlbjgjgaaGreatGQ
import Derived.Test.YtdpbbnnlbjgjgaaGreatWG
import Derived.Test.YtdpbbnnlbjgjgaaGreatSB
import Derived.Test.YtdpbbnnlbjgjgaaGreatCT
import Derived.Test.YtdpbbnnlbjgjgaaGreatLQ
set_option linter.unusedVariables false
set_option linter.unusedSimpArgs false
namespace Go.Sf
structure SpotT where
  has : Bool
  val : Int
  list : List Int
  dict : FieldsL
def bitsA (A : FieldsL) : List AV := (List.range 8).map fun (f : Nat) => AV.bool (getF f A).isSome
def valsA (A : FieldsL) : List AV := (List.range 8).map fun (f : Nat) => AV.int .i64 ((getF f A).getD 0)
def encSpot (s : SpotT) : List AV := [.bool s.has, .int .i64 s.val, immI s.list] ++ bitsA s.dict ++ valsA s.dict
theorem bitsA_len (A : FieldsL) : (bitsA A).length = 8 := by simp [bitsA]
theorem valsA_len (A : FieldsL) : (valsA A).length = 8 := by simp [valsA]
theorem encSpot_len (s : SpotT) : (encSpot s).length = 19 := by simp [encSpot, bitsA_len, valsA_len]
theorem row8_set {g h : Nat → AV} {f : Nat} {x : AV} (hf : f < 8) (hx : h f = x) (hg : ∀ i, i ≠ f → h i = g i) : ((List.range 8).map g).set f x = (List.range 8).map h := by
  apply List.ext_getElem?
  intro i
  rw [List.getElem?_set]
  simp only [List.length_map, List.length_range, List.getElem?_map]
  by_cases hi : i < 8
  · rw [List.getElem?_range hi]
    by_cases e : f = i
    · subst e; simp [hf, hx]
    · rw [if_neg e]; simp [hg i (Ne.symm e)]
  · have hne : f ≠ i := by omega
    rw [if_neg hne, List.getElem?_eq_none (by simp; omega)]; rfl
theorem bitsA_put {f : Nat} {v : Int} {A : FieldsL} (h : RisF A) (hf : f < 8) : (bitsA A).set f (.bool true) = bitsA (putF f v A) :=
  row8_set hf (by rw [getF_put h, if_pos rfl]; rfl) fun i hi => by rw [getF_put h, if_neg (by omega)]
theorem valsA_put {f : Nat} {v : Int} {A : FieldsL} (h : RisF A) (hf : f < 8) : (valsA A).set f (.int .i64 v) = valsA (putF f v A) :=
  row8_set hf (by rw [getF_put h, if_pos rfl]; rfl) fun i hi => by rw [getF_put h, if_neg (by omega)]
theorem bitsA_cut {f : Nat} {A : FieldsL} (h : RisF A) (hf : f < 8) : (bitsA A).set f (.bool false) = bitsA (cutF f A) :=
  row8_set hf (by rw [getF_cut h, if_pos rfl]; rfl) fun i hi => by rw [getF_cut h, if_neg (by omega)]
theorem valsA_cut {f : Nat} {A : FieldsL} (h : RisF A) (hf : f < 8) : (valsA A).set f (.int .i64 0) = valsA (cutF f A) :=
  row8_set hf (by rw [getF_cut h, if_pos rfl]; rfl) fun i hi => by rw [getF_cut h, if_neg (by omega)]
/-! Spots and keys. -/
def keyAt (j : Nat) : K3T := ((j / 48 : Nat), (j / 24 % 2 : Nat), (j % 24 : Nat))
def idxK (k : K3T) : Nat := (k.1.toNat * 2 + k.2.1.toNat) * 24 + k.2.2.toNat
theorem isK_iff {g n i : Int} : isK g n i = true ↔ (0 ≤ g ∧ g < 4) ∧ (0 ≤ n ∧ n < 2) ∧ (0 ≤ i ∧ i < 24) := by
  unfold isK; simp [and_assoc]
theorem idx_lt {k : K3T} (h : isK k.1 k.2.1 k.2.2 = true) : idxK k < 192 := by
  obtain ⟨h1, h2, h3⟩ := isK_iff.1 h
  unfold idxK; omega
theorem key_idx {k : K3T} (h : isK k.1 k.2.1 k.2.2 = true) : keyAt (idxK k) = k := by
  obtain ⟨h1, h2, h3⟩ := isK_iff.1 h
  obtain ⟨g, n, i⟩ := k
  simp only at h1 h2 h3
  unfold keyAt idxK
  simp only [Prod.mk.injEq]
  refine ⟨?_, ?_, ?_⟩ <;> omega
theorem idx_key {j : Nat} (h : j < 192) : idxK (keyAt j) = j := by
  unfold keyAt idxK
  simp only
  omega
theorem keyAt_inj {i j : Nat} (hi : i < 192) (hj : j < 192) (h : keyAt i = keyAt j) : i = j := by rw [← idx_key hi, h, idx_key hj]
theorem keyAt_may {j : Nat} (h : j < 192) : isK (keyAt j).1 (keyAt j).2.1 (keyAt j).2.2 = true := by
  rw [isK_iff]; unfold keyAt; simp only; omega
theorem keyAt_less {i j : Nat} (h : i < j) (hj : j < 192) : lessK (keyAt i) (keyAt j) = true := by
  rw [lessK_iff]; unfold keyAt; simp only; omega
def spotAt (S : StT) (k : K3T) : SpotT := ⟨(getK k S.V).isSome, (getK k S.V).getD 0, listK k S.L, dictK k S.D⟩
def spotsOf (S : StT) : List SpotT := (List.range 192).map fun j => spotAt S (keyAt j)
theorem spotsOf_len (S : StT) : (spotsOf S).length = 192 := by simp [spotsOf]
theorem spots_at {S : StT} {k : K3T} (h : isK k.1 k.2.1 k.2.2 = true) : (spotsOf S)[idxK k]? = some (spotAt S k) := by
  unfold spotsOf
  rw [List.getElem?_map, List.getElem?_range (idx_lt h), Option.map_some, key_idx h]
theorem spots_set {S S' : StT} {k : K3T} (hk : isK k.1 k.2.1 k.2.2 = true) (h : ∀ x, x ≠ k → spotAt S' x = spotAt S x) : spotsOf S' = (spotsOf S).set (idxK k) (spotAt S' k) := by
  apply List.ext_getElem?
  intro j
  rw [List.getElem?_set]
  have hl := idx_lt hk
  by_cases hj : idxK k = j
  · subst hj
    rw [if_pos rfl, if_pos (by rw [spotsOf_len]; exact hl), spots_at hk]
  · rw [if_neg hj]
    unfold spotsOf
    rw [List.getElem?_map, List.getElem?_map]
    by_cases hj2 : j < 192
    · rw [List.getElem?_range hj2]
      simp only [Option.map_some, Option.some.injEq]
      exact h _ fun e => hj (by rw [← e, idx_key hj2])
    · rw [List.getElem?_eq_none (by simp; omega)]; rfl
/-- What a change makes of its spot. -/
def spot1 (m : MutT) (s : SpotT) : SpotT :=
  if m.k = 1 then { s with has := true, val := m.v } else if m.k = 2 then { s with has := false, val := 0 }
  else if m.k = 3 then { s with list := s.list ++ [m.v] } else if m.k = 4 then { s with list := [] }
  else if m.k = 5 then { s with dict := putF m.f m.v s.dict } else if m.k = 6 then { s with dict := cutF m.f s.dict } else s
theorem spot_one {m : MutT} {S : StT} (h : OkS S) (hm : mayM m = true) (hl : lenM m S ≤ 100) : spotAt (oneS m S) m.key = spot1 m (spotAt S m.key) ∧ ∀ x, x ≠ m.key → spotAt (oneS m S) x = spotAt S x := by
  have hf : (m.k = 5 ∨ m.k = 6) → 0 ≤ m.f ∧ m.f < 8 := fun hk => by
    unfold mayM fieldsK at hm
    rcases hk with e | e <;> · simp [e] at hm; omega
  unfold spotAt oneS spot1
  by_cases h1 : m.k = 1
  · simp only [h1, if_true]
    refine ⟨?_, fun x hx => ?_⟩
    · rw [getK_upd h.v, if_pos rfl]; rfl
    · rw [getK_upd h.v, if_neg hx]
  by_cases h2 : m.k = 2
  · simp only [h2, if_true, show ¬ (2 : Int) = 1 by decide, if_false]
    refine ⟨?_, fun x hx => ?_⟩
    · rw [getK_cut h.v, if_pos rfl]; rfl
    · rw [getK_cut h.v, if_neg hx]
  by_cases h3 : m.k = 3
  · simp only [h3, if_true, show ¬ (3 : Int) = 1 by decide, show ¬ (3 : Int) = 2 by decide, if_false]
    have hll : (listK m.key S.L ++ [m.v]).length ≤ 100 := by unfold lenM at hl; rw [if_pos h3] at hl; simpa using hl
    refine ⟨?_, fun x hx => ?_⟩
    · rw [getK_push h.l, if_pos ⟨rfl, hll⟩]
    · rw [getK_push h.l, if_neg (fun e => hx e.1)]
  by_cases h4 : m.k = 4
  · simp only [h4, if_true, show ¬ (4 : Int) = 1 by decide, show ¬ (4 : Int) = 2 by decide, show ¬ (4 : Int) = 3 by decide, if_false]
    refine ⟨?_, fun x hx => ?_⟩
    · rw [listK_clear h.l, if_pos rfl]
    · rw [listK_clear h.l, if_neg hx]
  by_cases h5 : m.k = 5
  · simp only [h5, if_true, show ¬ (5 : Int) = 1 by decide, show ¬ (5 : Int) = 2 by decide, show ¬ (5 : Int) = 3 by decide, show ¬ (5 : Int) = 4 by decide, if_false]
    refine ⟨?_, fun x hx => ?_⟩
    · rw [dictK_put h.d (hf (.inl h5)), if_pos rfl]
    · rw [dictK_put h.d (hf (.inl h5)), if_neg hx]
  by_cases h6 : m.k = 6
  · simp only [h6, if_true, show ¬ (6 : Int) = 1 by decide, show ¬ (6 : Int) = 2 by decide, show ¬ (6 : Int) = 3 by decide, show ¬ (6 : Int) = 4 by decide, show ¬ (6 : Int) = 5 by decide, if_false]
    refine ⟨?_, fun x hx => ?_⟩
    · rw [dictK_cut h.d, if_pos rfl]
    · rw [dictK_cut h.d, if_neg hx]
  · simp only [h1, h2, h3, h4, h5, h6, if_false]
    exact ⟨trivial, fun _ _ => trivial⟩
theorem mayM_key {m : MutT} (h : mayM m = true) : isK m.key.1 m.key.2.1 m.key.2.2 = true := by
  unfold mayM at h
  simp only [Bool.and_eq_true] at h
  exact h.1.1.2
theorem spots_one {m : MutT} {S : StT} (h : OkS S) (hm : mayM m = true) (hl : lenM m S ≤ 100) : spotsOf (oneS m S) = (spotsOf S).set (idxK m.key) (spot1 m (spotAt S m.key)) := by
  obtain ⟨h1, h2⟩ := spot_one h hm hl
  rw [spots_set (mayM_key hm) h2, h1]
/-! Cells: those of the spots that have something, in the spots' order. -/
def fullP (s : SpotT) : Bool := s.has || (!s.list.isEmpty || !s.dict.isEmpty)
def KeysOK (S : StT) : Prop := ∀ k ∈ keysS S, isK k.1 k.2.1 k.2.2 = true
theorem full_mem {S : StT} (h : OkS S) (k : K3T) : fullP (spotAt S k) = true ↔ k ∈ keysS S := by
  rw [mem_keysS]
  unfold fullP spotAt
  simp only [Bool.or_eq_true, Bool.not_eq_true', List.isEmpty_eq_false_iff]
  rw [some_ne]
  refine or_congr Iff.rfl (or_congr ?_ ?_)
  · exact not_congr (listK_none h.l)
  · exact not_congr (dictK_none h.d)
theorem keys_spots {S : StT} (h : OkS S) (hk : KeysOK S) : keysS S = ((List.range 192).map keyAt).filter fun k => fullP (spotAt S k) := by
  refine risK_ext (risK_setOf _) ?_ fun k => ?_
  · unfold RisK
    refine List.Pairwise.filter _ ?_
    rw [List.pairwise_map]
    refine List.pairwise_iff_getElem.2 fun i j hi hj hij => ?_
    simp only [List.getElem_range]
    simp only [List.length_range] at hj
    exact keyAt_less hij hj
  · show k ∈ keysS S ↔ _
    rw [List.mem_filter, full_mem h]
    constructor
    · intro hm
      exact ⟨List.mem_map.2 ⟨idxK k, List.mem_range.2 (idx_lt (hk k hm)), key_idx (hk k hm)⟩, hm⟩
    · exact fun hm => hm.2
theorem cells_spots {S : StT} (h : OkS S) (hk : KeysOK S) : cellsS S = (((List.range 192).map keyAt).filter fun k => fullP (spotAt S k)).map (cellAt S) := by
  unfold cellsS; rw [keys_spots h hk]
theorem keysOK_nil : KeysOK StT.nil := fun k hk => by simp [keysS, StT.nil, setOf] at hk
theorem keysOK_one {m : MutT} {S : StT} (h : OkS S) (hk : KeysOK S) (hm : mayM m = true) (hl : lenM m S ≤ 100) : KeysOK (oneS m S) := fun k hkm => by
  by_cases e : k = m.key
  · rw [e]; exact mayM_key hm
  · rw [← full_mem (okS_one h), (spot_one h hm hl).2 k e, full_mem h] at hkm
    exact hk k hkm
/-- The fields of a spot, told one by one. -/
def fldL (A : FieldsL) (n : Nat) : FieldsL := (List.range n).filterMap fun (f : Nat) => (getF f A).map fun v => ((f : Int), v)
theorem fldL_succ (A : FieldsL) (n : Nat) : fldL A (n + 1) = fldL A n ++ (match getF n A with | some v => [((n : Int), v)] | none => []) := by
  unfold fldL
  rw [List.range_succ, List.filterMap_append]
  congr 1
  cases h : getF n A <;> simp [h]
theorem fldL_all {A : FieldsL} (h : RisF A) (hr : ∀ q ∈ A, 0 ≤ q.1 ∧ q.1 < 8) : fldL A 8 = A := by
  have hm : ∀ {n : Nat} {q : Int × Int}, q ∈ fldL A n → ∃ f : Nat, f < n ∧ q.1 = f ∧ getF f A = some q.2 := fun {n q} hq => by
    obtain ⟨f, hf, hq⟩ := List.mem_filterMap.1 hq
    cases hg : getF f A with
    | none => rw [hg] at hq; cases hq
    | some v => rw [hg] at hq; cases hq; exact ⟨f, by simpa using hf, rfl, hg⟩
  have hris : ∀ n, RisF (fldL A n) := by
    intro n
    induction n with
    | zero => exact .nil
    | succ n ih =>
      rw [fldL_succ]
      unfold RisF
      rw [List.pairwise_append]
      refine ⟨ih, ?_, fun a ha b hb => ?_⟩
      · cases getF n A <;> simp
      · obtain ⟨f, hf, e, _⟩ := hm ha
        cases hg : getF n A with
        | none => rw [hg] at hb; cases hb
        | some v => rw [hg] at hb; simp at hb; subst hb; simp only; omega
  refine risF_ext (hris 8) h fun x => ?_
  cases hg : getF x A with
  | none =>
    refine getF_out fun q hq e => ?_
    obtain ⟨f, hf, e2, hs⟩ := hm hq
    rw [← e2, e, hg] at hs; cases hs
  | some v =>
    obtain ⟨h0, h1⟩ := hr _ (mem_of_getF hg)
    have hx : ((x.toNat : Nat) : Int) = x := by simp only at h0; omega
    have hin : (x, v) ∈ fldL A 8 := List.mem_filterMap.2 ⟨x.toNat, by simp; simp only at h1; omega, by rw [hx, hg]; rfl⟩
    exact getF_of_mem (hris 8) hin
end Go.Sf
set_option linter.unusedVariables false
set_option linter.unusedSimpArgs false
namespace Go.Sf
theorem Weak.cellsV {T : Nat → AV} {H : Heap} {b n : Nat} {cs ds : List AV} (hb : H b = some (.cells cs n)) (hl : cs.length = ds.length)
    (hv : ∀ (i : Nat) (a c : AV), cs[i]? = some a → ds[i]? = some c → ∀ M x, VRel M a x → VRel M c x) : Weak ⟨T, H⟩ ⟨T, H.set b (some (.cells ds n))⟩ := by
  intro q M a w h1 h2
  refine ⟨M, h1, ⟨fun x o v e => ?_, fun x k e => ?_⟩, ⟨rfl, rfl, rfl, Nat.le_refl _, MLe.refl _, fun x _ hx => ⟨rfl, ?_, fun _ => rfl⟩⟩⟩
  · obtain ⟨g1, g2⟩ := h2.mem x o v e
    have g3 : H x = none := g1
    have : x ≠ b := fun e => by rw [e, hb] at g3; cases g3
    exact ⟨by rw [show (AS.mk T (H.set b (some (.cells ds n)))).H = H.set b (some (.cells ds n)) from rfl, Heap.set_ne _ _ this]; exact g3, g2⟩
  · simp only [] at e
    by_cases hx : x = b
    · subst hx
      rw [Heap.set_self] at e
      cases e
      obtain ⟨o, ho, hr⟩ := h2.live _ _ hb
      refine ⟨o, ho, ?_⟩
      simp only [BRel] at hr ⊢
      obtain ⟨c, e, fr, q1, q2, q3, q4, q5⟩ := hr
      refine ⟨c, e, fr, q1, q2, by rw [← hl]; exact q3, q4, ?_⟩
      rw [← hl]
      exact vrels_less hl (fun i a c ha hc x hx => hv i a c ha hc M x hx) q5
    · rw [Heap.set_ne _ _ hx] at e
      exact h2.live x k e
  · simp only [] at hx ⊢
    have : x ≠ b := fun e => by rw [e, hb] at hx; cases hx
    rw [Heap.set_ne _ _ this]; exact hx
theorem MarkV.cellsV {R : AS → (Exit → AS → Prop) → Prop} {Q : Exit → AS → Prop} {T : Nat → AV} {H : Heap} {b n : Nat} {cs ds : List AV} (hb : H b = some (.cells cs n)) (hl : cs.length = ds.length)
    (hv : ∀ (i : Nat) (a c : AV), cs[i]? = some a → ds[i]? = some c → ∀ M x, VRel M a x → VRel M c x) (h : RunR R ⟨T, H.set b (some (.cells ds n))⟩ Q) : MarkV R ⟨T, H⟩ Q := ⟨_, Weak.cellsV hb hl hv, h⟩
/-- A cell of the call's own, held for good from here on. -/
theorem Weak.frzP {T : Nat → AV} {H : Heap} {d b n : Nat} {cs : List AV} (hT : T d = .ptr b 0) (hb : H b = some (.cells cs n)) : Weak ⟨T, H⟩ ⟨put T (some d) (.iptr cs 0), H.set b none⟩ := by
  intro m M a w h1 h2
  obtain ⟨o, ho, hr⟩ := h2.live _ _ hb
  simp only [BRel] at hr
  obtain ⟨arr, e, fr, rfl, hs, hl, hf, hv⟩ := hr
  obtain ⟨r', f'⟩ := h2.hold hb ho
  refine ⟨_, ⟨h1.1, fun i hi => ?_⟩, r', f'⟩
  simp only [put, tset]
  by_cases hid : i = d
  · subst hid
    rw [if_pos rfl]
    have hx : VRel M (T i) (a.getD i undef) := h1.2 i hi
    rw [hT] at hx
    simp only [VRel] at hx
    rw [hx]
    simp only [VRel]
    refine ⟨b, 0, arr.toList.take cs.length, rfl, fun j u hj => ?_, VRels.mono f'.mle _ _ hv⟩
    rw [List.getElem?_take] at hj
    split at hj
    · simp only [madd, if_true, Nat.zero_add]; exact hj
    · cases hj
  · rw [if_neg hid]
    exact VRel.mono f'.mle _ _ (h1.2 i hi)
theorem MarkV.frzP {R : AS → (Exit → AS → Prop) → Prop} {Q : Exit → AS → Prop} {T : Nat → AV} {H : Heap} (d : Nat) {b n : Nat} {cs : List AV} (hT : T d = .ptr b 0) (hb : H b = some (.cells cs n))
    (h : R ⟨put T (some d) (.iptr cs 0), H.set b none⟩ Q) : MarkV R ⟨T, H⟩ Q := ⟨_, Weak.frzP hT hb, h⟩
/-- A contract's heap, told with less. -/
theorem CC.weakH {P : Program} {f : FuncId} {args : List AV} {H : Heap} {Q Q' : AV → Heap → Prop} (h : CC P f args H Q) (k : ∀ v H1, Q v H1 → ∃ H2, Weak ⟨fun _ => v, H1⟩ ⟨fun _ => v, H2⟩ ∧ Q' v H2) : CC P f args H Q' :=
  fun M w vs h1 h2 => (h M w vs h1 h2).mono fun e w' ⟨v, x, M', H', e1, e2, e3, e4, e5⟩ => by
    obtain ⟨H2, hw, hq⟩ := k v H' e5
    obtain ⟨M2, t2, r2, f2⟩ := hw 1 M' #[x] w' ⟨rfl, fun i hi => by
      have : i = 0 := by omega
      subst this; exact e2⟩ e3
    exact ⟨v, x, M2, H2, e1, t2.2 0 (by omega), r2, e4.trans f2, hq⟩
theorem zRep_length (n : Nat) (l : List AV) : (zRep n l).length = n * l.length := by
  unfold zRep
  induction n with
  | zero => simp
  | succ n ih => rw [List.replicate_succ, List.flatten_cons, List.length_append, ih, Nat.succ_mul]; omega
end Go.Sf
set_option linter.unusedVariables false
set_option linter.unusedSimpArgs false
set_option maxRecDepth 100000
set_option maxHeartbeats 8000000
namespace Go.Sf
theorem enc_in (s : SpotT) {f : Nat} (h : f < 8) : (encSpot s)[3 + f]? = some (.bool (getF f s.dict).isSome) := by
  unfold encSpot
  rw [List.append_assoc, List.getElem?_append_right (by simp), List.getElem?_append_left (by simp [bitsA_len]; omega)]
  simp [bitsA, h]
theorem enc_val (s : SpotT) {f : Nat} (h : f < 8) : (encSpot s)[11 + f]? = some (.int .i64 ((getF f s.dict).getD 0)) := by
  unfold encSpot
  rw [List.getElem?_append_right (by simp [bitsA_len])]
  simp [bitsA_len, valsA, h]
theorem encSpot_one (s : SpotT) : (encSpot s).all AV.one = true := by
  unfold encSpot bitsA valsA
  simp [List.all_append, List.all_map, AV.one, immI]
end Go.Sf
open Go.Sf
attribute [local simp] s_skip s_ops s_draw s_any s_contA s_tdone s_ttwo s_top_p s_top_pick s_top_e s_top_g s_seq s_cond s_block s_loop s_exit s_ret s_mark s_then_n s_then_e s_then_r s_in_n s_in_e s_in_r s_contC s_contO s_contQ s_contT s_nil s_cons_p s_cons_pick s_cons_e s_cons_g s_qnil s_qcons_p s_qcons_pick s_qcons_e s_qcons_g s_M s_Mg s_Mq s_Mqg s_G_p s_G_pick s_G_e s_Gq_p s_Gq_pick s_Gq_e s_if s_call s_callv s_qcall s_qcallv s_getAll_nil s_getAll_cons s_put_some s_put_none s_ev_t s_ev_c s_ev_f un evP evK argT resAV lenOf_nils lenOf_imm lenOf_sl lenOf_str optI slcV binV isShift binInt binStr shiftInt pickV unV s_append s_alloc s_box s_bslice s_Bs_t s_Bs_f s_store1 s_storeN s_St1 s_St s_s2b s_markb s_Mk s_mkslice s_qbslice s_qs2b s_ret_n s_ret_r s_retc_n s_retc_r s_RV_nil s_RV_t s_RV_c s_RV1 tupOf fillC kn_int cl_int on_int kn_bool cl_bool on_bool kn_str cl_str on_str kn_nilp cl_nilp on_nilp kn_ptr cl_ptr on_ptr kn_iptr cl_iptr on_iptr kn_nils cl_nils on_nils kn_sl cl_sl on_sl kn_imm cl_imm on_imm kn_mp cl_mp on_mp kn_nilm cl_nilm on_nilm kn_fn cl_fn on_fn kn_nilf cl_nilf on_nilf kn_agg cl_agg scalEq flatEq eqV s_copy_i s_copy_s s_Cp s_clr s_clrn s_Cl s_appz s_Az s_ext s_Ov s_mapB s_mapBS s_rng s_rngn s_Rn s_nxt s_Nx0 s_ent s_mkmap s_mset s_mdel mapOf s_Mg_n s_Mqg_n s_gw_b s_gw_u s_gw_gb s_gw_f
namespace Go.Proofs.YtdpbbnnlbjgjgaaGreat
open Go.Sf
attribute [local simp] s_drawF s_contTA
def I_fl (s : SpotT) (b : Nat) (H0 : Heap) (m : Nat) (T : Nat → AV) (H : Heap) : Prop :=
  ∃ (f : Nat) (u : AV), f + m = 8 ∧ T 1 = .ptr b 0 ∧ T 3 = u ∧ T 4 = .int .i64 f ∧ H b = some (.cells (encSpot s) 19) ∧ OwnR H 2 (fldL s.dict f).length u (fieldsA (fldL s.dict f)) ∧ blkOf u ≠ some b ∧ (∀ x, H0 x ≠ none → H x = H0 x) ∧ ∀ x, blkOf u = some x → H0 x = none
theorem k_fields0 {H0 : Heap} {s : SpotT} (hr : RisF s.dict) (hb : ∀ q ∈ s.dict, 0 ≤ q.1 ∧ q.1 < 8) :
    CC PP F_Rref10_Spot_fields [.agg (encSpot s)] H0 fun r H' => OwnR H' 2 s.dict.length r (fieldsA s.dict) ∧ (∀ x, H0 x ≠ none → H' x = H0 x) ∧ ∀ x, blkOf r = some x → H0 x = none := by
  refine CC.by_vc ok_Rref10_Spot_fields (by simp) ?_
  unfold c_Rref10_Spot_fields
  have hl := encSpot_len s
  have hone : ∀ z, z ∈ encSpot s → z.one = true := fun z hz => List.all_eq_true.1 (encSpot_one s) z hz
  have hin := fun f hf => enc_in s (f := f) hf
  have hva := fun f hf => enc_val s (f := f) hf
  simp
  intro b hbb
  simp [hl]
  refine LoopV.mk2 (I_fl s b H0) 8 ⟨0, .nils, by omega, by simp, by simp, by simp, Heap.set_self _ _ _, ⟨by simp [fldL, fieldsA], .inl ⟨rfl, by simp [fldL]⟩⟩, (fun e => by cases e), fun x hx => Heap.set_ne _ _ (fun e => hx (by rw [e]; exact hbb)), fun x e => by cases e⟩ ?_
  rintro m T H ⟨f, u, hfm, t1, t3, t4, hB, hO, hub, hold, hfr⟩
  have hun := hO.un
  by_cases hf : f < 8
  · have hi := hin f hf
    have hv := hva f hf
    have hfz : (f : Int) < 8 := by omega
    have wf : IntKind.i64.wrap ((f : Int) + 1) = ((f + 1 : Nat) : Int) := wrap_i64 (by omega) (by omega)
    have hs := fldL_succ s.dict f
    have hll : (fldL s.dict f).length ≤ f := by
      unfold fldL
      have := List.length_filterMap_le (fun (f : Nat) => (getF f s.dict).map fun v => ((f : Int), v)) (List.range f)
      rw [List.length_range] at this; exact this
    generalize hXe : encSpot s = X at *
    cases hg : getF f s.dict with
    | none =>
      rw [hg] at hi hs
      simp only [List.append_nil] at hs
      simp [t1, t3, t4, hf, hfz, hB, hi, wf]
      exact Again2.mk (m - 1) (by omega) ⟨f + 1, u, by omega, by simp [t1], by simp [t3], by simp, by rw [hXe]; exact hB, by rw [hs]; exact hO, hub, hold, hfr⟩
    | some v =>
      rw [hg] at hi hs hv
      simp [t1, t3, t4, hf, hfz, hB, hi, hv, hun]
      refine vcAp_row (bytes := 16) (sz := 2) (x := .imm [.int .i64 f, .int .i64 v] 1 (some 1)) (n := (fldL s.dict f).length) (m := 1) (new := [.int .i64 f, .int .i64 v]) (.inl hO) (by rw [cellsOf_imm]; exact if_pos rfl) rfl rfl (by omega) rfl (by omega) (.inl (by simp)) ?_
      intro u2 H2 g1 g2 g3
      have hun2 := g1.un
      simp [hun2, t4, wf]
      refine Again2.mk (m - 1) (by omega) ⟨f + 1, u2, by omega, by simp [t1], by simp, by simp, ?_, ?_, ?_, ?_, ?_⟩
      · rw [g2 b hub (by rw [hB]; simp), hXe]; exact hB
      · rw [hs, List.length_append]
        have e : fieldsA (fldL s.dict f ++ [((f : Int), v)]) = fieldsA (fldL s.dict f) ++ [.int .i64 f, .int .i64 v] := by simp [fieldsA]
        rw [e]; exact g1
      · intro e
        rcases g3 b e with h | h
        · rw [hB] at h; cases h
        · exact hub h
      · intro x hx
        rw [g2 x (fun e => hx (hfr x e)) (by rw [hold x hx]; exact hx)]; exact hold x hx
      · intro x e
        rcases g3 x e with h | h
        · exact Classical.byContradiction fun hn => by rw [hold x hn] at h; exact hn h
        · exact hfr x h
  · have hfe : f = 8 := by omega
    subst hfe
    rw [fldL_all hr hb] at hO
    simp [t3, t4, hun]
    exact ⟨hO, hold, hfr⟩
theorem k_fields {H : Heap} {s : SpotT} (hr : RisF s.dict) (hb : ∀ q ∈ s.dict, 0 ≤ q.1 ∧ q.1 < 8) : CC PP F_Rref10_Spot_fields [.agg (encSpot s)] H fun r H' => H' = H ∧ r = immF s.dict := CC.frozen (sz := 2) (k_fields0 hr hb)
/-- Where a reference state lies. -/
def RefQ (H : Heap) (b : Nat) (S : StT) : Prop := H b = some (.cells ((spotsOf S).flatMap encSpot) 3648)
theorem spots_nil : (spotsOf StT.nil).flatMap encSpot = (List.replicate 192 (encSpot ⟨false, 0, [], []⟩)).flatten := by
  have e : spotsOf StT.nil = List.replicate 192 ⟨false, 0, [], []⟩ := by
    refine List.eq_replicate_iff.2 ⟨spotsOf_len _, fun x hx => ?_⟩
    unfold spotsOf at hx
    obtain ⟨j, _, rfl⟩ := List.mem_map.1 hx
    rfl
  rw [e, List.flatMap_replicate]
/-- As the reference state S, but for nil lists. -/
def RefN (H : Heap) (b : Nat) (S : StT) : Prop := ∃ cs, H b = some (.cells cs 3648) ∧ cs.length = ((spotsOf S).flatMap encSpot).length ∧ ∀ (i : Nat) (a c : AV), cs[i]? = some a → ((spotsOf S).flatMap encSpot)[i]? = some c → ∀ M x, VRel M a x → VRel M c x
theorem RefQ.n {H : Heap} {b : Nat} {S : StT} (h : H b = some (.cells ((spotsOf S).flatMap encSpot) 3648)) : RefN H b S := ⟨_, h, rfl, fun i a c h1 h2 M x hx => by rw [h1] at h2; cases h2; exact hx⟩
theorem RefN.weak {T : Nat → AV} {H : Heap} {b : Nat} {S : StT} (h : RefN H b S) : ∃ H2, Weak ⟨T, H⟩ ⟨T, H2⟩ ∧ RefQ H2 b S ∧ ∀ x, x ≠ b → H2 x = H x := by
  obtain ⟨cs, h1, h2, h3⟩ := h
  exact ⟨_, Weak.cellsV h1 h2 h3, Heap.set_self _ _ _, fun x hx => Heap.set_ne _ _ hx⟩
theorem set_spot {R : List SpotT} {j : Nat} {x y : SpotT} (h : R[j]? = some x) (o : Nat) (ho : o < 19) (v : AV) (hy : encSpot y = (encSpot x).set o v) : (R.flatMap encSpot).set (j * 19 + o) v = (R.set j y).flatMap encSpot := fm_set1 encSpot_len h ho hy
def rawS (s : SpotT) : { l : List AV // l.length = 19 } := ⟨encSpot s, encSpot_len s⟩
theorem raw_flat (R : List SpotT) : (R.map rawS).flatMap (·.1) = R.flatMap encSpot := by rw [List.flatMap_map]; rfl
theorem set_two {R : List SpotT} {j : Nat} {x y : SpotT} (h : R[j]? = some x) (a b : Nat) (ha : a < 19) (hb : b < 19) (u v : AV) (hy : encSpot y = ((encSpot x).set a u).set b v) : ((R.flatMap encSpot).set (j * 19 + a) u).set (j * 19 + b) v = (R.set j y).flatMap encSpot := by
  have hj : j < (R.map rawS).length := by simp; exact (List.getElem?_eq_some_iff.1 h).1
  have h1 : (R.map rawS)[j]? = some (rawS x) := by rw [List.getElem?_map, h]; rfl
  obtain ⟨z, hz⟩ : ∃ z : { l : List AV // l.length = 19 }, z.1 = (encSpot x).set a u := ⟨⟨_, by rw [List.length_set, encSpot_len]⟩, rfl⟩
  have e1 := fm_set1 (enc := fun l : { l : List AV // l.length = 19 } => l.1) (k := 19) (fun l => l.2) (y := z) (v := u) h1 ha hz
  have e2 := fm_set1 (enc := fun l : { l : List AV // l.length = 19 } => l.1) (k := 19) (fun l => l.2) (l := (R.map rawS).set j z) (x := z) (y := rawS y) (v := v) (by rw [List.getElem?_set_self hj]) hb (by show encSpot y = z.1.set b v; rw [hz]; exact hy)
  rw [← raw_flat, ← raw_flat, e1, e2, List.set_set, List.map_set]
theorem set_19 {A B C : List AV} {f : Nat} (u v : AV) (hA : A.length = 3) (hB : B.length = 8) (hf : f < 8) : ((A ++ B ++ C).set (3 + f) u).set (11 + f) v = A ++ B.set f u ++ C.set f v := by
  have h1 : (A ++ B ++ C).set (3 + f) u = A ++ B.set f u ++ C := by
    rw [List.set_append_left _ _ (by rw [List.length_append]; omega), List.set_append_right _ _ (by omega), show 3 + f - A.length = f by omega]
  have hl : (A ++ B.set f u).length = 11 := by rw [List.length_append, List.length_set]; omega
  rw [h1, List.set_append_right _ _ (by omega), hl, show 11 + f - 11 = f by omega]
theorem enc_put (x : SpotT) {f : Nat} {v : Int} (hr : RisF x.dict) (hf : f < 8) : encSpot { x with dict := putF f v x.dict } = ((encSpot x).set (3 + f) (.bool true)).set (11 + f) (.int .i64 v) := by
  unfold encSpot
  rw [set_19 _ _ rfl (bitsA_len _) hf, bitsA_put (v := v) hr hf, valsA_put hr hf]
theorem enc_cut (x : SpotT) {f : Nat} (hr : RisF x.dict) (hf : f < 8) : encSpot { x with dict := cutF f x.dict } = ((encSpot x).set (3 + f) (.bool false)).set (11 + f) (.int .i64 0) := by
  unfold encSpot
  rw [set_19 _ _ rfl (bitsA_len _) hf, bitsA_cut hr hf, valsA_cut hr hf]
theorem k_rone0 {H : Heap} {b : Nat} {S : StT} (hR : RefQ H b S) (hok : OkS S) {m : MutT} (hm : mayM m = true) :
    CC PP F_Rref10_State_one [.ptr b 0, .agg (mutCs m)] H fun r H' => if lenM m S ≤ 100 then r = .bool true ∧ RefN H' b (oneS m S) ∧ ∀ x, x ≠ b → H x ≠ none → H' x = H x else r = .bool false ∧ RefN H' b S ∧ ∀ x, x ≠ b → H x ≠ none → H' x = H x := by
  have hk := mayM_key hm
  obtain ⟨hg, hn, hi⟩ := isK_iff.1 hk
  have hidx := idx_lt hk
  have hsp := spots_at (S := S) hk
  have hlen : ((spotsOf S).flatMap encSpot).length = 3648 := by rw [fm_length (enc := encSpot) encSpot_len, spotsOf_len]
  unfold RefQ at hR
  refine CC.by_vc ok_Rref10_State_one (by simp) ?_
  unfold c_Rref10_State_one
  have m6 := mutCs_six m
  simp
  intro y hy
  simp
  have hyb : y ≠ b := fun e => by rw [e, hR] at hy; cases hy
  refine MarkV.frzP 3 (b := y) (cs := mutCs m) (n := 6) (by simp) (by rw [Heap.set_self, m6]) ?_
  have c0 : (mutCs m)[0]? = some (.int .i64 m.k) := rfl
  have c1 : (mutCs m)[1]? = some (.int .i64 m.g) := rfl
  have c2 : (mutCs m)[2]? = some (.int .i64 m.n) := rfl
  have c3 : (mutCs m)[3]? = some (.int .i64 m.i) := rfl
  have c4 : (mutCs m)[4]? = some (.int .i64 m.f) := rfl
  have c5 : (mutCs m)[5]? = some (.int .i64 m.v) := rfl
  have hR2 : ((H.set y (some (.cells (mutCs m) (mutCs m).length))).set y none) b = some (.cells ((spotsOf S).flatMap encSpot) 3648) := by rw [Heap.set_ne _ _ (Ne.symm hyb), Heap.set_ne _ _ (Ne.symm hyb)]; exact hR
  have hold : ∀ x, H x ≠ none → ((H.set y (some (.cells (mutCs m) (mutCs m).length))).set y none) x = H x := fun x hx => by
    have : x ≠ y := fun e => hx (by rw [e]; exact hy)
    rw [Heap.set_ne _ _ this, Heap.set_ne _ _ this]
  generalize (H.set y (some (.cells (mutCs m) (mutCs m).length))).set y none = H2 at *
  generalize hMe : mutCs m = MC at *
  have hg0 : 0 ≤ m.g := hg.1
  have hg1 : m.g < 4 := hg.2
  have hn0 : 0 ≤ m.n := hn.1
  have hn1 : m.n < 2 := hn.2
  have hi0 : 0 ≤ m.i := hi.1
  have hi1 : m.i < 24 := hi.2
  obtain ⟨j, hj⟩ : ∃ j, j = idxK m.key := ⟨_, rfl⟩
  have hoff : m.g.toNat * 912 + m.n.toNat * 456 + m.i.toNat * 19 = j * 19 := by rw [hj]; unfold idxK MutT.key; simp only; omega
  rw [← hj] at hidx hsp
  have hset := spots_one (S := S) hok hm
  rw [← hj] at hset
  have hxl : (spotAt S m.key).list = listK m.key S.L := rfl
  have hxd : (spotAt S m.key).dict = dictK m.key S.D := rfl
  generalize spotAt S m.key = x at *
  generalize hRe : spotsOf S = R at *
  have hRl : R.length = 192 := by rw [← hRe]; exact spotsOf_len S
  have hjR : j < R.length := by omega
  have hb19 : j * 19 + 19 ≤ (R.flatMap encSpot).length := by rw [hlen]; omega
  have h190 : j * 19 < 3648 := by omega
  have h191 : j * 19 + 1 < 3648 := by omega
  have h192 : j * 19 + 2 < 3648 := by omega
  have fin : ∀ (R' : List SpotT), lenM m S ≤ 100 → spotsOf (oneS m S) = R' → RefN (H2.set b (some (.cells (R'.flatMap encSpot) 3648))) b (oneS m S) ∧ ∀ x, x ≠ b → H x ≠ none → (H2.set b (some (.cells (R'.flatMap encSpot) 3648))) x = H x := fun R' h1 h2 => by
    subst h2
    exact ⟨RefQ.n (Heap.set_self _ _ _), fun x hx hn => by rw [Heap.set_ne _ _ hx]; exact hold x hn⟩
  by_cases k1 : m.k = 1
  · have hle : lenM m S ≤ 100 := by unfold lenM; rw [if_neg (by omega), if_neg (by omega)]; exact listK_le hok.l
    have e1 := set_spot (y := { x with has := true }) hsp 0 (by omega) (.bool true) rfl
    have e2 := set_spot (R := R.set j { x with has := true }) (x := { x with has := true }) (y := { x with has := true, val := m.v }) (by rw [List.getElem?_set_self hjR]) 1 (by omega) (.int .i64 m.v) rfl
    rw [List.set_set] at e2
    simp only [Nat.add_zero] at e1
    have h3 := hset hle
    have hs1 : spot1 m x = { x with has := true, val := m.v } := by unfold spot1; rw [if_pos k1]
    rw [hs1] at h3
    have e12 : ((R.flatMap encSpot).set (j * 19) (.bool true)).set (j * 19 + 1) (.int .i64 m.v) = (R.set j { x with has := true, val := m.v }).flatMap encSpot := by rw [e1, e2]
    have hf := fin _ hle h3
    generalize hX : R.flatMap encSpot = X at *
    simp [c0, c1, c2, c3, c5, hg0, hg1, hn0, hn1, hi0, hi1, hoff, k1, hR2, hlen, h190, h191, Heap.set_self, Heap.set_set, e12, hle]
    exact hf
  by_cases k2 : m.k = 2
  · have hle : lenM m S ≤ 100 := by unfold lenM; rw [if_neg (by omega), if_neg (by omega)]; exact listK_le hok.l
    have e1 := set_spot (y := { x with has := false }) hsp 0 (by omega) (.bool false) rfl
    have e2 := set_spot (R := R.set j { x with has := false }) (x := { x with has := false }) (y := { x with has := false, val := 0 }) (by rw [List.getElem?_set_self hjR]) 1 (by omega) (.int .i64 0) rfl
    rw [List.set_set] at e2
    simp only [Nat.add_zero] at e1
    have h3 := hset hle
    have hs1 : spot1 m x = { x with has := false, val := 0 } := by unfold spot1; rw [if_neg k1, if_pos k2]
    rw [hs1] at h3
    have e12 : ((R.flatMap encSpot).set (j * 19) (.bool false)).set (j * 19 + 1) (.int .i64 0) = (R.set j { x with has := false, val := 0 }).flatMap encSpot := by rw [e1, e2]
    have hf := fin _ hle h3
    generalize hX : R.flatMap encSpot = X at *
    simp [c0, c1, c2, c3, c5, hg0, hg1, hn0, hn1, hi0, hi1, hoff, k2, hR2, hlen, h190, h191, Heap.set_self, Heap.set_set, e12, hle]
    exact hf
  by_cases k4 : m.k = 4
  · have hle : lenM m S ≤ 100 := by unfold lenM; rw [if_neg (by omega), if_pos k4]; omega
    have e1 := set_spot (y := { x with list := [] }) hsp 2 (by omega) (immI []) rfl
    have h3 := hset hle
    have hs1 : spot1 m x = { x with list := [] } := by unfold spot1; rw [if_neg k1, if_neg k2, if_neg (by omega), if_pos k4]
    rw [hs1] at h3
    have hf : RefN (H2.set b (some (.cells ((R.flatMap encSpot).set (j * 19 + 2) .nils) 3648))) b (oneS m S) := by
      refine ⟨_, Heap.set_self _ _ _, by rw [h3, ← e1]; simp, fun i a c ha hc M z hz => ?_⟩
      rw [h3, ← e1] at hc
      rw [List.getElem?_set] at ha hc
      split at ha
      · rename_i hi
        rw [if_pos hi] at hc
        split at ha
        · rename_i hl
          rw [if_pos hl] at hc
          cases ha; cases hc; exact nil_imm hz
        · cases ha
      · rename_i hi
        rw [if_neg hi, ha] at hc
        cases hc; exact hz
    generalize hX : R.flatMap encSpot = X at *
    simp [c0, c1, c2, c3, c5, hg0, hg1, hn0, hn1, hi0, hi1, hoff, k4, hR2, hlen, h192, hle]
    exact ⟨hf, fun z hz hn => by rw [Heap.set_ne _ _ hz]; exact hold z hn⟩
  by_cases k5 : m.k = 5
  · have hle : lenM m S ≤ 100 := by unfold lenM; rw [if_neg (by omega), if_neg (by omega)]; exact listK_le hok.l
    obtain ⟨f, hf, hf8⟩ : ∃ f : Nat, m.f = (f : Int) ∧ f < 8 := by
      unfold mayM fieldsK at hm
      simp [k5] at hm
      exact ⟨m.f.toNat, by omega, by omega⟩
    have hr : RisF x.dict := by rw [hxd]; exact (dictK_ok hok.d).1
    have e12 := set_two hsp (3 + f) (11 + f) (by omega) (by omega) (.bool true) (.int .i64 m.v) (enc_put x (v := m.v) hr hf8)
    have h3 := hset hle
    have hs1 : spot1 m x = { x with dict := putF f m.v x.dict } := by unfold spot1; rw [if_neg k1, if_neg k2, if_neg (by omega), if_neg k4, if_pos k5, hf]
    rw [hs1] at h3
    have hfz : (f : Int) < 8 := by omega
    have hp := fin _ hle h3
    rw [← e12] at hp
    have q1 : j * 19 + 3 + f < 3648 := by omega
    have q2 : j * 19 + 11 + f < 3648 := by omega
    have a1 : j * 19 + (3 + f) = j * 19 + 3 + f := by omega
    have a2 : j * 19 + (11 + f) = j * 19 + 11 + f := by omega
    rw [a1, a2] at hp
    rw [hf] at c4
    generalize hX : R.flatMap encSpot = X at *
    simp [c0, c1, c2, c3, c4, c5, hg0, hg1, hn0, hn1, hi0, hi1, hoff, k5, hR2, hlen, hf8, hfz, q1, q2, Heap.set_self, Heap.set_set, hle]
    exact hp
  by_cases k6 : m.k = 6
  · have hle : lenM m S ≤ 100 := by unfold lenM; rw [if_neg (by omega), if_neg (by omega)]; exact listK_le hok.l
    obtain ⟨f, hf, hf8⟩ : ∃ f : Nat, m.f = (f : Int) ∧ f < 8 := by
      unfold mayM fieldsK at hm
      simp [k6] at hm
      exact ⟨m.f.toNat, by omega, by omega⟩
    have hr : RisF x.dict := by rw [hxd]; exact (dictK_ok hok.d).1
    have e12 := set_two hsp (3 + f) (11 + f) (by omega) (by omega) (.bool false) (.int .i64 0) (enc_cut x hr hf8)
    have h3 := hset hle
    have hs1 : spot1 m x = { x with dict := cutF f x.dict } := by unfold spot1; rw [if_neg k1, if_neg k2, if_neg (by omega), if_neg k4, if_neg k5, if_pos k6, hf]
    rw [hs1] at h3
    have hfz : (f : Int) < 8 := by omega
    have hp := fin _ hle h3
    rw [← e12] at hp
    have q1 : j * 19 + 3 + f < 3648 := by omega
    have q2 : j * 19 + 11 + f < 3648 := by omega
    have a1 : j * 19 + (3 + f) = j * 19 + 3 + f := by omega
    have a2 : j * 19 + (11 + f) = j * 19 + 11 + f := by omega
    rw [a1, a2] at hp
    rw [hf] at c4
    generalize hX : R.flatMap encSpot = X at *
    simp [c0, c1, c2, c3, c4, c5, hg0, hg1, hn0, hn1, hi0, hi1, hoff, k6, hR2, hlen, hf8, hfz, q1, q2, Heap.set_self, Heap.set_set, hle]
    exact hp
  by_cases k3 : m.k = 3
  · have hld : (R.flatMap encSpot)[j * 19 + 2]? = some (.imm (intsV x.list) x.list.length none) := by
      rw [fm_get encSpot_len hsp (by omega)]; rfl
    have hll := listK_le (k := m.key) hok.l
    rw [← hxl] at hll
    have hlm : lenM m S = x.list.length + 1 := by unfold lenM; rw [if_pos k3, hxl]
    have e1 := set_spot (y := { x with list := x.list ++ [m.v] }) hsp 2 (by omega) (immI (x.list ++ [m.v])) rfl
    have hs1 : spot1 m x = { x with list := x.list ++ [m.v] } := by unfold spot1; rw [if_neg k1, if_neg k2, if_pos k3]
    by_cases hbig : 100 ≤ x.list.length
    · have hnl : ¬ lenM m S ≤ 100 := by omega
      have hbz : (100 : Int) ≤ (x.list.length : Int) := by omega
      have hn : RefN H2 b S := by
        have := RefQ.n (b := b) (H := H2) (S := S) (by rw [hRe]; exact hR2)
        exact this
      generalize hX : R.flatMap encSpot = X at *
      simp [c0, c1, c2, c3, c5, hg0, hg1, hn0, hn1, hi0, hi1, hoff, k3, hR2, hlen, hld, hbz, hnl]
      exact ⟨hn, fun z hz hnz => hold z hnz⟩
    · have hle : lenM m S ≤ 100 := by omega
      have hbz : ¬ (100 : Int) ≤ (x.list.length : Int) := by omega
      have h3 := hset hle
      rw [hs1] at h3
      have hp := fun H' (h : RefN H' b (oneS m S)) => h
      have hval : AV.imm ([] ++ intsV x.list ++ [.int .i64 m.v]) (0 + x.list.length + 1) none = immI (x.list ++ [m.v]) := by
        unfold immI; rw [intsV_append, List.length_append, List.nil_append, Nat.zero_add]; rfl
      have hil := intsV_length x.list
      have hio : (intsV x.list).all AV.one = true := intsV_one _
      have hcl : ∀ H', cellsOf H' 1 (AV.imm (intsV x.list) x.list.length none) = some (intsV x.list) := fun H' => by rw [cellsOf_imm, if_pos (by rw [intsV_length]; omega)]
      generalize hX : R.flatMap encSpot = X at *
      simp [c0, c1, c2, c3, c5, hg0, hg1, hn0, hn1, hi0, hi1, hoff, k3, hR2, hlen, hld, hbz]
      repeat' (with_reducible refine And.intro ?_ ?_)
      all_goals
        refine vcAp_row (bytes := 8) (sz := 1) (n := 0) (m := x.list.length) (new := intsV x.list) (cs := []) (.inl ⟨rfl, .inl ⟨rfl, rfl⟩⟩) (hcl _) rfl (by rw [hil]; omega) (by omega) hio (by omega) (.inr ⟨rfl, .inl ⟨rfl, rfl⟩⟩) ?_
        intro u3 H3 q1 q2 q3
        have b3 : H3 b = some (.cells X 3648) := by rw [q2 b (by simp [blkOf]) (by rw [hR2]; simp)]; exact hR2
        have n3 : ∀ z, blkOf u3 = some z → H2 z = none := fun z hz => (q3 z hz).elim id (fun e => by cases e)
        have hun3 := q1.un
        have hc1 : ∀ H', cellsOf H' 1 (.imm [.int .i64 m.v] 1 (some 1)) = some [.int .i64 m.v] := fun H' => by rw [cellsOf_imm]; exact if_pos rfl
        have hone4 : (immI (x.list ++ [m.v])).one = true := rfl
        have hun4 : un (immI (x.list ++ [m.v])) = (True, immI (x.list ++ [m.v])) := rfl
        simp [c5, hun3]
        refine vcAp_hold (bytes := 8) (sz := 1) (new := [.int .i64 m.v]) (m := 1) (.inl q1) (hc1 _) rfl rfl (by omega) ?_
        intro H4 q4
        rw [hval]
        have b4 : H4 b = some (.cells X 3648) := by rw [q4 b (fun e => by have := n3 b e; rw [hR2] at this; cases this) (by rw [b3]; simp)]; exact b3
        have h4 : ∀ z, z ≠ b → H z ≠ none → (H4.set b (some (.cells (X.set (j * 19 + 2) (immI (x.list ++ [m.v]))) 3648))) z = H z := fun z hz hn => by
          have e2 := hold z hn
          have e3 : H3 z = H2 z := q2 z (by simp [blkOf]) (by rw [e2]; exact hn)
          rw [Heap.set_ne _ _ hz, q4 z (fun e => by have := n3 z e; rw [e2] at this; exact hn this) (by rw [e3, e2]; exact hn), e3, e2]
        have hN : RefN (H4.set b (some (.cells (X.set (j * 19 + 2) (immI (x.list ++ [m.v]))) 3648))) b (oneS m S) := RefQ.n (by rw [Heap.set_self, h3, ← e1])
        simp [b4, hlen, h192, hone4, hun4, hle]
        exact ⟨hN, h4⟩
  · exfalso
    unfold mayM at hm
    simp only [Bool.and_eq_true, decide_eq_true_eq] at hm
    omega
theorem k_rone {H : Heap} {b : Nat} {S : StT} (hR : RefQ H b S) (hok : OkS S) {m : MutT} (hm : mayM m = true) :
    CC PP F_Rref10_State_one [.ptr b 0, .agg (mutCs m)] H fun r H' => r = .bool (decide (lenM m S ≤ 100)) ∧ RefQ H' b (if lenM m S ≤ 100 then oneS m S else S) ∧ ∀ x, x ≠ b → H x ≠ none → H' x = H x :=
  CC.weakH (k_rone0 hR hok hm) fun v H1 h => by
    by_cases hl : lenM m S ≤ 100
    · rw [if_pos hl] at h
      obtain ⟨rfl, hn, ho⟩ := h
      obtain ⟨H2, w, q, k⟩ := hn.weak (T := fun _ => .bool true)
      exact ⟨H2, w, by rw [decide_eq_true hl], by rw [if_pos hl]; exact q, fun x hx hn => by rw [k x hx]; exact ho x hx hn⟩
    · rw [if_neg hl] at h
      obtain ⟨rfl, hn, ho⟩ := h
      obtain ⟨H2, w, q, k⟩ := hn.weak (T := fun _ => .bool false)
      exact ⟨H2, w, by rw [decide_eq_false hl], by rw [if_neg hl]; exact q, fun x hx hn => by rw [k x hx]; exact ho x hx hn⟩
theorem k_rnew {H : Heap} : CC PP F_Rref10_New [] H fun r H' => ∃ b, r = .ptr b 0 ∧ H b = none ∧ RefQ H' b StT.nil ∧ ∀ x, x ≠ b → H' x = H x := by
  have hz : (zRep 192 [AV.bool false, AV.int .i64 0, .nils, AV.bool false, AV.bool false, AV.bool false, AV.bool false, AV.bool false, AV.bool false, AV.bool false, AV.bool false, AV.int .i64 0, AV.int .i64 0, AV.int .i64 0, AV.int .i64 0, AV.int .i64 0, AV.int .i64 0, AV.int .i64 0, AV.int .i64 0]).length = 3648 := zRep_length _ _
  have ho : (zRep 192 [AV.bool false, AV.int .i64 0, .nils, AV.bool false, AV.bool false, AV.bool false, AV.bool false, AV.bool false, AV.bool false, AV.bool false, AV.bool false, AV.int .i64 0, AV.int .i64 0, AV.int .i64 0, AV.int .i64 0, AV.int .i64 0, AV.int .i64 0, AV.int .i64 0, AV.int .i64 0]).all AV.one = true := by
    unfold zRep
    rw [List.all_eq_true]
    intro x hx
    obtain ⟨l, hl, hx⟩ := List.mem_flatten.1 hx
    rw [List.mem_replicate] at hl
    obtain ⟨_, rfl⟩ := hl
    exact List.all_eq_true.1 (show [AV.bool false, AV.int .i64 0, .nils, AV.bool false, AV.bool false, AV.bool false, AV.bool false, AV.bool false, AV.bool false, AV.bool false, AV.bool false, AV.int .i64 0, AV.int .i64 0, AV.int .i64 0, AV.int .i64 0, AV.int .i64 0, AV.int .i64 0, AV.int .i64 0, AV.int .i64 0].all AV.one = true from rfl) x hx
  have hw : ∀ (i : Nat) (a c : AV), (zRep 192 [AV.bool false, AV.int .i64 0, .nils, AV.bool false, AV.bool false, AV.bool false, AV.bool false, AV.bool false, AV.bool false, AV.bool false, AV.bool false, AV.int .i64 0, AV.int .i64 0, AV.int .i64 0, AV.int .i64 0, AV.int .i64 0, AV.int .i64 0, AV.int .i64 0, AV.int .i64 0])[i]? = some a → ((spotsOf StT.nil).flatMap encSpot)[i]? = some c → ∀ M x, VRel M a x → VRel M c x := by
    rw [spots_nil]
    unfold zRep
    have key : ∀ (n : Nat) (l k : List AV), l.length = k.length → (∀ (i : Nat) (a c : AV), l[i]? = some a → k[i]? = some c → ∀ M x, VRel M a x → VRel M c x) → ∀ (i : Nat) (a c : AV), ((List.replicate n l).flatten)[i]? = some a → ((List.replicate n k).flatten)[i]? = some c → ∀ M x, VRel M a x → VRel M c x := by
      intro n l k hlk h
      induction n with
      | zero => intro i a c ha; simp at ha
      | succ n ih =>
        intro i a c ha hc M x hx
        rw [List.replicate_succ, List.flatten_cons, List.getElem?_append] at ha hc
        rw [hlk] at ha
        split at ha
        · rename_i hi
          rw [if_pos hi] at hc
          exact h i a c ha hc M x hx
        · rename_i hi
          rw [if_neg hi] at hc
          exact ih _ a c ha hc M x hx
    refine key 192 _ _ (by rw [encSpot_len]; rfl) fun i a c ha hc M x hx => ?_
    have e : encSpot ⟨false, 0, [], []⟩ = [AV.bool false, AV.int .i64 0, immI [], AV.bool false, AV.bool false, AV.bool false, AV.bool false, AV.bool false, AV.bool false, AV.bool false, AV.bool false, AV.int .i64 0, AV.int .i64 0, AV.int .i64 0, AV.int .i64 0, AV.int .i64 0, AV.int .i64 0, AV.int .i64 0, AV.int .i64 0] := rfl
    rw [e] at hc
    match i, ha, hc with
    | 0, ha, hc => cases ha; cases hc; exact hx
    | 1, ha, hc => cases ha; cases hc; exact hx
    | 2, ha, hc => cases ha; cases hc; exact nil_imm hx
    | i + 3, ha, hc => simp only [List.getElem?_cons_succ] at ha hc; rw [ha] at hc; cases hc; exact hx
  have main : CC PP F_Rref10_New [] H fun r H' => ∃ b, r = .ptr b 0 ∧ H b = none ∧ RefN H' b StT.nil ∧ ∀ x, x ≠ b → H' x = H x := by
    refine CC.by_vc ok_Rref10_New (by simp) ?_
    unfold c_Rref10_New
    generalize zRep 192 [AV.bool false, AV.int .i64 0, .nils, AV.bool false, AV.bool false, AV.bool false, AV.bool false, AV.bool false, AV.bool false, AV.bool false, AV.bool false, AV.int .i64 0, AV.int .i64 0, AV.int .i64 0, AV.int .i64 0, AV.int .i64 0, AV.int .i64 0, AV.int .i64 0, AV.int .i64 0] = Z at *
    simp
    intro b hb
    simp [hz]
    have hlen : ((spotsOf StT.nil).flatMap encSpot).length = 3648 := by rw [fm_length (enc := encSpot) encSpot_len, spotsOf_len]
    exact ⟨hb, ⟨Z, Heap.set_self _ _ _, by rw [hz, hlen], hw⟩, fun x hx => Heap.set_ne _ _ hx⟩
  refine CC.weakH main fun v H1 h => ?_
  obtain ⟨b, rfl, hb, hn, ho⟩ := h
  obtain ⟨H2, w, q, k⟩ := hn.weak (T := fun _ => .ptr b 0)
  exact ⟨H2, w, b, rfl, hb, q, fun x hx => by rw [k x hx]; exact ho x hx⟩
end Go.Proofs.YtdpbbnnlbjgjgaaGreat
set_option linter.unusedVariables false
set_option linter.unusedSimpArgs false
set_option maxRecDepth 100000
set_option maxHeartbeats 8000000
namespace Go.Proofs.YtdpbbnnlbjgjgaaGreat
open Go.Sf
theorem heap_same {H : Heap} {b : Nat} {x : Option Blk} (h : H b = x) : H.set b x = H := by
  funext y
  by_cases e : y = b
  · rw [e, Heap.set_self, h]
  · rw [Heap.set_ne _ _ e]
def I_c1 (c : Nat) (H1 : Heap) (m : Nat) (T : Nat → AV) (H : Heap) : Prop := ∃ g : Nat, g + m = 4 ∧ T 3 = .ptr c 0 ∧ T 10 = .int .i64 g ∧ H = H1
def I_c2 (c g : Nat) (H1 : Heap) (m : Nat) (T : Nat → AV) (H : Heap) : Prop := ∃ n : Nat, n + m = 2 ∧ T 3 = .ptr c 0 ∧ T 10 = .int .i64 g ∧ T 4 = .int .i64 g ∧ T 13 = .int .i64 n ∧ H = H1
def I_c3 (c g n : Nat) (H1 : Heap) (m : Nat) (T : Nat → AV) (H : Heap) : Prop := ∃ i : Nat, i + m = 24 ∧ T 3 = .ptr c 0 ∧ T 10 = .int .i64 g ∧ T 4 = .int .i64 g ∧ T 13 = .int .i64 n ∧ T 5 = .int .i64 n ∧ T 16 = .int .i64 i ∧ H = H1
theorem k_rcopy {H : Heap} {b : Nat} {S : StT} (hR : RefQ H b S) (hok : OkS S) : CC PP F_Rref10_State_Copy [.ptr b 0] H fun r H' => ∃ c, r = .ptr c 0 ∧ H c = none ∧ RefQ H' c S ∧ ∀ x, x ≠ c → H' x = H x := by
  unfold RefQ at *
  have hlen : ((spotsOf S).flatMap encSpot).length = 3648 := by rw [fm_length (enc := encSpot) encSpot_len, spotsOf_len]
  have hone : ∀ z, z ∈ (spotsOf S).flatMap encSpot → z.one = true := fun z hz => by
    obtain ⟨s, _, hz⟩ := List.mem_flatMap.1 hz
    exact List.all_eq_true.1 (encSpot_one s) z hz
  have hsp : ∀ j, j < 192 → ∃ s, (spotsOf S)[j]? = some s ∧ s.list.length ≤ 100 := fun j hj => by
    unfold spotsOf
    rw [List.getElem?_map, List.getElem?_range hj]
    exact ⟨_, rfl, listK_le hok.l⟩
  have hld : ∀ j, j < 192 → ∃ l, l.length ≤ 100 ∧ ((spotsOf S).flatMap encSpot)[j * 19 + 2]? = some (immI l) ∧ ((spotsOf S).flatMap encSpot).set (j * 19 + 2) (immI l) = (spotsOf S).flatMap encSpot := fun j hj => by
    obtain ⟨s, h1, h2⟩ := hsp j hj
    have h3 : ((spotsOf S).flatMap encSpot)[j * 19 + 2]? = some (immI s.list) := by rw [fm_get encSpot_len h1 (by omega)]; rfl
    refine ⟨s.list, h2, h3, ?_⟩
    obtain ⟨h4, h5⟩ := List.getElem?_eq_some_iff.1 h3
    rw [← h5]; exact List.set_getElem_self h4
  have hz := zRep_length 192 [AV.bool false, AV.int .i64 0, .nils, AV.bool false, AV.bool false, AV.bool false, AV.bool false, AV.bool false, AV.bool false, AV.bool false, AV.bool false, AV.int .i64 0, AV.int .i64 0, AV.int .i64 0, AV.int .i64 0, AV.int .i64 0, AV.int .i64 0, AV.int .i64 0, AV.int .i64 0]
  simp only [List.length_cons, List.length_nil] at hz
  refine CC.by_vc ok_Rref10_State_Copy (by simp) ?_
  unfold c_Rref10_State_Copy
  generalize zRep 192 [AV.bool false, AV.int .i64 0, .nils, AV.bool false, AV.bool false, AV.bool false, AV.bool false, AV.bool false, AV.bool false, AV.bool false, AV.bool false, AV.int .i64 0, AV.int .i64 0, AV.int .i64 0, AV.int .i64 0, AV.int .i64 0, AV.int .i64 0, AV.int .i64 0, AV.int .i64 0] = Z at *
  generalize hXe : (spotsOf S).flatMap encSpot = X at *
  have hzl : Z.length = 3648 := by omega
  have htk : X.take 3648 = X := List.take_of_length_le (by omega)
  have hdz : Z.drop 3648 = [] := List.drop_eq_nil_of_le (by omega)
  simp [hR, htk, hlen]
  intro c hc
  simp [hzl, Heap.set_self, Heap.set_set, hlen, hdz]
  refine ⟨hone, ?_⟩
  have h1b : (H.set c (some (.cells X 3648))) c = some (.cells X 3648) := Heap.set_self _ _ _
  have h1o : ∀ x, x ≠ c → (H.set c (some (.cells X 3648))) x = H x := fun x hx => Heap.set_ne _ _ hx
  generalize H.set c (some (.cells X 3648)) = H1 at *
  refine LoopV.mk2 (I_c1 c H1) 4 ⟨0, by omega, by simp, by simp, rfl⟩ ?_
  rintro m T H' ⟨g, hgm, t3, t10, rfl⟩
  by_cases hg : g < 4
  · have hgz : (g : Int) < 4 := by omega
    have wg : IntKind.i64.wrap ((g : Int) + 1) = ((g + 1 : Nat) : Int) := wrap_i64 (by omega) (by omega)
    simp [t3, t10, hgz]
    refine LoopV.mk2 (I_c2 c g H') 2 ⟨0, by omega, by simp [t3], by simp [t10], by simp, by simp, rfl⟩ ?_
    rintro m2 T2 H2 ⟨n, hnm, t3, t10, t4, t13, rfl⟩
    by_cases hn : n < 2
    · have hnz : (n : Int) < 2 := by omega
      have wn : IntKind.i64.wrap ((n : Int) + 1) = ((n + 1 : Nat) : Int) := wrap_i64 (by omega) (by omega)
      simp [t3, t10, t4, t13, hnz]
      refine LoopV.mk2 (I_c3 c g n H2) 24 ⟨0, by omega, by simp [t3], by simp [t10], by simp [t4], by simp [t13], by simp, by simp, rfl⟩ ?_
      rintro m3 T3 H3 ⟨i, him, t3, t10, t4, t13, t5, t16, rfl⟩
      by_cases hi : i < 24
      · have hiz : (i : Int) < 24 := by omega
        have wi : IntKind.i64.wrap ((i : Int) + 1) = ((i + 1 : Nat) : Int) := wrap_i64 (by omega) (by omega)
        obtain ⟨l, l1, l2, l3⟩ := hld ((g * 2 + n) * 24 + i) (by omega)
        have hoff : g * 912 + n * 456 + i * 19 + 2 = ((g * 2 + n) * 24 + i) * 19 + 2 := by omega
        rw [← hoff] at l2 l3
        have hunl : un (immI l) = (True, immI l) := rfl
        have hval : AV.imm ([] ++ intsV l) (0 + l.length) none = immI l := by unfold immI; rw [List.nil_append, Nat.zero_add]
        have hone2 : (immI l).one = true := rfl
        simp [t3, t10, t4, t13, t5, t16, hiz, hi, hn, hg, hgz, hnz, h1b, hlen, l2, l3, wi, hunl]
        refine q_append (old := []) (new := intsV l) (n := 0) (m := l.length) rfl ((cellsOf_imm _ _ _ _ _).trans (if_pos (by rw [intsV_length]; omega))) rfl rfl (intsV_one _) (by omega) ?_
        rw [hval]
        simp [t3, t10, t4, t13, t5, t16, hiz, hi, hn, hg, hgz, hnz, h1b, hlen, l2, l3, wi, hunl, hone2, heap_same h1b]
        exact ⟨by omega, Again2.mk (m3 - 1) (by omega) ⟨i + 1, by omega, by simp [t3], by simp [t10], by simp [t4], by simp [t13], by simp [t5], by simp, rfl⟩⟩
      · have : i = 24 := by omega
        subst this
        simp [t3, t10, t4, t13, t16, wn]
        exact Again2.mk (m2 - 1) (by omega) ⟨n + 1, by omega, by simp [t3], by simp [t10], by simp [t4], by simp, rfl⟩
    · have : n = 2 := by omega
      subst this
      simp [t3, t10, t13, wg]
      exact Again2.mk (m - 1) (by omega) ⟨g + 1, by omega, by simp [t3], by simp, rfl⟩
  · have : g = 4 := by omega
    subst this
    simp [t3, t10]
    exact ⟨hc, h1b, h1o⟩
end Go.Proofs.YtdpbbnnlbjgjgaaGreat
set_option linter.unusedVariables false
set_option linter.unusedSimpArgs false
set_option maxRecDepth 100000
set_option maxHeartbeats 8000000
namespace Go.Proofs.YtdpbbnnlbjgjgaaGreat
open Go.Sf
theorem okRun_take {S : StT} {ms : List MutT} {i : Nat} {m : MutT} (h : ms[i]? = some m) : okRun S (ms.take (i + 1)) = (okRun S (ms.take i) && decide (lenM m (doneS (ms.take i) S) ≤ 100)) := by
  rw [List.take_add_one, h, okRun_append]
  simp [okRun]
theorem doneS_take {S : StT} {ms : List MutT} {i : Nat} {m : MutT} (h : ms[i]? = some m) : doneS (ms.take (i + 1)) S = oneS m (doneS (ms.take i) S) := by
  unfold doneS
  rw [List.take_add_one, h, List.foldl_append]; rfl
theorem okRun_le {S : StT} {ms : List MutT} {i : Nat} (h : okRun S (ms.take i) = false) : okRun S ms = false := by
  rw [← List.take_append_drop i ms, okRun_append, h]; rfl
theorem doS_bad {S : StT} {ms : List MutT} {m : MutT} (h : m ∈ ms) (hm : mayM m = false) : doS ms S = (S, 1) := by
  unfold doS
  rw [if_pos (List.any_eq_true.2 ⟨m, h, by rw [hm]; rfl⟩)]
def I_rd1 (s : Nat) (ms : List MutT) (c : Option Nat) (H0 : Heap) (m : Nat) (T : Nat → AV) (H : Heap) : Prop :=
  ∃ i : Nat, i + m = ms.length ∧ T 0 = .ptr s 0 ∧ T 1 = immM ms c ∧ T 5 = .int .i64 i ∧ H = H0 ∧ ∀ m ∈ ms.take i, mayM m = true
def I_rd2 (s x : Nat) (ms : List MutT) (c : Option Nat) (S : StT) (H0 : Heap) (m : Nat) (T : Nat → AV) (H : Heap) : Prop :=
  ∃ i : Nat, i + m = ms.length ∧ T 0 = .ptr s 0 ∧ T 1 = immM ms c ∧ T 6 = .ptr x 0 ∧ T 7 = .int .i64 i ∧ okRun S (ms.take i) = true ∧ RefQ H x (doneS (ms.take i) S) ∧ ∀ y, y ≠ x → H0 y ≠ none → H y = H0 y
theorem k_rdo {H : Heap} {s : Nat} {S : StT} (hR : RefQ H s S) (hok : OkS S) {ms : List MutT} (hl : ms.length < 2 ^ 40) {c : Option Nat} :
    CC PP F_Rref10_State_Do [.ptr s 0, immM ms c] H fun r H' => r = .int .i64 (doS ms S).2 ∧ RefQ H' s (doS ms S).1 ∧ ∀ x, x ≠ s → H x ≠ none → H' x = H x := by
  refine CC.by_vc ok_Rref10_State_Do (by simp) ?_
  unfold c_Rref10_State_Do
  have hum : un (immM ms c) = (True, immM ms c) := rfl
  simp [hum]
  refine LoopV.mk2 (I_rd1 s ms c H) ms.length ⟨0, by omega, by simp, by simp, by simp, rfl, by simp⟩ ?_
  rintro m T H' ⟨i, him, t0, t1, t5, rfl, hmay⟩
  simp only [immM] at t1
  by_cases hi : i < ms.length
  · obtain ⟨mu, hmu⟩ : ∃ mu, ms[i]? = some mu := ⟨ms[i], by simp [hi]⟩
    obtain ⟨f1, f2⟩ := fm_at (enc := mutCs) mutCs_six hmu
    have wi : IntKind.i64.wrap ((i : Int) + 1) = ((i + 1 : Nat) : Int) := wrap_i64 (by omega) (by omega)
    have hme : mu ∈ ms := List.mem_of_getElem? hmu
    generalize hXe : ms.flatMap mutCs = X at *
    simp [t0, t1, t5, hi, f1, f2]
    refine CallK.pure (p_rMayMut mu) ?_
    rintro _ rfl
    by_cases hm : mayM mu = true
    · simp [hm, t5, wi]
      refine Again2.mk (m - 1) (by omega) ⟨i + 1, by omega, by simp [t0], by simp [t1, immM, hXe], by simp, rfl, fun x hx => ?_⟩
      rw [List.take_add_one, hmu, List.mem_append] at hx
      rcases hx with hx | hx
      · exact hmay x hx
      · simp at hx; rw [hx]; exact hm
    · have hmf : mayM mu = false := by simpa using hm
      rw [doS_bad hme hmf]
      simp [hmf]
      exact hR
  · have hie : i = ms.length := by omega
    subst hie
    rw [List.take_length] at hmay
    simp [t0, t1, t5]
    refine CallK.of (k_rcopy hR hok) ?_
    rintro _ H1 ⟨x, rfl, hx, hR1, hold1⟩
    simp [t0]
    refine LoopV.mk2 (I_rd2 s x ms c S H') ms.length ⟨0, by omega, by simp [t0], by simp [t1, immM], by simp, by simp, rfl, by simpa [doneS] using hR1, fun y hy _ => hold1 y hy⟩ ?_
    clear t0 t1 t5 him
    rintro m T H2 ⟨i, him, t0, t1, t6, t7, hrun, hR2, hold2⟩
    simp only [immM] at t1
    by_cases hi : i < ms.length
    · obtain ⟨mu, hmu⟩ : ∃ mu, ms[i]? = some mu := ⟨ms[i], by simp [hi]⟩
      obtain ⟨f1, f2⟩ := fm_at (enc := mutCs) mutCs_six hmu
      have wi : IntKind.i64.wrap ((i : Int) + 1) = ((i + 1 : Nat) : Int) := wrap_i64 (by omega) (by omega)
      have hme : mu ∈ ms := List.mem_of_getElem? hmu
      have h1 := okRun_take (S := S) hmu
      rw [hrun, Bool.true_and] at h1
      have h2 := doneS_take (S := S) hmu
      generalize hXe : ms.flatMap mutCs = X at *
      simp [t0, t1, t6, t7, hi, f1, f2]
      refine CallK.of (k_rone hR2 (okS_done hok) (hmay mu hme)) ?_
      rintro _ H3 ⟨rfl, hR3, hold3⟩
      have hold4 : ∀ y, y ≠ x → H' y ≠ none → H3 y = H' y := fun y hy hn => by
        have e := hold2 y hy hn
        rw [hold3 y hy (by rw [e]; exact hn), e]
      by_cases hle : lenM mu (doneS (ms.take i) S) ≤ 100
      · rw [if_pos hle, ← h2] at hR3
        rw [decide_eq_true hle] at h1
        simp [hle, t7, wi]
        exact Again2.mk (m - 1) (by omega) ⟨i + 1, by omega, by simp [t0], by simp [t1, immM, hXe], by simp [t6], by simp, h1, hR3, hold4⟩
      · rw [decide_eq_false hle] at h1
        have hno := okRun_le h1
        have hP : doS ms S = (S, 4) := by rw [doS_run hok hmay, if_neg (by rw [hno]; decide)]
        rw [hP]
        simp [hle]
        have hs4 := hold4 s (fun e => by rw [e] at hR; unfold RefQ at hR; rw [hx] at hR; cases hR) (by unfold RefQ at hR; rw [hR]; simp)
        refine ⟨by unfold RefQ at *; rw [hs4]; exact hR, fun y hy hn => hold4 y (fun e => hn (by rw [e]; exact hx)) hn⟩
    · have hie : i = ms.length := by omega
      subst hie
      rw [List.take_length] at hrun hR2
      have hP : doS ms S = (doneS ms S, 0) := by rw [doS_run hok hmay, if_pos hrun]
      rw [hP]
      have hxs : x ≠ s := fun e => by rw [← e] at hR; unfold RefQ at hR; rw [hx] at hR; cases hR
      unfold RefQ at *
      have hs2 := hold2 s (Ne.symm hxs) (by rw [hR]; simp)
      rw [hR] at hs2
      have hlen : ∀ S : StT, ((spotsOf S).flatMap encSpot).length = 3648 := fun S => by rw [fm_length (enc := encSpot) encSpot_len, spotsOf_len]
      have la := hlen S
      have lb := hlen (doneS ms S)
      have hone : ∀ z, z ∈ (spotsOf (doneS ms S)).flatMap encSpot → z.one = true := fun z hz => by
        obtain ⟨s, _, hz⟩ := List.mem_flatMap.1 hz
        exact List.all_eq_true.1 (encSpot_one s) z hz
      generalize hXe : (spotsOf (doneS ms S)).flatMap encSpot = X at *
      generalize (spotsOf S).flatMap encSpot = Y at *
      have htk : X.take 3648 = X := List.take_of_length_le (by omega)
      have hdz : Y.drop 3648 = [] := List.drop_eq_nil_of_le (by omega)
      simp [t0, t1, t6, t7, hR2, hs2, htk, lb, la, hdz]
      exact ⟨hone, Heap.set_self _ _ _, fun y hy hn => by rw [Heap.set_ne _ _ hy]; exact hold2 y (fun e => hn (by rw [e]; exact hx)) hn⟩
end Go.Proofs.YtdpbbnnlbjgjgaaGreat
set_option linter.unusedVariables false
set_option linter.unusedSimpArgs false
set_option maxRecDepth 100000
set_option maxHeartbeats 8000000
namespace Go.Proofs.YtdpbbnnlbjgjgaaGreat
open Go.Sf
def cellsN (S : StT) (j : Nat) : List CellT := (((List.range j).map keyAt).filter fun k => fullP (spotAt S k)).map (cellAt S)
theorem cellsN_succ (S : StT) (j : Nat) : cellsN S (j + 1) = cellsN S j ++ if fullP (spotAt S (keyAt j)) = true then [cellAt S (keyAt j)] else [] := by
  unfold cellsN
  rw [List.range_succ, List.map_append, List.filter_append, List.map_append]
  congr 1
  simp only [List.map_cons, List.map_nil, List.filter_cons, List.filter_nil]
  split <;> rfl
theorem cellsN_len (S : StT) (j : Nat) : (cellsN S j).length ≤ j := by
  unfold cellsN
  rw [List.length_map]
  exact Nat.le_trans (List.length_filter_le _ _) (by simp)
def RowC (H0 H : Heap) (S : StT) (j : Nat) (u : AV) : Prop := OwnR H 7 (cellsN S j).length u ((cellsN S j).flatMap encC) ∧ (∀ x, H0 x ≠ none → H x = H0 x) ∧ ∀ b, blkOf u = some b → H0 b = none
def I_k1 (s : Nat) (S : StT) (H0 : Heap) (m : Nat) (T : Nat → AV) (H : Heap) : Prop := ∃ (g : Nat) (u : AV), g + m = 4 ∧ T 0 = .ptr s 0 ∧ T 3 = u ∧ T 9 = .int .i64 g ∧ RowC H0 H S (g * 48) u
def I_k2 (s : Nat) (S : StT) (H0 : Heap) (g m : Nat) (T : Nat → AV) (H : Heap) : Prop := ∃ (n : Nat) (u : AV), n + m = 2 ∧ T 0 = .ptr s 0 ∧ T 3 = u ∧ T 9 = .int .i64 g ∧ T 4 = .int .i64 g ∧ T 12 = .int .i64 n ∧ RowC H0 H S (g * 48 + n * 24) u
def I_k3 (s : Nat) (S : StT) (H0 : Heap) (g n m : Nat) (T : Nat → AV) (H : Heap) : Prop := ∃ (i : Nat) (u : AV), i + m = 24 ∧ T 0 = .ptr s 0 ∧ T 3 = u ∧ T 9 = .int .i64 g ∧ T 4 = .int .i64 g ∧ T 12 = .int .i64 n ∧ T 5 = .int .i64 n ∧ T 15 = .int .i64 i ∧ RowC H0 H S (g * 48 + n * 24 + i) u
theorem k_rcells0 {H0 : Heap} {s : Nat} {S : StT} (hR : RefQ H0 s S) (hok : OkS S) (hK : KeysOK S) :
    CC PP F_Rref10_State_Cells [.ptr s 0] H0 fun r H' => OwnR H' 7 (cellsS S).length r ((cellsS S).flatMap encC) ∧ (∀ x, H0 x ≠ none → H' x = H0 x) ∧ ∀ b, blkOf r = some b → H0 b = none := by
  have hlast : cellsS S = cellsN S 192 := cells_spots hok hK
  rw [hlast]
  refine CC.by_vc ok_Rref10_State_Cells (by simp) ?_
  unfold c_Rref10_State_Cells
  have hlen : ((spotsOf S).flatMap encSpot).length = 3648 := by rw [fm_length (enc := encSpot) encSpot_len, spotsOf_len]
  unfold RefQ at hR
  simp
  refine LoopV.mk2 (I_k1 s S H0) 4 ⟨0, .nils, by omega, by simp, by simp, by simp, ⟨by simp [cellsN], .inl ⟨rfl, by simp [cellsN]⟩⟩, fun _ _ => rfl, fun b e => by cases e⟩ ?_
  rintro m T H ⟨g, u, hgm, t0, t3, t9, hC⟩
  by_cases hg : g < 4
  · have hgz : (g : Int) < 4 := by omega
    have wg : IntKind.i64.wrap ((g : Int) + 1) = ((g + 1 : Nat) : Int) := wrap_i64 (by omega) (by omega)
    simp [t0, t3, t9, hgz]
    refine LoopV.mk2 (I_k2 s S H0 g) 2 ⟨0, u, by omega, by simp [t0], by simp [t3], by simp [t9], by simp, by simp, hC⟩ ?_
    clear t0 t3 t9 hC
    rintro m2 T H ⟨n, u, hnm, t0, t3, t9, t4, t12, hC⟩
    by_cases hn : n < 2
    · have hnz : (n : Int) < 2 := by omega
      have wn : IntKind.i64.wrap ((n : Int) + 1) = ((n + 1 : Nat) : Int) := wrap_i64 (by omega) (by omega)
      simp [t0, t3, t9, t4, t12, hnz]
      refine LoopV.mk2 (I_k3 s S H0 g n) 24 ⟨0, u, by omega, by simp [t0], by simp [t3], by simp [t9], by simp [t4], by simp [t12], by simp, by simp, hC⟩ ?_
      clear t0 t3 t9 t4 t12 hC
      rintro m3 T H ⟨i, u, him, t0, t3, t9, t4, t12, t5, t15, hO, hold, hfr⟩
      have hun := hO.un
      by_cases hi : i < 24
      · have hiz : (i : Int) < 24 := by omega
        have wi : IntKind.i64.wrap ((i : Int) + 1) = ((i + 1 : Nat) : Int) := wrap_i64 (by omega) (by omega)
        obtain ⟨j, hj⟩ : ∃ j, j = g * 48 + n * 24 + i := ⟨_, rfl⟩
        have hoff : g * 912 + n * 456 + i * 19 = j * 19 := by omega
        have hkey : keyAt j = ((g : Int), (n : Int), (i : Int)) := by unfold keyAt; simp only [Prod.mk.injEq]; omega
        have hsp : (spotsOf S)[j]? = some (spotAt S (keyAt j)) := by unfold spotsOf; rw [List.getElem?_map, List.getElem?_range (by omega)]; rfl
        obtain ⟨f1, f2⟩ := fm_at (enc := encSpot) encSpot_len hsp
        have hs := cellsN_succ S j
        have hd := dictK_ok (k := keyAt j) hok.d
        have hll := cellsN_len S j
        have hnx : g * 48 + n * 24 + (i + 1) = j + 1 := by omega
        rw [← hj] at hO
        have hsH : H s = some (.cells ((spotsOf S).flatMap encSpot) 3648) := by rw [hold s (by rw [hR]; simp)]; exact hR
        rw [hlen] at f2
        have hcell : encC (cellAt S (keyAt j)) = [.int .i64 g, .int .i64 n, .int .i64 i, .bool (spotAt S (keyAt j)).has, .int .i64 (spotAt S (keyAt j)).val, immI (spotAt S (keyAt j)).list, immF (spotAt S (keyAt j)).dict] := by
          unfold encC cellAt spotAt; rw [hkey]; rfl
        have hdd : (spotAt S (keyAt j)).dict = dictK (keyAt j) S.D := rfl
        rw [← hdd] at hd
        have hl1 : (spotAt S (keyAt j)).list.length ≤ 100 := listK_le hok.l
        generalize hse : spotAt S (keyAt j) = sp at *
        have hsl := encSpot_len sp
        have hone : ∀ z, z ∈ encSpot sp → z.one = true := fun z hz => List.all_eq_true.1 (encSpot_one sp) z hz
        have g0 : (encSpot sp)[0]? = some (.bool sp.has) := rfl
        have g1 : (encSpot sp)[1]? = some (.int .i64 sp.val) := rfl
        have g2 : (encSpot sp)[2]? = some (immI sp.list) := rfl
        have hcN : cellsN S j = cellsN S j := rfl
        generalize hXe : (spotsOf S).flatMap encSpot = X at *
        generalize hEe : encSpot sp = E at *
        generalize cellsN S j = CN at *
        simp [t0, t3, t9, t4, t12, t5, t15, hiz, hnz, hgz, hi, hn, hg, hoff, hsH, f1, f2, hlen]
        intro y hy
        have htk : E.take 19 = E := List.take_of_length_le (by omega)
        simp [t0, t3, t9, t4, t12, t5, t15, Heap.set_self, Heap.set_set, hsl, htk]
        refine ⟨hone, ?_⟩
        have hyn : ∀ x, H0 x ≠ none → x ≠ y := fun x hx h => by rw [← h, hold x hx] at hy; exact hx hy
        have holdy : ∀ x, H0 x ≠ none → (H.set y (some (.cells E 19))) x = H0 x := fun x hx => by rw [Heap.set_ne _ _ (hyn x hx)]; exact hold x hx
        have hOy : OwnR (H.set y (some (.cells E 19))) 7 CN.length u (CN.flatMap encC) := hO.agree fun x hx => Heap.set_ne _ _ (fun e => by have := hO.live hx; rw [e, hy] at this; exact this rfl)
        have hyy : (H.set y (some (.cells E 19))) y = some (.cells E 19) := Heap.set_self _ _ _
        generalize H.set y (some (.cells E 19)) = Hy at *
        have hkf := k_fields (H := Hy) (s := sp) hd.1 hd.2
        rw [hEe] at hkf
        refine CallK.of hkf ?_
        rintro _ H3 ⟨rfl, rfl⟩
        have uI : ∀ l, un (immI l) = (True, immI l) := fun _ => rfl
        have uF : ∀ l, un (immF l) = (True, immF l) := fun _ => rfl
        have kI : ∀ l, AV.known (immI l) = true := fun _ => rfl
        have kF : ∀ l, AV.known (immF l) = true := fun _ => rfl
        have cI : ∀ l, AV.cellsL (immI l) = [immI l] := fun _ => rfl
        have cF : ∀ l, AV.cellsL (immF l) = [immF l] := fun _ => rfl
        have lI : ∀ l, lenOf (immI l) = some l.length := fun _ => rfl
        have lF : ∀ l, lenOf (immF l) = some l.length := fun _ => rfl
        obtain ⟨_, e0⟩ := List.getElem?_eq_some_iff.1 g0
        obtain ⟨_, e1⟩ := List.getElem?_eq_some_iff.1 g1
        obtain ⟨_, e2⟩ := List.getElem?_eq_some_iff.1 g2
        unfold immI at e2
        unfold immF
        clear hdd hse
        have hfull : fullP sp = (sp.has || (!sp.list.isEmpty || !sp.dict.isEmpty)) := rfl
        by_cases hf : fullP sp = true
        case neg =>
          rw [if_neg hf] at hs
          rw [hfull] at hf
          simp only [Bool.or_eq_true, not_or, Bool.not_eq_true, Bool.not_eq_false', Bool.not_eq_false, List.isEmpty_iff] at hf
          obtain ⟨hhf, hl0, hd0⟩ := hf
          simp [t0, t3, t9, t4, t12, t5, t15, hyy, htk, hsl, e0, e1, e2, hhf, hl0, hd0, hun, wi]
          exact Again2.mk (m3 - 1) (by omega) ⟨i + 1, u, by omega, by simp [t0], by simp [t3], by simp [t9], by simp [t4], by simp [t12], by simp [t5], by simp, by rw [hnx]; exact ⟨by rw [hs, List.append_nil]; exact hOy, holdy, hfr⟩⟩
        case' pos =>
          rw [if_pos hf] at hs
          rw [hfull] at hf
          by_cases hh : sp.has = true
          case' pos =>
            rw [hh] at hcell
            simp [t0, t3, t9, t4, t12, t5, t15, hyy, htk, hsl, e0, e1, e2, hh, hun]
          case' neg =>
            have hhf : sp.has = false := by simpa using hh
            rw [hhf] at hcell hf
            by_cases hl0 : 0 < sp.list.length
            case' pos =>
              simp [t0, t3, t9, t4, t12, t5, t15, hyy, htk, hsl, e0, e1, e2, hhf, hl0, hun]
            case' neg =>
              have hl1 : sp.list = [] := List.length_eq_zero_iff.1 (by omega)
              have hd0 : 0 < sp.dict.length := by
                cases hq : sp.dict with
                | nil => rw [hl1, hq] at hf; simp at hf
                | cons a l => simp
              simp [t0, t3, t9, t4, t12, t5, t15, hyy, htk, hsl, e0, e1, e2, hhf, hl0, hd0, hun]
        all_goals
          have hce : cellsOf H3 7 (.imm (encC (cellAt S (keyAt j))) 1 (some 1)) = some (encC (cellAt S (keyAt j))) := by rw [cellsOf_imm]; exact if_pos rfl
          have h1l : encC (cellAt S (keyAt j)) = encC (cellAt S (keyAt j)) := rfl
          rw [hcell] at hce
          refine vcAp_row (n := CN.length) (m := 1) (.inl hOy) hce rfl rfl (by omega) rfl (by omega) (.inl (by simp)) ?_
          intro u2 H4 g1 g2 g3
          have hun2 := g1.un
          simp [hun2, t15, wi]
          have hC2 : RowC H0 H4 S (j + 1) u2 := by
            refine ⟨by rw [hs, List.length_append, List.flatMap_append]; simpa [hcell] using g1, fun x hx => ?_, fun b hb => ?_⟩
            · rw [g2 x (fun e => hx (hfr x e)) (by rw [holdy x hx]; exact hx)]; exact holdy x hx
            · rcases g3 b hb with h | h
              · refine Classical.byContradiction fun hn => ?_
                rw [holdy b hn] at h; exact hn h
              · exact hfr b h
          exact Again2.mk (m3 - 1) (by omega) ⟨i + 1, u2, by omega, by simp [t0], by simp, by simp [t9], by simp [t4], by simp [t12], by simp [t5], by simp, by rw [hnx]; exact hC2⟩
      · have : i = 24 := by omega
        subst this
        simp [t0, t3, t9, t4, t12, t15, wn]
        exact Again2.mk (m2 - 1) (by omega) ⟨n + 1, u, by omega, by simp [t0], by simp [t3], by simp [t9], by simp [t4], by simp, by rw [show g * 48 + (n + 1) * 24 = g * 48 + n * 24 + 24 by omega]; exact ⟨hO, hold, hfr⟩⟩
    · have : n = 2 := by omega
      subst this
      simp [t0, t3, t9, t12, wg]
      exact Again2.mk (m - 1) (by omega) ⟨g + 1, u, by omega, by simp [t0], by simp [t3], by simp, by rw [show (g + 1) * 48 = g * 48 + 2 * 24 by omega]; exact hC⟩
  · have : g = 4 := by omega
    subst this
    have hun := hC.1.un
    simp [t0, t3, t9, hun]
    exact hC
theorem k_rcells {H : Heap} {s : Nat} {S : StT} (hR : RefQ H s S) (hok : OkS S) (hK : KeysOK S) : CC PP F_Rref10_State_Cells [.ptr s 0] H fun r H' => H' = H ∧ r = immC (cellsS S) := CC.frozen (sz := 7) (k_rcells0 hR hok hK)
end Go.Proofs.YtdpbbnnlbjgjgaaGreat
set_option linter.unusedVariables false
set_option linter.unusedSimpArgs false
set_option maxRecDepth 100000
set_option maxHeartbeats 8000000
namespace Go.Proofs.YtdpbbnnlbjgjgaaGreat
open Go.Sf
abbrev RawC := K3T × Bool × Int × List Int × FieldsL
instance : DecidableEq RawC := instDecidableEqProd
def encR (c : RawC) : List AV := k3 c.1 ++ [.bool c.2.1, .int .i64 c.2.2.1, immI c.2.2.2.1, immF c.2.2.2.2]
theorem encR_length (c : RawC) : (encR c).length = 7 := rfl
def immR (cs : List RawC) : AV := .imm (cs.flatMap encR) cs.length none
def rawC (c : CellT) : RawC := (c.1, c.2.1.isSome, c.2.1.getD 0, c.2.2.1, c.2.2.2)
theorem immC_raw (cs : List CellT) : immC cs = immR (cs.map rawC) := by
  unfold immC immR
  rw [List.flatMap_map, List.length_map]; rfl
theorem rawC_inj {x y : CellT} (h : rawC x = rawC y) : x = y := by
  obtain ⟨x1, x2, x3, x4⟩ := x
  obtain ⟨y1, y2, y3, y4⟩ := y
  unfold rawC at h
  simp only [Prod.mk.injEq] at h ⊢
  obtain ⟨h1, h2, h3, h4, h5⟩ := h
  refine ⟨h1, ?_, h4, h5⟩
  cases x2 <;> cases y2 <;> simp at h2 h3 ⊢
  exact h3
def okRaw (c : RawC) : Prop := c.2.2.2.1.length < 2 ^ 63 ∧ c.2.2.2.2.length < 2 ^ 63
def I_q1 (a b : List RawC) (m : Nat) (T : Nat → AV) (H : Heap) : Prop := ∃ i : Nat, m + i = a.length ∧ T 0 = immR a ∧ T 1 = immR b ∧ T 5 = .int .i64 i ∧ a.take i = b.take i
def I_q2 (a b : List RawC) (i : Nat) (x y : RawC) (m : Nat) (T : Nat → AV) (H : Heap) : Prop := ∃ k : Nat, m + k = x.2.2.2.1.length ∧ T 0 = immR a ∧ T 1 = immR b ∧ T 5 = .int .i64 i ∧ T 6 = .int .i64 k ∧ x.2.2.2.1.take k = y.2.2.2.1.take k
def I_q3 (a b : List RawC) (i : Nat) (x y : RawC) (m : Nat) (T : Nat → AV) (H : Heap) : Prop := ∃ k : Nat, m + k = x.2.2.2.2.length ∧ T 0 = immR a ∧ T 1 = immR b ∧ T 5 = .int .i64 i ∧ T 7 = .int .i64 k ∧ x.2.2.2.2.take k = y.2.2.2.2.take k
theorem raw_get {os : List RawC} {i : Nat} {o : RawC} (h : os[i]? = some o) : ((os.flatMap encR).drop (i * 7)).take 3 = k3 o.1 ∧ (os.flatMap encR)[i * 7 + 3]? = some (.bool o.2.1) ∧ (os.flatMap encR)[i * 7 + 4]? = some (.int .i64 o.2.2.1) ∧ (os.flatMap encR)[i * 7 + 5]? = some (immI o.2.2.2.1) ∧ (os.flatMap encR)[i * 7 + 6]? = some (immF o.2.2.2.2) ∧ i * 7 + 3 ≤ (os.flatMap encR).length := by
  have g := fun j (hj : j < 7) => fm_get encR_length h hj
  obtain ⟨h1, h3⟩ := fm_at encR_length h
  have h2 := congrArg (fun l : List AV => l.take 3) h1
  simp only [List.take_take] at h2
  exact ⟨h2, g 3 (by omega), g 4 (by omega), g 5 (by omega), g 6 (by omega), by omega⟩
theorem p_eqR (a b : List RawC) (ha : ∀ c ∈ a, okRaw c) (hl : a.length < 2 ^ 63) : CP PP F_Rref10_EqCells [immR a, immR b] (fun v => v = .bool (decide (a = b))) := by
  refine CP.by_vc ok_Rref10_EqCells (by simp) ?_
  unfold c_Rref10_EqCells
  by_cases hlm : a.length = b.length
  case neg =>
    have hne : a ≠ b := fun e => hlm (by rw [e])
    have hlz : ¬ (a.length : Int) = b.length := by omega
    simp [immR, hlm, hlz]
    exact hne
  simp [immR, hlm]
  refine LoopV.mk2 (I_q1 a b) a.length ⟨0, by omega, by simp [immR, hlm], by simp [immR], by simp, by simp⟩ ?_
  rintro m T H ⟨i, him, h0, h1, h5, hq⟩
  simp only [immR] at h0 h1
  by_cases hi : i < a.length
  case neg =>
    have hie : i = a.length := by omega
    subst hie
    rw [List.take_length, hlm, List.take_length] at hq
    simp [h0, h1, h5]
    exact hq
  obtain ⟨x, hx⟩ : ∃ x, a[i]? = some x := ⟨a[i], by simp [hi]⟩
  obtain ⟨y, hy⟩ : ∃ y, b[i]? = some y := ⟨b[i]'(by omega), by rw [List.getElem?_eq_getElem (by omega)]⟩
  obtain ⟨a0, a3, a4, a5, a6, a7⟩ := raw_get hx
  obtain ⟨b0, b3, b4, b5, b6, b7⟩ := raw_get hy
  have hib : i < b.length := by omega
  have hext := take_ext hx hy hq
  have hok := ha x (List.mem_of_getElem? hx)
  have wi : IntKind.i64.wrap ((i : Int) + 1) = ((i + 1 : Nat) : Int) := wrap_i64 (by omega) (by omega)
  have hxy : x = y ↔ x.1 = y.1 ∧ x.2.1 = y.2.1 ∧ x.2.2.1 = y.2.2.1 ∧ x.2.2.2.1 = y.2.2.2.1 ∧ x.2.2.2.2 = y.2.2.2.2 := by
    obtain ⟨x1, x2, x3, x4, x5⟩ := x
    obtain ⟨y1, y2, y3, y4, y5⟩ := y
    simp only [Prod.mk.injEq]
  have bad : ¬ x = y → ¬ a = b := fun h => ne_of_take (fun e => h (hext.2 e))
  unfold immI at a5 b5
  unfold immF at a6 b6
  generalize hXe : a.flatMap encR = X at *
  generalize hYe : b.flatMap encR = Y at *
  by_cases c1 : x.1 = y.1
  case neg =>
    have := bad fun e => c1 (hxy.1 e).1
    simp [h0, h1, h5, hi, hib, a0, a3, a4, a5, a6, a7, b0, b3, b4, b5, b6, b7, flat3, c1]
    exact this
  by_cases c2 : x.2.1 = y.2.1
  case neg =>
    have := bad fun e => c2 (hxy.1 e).2.1
    simp [h0, h1, h5, hi, hib, a0, a3, a4, a5, a6, a7, b0, b3, b4, b5, b6, b7, flat3, c1, c2]
    exact this
  by_cases c3 : x.2.2.1 = y.2.2.1
  case neg =>
    have := bad fun e => c3 (hxy.1 e).2.2.1
    simp [h0, h1, h5, hi, hib, a0, a3, a4, a5, a6, a7, b0, b3, b4, b5, b6, b7, flat3, c1, c2, c3]
    exact this
  by_cases c4 : x.2.2.2.1.length = y.2.2.2.1.length
  case neg =>
    have := bad fun e => c4 (by rw [e])
    have c4z : ¬ (x.2.2.2.1.length : Int) = y.2.2.2.1.length := by omega
    simp [h0, h1, h5, hi, hib, a0, a3, a4, a5, a6, a7, b0, b3, b4, b5, b6, b7, flat3, c1, c2, c3, c4, c4z]
    exact this
  by_cases c5 : x.2.2.2.2.length = y.2.2.2.2.length
  case neg =>
    have := bad fun e => c5 (by rw [e])
    have c5z : ¬ (x.2.2.2.2.length : Int) = y.2.2.2.2.length := by omega
    simp [h0, h1, h5, hi, hib, a0, a3, a4, a5, a6, a7, b0, b3, b4, b5, b6, b7, flat3, c1, c2, c3, c4, c5, c5z]
    exact this
  simp [h0, h1, h5, hi, hib, a0, a3, a4, a5, a6, a7, b0, b3, b4, b5, b6, b7, flat3, c1, c2, c3, c4, c5]
  refine LoopV.mk2 (I_q2 a b i x y) x.2.2.2.1.length ⟨0, by omega, by simp [h0, immR, hXe], by simp [h1, immR, hYe], by simp [h5], by simp, by simp⟩ ?_
  clear h0 h1 h5
  rintro m2 T H ⟨k, hkm, h0, h1, h5, h6, hq2⟩
  simp only [immR, hXe, hYe] at h0 h1
  by_cases hk : k < x.2.2.2.1.length
  case pos =>
    obtain ⟨u, hu⟩ : ∃ u, x.2.2.2.1[k]? = some u := ⟨x.2.2.2.1[k], by simp [hk]⟩
    obtain ⟨w, hw⟩ : ∃ w, y.2.2.2.1[k]? = some w := ⟨y.2.2.2.1[k]'(by omega), by rw [List.getElem?_eq_getElem (by omega)]⟩
    have l1 : (intsV x.2.2.2.1)[k]? = some (.int .i64 u) := by unfold intsV; rw [List.getElem?_map, hu]; rfl
    have l2 : (intsV y.2.2.2.1)[k]? = some (.int .i64 w) := by unfold intsV; rw [List.getElem?_map, hw]; rfl
    have hext2 := take_ext hu hw hq2
    have wk : IntKind.i64.wrap ((k : Int) + 1) = ((k + 1 : Nat) : Int) := wrap_i64 (by omega) (by have := hok.1; omega)
    have hky : k < y.2.2.2.1.length := by omega
    simp [h0, h1, h5, h6, hi, hib, hk, hky, a5, b5, l1, l2, wk]
    refine ⟨fun hne => ?_, fun hne => ?_⟩
    · exact bad fun e => ne_of_take (fun e2 => hne (hext2.2 e2)) (by rw [e])
    · exact Again2.mk (m2 - 1) (by omega) ⟨k + 1, by omega, by simp [h0, immR, hXe], by simp [h1, immR, hYe], by simp [h5], by simp, hext2.1 hne⟩
  have hke : k = x.2.2.2.1.length := by omega
  subst hke
  rw [List.take_length, c4, List.take_length] at hq2
  simp [h0, h1, h5, h6, hi, hib, a5, b5]
  refine LoopV.mk2 (I_q3 a b i x y) x.2.2.2.2.length ⟨0, by omega, by simp [h0, immR, hXe], by simp [h1, immR, hYe], by simp [h5], by simp, by simp⟩ ?_
  clear h0 h1 h5 h6
  rintro m3 T H ⟨k, hkm, h0, h1, h5, h7, hq3⟩
  simp only [immR, hXe, hYe] at h0 h1
  by_cases hk : k < x.2.2.2.2.length
  case pos =>
    obtain ⟨u, hu⟩ : ∃ u, x.2.2.2.2[k]? = some u := ⟨x.2.2.2.2[k], by simp [hk]⟩
    obtain ⟨w, hw⟩ : ∃ w, y.2.2.2.2[k]? = some w := ⟨y.2.2.2.2[k]'(by omega), by rw [List.getElem?_eq_getElem (by omega)]⟩
    obtain ⟨l1, m1⟩ := fm_at (enc := encFd) encFd_length hu
    obtain ⟨l2, m2'⟩ := fm_at (enc := encFd) encFd_length hw
    rw [← fieldsA_eq] at l1 m1 l2 m2'
    have hext2 := take_ext hu hw hq3
    have wk : IntKind.i64.wrap ((k : Int) + 1) = ((k + 1 : Nat) : Int) := wrap_i64 (by omega) (by have := hok.2; omega)
    have hky : k < y.2.2.2.2.length := by omega
    simp [h0, h1, h5, h7, hi, hib, hk, hky, a6, b6, l1, l2, m1, m2', wk, flat2]
    refine ⟨fun hne => ?_, fun hne => ?_⟩
    · exact bad fun e => ne_of_take (fun e2 => hne (hext2.2 e2)) (by rw [e])
    · exact Again2.mk (m3 - 1) (by omega) ⟨k + 1, by omega, by simp [h0, immR, hXe], by simp [h1, immR, hYe], by simp [h5], by simp, hext2.1 hne⟩
  have hke : k = x.2.2.2.2.length := by omega
  subst hke
  rw [List.take_length, c5, List.take_length] at hq3
  simp [h0, h1, h5, h7, hi, hib, a6, b6, wi]
  exact Again2.mk (m - 1) (by omega) ⟨i + 1, by omega, by simp [h0, immR, hXe], by simp [h1, immR, hYe], by simp, hext.1 (hxy.2 ⟨c1, c2, c3, hq2, hq3⟩)⟩
theorem raw_map {a b : List CellT} : a.map rawC = b.map rawC ↔ a = b := ⟨fun h => (List.map_inj_right fun _ _ => rawC_inj).1 h, fun h => by rw [h]⟩
theorem cellsS_raw {S : StT} (h : OkS S) : ∀ c ∈ (cellsS S).map rawC, okRaw c := fun c hc => by
  obtain ⟨x, hx, rfl⟩ := List.mem_map.1 hc
  unfold cellsS at hx
  obtain ⟨k, hk, rfl⟩ := List.mem_map.1 hx
  have h1 : ((getK k S.L).getD []).length ≤ 100 := listK_le h.l
  have h2 := dictK_ok (k := k) h.d
  have h3 : ((getK k S.D).getD []).length ≤ 8 := risF_le h2.1 h2.2
  exact ⟨by show ((getK k S.L).getD []).length < _; omega, by show ((getK k S.D).getD []).length < _; omega⟩
theorem p_eqS {A B : StT} (h : OkS A) (hl : (cellsS A).length < 2 ^ 63) : CP PP F_Rref10_EqCells [immC (cellsS A), immC (cellsS B)] (fun v => v = .bool (decide (cellsS A = cellsS B))) := by
  rw [immC_raw, immC_raw]
  have := p_eqR ((cellsS A).map rawC) ((cellsS B).map rawC) (cellsS_raw h) (by rw [List.length_map]; exact hl)
  simpa only [raw_map] using this
end Go.Proofs.YtdpbbnnlbjgjgaaGreat
set_option linter.unusedVariables false
set_option linter.unusedSimpArgs false
set_option maxRecDepth 100000
set_option maxHeartbeats 8000000
namespace Go.Proofs.YtdpbbnnlbjgjgaaGreat
open Go.Sf
theorem good_mutl {g : List AV} (h : Sf.Good (.slice shMut) g) : ∃ l : List MutT, g = [immM l none] ∧ l.length < 2 ^ 63 ∧ ∀ m ∈ l, okM m := by
  obtain ⟨gs, rfl, h1, h2⟩ := h
  obtain ⟨ms, e1, e2, e3⟩ := good_muts h2
  exact ⟨ms, by unfold immM; rw [e1, e2], by omega, e3⟩
def lmC (ms : List (List MutT)) : List AV := ms.map fun l => immM l none
def immMM (ms : List (List MutT)) : AV := .imm (lmC ms) ms.length none
theorem good_mutls : ∀ {gs : List (List AV)}, (∀ g ∈ gs, Sf.Good (.slice shMut) g) → ∃ ms : List (List MutT), gs.flatten = lmC ms ∧ gs.length = ms.length ∧ ∀ l ∈ ms, l.length < 2 ^ 63 ∧ ∀ m ∈ l, okM m
  | [], _ => ⟨[], rfl, rfl, by simp⟩
  | g :: gs, h => by
    obtain ⟨m, rfl, hm⟩ := good_mutl (h g (by simp))
    obtain ⟨ms, h1, h2, h3⟩ := good_mutls (gs := gs) fun g hg => h g (by simp [hg])
    refine ⟨m :: ms, by simp [h1, lmC], by simp [h2], fun x hx => ?_⟩
    simp at hx
    rcases hx with rfl | hx
    · exact hm
    · exact h3 x hx
def cutL (ms : List (List MutT)) (i : Nat) : List (List MutT) := (ms.take (min i 30)).map (·.take 12)
theorem cutL_le (ms : List (List MutT)) (i : Nat) : (cutL ms i).length ≤ 30 := by
  unfold cutL; rw [List.length_map, List.length_take]; omega
theorem cutL_12 {ms : List (List MutT)} {i : Nat} {l : List MutT} (h : l ∈ cutL ms i) : l.length ≤ 12 := by
  unfold cutL at h
  obtain ⟨k, _, rfl⟩ := List.mem_map.1 h
  rw [List.length_take]; omega
theorem cutL_step {ms : List (List MutT)} {i : Nat} {l : List MutT} (h : ms[i]? = some l) (hi : i < 30) : cutL ms (i + 1) = cutL ms i ++ [l.take 12] := by
  unfold cutL
  rw [show min (i + 1) 30 = i + 1 by omega, show min i 30 = i by omega, List.take_add_one, h, List.map_append]; rfl
theorem cutL_len {ms : List (List MutT)} {i : Nat} (hi : i ≤ ms.length) (h30 : i ≤ 30) : (cutL ms i).length = i := by
  unfold cutL; rw [List.length_map, List.length_take]; omega
def I_cut (ms : List (List MutT)) (H0 : Heap) (m : Nat) (T : Nat → AV) (H : Heap) : Prop :=
  ∃ (i : Nat) (u : AV), i + m = 30 ∧ i ≤ ms.length ∧ T 0 = immMM ms ∧ T 3 = u ∧ T 4 = .int .i64 i ∧ OwnR H 1 i u (lmC (cutL ms i)) ∧ (∀ x, H0 x ≠ none → H x = H0 x) ∧ ∀ b, blkOf u = some b → H0 b = none
theorem k_cut0 (ms : List (List MutT)) {H0 : Heap} : CC PP F_Rlaw7_cut [immMM ms] H0 fun r H' => OwnR H' 1 (cutL ms ms.length).length r (lmC (cutL ms ms.length)) ∧ (∀ x, H0 x ≠ none → H' x = H0 x) ∧ ∀ b, blkOf r = some b → H0 b = none := by
  refine CC.by_vc ok_Rlaw7_cut (by simp) ?_
  unfold c_Rlaw7_cut
  simp [immMM]
  refine LoopV.mk2 (I_cut ms H0) 30 ⟨0, .nils, by omega, by omega, by simp [immMM], by simp, by simp, ⟨by simp [cutL, lmC], .inl ⟨rfl, rfl⟩⟩, fun _ _ => rfl, fun b e => by cases e⟩ ?_
  rintro m T H ⟨i, u, him, hil, t0, t3, t4, hO, hold, hfr⟩
  simp only [immMM] at t0
  have hun := hO.un
  by_cases hi : i < ms.length
  case neg =>
    have hie : i = ms.length := by omega
    have hcl := cutL_len (ms := ms) (i := ms.length) (by omega) (by omega)
    subst hie
    simp [t0, t3, t4, hun]
    rw [hcl]
    exact ⟨hO, hold, hfr⟩
  by_cases h30 : i < 30
  case neg =>
    have hz : ¬ (i : Int) < 30 := by omega
    have hcc : cutL ms i = cutL ms ms.length := by unfold cutL; rw [show min i 30 = 30 by omega, show min ms.length 30 = 30 by omega]
    have hcl := cutL_len (ms := ms) (i := i) (by omega) (by omega)
    rw [hcc] at hO hcl
    simp [t0, t3, t4, hi, hz, hun]
    rw [hcl]
    exact ⟨hO, hold, hfr⟩
  obtain ⟨l, hl⟩ : ∃ l, ms[i]? = some l := ⟨ms[i], by simp [hi]⟩
  have hld : (lmC ms)[i]? = some (immM l none) := by unfold lmC; rw [List.getElem?_map, hl]; rfl
  unfold immM at hld
  have hz : (i : Int) < 30 := by omega
  have wi : IntKind.i64.wrap ((i : Int) + 1) = ((i + 1 : Nat) : Int) := wrap_i64 (by omega) (by omega)
  have hm6 := fm_length (enc := mutCs) mutCs_six l
  have htk := fm_take (enc := mutCs) mutCs_six l
  have hs := cutL_step hl h30
  obtain ⟨q, hq⟩ : ∃ q, q = min l.length 12 := ⟨_, rfl⟩
  have hqz : (if (12 : Int) < (l.length : Int) then (12 : Int) else (l.length : Int)) = (q : Int) := by split <;> omega
  have hql : q ≤ l.length := by omega
  have hval : AV.imm ((l.flatMap mutCs).take (q * 6)) q none = immM (l.take 12) none := by
    unfold immM
    rw [htk, List.length_take, show min 12 l.length = q by omega]
    congr 2
    rw [hq]
    rcases Nat.le_total l.length 12 with h | h
    · rw [Nat.min_eq_left h, List.take_length, List.take_of_length_le h]
    · rw [Nat.min_eq_right h]
  generalize hXe : l.flatMap mutCs = X at *
  simp [t0, t3, t4, hi, hz, hld, hun, hqz, hql, hm6]
  rw [hval]
  have hce : cellsOf H 1 (.imm [immM (l.take 12) none] 1 (some 1)) = some [immM (l.take 12) none] := by rw [cellsOf_imm]; exact if_pos rfl
  refine vcAp_row (n := i) (m := 1) (.inl hO) hce rfl rfl (by omega) rfl (by omega) (.inl (by simp)) ?_
  intro u2 H2 g1 g2 g3
  have hun2 := g1.un
  simp [hun2, t4, wi]
  refine Again2.mk (m - 1) (by omega) ⟨i + 1, u2, by omega, by omega, by simp [t0, immMM], by simp, by simp, by rw [hs]; simpa [lmC] using g1, fun x hx => ?_, fun b hb => ?_⟩
  · rw [g2 x (fun e => hx (hfr x e)) (by rw [hold x hx]; exact hx)]; exact hold x hx
  · rcases g3 b hb with h | h
    · refine Classical.byContradiction fun hn => ?_
      rw [hold b hn] at h; exact hn h
    · exact hfr b h
theorem k_cut (ms : List (List MutT)) {H : Heap} : CC PP F_Rlaw7_cut [immMM ms] H fun r H' => H' = H ∧ r = immMM (cutL ms ms.length) := CC.frozen (sz := 1) (k_cut0 ms)
end Go.Proofs.YtdpbbnnlbjgjgaaGreat
set_option linter.unusedVariables false
set_option linter.unusedSimpArgs false
namespace Go.Proofs.YtdpbbnnlbjgjgaaGreat
open Go.Sf
theorem keysOK_done : ∀ {ms : List MutT} {S : StT}, OkS S → KeysOK S → (∀ m ∈ ms, mayM m = true) → okRun S ms = true → KeysOK (doneS ms S)
  | [], S, h, hk, hm, hr => hk
  | m :: ms, S, h, hk, hm, hr => by
    simp only [okRun, Bool.and_eq_true, decide_eq_true_eq] at hr
    exact keysOK_done (ms := ms) (okS_one h) (keysOK_one h hk (hm m (by simp)) hr.1) (fun x hx => hm x (by simp [hx])) hr.2
theorem do_cases {S : StT} (h : OkS S) (ms : List MutT) : (∃ e, doS ms S = (S, e)) ∨ (doS ms S = (doneS ms S, 0) ∧ (∀ m ∈ ms, mayM m = true) ∧ okRun S ms = true) := by
  by_cases hm : ∀ m ∈ ms, mayM m = true
  · rw [doS_run h hm]
    by_cases hr : okRun S ms = true
    · rw [if_pos hr]; exact .inr ⟨rfl, hm, hr⟩
    · rw [if_neg hr]; exact .inl ⟨_, rfl⟩
  · have : ∃ m, m ∈ ms ∧ mayM m = false := by
      refine Classical.byContradiction fun hn => hm fun m hmm => ?_
      cases hq : mayM m with
      | true => rfl
      | false => exact absurd ⟨m, hmm, hq⟩ hn
    obtain ⟨m, hmm, hq⟩ := this
    exact .inl ⟨1, doS_bad hmm hq⟩
theorem keysOK_do {S : StT} (h : OkS S) (hk : KeysOK S) (ms : List MutT) : KeysOK (doS ms S).1 := by
  rcases do_cases h ms with ⟨e, he⟩ | ⟨he, h1, h2⟩ <;> rw [he]
  · exact hk
  · exact keysOK_done h hk h1 h2
theorem cells_len (S : StT) : (cellsS S).length ≤ cntS S := by
  unfold cellsS
  rw [List.length_map]; exact keysS_length S
/-- A state, and the reference's. -/
structure TwoS (H : Heap) (a w : Nat) (S : StT) (F : Nat → Prop) : Prop where
  s : StQ H a S F
  r : RefQ H w S
  o : ¬ F w
  k : KeysOK S
theorem TwoS.ok {H : Heap} {a w : Nat} {S : StT} {F : Nat → Prop} (h : TwoS H a w S F) : OkS S := h.s.ok
theorem RefQ.live {H : Heap} {w : Nat} {S : StT} (h : RefQ H w S) : H w ≠ none := by unfold RefQ at h; rw [h]; simp
theorem RefQ.keep {H H' : Heap} {w : Nat} {S : StT} (h : RefQ H w S) (k : H' w = H w) : RefQ H' w S := by unfold RefQ at *; rw [k]; exact h
theorem TwoS.step {H H2 H3 : Heap} {a w : Nat} {S S' : StT} {F F2 : Nat → Prop} (h : TwoS H a w S F) (h1 : StQ H2 a S' F2) (u1 : UpdF F F2 H H2) (h2 : RefQ H3 w S') (u2 : ∀ x, x ≠ w → H2 x ≠ none → H3 x = H2 x) (hk : KeysOK S') : TwoS H3 a w S' F2 :=
  have no : ¬ F2 w := fun e => (u1.2 w e).elim h.o h.r.live
  ⟨h1.keep fun x hx => u2 x (fun e => no (by rw [← e]; exact hx)) (h1.live hx), h2, no, hk⟩
theorem TwoS.new {H2 H3 : Heap} {a w : Nat} {F : Nat → Prop} (h1 : StQ H2 a StT.nil F) (hw : H2 w = none) (h2 : RefQ H3 w StT.nil) (u2 : ∀ x, x ≠ w → H3 x = H2 x) : TwoS H3 a w StT.nil F :=
  have no : ¬ F w := fun e => h1.live e hw
  ⟨h1.keep fun x hx => u2 x (fun e => no (by rw [← e]; exact hx)), h2, no, keysOK_nil⟩
/-- Both do the same. -/
theorem TwoS.ref {H H2 : Heap} {a w : Nat} {S S' : StT} {F F2 : Nat → Prop} (h : TwoS H a w S F) (h1 : StQ H2 a S' F2) (u1 : UpdF F F2 H H2) : RefQ H2 w S := h.r.keep (u1.1 w h.o h.r.live)
end Go.Proofs.YtdpbbnnlbjgjgaaGreat
