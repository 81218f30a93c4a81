/- A row of the program's own, sorted by the library in place: the abstract heap behind it. No function of a program is named here. -/
import Derived.Test.YtdpbbnnlbjgjgaaGreatKB
import Derived.Shelf.GgSortFunc.RowK
set_option linter.unusedVariables false
set_option linter.unusedSimpArgs false
namespace Go.Sf
open Go.Sort
section
variable {α : Type} [Inhabited α]
theorem flatMap_get {β : Type} {enc : α → List β} {k : Nat} (hk : ∀ x, (enc x).length = k) : ∀ (ds : List α) (t : Nat), t < ds.length * k → (ds.flatMap enc)[t]? = (enc (ds.getD (t / k) default))[t % k]?
  | [], t, h => by simp at h
  | d :: ds, t, h => by
    have k0 : 0 < k := by rcases Nat.eq_zero_or_pos k with e | e; · subst e; simp at h
                          · exact e
    rw [List.flatMap_cons]
    by_cases ht : t < k
    · rw [List.getElem?_append_left (by rw [hk]; exact ht), Nat.div_eq_of_lt ht, Nat.mod_eq_of_lt ht]; rfl
    · rw [List.getElem?_append_right (by rw [hk]; omega), hk, flatMap_get hk ds (t - k) (by rw [List.length_cons, Nat.succ_mul] at h; omega)]
      have e1 : t / k = (t - k) / k + 1 := by rw [Nat.div_eq_sub_div k0 (by omega)]
      have e2 : t % k = (t - k) % k := by rw [Nat.mod_eq_sub_mod (by omega)]
      rw [e1, e2]; simp
omit [Inhabited α] in
theorem flatMap_length {β : Type} {enc : α → List β} {k : Nat} (hk : ∀ x, (enc x).length = k) : ∀ ds : List α, (ds.flatMap enc).length = ds.length * k
  | [] => by simp
  | d :: ds => by rw [List.flatMap_cons, List.length_append, hk, flatMap_length hk ds, List.length_cons, Nat.succ_mul]; omega
theorem flatK_eq {enc : α → List Value} {k : Nat} (hk : ∀ x, (enc x).length = k) (d : Array α) : flatK enc k d = (d.toList.flatMap enc).toArray := by
  refine ext_get! (by simp [flatMap_length hk]) fun t ht => ?_
  have ht' : t < d.size * k := by simpa using ht
  have k0 : 0 < k := by rcases Nat.eq_zero_or_pos k with e | e; · subst e; simp at ht'
                        · exact e
  rw [get_flatK enc k d t ht']
  have h := flatMap_get hk d.toList t (by simpa using ht')
  have hlt : t < (d.toList.flatMap enc).length := by rw [flatMap_length hk]; simpa using ht'
  have hdk : t / k < d.size := Nat.div_lt_of_lt_mul (by rw [Nat.mul_comm]; exact ht')
  have e : d.toList.getD (t / k) default = d[t / k]! := by
    rw [getElem!_pos d (t / k) hdk]; simp [List.getD, hdk]
  rw [e] at h
  rw [getElem!_pos (d.toList.flatMap enc).toArray t (by simpa using hlt)]
  have hm : t % k < (enc d[t / k]!).length := by rw [hk]; exact Nat.mod_lt _ k0
  rw [List.getElem?_eq_getElem hlt, List.getElem?_eq_getElem hm] at h
  rw [List.getElem_toArray, Option.some.inj h]
  exact (getElem!_pos (enc d[t / k]!) (t % k) hm)
theorem putCells_take {F c : Array Value} (h : F.size ≤ c.size) : (putCells id 0 F c).toList.take F.size = F.toList ∧ (putCells id 0 F c).size = c.size := by
  refine ⟨?_, by simp [putCells]⟩
  apply List.ext_getElem?
  intro i
  rw [List.getElem?_take]
  by_cases hi : i < F.size
  · rw [if_pos hi]
    have hc : i < c.size := by omega
    simp [putCells, hi, hc]
  · rw [if_neg hi]
    simp; omega
omit [Inhabited α] in
theorem vrels_app {M : Mem} : ∀ {xs ys : List AV} {vs : List Value}, VRels M (xs ++ ys) vs ↔ ∃ v1 v2, vs = v1 ++ v2 ∧ VRels M xs v1 ∧ VRels M ys v2
  | [], ys, vs => by
    constructor
    · intro h; exact ⟨[], vs, rfl, by simp [VRels], h⟩
    · rintro ⟨v1, v2, rfl, h1, h2⟩
      simp only [VRels] at h1; subst h1; exact h2
  | x :: xs, ys, vs => by
    rw [List.cons_append]
    constructor
    · intro h
      simp only [VRels] at h
      obtain ⟨v, vs', rfl, h1, h2⟩ := h
      obtain ⟨v1, v2, rfl, h3, h4⟩ := vrels_app.1 h2
      exact ⟨v :: v1, v2, rfl, by simp only [VRels]; exact ⟨v, v1, rfl, h1, h3⟩, h4⟩
    · rintro ⟨v1, v2, rfl, h1, h2⟩
      simp only [VRels] at h1
      obtain ⟨v, v1', rfl, h3, h4⟩ := h1
      simp only [VRels]
      exact ⟨v, v1' ++ v2, rfl, h3, vrels_app.2 ⟨v1', v2, rfl, h4, h2⟩⟩
omit [Inhabited α] in
theorem vrels_flat {encA : α → List AV} {encV : α → List Value} (hA : ∀ M x vs, VRels M (encA x) vs ↔ vs = encV x) {M : Mem} : ∀ {ds : List α} {vs : List Value}, VRels M (ds.flatMap encA) vs ↔ vs = ds.flatMap encV
  | [], vs => by simp [VRels]
  | d :: ds, vs => by
    rw [List.flatMap_cons, List.flatMap_cons, vrels_app]
    constructor
    · rintro ⟨v1, v2, rfl, h1, h2⟩
      rw [hA] at h1
      rw [vrels_flat hA] at h2
      rw [h1, h2]
    · rintro rfl
      exact ⟨_, _, rfl, (hA _ _ _).2 rfl, (vrels_flat hA).2 rfl⟩
theorem sort_rel {encA : α → List AV} {encV : α → List Value} {k : Nat} (hV : ∀ x, (encV x).length = k) (hkA : ∀ x, (encA x).length = k) (hA : ∀ M x vs, VRels M (encA x) vs ↔ vs = encV x) {M : Mem} {H : Heap} {w : World} (hr : Rel M H w) {b cap : Nat} {ds : List α}
    (hb : H b = some (.cells (ds.flatMap encA) cap)) : HoldsK encV k w b 0 ds.toArray ∧ b < w.heap.size ∧ ∀ (n : Nat) (d' : Array α) (os : Array Obj), d'.size = ds.length →
      Rel M (H.set b (some (.cells (d'.toList.flatMap encA) cap))) (grow (putRowK encV k (Sort.ahead w n) b 0 d') os) ∧ Fr M H w M (H.set b (some (.cells (d'.toList.flatMap encA) cap))) (grow (putRowK encV k (Sort.ahead w n) b 0 d') os) := by
  obtain ⟨o, ho, hrel⟩ := hr.live b _ hb
  simp only [BRel] at hrel
  obtain ⟨c, e, fr, rfl, hcs, hle, hfr, hvs⟩ := hrel
  rw [vrels_flat hA] at hvs
  rw [flatMap_length hkA] at hle hvs
  refine ⟨?_, hr.lt hb, ?_⟩
  · intro j hj
    rw [flatK_eq hV] at hj ⊢
    have hj' : j < ds.length * k := by simpa [flatMap_length hV] using hj
    refine ⟨?_, ?_⟩
    · unfold World.cell?
      simp only [ho, Nat.zero_add]
      have h2 : (c.toList.take (ds.length * k))[j]? = (ds.flatMap encV)[j]? := by rw [hvs]
      rw [List.getElem?_take_of_lt hj', Array.getElem?_toList] at h2
      have hlt : j < (ds.flatMap encV).length := by rw [flatMap_length hV]; exact hj'
      rw [List.getElem?_eq_getElem hlt] at h2
      simp [h2]
      rw [List.getElem?_eq_getElem hlt]; rfl
    · unfold World.frozen?
      simp only [ho]
      simp; intro h; omega
  · intro n d' os hd
    have hsz : (flatK encV k d').size ≤ c.size := by simp [hd]; omega
    obtain ⟨p1, p2⟩ := putCells_take hsz
    have e1 : putRowK encV k (Sort.ahead w n) b 0 d' = Sort.ahead (wset w b (.cells (putCells id 0 (flatK encV k d') c) e fr)) n := by
      unfold putRowK putRow mapBlock Sort.ahead wset
      congr 1
      rw [modify_eq _ _ _ ho]; rfl
    rw [e1]
    have r1 : Rel M (H.set b (some (.cells (d'.toList.flatMap encA) cap))) (wset w b (.cells (putCells id 0 (flatK encV k d') c) e fr)) := hr.wset hb (by
      simp only [BRel]
      refine ⟨_, _, _, rfl, by rw [p2, hcs], by rw [flatMap_length hkA]; simp [hd]; exact hle, hfr, ?_⟩
      rw [vrels_flat hA, flatMap_length hkA]
      have : d'.toList.length * k = (flatK encV k d').size := by simp
      rw [this, p1, flatK_eq hV])
    have f1 := Fr.wset (M := M) hb (some (.cells (d'.toList.flatMap encA) cap)) (.cells (putCells id 0 (flatK encV k d') c) e fr) (w := w)
    generalize wset w b (.cells (putCells id 0 (flatK encV k d') c) e fr) = W at *
    have bl : RowKit.Below W.heap.size W (grow (Sort.ahead W n) os) := ⟨rfl, rfl, rfl, by simp [grow, Sort.ahead], fun k hk => by
      show (W.heap ++ os)[k]? = W.heap[k]?
      rw [Array.getElem?_append_left hk]⟩
    obtain ⟨r2, f2⟩ := r1.below bl
    exact ⟨r2, f1.trans f2⟩
end
end Go.Sf
