/- The operations that make, write or call are right: stores, strings' bytes, appends, calls; and all of them together. -/
import Derived.Test.YtffifddlooligaaSf15
set_option linter.unusedVariables false
set_option linter.unusedSimpArgs false
namespace Go.Sf
section
variable {P : Program} {n : Nat} {o : Oper} {S : AS} {K : AS → Prop} {M : Mem} {a : Act} {w : World} {Q : Exit → Act → World → Prop}

theorem fr_ok {n : Nat} {fr : Nat × Nat} (h : fr.1 = fr.2 ∨ n ≤ fr.1) : ∀ j, j < n → ¬ (fr.1 ≤ j ∧ j < fr.2) := by
  intro j hj; omega
theorem splice_take {c ys : List Value} {o k L : Nat} (hy : ys.length = k) (h1 : o + k ≤ L) (h2 : L ≤ c.length) :
    (c.take o ++ ys ++ c.drop (o + k)).take L = (c.take L).take o ++ ys ++ (c.take L).drop (o + k) := by
  have hl : (c.take o ++ ys).length = o + k := by simp; omega
  rw [List.take_append, hl, List.take_of_length_le (by omega), List.drop_take, List.take_take, Nat.min_eq_left (by omega)]
theorem store_sound (ht : TRel n M S.T a.tmps) (hr : Rel M S.H w) (hd : a.defers = []) {t : TypeId} {x y : Operand} {sz : Option Nat} {k : Nat} (ho : o.op = .store t x y) (hsz : SzP P t sz) {i : TypeInfo} (hi : P.info? t = some i) (hik : i.size = k) (hk1 : sz = none → k = 1)
    (hdst : o.dst = none) {v1 v2 : AV} (h1 : VRel M v1 (a.eval x)) (h2 : VRel M v2 (a.eval y)) (hv : vcE P (.store sz) [v1, v2] o.dst S K) : o.wp P a w (Fin n M S.H w K) Q := by
  have key : ∀ (b off : Nat) (vs cs : List AV) (m : Nat), a.eval x = .pointer (some ⟨b, off, none⟩) → S.H b = some (.cells vs m) → cs.length = k → off + k ≤ vs.length → VRels M cs (a.eval y).cells.toList → cs.all AV.one = true →
      K ⟨S.T, S.H.set b (some (.cells (vs.take off ++ cs ++ vs.drop (off + k)) m))⟩ → o.wp P a w (Fin n M S.H w K) Q := by
    intro b off vs cs m hx hb hck hle hcs hone hK
    obtain ⟨ob, hob, hbr⟩ := hr.live b _ hb
    simp only [BRel] at hbr
    obtain ⟨c, e, fr, rfl, hcm, hlm, hfr, hrel⟩ := hbr
    have hlen := hcs.length
    have hys : (a.eval y).cells.toList.length = k := by omega
    have hrun : (execOp a.eval o).run P w = .ok .skip (if (a.eval y).cells.toList = [] then w else wset w b (.cells (splice c.toList (off + 0) (a.eval y).cells.toList).toArray e fr)) := by
      unfold execOp
      rw [ho]
      simp only [Instr.storeAt, hx, run_bind, run_sureAddr, storeVar, run_sizeOf hi, hik]
      have hsz' : ¬ ((a.eval y).cells.size ≠ k) := by
        have : (a.eval y).cells.size = k := by simpa using hys
        omega
      rw [if_neg hsz']
      simp only [run_bind, run_pure]
      rw [run_storeCells (a.eval y).cells.toList 0 w c hob (by omega) (fr_ok (by rw [hcm]; exact hfr)) (ones_rel hcs hone)]
    split at hrun
    · rename_i hnil
      have hk0 : k = 0 := by rw [hnil] at hys; simpa using hys.symm
      refine wp_skip' ht hd hdst hrun hr (.refl _ _ _) ?_
      have : S.H.set b (some (.cells (vs.take off ++ cs ++ vs.drop (off + k)) m)) = S.H := by
        subst hk0
        have hcs0 : cs = [] := List.length_eq_zero_iff.1 hck
        subst hcs0
        simp only [List.append_nil, Nat.add_zero, List.take_append_drop]
        funext q
        unfold Heap.set
        by_cases hq : q = b
        · rw [if_pos hq, hq, hb]
        · rw [if_neg hq]
      rwa [this] at hK
    · refine wp_skip' ht hd hdst hrun (hr.wset hb ?_) (Fr.wset hb _ _) hK
      simp only [BRel]
      refine ⟨_, e, fr, rfl, ?_, ?_, hfr, ?_⟩
      · simp only [List.size_toArray]; rw [splice_length (by rw [hys]; simp; omega)]; simpa using hcm
      · have hl3 : (vs.take off ++ cs ++ vs.drop (off + k)).length = vs.length := by simp; omega
        rw [hl3]; exact hlm
      · have hl2 : (vs.take off ++ cs ++ vs.drop (off + k)).length = vs.length := by simp; omega
        rw [hl2]
        have e1 : (splice c.toList (off + 0) (a.eval y).cells.toList).take vs.length = (c.toList.take vs.length).take off ++ (a.eval y).cells.toList ++ (c.toList.take vs.length).drop (off + k) := by
          unfold splice
          rw [hys]
          simp only [Nat.add_zero]
          exact splice_take hys (by omega) (by simp; omega)
        simp only []
        rw [e1]
        exact ((hrel.take off).append hcs).append (hrel.drop (off + k))
  cases sz with
  | none =>
    have hk := hk1 rfl
    subst hk
    cases v1 <;> (try (simp only [vcE] at hv; done))
    rename_i b off
    simp only [vcE] at hv
    obtain ⟨hone, hv⟩ := hv
    split at hv
    · rename_i vs m hb
      obtain ⟨hlt, hv⟩ := hv
      have hkn : v2.known = true := by cases v2 <;> first | rfl | (simp [AV.one] at hone)
      have hcl : v2.cellsL = [v2] := by cases v2 <;> first | rfl | (simp [AV.one] at hone)
      have hcs := known_cells h2 hkn
      rw [hcl] at hcs
      refine key b off vs [v2] m (vr_ptr h1) hb rfl (by omega) hcs (by simp [hone]) ?_
      have : vs.take off ++ [v2] ++ vs.drop (off + 1) = vs.set off v2 := by
        rw [List.set_eq_take_append_cons_drop, if_pos hlt]; simp
      rw [this]; exact hv
    · exact hv.elim
  | some kk =>
    have hkk : kk = k := by
      obtain ⟨_, i', hi', hs'⟩ := hsz
      rw [hi] at hi'; cases hi'; omega
    subst hkk
    cases v1 <;> (try (simp only [vcE] at hv; done))
    cases v2 <;> (try (simp only [vcE] at hv; done))
    rename_i b off cs
    simp only [vcE] at hv
    obtain ⟨hone, hl, hv⟩ := hv
    split at hv
    · rename_i vs m hb
      obtain ⟨hlt, hv⟩ := hv
      have hcs := known_cells h2 rfl
      exact key b off vs cs m (vr_ptr h1) hb hl hlt hcs hone hv
    · exact hv.elim
/-- How a block is marked as one that a string may share: behind its end. -/
def fzn (n : Nat) (fr : Nat × Nat) : Nat × Nat := if fr.1 == fr.2 then (n, n + 1) else (min fr.1 n, max fr.2 (n + 1))
theorem run_mark {b off : Nat} {c : Array Value} {e : TypeId} {fr : Nat × Nat} (h : w.heap[b]? = some (.cells c e fr)) : (markStringish ⟨b, off, none⟩).run P w = .ok () (wset w b (.cells c e (fzn c.size fr))) := by
  have hs : (shape b).run P w = .ok (some (e, c.size)) w := by simp only [shape, Sem.run, World.shape?, h]
  unfold markStringish
  simp only [run_bind, hs, freeze, Sem.run]
  congr 1
  unfold World.freeze wset
  rw [if_neg (by omega)]
  congr 1
  rw [modify_eq _ _ _ h]
  rfl
theorem fzn_ok {n : Nat} {fr : Nat × Nat} (h : fr.1 = fr.2 ∨ n ≤ fr.1) : (fzn n fr).1 = (fzn n fr).2 ∨ n ≤ (fzn n fr).1 := by
  unfold fzn
  split
  · exact .inr (Nat.le_refl _)
  · rename_i hne
    rcases h with h | h
    · exact absurd (by simpa using h) hne
    · right; simp only; omega
theorem wset_wpush (w : World) (o o' : Obj) : wset (wpush w o) w.heap.size o' = wpush w o' := by
  unfold wset wpush
  congr 1
  apply Array.ext_getElem?
  intro i
  rw [Array.getElem?_setIfInBounds, Array.getElem?_push, Array.getElem?_push]
  by_cases hi : w.heap.size = i
  · subst hi; simp
  · rw [if_neg hi, if_neg (Ne.symm hi), if_neg (Ne.symm hi)]
theorem s2b_sound (ht : TRel n M S.T a.tmps) (hr : Rel M S.H w) (hd : a.defers = []) {src dst e : TypeId} {x : Operand} (ho : o.op = .convert src dst x) (hs : P.underlying src = some .string) (hds : P.underlying dst = some (.slice e)) (he : P.underlying e = some (.int .u8))
    {v : AV} (h1 : VRel M v (a.eval x)) (hv : vcE P .s2b [v] o.dst S K) : o.wp P a w (Fin n M S.H w K) Q := by
  cases v <;> (try (simp only [vcE] at hv; done))
  rename_i s
  simp only [vcE] at hv
  have hx := vr_str h1
  have hbytes : VRels M (s.data.toList.map byteV) (s.data.map fun b => Value.int .u8 b.toNat).toList := by
    simp only [Array.toList_map]
    induction s.data.toList with
    | nil => exact .nil
    | cons b l ih => exact .cons (by simp only [byteV, VRel]) ih
  let q := w.tape w.drawn (.appendCap s.size 0 e) % (2 ^ 63 - s.size)
  have hrun : ∃ fr, (execOp a.eval o).run P w = .ok (.value (.slice (some ⟨w.heap.size, 0, none⟩) s.size (s.size + q))) (wpush { w with drawn := w.drawn + 1 } (.cells ((s.data.map fun (b : UInt8) => Value.int .u8 b.toNat).toList ++ List.replicate q (Value.int .u8 0)).toArray e fr)) := by
    refine ⟨(s.size + q, s.size + q + 1), ?_⟩
    unfold execOp
    rw [ho]
    simp only [hx, convert, run_bind, run_underlying hs, run_underlying hds, run_underlying he, Conv.stringToBytes, run_appendCap, run_newRow, run_pure]
    have hcap : s.size + w.tape w.drawn (.appendCap s.size 0 e) % (2 ^ 63 - s.size) - s.size = q := by show s.size + q - s.size = q; omega
    rw [hcap]
    have hrep : ∀ c : Array Value, (wpush { w with drawn := w.drawn + 1 } (.cells c e (0, 0))).heap[w.heap.size]? = some (.cells c e (0, 0)) := fun c => wpush_new { w with drawn := w.drawn + 1 } _
    rw [run_mark (hrep _)]
    simp only []
    have hw := fun c o => wset_wpush { w with drawn := w.drawn + 1 } (.cells c e (0, 0)) o
    simp only at hw
    rw [hw]
    have hsz : s.data.size = s.size := rfl
    congr 3
    · apply Array.toList_inj.1; simp
    · simp [fzn, hsz]
  obtain ⟨fr, hrun⟩ := hrun
  refine newSlice_step ht hr hd (e := e) (fr := fr) hbytes (len := s.size) (cap := s.size + q) (by omega) true hrun (fun h => by cases h) ?_
  simp only [if_true]
  exact ⟨none, fun x hx => (by cases hx), hv⟩
end
end Go.Sf
