/- The operations that make, write or call are right: appends, calls; and all of them together. -/
import Derived.Test.YtffifddlooligaaSf16
set_option linter.unusedVariables false
set_option linter.unusedSimpArgs false
namespace Go.Sf
section
variable {P : Program} {n : Nat} {o : Oper} {S : AS} {K : AS → Prop} {M : Mem} {a : Act} {w : World} {Q : Exit → Act → World → Prop}

/-- A live block's slice, held for good. -/
theorem hold_imm {H : Heap} (hr : Rel M H w) {b k : Nat} {cs : List AV} (hb : H b = some (.cells cs k)) {len cap : Nat} (hl : len ≤ cap) {c : Option Nat} (hc : ∀ x, c = some x → cap = x) :
    ∃ M', Rel M' (H.set b none) w ∧ Fr M H w M' (H.set b none) w ∧ VRel M' (.imm cs len c) (.slice (some ⟨b, 0, none⟩) len cap) := by
  obtain ⟨ob, hob, hbr⟩ := hr.live b _ hb
  simp only [BRel] at hbr
  obtain ⟨ca, e, fr, rfl, hcm, hlm, hfr, hrel⟩ := hbr
  obtain ⟨h1, h2⟩ := hr.hold hb hob
  refine ⟨_, h1, h2, ?_⟩
  simp only [VRel]
  refine ⟨_, ca.toList.take cs.length, cap, rfl, hc, hl, fun h => (by cases h), fun x hx => ?_, VRels.mono h2.mle _ _ hrel⟩
  cases hx
  refine ⟨rfl, fun j u hj => ?_⟩
  simp only [madd, if_true, Nat.zero_add]
  rw [List.getElem?_take] at hj
  split at hj
  · exact hj
  · cases hj
theorem set_set (H : Heap) (b : Nat) (x y : Option Blk) : (H.set b x).set b y = H.set b y := by
  funext q
  unfold Heap.set
  split <;> rfl
theorem mark_sound (ht : TRel n M S.T a.tmps) (hr : Rel M S.H w) (hd : a.defers = []) {src dst e1 e : TypeId} {x : Operand} (ho : o.op = .convert src dst x) (hs : P.underlying src = some (.slice e1)) (hds : P.underlying dst = some (.slice e)) (he : P.underlying e = some (.int .u8)) (heq : src = dst)
    {v : AV} (h1 : VRel M v (a.eval x)) (hv : vcE P .mark [v] o.dst S K) : o.wp P a w (Fin n M S.H w K) Q := by
  cases v <;> (try (simp only [vcE] at hv; done))
  rename_i b off m c
  cases off with
  | succ off => simp only [vcE] at hv
  | zero =>
    simp only [vcE] at hv
    split at hv
    · rename_i cs k hb
      obtain ⟨rfl, rfl, hl, hK⟩ := hv
      obtain ⟨ob, hob, hbr⟩ := hr.live b _ hb
      have hbr0 := hbr
      simp only [BRel] at hbr
      obtain ⟨ca, el, fr, rfl, hcm, hlm, hfr, hrel⟩ := hbr
      have hx := vr_sl h1
      subst heq
      have hrun : (execOp a.eval o).run P w = .ok (.value (.slice (some ⟨b, 0, none⟩) c c)) (wset w b (.cells ca el (fzn ca.size fr))) := by
        unfold execOp
        rw [ho]
        simp only [hx, convert, run_bind, run_underlying hs, beq_self_eq_true, run_underlying hds]
        have he' : P.underlying e1 = some (.int .u8) := by rw [hs] at hds; cases hds; exact he
        rw [hs] at hds; cases hds
        simp only [run_underlying he, run_bind, run_mark hob, run_pure]
      have hr1 : Rel M (S.H.set b (some (.cells cs c))) (wset w b (.cells ca el (fzn ca.size fr))) := hr.wset hb (by
        simp only [BRel]
        exact ⟨ca, el, _, rfl, hcm, hlm, by rw [← hcm]; exact fzn_ok (by rw [hcm]; exact hfr), hrel⟩)
      obtain ⟨M', q1, q2, q3⟩ := hold_imm hr1 (Heap.set_self _ _ _) (Nat.le_refl c) (c := some c) (fun x hx => by cases hx; rfl)
      rw [set_set] at q1 q2
      exact wp_value ht hd hrun q3 q1 ((Fr.wset hb _ _).trans q2) hK
    · exact hv.elim

/-- What is put behind: its cells. -/
theorem source_read {H : Heap} (hr : Rel M H w) {sz : Nat} {v : AV} {x : Value} (h : VRel M v x) {cs : List AV} (e : cellsOf H sz v = some cs) {m : Nat} (hm : lenOf v = some m) :
    ∃ xs, VRels M cs xs ∧ xs.length = m * sz ∧ Builtin.lenOf x = Sem.pure m ∧ ∀ d, (Builtin.firstCells sz m x).run P { w with drawn := d } = .ok xs.toArray { w with drawn := d } := by
  by_cases hs : ∃ s, v = .str s
  · obtain ⟨s, rfl⟩ := hs
    simp only [cellsOf] at e
    split at e
    · rename_i hsz
      cases e
      simp only [lenOf, Option.some.injEq] at hm; subst hm
      have hx := vr_str h
      subst hx
      refine ⟨(s.data.map fun (b : UInt8) => Value.int .u8 b.toNat).toList, ?_, by simp [hsz], rfl, fun d => ?_⟩
      · simp only [Array.toList_map]
        induction s.data.toList with
        | nil => exact .nil
        | cons b l ih => exact .cons (by simp only [byteV, VRel]) ih
      · simp only [Builtin.firstCells, run_pure]
        congr 1
        apply Array.toList_inj.1
        simp
    · cases e
  · obtain ⟨A, k, c, xs, rfl, h1, h2, h3, h4, h5⟩ := cellsOf_read hr h (fun s hs' => hs ⟨s, hs'⟩) e
    rw [h1] at hm; cases hm
    refine ⟨xs, h3, h2, rfl, fun d => run_firstCells h2 (fun hA => (h4 hA).2) fun ad hA => ⟨(h5 ad hA).1, fun j u hj => (h5 ad hA).2 j u hj⟩⟩


theorem append_sound (ht : TRel n M S.T a.tmps) (hr : Rel M S.H w) (hd : a.defers = []) {args : Array Operand} {ts : Array TypeId} {s x : Operand} {t t2 e : TypeId} {sz bytes : Nat} {z : Value} (ho : o.op = .call { callee := .builtin .append, args := args, argTypes := ts }) (hargs : args = #[s, x]) (hts : ts = #[t, t2])
    (hu : P.underlying t = some (.slice e)) (h2 : (∃ e2, P.underlying t2 = some (.slice e2)) ∨ P.underlying t2 = some .string) (he : ElemOK P e sz bytes z)
    {v1 v2 : AV} (hs : VRel M v1 (a.eval s)) (hx : VRel M v2 (a.eval x)) {frozen : Bool} (hv : vcE P (.append frozen sz bytes) [v1, v2] o.dst S K) : o.wp P a w (Fin n M S.H w K) Q := by
  subst hargs; subst hts
  simp only [vcE] at hv
  split at hv
  case h_2 => exact hv.elim
  rename_i old ob new k m q1 q2 q3 q4
  obtain ⟨hone, hbytes, hv⟩ := hv
  obtain ⟨xs, hxs, hxl, hlx, hfx⟩ := source_read (P := P) hr hx q2 q4
  have hfx0 : (Builtin.firstCells sz m (a.eval x)).run P w = .ok xs.toArray w := hfx w.drawn
  have hones := ones_rel hxs hone
  -- the operation is the built-in's run
  have hop : ∀ {v' : Value} {w' : World}, (Builtin.append_ #[t, t2] o.type #[a.eval s, a.eval x]).run P w = .ok v' w' → (execOp a.eval o).run P w = .ok (.value v') w' := by
    intro v' w' h
    have e1 : #[s, x].map a.eval = #[a.eval s, a.eval x] := by simp
    have e2 : execOp a.eval o = (do pure (.value (← Builtin.append_ #[t, t2] o.type (#[s, x].map a.eval)))) := by
      unfold execOp
      rw [ho]
      rfl
    rw [e2, e1, run_bind, h]; rfl
  have hsz := he.sz
  -- a new array
  have grow : ∀ (A : Option Addr) (cap : Nat) (olds : List Value), a.eval s = .slice A k cap → cap < k + m → VRels M old olds → (∀ d, (Builtin.firstCells sz k (.slice A k cap)).run P { w with drawn := d } = .ok olds.toArray { w with drawn := d }) → olds.length = k * sz →
      (v1.isNils = true → new ≠ []) → o.wp P a w (Fin n M S.H w K) Q := by
    intro A cap olds hA hcap hold hfo hol hnn
    obtain ⟨cap', rest, d, g1, g2, g3⟩ := run_append_grow (P := P) (w := w) (ty := o.type) hu h2 he hlx hfo hfx hcap hbytes
    rw [← hA] at g3
    have hrun := hop g3
    rw [show olds ++ xs ++ rest = (olds ++ xs) ++ rest from rfl] at hrun
    have hlen : (olds ++ xs).length + rest.length = cap' * sz := by
      rw [List.length_append, hol, hxl, g2, ← Nat.add_mul, ← Nat.add_mul]
      congr 1; omega
    have sub : ∀ b, S.H.less ob b = S.H b ∨ S.H.less ob b = none := by
      intro b
      cases ob with
      | none => exact .inl rfl
      | some b' =>
        unfold Heap.less Heap.set
        by_cases hb : b = b'
        · exact .inr (if_pos hb)
        · exact .inl (if_neg hb)
    have hr' : Rel M (S.H.less ob) w := hr.forget sub
    have hf' : Fr M S.H w M (S.H.less ob) w := (Fr.refl M S.H w).forget sub
    cases frozen with
    | true =>
      simp only [if_true] at hv
      obtain ⟨p1, p2⟩ := (hr'.drawn d).push_hold ((olds ++ xs) ++ rest).toArray e (0, 0)
      refine wp_value ht hd hrun ?_ p1 (hf'.trans ((Fr.drawn M _ w d).trans p2)) hv
      simp only [VRel]
      refine ⟨_, olds ++ xs, cap', rfl, fun x hx => (by cases hx), g1, fun h => (by cases h), fun y hy => ?_, VRels.mono p2.mle _ _ (hold.append hxs)⟩
      cases hy
      refine ⟨rfl, fun j u hj => ?_⟩
      simp only [madd, if_true, Nat.zero_add]
      have : j < (olds ++ xs).length := (List.getElem?_eq_some_iff.1 hj).1
      rw [List.getElem?_append_left this]; exact hj
    | false =>
      simp only [Bool.false_eq_true, if_false] at hv
      have hb := brel_cells (hold.append hxs) rest e
      rw [hlen] at hb
      refine wp_value ht hd hrun (v := .sl w.heap.size 0 (k + m) cap') (by simp only [VRel]) ((hr'.drawn d).push hb) (hf'.trans ((Fr.drawn M _ w d).trans (Fr.push _ _ _ _ _))) ?_
      refine hv.2.2 hnn _ cap' ?_ g1
      rcases sub w.heap.size with h | h
      · rw [h]; exact hr.fresh (Nat.le_refl _)
      · exact h
  unfold appOld at q1
  split at q1
  · -- nil
    cases q1
    simp only [lenOf, Option.some.injEq] at q3; subst q3
    have hA := vr_nils hs
    by_cases hm : m = 0
    · subst hm
      have hx0 : xs = [] := by simpa using hxl
      subst hx0
      have hn0 : new = [] := by simpa using hxs.length
      subst hn0
      have hrun := hop (by rw [hA]; exact run_append_fits (ty := o.type) hu h2 he hlx hfx0 (Nat.le_refl _) rfl)
      cases frozen with
      | true =>
        simp only [if_true] at hv
        refine wp_value ht hd hrun ?_ hr (.refl _ _ _) hv
        simp only [VRel]
        exact ⟨none, [], 0, rfl, fun x hx => (by cases hx), Nat.le_refl _, fun _ => ⟨rfl, rfl⟩, fun y hy => (by cases hy), .nil⟩
      | false =>
        simp only [Bool.false_eq_true, if_false] at hv
        refine wp_value ht hd hrun (v := .nils) ?_ hr (.refl _ _ _) (hv.1 (by first | trivial | rfl) (by first | trivial | rfl))
        simp only [VRel]
    · have hnn : new ≠ [] := by
        intro h
        have := hxs.length
        rw [h, hxl] at this
        rcases Nat.mul_eq_zero.1 this.symm with h | h <;> omega
      exact grow none 0 [] hA (by omega) .nil (fun d => rfl) (by simp) (fun _ => hnn)
  · -- held for good, cut at its end
    rename_i cs k' c
    split at q1
    · rename_i hc
      cases q1
      obtain ⟨rfl, hcl⟩ := hc
      simp only [lenOf, Option.some.injEq] at q3; subst q3
      have hs0 := hs
      simp only [VRel] at hs0
      obtain ⟨A, vs, kc, hA, u2, u3, u4, u5, u6⟩ := hs0
      have hkc := u2 _ rfl
      subst hkc
      by_cases hm : m = 0
      · subst hm
        have hx0 : xs = [] := by simpa using hxl
        subst hx0
        have hn0 : new = [] := by simpa using hxs.length
        subst hn0
        have hrun := hop (by rw [hA]; exact run_append_fits (ty := o.type) hu h2 he hlx hfx0 (Nat.le_refl _) (w' := w) (by cases A <;> rfl))
        cases frozen with
        | true =>
          simp only [if_true] at hv
          refine wp_value ht hd hrun ?_ hr (.refl _ _ _) hv
          simp only [VRel, List.append_nil, Nat.add_zero]
          exact ⟨A, vs, _, rfl, fun x hx => (by cases hx), Nat.le_refl _, u4, u5, u6⟩
        | false =>
          simp only [Bool.false_eq_true, if_false] at hv
          exact absurd rfl (hv.2.1 (by first | trivial | rfl))
      · refine grow A _ vs hA (by omega) u6 (fun d => run_firstCells (by rw [← u6.length, hcl]) (fun hA => (u4 hA).2) fun ad hA => ⟨(u5 ad hA).1, fun j u hj => ?_⟩) (by rw [← u6.length, hcl]) (fun h => by simp [AV.isNils] at h)
        exact (hr.mem _ _ _ ((u5 ad hA).2 j u hj)).2
    · cases q1
  · -- a row of the call's own
    rename_i b k' c
    split at q1
    · rename_i vs kk hb
      split at q1
      · rename_i hc
        cases q1
        obtain ⟨hvl, rfl, hkc⟩ := hc
        simp only [lenOf, Option.some.injEq] at q3; subst q3
        have hA := vr_sl hs
        obtain ⟨ob', hob, hbr⟩ := hr.live b _ hb
        simp only [BRel] at hbr
        obtain ⟨ca, el, fr, rfl, hcm, hlm, hfr, hrel⟩ := hbr
        have holds : ∀ j u, (ca.toList.take old.length)[j]? = some u → w.cell? ⟨b, 0 + j, none⟩ = some u := by
          intro j u hj
          rw [List.getElem?_take] at hj
          split at hj
          · rw [Nat.zero_add]; exact cells_at hob hj
          · cases hj
        by_cases hfit : k' + m ≤ c
        · have hxlen : k' * sz + xs.length ≤ ca.size := by
            rw [hxl, hcm, ← Nat.add_mul]; exact Nat.mul_le_mul_right _ hfit
          have hst := run_storeCells (P := P) (o := k' * sz) xs 0 w ca hob (by omega) (fr_ok (by rw [hcm]; exact hfr)) hones
          have hrun := hop (by rw [hA]; exact run_append_fits (ty := o.type) hu h2 he hlx hfx0 hfit (A := some ⟨b, 0, none⟩) (by simp only [add_off, Nat.zero_add]; exact hst))
          -- the world behind it, and what the heap tells of it
          have hnew : Rel M (S.H.set b (some (.cells (old ++ new) (c * sz)))) (if xs = [] then w else wset w b (.cells (splice ca.toList (k' * sz + 0) xs).toArray el fr)) ∧
              Fr M S.H w M (S.H.set b (some (.cells (old ++ new) (c * sz)))) (if xs = [] then w else wset w b (.cells (splice ca.toList (k' * sz + 0) xs).toArray el fr)) := by
            split
            · rename_i hx0
              subst hx0
              have hn0 : new = [] := by simpa using hxs.length
              subst hn0
              have : S.H.set b (some (.cells (old ++ []) (c * sz))) = S.H := by
                funext q
                unfold Heap.set
                by_cases hq : q = b
                · rw [if_pos hq, hq, hb, List.append_nil]
                · rw [if_neg hq]
              rw [this]
              exact ⟨hr, .refl _ _ _⟩
            · refine ⟨hr.wset hb ?_, Fr.wset hb _ _⟩
              simp only [BRel, Nat.add_zero]
              have hl2 := hxs.length
              refine ⟨_, el, fr, rfl, ?_, ?_, hfr, ?_⟩
              · simp only [List.size_toArray]; rw [splice_length (by simpa using hxlen)]; simpa using hcm
              · rw [List.length_append, hvl, hl2, hxl, ← Nat.add_mul]; exact Nat.mul_le_mul_right _ hfit
              · have : (splice ca.toList (k' * sz) xs).take (old ++ new).length = ca.toList.take old.length ++ xs := by
                  unfold splice
                  rw [hvl]
                  have e1 : (ca.toList.take (k' * sz) ++ xs).length = (old ++ new).length := by
                    simp only [List.length_append, List.length_take, Array.length_toList, hvl, hl2]
                    omega
                  rw [← e1, List.take_left]
                simp only []
                rw [this]
                exact hrel.append hxs
          obtain ⟨n1, n2⟩ := hnew
          cases frozen with
          | true =>
            simp only [if_true] at hv
            obtain ⟨M', p1, p2, p3⟩ := hold_imm n1 (Heap.set_self _ _ _) hfit (c := none) (fun x hx => by cases hx)
            rw [set_set] at p1 p2
            exact wp_value ht hd hrun p3 p1 (n2.trans p2) hv
          | false =>
            simp only [Bool.false_eq_true, if_false] at hv
            have := hv.2.2 (fun h => by simp [AV.isNils] at h) b c (Heap.set_self _ _ _) hfit
            simp only [Heap.less, set_set] at this
            exact wp_value ht hd hrun (by simp only [VRel]) n1 n2 this
        · exact grow _ c _ hA (by omega) hrel (fun d => run_firstCells (by simp [hvl]; rw [hcm]; exact Nat.min_eq_left (Nat.mul_le_mul_right _ hkc)) (fun h => by cases h) fun ad hA => by
            cases hA
            exact ⟨rfl, holds⟩) (by simp [hvl]; rw [hcm]; exact Nat.min_eq_left (Nat.mul_le_mul_right _ hkc)) (fun h => by simp [AV.isNils] at h)
      · cases q1
    · cases q1
  · cases q1
end
end Go.Sf
