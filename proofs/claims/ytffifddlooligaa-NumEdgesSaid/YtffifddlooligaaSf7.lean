/- The framework's operations that look alone: slices' cells, conversions, slicing, lengths; and all of them together. -/
import Derived.Test.YtffifddlooligaaSf6
import Derived.Laws.BytesArg
set_option linter.unusedVariables false
set_option linter.unusedSimpArgs false
namespace Go.Sf

def EqTy (P : Program) (t : TypeId) : EqT → Prop
  | .bool => P.underlying t = some .bool
  | .ptr => ∃ e, P.underlying t = some (.pointer e)
  | .slice => ∃ e, P.underlying t = some (.slice e)
  | .map => ∃ k e, P.underlying t = some (.map k e)
  | .func => ∃ p r v, P.underlying t = some (.func p r v)
  | .flat ks => flat P 1000 t = some ks ∧ aggT P t = some true
theorem vr_nilp {M : Mem} {x : Value} (h : VRel M .nilp x) : x = .pointer none := by simpa only [VRel] using h
theorem vr_ptr {M : Mem} {b o : Nat} {x : Value} (h : VRel M (.ptr b o) x) : x = .pointer (some ⟨b, o, none⟩) := by simpa only [VRel] using h
theorem vr_iptr {M : Mem} {cs : List AV} {i : Nat} {x : Value} (h : VRel M (.iptr cs i) x) : ∃ a, x = .pointer (some a) := by
  simp only [VRel] at h; obtain ⟨_, _, _, h, _⟩ := h; exact ⟨_, h⟩
theorem vr_nils {M : Mem} {x : Value} (h : VRel M .nils x) : x = .slice none 0 0 := by simpa only [VRel] using h
theorem vr_sl {M : Mem} {b o n c : Nat} {x : Value} (h : VRel M (.sl b o n c) x) : x = .slice (some ⟨b, o, none⟩) n c := by simpa only [VRel] using h
theorem vr_imm {M : Mem} {cs : List AV} {n : Nat} {c : Option Nat} {x : Value} (h : VRel M (.imm cs (n + 1) c) x) : ∃ a l k, x = .slice (some a) l k := by
  simp only [VRel] at h
  obtain ⟨A, vs, kc, h, k2, k3, k4, _⟩ := h
  cases A with
  | none => have := (k4 rfl).1; omega
  | some A => exact ⟨_, _, _, h⟩
theorem vr_nilm {M : Mem} {x : Value} (h : VRel M .nilm x) : x = .map none := by simpa only [VRel] using h
theorem vr_mp {M : Mem} {b : Nat} {x : Value} (h : VRel M (.mp b) x) : x = .map (some b) := by simpa only [VRel] using h
theorem vr_nilf {M : Mem} {x : Value} (h : VRel M .nilf x) : x = .nilFunc := by simpa only [VRel] using h
theorem vr_fn {M : Mem} {f : Fn} {xs ys : List AV} {x : Value} (h : VRel M (.fn f xs ys) x) : ∃ a b, x = .func f a b := by
  simp only [VRel] at h; obtain ⟨_, _, h, _⟩ := h; exact ⟨_, _, h⟩
theorem eqV_sound {P : Program} {M : Mem} {w : World} {c : EqT} {a b : AV} {x y : Value} (h : VRel M a x) (k : VRel M b y) {t : TypeId} (ht : EqTy P t c) {r : Bool} (e : eqV c a b = some r) :
    (Op.equal t x y).run P w = .ok r w := by
  unfold Op.equal
  suffices hh : ∀ D, 1000 ≤ D + 1 → (Op.equalIn (D + 1) t x y).run P w = .ok r w from hh 9999 (by omega)
  intro D hD
  cases c with
  | bool =>
    simp only [EqTy] at ht
    cases a <;> cases b <;> simp only [eqV, reduceCtorEq, Option.some.injEq] at e
    rw [vr_bool h, vr_bool k, ← e]
    simp only [Op.equalIn, run_bind, run_underlying ht, run_pure]
    rename_i a b
    cases a <;> cases b <;> rfl
  | ptr =>
    obtain ⟨el, ht⟩ := ht
    cases a <;> cases b <;> simp only [eqV, reduceCtorEq, Option.some.injEq] at e
    · rw [vr_nilp h, vr_nilp k, ← e]; simp only [Op.equalIn, run_bind, run_underlying ht, run_pure, Option.isNone]
    · rw [vr_nilp h, vr_ptr k, ← e]; simp only [Op.equalIn, run_bind, run_underlying ht, run_pure, Option.isNone]
    · obtain ⟨_, k⟩ := vr_iptr k; rw [vr_nilp h, k, ← e]; simp only [Op.equalIn, run_bind, run_underlying ht, run_pure, Option.isNone]
    · rw [vr_ptr h, vr_nilp k, ← e]; simp only [Op.equalIn, run_bind, run_underlying ht, run_pure, Option.isNone]
    · obtain ⟨_, h⟩ := vr_iptr h; rw [h, vr_nilp k, ← e]; simp only [Op.equalIn, run_bind, run_underlying ht, run_pure, Option.isNone]
  | slice =>
    obtain ⟨el, ht⟩ := ht
    cases a <;> cases b <;> (try (rename_i n _; cases n)) <;> simp only [eqV, reduceCtorEq, Option.some.injEq] at e
    · rw [vr_nils h, vr_nils k, ← e]; simp only [Op.equalIn, run_bind, run_underlying ht, run_pure, Option.isNone]
    all_goals first
      | (rw [vr_nils h, vr_sl k, ← e]; simp only [Op.equalIn, run_bind, run_underlying ht, run_pure, Option.isNone]; done)
      | (rw [vr_sl h, vr_nils k, ← e]; simp only [Op.equalIn, run_bind, run_underlying ht, run_pure, Option.isNone]; done)
      | (obtain ⟨_, _, _, k⟩ := vr_imm k; rw [vr_nils h, k, ← e]; simp only [Op.equalIn, run_bind, run_underlying ht, run_pure, Option.isNone]; done)
      | (obtain ⟨_, _, _, h⟩ := vr_imm h; rw [h, vr_nils k, ← e]; simp only [Op.equalIn, run_bind, run_underlying ht, run_pure, Option.isNone]; done)
  | map =>
    obtain ⟨el, el2, ht⟩ := ht
    cases a <;> cases b <;> simp only [eqV, reduceCtorEq, Option.some.injEq] at e
    · rw [vr_nilm h, vr_nilm k, ← e]; simp only [Op.equalIn, run_bind, run_underlying ht, run_pure, Option.isNone]
    · rw [vr_nilm h, vr_mp k, ← e]; simp only [Op.equalIn, run_bind, run_underlying ht, run_pure, Option.isNone]
    · rw [vr_mp h, vr_nilm k, ← e]; simp only [Op.equalIn, run_bind, run_underlying ht, run_pure, Option.isNone]
  | func =>
    obtain ⟨el, el2, el3, ht⟩ := ht
    cases a <;> cases b <;> simp only [eqV, reduceCtorEq, Option.some.injEq] at e
    · rw [vr_nilf h, vr_nilf k, ← e]; simp only [Op.equalIn, run_bind, run_underlying ht, run_pure, Option.isNone]
    · obtain ⟨_, _, k⟩ := vr_fn k; rw [vr_nilf h, k, ← e]; simp only [Op.equalIn, run_bind, run_underlying ht, run_pure, Option.isNone]
    · obtain ⟨_, _, h⟩ := vr_fn h; rw [h, vr_nilf k, ← e]; simp only [Op.equalIn, run_bind, run_underlying ht, run_pure, Option.isNone]
  | flat ks =>
    cases a <;> cases b <;> simp only [eqV, reduceCtorEq] at e
    simp only [VRel] at h k
    obtain ⟨X, rfl, hX⟩ := h
    obtain ⟨Y, rfl, hY⟩ := k
    have := flat_sound 1000 (D + 1) t ks ht.1 hD w true ht.2 _ _ r e _ _ hX hY
    simpa [valT] using this

theorem cellsOf_read {M : Mem} {H : Heap} {w : World} (r : Rel M H w) {sz : Nat} {v : AV} {x : Value} (h : VRel M v x) (hv : ∀ s, v ≠ .str s) {cs : List AV} (e : cellsOf H sz v = some cs) :
    ∃ A n c xs, x = .slice A n c ∧ lenOf v = some n ∧ xs.length = n * sz ∧ VRels M cs xs ∧ (A = none → c = 0 ∧ xs = []) ∧
      ∀ a, A = some a → a.spot = none ∧ ∀ j u, xs[j]? = some u → w.cell? ⟨a.block, a.off + j, none⟩ = some u := by
  unfold cellsOf at e
  split at e
  · cases e
    simp only [VRel] at h
    exact ⟨none, 0, 0, [], h, rfl, by simp, .nil, fun _ => ⟨rfl, rfl⟩, fun a ha => by cases ha⟩
  · rename_i cs' n c
    split at e
    · rename_i hl
      cases e
      simp only [VRel] at h
      obtain ⟨A, vs, k, h1, h2, h3, h4, h5, h6⟩ := h
      refine ⟨A, n, k, vs, h1, rfl, by rw [← h6.length, hl], h6, h4, fun a ha => ⟨(h5 a ha).1, fun j u hj => (r.mem _ _ _ ((h5 a ha).2 j u hj)).2⟩⟩
    · cases e
  · rename_i b o n c
    split at e
    · rename_i hn0
      cases e
      simp only [VRel] at h
      refine ⟨some ⟨b, o, none⟩, n, c, [], h, rfl, by simp [hn0], .nil, fun h => (by cases h), fun a ha => ?_⟩
      cases ha
      exact ⟨rfl, fun j u hj => by simp at hj⟩
    split at e
    · rename_i vs k hb
      split at e
      · rename_i hl
        cases e
        simp only [VRel] at h
        obtain ⟨xs, e1, e2, e3⟩ := cells_values (w := w) (M := M) (b := b) (o := o) (cs := (vs.drop o).take (n * sz)) fun j u hj => by
          rw [List.getElem?_take] at hj
          split at hj
          · rw [List.getElem?_drop] at hj; exact r.cell hb hj
          · cases hj
        refine ⟨some ⟨b, o, none⟩, n, c, xs, h, rfl, by rw [e1]; simp; omega, e2, fun h => (by cases h), fun a ha => ?_⟩
        cases ha
        exact ⟨rfl, e3⟩
      · cases e
    · cases e
  · exact absurd rfl (hv _)
  · cases e
theorem run_firstCells {P : Program} {w : World} {A : Option Addr} {n c sz : Nat} {xs : List Value} (hl : xs.length = n * sz) (hn : A = none → xs = [])
    (hc : ∀ a, A = some a → a.spot = none ∧ ∀ j u, xs[j]? = some u → w.cell? ⟨a.block, a.off + j, none⟩ = some u) : (Builtin.firstCells sz n (.slice A n c)).run P w = .ok xs.toArray w := by
  cases A with
  | none => rw [hn rfl]; rfl
  | some a =>
    obtain ⟨hs, hx⟩ := hc a rfl
    obtain ⟨b, o, s⟩ := a
    simp only at hs; subst hs
    simp only [Builtin.firstCells]
    rw [← hl]; exact run_loadCells xs hx

theorem toBytes_rel {M : Mem} : ∀ {cs : List AV} {l : List UInt8}, toBytes cs = some l → ∀ {xs : List Value}, VRels M cs xs → ∃ ns : List Int, xs = ns.map (Value.int .u8) ∧ ns.map (fun n => UInt8.ofNat n.toNat) = l
  | [], l, e, xs, h => by
    simp only [toBytes, Option.some.injEq] at e; subst e
    simp only [VRels] at h; subst h
    exact ⟨[], rfl, rfl⟩
  | c :: cs, l, e, xs, h => by
    simp only [VRels] at h
    obtain ⟨v, vs, rfl, h1, h2⟩ := h
    unfold toBytes at e
    split at e
    · cases ‹c :: cs = []›
    · rename_i x r hc
      cases hc
      split at e
      · rename_i l' hl
        cases e
        obtain ⟨ns, rfl, hns⟩ := toBytes_rel hl h2
        refine ⟨x :: ns, ?_, by simp [hns]⟩
        rw [vr_int h1]; rfl
      · cases e
    · cases e
theorem toBytes_bytes : ∀ l : List UInt8, toBytes (l.map byteV) = some l
  | [] => rfl
  | b :: l => by simp [byteV, toBytes, toBytes_bytes l]
theorem b2s_sound {P : Program} {M : Mem} {H : Heap} {w : World} (r : Rel M H w) {a : AV} {x : Value} (h : VRel M a x) {src dst el : TypeId} (hs : P.underlying src = some (.slice el)) (he : P.underlying el = some (.int .u8)) (hd : P.underlying dst = some .string)
    (ha : ∀ s, a ≠ .str s) {p : Prop} {v : AV} (e : evK .b2s H [a] = some (p, v)) (hp : p) : Gives P M w (convert src dst x) v := by
  replace e : (match cellsOf H 1 a with
    | some cs => match toBytes cs with
      | some l => some (True, AV.str ⟨l.toArray⟩)
      | none => none
    | none => none) = some (p, v) := by
    cases a <;> first
      | exact e
      | exact absurd rfl (ha _)
  split at e
  · rename_i cs hc
    split at e
    · rename_i l hl
      cases e
      obtain ⟨A, n, c, xs, rfl, _, h2, h3, h4, h5⟩ := cellsOf_read r h ha hc
      obtain ⟨ns, rfl, hns⟩ := toBytes_rel hl h3
      have hstr : (⟨l.toArray⟩ : ByteArray) = strOfNums ns := by unfold strOfNums; rw [hns]
      cases A with
      | none =>
        have h4' := (h4 rfl).2
        have hn0 : ns = [] := by simpa using h4'
        subst hn0
        simp only [List.map_nil] at hns
        subst hns
        exact ⟨_, run_convert_bytes_nil w src el hs he n c dst hd, by simp only [VRel]; rfl⟩
      | some ad =>
        obtain ⟨hsp, hx⟩ := h5 ad rfl
        obtain ⟨b, o, s⟩ := ad
        simp only at hsp; subst hsp
        refine ⟨_, run_convert_bytes_arg w src el hs he b o n c ns (by simpa using h2) (fun i hi => ?_) dst hd, by simp only [VRel, hstr]⟩
        have hl' : ns.length = n := by simpa using h2
        refine hx i _ ?_
        rw [List.getElem?_map, List.getElem?_eq_getElem (by omega)]
        simp [List.getD_eq_getElem?_getD, List.getElem?_eq_getElem (show i < ns.length by omega)]
    · cases e
  · cases e
/-! ### Slicing -/
def OptAt (o : Option Value) (d n : Int) : Prop := (o = none ∧ n = d) ∨ ∃ k, o = some (.int k n)
theorem run_sliceBound {P : Program} {w : World} {k : IntKind} {i : Int} {y : Nat} {c : BoundsCode} (h : 0 ≤ i ∧ i ≤ y) : (Instr.sliceBound (.int k i) y c).run P w = .ok i.toNat w := by
  unfold Instr.sliceBound
  simp only [asIntOf, run_bind, run_pure, if_pos h]
theorem run_sliceBounds {P : Program} {w : World} {b : Bool} {lo hi mx : Option Value} {l h m : Int} {len cap : Nat} (h1 : OptAt lo 0 l) (h2 : OptAt hi len h) (h3 : OptAt mx cap m) (h4 : mx = none ∨ hi ≠ none)
    (k1 : 0 ≤ l) (k2 : l ≤ h) (k3 : h ≤ m) (k4 : m ≤ cap) : (Instr.sliceBounds b len cap lo hi mx).run P w = .ok (l.toNat, h.toNat, m.toNat) w := by
  have hm : ((m.toNat : Nat) : Int) = m := by omega
  have hh : ((h.toNat : Nat) : Int) = h := by omega
  rcases h3 with ⟨rfl, rfl⟩ | ⟨km, rfl⟩
  · rcases h2 with ⟨rfl, rfl⟩ | ⟨kh, rfl⟩
    · rcases h1 with ⟨rfl, rfl⟩ | ⟨kl, rfl⟩
      · simp only [Instr.sliceBounds, run_bind, run_pure]; simp
      · simp only [Instr.sliceBounds, run_bind, run_pure, run_sliceBound ⟨k1, k2⟩]; try simp
    · rcases h1 with ⟨rfl, rfl⟩ | ⟨kl, rfl⟩
      · simp only [Instr.sliceBounds, run_bind, run_pure, run_sliceBound (show 0 ≤ h ∧ h ≤ (cap : Int) by omega)]; simp
      · simp only [Instr.sliceBounds, run_bind, run_pure, run_sliceBound (show 0 ≤ h ∧ h ≤ (cap : Int) by omega), run_sliceBound (show 0 ≤ l ∧ l ≤ (h.toNat : Int) by omega)]; simp
  · rcases h2 with ⟨rfl, rfl⟩ | ⟨kh, rfl⟩
    · rcases h4 with h4 | h4
      · cases h4
      · exact absurd rfl h4
    · rcases h1 with ⟨rfl, rfl⟩ | ⟨kl, rfl⟩
      · simp only [Instr.sliceBounds, run_bind, run_pure, run_sliceBound (show 0 ≤ m ∧ m ≤ (cap : Int) by omega), run_sliceBound (show 0 ≤ h ∧ h ≤ (m.toNat : Int) by omega)]; simp
      · simp only [Instr.sliceBounds, run_bind, run_pure, run_sliceBound (show 0 ≤ m ∧ m ≤ (cap : Int) by omega), run_sliceBound (show 0 ≤ h ∧ h ≤ (m.toNat : Int) by omega), run_sliceBound (show 0 ≤ l ∧ l ≤ (h.toNat : Int) by omega)]
theorem slcV_sound {P : Program} {M : Mem} {w : World} {sz : Nat} {mxb : Bool} {a : AV} {x : Value} (hr : VRel M a x) {lo hi mx : Option Value} {l h m : Int} {n : Nat} (hn : lenOf a = some n) (ha : ∀ s, a ≠ .str s)
    (h1 : OptAt lo 0 l) (h2 : OptAt hi n h) (h3 : if mxb then (∃ k, mx = some (.int k m)) ∧ hi ≠ none else mx = none) {t el : TypeId} {ti : TypeInfo}
    (ht : P.underlying t = some (.slice el)) (hi' : P.info? el = some ti) (hz : ti.size = sz) {p : Prop} {v : AV} (e : slcV sz mxb a l h m = some (p, v)) (hp : p) :
    Gives P M w (Instr.sliceAt t x lo hi mx) v := by
  have key : ∀ (A : Option Addr) (len cap : Nat) (mm : Int), x = .slice A len cap → len = n → 0 ≤ l → l ≤ h → h ≤ mm → mm ≤ cap → (mxb = true → mm = m) → (mxb = false → mm = cap) →
      (Instr.sliceAt t x lo hi mx).run P w = .ok (.slice (if mm.toNat = l.toNat then A else A.map (·.add (l.toNat * sz))) (h.toNat - l.toNat) (mm.toNat - l.toNat)) w := by
    intro A len cap mm hx hlen k1 k2 k3 k4 k5 k6
    subst hx; subst hlen
    have hb : (Instr.sliceBounds true len cap lo hi mx).run P w = .ok (l.toNat, h.toNat, mm.toNat) w := by
      cases mxb with
      | true =>
        simp only [if_true] at h3
        obtain ⟨⟨k, h3⟩, h4⟩ := h3
        exact run_sliceBounds h1 h2 (.inr ⟨k, by rw [h3, k5 rfl]⟩) (.inr h4) k1 k2 k3 k4
      | false =>
        simp only [Bool.false_eq_true, if_false] at h3
        exact run_sliceBounds h1 h2 (.inl ⟨h3, k6 rfl⟩) (.inl h3) k1 k2 k3 k4
    unfold Instr.sliceAt
    simp only [run_bind, run_underlying ht]
    unfold Instr.slice
    simp only [run_bind, run_underlying ht, hb, run_sizeOf hi', run_pure, hz]
  unfold slcV at e
  split at e
  · cases e
    obtain ⟨p1, p2, p3, p4⟩ := hp
    simp only [VRel] at hr
    simp only [lenOf, Option.some.injEq] at hn
    refine ⟨_, key none 0 0 (if mxb then m else 0) hr hn p1 p2 ?_ ?_ (fun e => by rw [e]; rfl) (fun e => by rw [e]; rfl), ?_⟩
    · split
      · rename_i hm; exact (p4 hm).1
      · exact p3
    · split
      · rename_i hm; simpa using (p4 hm).2
      · simp
    · simp only [VRel]
      have e1 : h.toNat - l.toNat = 0 := by omega
      have e2 : (if mxb = true then m else 0).toNat - l.toNat = 0 := by
        split
        · rename_i hm; have := (p4 hm).2; omega
        · simp
      rw [e1, e2]
      simp only [Option.map_none, ite_self]
  · rename_i cs n' c
    simp only [lenOf, Option.some.injEq] at hn; subst hn
    simp only [VRel] at hr
    obtain ⟨A, vs, k, rfl, g2, g3, g4, g5, g6⟩ := hr
    have fin : ∀ (mm : Int) (c' : Option Nat), 0 ≤ l → l ≤ h → h ≤ n' → h ≤ mm → mm ≤ k → cs.length = n' * sz → (mxb = true → mm = m) → (mxb = false → mm = (k : Nat)) → (∀ y, c' = some y → mm.toNat - l.toNat = y) →
        Gives P M w (Instr.sliceAt t (.slice A n' k) lo hi mx) (.imm ((cs.drop (l.toNat * sz)).take ((h.toNat - l.toNat) * sz)) (h.toNat - l.toNat) c') := by
      intro mm c' q1 q2 q3 q4 q5 q6 q7 q8 q9
      refine ⟨_, key A n' k mm rfl rfl q1 q2 q4 q5 q7 q8, ?_⟩
      simp only [VRel]
      refine ⟨_, (vs.drop (l.toNat * sz)).take ((h.toNat - l.toNat) * sz), _, rfl, q9, by omega, ?_, ?_, (g6.drop _).take _⟩
      · intro hA
        have hA' : A = none := by
          split at hA
          · exact hA
          · simpa using hA
        obtain ⟨rfl, rfl⟩ := g4 hA'
        exact ⟨by omega, by simp⟩
      · intro y hy
        split at hy
        · rename_i hml
          have : h.toNat - l.toNat = 0 := by omega
          rw [this]
          exact ⟨(g5 y hy).1, fun j u hj => by simp at hj⟩
        · cases A with
          | none => simp at hy
          | some A =>
            simp only [Option.map_some, Option.some.injEq] at hy
            subst hy
            obtain ⟨s1, s2⟩ := g5 A rfl
            rw [add_spot s1]
            refine ⟨rfl, fun j u hj => ?_⟩
            rw [List.getElem?_take] at hj
            split at hj
            · rw [List.getElem?_drop] at hj
              have := s2 _ _ hj
              simp only []
              rw [Nat.add_assoc]; exact this
            · cases hj
    cases mxb with
    | true =>
      simp only [if_true, Option.some.injEq, Prod.mk.injEq] at e
      obtain ⟨rfl, rfl⟩ := e
      obtain ⟨q1, q2, q3, q4, q5⟩ := hp
      exact fin m _ q1 q2 (by omega) q3 (by omega) q5 (fun _ => rfl) (fun h => by cases h) (fun y hy => by cases hy; rfl)
    | false =>
      simp only [Bool.false_eq_true, if_false, Option.some.injEq, Prod.mk.injEq] at e
      obtain ⟨rfl, rfl⟩ := e
      obtain ⟨q1, q2, q3, q4⟩ := hp
      refine fin k _ q1 q2 q3 (by omega) (by omega) q4 (fun h => by cases h) (fun _ => rfl) (fun y hy => ?_)
      cases c with
      | none => cases hy
      | some c => simp only [Option.map_some, Option.some.injEq] at hy; rw [← hy, g2 c rfl]; simp
  · rename_i b o n' c
    simp only [lenOf, Option.some.injEq] at hn; subst hn
    simp only [VRel] at hr
    cases e
    obtain ⟨q1, q2, q3, q4⟩ := hp
    refine ⟨_, key _ n' c (if mxb then m else c) hr rfl q1 q2 q3 q4 (fun e => by rw [e]; rfl) (fun e => by rw [e]; rfl), ?_⟩
    simp only [VRel]
    by_cases hq : (if mxb = true then m else (c : Int)).toNat = l.toNat
    · rw [if_pos hq, if_pos hq]
    · rw [if_neg hq, if_neg hq]; simp only [Option.map_some, add_off]
  · cases e
end Go.Sf
