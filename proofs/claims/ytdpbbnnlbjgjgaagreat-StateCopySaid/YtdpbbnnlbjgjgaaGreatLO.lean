/- What comes in, of any shape that is built of numbers, strings, booleans, slices and structs: its abstract value. No function of the program is named here. -/
import Derived.Test.YtdpbbnnlbjgjgaaGreatL0
set_option linter.unusedVariables false
set_option linter.unusedSimpArgs false
namespace Go.Sf
inductive Sh where
  | int (k : IntKind)
  | str
  | bool
  | slice (e : Sh)
  | unit
  | pair (a b : Sh)
  deriving DecidableEq
def Sh.size : Sh → Nat
  | .unit => 0
  | .pair a b => a.size + b.size
  | _ => 1
def Good : Sh → List AV → Prop
  | .int k, as => ∃ n, as = [.int k n] ∧ k.min ≤ n ∧ n ≤ k.max
  | .str, as => ∃ s : ByteArray, as = [.str s] ∧ s.size ≤ maxLen
  | .bool, as => ∃ b, as = [.bool b]
  | .slice e, as => ∃ gs : List (List AV), as = [.imm gs.flatten gs.length none] ∧ gs.length < 2 ^ 63 ∧ ∀ g ∈ gs, Good e g
  | .unit, as => as = []
  | .pair a b, as => ∃ x y, as = x ++ y ∧ Good a x ∧ Good b y
def shapeFs (P : Program) (g : TypeId → Option Sh) : Nat → List Field → Option Sh
  | _, [] => some .unit
  | off, f :: r => if f.offset = off then match g f.type with
      | some s => if P.cellsOf f.type = s.size then match shapeFs P g (off + s.size) r with
        | some q => some (.pair s q)
        | none => none
        else none
      | none => none
    else none
def shapeT (P : Program) : Nat → TypeId → Option Sh
  | 0, _ => none
  | d + 1, t => match P.underlying t with
    | some (.int k) => some (.int k)
    | some .string => some .str
    | some .bool => some .bool
    | some (.slice e) => match shapeT P d e with
      | some s => if P.cellsOf e = s.size ∧ 0 < s.size then some (.slice s) else none
      | none => none
    | some (.struct fs) => match shapeFs P (shapeT P d) 0 fs.toList with
      | some s => if P.cellsOf t = s.size then some s else none
      | none => none
    | _ => none
theorem cell_plain {w : World} {a : Addr} {v : Value} (h : w.cell? a = some v) : a.spot = none := by
  unfold World.cell? at h
  split at h
  · split at h
    · cases h
    · rename_i hs; simpa using hs
  · cases h
theorem cell_add {w : World} {a : Addr} {j : Nat} {v : Value} (h : w.cell? (a.add j) = some v) : memOf w a.block (a.off + j) = some v := by
  have hs := cell_plain h
  unfold memOf
  unfold Addr.add at h hs
  split at h
  · rename_i hj; subst hj
    simp only [if_true] at hs
    obtain ⟨b, o, s⟩ := a
    simp only at hs; subst hs
    exact h
  · exact h
theorem MAt.app {M : Mem} {b o : Nat} {xs ys : List Value} (h : MAt M b o xs) (k : MAt M b (o + xs.length) ys) : MAt M b o (xs ++ ys) := fun j u hj => by
  rcases Nat.lt_or_ge j xs.length with hl | hl
  · rw [List.getElem?_append_left hl] at hj; exact h j u hj
  · rw [List.getElem?_append_right hl] at hj
    have := k _ u hj
    rwa [show o + xs.length + (j - xs.length) = o + j by omega] at this
section
variable {H : Type} {enc : TypeId × Value → H} {P : Program} {w : World} {base : Nat} {spare : Nat → Bool} {held : Bool}
theorem cells_spec {a : Addr} {n : Nat} {cs : List Value} (h : w.cells? base a n = some cs) : cs.length = n ∧ MAt (memOf w) a.block a.off cs ∧ (0 < n → a.spot = none) := by
  unfold World.cells? at h
  split at h
  · have hl : cs.length = n := by simpa using mapM_some_length h
    have hg : ∀ i, i < n → w.cell? (a.add i) = cs[i]? := fun i hi => mapM_some_get h i i (by simp [hi])
    refine ⟨hl, fun j u hj => ?_, fun hn => ?_⟩
    · have hjn : j < n := by rw [← hl]; exact (List.getElem?_eq_some_iff.1 hj).1
      have := hg j hjn
      rw [hj] at this
      exact cell_add this
    · have := hg 0 hn
      rw [List.getElem?_eq_getElem (by omega)] at this
      have := cell_plain this
      simpa [Addr.add] using this
  · cases h
theorem trod_av : ∀ (d : Nat) (t : TypeId) (sh : Sh), shapeT P d t = some sh → ∀ (fuel : Nat) (cs : List Value) (x : DataW H × List MemPlace), DataW.trod enc P w base spare held fuel t cs = some x → ∃ as, Good sh as ∧ VRels (memOf w) as cs ∧ cs.length = sh.size
  | 0, t, sh, h, _, _, _, _ => by simp [shapeT] at h
  | d + 1, t, sh, h, fuel, cs, x, hx => by
    unfold shapeT at h
    split at h
    · rename_i k hu
      cases h
      obtain ⟨n, rfl, _, hw⟩ := DataW.trod_int hu hx
      exact ⟨_, ⟨n, rfl, wf_bounds hw⟩, .cons (by simp only [VRel]) .nil, rfl⟩
    · rename_i hu
      cases h
      obtain ⟨s, rfl, _, hw⟩ := DataW.trod_string hu hx
      exact ⟨_, ⟨s, rfl, hw⟩, .cons (by simp only [VRel]) .nil, rfl⟩
    · rename_i hu
      cases h
      obtain ⟨s, rfl, _⟩ := DataW.trod_bool hu hx
      exact ⟨_, ⟨s, rfl⟩, .cons (by simp only [VRel]) .nil, rfl⟩
    · rename_i e hu
      split at h
      · rename_i s hs
        split at h
        · rename_i hsz
          cases h
          rcases DataW.trod_slice hu hx with ⟨rfl, _⟩ | ⟨a, len, cap, elems, rest, n, _, rfl, _, _, hl, hm, hlen, hel, _⟩
          · refine ⟨_, ⟨[], rfl, by simp, by simp⟩, .cons ?_ .nil, rfl⟩
            simp only [VRel]
            exact ⟨none, [], 0, rfl, fun x h => (by cases h), Nat.le_refl _, fun _ => ⟨rfl, rfl⟩, fun x h => (by cases h), .nil⟩
          · have key : ∀ m, m ≤ len → ∃ (gs : List (List AV)) (vs : List Value), gs.length = m ∧ vs.length = m * s.size ∧ (∀ g ∈ gs, Good s g) ∧ VRels (memOf w) gs.flatten vs ∧ MAt (memOf w) a.block a.off vs ∧ (0 < m → a.spot = none) := by
              intro m
              induction m with
              | zero => intro _; exact ⟨[], [], rfl, by simp, by simp, .nil, fun j u hj => by simp at hj, fun h => by omega⟩
              | succ m ih =>
                intro hml
                obtain ⟨gs, vs, g1, g2, g3, g4, g5, g6⟩ := ih (by omega)
                have hE := hel m (by omega)
                rw [List.getElem?_eq_getElem (by omega), Option.bind_eq_some_iff] at hE
                obtain ⟨c, hc, hy⟩ := hE
                obtain ⟨c1, c2, c3⟩ := cells_spec hc
                obtain ⟨as, q1, q2, q3⟩ := trod_av d e s hs _ _ _ hy
                refine ⟨gs ++ [as], vs ++ c, by simp [g1], by simp [g2, c1, hsz.1, Nat.add_mul], ?_, ?_, ?_, ?_⟩
                · intro g hg
                  rw [List.mem_append] at hg
                  rcases hg with hg | hg
                  · exact g3 g hg
                  · simp at hg; subst hg; exact q1
                · rw [List.flatten_append]
                  simpa using VRels.append g4 q2
                · refine MAt.app g5 ?_
                  rw [hsz.1] at c2
                  rw [g2]
                  have e1 : (a.add (m * s.size)).block = a.block := by unfold Addr.add; split <;> rfl
                  have e2 : (a.add (m * s.size)).off = a.off + m * s.size := by unfold Addr.add; split <;> simp_all
                  rw [e1, e2] at c2
                  exact c2
                · intro _
                  rcases Nat.eq_zero_or_pos m with h0 | h0
                  · subst h0
                    have := c3 (by omega)
                    simpa [Addr.add] using this
                  · exact g6 h0
            obtain ⟨gs, vs, g1, g2, g3, g4, g5, g6⟩ := key len (Nat.le_refl _)
            refine ⟨_, ⟨gs, rfl, ?_, g3⟩, .cons ?_ .nil, rfl⟩
            · have : maxLen = 9223372036854775807 := rfl
              omega
            · simp only [VRel]
              rw [g1]
              refine ⟨some a, vs, cap, rfl, fun x h => (by cases h), hl, fun h => (by cases h), fun y hy => ?_, g4⟩
              cases hy
              exact ⟨fun h => g6 (by omega), g5⟩
        · cases h
      · cases h
    · rename_i fs hu
      split at h
      · rename_i s hs
        split at h
        · rename_i hsz
          simp only [Option.some.injEq] at h
          subst h
          obtain ⟨xs, n, _, _, hlen, hxl, hf⟩ := DataW.trod_struct hu hx
          have key : ∀ (fl : List Field) (off : Nat) (q : Sh), shapeFs P (shapeT P d) off fl = some q → (∀ f ∈ fl, ∃ y, DataW.trod enc P w base spare held n f.type ((cs.drop f.offset).take (P.cellsOf f.type)) = some y) → off + q.size ≤ cs.length →
              ∃ as, Good q as ∧ VRels (memOf w) as ((cs.drop off).take q.size) := by
            intro fl
            induction fl with
            | nil => intro off q hq _ _; simp only [shapeFs, Option.some.injEq] at hq; subst hq; exact ⟨[], rfl, by simp [Sh.size]; exact .nil⟩
            | cons f r ih =>
              intro off q hq hy hle
              unfold shapeFs at hq
              split at hq
              · rename_i ho
                split at hq
                · rename_i sf hsf
                  split at hq
                  · rename_i hc
                    split at hq
                    · rename_i sr hsr
                      cases hq
                      obtain ⟨y, hyy⟩ := hy f (by simp)
                      obtain ⟨as, a1, a2, a3⟩ := trod_av d f.type sf hsf _ _ _ hyy
                      simp only [Sh.size] at hle
                      obtain ⟨bs, b1, b2⟩ := ih (off + sf.size) sr hsr (fun g hg => hy g (by simp [hg])) (by omega)
                      refine ⟨as ++ bs, ⟨as, bs, rfl, a1, b1⟩, ?_⟩
                      rw [ho, hc] at a2
                      have := VRels.append a2 b2
                      rw [← List.drop_drop] at this
                      simp only [Sh.size]
                      rwa [← List.take_add] at this
                    · cases hq
                  · cases hq
                · cases hq
              · cases hq
          obtain ⟨as, a1, a2⟩ := key fs.toList 0 s hs (fun f hf' => by
            obtain ⟨i, hi, rfl⟩ := List.getElem_of_mem hf'
            have := hf i fs.toList[i] (by simp)
            rw [this]
            have hi' : i < xs.length := by rw [hxl]; simpa using hi
            exact ⟨xs[i], List.getElem?_eq_getElem hi'⟩) (by omega)
          rw [List.drop_zero, List.take_of_length_le (by omega)] at a2
          exact ⟨as, a1, a2, by omega⟩
        · cases h
      · cases h
    · cases h
theorem open_sl {t e : TypeId} {sh : Sh} {r : Reach} {b0 : Nat} {v : Value} {x : DataW H × List MemPlace} (hs : shapeT P 9 t = some (.slice sh)) (ht : P.underlying t = some (.slice e)) (hval : Value.okWide P w r b0 t v)
    (h : ∃ fuel, DataW.trod enc P w base spare held fuel t v.cells.toList = some x) : ∃ gs : List (List AV), gs.length < 2 ^ 63 ∧ (∀ g ∈ gs, Good sh g) ∧ VRel (memOf w) (.imm gs.flatten gs.length none) v := by
  obtain ⟨a, len, cap, rfl⟩ := WideShapes.okWide_slice ht hval
  obtain ⟨fuel, h⟩ := h
  obtain ⟨as, ⟨gs, rfl, g1, g2⟩, h2, _⟩ := trod_av 9 t _ hs _ _ _ h
  refine ⟨gs, g1, g2, ?_⟩
  simp only [VRels] at h2
  obtain ⟨y, ys, hy, h3, _⟩ := h2
  have : y = .slice a len cap := by
    have : [Value.slice a len cap] = y :: ys := hy
    simp at this; exact this.1.symm
  subst this
  exact h3
theorem open_st {t : TypeId} {fs : Array Field} {sh : Sh} {r : Reach} {b0 : Nat} {v : Value} {x : DataW H × List MemPlace} (hs : shapeT P 9 t = some sh) (ht : P.underlying t = some (.struct fs)) (hval : Value.okWide P w r b0 t v)
    (h : ∃ fuel, DataW.trod enc P w base spare held fuel t v.cells.toList = some x) : ∃ as, Good sh as ∧ VRel (memOf w) (.agg as) v := by
  simp only [Value.okWide, ht] at hval
  obtain ⟨cs, rfl, _⟩ := hval
  obtain ⟨fuel, h⟩ := h
  obtain ⟨as, h1, h2, _⟩ := trod_av 9 t _ hs _ _ _ h
  refine ⟨as, h1, ?_⟩
  simp only [VRel]
  exact ⟨cs, rfl, h2⟩
end
theorem good_ints {k : IntKind} : ∀ {gs : List (List AV)}, (∀ g ∈ gs, Good (.int k) g) → ∃ ns : List Int, gs.flatten = ns.map (.int k ·) ∧ gs.length = ns.length ∧ ∀ n ∈ ns, k.min ≤ n ∧ n ≤ k.max
  | [], _ => ⟨[], rfl, rfl, by simp⟩
  | g :: gs, h => by
    obtain ⟨n, rfl, hn⟩ := h g (by simp)
    obtain ⟨ns, h1, h2, h3⟩ := good_ints (gs := gs) fun g hg => h g (by simp [hg])
    refine ⟨n :: ns, by simp [h1], by simp [h2], fun m hm => ?_⟩
    simp at hm
    rcases hm with rfl | hm
    · exact hn
    · exact h3 m hm
end Go.Sf
