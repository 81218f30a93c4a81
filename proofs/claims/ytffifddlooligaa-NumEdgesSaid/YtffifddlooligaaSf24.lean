/- Rows of cells: a slice of the call's own, or one that is held for good; what an append makes of them; a result that is held for good from now on. -/
import Derived.Test.YtffifddlooligaaSf23
set_option linter.unusedVariables false
set_option linter.unusedSimpArgs false
namespace Go.Sf
section
variable {P : Program}

/-- A slice of n elements of the call's own: nil, or at the head of a block. -/
def OwnR (H : Heap) (sz n : Nat) (v : AV) (cs : List AV) : Prop :=
  cs.length = n * sz ∧ ((v = .nils ∧ n = 0) ∨ ∃ b c, v = .sl b 0 n c ∧ H b = some (.cells cs (c * sz)) ∧ n ≤ c)
/-- The same, or one that is held for good and cut at its end. -/
def RowR (H : Heap) (sz n : Nat) (v : AV) (cs : List AV) : Prop := OwnR H sz n v cs ∨ (cs.length = n * sz ∧ v = .imm cs n (some n))
def blkOf : AV → Option Nat
  | .sl b _ _ _ => some b
  | _ => none
/-- All blocks but one are as they were. -/
def KeepB (H H' : Heap) (o : Option Nat) : Prop := ∀ k, o ≠ some k → H k ≠ none → H' k = H k
theorem OwnR.lenOf {H : Heap} {sz n : Nat} {v : AV} {cs : List AV} (h : OwnR H sz n v cs) : Sf.lenOf v = some n := by
  obtain ⟨_, ⟨rfl, rfl⟩ | ⟨b, c, rfl, _⟩⟩ := h <;> rfl
theorem RowR.lenOf {H : Heap} {sz n : Nat} {v : AV} {cs : List AV} (h : RowR H sz n v cs) : Sf.lenOf v = some n := by
  rcases h with h | ⟨_, rfl⟩
  · exact h.lenOf
  · rfl
theorem OwnR.cells {H : Heap} {sz n : Nat} {v : AV} {cs : List AV} (h : OwnR H sz n v cs) : cellsOf H sz v = some cs := by
  obtain ⟨hl, ⟨rfl, rfl⟩ | ⟨b, c, rfl, hb, hc⟩⟩ := h
  · have : cs = [] := List.length_eq_zero_iff.1 (by simpa using hl)
    subst this; rfl
  · by_cases hn : n = 0
    · subst hn
      have : cs = [] := List.length_eq_zero_iff.1 (by simpa using hl)
      subst this; simp [cellsOf]
    · simp [cellsOf, hb, hl, hn, List.take_of_length_le (Nat.le_of_eq hl)]
theorem OwnR.keep {H H' : Heap} {sz n : Nat} {v : AV} {cs : List AV} {o : Option Nat} (h : OwnR H sz n v cs) (k : KeepB H H' o) (hne : ∀ b, blkOf v = some b → o ≠ some b) : OwnR H' sz n v cs := by
  obtain ⟨hl, h | ⟨b, c, rfl, hb, hc⟩⟩ := h
  · exact ⟨hl, .inl h⟩
  · exact ⟨hl, .inr ⟨b, c, rfl, by rw [k b (hne b rfl) (by rw [hb]; simp)]; exact hb, hc⟩⟩
/-- An append to a row. -/
theorem vcAp_row {H : Heap} {sz bytes n m : Nat} {v x : AV} {cs new : List AV} {d : Option Nat} {T : Nat → AV} {K : AS → Prop} (h : RowR H sz n v cs) (hx : cellsOf H sz x = some new) (hm : lenOf x = some m) (hml : new.length = m * sz) (hsz : 0 < sz)
    (h1 : new.all AV.one = true) (h2 : (n + m) * bytes ≤ 140737488355328) (h3 : new ≠ [] ∨ OwnR H sz n v cs)
    (k : ∀ v' H', OwnR H' sz (n + m) v' (cs ++ new) → KeepB H H' (blkOf v) → (∀ b, blkOf v' = some b → H b = none ∨ blkOf v = some b) → K ⟨put T d v', H'⟩) :
    vcAp false sz bytes (appOld H sz v) (cellsOf H sz x) (lenOf v) (lenOf x) v d T H K := by
  rw [hx, hm, h.lenOf]
  have hcl : (cs ++ new).length = (n + m) * sz := by
    have : cs.length = n * sz := by rcases h with h | h <;> exact h.1
    rw [List.length_append, this, hml, Nat.add_mul]
  rcases h with ⟨hl, ⟨rfl, rfl⟩ | ⟨b, c, rfl, hb, hc⟩⟩ | ⟨hl, rfl⟩
  · have hcs : cs = [] := List.length_eq_zero_iff.1 (by simpa using hl)
    subst hcs
    simp only [appOld]
    rw [s_Ap_f]
    refine ⟨h1, h2, fun _ hn => ?_, fun h => by simp [AV.isImm] at h, fun hn b c hb hc => ?_⟩
    · subst hn
      have hm0 : m = 0 := by
        have : m * sz = 0 := by simpa using hml.symm
        rcases Nat.mul_eq_zero.1 this with h | h
        · exact h
        · omega
      subst hm0
      exact k _ _ ⟨by simp, .inl ⟨rfl, rfl⟩⟩ (fun _ _ _ => rfl) (fun b hb => by cases hb)
    · simp only [Heap.less] at hb ⊢
      refine k _ _ ⟨hcl, .inr ⟨b, c, rfl, Heap.set_self _ _ _, hc⟩⟩ (fun q _ hq => ?_) (fun b' hb' => by cases hb'; exact .inl hb)
      rw [Heap.set_ne]
      intro e; subst e; exact hq hb
  · simp only [appOld, hb]
    rw [if_pos ⟨hl, trivial, hc⟩, s_Ap_f]
    refine ⟨h1, h2, fun h => by simp [AV.isNils] at h, fun h => by simp [AV.isImm] at h, fun hn b' c' hb' hc' => ?_⟩
    simp only [Heap.less] at hb' ⊢
    refine k _ _ ⟨hcl, .inr ⟨b', c', rfl, Heap.set_self _ _ _, hc'⟩⟩ (fun q hq hq2 => ?_) (fun b2 hb2 => ?_)
    · have hqb : q ≠ b := fun e => hq (by rw [e]; rfl)
      have hqb' : q ≠ b' := by
        intro e; subst e
        rw [Heap.set_ne _ _ hqb] at hb'
        exact hq2 hb'
      rw [Heap.set_ne _ _ hqb', Heap.set_ne _ _ hqb]
    · cases hb2
      by_cases e : b' = b
      · right; rw [e]; rfl
      · left; rw [Heap.set_ne _ _ e] at hb'; exact hb'
  · have hn : new ≠ [] := by
      rcases h3 with h3 | ⟨_, ⟨h3, _⟩ | ⟨_, _, h3, _⟩⟩
      · exact h3
      · cases h3
      · cases h3
    simp only [appOld]
    rw [if_pos ⟨trivial, hl⟩, s_Ap_f]
    refine ⟨h1, h2, fun h => by simp [AV.isNils] at h, fun _ => hn, fun _ b c hb hc => ?_⟩
    simp only [Heap.less] at hb ⊢
    refine k _ _ ⟨hcl, .inr ⟨b, c, rfl, Heap.set_self _ _ _, hc⟩⟩ (fun q _ hq => ?_) (fun b' hb' => by cases hb'; exact .inl hb)
    rw [Heap.set_ne]
    intro e; subst e; exact hq hb
/-- An append whose result is held for good at once. -/
theorem vcAp_hold {H : Heap} {sz bytes n m : Nat} {v x : AV} {cs new : List AV} {d : Option Nat} {T : Nat → AV} {K : AS → Prop} (h : RowR H sz n v cs) (hx : cellsOf H sz x = some new) (hm : lenOf x = some m)
    (h1 : new.all AV.one = true) (h2 : (n + m) * bytes ≤ 140737488355328)
    (k : ∀ H', KeepB H H' (blkOf v) → K ⟨put T d (.imm (cs ++ new) (n + m) none), H'⟩) :
    vcAp true sz bytes (appOld H sz v) (cellsOf H sz x) (lenOf v) (lenOf x) v d T H K := by
  rw [hx, hm, h.lenOf]
  rcases h with ⟨hl, ⟨rfl, rfl⟩ | ⟨b, c, rfl, hb, hc⟩⟩ | ⟨hl, rfl⟩
  · have hcs : cs = [] := List.length_eq_zero_iff.1 (by simpa using hl)
    subst hcs
    simp only [appOld]
    rw [s_Ap_t]
    exact ⟨h1, h2, k _ fun _ _ _ => rfl⟩
  · simp only [appOld, hb]
    rw [if_pos ⟨hl, trivial, hc⟩, s_Ap_t]
    refine ⟨h1, h2, k _ fun q hq _ => ?_⟩
    simp only [Heap.less]
    rw [Heap.set_ne]
    intro e; exact hq (by rw [e]; rfl)
  · simp only [appOld]
    rw [if_pos ⟨trivial, hl⟩, s_Ap_t]
    exact ⟨h1, h2, k _ fun _ _ _ => rfl⟩
/-- A result of the call's own, held for good. -/
theorem CC.hold {f : FuncId} {args : List AV} {H : Heap} {Q : AV → Heap → Prop} {Q' : AV → Heap → Prop} (h : CC P f args H Q)
    (k : ∀ v H', Q v H' → ∃ sz n cs, OwnR H' sz n v cs ∧ Q' (.imm cs n none) (match blkOf v with | some b => H'.set b none | none => H')) : CC P f args H Q' :=
  fun M w vs h1 h2 => (h M w vs h1 h2).mono fun e w' ⟨v, x, M', H', e1, e2, e3, e4, e5⟩ => by
    obtain ⟨sz, n, cs, ⟨hl, ho⟩, hq⟩ := k _ _ e5
    rcases ho with ⟨rfl, rfl⟩ | ⟨b, c, rfl, hb, hc⟩
    · have hcs : cs = [] := List.length_eq_zero_iff.1 (by simpa using hl)
      subst hcs
      refine ⟨_, x, M', H', e1, ?_, e3, e4, hq⟩
      rw [vr_nils e2]
      simp only [VRel]
      exact ⟨none, [], 0, rfl, fun x hx => (by cases hx), Nat.le_refl _, fun _ => ⟨rfl, rfl⟩, fun y hy => (by cases hy), .nil⟩
    · obtain ⟨M2, p1, p2, p3⟩ := hold_imm e3 hb hc (c := none) (fun x hx => by cases hx)
      exact ⟨_, x, M2, _, e1, by rw [vr_sl e2]; exact p3, p1, e4.trans p2, hq⟩
theorem CP.hold {f : FuncId} {args : List AV} {sz n : Nat} {cs : List AV} (h : CC P f args Heap.nil fun v H' => OwnR H' sz n v cs) : CP P f args fun v => v = .imm cs n none :=
  CC.hold h fun v H' ho => ⟨sz, n, cs, ho, rfl⟩
/-! Bytes. -/
def bytesV (l : List UInt8) : List AV := l.map byteV
theorem bytesV_length (l : List UInt8) : (bytesV l).length = l.length := by simp [bytesV]
theorem bytesV_append (l m : List UInt8) : bytesV (l ++ m) = bytesV l ++ bytesV m := by simp [bytesV]
theorem bytesV_one (l : List UInt8) : (bytesV l).all AV.one = true := by simp [bytesV, List.all_eq_true, byteV, AV.one]
theorem bytesV_get {l : List UInt8} {i : Nat} (h : i < l.length) : (bytesV l)[i]? = some (byteV l[i]) := by simp [bytesV, h]
theorem bytesV_take (l : List UInt8) (n : Nat) : (bytesV l).take n = bytesV (l.take n) := by simp [bytesV, List.map_take]
theorem bytesV_drop (l : List UInt8) (n : Nat) : (bytesV l).drop n = bytesV (l.drop n) := by simp [bytesV, List.map_drop]
theorem bytesV_toBytes (l : List UInt8) : toBytes (bytesV l) = some l := toBytes_bytes l
/-- A slice of bytes, held for good. -/
def immB (l : List UInt8) (c : Option Nat) : AV := .imm (bytesV l) l.length c
theorem byteV_eq (b : UInt8) : byteV b = .int .u8 (b.toNat : Int) := rfl
end
end Go.Sf
