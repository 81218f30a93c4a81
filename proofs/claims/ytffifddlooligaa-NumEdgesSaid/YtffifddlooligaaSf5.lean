/- The framework's operations that look alone: numbers, strings, equality, addresses, loads, slices. -/
import Derived.Test.YtffifddlooligaaSf4
set_option linter.unusedVariables false
set_option linter.unusedSimpArgs false
namespace Go.Sf

/-- What a computation that looks alone comes to. -/
def Gives (P : Program) (M : Mem) (w : World) (s : Sem Value) (v : AV) : Prop := ∃ x, s.run P w = .ok x w ∧ VRel M v x

theorem vr_int {M : Mem} {k : IntKind} {n : Int} {x : Value} (h : VRel M (.int k n) x) : x = .int k n := by simpa only [VRel] using h
theorem vr_bool {M : Mem} {b : Bool} {x : Value} (h : VRel M (.bool b) x) : x = .bool b := by simpa only [VRel] using h
theorem vr_str {M : Mem} {s : ByteArray} {x : Value} (h : VRel M (.str s) x) : x = .string s := by simpa only [VRel] using h
theorem gives_int {P : Program} {M : Mem} {w : World} {k : IntKind} {n : Int} : Gives P M w (pure (.int k n)) (.int k n) := ⟨_, rfl, by simp only [VRel]⟩
theorem gives_bool {P : Program} {M : Mem} {w : World} {b : Bool} : Gives P M w (pure (.bool b)) (.bool b) := ⟨_, rfl, by simp only [VRel]⟩
theorem gives_str {P : Program} {M : Mem} {w : World} {s : ByteArray} : Gives P M w (pure (.string s)) (.str s) := ⟨_, rfl, by simp only [VRel]⟩
theorem gives_ptr {P : Program} {M : Mem} {w : World} {b o : Nat} : Gives P M w (pure (.pointer (some ⟨b, o, none⟩))) (.ptr b o) := ⟨_, rfl, by simp only [VRel]⟩

theorem unV_sound {P : Program} {M : Mem} {w : World} {op : UnOp} {a : AV} {x : Value} (h : VRel M a x) {p : Prop} {v : AV} (e : unV op a = some (p, v)) (hp : p) : Gives P M w (Op.unary op x) v := by
  unfold unV at e
  split at e
  · cases e; rw [vr_int h]; exact gives_int
  · cases e; rw [vr_bool h]; exact gives_bool
  · cases e

theorem binInt_sound {P : Program} {M : Mem} {w : World} {op : BinOp} {k : IntKind} {a b : Int} {p : Prop} {v : AV} (e : binInt op k a b = some (p, v)) (hp : p) (hs : isShift op = false) (xt : TypeId) :
    Gives P M w (binOp op xt (.int k a) (.int k b)) v := by
  cases op <;> simp only [binInt, Option.some.injEq, Prod.mk.injEq, reduceCtorEq] at e <;> (try (obtain ⟨rfl, rfl⟩ := e)) <;> (try (simp only [isShift, reduceCtorEq] at hs)) <;> simp only [binOp, ne_eq, not_true_eq_false, if_false, Op.intArith, Op.intBits, Op.intCmp, Op.intDiv]
  case add => exact gives_int
  case sub => exact gives_int
  case mul => exact gives_int
  case quo => rw [if_neg hp]; exact gives_int
  case rem => rw [if_neg hp]; exact gives_int
  case and => exact gives_int
  case or => exact gives_int
  case xor => exact gives_int
  case eql => rw [show (a == b) = decide (a = b) by cases h : decide (a = b) <;> simp_all]; exact gives_bool
  case neq => rw [show (a != b) = decide (a ≠ b) by cases h : decide (a = b) <;> simp_all]; exact gives_bool
  case lss => exact gives_bool
  case leq => exact gives_bool
  case gtr => exact gives_bool
  case geq => exact gives_bool
theorem shiftInt_sound {P : Program} {M : Mem} {w : World} {op : BinOp} {k k' : IntKind} {a b : Int} {p : Prop} {v : AV} (e : shiftInt op k a b = some (p, v)) (hp : p) (xt : TypeId) :
    Gives P M w (binOp op xt (.int k a) (.int k' b)) v := by
  cases op <;> simp only [shiftInt, Option.some.injEq, Prod.mk.injEq, reduceCtorEq] at e <;> (try (obtain ⟨rfl, rfl⟩ := e)) <;> simp only [binOp, Op.shift]
  case shl => rw [if_neg (by omega)]; exact gives_int
  case shr => rw [if_neg (by omega)]; exact gives_int
theorem ba_toList (s : ByteArray) : s.toList = s.data.toList := by
  have hs : s.data.toList.length = s.size := Array.length_toList
  have key : ∀ (n i : Nat) (r : List UInt8), s.size - i = n → ByteArray.toList.loop s i r = r.reverse ++ s.data.toList.drop i := by
    intro n
    induction n with
    | zero =>
      intro i r h
      unfold ByteArray.toList.loop
      rw [if_neg (by omega), List.drop_eq_nil_of_le (by omega), List.append_nil]
    | succ n ih =>
      intro i r h
      have hi : i < s.size := by omega
      have hi' : i < s.data.size := hi
      unfold ByteArray.toList.loop
      rw [if_pos hi, ih (i + 1) _ (by omega)]
      have hd : s.data.toList.drop i = s.get! i :: s.data.toList.drop (i + 1) := by
        rw [List.drop_eq_getElem_cons (by omega)]
        congr 1
        show s.data.toList[i] = s.data[i]!
        rw [Array.getElem_toList, getElem!_pos s.data i hi']
      rw [hd, List.reverse_cons, List.append_assoc]; rfl
  have := key s.size 0 [] rfl
  rw [List.drop_zero, List.reverse_nil, List.nil_append] at this
  exact this
theorem ba_eq (a b : ByteArray) : (a.toList == b.toList) = decide (a = b) := by
  rw [ba_toList, ba_toList]
  cases h : decide (a = b) with
  | true => simp at h; subst h; simp
  | false =>
    simp at h
    simp only [beq_eq_false_iff_ne, ne_eq]
    intro e
    apply h
    cases a; cases b
    congr 1
    exact Array.toList_inj.1 e
theorem binStr_sound {P : Program} {M : Mem} {w : World} {op : BinOp} {a b : ByteArray} {p : Prop} {v : AV} (e : binStr op a b = some (p, v)) (hp : p) (hs : isShift op = false) (xt : TypeId) :
    Gives P M w (binOp op xt (.string a) (.string b)) v := by
  cases op <;> simp only [binStr, Option.some.injEq, Prod.mk.injEq, reduceCtorEq] at e <;> (try (obtain ⟨rfl, rfl⟩ := e)) <;> simp only [binOp, Op.stringOp]
  case add =>
    rw [if_neg (by simp [IntKind.max, IntKind.signed, IntKind.bits]; omega)]; exact gives_str
  case eql => rw [ba_eq]; exact gives_bool
  case neq => rw [ba_eq, show (!decide (a = b)) = decide (a ≠ b) by simp]; exact gives_bool
  case lss => rw [ba_toList, ba_toList]; exact gives_bool
  case gtr => rw [ba_eq, ba_toList, ba_toList]; exact gives_bool
theorem binV_sound {P : Program} {M : Mem} {w : World} {op : BinOp} {a b : AV} {x y : Value} (h : VRel M a x) (k : VRel M b y) {p : Prop} {v : AV} (e : binV op a b = some (p, v)) (hp : p) (xt : TypeId) :
    Gives P M w (binOp op xt x y) v := by
  unfold binV at e
  split at e
  · rw [vr_int h, vr_int k]
    split at e
    · exact shiftInt_sound e hp xt
    · rename_i hs
      split at e
      · rename_i hk; subst hk; exact binInt_sound e hp (by simpa using hs) xt
      · cases e
  · rw [vr_str h, vr_str k]
    split at e
    · cases e
    · rename_i hs; exact binStr_sound e hp (by simpa using hs) xt
  · cases e
/-- The guard ahead of a comparison lets all of these by. -/
theorem eqGuard_ok {P : Program} {w : World} (op : BinOp) (t : TypeId) (x y : Operand) {a b : Value} (h : a ≠ .nilIface) (k : (∃ xs, a = .agg xs) → P.eqGuardType P.depth t = false) : (eqGuard op t x y a b).run P w = .ok () w := by
  have key : ∀ xs ys, a = .agg xs → b = .agg ys → (do
      if !(← program).eqGuardType (← program).depth t then return
      if ← Op.eqGuardIn Op.maxDepth t a b then unsupported (.noEntry "binop/eql: two nil values of an interface type with methods, in a part of a struct or an array") : Sem Unit).run P w = .ok () w := by
    intro xs ys h1 h2
    show Sem.run P (if (!P.eqGuardType P.depth t) = true then _ else _) w = _
    rw [k ⟨_, h1⟩]; rfl
  cases op <;> first
    | rfl
    | (cases a <;> first
        | exact absurd rfl h
        | rfl
        | (cases b <;> first
            | rfl
            | exact key _ _ rfl rfl))
theorem vr_ne_nilIface {M : Mem} {a : AV} {x : Value} (h : VRel M a x) (ha : (∃ k n, a = .int k n) ∨ (∃ b, a = .bool b) ∨ (∃ s, a = .str s)) : x ≠ .nilIface ∧ ∀ xs, x ≠ .agg xs := by
  rcases ha with ⟨k, n, rfl⟩ | ⟨b, rfl⟩ | ⟨s, rfl⟩
  · rw [vr_int h]; simp
  · rw [vr_bool h]; simp
  · rw [vr_str h]; simp

/-! ### Addresses, loads -/
theorem run_sureAddr {P : Program} {w : World} (a : Addr) : (Instr.sureAddr (.pointer (some a))).run P w = .ok a w := rfl
theorem run_loadVar_one {P : Program} {w : World} {t : TypeId} {a : Addr} {x : Value} (ht : aggT P t = some false) (h : w.cell? a = some x) : (loadVar t a).run P w = .ok x w := by
  unfold loadVar
  rw [run_bind, run_isAgg ht]
  exact run_load h
theorem run_loadVar_agg {P : Program} {w : World} {t : TypeId} {b o : Nat} {i : TypeInfo} (ht : aggT P t = some true) (hi : P.info? t = some i) (xs : List Value) (hx : xs.length = i.size)
    (h : ∀ j u, xs[j]? = some u → w.cell? ⟨b, o + j, none⟩ = some u) : (loadVar t ⟨b, o, none⟩).run P w = .ok (.agg xs.toArray) w := by
  unfold loadVar
  rw [run_bind, run_isAgg ht]
  simp only []
  show Sem.run P (sizeOf t >>= _) w = _
  rw [run_bind, run_sizeOf hi]
  simp only []
  rw [run_bind, ← hx, run_loadCells xs h]; rfl
def SzP (P : Program) (t : TypeId) : Option Nat → Prop
  | none => aggT P t = some false
  | some k => aggT P t = some true ∧ ∃ i, P.info? t = some i ∧ i.size = k
theorem load_sound {P : Program} {M : Mem} {H : Heap} {w : World} (r : Rel M H w) {t : TypeId} {sz : Option Nat} {a : AV} {x : Value} (h : VRel M a x)
    (ht : SzP P t sz) {p : Prop} {v : AV} (e : evK (.load sz) H [a] = some (p, v)) (hp : p) :
    Gives P M w (Instr.loadAt t x) v := by
  have key : ∀ (b o : Nat) (cs : List AV), x = .pointer (some ⟨b, o, none⟩) → (∀ j v, cs[j]? = some v → ∃ x, w.cell? ⟨b, o + j, none⟩ = some x ∧ VRel M v x) →
      (sz = none → cs = [v]) → (∀ k, sz = some k → cs.length = k ∧ v = .agg cs) → Gives P M w (Instr.loadAt t x) v := by
    intro b o cs hx hc h1 h2
    subst hx
    unfold Instr.loadAt
    cases sz with
    | none =>
      obtain rfl := h1 rfl
      obtain ⟨y, hy, hr⟩ := hc 0 v rfl
      exact ⟨y, by rw [run_bind, run_sureAddr]; exact run_loadVar_one ht hy, hr⟩
    | some k =>
      obtain ⟨hk, rfl⟩ := h2 k rfl
      obtain ⟨ht, i, hi, his⟩ := ht
      obtain ⟨xs, e1, e2, e3⟩ := cells_values hc
      refine ⟨.agg xs.toArray, by rw [run_bind, run_sureAddr]; exact run_loadVar_agg ht hi xs (by omega) e3, ?_⟩
      simp only [VRel]
      exact ⟨_, rfl, by simpa using e2⟩
  cases sz with
  | none =>
    simp only [evK] at e
    split at e
    · rename_i b o
      split at e
      · rename_i vs n hb
        split at e
        · rename_i y hy
          cases e
          refine key b o [v] (by simpa only [VRel] using h) (fun j u hj => ?_) (fun _ => rfl) (fun k hk => by cases hk)
          cases j with
          | zero => simp at hj; subst hj; exact r.cell hb hy
          | succ j => simp at hj
        · cases e
      · cases e
    · rename_i cs i
      split at e
      · rename_i y hy
        cases e
        simp only [VRel] at h
        obtain ⟨b, o, vs, hx, hm, hr⟩ := h
        refine key b (o + i) [v] hx (fun j u hj => ?_) (fun _ => rfl) (fun k hk => by cases hk)
        cases j with
        | zero => simp at hj; subst hj; exact r.icell hm hr hy
        | succ j => simp at hj
      · cases e
    · cases e
  | some k =>
    simp only [evK] at e
    split at e
    · rename_i b o
      split at e
      · rename_i vs n hb
        cases e
        refine key b o ((vs.drop o).take k) (by simpa only [VRel] using h) (fun j u hj => ?_) (fun hk => by cases hk) (fun k' hk => by cases hk; exact ⟨by simp; omega, rfl⟩)
        rw [List.getElem?_take] at hj
        split at hj
        · rw [List.getElem?_drop] at hj; exact r.cell hb hj
        · cases hj
      · cases e
    · rename_i cs i
      cases e
      simp only [VRel] at h
      obtain ⟨b, o, vs, hx, hm, hr⟩ := h
      refine key b (o + i) ((cs.drop i).take k) hx (fun j u hj => ?_) (fun hk => by cases hk) (fun k' hk => by cases hk; exact ⟨by simp; omega, rfl⟩)
      rw [List.getElem?_take] at hj
      split at hj
      · rw [List.getElem?_drop] at hj
        have := r.icell hm hr hj
        rw [show o + i + j = o + (i + j) by omega]; exact this
      · cases hj
    · cases e
theorem faddr_sound {P : Program} {M : Mem} {H : Heap} {w : World} {s : TypeId} {f off : Nat} {fs : Array Field} {fl : Field} {i : TypeInfo} {a : AV} {x : Value} (h : VRel M a x)
    (hs : P.underlying s = some (.struct fs)) (hf : fs[f]? = some fl) (ho : fl.offset = off) (hi : P.info? fl.type = some i) (hz : i.size ≠ 0) {p : Prop} {v : AV} (e : evK (.faddr off) H [a] = some (p, v)) (hp : p) :
    Gives P M w (Instr.fieldAt s x f) v := by
  have key : ∀ b o, x = .pointer (some ⟨b, o, none⟩) → (Instr.fieldAt s x f).run P w = .ok (.pointer (some ⟨b, o + off, none⟩)) w := by
    intro b o hx
    subst hx
    unfold Instr.fieldAt
    rw [run_bind, run_underlying hs]
    simp only [hf]
    rw [run_bind, run_sureAddr]
    simp only []
    unfold fieldPlace
    rw [run_bind, run_bind, run_sizeOf hi]
    simp only [hz, if_false]
    rw [add_off, ho]; rfl
  simp only [evK] at e
  split at e
  · rename_i b o
    cases e
    exact ⟨_, key b o (by simpa only [VRel] using h), by simp only [VRel]⟩
  · rename_i cs j
    cases e
    simp only [VRel] at h
    obtain ⟨b, o, vs, hx, hm, hr⟩ := h
    refine ⟨_, key b (o + j) hx, ?_⟩
    simp only [VRel]
    exact ⟨b, o, vs, by rw [Nat.add_assoc], hm, hr⟩
  · cases e
theorem iaddr_sound {P : Program} {M : Mem} {H : Heap} {w : World} {t el : TypeId} {sz : Nat} {ti : TypeInfo} {a b : AV} {x y : Value} (h : VRel M a x) (k : VRel M b y)
    (ht : P.underlying t = some (.slice el)) (hi : P.info? el = some ti) (hz : ti.size = sz) {p : Prop} {v : AV} (e : evK (.iaddr sz) H [a, b] = some (p, v)) (hp : p) :
    Gives P M w (Instr.indexAt t x y) v := by
  cases b <;> simp only [evK, reduceCtorEq] at e
  rename_i kk i
  rw [vr_int k]
  have key : ∀ (A : Addr) (n c : Nat), A.spot = none → x = .slice (some A) n c → 0 ≤ i ∧ i < n → (Instr.indexAt t x (.int kk i)).run P w = .ok (.pointer (some ⟨A.block, A.off + i.toNat * sz, none⟩)) w := by
    intro A n c hs hx hin
    subst hx
    unfold Instr.indexAt
    simp only [asIntOf, run_bind, run_pure, run_underlying ht, if_pos hin, run_sizeOf hi, hz]
    rw [add_spot hs]
  split at e
  · rename_i cs n c
    cases e
    simp only [VRel] at h
    obtain ⟨A, vs, kc, hx, h2, h3, h4, h5, h6⟩ := h
    cases A with
    | none => have := (h4 rfl).1; omega
    | some A =>
      obtain ⟨hs, hm⟩ := h5 A rfl
      refine ⟨_, key A n kc hs hx hp, ?_⟩
      simp only [VRel]
      exact ⟨A.block, A.off, vs, rfl, hm, h6⟩
  · rename_i bb o n c
    cases e
    refine ⟨_, key ⟨bb, o, none⟩ n c rfl (by simpa only [VRel] using h) hp, ?_⟩
    simp only [VRel]
  · cases e
theorem iarr_sound {P : Program} {M : Mem} {H : Heap} {w : World} {t el : TypeId} {len sz : Nat} {ti : TypeInfo} {a b : AV} {x y : Value} (h : VRel M a x) (k : VRel M b y)
    (ht : P.underlying t = some (.array len el)) (hi : P.info? el = some ti) (hz : ti.size = sz) {p : Prop} {v : AV} (e : evK (.iarr len sz) H [a, b] = some (p, v)) (hp : p) :
    Gives P M w (Instr.indexAt t x y) v := by
  cases b <;> simp only [evK, reduceCtorEq] at e
  rename_i kk i
  rw [vr_int k]
  have key : ∀ (b o : Nat), x = .pointer (some ⟨b, o, none⟩) → 0 ≤ i ∧ i < len → (Instr.indexAt t x (.int kk i)).run P w = .ok (.pointer (some ⟨b, o + i.toNat * sz, none⟩)) w := by
    intro b o hx hin
    subst hx
    unfold Instr.indexAt
    simp only [asIntOf, run_bind, run_pure, run_underlying ht, run_sureAddr, if_pos hin, run_sizeOf hi, hz]
    rw [add_off]
  split at e
  · rename_i bb o
    cases e
    refine ⟨_, key bb o (by simpa only [VRel] using h) hp, by simp only [VRel]⟩
  · rename_i cs j
    cases e
    simp only [VRel] at h
    obtain ⟨b, o, vs, hx, hm, hr⟩ := h
    refine ⟨_, key b (o + j) hx hp, ?_⟩
    simp only [VRel]
    exact ⟨b, o, vs, by rw [Nat.add_assoc], hm, hr⟩
  · cases e
end Go.Sf
