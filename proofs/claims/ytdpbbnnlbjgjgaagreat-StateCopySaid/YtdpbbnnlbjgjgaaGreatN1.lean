/- What the numbers' functions compute, in plain Lean. No program is named here. -/
import Derived.Test.YtdpbbnnlbjgjgaaGreatSf25
set_option linter.unusedVariables false
set_option linter.unusedSimpArgs false
namespace Go.Sf

def Again2 (I : Nat → (Nat → AV) → Heap → Prop) (k : Nat) : AS → Prop := fun S => ∃ k', k' < k ∧ I k' S.T S.H
theorem Again2.mk {I : Nat → (Nat → AV) → Heap → Prop} {k : Nat} {T : Nat → AV} {H : Heap} (k' : Nat) (h : k' < k) (hI : I k' T H) : Again2 I k ⟨T, H⟩ := ⟨k', h, hI⟩
theorem LoopV.mk2 {P : Program} {a : CCode} {T : Nat → AV} {H : Heap} {Q : Exit → AS → Prop} (I : Nat → (Nat → AV) → Heap → Prop) (k₀ : Nat) (h₀ : I k₀ T H) (round : ∀ k T H, I k T H → vc P a ⟨T, H⟩ (thenQ (Again2 I k) Q)) : LoopV (vc P a) ⟨T, H⟩ Q :=
  ⟨fun k S => I k S.T S.H, k₀, h₀, fun k S hI => round k S.T S.H hI⟩
/-- What is new is new. -/
theorem CC.frameN {P : Program} {f : FuncId} {args : List AV} {H H1 : Heap} {Q : AV → Heap → Prop} {Q' : AV → Heap → Prop} (h : CC P f args H1 Q) (hs : Sub H1 H)
    (k : ∀ v H1', Q v H1' → (∀ b, H1 b = none → H1' b ≠ none → H b = none) → Q' v (Heap.over H H1 H1')) : CC P f args H Q' :=
  fun M w vs h1 h2 => (h M w vs h1 (h2.forget hs)).mono fun e w' ⟨v, x, M', H', e1, e2, e3, e4, e5⟩ =>
    ⟨v, x, M', Heap.over H H1 H', e1, e2, h2.over hs e4 e3, Fr.over hs e4, k _ _ e5 fun b hb hn => by
      cases hc : H b with
      | none => rfl
      | some x => exact absurd (e4.block b (h2.lt hc) hb).2.1 hn⟩
/-- A call that makes a row of its own. -/
theorem CallK.own {P : Program} {f : Nat} {as : List AV} {T : Nat → AV} {H : Heap} {d : Option Nat} {K : AS → Prop} {sz n : Nat} {cs : List AV} (h : CC P f as Heap.nil fun v H' => OwnR H' sz n v cs)
    (k : ∀ v H', OwnR H' sz n v cs → (∀ b x, H b = some x → H' b = some x) → (∀ b, blkOf v = some b → H b = none) → K ⟨put T d v, H'⟩) : CallK P f as T H d K := by
  refine CC.frameN h (Sub.nil H) fun v H1' ho hnew => ?_
  refine k v _ ?_ (fun b x hb => ?_) ?_
  · obtain ⟨hl, h1 | ⟨b, c, rfl, hb, hc⟩⟩ := ho
    · exact ⟨hl, .inl h1⟩
    · exact ⟨hl, .inr ⟨b, c, rfl, by rw [Heap.over_new (hnew b rfl (by rw [hb]; simp))]; exact hb, hc⟩⟩
  · rw [Heap.over_out rfl (by rw [hb]; simp)]; exact hb
  · obtain ⟨hl, ⟨rfl, _⟩ | ⟨b, c, rfl, hb, hc⟩⟩ := ho
    · intro b hb; cases hb
    · intro b' hb'; cases hb'; exact hnew b rfl (by rw [hb]; simp)
/-- Seven bits a byte, the least first. -/
def enc (n : Nat) : List UInt8 := if h : n < 128 then [UInt8.ofNat n] else UInt8.ofNat (n % 128 + 128) :: enc (n / 128)
termination_by n
decreasing_by omega
theorem enc_lt {n : Nat} (h : n < 128) : enc n = [UInt8.ofNat n] := by rw [enc]; simp [h]
theorem enc_ge {n : Nat} (h : 128 ≤ n) : enc n = UInt8.ofNat (n % 128 + 128) :: enc (n / 128) := by rw [enc]; simp [Nat.not_lt.2 h]
theorem enc_len : ∀ (k n : Nat), n < 128 ^ (k + 1) → (enc n).length ≤ k + 1
  | 0, n, h => by rw [enc_lt (by simpa using h)]; simp
  | k + 1, n, h => by
    rcases Nat.lt_or_ge n 128 with h1 | h1
    · rw [enc_lt h1]; simp
    · rw [enc_ge h1]
      have := enc_len k (n / 128) (by rw [Nat.div_lt_iff_lt_mul (by omega)]; rw [Nat.pow_succ] at h; exact h)
      simp only [List.length_cons]; omega
theorem enc_len64 {n : Nat} (h : n < 2 ^ 64) : (enc n).length ≤ 10 := enc_len 9 n (by omega)
/-- What a reader of numbers finds: the number, the bytes taken, the error (1: form, 8: torn); f: how many bytes it will look at, i: how many it has. -/
def getN : Nat → Nat → Nat → List UInt8 → Nat × Nat × Nat
  | 0, _, _, _ => (0, 0, 1)
  | _ + 1, _, _, [] => (0, 0, 8)
  | f + 1, i, a, x :: l =>
    if i = 9 ∧ 1 < x.toNat then (0, 0, 1)
    else if 128 ≤ x.toNat then getN f (i + 1) (a + (x.toNat % 128) * 128 ^ i) l
    else if 0 < i ∧ x.toNat % 128 = 0 then (0, 0, 1)
    else (a + (x.toNat % 128) * 128 ^ i, i + 1, 0)
def num (l : List UInt8) : Nat × Nat × Nat := getN 10 0 0 l

/-- A slice of bytes that nobody writes. -/
def IsB (v : AV) (l : List UInt8) : Prop := (v = .nils ∧ l = []) ∨ ∃ c, v = immB l c
theorem IsB.nil : IsB .nils [] := .inl ⟨rfl, rfl⟩
theorem IsB.imm (l : List UInt8) (c : Option Nat) : IsB (immB l c) l := .inr ⟨c, rfl⟩
theorem IsB.len {v : AV} {l : List UInt8} (h : IsB v l) : lenOf v = some l.length := by
  rcases h with ⟨rfl, rfl⟩ | ⟨c, rfl⟩ <;> rfl
theorem IsB.cells {v : AV} {l : List UInt8} (h : IsB v l) (H : Heap) : cellsOf H 1 v = some (bytesV l) := by
  rcases h with ⟨rfl, rfl⟩ | ⟨c, rfl⟩
  · rfl
  · simp [cellsOf, immB, bytesV_length]
theorem IsB.un {v : AV} {l : List UInt8} (h : IsB v l) : Sf.un v = (True, v) := by
  rcases h with ⟨rfl, rfl⟩ | ⟨c, rfl⟩ <;> rfl
theorem RowR.un {H : Heap} {sz n : Nat} {v : AV} {cs : List AV} (h : RowR H sz n v cs) : Sf.un v = (True, v) := by
  rcases h with ⟨_, ⟨rfl, _⟩ | ⟨b, c, rfl, _⟩⟩ | ⟨_, rfl⟩ <;> rfl
theorem OwnR.un {H : Heap} {sz n : Nat} {v : AV} {cs : List AV} (h : OwnR H sz n v cs) : Sf.un v = (True, v) := RowR.un (.inl h)
theorem cellsOf_imm (H : Heap) (sz : Nat) (cs : List AV) (n : Nat) (c : Option Nat) : cellsOf H sz (.imm cs n c) = if cs.length = n * sz then some cs else none := rfl
/-! What is known of a value whose form is known. -/
theorem kn_int (k : IntKind) (n : Int) : AV.known (.int k n) = true := rfl
theorem cl_int (k : IntKind) (n : Int) : AV.cellsL (.int k n) = [.int k n] := rfl
theorem on_int (k : IntKind) (n : Int) : AV.one (.int k n) = true := rfl
theorem kn_bool (b : Bool) : AV.known (.bool b) = true := rfl
theorem cl_bool (b : Bool) : AV.cellsL (.bool b) = [.bool b] := rfl
theorem on_bool (b : Bool) : AV.one (.bool b) = true := rfl
theorem kn_str (s : ByteArray) : AV.known (.str s) = true := rfl
theorem cl_str (s : ByteArray) : AV.cellsL (.str s) = [.str s] := rfl
theorem on_str (s : ByteArray) : AV.one (.str s) = true := rfl
theorem kn_nilp : AV.known (.nilp) = true := rfl
theorem cl_nilp : AV.cellsL (.nilp) = [.nilp] := rfl
theorem on_nilp : AV.one (.nilp) = true := rfl
theorem kn_ptr (b o : Nat) : AV.known (.ptr b o) = true := rfl
theorem cl_ptr (b o : Nat) : AV.cellsL (.ptr b o) = [.ptr b o] := rfl
theorem on_ptr (b o : Nat) : AV.one (.ptr b o) = true := rfl
theorem kn_iptr (cs : List AV) (i : Nat) : AV.known (.iptr cs i) = true := rfl
theorem cl_iptr (cs : List AV) (i : Nat) : AV.cellsL (.iptr cs i) = [.iptr cs i] := rfl
theorem on_iptr (cs : List AV) (i : Nat) : AV.one (.iptr cs i) = true := rfl
theorem kn_nils : AV.known (.nils) = true := rfl
theorem cl_nils : AV.cellsL (.nils) = [.nils] := rfl
theorem on_nils : AV.one (.nils) = true := rfl
theorem kn_sl (b o n c : Nat) : AV.known (.sl b o n c) = true := rfl
theorem cl_sl (b o n c : Nat) : AV.cellsL (.sl b o n c) = [.sl b o n c] := rfl
theorem on_sl (b o n c : Nat) : AV.one (.sl b o n c) = true := rfl
theorem kn_imm (cs : List AV) (n : Nat) (c : Option Nat) : AV.known (.imm cs n c) = true := rfl
theorem cl_imm (cs : List AV) (n : Nat) (c : Option Nat) : AV.cellsL (.imm cs n c) = [.imm cs n c] := rfl
theorem on_imm (cs : List AV) (n : Nat) (c : Option Nat) : AV.one (.imm cs n c) = true := rfl
theorem kn_mp (b : Nat) : AV.known (.mp b) = true := rfl
theorem cl_mp (b : Nat) : AV.cellsL (.mp b) = [.mp b] := rfl
theorem on_mp (b : Nat) : AV.one (.mp b) = true := rfl
theorem kn_nilm : AV.known (.nilm) = true := rfl
theorem cl_nilm : AV.cellsL (.nilm) = [.nilm] := rfl
theorem on_nilm : AV.one (.nilm) = true := rfl
theorem kn_fn (f : Fn) (xs ys : List AV) : AV.known (.fn f xs ys) = true := rfl
theorem cl_fn (f : Fn) (xs ys : List AV) : AV.cellsL (.fn f xs ys) = [.fn f xs ys] := rfl
theorem on_fn (f : Fn) (xs ys : List AV) : AV.one (.fn f xs ys) = true := rfl
theorem kn_nilf : AV.known (.nilf) = true := rfl
theorem cl_nilf : AV.cellsL (.nilf) = [.nilf] := rfl
theorem on_nilf : AV.one (.nilf) = true := rfl
theorem kn_agg (cs : List AV) : AV.known (.agg cs) = true := rfl
theorem cl_agg (cs : List AV) : AV.cellsL (.agg cs) = cs := rfl
theorem IsB.known {v : AV} {l : List UInt8} (h : IsB v l) : AV.known v = true := by rcases h with ⟨rfl, rfl⟩ | ⟨c, rfl⟩ <;> rfl
theorem IsB.cellsL {v : AV} {l : List UInt8} (h : IsB v l) : AV.cellsL v = [v] := by rcases h with ⟨rfl, rfl⟩ | ⟨c, rfl⟩ <;> rfl
theorem IsB.one {v : AV} {l : List UInt8} (h : IsB v l) : AV.one v = true := by rcases h with ⟨rfl, rfl⟩ | ⟨c, rfl⟩ <;> rfl
theorem lenOf_nils : lenOf .nils = some 0 := rfl
theorem lenOf_imm (cs : List AV) (n : Nat) (c : Option Nat) : lenOf (.imm cs n c) = some n := rfl
theorem lenOf_sl (b o n c : Nat) : lenOf (.sl b o n c) = some n := rfl
theorem lenOf_str (s : ByteArray) : lenOf (.str s) = some s.size := rfl
theorem or128 : ∀ a : _root_.Fin 128, bitsOf .u8 (· ||| ·) (a.val : Int) 128 = (a.val + 128 : Nat) := by decide
theorem wrap_u8 {n : Nat} (h : n < 256) : IntKind.u8.wrap (n : Int) = n := by
  simp [IntKind.wrap, IntKind.bits, IntKind.signed]; omega
theorem wrap_u8' (n : Nat) : IntKind.u8.wrap (n : Int) = ((n % 256 : Nat) : Int) := by
  simp [IntKind.wrap, IntKind.bits, IntKind.signed]
theorem wrap_u64 {n : Int} (h0 : 0 ≤ n) (h : n < 18446744073709551616) : IntKind.u64.wrap n = n := by
  simp [IntKind.wrap, IntKind.bits, IntKind.signed]; omega
theorem wrap_u32 {n : Int} (h0 : 0 ≤ n) (h : n < 4294967296) : IntKind.u32.wrap n = n := by
  simp [IntKind.wrap, IntKind.bits, IntKind.signed]; omega
theorem wrap_i64 {n : Int} (h0 : -9223372036854775808 ≤ n) (h : n < 9223372036854775808) : IntKind.i64.wrap n = n := by
  simp [IntKind.wrap, IntKind.bits, IntKind.signed]; omega
theorem put_byte (k : Nat) : bitsOf .u8 (· ||| ·) (IntKind.u8.wrap ((k : Int).tmod 128)) 128 = ((k % 128 + 128 : Nat) : Int) := by
  have h1 : (k : Int).tmod 128 = ((k % 128 : Nat) : Int) := rfl
  rw [h1, wrap_u8 (by omega)]
  exact or128 ⟨k % 128, by omega⟩
theorem pow128 (i : Nat) : 128 ^ i = 2 ^ (7 * i) := by rw [Nat.pow_mul]
theorem or_shift {a s low : Nat} (ha : a < 2 ^ 64) (h : a < 2 ^ s) (h2 : a + low * 2 ^ s < 2 ^ 64) : bitsOf .u64 (· ||| ·) (a : Int) ((low * 2 ^ s : Nat) : Int) = ((a + low * 2 ^ s : Nat) : Int) := by
  have h3 := Nat.shiftLeft_add_eq_or_of_lt h low
  rw [Nat.shiftLeft_eq] at h3
  unfold bitsOf
  have e1 : (BitVec.ofInt IntKind.u64.bits (a : Int) ||| BitVec.ofInt IntKind.u64.bits ((low * 2 ^ s : Nat) : Int)).toNat = a + low * 2 ^ s := by
    rw [BitVec.toNat_or, BitVec.ofInt_natCast, BitVec.ofInt_natCast, BitVec.toNat_ofNat, BitVec.toNat_ofNat]
    show (a % 2 ^ 64) ||| ((low * 2 ^ s) % 2 ^ 64) = _
    rw [Nat.mod_eq_of_lt ha, Nat.mod_eq_of_lt (by omega), Nat.or_comm, ← h3, Nat.add_comm]
  show IntKind.u64.wrap ((BitVec.ofInt IntKind.u64.bits (a : Int) ||| BitVec.ofInt IntKind.u64.bits ((low * 2 ^ s : Nat) : Int)).toNat : Int) = _
  rw [e1, wrap_u64 (by omega) (by omega)]
theorem get_low (x : UInt8) : IntKind.u64.wrap ((x.toNat : Int).tmod 128) = ((x.toNat % 128 : Nat) : Int) := by
  have h1 : (x.toNat : Int).tmod 128 = ((x.toNat % 128 : Nat) : Int) := rfl
  rw [h1, wrap_u64 (by omega) (by omega)]
theorem get_sh {i : Nat} (h : i < 10) : IntKind.i64.wrap (7 * (i : Int)) = ((7 * i : Nat) : Int) := by
  rw [wrap_i64 (by omega) (by omega)]; omega
theorem get_or {i n : Nat} (x : UInt8) (h : i < 10) (hn : n < 128 ^ i) (hx : i = 9 → x.toNat ≤ 1) :
    bitsOf .u64 (· ||| ·) (n : Int) (IntKind.u64.wrap (IntKind.u64.wrap ((x.toNat : Int).tmod 128) * 2 ^ (IntKind.i64.wrap (7 * (i : Int))).toNat.min IntKind.u64.bits)) = ((n + x.toNat % 128 * 128 ^ i : Nat) : Int) := by
  rw [get_low, get_sh h]
  have e1 : ((7 * i : Nat) : Int).toNat.min IntKind.u64.bits = 7 * i := by
    show Nat.min (7 * i) 64 = 7 * i
    exact Nat.min_eq_left (by omega)
  rw [e1, pow128]
  rw [pow128] at hn
  have hp : (2 : Nat) ^ (7 * i) ≤ 2 ^ 63 := Nat.pow_le_pow_right (by omega) (by omega)
  have hb : n + x.toNat % 128 * 2 ^ (7 * i) < 2 ^ 64 := by
    by_cases h9 : i = 9
    · subst h9
      have := hx rfl
      have h1 : x.toNat % 128 ≤ 1 := by omega
      have : x.toNat % 128 * 2 ^ (7 * 9) ≤ 1 * 2 ^ (7 * 9) := Nat.mul_le_mul_right _ h1
      omega
    · have hp : (2 : Nat) ^ (7 * i) ≤ 2 ^ 56 := Nat.pow_le_pow_right (by omega) (by omega)
      have h1 : x.toNat % 128 ≤ 127 := by omega
      have : x.toNat % 128 * 2 ^ (7 * i) ≤ 127 * 2 ^ 56 := Nat.mul_le_mul h1 hp
      omega
  have e2 : ((x.toNat % 128 : Nat) : Int) * 2 ^ (7 * i) = ((x.toNat % 128 * 2 ^ (7 * i) : Nat) : Int) := by push_cast; rfl
  rw [e2, wrap_u64 (by omega) (by omega)]
  exact or_shift (by omega) hn hb
theorem u8_ofNat {n : Nat} (h : n < 256) : AV.int .u8 (n : Int) = byteV (UInt8.ofNat n) := by
  simp only [byteV]
  congr 1
  have : (UInt8.ofNat n).toNat = n := by simp [UInt8.toNat_ofNat', h]
  rw [this]
theorem getN_spec : ∀ (f i a : Nat) (l : List UInt8), f + i = 10 → a < 128 ^ i → (getN f i a l).1 < 2 ^ 64 ∧ ((getN f i a l).2.2 = 0 → i < (getN f i a l).2.1 ∧ (getN f i a l).2.1 ≤ i + l.length ∧ (getN f i a l).2.1 ≤ 10) ∧
    ((getN f i a l).2.2 ≠ 0 → (getN f i a l).1 = 0 ∧ (getN f i a l).2.1 = 0)
  | 0, i, a, l, _, _ => by simp [getN]
  | f + 1, i, a, [], _, _ => by simp [getN]
  | f + 1, i, a, x :: l, hf, ha => by
    unfold getN
    have hlow : x.toNat % 128 * 128 ^ i ≤ 127 * 128 ^ i := Nat.mul_le_mul_right _ (by omega)
    split
    · simp
    · rename_i h9
      split
      · rename_i hx
        have := getN_spec f (i + 1) (a + x.toNat % 128 * 128 ^ i) l (by omega) (by rw [Nat.pow_succ]; omega)
        obtain ⟨h1, h2, h3⟩ := this
        refine ⟨h1, fun h => ?_, h3⟩
        have := h2 h
        simp only [List.length_cons]; omega
      · rename_i hx
        split
        · simp
        · refine ⟨?_, fun _ => ⟨Nat.lt_succ_self i, by simp only [List.length_cons]; omega, by show i + 1 ≤ 10; omega⟩, fun h => absurd rfl h⟩
          show a + x.toNat % 128 * 128 ^ i < 2 ^ 64
          rw [pow128] at *
          by_cases hi : i = 9
          · subst hi
            have : x.toNat % 128 ≤ 1 := by omega
            have : x.toNat % 128 * 2 ^ (7 * 9) ≤ 1 * 2 ^ (7 * 9) := Nat.mul_le_mul_right _ this
            omega
          · have hp : (2 : Nat) ^ (7 * i) ≤ 2 ^ 56 := Nat.pow_le_pow_right (by omega) (by omega)
            omega
theorem num_lt (l : List UInt8) : (num l).1 < 2 ^ 64 := (getN_spec 10 0 0 l rfl (by omega)).1
theorem num_ok {l : List UInt8} (h : (num l).2.2 = 0) : 0 < (num l).2.1 ∧ (num l).2.1 ≤ l.length ∧ (num l).2.1 ≤ 10 := by
  have := (getN_spec 10 0 0 l rfl (by omega)).2.1 h
  rw [Nat.zero_add] at this
  exact this
theorem num_bad {l : List UInt8} (h : (num l).2.2 ≠ 0) : (num l).1 = 0 ∧ (num l).2.1 = 0 := (getN_spec 10 0 0 l rfl (by omega)).2.2 h
def strOf (l : List UInt8) : ByteArray := ⟨l.toArray⟩
/-- Sums. -/
def stepA (p : Nat × Nat) (c : UInt8) : Nat × Nat := ((p.1 + c.toNat) % 65521, (p.2 + (p.1 + c.toNat) % 65521) % 65521)
def sumP (l : List UInt8) : Nat × Nat := l.foldl stepA (1, 0)
def sumL (l : List UInt8) : Nat := (sumP l).2 * 65536 + (sumP l).1
def okA (p : Nat × Nat) : Prop := p.1 < 65521 ∧ p.2 < 65521
theorem okA.step {p : Nat × Nat} (c : UInt8) : okA (stepA p c) := ⟨Nat.mod_lt _ (by omega), Nat.mod_lt _ (by omega)⟩
theorem okA.fold : ∀ (l : List UInt8) {p : Nat × Nat}, okA p → okA (l.foldl stepA p)
  | [], _, h => h
  | c :: l, p, _ => okA.fold l (okA.step c)
theorem sumP_ok (l : List UInt8) : okA (sumP l) := okA.fold l ⟨by omega, by omega⟩
/-- Slices of slices of bytes. -/
def IsBB (v : AV) (ls : List (List UInt8)) : Prop := (v = .nils ∧ ls = []) ∨ ∃ vs c, v = .imm vs ls.length c ∧ vs.length = ls.length ∧ ∀ (i : Nat) (w : AV) (l : List UInt8), vs[i]? = some w → ls[i]? = some l → IsB w l
theorem IsBB.un {v : AV} {ls : List (List UInt8)} (h : IsBB v ls) : Sf.un v = (True, v) := by
  rcases h with ⟨rfl, rfl⟩ | ⟨vs, c, rfl, _⟩ <;> rfl
theorem add_u32 {a : Nat} (c : UInt8) (h : a < 65521) : (IntKind.u32.wrap ((a : Int) + IntKind.u32.wrap (c.toNat : Int))).tmod 65521 = (((a + c.toNat) % 65521 : Nat) : Int) := by
  have := c.toNat_lt
  rw [wrap_u32 (n := (c.toNat : Int)) (by omega) (by omega), show (a : Int) + (c.toNat : Int) = ((a + c.toNat : Nat) : Int) by omega, wrap_u32 (by omega) (by omega)]
  rfl
theorem add_u32' {a b : Nat} (h : a < 65521) (k : b < 65521) : (IntKind.u32.wrap ((b : Int) + (a : Int))).tmod 65521 = (((b + a) % 65521 : Nat) : Int) := by
  rw [show (b : Int) + (a : Int) = ((b + a : Nat) : Int) by omega, wrap_u32 (by omega) (by omega)]
  rfl
def le4 (s : Nat) : List UInt8 := [UInt8.ofNat (s % 256), UInt8.ofNat (s / 256 % 256), UInt8.ofNat (s / 65536 % 256), UInt8.ofNat (s / 16777216 % 256)]
/-- Frames. -/
def frameL (t : List UInt8) : List UInt8 := enc t.length ++ (le4 (sumL t) ++ t)
def getFrame (l : List UInt8) : List UInt8 × Nat × Nat :=
  if (num l).2.2 ≠ 0 then ([], 0, (num l).2.2)
  else if 4096 < (num l).1 then ([], 0, 10)
  else if l.length - (num l).2.1 < 4 + (num l).1 then ([], 0, 8)
  else if le4 (sumL ((l.drop ((num l).2.1 + 4)).take (num l).1)) = (l.drop (num l).2.1).take 4 then ((l.drop ((num l).2.1 + 4)).take (num l).1, (num l).2.1 + 4 + (num l).1, 0)
  else ([], 0, 7)
theorem sumL_lt (l : List UInt8) : sumL l < 4294967296 := by
  have := sumP_ok l
  unfold sumL; unfold okA at this; omega
theorem sum_byte {s : Nat} (hs : s < 4294967296) (i : Nat) (hi : i < 4) : AV.int .u8 (IntKind.u8.wrap ((s : Int).fdiv (2 ^ Nat.min (IntKind.i64.wrap (8 * (i : Int))).toNat IntKind.u32.bits))) = byteV ((le4 s).getD i 0) := by
  have h : i = 0 ∨ i = 1 ∨ i = 2 ∨ i = 3 := by omega
  rcases h with rfl | rfl | rfl | rfl
  · rw [show (2 : Int) ^ Nat.min (IntKind.i64.wrap (8 * ((0 : Nat) : Int))).toNat IntKind.u32.bits = 1 from rfl, Int.fdiv_eq_ediv_of_nonneg _ (by omega), show (s : Int) / 1 = ((s : Nat) : Int) by omega, wrap_u8', u8_ofNat (Nat.mod_lt _ (by omega))]
    rfl
  · rw [show (2 : Int) ^ Nat.min (IntKind.i64.wrap (8 * ((1 : Nat) : Int))).toNat IntKind.u32.bits = 256 from rfl, Int.fdiv_eq_ediv_of_nonneg _ (by omega), show (s : Int) / 256 = ((s / 256 : Nat) : Int) by omega, wrap_u8', u8_ofNat (Nat.mod_lt _ (by omega))]
    rfl
  · rw [show (2 : Int) ^ Nat.min (IntKind.i64.wrap (8 * ((2 : Nat) : Int))).toNat IntKind.u32.bits = 65536 from rfl, Int.fdiv_eq_ediv_of_nonneg _ (by omega), show (s : Int) / 65536 = ((s / 65536 : Nat) : Int) by omega, wrap_u8', u8_ofNat (Nat.mod_lt _ (by omega))]
    rfl
  · rw [show (2 : Int) ^ Nat.min (IntKind.i64.wrap (8 * ((3 : Nat) : Int))).toNat IntKind.u32.bits = 16777216 from rfl, Int.fdiv_eq_ediv_of_nonneg _ (by omega), show (s : Int) / 16777216 = ((s / 16777216 : Nat) : Int) by omega, wrap_u8', u8_ofNat (Nat.mod_lt _ (by omega))]
    rfl
/-- Changes. -/
structure MutT where
  k : Int
  g : Int
  n : Int
  i : Int
  f : Int
  v : Int
  deriving DecidableEq
def mutCs (m : MutT) : List AV := [.int .i64 m.k, .int .i64 m.g, .int .i64 m.n, .int .i64 m.i, .int .i64 m.f, .int .i64 m.v]
def isK (g n i : Int) : Bool := decide (0 ≤ g) && decide (g < 4) && decide (0 ≤ n) && decide (n < 2) && decide (0 ≤ i) && decide (i < 24)
def fieldsK (k : Int) : Bool := decide (k = 5) || decide (k = 6)
def valuesK (k : Int) : Bool := decide (k = 1) || decide (k = 3) || decide (k = 5)
def mayM (m : MutT) : Bool := decide (1 ≤ m.k) && decide (m.k ≤ 6) && isK m.g m.n m.i && (if fieldsK m.k then decide (0 ≤ m.f) && decide (m.f < 8) else decide (m.f = 0)) && (valuesK m.k || decide (m.v = 0))
/-- Signed numbers: the sign is the last bit. -/
def zig (x : Int) : Nat := if 0 ≤ x then 2 * x.toNat else 2 * (-x - 1).toNat + 1
def zag (u : Nat) : Int := if u % 2 = 0 then (u / 2 : Nat) else -((u / 2 : Nat) : Int) - 1
theorem zig_lt {x : Int} (h0 : -9223372036854775808 ≤ x) (h : x < 9223372036854775808) : zig x < 2 ^ 64 := by
  unfold zig; split <;> omega
theorem zig_xor {x : Int} (h0 : -9223372036854775808 ≤ x) (h : x < 9223372036854775808) :
    bitsOf .u64 (· ^^^ ·) (IntKind.u64.wrap (IntKind.u64.wrap x * 2)) (IntKind.u64.wrap (x.fdiv 9223372036854775808)) = (zig x : Int) := by
  have h1 : x.fdiv 9223372036854775808 = x / 9223372036854775808 := Int.fdiv_eq_ediv_of_nonneg _ (by omega)
  rw [h1]
  by_cases hx : 0 ≤ x
  · have e1 : x / 9223372036854775808 = 0 := by omega
    rw [e1, wrap_u64 (n := 0) (by omega) (by omega), wrap_u64 hx (by omega), wrap_u64 (n := x * 2) (by omega) (by omega)]
    obtain ⟨n, rfl⟩ : ∃ n : Nat, x = n := ⟨x.toNat, by omega⟩
    have e2 : zig (n : Int) = 2 * n := by unfold zig; rw [if_pos hx]; omega
    rw [e2]
    show IntKind.u64.wrap ((BitVec.ofInt 64 ((n : Int) * 2) ^^^ BitVec.ofInt 64 0).toNat : Int) = _
    rw [show (n : Int) * 2 = ((2 * n : Nat) : Int) by omega, BitVec.ofInt_natCast]
    have e3 : (BitVec.ofNat 64 (2 * n) ^^^ BitVec.ofInt 64 0).toNat = 2 * n := by
      rw [show BitVec.ofInt 64 0 = 0#64 from rfl, BitVec.xor_zero, BitVec.toNat_ofNat, Nat.mod_eq_of_lt (by omega)]
    rw [e3, wrap_u64 (by omega) (by omega)]
  · have e1 : x / 9223372036854775808 = -1 := by omega
    have e4 : IntKind.u64.wrap (-1) = 18446744073709551615 := by decide
    have e5 : IntKind.u64.wrap x = x + 18446744073709551616 := by simp [IntKind.wrap, IntKind.bits, IntKind.signed]; omega
    have e6 : IntKind.u64.wrap ((x + 18446744073709551616) * 2) = 2 * x + 18446744073709551616 := by simp [IntKind.wrap, IntKind.bits, IntKind.signed]; omega
    rw [e1, e4, e5, e6]
    obtain ⟨n, hn⟩ : ∃ n : Nat, 2 * x + 18446744073709551616 = n := ⟨(2 * x + 18446744073709551616).toNat, by omega⟩
    rw [hn]
    have e2 : zig x = 18446744073709551615 - n := by unfold zig; rw [if_neg hx]; omega
    rw [e2]
    show IntKind.u64.wrap ((BitVec.ofInt 64 (n : Int) ^^^ BitVec.ofInt 64 18446744073709551615).toNat : Int) = _
    have e3 : (BitVec.ofInt 64 (n : Int) ^^^ BitVec.ofInt 64 18446744073709551615).toNat = 18446744073709551615 - n := by
      rw [show BitVec.ofInt 64 18446744073709551615 = BitVec.allOnes 64 by decide, BitVec.xor_allOnes, BitVec.toNat_not, BitVec.ofInt_natCast, BitVec.toNat_ofNat, Nat.mod_eq_of_lt (by omega)]
    rw [e3, wrap_u64 (by omega) (by omega)]
theorem zag_xor {u : Nat} (h : u < 2 ^ 64) :
    bitsOf .i64 (· ^^^ ·) (IntKind.i64.wrap ((u : Int).fdiv 2)) (IntKind.i64.wrap (-IntKind.i64.wrap (bitsOf .u64 (· &&& ·) (u : Int) 1))) = zag u := by
  have h1 : (u : Int).fdiv 2 = ((u / 2 : Nat) : Int) := by rw [Int.fdiv_eq_ediv_of_nonneg _ (by omega)]; rfl
  have h2 : bitsOf .u64 (· &&& ·) (u : Int) 1 = ((u % 2 : Nat) : Int) := by
    show IntKind.u64.wrap ((BitVec.ofInt 64 (u : Int) &&& BitVec.ofInt 64 1).toNat : Int) = _
    have : (BitVec.ofInt 64 (u : Int) &&& BitVec.ofInt 64 1).toNat = u % 2 := by
      rw [BitVec.toNat_and, BitVec.ofInt_natCast, BitVec.toNat_ofNat, Nat.mod_eq_of_lt (by omega)]
      show u &&& 1 = _
      exact Nat.and_one_is_mod u
    rw [this, wrap_u64 (by omega) (by omega)]
  rw [h1, h2, wrap_i64 (n := ((u / 2 : Nat) : Int)) (by omega) (by omega), wrap_i64 (n := ((u % 2 : Nat) : Int)) (by omega) (by omega), wrap_i64 (by omega) (by omega)]
  unfold zag
  split
  · rename_i h0
    rw [h0]
    show IntKind.i64.wrap ((BitVec.ofInt 64 ((u / 2 : Nat) : Int) ^^^ BitVec.ofInt 64 0).toNat : Int) = _
    have e3 : (BitVec.ofInt 64 ((u / 2 : Nat) : Int) ^^^ BitVec.ofInt 64 0).toNat = u / 2 := by
      rw [show BitVec.ofInt 64 0 = 0#64 from rfl, BitVec.xor_zero, BitVec.ofInt_natCast, BitVec.toNat_ofNat, Nat.mod_eq_of_lt (by omega)]
    rw [e3, wrap_i64 (by omega) (by omega)]
  · have h0 : u % 2 = 1 := by omega
    rw [h0]
    show IntKind.i64.wrap ((BitVec.ofInt 64 ((u / 2 : Nat) : Int) ^^^ BitVec.ofInt 64 (-1)).toNat : Int) = _
    have e3 : (BitVec.ofInt 64 ((u / 2 : Nat) : Int) ^^^ BitVec.ofInt 64 (-1)).toNat = 18446744073709551615 - u / 2 := by
      rw [show BitVec.ofInt 64 (-1) = BitVec.allOnes 64 by decide, BitVec.xor_allOnes, BitVec.toNat_not, BitVec.ofInt_natCast, BitVec.toNat_ofNat, Nat.mod_eq_of_lt (by omega)]
    rw [e3]
    simp [IntKind.wrap, IntKind.bits, IntKind.signed]; omega
end Go.Sf
