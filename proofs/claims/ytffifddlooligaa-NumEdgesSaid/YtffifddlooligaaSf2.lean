/- The framework's code: operations with their types resolved, what they give on abstract values, and the condition under which a piece of code does what is asked of it. No program is named here. -/
import Derived.Test.YtffifddlooligaaSf1
set_option linter.unusedVariables false
set_option linter.unusedSimpArgs false
namespace Go.Sf

inductive CX where
  | t (i : Nat)
  | c (v : AV)
  | f (i : Nat)
  deriving Inhabited

inductive SK where
  | b | i | s
  deriving Inhabited, DecidableEq
/-- What '==' compares. -/
inductive EqT where
  | bool | ptr | slice | map | func | flat (ks : List SK)
  deriving Inhabited, DecidableEq

/-- What a length is asked of. -/
inductive LT where
  | s | a | m
  deriving Inhabited, DecidableEq
/-- Operations that look alone. -/
inductive PK where
  | mv
  | un (op : UnOp)
  | bin (op : BinOp)
  | eq (neg : Bool) (c : EqT)
  | cvt (k : IntKind)
  | cvtS
  | b2s
  | nilc
  | faddr (off : Nat)
  | iaddr (sz : Nat)
  | iarr (len sz : Nat)
  | load (sz : Option Nat)
  | field (off : Nat) (sz : Option Nat)
  | idxS
  | slc (sz : Nat) (lo hi mx : Bool)
  | slcS (lo hi : Bool)
  | ext (i : Nat)
  | len (c : LT)
  | cap
  | min
  | max
  | mkfn (f : Fn) (first : Nat)
  | lkp (sk : SK) (ok : Bool) (zero : AV)
  | build (zero : List AV) (places : List (Nat × Nat))
  deriving Inhabited

/-- Operations that make, write or call. -/
inductive EK where
  | alloc (zero : List AV)
  | box
  | bslice (frozen : Bool) (zero : List AV) (places : List (Nat × Nat)) (len : Nat)
  | store (sz : Option Nat)
  | append (frozen : Bool) (sz bytes : Nat)
  | s2b
  | mark
  | mkslice (frozen : Bool) (zero : List AV) (bytes : Nat)
  | mkmap
  | mset (sk : SK)
  | mdel (sk : SK)
  | nope
  | call (f : Nat)
  | callv
  deriving Inhabited

inductive COp where
  | p (k : PK) (xs : List CX)
  | pick (c a b : CX)
  | e (k : EK) (xs : List CX)
  deriving Inhabited

structure CO where
  dst : Option Nat
  g : Option (Nat × Bool)
  op : COp
  deriving Inhabited

/-- A region's operations in every order that may come: 'two' where the order is open. -/
inductive OT where
  | done
  | op (o : CO) (t : OT)
  | two (a b : OT)
  deriving Inhabited

inductive CCode where
  | skip
  | ops (l : List CO)
  | any (t : OT)
  | draw (h t : List CO)
  | seq (a b : CCode)
  | cond (c : CX) (a b : CCode)
  | block (id : Nat) (a : CCode)
  | loop (a : CCode)
  | exit (id : Nat)
  | ret
  | mark (a : CCode)
  deriving Inhabited

def un : AV → Prop × AV
  | .gd b v => (b = true ∧ (un v).1, (un v).2)
  | v => (True, v)
def CX.ev (x : CX) (T : Nat → AV) : AV := match x with | .t i => T i | .c v => v | .f i => .fn (.func i) [] []

/-- Whether what is guarded so is carried out. -/
def gw (want : Bool) : AV → Option Bool
  | .bool b => some (b == want)
  | .gd b v => match gw want v with
    | some c => some (b && c)
    | none => if b then none else some false
  | .tup [] => some false
  | _ => none

/-! ### Numbers, strings, equality -/
def bitsOf (k : IntKind) (f : BitVec k.bits → BitVec k.bits → BitVec k.bits) (a b : Int) : Int := k.wrap (f (BitVec.ofInt k.bits a) (BitVec.ofInt k.bits b)).toNat
def binInt (op : BinOp) (k : IntKind) (a b : Int) : Option (Prop × AV) :=
  match op with
  | .add => some (True, .int k (k.wrap (a + b)))
  | .sub => some (True, .int k (k.wrap (a - b)))
  | .mul => some (True, .int k (k.wrap (a * b)))
  | .quo => some (b ≠ 0, .int k (k.wrap (a.tdiv b)))
  | .rem => some (b ≠ 0, .int k (a.tmod b))
  | .and => some (True, .int k (bitsOf k (· &&& ·) a b))
  | .or => some (True, .int k (bitsOf k (· ||| ·) a b))
  | .xor => some (True, .int k (bitsOf k (· ^^^ ·) a b))
  | .eql => some (True, .bool (decide (a = b)))
  | .neq => some (True, .bool (decide (a ≠ b)))
  | .lss => some (True, .bool (decide (a < b)))
  | .leq => some (True, .bool (decide (a ≤ b)))
  | .gtr => some (True, .bool (decide (b < a)))
  | .geq => some (True, .bool (decide (b ≤ a)))
  | _ => none
def shiftInt (op : BinOp) (k : IntKind) (a b : Int) : Option (Prop × AV) :=
  match op with
  | .shl => some (0 ≤ b, .int k (k.wrap (a * 2 ^ (Nat.min b.toNat k.bits))))
  | .shr => some (0 ≤ b, .int k (a.fdiv (2 ^ (Nat.min b.toNat k.bits))))
  | _ => none
def strLt (a b : ByteArray) : Bool := Op.bytesLess a.data.toList b.data.toList
def binStr (op : BinOp) (a b : ByteArray) : Option (Prop × AV) :=
  match op with
  | .add => some (((a.size + b.size : Nat) : Int) ≤ 9223372036854775807, .str (a ++ b))
  | .eql => some (True, .bool (decide (a = b)))
  | .neq => some (True, .bool (decide (a ≠ b)))
  | .lss => some (True, .bool (strLt a b))
  | .gtr => some (True, .bool (!(strLt a b || decide (a = b))))
  | _ => none
def isShift : BinOp → Bool
  | .shl | .shr => true
  | _ => false
def binV (op : BinOp) (x y : AV) : Option (Prop × AV) :=
  match x, y with
  | .int k a, .int k' b => if isShift op then shiftInt op k a b else if k = k' then binInt op k a b else none
  | .str a, .str b => if isShift op then none else binStr op a b
  | _, _ => none
def scalEq : SK → AV → AV → Option Bool
  | .i, .int k a, .int k' b => if k = k' then some (decide (a = b)) else none
  | .b, .bool a, .bool b => some (decide (a = b))
  | .s, .str a, .str b => some (decide (a = b))
  | _, _, _ => none
def flatEq : List SK → List AV → List AV → Option Bool
  | [], [], [] => some true
  | k :: ks, x :: xs, y :: ys => match scalEq k x y, flatEq ks xs ys with
    | some b, some c => some (b && c)
    | _, _ => none
  | _, _, _ => none
def eqV (c : EqT) (x y : AV) : Option Bool :=
  match c, x, y with
  | .bool, .bool a, .bool b => some (decide (a = b))
  | .ptr, .nilp, .nilp => some true
  | .ptr, .nilp, .ptr _ _ | .ptr, .ptr _ _, .nilp | .ptr, .nilp, .iptr _ _ | .ptr, .iptr _ _, .nilp => some false
  | .slice, .nils, .nils => some true
  | .slice, .nils, .sl _ _ _ _ | .slice, .sl _ _ _ _, .nils => some false
  | .slice, .nils, .imm _ (_ + 1) _ | .slice, .imm _ (_ + 1) _, .nils => some false
  | .map, .nilm, .nilm => some true
  | .map, .nilm, .mp _ | .map, .mp _, .nilm => some false
  | .func, .nilf, .nilf => some true
  | .func, .nilf, .fn _ _ _ | .func, .fn _ _ _, .nilf => some false
  | .flat ks, .agg xs, .agg ys => flatEq ks xs ys
  | _, _, _ => none
def unV (op : UnOp) (x : AV) : Option (Prop × AV) :=
  match op, x with
  | .neg, .int k n => some (True, .int k (k.wrap (0 - n)))
  | .not, .bool b => some (True, .bool (!b))
  | _, _ => none

/-! ### Slices -/
def byteV (b : UInt8) : AV := .int .u8 b.toNat
def toBytes : List AV → Option (List UInt8)
  | [] => some []
  | .int .u8 x :: r => match toBytes r with
    | some l => some (UInt8.ofNat x.toNat :: l)
    | none => none
  | _ :: _ => none
/-- A slice's cells (the slice's elements have sz cells). -/
def cellsOf (H : Heap) (sz : Nat) (v : AV) : Option (List AV) :=
  match v with
  | .nils => some []
  | .imm cs n _ => if cs.length = n * sz then some cs else none
  | .sl b o n _ => if n = 0 then some [] else match H b with
    | some (.cells vs _) => if o + n * sz ≤ vs.length then some ((vs.drop o).take (n * sz)) else none
    | _ => none
  | .str s => if sz = 1 then some (s.data.toList.map byteV) else none
  | _ => none
def lenOf : AV → Option Nat
  | .nils => some 0
  | .imm _ n _ | .sl _ _ n _ => some n
  | .str s => some s.size
  | _ => none
def optI (b : Bool) (xs : List AV) (d : Int) : Option (Int × List AV) :=
  if b then match xs with
    | .int _ n :: r => some (n, r)
    | _ => none
  else some (d, xs)
def slcV (sz : Nat) (mxb : Bool) (x : AV) (lo hi mx : Int) : Option (Prop × AV) :=
  match x with
  | .nils => some (0 ≤ lo ∧ lo ≤ hi ∧ hi ≤ 0 ∧ (mxb = true → hi ≤ mx ∧ mx ≤ 0), .nils)
  | .imm cs n c => if mxb then some (0 ≤ lo ∧ lo ≤ hi ∧ hi ≤ mx ∧ mx ≤ n ∧ cs.length = n * sz, .imm ((cs.drop (lo.toNat * sz)).take ((hi.toNat - lo.toNat) * sz)) (hi.toNat - lo.toNat) (some (mx.toNat - lo.toNat)))
    else some (0 ≤ lo ∧ lo ≤ hi ∧ hi ≤ n ∧ cs.length = n * sz, .imm ((cs.drop (lo.toNat * sz)).take ((hi.toNat - lo.toNat) * sz)) (hi.toNat - lo.toNat) (c.map (· - lo.toNat)))
  | .sl b o n c => let m : Int := if mxb then mx else c
    some (0 ≤ lo ∧ lo ≤ hi ∧ hi ≤ m ∧ m ≤ c, .sl b (if m.toNat = lo.toNat then o else o + lo.toNat * sz) (hi.toNat - lo.toNat) (m.toNat - lo.toNat))
  | _ => none
def AV.cellsL : AV → List AV
  | .agg xs => xs
  | v => [v]
def fillC (cells : List AV) : List (Nat × Nat) → List AV → Option (List AV)
  | [], [] => some cells
  | (off, sz) :: ps, v :: vs =>
    if v.cellsL.length = sz ∧ off + sz ≤ cells.length then fillC (cells.take off ++ v.cellsL ++ cells.drop (off + sz)) ps vs else none
  | _, _ => none
/-- One cell's value, or not known to be one. -/
def AV.one : AV → Bool
  | .any | .agg _ | .tup _ | .gd _ _ => false
  | _ => true
/-- A value whose shape is known: its cells can be told. -/
def AV.known : AV → Bool
  | .any | .tup _ | .gd _ _ => false
  | _ => true

/-! ### Maps -/
def mapOf (H : Heap) : AV → Option (List (AV × AV))
  | .nilm => some []
  | .mp b => match H b with
    | some (.map es) => some es
    | _ => none
  | _ => none
/-- At which place a key stands. -/
def findI (sk : SK) (k : AV) : List (AV × AV) → Option (Option Nat)
  | [] => some none
  | e :: es => match scalEq sk k e.1 with
    | some true => some (some 0)
    | some false => match findI sk k es with
      | some r => some (r.map (· + 1))
      | none => none
    | none => none
def lkpV (ok : Bool) (zero : AV) (es : List (AV × AV)) (r : Option Nat) : AV :=
  let v := match r.bind (es[·]?) with
    | some e => e.2
    | none => zero
  if ok then .tup [v, .bool r.isSome] else v
def msetV (k v : AV) (es : List (AV × AV)) : Option Nat → List (AV × AV)
  | some j => es.set j (k, v)
  | none => es ++ [(k, v)]
def mdelV (es : List (AV × AV)) : Option Nat → List (AV × AV)
  | some j => es.eraseIdx j
  | none => es

def evK : PK → Heap → List AV → Option (Prop × AV)
  | .lkp sk ok zero, H, [m, k] => match mapOf H m with
    | some es => match findI sk k es with
      | some r => some (True, lkpV ok zero es r)
      | none => none
    | none => none
  | .mv, _, [v] => some (True, v)
  | .un op, _, [v] => unV op v
  | .bin op, _, [x, y] => binV op x y
  | .eq neg c, _, [x, y] => match eqV c x y with
    | some b => some (True, .bool (if neg then !b else b))
    | none => none
  | .cvt k, _, [.int _ n] => some (True, .int k (k.wrap n))
  | .cvtS, _, [.str s] => some (True, .str s)
  | .b2s, _, [.str _] => none
  | .b2s, H, [v] => match cellsOf H 1 v with
    | some cs => match toBytes cs with
      | some l => some (True, .str ⟨l.toArray⟩)
      | none => none
    | none => none
  | .nilc, _, [v] => match v with
    | .ptr _ _ | .iptr _ _ => some (True, v)
    | .fn (.func _) _ _ => some (True, v)
    | _ => none
  | .faddr off, _, [v] => match v with
    | .ptr b o => some (True, .ptr b (o + off))
    | .iptr cs i => some (True, .iptr cs (i + off))
    | _ => none
  | .iaddr sz, _, [v, .int _ i] => match v with
    | .imm cs n _ => some (0 ≤ i ∧ i < n, .iptr cs (i.toNat * sz))
    | .sl b o n _ => some (0 ≤ i ∧ i < n, .ptr b (o + i.toNat * sz))
    | _ => none
  | .iarr len sz, _, [v, .int _ i] => match v with
    | .ptr b o => some (0 ≤ i ∧ i < len, .ptr b (o + i.toNat * sz))
    | .iptr cs j => some (0 ≤ i ∧ i < len, .iptr cs (j + i.toNat * sz))
    | _ => none
  | .load none, H, [v] => match v with
    | .ptr b o => match H b with
      | some (.cells vs _) => match vs[o]? with
        | some x => some (True, x)
        | none => none
      | _ => none
    | .iptr cs i => match cs[i]? with
      | some x => some (True, x)
      | none => none
    | _ => none
  | .load (some k), H, [v] => match v with
    | .ptr b o => match H b with
      | some (.cells vs _) => some (o + k ≤ vs.length, .agg ((vs.drop o).take k))
      | _ => none
    | .iptr cs i => some (i + k ≤ cs.length, .agg ((cs.drop i).take k))
    | _ => none
  | .field off none, _, [.agg cs] => match cs[off]? with
    | some x => some (True, x)
    | none => none
  | .field off (some k), _, [.agg cs] => if off + k ≤ cs.length then some (True, .agg ((cs.drop off).take k)) else none
  | .idxS, _, [.str s, .int _ i] => some (0 ≤ i ∧ i < s.size, .int .u8 ((s.data.toList.getD i.toNat 0).toNat : Nat))
  | .slc sz l h m, H, v :: r => match lenOf v with
    | some n => match optI l r 0 with
      | some (lo, r) => match optI h r n with
        | some (hi, r) => match optI m r 0 with
          | some (mx, []) => slcV sz m v lo hi mx
          | _ => none
        | _ => none
      | _ => none
    | none => none
  | .slcS l h, _, .str s :: r => match optI l r 0 with
    | some (lo, r) => match optI h r s.size with
      | some (hi, []) => some (0 ≤ lo ∧ lo ≤ hi ∧ hi ≤ s.size, .str (s.extract lo.toNat hi.toNat))
      | _ => none
    | _ => none
  | .ext i, _, [.tup vs] => match vs[i]? with
    | some x => some (True, x)
    | none => none
  | .len .m, H, [v] => match v with
    | .nilm => some (True, .int .i64 0)
    | .mp b => match H b with
      | some (.map es) => some (True, .int .i64 es.length)
      | _ => none
    | _ => none
  | .len .s, H, [.str s] => some (True, .int .i64 s.size)
  | .len .a, H, [v] => match v with
    | .nils => some (True, .int .i64 0)
    | .imm _ n _ | .sl _ _ n _ => some (True, .int .i64 n)
    | _ => none
  | .cap, _, [v] => match v with
    | .nils => some (True, .int .i64 0)
    | .sl _ _ _ c => some (True, .int .i64 c)
    | .imm _ _ (some c) => some (True, .int .i64 c)
    | _ => none
  | .min, _, .int k a :: r => match r with
    | [.int _ b] => some (True, .int k (if b < a then b else a))
    | [.int _ b, .int _ c] => some (True, .int k (if c < (if b < a then b else a) then c else (if b < a then b else a)))
    | _ => none
  | .max, _, [.int k a, .int _ b] => some (True, .int k (if a < b then b else a))
  | .mkfn f n, _, xs => some (True, .fn f (xs.take n) (xs.drop n))
  | .build zero ps, _, xs => if xs.all AV.known then match fillC zero ps xs with
    | some cs => some (True, .agg cs)
    | none => none
    else none
  | _, _, _ => none

/-! ### Operations on a state -/
structure AS where
  T : Nat → AV
  H : Heap
def getAll (xs : List CX) (T : Nat → AV) : Prop × List AV := (xs.foldr (fun x p => (un (x.ev T)).1 ∧ p) True, xs.map fun x => (un (x.ev T)).2)
def pickV (x : Bool) (a b : AV) : AV :=
  match a, b with
  | .bool y, .bool z => .bool (bif x then y else z)
  | a, b => bif x then a else b
def evP (o : COp) (T : Nat → AV) (H : Heap) : Option (Prop × AV) :=
  match o with
  | .p k xs => match evK k H (getAll xs T).2 with
    | some (p, v) => some ((getAll xs T).1 ∧ p, v)
    | none => none
  | .pick c a b => match un (c.ev T) with
    | (p, .bool x) => some (p ∧ (x = true → (un (a.ev T)).1) ∧ (x = false → (un (b.ev T)).1), pickV x (un (a.ev T)).2 (un (b.ev T)).2)
    | _ => none
  | .e _ _ => none
def put (T : Nat → AV) (d : Option Nat) (v : AV) : Nat → AV := match d with | some d => tset T d v | none => T

/-- A contract: called so, the function returns v and leaves the heap H', for some v, H' of which Q holds; what the heap does not tell of is as it was. -/
def CC (P : Program) (f : FuncId) (args : List AV) (H : Heap) (Q : AV → Heap → Prop) : Prop :=
  ∀ M w vs, VRels M args vs → Rel M H w → Calls P f vs.toArray w fun e w' =>
    ∃ v x M' H', e = .returned x ∧ VRel M' v x ∧ Rel M' H' w' ∧ Fr M H w M' H' w' ∧ Q v H'

/-- A row of the call's own: nil, or a block of its own whose first cells are these. -/
def Own (H : Heap) (sz : Nat) (v : AV) (cs : List AV) : Prop :=
  (v = .nils ∧ cs = []) ∨ ∃ b n c, v = .sl b 0 n c ∧ H b = some (.cells cs (c * sz)) ∧ cs.length = n * sz ∧ n ≤ c
def Own.blk : AV → Option Nat
  | .sl b _ _ _ => some b
  | _ => none
/-- H' tells what H told, but for the block b. -/
def Keep (H H' : Heap) (bs : List Nat) : Prop := ∀ k, k ∉ bs → H k ≠ none → H' k = H k

def appOld (H : Heap) (sz : Nat) (s : AV) : Option (List AV × Option Nat) :=
  match s with
  | .nils => some ([], none)
  | .imm cs n (some c) => if c = n ∧ cs.length = n * sz then some (cs, none) else none
  | .sl b 0 n c => match H b with
    | some (.cells vs k) => if vs.length = n * sz ∧ k = c * sz ∧ n ≤ c then some (vs, some b) else none
    | _ => none
  | _ => none
def AV.isNils : AV → Bool
  | .nils => true
  | _ => false
def AV.isImm : AV → Bool
  | .imm _ _ _ => true
  | _ => false
def Heap.less (H : Heap) : Option Nat → Heap
  | some b => H.set b none
  | none => H
/-- A function that may be called so: it has a body, and no name that the model knows by itself. -/
def callB (P : Program) (f : Nat) : Bool :=
  match P.funcs[f]? with
  | some fn => fn.body.isSome && fn.name != "runtime.NumGoroutine"
  | none => false
def vcE (P : Program) (k : EK) (xs : List AV) (d : Option Nat) (S : AS) (K : AS → Prop) : Prop :=
  match k, xs with
  | .alloc zero, [] => ∀ b, S.H b = none → K ⟨put S.T d (.ptr b 0), S.H.set b (some (.cells zero zero.length))⟩
  | .box, [v] => v.known = true ∧ ∀ b, S.H b = none →
      K ⟨put S.T d (.ptr b 0), S.H.set b (some (.cells v.cellsL v.cellsL.length))⟩
  | .bslice frozen zero ps len, xs => xs.all AV.known = true ∧ match fillC zero ps xs with
    | some cs => if frozen then K ⟨put S.T d (.imm cs len (some len)), S.H⟩ else ∀ b, S.H b = none → K ⟨put S.T d (.sl b 0 len len), S.H.set b (some (.cells cs cs.length))⟩
    | none => False
  | .store none, [.ptr b o, v] => v.one = true ∧ match S.H b with
    | some (.cells vs n) => o < vs.length ∧ K ⟨S.T, S.H.set b (some (.cells (vs.set o v) n))⟩
    | _ => False
  | .store (some k), [.ptr b o, .agg cs] => cs.all AV.one = true ∧ cs.length = k ∧ match S.H b with
    | some (.cells vs n) => o + k ≤ vs.length ∧ K ⟨S.T, S.H.set b (some (.cells (vs.take o ++ cs ++ vs.drop (o + k)) n))⟩
    | _ => False
  | .append frozen sz bytes, [s, x] => match appOld S.H sz s, cellsOf S.H sz x, lenOf s, lenOf x with
    | some (old, ob), some new, some n, some m => new.all AV.one = true ∧ (n + m) * bytes ≤ 140737488355328 ∧
      if frozen then K ⟨put S.T d (.imm (old ++ new) (n + m) none), S.H.less ob⟩
      else (s.isNils = true → new = [] → K ⟨put S.T d .nils, S.H⟩) ∧ (s.isImm = true → new ≠ []) ∧
        ((s.isNils = true → new ≠ []) → ∀ b c, S.H.less ob b = none → n + m ≤ c → K ⟨put S.T d (.sl b 0 (n + m) c), (S.H.less ob).set b (some (.cells (old ++ new) (c * sz)))⟩)
    | _, _, _, _ => False
  | .mark, [.sl b 0 n c] => match S.H b with
    | some (.cells cs k) => k = n ∧ c = n ∧ cs.length = n ∧ K ⟨put S.T d (.imm cs n (some n)), S.H.set b none⟩
    | _ => False
  | .mkslice frozen zero bytes, [.int _ n, .int _ c] => 0 ≤ n ∧ n ≤ c ∧ c * bytes ≤ 140737488355328 ∧ c ≤ 9223372036854775807 ∧
      if frozen then K ⟨put S.T d (.imm (List.replicate n.toNat zero).flatten n.toNat (some c.toNat)), S.H⟩
      else ∀ b, S.H b = none → K ⟨put S.T d (.sl b 0 n.toNat c.toNat), S.H.set b (some (.cells (List.replicate n.toNat zero).flatten (c.toNat * zero.length)))⟩
  | .s2b, [.str s] => K ⟨put S.T d (.imm (s.data.toList.map byteV) s.size none), S.H⟩
  | .mkmap, [] => ∀ b, S.H b = none → K ⟨put S.T d (.mp b), S.H.set b (some (.map []))⟩
  | .mset sk, [.mp b, k, v] => match S.H b with
    | some (.map es) => match findI sk k es with
      | some r => K ⟨put S.T d .any, S.H.set b (some (.map (msetV k v es r)))⟩
      | none => False
    | _ => False
  | .mdel sk, [.mp b, k] => match S.H b with
    | some (.map es) => match findI sk k es with
      | some r => K ⟨put S.T d (.tup []), S.H.set b (some (.map (mdelV es r)))⟩
      | none => False
    | _ => False
  | .call f, xs => CC P f xs S.H fun v H' => K ⟨put S.T d v, H'⟩
  | .callv, .fn (.func f) [] captured :: xs => callB P f = true ∧ CC P f (xs ++ captured) S.H fun v H' => K ⟨put S.T d v, H'⟩
  | _, _ => False
/-- One operation. -/
def vcDo (P : Program) (o : CO) (S : AS) (K : AS → Prop) : Prop :=
  match o.op with
  | .e k xs => (getAll xs S.T).1 ∧ vcE P k (getAll xs S.T).2 o.dst S K
  | op => match evP op S.T S.H with
    | some (p, v) => p ∧ K ⟨put S.T o.dst v, S.H⟩
    | none => False
def vcOp (P : Program) (o : CO) (S : AS) (K : AS → Prop) : Prop :=
  match o.g with
  | none => vcDo P o S K
  | some (t, want) => match gw want (S.T t) with
    | some c => (match o.op with
      | .e _ _ => (c = true → vcDo P o S K) ∧ (c = false → K ⟨put S.T o.dst (.tup []), S.H⟩)
      | op => match evP op S.T S.H with
        | some (p, v) => (c = true → p) ∧ K ⟨put S.T o.dst (.gd c v), S.H⟩
        | none => c = false ∧ K ⟨put S.T o.dst (.tup []), S.H⟩)
    | none => False
def vcOps (P : Program) : List CO → AS → (AS → Prop) → Prop
  | [], S, K => K S
  | o :: l, S, K => vcOp P o S fun S' => vcOps P l S' K
def vcT (P : Program) : OT → AS → (AS → Prop) → Prop
  | .done, S, K => K S
  | .op o t, S, K => vcOp P o S fun S' => vcT P t S' K
  | .two a b, S, K => vcT P a S K ∧ vcT P b S K
end Go.Sf
