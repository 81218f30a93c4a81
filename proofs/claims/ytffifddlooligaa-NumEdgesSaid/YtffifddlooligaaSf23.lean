/- The rules by which a proof's condition is reckoned out, what follows being kept closed. -/
import Derived.Test.YtffifddlooligaaSf22
set_option linter.unusedVariables false
set_option linter.unusedSimpArgs false
namespace Go.Sf
section
variable {P : Program}

def ContO (P : Program) (l : List CO) (K : AS → Prop) : AS → Prop := fun S => vcOps P l S K
def ContC (P : Program) (c : CCode) (Q : Exit → AS → Prop) : AS → Prop := fun S => vc P c S Q
def ContQ (P : Program) (H : Heap) (l : List CO) (T : Nat → AV) (d : Option Nat) (K : (Nat → AV) → Prop) : AV → Prop := fun v => vcQ P H l (put T d v) K
def ContT (P : Program) (l : List CO) (H : Heap) (Q : AS → Prop) : (Nat → AV) → Prop := fun T => vcOps P l ⟨T, H⟩ Q
def ContA (P : Program) (t : OT) (K : AS → Prop) : AS → Prop := fun S => vcT P t S K
/-- A call: what is asked of its contract. -/
def CallK (P : Program) (f : Nat) (as : List AV) (T : Nat → AV) (H : Heap) (d : Option Nat) (K : AS → Prop) : Prop := CC P f as H fun v H' => K ⟨put T d v, H'⟩
def CallQ (P : Program) (f : Nat) (as : List AV) (K : AV → Prop) : Prop := ∃ v, CP P f as (fun u => u = v) ∧ K v
def vcM (e : Option (Prop × AV)) (T : Nat → AV) (H : Heap) (d : Option Nat) (K : AS → Prop) : Prop := match e with | some (p, v) => p ∧ K ⟨put T d v, H⟩ | none => False
def vcMg (c : Bool) (e : Option (Prop × AV)) (T : Nat → AV) (H : Heap) (d : Option Nat) (K : AS → Prop) : Prop := match e with | some (p, v) => (c = true → p) ∧ K ⟨put T d (.gd c v), H⟩ | none => c = false ∧ K ⟨put T d (.tup []), H⟩
def vcMq (e : Option (Prop × AV)) (K : AV → Prop) : Prop := match e with | some (p, v) => p ∧ K v | none => False
def vcMqg (c : Bool) (e : Option (Prop × AV)) (K : AV → Prop) : Prop := match e with | some (p, v) => (c = true → p) ∧ K (.gd c v) | none => c = false ∧ K (.tup [])
def vcG (P : Program) (u : Option Bool) (d : Option Nat) (op : COp) (T : Nat → AV) (H : Heap) (K : AS → Prop) : Prop :=
  match u with
  | some c => (match op with
      | .e k xs => (c = true → (getAll xs T).1 ∧ vcE P k (getAll xs T).2 d ⟨T, H⟩ K) ∧ (c = false → K ⟨put T d (.tup []), H⟩)
      | op => vcMg c (evP op T H) T H d K)
  | none => False
def vcGq (P : Program) (u : Option Bool) (op : COp) (T : Nat → AV) (H : Heap) (K : AV → Prop) : Prop :=
  match u with
  | some c => (match op with
      | .e k xs => ∃ v, (c = true → (getAll xs T).1 ∧ vcQE P k (getAll xs T).2 H (fun u => u = v)) ∧ K (.gd c v)
      | op => vcMqg c (evP op T H) K)
  | none => False
def vcIf (u : Prop × AV) (A B : Prop) : Prop := match u with | (p, .bool x) => p ∧ (x = true → A) ∧ (x = false → B) | _ => False

theorem s_skip (S : AS) (Q : Exit → AS → Prop) : vc P .skip S Q = Q .normal S := rfl
theorem s_ops (l : List CO) (S : AS) (Q : Exit → AS → Prop) : vc P (.ops l) S Q = vcOps P l S (Q .normal) := rfl
theorem s_draw (h t : List CO) (T : Nat → AV) (H : Heap) (Q : Exit → AS → Prop) : vc P (.draw h t) ⟨T, H⟩ Q = vcQ P H h T (ContT P t H (Q .normal)) := rfl
theorem s_seq (a b : CCode) (S : AS) (Q : Exit → AS → Prop) : vc P (.seq a b) S Q = vc P a S (thenQ (ContC P b Q) Q) := rfl
theorem s_cond (c : CX) (a b : CCode) (T : Nat → AV) (H : Heap) (Q : Exit → AS → Prop) : vc P (.cond c a b) ⟨T, H⟩ Q = vcIf (un (c.ev T)) (vc P a ⟨T, H⟩ Q) (vc P b ⟨T, H⟩ Q) := rfl
theorem s_block (id : Nat) (a : CCode) (S : AS) (Q : Exit → AS → Prop) : vc P (.block id a) S Q = vc P a S (inBlockQ id Q) := rfl
theorem s_loop (a : CCode) (S : AS) (Q : Exit → AS → Prop) : vc P (.loop a) S Q = LoopV (vc P a) S Q := rfl
theorem s_exit (id : Nat) (S : AS) (Q : Exit → AS → Prop) : vc P (.exit id) S Q = Q (.exit id) S := rfl
theorem s_ret (S : AS) (Q : Exit → AS → Prop) : vc P .ret S Q = Q .ret S := rfl
theorem s_mark (a : CCode) (S : AS) (Q : Exit → AS → Prop) : vc P (.mark a) S Q = MarkV (vc P a) S Q := rfl
theorem s_then_n (K : AS → Prop) (Q : Exit → AS → Prop) (S : AS) : thenQ K Q .normal S = K S := rfl
theorem s_then_e (K : AS → Prop) (Q : Exit → AS → Prop) (id : Nat) (S : AS) : thenQ K Q (.exit id) S = Q (.exit id) S := rfl
theorem s_then_r (K : AS → Prop) (Q : Exit → AS → Prop) (S : AS) : thenQ K Q .ret S = Q .ret S := rfl
theorem s_in_n (id : Nat) (Q : Exit → AS → Prop) (S : AS) : inBlockQ id Q .normal S = Q .normal S := rfl
theorem s_in_e (id : Nat) (Q : Exit → AS → Prop) (i : Nat) (S : AS) : inBlockQ id Q (.exit i) S = if i = id then Q .normal S else Q (.exit i) S := rfl
theorem s_in_r (id : Nat) (Q : Exit → AS → Prop) (S : AS) : inBlockQ id Q .ret S = Q .ret S := rfl
theorem s_contC (c : CCode) (Q : Exit → AS → Prop) (S : AS) : ContC P c Q S = vc P c S Q := rfl
theorem s_contO (l : List CO) (K : AS → Prop) (S : AS) : ContO P l K S = vcOps P l S K := rfl
theorem s_contQ (H : Heap) (l : List CO) (T : Nat → AV) (d : Option Nat) (K : (Nat → AV) → Prop) (v : AV) : ContQ P H l T d K v = vcQ P H l (put T d v) K := rfl
theorem s_contT (l : List CO) (H : Heap) (Q : AS → Prop) (T : Nat → AV) : ContT P l H Q T = vcOps P l ⟨T, H⟩ Q := rfl
theorem s_nil (S : AS) (K : AS → Prop) : vcOps P [] S K = K S := rfl
theorem s_cons_p (d : Option Nat) (k : PK) (xs : List CX) (l : List CO) (T : Nat → AV) (H : Heap) (K : AS → Prop) :
    vcOps P (⟨d, none, .p k xs⟩ :: l) ⟨T, H⟩ K = vcM (evP (.p k xs) T H) T H d (ContO P l K) := rfl
theorem s_cons_pick (d : Option Nat) (c a b : CX) (l : List CO) (T : Nat → AV) (H : Heap) (K : AS → Prop) :
    vcOps P (⟨d, none, .pick c a b⟩ :: l) ⟨T, H⟩ K = vcM (evP (.pick c a b) T H) T H d (ContO P l K) := rfl
theorem s_cons_e (d : Option Nat) (k : EK) (xs : List CX) (l : List CO) (T : Nat → AV) (H : Heap) (K : AS → Prop) :
    vcOps P (⟨d, none, .e k xs⟩ :: l) ⟨T, H⟩ K = ((getAll xs T).1 ∧ vcE P k (getAll xs T).2 d ⟨T, H⟩ (ContO P l K)) := rfl
theorem s_cons_g (d : Option Nat) (t : Nat) (want : Bool) (op : COp) (l : List CO) (T : Nat → AV) (H : Heap) (K : AS → Prop) :
    vcOps P (⟨d, some (t, want), op⟩ :: l) ⟨T, H⟩ K = vcG P (gw want (T t)) d op T H (ContO P l K) := by
  show vcOp P ⟨d, some (t, want), op⟩ ⟨T, H⟩ (ContO P l K) = _
  unfold vcOp vcG
  simp only
  generalize gw want (T t) = u
  cases u <;> first
    | rfl
    | (cases op <;> rfl)
theorem s_any (t : OT) (S : AS) (Q : Exit → AS → Prop) : vc P (.any t) S Q = vcT P t S (Q .normal) := rfl
theorem s_contA (t : OT) (K : AS → Prop) (S : AS) : ContA P t K S = vcT P t S K := rfl
theorem s_tdone (S : AS) (K : AS → Prop) : vcT P .done S K = K S := rfl
theorem s_ttwo (a b : OT) (S : AS) (K : AS → Prop) : vcT P (.two a b) S K = (vcT P a S K ∧ vcT P b S K) := rfl
theorem s_top_p (d : Option Nat) (k : PK) (xs : List CX) (t : OT) (T : Nat → AV) (H : Heap) (K : AS → Prop) :
    vcT P (.op ⟨d, none, .p k xs⟩ t) ⟨T, H⟩ K = vcM (evP (.p k xs) T H) T H d (ContA P t K) := rfl
theorem s_top_pick (d : Option Nat) (c a b : CX) (t : OT) (T : Nat → AV) (H : Heap) (K : AS → Prop) :
    vcT P (.op ⟨d, none, .pick c a b⟩ t) ⟨T, H⟩ K = vcM (evP (.pick c a b) T H) T H d (ContA P t K) := rfl
theorem s_top_e (d : Option Nat) (k : EK) (xs : List CX) (t : OT) (T : Nat → AV) (H : Heap) (K : AS → Prop) :
    vcT P (.op ⟨d, none, .e k xs⟩ t) ⟨T, H⟩ K = ((getAll xs T).1 ∧ vcE P k (getAll xs T).2 d ⟨T, H⟩ (ContA P t K)) := rfl
theorem s_top_g (d : Option Nat) (t : Nat) (want : Bool) (op : COp) (u : OT) (T : Nat → AV) (H : Heap) (K : AS → Prop) :
    vcT P (.op ⟨d, some (t, want), op⟩ u) ⟨T, H⟩ K = vcG P (gw want (T t)) d op T H (ContA P u K) := by
  show vcOp P ⟨d, some (t, want), op⟩ ⟨T, H⟩ (ContA P u K) = _
  unfold vcOp vcG
  simp only
  generalize gw want (T t) = u
  cases u <;> first
    | rfl
    | (cases op <;> rfl)
theorem s_qnil (H : Heap) (T : Nat → AV) (K : (Nat → AV) → Prop) : vcQ P H [] T K = K T := rfl
theorem s_qcons_p (d : Option Nat) (k : PK) (xs : List CX) (l : List CO) (T : Nat → AV) (H : Heap) (K : (Nat → AV) → Prop) :
    vcQ P H (⟨d, none, .p k xs⟩ :: l) T K = vcMq (evP (.p k xs) T H) (ContQ P H l T d K) := rfl
theorem s_qcons_pick (d : Option Nat) (c a b : CX) (l : List CO) (T : Nat → AV) (H : Heap) (K : (Nat → AV) → Prop) :
    vcQ P H (⟨d, none, .pick c a b⟩ :: l) T K = vcMq (evP (.pick c a b) T H) (ContQ P H l T d K) := rfl
theorem s_qcons_e (d : Option Nat) (k : EK) (xs : List CX) (l : List CO) (T : Nat → AV) (H : Heap) (K : (Nat → AV) → Prop) :
    vcQ P H (⟨d, none, .e k xs⟩ :: l) T K = ((getAll xs T).1 ∧ vcQE P k (getAll xs T).2 H (ContQ P H l T d K)) := rfl
theorem s_qcons_g (d : Option Nat) (t : Nat) (want : Bool) (op : COp) (l : List CO) (T : Nat → AV) (H : Heap) (K : (Nat → AV) → Prop) :
    vcQ P H (⟨d, some (t, want), op⟩ :: l) T K = vcGq P (gw want (T t)) op T H (ContQ P H l T d K) := by
  show vcQ1 P H ⟨d, some (t, want), op⟩ T (ContQ P H l T d K) = _
  unfold vcQ1 vcGq
  simp only
  generalize gw want (T t) = u
  cases u <;> first
    | rfl
    | (cases op <;> rfl)
theorem s_M (p : Prop) (v : AV) (T : Nat → AV) (H : Heap) (d : Option Nat) (K : AS → Prop) : vcM (some (p, v)) T H d K = (p ∧ K ⟨put T d v, H⟩) := rfl
theorem s_Mg (c : Bool) (p : Prop) (v : AV) (T : Nat → AV) (H : Heap) (d : Option Nat) (K : AS → Prop) : vcMg c (some (p, v)) T H d K = ((c = true → p) ∧ K ⟨put T d (.gd c v), H⟩) := rfl
theorem s_Mg_n (c : Bool) (T : Nat → AV) (H : Heap) (d : Option Nat) (K : AS → Prop) : vcMg c none T H d K = (c = false ∧ K ⟨put T d (.tup []), H⟩) := rfl
theorem s_Mqg_n (c : Bool) (K : AV → Prop) : vcMqg c none K = (c = false ∧ K (.tup [])) := rfl
theorem s_Mq (p : Prop) (v : AV) (K : AV → Prop) : vcMq (some (p, v)) K = (p ∧ K v) := rfl
theorem s_Mqg (c : Bool) (p : Prop) (v : AV) (K : AV → Prop) : vcMqg c (some (p, v)) K = ((c = true → p) ∧ K (.gd c v)) := rfl
theorem s_G_p (c : Bool) (d : Option Nat) (k : PK) (xs : List CX) (T : Nat → AV) (H : Heap) (K : AS → Prop) : vcG P (some c) d (.p k xs) T H K = vcMg c (evP (.p k xs) T H) T H d K := rfl
theorem s_G_pick (c : Bool) (d : Option Nat) (x y z : CX) (T : Nat → AV) (H : Heap) (K : AS → Prop) : vcG P (some c) d (.pick x y z) T H K = vcMg c (evP (.pick x y z) T H) T H d K := rfl
theorem s_G_e (c : Bool) (d : Option Nat) (k : EK) (xs : List CX) (T : Nat → AV) (H : Heap) (K : AS → Prop) :
    vcG P (some c) d (.e k xs) T H K = ((c = true → (getAll xs T).1 ∧ vcE P k (getAll xs T).2 d ⟨T, H⟩ K) ∧ (c = false → K ⟨put T d (.tup []), H⟩)) := rfl
theorem s_Gq_p (c : Bool) (k : PK) (xs : List CX) (T : Nat → AV) (H : Heap) (K : AV → Prop) : vcGq P (some c) (.p k xs) T H K = vcMqg c (evP (.p k xs) T H) K := rfl
theorem s_Gq_pick (c : Bool) (x y z : CX) (T : Nat → AV) (H : Heap) (K : AV → Prop) : vcGq P (some c) (.pick x y z) T H K = vcMqg c (evP (.pick x y z) T H) K := rfl
theorem s_Gq_e (c : Bool) (k : EK) (xs : List CX) (T : Nat → AV) (H : Heap) (K : AV → Prop) :
    vcGq P (some c) (.e k xs) T H K = (∃ v, (c = true → (getAll xs T).1 ∧ vcQE P k (getAll xs T).2 H (fun u => u = v)) ∧ K (.gd c v)) := rfl
theorem s_gw_b (want b : Bool) : gw want (.bool b) = some (b == want) := by simp only [gw]
theorem s_gw_u (want : Bool) : gw want (.tup []) = some false := by simp only [gw]
theorem s_gw_g (want b c : Bool) (v : AV) (h : gw want v = some c) : gw want (.gd b v) = some (b && c) := by simp only [gw, h]
theorem s_gw_gb (want b c : Bool) : gw want (.gd b (.bool c)) = some (b && (c == want)) := by simp only [gw]
theorem s_gw_f (want : Bool) (v : AV) : gw want (.gd false v) = some false := by
  simp only [gw]
  split <;> simp
theorem s_if (p : Prop) (x : Bool) (A B : Prop) : vcIf (p, .bool x) A B = (p ∧ (x = true → A) ∧ (x = false → B)) := rfl
theorem s_call (f : Nat) (xs : List AV) (d : Option Nat) (T : Nat → AV) (H : Heap) (K : AS → Prop) : vcE P (.call f) xs d ⟨T, H⟩ K = CallK P f xs T H d K := by unfold vcE; rfl
theorem s_callv (f : Nat) (captured xs : List AV) (d : Option Nat) (T : Nat → AV) (H : Heap) (K : AS → Prop) : vcE P .callv (.fn (.func f) [] captured :: xs) d ⟨T, H⟩ K = (callB P f = true ∧ CallK P f (xs ++ captured) T H d K) := by unfold vcE; rfl
theorem s_qcall (f : Nat) (xs : List AV) (H : Heap) (K : AV → Prop) : vcQE P (.call f) xs H K = CallQ P f xs K := by unfold vcQE; rfl
theorem s_qcallv (f : Nat) (captured xs : List AV) (H : Heap) (K : AV → Prop) : vcQE P .callv (.fn (.func f) [] captured :: xs) H K = (callB P f = true ∧ CallQ P f (xs ++ captured) K) := by unfold vcQE; rfl
theorem s_getAll_nil (T : Nat → AV) : getAll [] T = (True, []) := rfl
theorem s_getAll_cons (x : CX) (xs : List CX) (T : Nat → AV) : getAll (x :: xs) T = ((un (x.ev T)).1 ∧ (getAll xs T).1, (un (x.ev T)).2 :: (getAll xs T).2) := rfl
theorem s_put_some (T : Nat → AV) (d : Nat) (v : AV) (t : Nat) : put T (some d) v t = if t = d then v else T t := rfl
theorem s_put_none (T : Nat → AV) (v : AV) : put T none v = T := rfl
theorem s_un_gd (b : Bool) (v : AV) : un (.gd b v) = (b = true ∧ (un v).1, (un v).2) := by simp only [un]
theorem s_ev_t (i : Nat) (T : Nat → AV) : (CX.t i).ev T = T i := rfl
theorem s_ev_c (v : AV) (T : Nat → AV) : (CX.c v).ev T = v := rfl
theorem s_ev_f (i : Nat) (T : Nat → AV) : (CX.f i).ev T = .fn (.func i) [] [] := rfl
/-- A test that is known. -/
theorem s_gd_true (v : AV) : un (.gd true v) = un v := by simp [un]

/-! What makes or writes. -/
def vcAp (frozen : Bool) (sz bytes : Nat) (o : Option (List AV × Option Nat)) (c : Option (List AV)) (n m : Option Nat) (s : AV) (d : Option Nat) (T : Nat → AV) (H : Heap) (K : AS → Prop) : Prop :=
  match o, c, n, m with
  | some (old, ob), some new, some n, some m => new.all AV.one = true ∧ (n + m) * bytes ≤ 140737488355328 ∧
    if frozen then K ⟨put T d (.imm (old ++ new) (n + m) none), H.less ob⟩
    else (s.isNils = true → new = [] → K ⟨put T d .nils, H⟩) ∧ (s.isImm = true → new ≠ []) ∧
      ((s.isNils = true → new ≠ []) → ∀ b c, H.less ob b = none → n + m ≤ c → K ⟨put T d (.sl b 0 (n + m) c), (H.less ob).set b (some (.cells (old ++ new) (c * sz)))⟩)
  | _, _, _, _ => False
/-- What follows an append to a row of the call's own. -/
def AppOwn (sz : Nat) (s : AV) (old new : List AV) (len : Nat) (d : Option Nat) (T : Nat → AV) (H Hm : Heap) (K : AS → Prop) : Prop :=
  (s.isNils = true → new = [] → K ⟨put T d .nils, H⟩) ∧ (s.isImm = true → new ≠ []) ∧
      ((s.isNils = true → new ≠ []) → ∀ b c, Hm b = none → len ≤ c → K ⟨put T d (.sl b 0 len c), Hm.set b (some (.cells (old ++ new) (c * sz)))⟩)
def NewB (H : Heap) (x : Nat → Blk) (v : Nat → AV) (d : Option Nat) (T : Nat → AV) (K : AS → Prop) : Prop := ∀ b, H b = none → K ⟨put T d (v b), H.set b (some (x b))⟩
def vcBs (frozen : Bool) (len : Nat) (c : Option (List AV)) (d : Option Nat) (T : Nat → AV) (H : Heap) (K : AS → Prop) : Prop :=
  match c with
  | some cs => if frozen then K ⟨put T d (.imm cs len (some len)), H⟩ else NewB H (fun _ => .cells cs cs.length) (fun b => .sl b 0 len len) d T K
  | none => False
def vcSt (x : Option Blk) (b o : Nat) (sz : Nat) (cs : List AV) (T : Nat → AV) (H : Heap) (K : AS → Prop) : Prop :=
  match x with
  | some (.cells vs n) => o + sz ≤ vs.length ∧ K ⟨T, H.set b (some (.cells (vs.take o ++ cs ++ vs.drop (o + sz)) n))⟩
  | _ => False
def vcSt1 (x : Option Blk) (b o : Nat) (v : AV) (T : Nat → AV) (H : Heap) (K : AS → Prop) : Prop :=
  match x with
  | some (.cells vs n) => o < vs.length ∧ K ⟨T, H.set b (some (.cells (vs.set o v) n))⟩
  | _ => False
theorem s_append (frozen : Bool) (sz bytes : Nat) (s x : AV) (d : Option Nat) (T : Nat → AV) (H : Heap) (K : AS → Prop) :
    vcE P (.append frozen sz bytes) [s, x] d ⟨T, H⟩ K = vcAp frozen sz bytes (appOld H sz s) (cellsOf H sz x) (lenOf s) (lenOf x) s d T H K := by
  unfold vcE vcAp; rfl
theorem s_Ap_t (sz bytes : Nat) (old new : List AV) (ob : Option Nat) (n m : Nat) (s : AV) (d : Option Nat) (T : Nat → AV) (H : Heap) (K : AS → Prop) :
    vcAp true sz bytes (some (old, ob)) (some new) (some n) (some m) s d T H K = (new.all AV.one = true ∧ (n + m) * bytes ≤ 140737488355328 ∧ K ⟨put T d (.imm (old ++ new) (n + m) none), H.less ob⟩) := by
  simp [vcAp]
theorem s_Ap_f (sz bytes : Nat) (old new : List AV) (ob : Option Nat) (n m : Nat) (s : AV) (d : Option Nat) (T : Nat → AV) (H : Heap) (K : AS → Prop) :
    vcAp false sz bytes (some (old, ob)) (some new) (some n) (some m) s d T H K = (new.all AV.one = true ∧ (n + m) * bytes ≤ 140737488355328 ∧ AppOwn sz s old new (n + m) d T H (H.less ob) K) := by
  simp [vcAp, AppOwn]
def vcMset (sk : SK) (b : Nat) (x : Option Blk) (k v : AV) (d : Option Nat) (T : Nat → AV) (H : Heap) (K : AS → Prop) : Prop :=
  match x with
  | some (.map es) => match findI sk k es with
    | some r => K ⟨put T d .any, H.set b (some (.map (msetV k v es r)))⟩
    | none => False
  | _ => False
def vcMdel (sk : SK) (b : Nat) (x : Option Blk) (k : AV) (d : Option Nat) (T : Nat → AV) (H : Heap) (K : AS → Prop) : Prop :=
  match x with
  | some (.map es) => match findI sk k es with
    | some r => K ⟨put T d (.tup []), H.set b (some (.map (mdelV es r)))⟩
    | none => False
  | _ => False
theorem s_mkmap (d : Option Nat) (T : Nat → AV) (H : Heap) (K : AS → Prop) : vcE P .mkmap [] d ⟨T, H⟩ K = NewB H (fun _ => .map []) (fun b => .mp b) d T K := by unfold vcE; rfl
theorem s_mset (sk : SK) (b : Nat) (k v : AV) (d : Option Nat) (T : Nat → AV) (H : Heap) (K : AS → Prop) : vcE P (.mset sk) [.mp b, k, v] d ⟨T, H⟩ K = vcMset sk b (H b) k v d T H K := by unfold vcE; rfl
theorem s_mdel (sk : SK) (b : Nat) (k : AV) (d : Option Nat) (T : Nat → AV) (H : Heap) (K : AS → Prop) : vcE P (.mdel sk) [.mp b, k] d ⟨T, H⟩ K = vcMdel sk b (H b) k d T H K := by unfold vcE; rfl
theorem s_Mset {sk : SK} {k : AV} {es : List (AV × AV)} {r : Option Nat} (h : findI sk k es = some r) (b : Nat) (v : AV) (d : Option Nat) (T : Nat → AV) (H : Heap) (K : AS → Prop) :
    vcMset sk b (some (.map es)) k v d T H K = K ⟨put T d .any, H.set b (some (.map (msetV k v es r)))⟩ := by simp only [vcMset, h]
theorem s_Mdel {sk : SK} {k : AV} {es : List (AV × AV)} {r : Option Nat} (h : findI sk k es = some r) (b : Nat) (d : Option Nat) (T : Nat → AV) (H : Heap) (K : AS → Prop) :
    vcMdel sk b (some (.map es)) k d T H K = K ⟨put T d (.tup []), H.set b (some (.map (mdelV es r)))⟩ := by simp only [vcMdel, h]
theorem s_alloc (zero : List AV) (d : Option Nat) (T : Nat → AV) (H : Heap) (K : AS → Prop) : vcE P (.alloc zero) [] d ⟨T, H⟩ K = NewB H (fun _ => .cells zero zero.length) (fun b => .ptr b 0) d T K := by unfold vcE; rfl
theorem s_box (v : AV) (d : Option Nat) (T : Nat → AV) (H : Heap) (K : AS → Prop) : vcE P .box [v] d ⟨T, H⟩ K = (v.known = true ∧ NewB H (fun _ => .cells v.cellsL v.cellsL.length) (fun b => .ptr b 0) d T K) := by unfold vcE; rfl
theorem s_bslice (frozen : Bool) (zero : List AV) (ps : List (Nat × Nat)) (len : Nat) (xs : List AV) (d : Option Nat) (T : Nat → AV) (H : Heap) (K : AS → Prop) :
    vcE P (.bslice frozen zero ps len) xs d ⟨T, H⟩ K = (xs.all AV.known = true ∧ vcBs frozen len (fillC zero ps xs) d T H K) := by unfold vcE; rfl
theorem s_Bs_t (len : Nat) (cs : List AV) (d : Option Nat) (T : Nat → AV) (H : Heap) (K : AS → Prop) : vcBs true len (some cs) d T H K = K ⟨put T d (.imm cs len (some len)), H⟩ := by simp [vcBs]
theorem s_Bs_f (len : Nat) (cs : List AV) (d : Option Nat) (T : Nat → AV) (H : Heap) (K : AS → Prop) : vcBs false len (some cs) d T H K = NewB H (fun _ => .cells cs cs.length) (fun b => .sl b 0 len len) d T K := by simp [vcBs]
theorem s_store1 (b o : Nat) (v : AV) (d : Option Nat) (T : Nat → AV) (H : Heap) (K : AS → Prop) : vcE P (.store none) [.ptr b o, v] d ⟨T, H⟩ K = (v.one = true ∧ vcSt1 (H b) b o v T H K) := by unfold vcE; rfl
theorem s_storeN (b o k : Nat) (cs : List AV) (d : Option Nat) (T : Nat → AV) (H : Heap) (K : AS → Prop) : vcE P (.store (some k)) [.ptr b o, .agg cs] d ⟨T, H⟩ K = (cs.all AV.one = true ∧ cs.length = k ∧ vcSt (H b) b o k cs T H K) := by unfold vcE; rfl
theorem s_St1 (vs : List AV) (n b o : Nat) (v : AV) (T : Nat → AV) (H : Heap) (K : AS → Prop) : vcSt1 (some (.cells vs n)) b o v T H K = (o < vs.length ∧ K ⟨T, H.set b (some (.cells (vs.set o v) n))⟩) := rfl
theorem s_St (vs : List AV) (n b o sz : Nat) (cs : List AV) (T : Nat → AV) (H : Heap) (K : AS → Prop) : vcSt (some (.cells vs n)) b o sz cs T H K = (o + sz ≤ vs.length ∧ K ⟨T, H.set b (some (.cells (vs.take o ++ cs ++ vs.drop (o + sz)) n))⟩) := rfl
theorem s_s2b (s : ByteArray) (d : Option Nat) (T : Nat → AV) (H : Heap) (K : AS → Prop) : vcE P .s2b [.str s] d ⟨T, H⟩ K = K ⟨put T d (.imm (s.data.toList.map byteV) s.size none), H⟩ := by unfold vcE; rfl
def vcMk (x : Option Blk) (b n c : Nat) (d : Option Nat) (T : Nat → AV) (H : Heap) (K : AS → Prop) : Prop :=
  match x with
  | some (.cells cs k) => k = n ∧ c = n ∧ cs.length = n ∧ K ⟨put T d (.imm cs n (some n)), H.set b none⟩
  | _ => False
theorem s_markb (b n c : Nat) (d : Option Nat) (T : Nat → AV) (H : Heap) (K : AS → Prop) : vcE P .mark [.sl b 0 n c] d ⟨T, H⟩ K = vcMk (H b) b n c d T H K := by unfold vcE; rfl
theorem s_Mk (cs : List AV) (k b n c : Nat) (d : Option Nat) (T : Nat → AV) (H : Heap) (K : AS → Prop) : vcMk (some (.cells cs k)) b n c d T H K = (k = n ∧ c = n ∧ cs.length = n ∧ K ⟨put T d (.imm cs n (some n)), H.set b none⟩) := rfl
theorem s_mkslice (frozen : Bool) (zero : List AV) (bytes : Nat) (k1 k2 : IntKind) (n c : Int) (d : Option Nat) (T : Nat → AV) (H : Heap) (K : AS → Prop) :
    vcE P (.mkslice frozen zero bytes) [.int k1 n, .int k2 c] d ⟨T, H⟩ K = (0 ≤ n ∧ n ≤ c ∧ c * bytes ≤ 140737488355328 ∧ c ≤ 9223372036854775807 ∧
      if frozen then K ⟨put T d (.imm (List.replicate n.toNat zero).flatten n.toNat (some c.toNat)), H⟩
      else NewB H (fun _ => .cells (List.replicate n.toNat zero).flatten (c.toNat * zero.length)) (fun b => .sl b 0 n.toNat c.toNat) d T K) := by unfold vcE; rfl
theorem s_qbslice (zero : List AV) (ps : List (Nat × Nat)) (len : Nat) (xs : List AV) (H : Heap) (K : AV → Prop) :
    vcQE P (.bslice true zero ps len) xs H K = (xs.all AV.known = true ∧ match fillC zero ps xs with | some cs => K (.imm cs len (some len)) | none => False) := by unfold vcQE; rfl
theorem s_qs2b (s : ByteArray) (H : Heap) (K : AV → Prop) : vcQE P .s2b [.str s] H K = K (.imm (s.data.toList.map byteV) s.size none) := by unfold vcQE; rfl
/-! The end of a function. -/
def Ret (ts : List Nat) (Q : AV → Heap → Prop) : Exit → AS → Prop
  | .normal, S => Q (resAV S.T ts) S.H
  | .ret, S => Q (resAV S.T ts) S.H
  | _, _ => False
theorem s_ret_n (ts : List Nat) (Q : AV → Heap → Prop) (T : Nat → AV) (H : Heap) : Ret ts Q .normal ⟨T, H⟩ = Q (resAV T ts) H := rfl
theorem s_ret_r (ts : List Nat) (Q : AV → Heap → Prop) (T : Nat → AV) (H : Heap) : Ret ts Q .ret ⟨T, H⟩ = Q (resAV T ts) H := rfl
theorem CC.by_vc {f n : Nat} {md : Md} {cc : CCode} {ts : List Nat} (hf : FnOK P f md n cc ts) {args : List AV} {H : Heap} {Q : AV → Heap → Prop} (ha : args.length ≤ n)
    (h : vc P cc ⟨argT args, H⟩ (Ret ts Q)) : CC P f args H Q := by
  refine CC.of_vc hf ha ?_
  have key : Ret ts Q = fun e S => (e = .normal ∨ e = .ret) ∧ Q (resAV S.T ts) S.H := by
    funext e S
    cases e <;> simp [Ret]
  rw [← key]; exact h
theorem CP.by_vc {f n : Nat} {md : Md} {cc : CCode} {ts : List Nat} (hf : FnOK P f md n cc ts) {args : List AV} {R : AV → Prop} (ha : args.length ≤ n)
    (h : vc P cc ⟨argT args, Heap.nil⟩ (Ret ts fun v _ => R v)) : CP P f args R := CC.by_vc hf ha h
/-! Loops. -/
def Again (I : Nat → AS → Prop) (k : Nat) : AS → Prop := fun S => ∃ k', k' < k ∧ I k' S
theorem Again.mk {I : Nat → AS → Prop} {k : Nat} {S : AS} (k' : Nat) (h : k' < k) (hI : I k' S) : Again I k S := ⟨k', h, hI⟩
theorem LoopV.mk {a : CCode} {S : AS} {Q : Exit → AS → Prop} (I : Nat → AS → Prop) (k₀ : Nat) (h₀ : I k₀ S) (round : ∀ k T H, I k ⟨T, H⟩ → vc P a ⟨T, H⟩ (thenQ (Again I k) Q)) : LoopV (vc P a) S Q :=
  ⟨I, k₀, h₀, fun k S hI => round k S.T S.H hI⟩
theorem CallK.pure {f : Nat} {as : List AV} {T : Nat → AV} {H : Heap} {d : Option Nat} {K : AS → Prop} {R : AV → Prop} (h : CP P f as R) (k : ∀ v, R v → K ⟨put T d v, H⟩) : CallK P f as T H d K := CP.use h k
theorem CallK.of {f : Nat} {as : List AV} {T : Nat → AV} {H : Heap} {d : Option Nat} {K : AS → Prop} {Q : AV → Heap → Prop} (h : CC P f as H Q) (k : ∀ v H', Q v H' → K ⟨put T d v, H'⟩) : CallK P f as T H d K := h.mono k
theorem CallQ.of {f : Nat} {as : List AV} {K : AV → Prop} {v : AV} (h : CP P f as (fun u => u = v)) (k : K v) : CallQ P f as K := ⟨v, h, k⟩
end
end Go.Sf
