/- The translation of the operations that look alone, and that it is right. -/
import Derived.Test.YtffifddlooligaaSf9
set_option linter.unusedVariables false
set_option linter.unusedSimpArgs false
namespace Go.Sf

def szT (P : Program) (t : TypeId) : Option (Option Nat) :=
  match aggT P t with
  | some false => some none
  | some true => (P.info? t).map fun i => some i.size
  | none => none
def sizeT (P : Program) (t : TypeId) : Option Nat := (P.info? t).map (·.size)
def trBin (P : Program) (op : BinOp) (t : TypeId) : Option PK :=
  if op = .eql ∨ op = .neq then
    match P.underlying t with
    | some (.int _) | some .string => some (.bin op)
    | some .bool => some (.eq (op == .neq) .bool)
    | some (.pointer _) => some (.eq (op == .neq) .ptr)
    | some (.slice _) => some (.eq (op == .neq) .slice)
    | some (.map _ _) => some (.eq (op == .neq) .map)
    | some (.func _ _ _) => some (.eq (op == .neq) .func)
    | some (.struct _) => match flat P 1000 t with
      | some ks => if P.eqGuardType P.depth t then none else some (.eq (op == .neq) (.flat ks))
      | none => none
    | _ => none
  else some (.bin op)
def trCvt (P : Program) (src dst : TypeId) : Option PK :=
  match P.underlying src, P.underlying dst with
  | some (.int _), some (.int k) => some (.cvt k)
  | some .string, some .string => some .cvtS
  | some (.slice e), some .string => match P.underlying e with
    | some (.int .u8) => some .b2s
    | _ => none
  | _, _ => none
def trBuild (P : Program) (t : TypeId) (idx : List Nat) : Option PK :=
  match P.underlying t, P.info? t with
  | some (.struct fs), some i => match i.zero with
    | some z => match fs.toList.mapM (fun f => (sizeT P f.type).map fun s => (f.offset, s)) with
      | some places => match idx.mapM (fun i => places[i]?) with
        | some ps => some (.build (z.cells.toList.map ofCell) ps)
        | none => none
      | none => none
    | none => none
  | _, _ => none
def trLen (P : Program) (t : TypeId) : Option LT :=
  match P.underlying t with
  | some .string => some .s
  | some (.slice _) => some .a
  | some (.map _ _) => some .m
  | _ => none
def trK (P : Program) (o : Op) : Option (PK × List Operand) :=
  match o with
  | .move x | .assign x => some (.mv, [x])
  | .load t a => (szT P t).map fun sz => (.load sz, [a])
  | .nilCheck x => some (.nilc, [x])
  | .binOp op t x y _ => (trBin P op t).map fun k => (k, [x, y])
  | .unOp op _ x => some (.un op, [x])
  | .convert src dst x => (trCvt P src dst).map fun k => (k, [x])
  | .makeFunc fn first captured => some (.mkfn fn first.size, first.toList ++ captured.toList)
  | .slice t x lo hi mx => match P.underlying t with
    | some (.slice e) => if mx.isSome ∧ hi.isNone then none else (sizeT P e).map fun s => (.slc s lo.isSome hi.isSome mx.isSome, x :: (lo.toList ++ hi.toList ++ mx.toList))
    | some .string => if mx.isSome then none else some (.slcS lo.isSome hi.isSome, x :: (lo.toList ++ hi.toList))
    | _ => none
  | .fieldAddr s x f => match P.underlying s with
    | some (.struct fs) => match fs[f]? with
      | some fl => match sizeT P fl.type with
        | some (k + 1) => some (.faddr fl.offset, [x])
        | _ => none
      | none => none
    | _ => none
  | .field s x f => match P.underlying s with
    | some (.struct fs) => match fs[f]? with
      | some fl => (szT P fl.type).map fun sz => (.field fl.offset sz, [x])
      | none => none
    | _ => none
  | .indexAddr t x i => match P.underlying t with
    | some (.slice e) => (sizeT P e).map fun s => (.iaddr s, [x, i])
    | some (.array n e) => (sizeT P e).map fun s => (.iarr n s, [x, i])
    | _ => none
  | .index t x i => match P.underlying t with
    | some .string => some (.idxS, [x, i])
    | _ => none
  | .extract x i => some (.ext i, [x])
  | .lookup t m k ok => match P.underlying t with
    | some (.map kt et) => match skT P kt, (P.info? et).bind (·.zero) with
      | some sk, some z => some (.lkp sk ok (ofValue z), [m, k])
      | _, _ => none
    | _ => none
  | .build t parts => (trBuild P t (parts.toList.map (·.1))).map fun k => (k, parts.toList.map (·.2))
  | .call { callee := .builtin .len, args, argTypes } => match args.toList, argTypes[0]? with
    | [x], some t => (trLen P t).map fun c => (.len c, [x])
    | _, _ => none
  | .call { callee := .builtin .cap, args, argTypes } => match args.toList, argTypes[0]? with
    | [x], some t => match P.underlying t with
      | some (.slice _) => some (.cap, [x])
      | _ => none
    | _, _ => none
  | .call { callee := .builtin .min, args, .. } => some (.min, args.toList)
  | .call { callee := .builtin .max, args, .. } => some (.max, args.toList)
  | _ => none
def trP (P : Program) (n : Nat) (o : Op) : Option COp :=
  match o with
  | .pick c a b => match trX n c, trX n a, trX n b with
    | some c, some a, some b => some (.pick c a b)
    | _, _, _ => none
  | o => match trK P o with
    | some (k, xs) => (trXs n xs).map (.p k)
    | none => none

/-- A computation that looks alone, as an operation carries it out. -/
def GivesOp (P : Program) (M : Mem) (w : World) (s : Sem Next) (v : AV) : Prop := ∃ x, s.run P w = .ok (.value x) w ∧ VRel M v x
theorem Gives.op {P : Program} {M : Mem} {w : World} {s : Sem Value} {v : AV} (h : Gives P M w s v) : GivesOp P M w (do pure (.value (← s))) v := by
  obtain ⟨x, h1, h2⟩ := h
  exact ⟨x, by rw [run_bind, h1]; rfl, h2⟩
theorem szT_spec {P : Program} {t : TypeId} {sz : Option Nat} (h : szT P t = some sz) : SzP P t sz := by
  unfold szT at h
  split at h
  · rename_i e; cases h; exact e
  · rename_i e
    cases hi : P.info? t with
    | none => simp [hi] at h
    | some i => simp [hi] at h; subst h; exact ⟨e, i, hi, rfl⟩
  · cases h
theorem sizeT_spec {P : Program} {t : TypeId} {k : Nat} (h : sizeT P t = some k) : ∃ i, P.info? t = some i ∧ i.size = k := by
  unfold sizeT at h
  cases hi : P.info? t with
  | none => simp [hi] at h
  | some i => simp [hi] at h; exact ⟨i, rfl, h⟩
theorem bin_step {P : Program} {M : Mem} {w : World} {op : BinOp} {t : TypeId} {x y : Operand} {a b : Value} {v : AV} (hg : (eqGuard op t x y a b).run P w = .ok () w) (h : Gives P M w (binOp op t a b) v) :
    Gives P M w (do eqGuard op t x y a b; binOp op t a b) v := by
  obtain ⟨u, h1, h2⟩ := h
  exact ⟨u, by rw [run_bind, hg]; exact h1, h2⟩
theorem trBin_sound {P : Program} {M : Mem} {H : Heap} {w : World} {op : BinOp} {t : TypeId} {k : PK} (e : trBin P op t = some k) {a b : AV} {x y : Value} (hx : VRel M a x) (hy : VRel M b y) (ox oy : Operand)
    {p : Prop} {v : AV} (ev : evK k H [a, b] = some (p, v)) (hp : p) : Gives P M w (do eqGuard op t ox oy x y; binOp op t x y) v := by
  have hbin : k = .bin op → Gives P M w (do eqGuard op t ox oy x y; binOp op t x y) v := by
    rintro rfl
    simp only [evK] at ev
    have ha : (∃ k n, a = .int k n) ∨ (∃ b, a = .bool b) ∨ (∃ s, a = .str s) := by
      unfold binV at ev
      split at ev
      · exact .inl ⟨_, _, rfl⟩
      · exact .inr (.inr ⟨_, rfl⟩)
      · cases ev
    obtain ⟨h1, h2⟩ := vr_ne_nilIface hx ha
    exact bin_step (eqGuard_ok op t ox oy h1 fun ⟨xs, h⟩ => absurd h (h2 xs)) (binV_sound hx hy ev hp t)
  have heq : ∀ c, (op = .eql ∨ op = .neq) → k = .eq (op == .neq) c → EqTy P t c → (∀ ks, c = .flat ks → P.eqGuardType P.depth t = false) → Gives P M w (do eqGuard op t ox oy x y; binOp op t x y) v := by
    rintro c hop rfl ht hfl
    simp only [evK] at ev
    split at ev
    · rename_i r hr
      cases ev
      have hrun := eqV_sound (w := w) hx hy ht hr
      have hne : x ≠ .nilIface ∧ ((∃ xs, x = .agg xs) → P.eqGuardType P.depth t = false) ∧ (∀ k n, x ≠ .int k n) ∧ (∀ s, x ≠ .string s) ∧ (∀ k n, x ≠ .float k n) ∧ (∀ k n m, x ≠ .complex k n m) := by
        unfold eqV at hr
        split at hr
        · rw [vr_bool hx]; simp
        · rw [vr_nilp hx]; simp
        · rw [vr_nilp hx]; simp
        · rw [vr_ptr hx]; simp
        · rw [vr_nilp hx]; simp
        · obtain ⟨_, hx⟩ := vr_iptr hx; rw [hx]; simp
        · rw [vr_nils hx]; simp
        · rw [vr_nils hx]; simp
        · rw [vr_sl hx]; simp
        · rw [vr_nils hx]; simp
        · obtain ⟨_, _, _, hx⟩ := vr_imm hx; rw [hx]; simp
        · rw [vr_nilm hx]; simp
        · rw [vr_nilm hx]; simp
        · rw [vr_mp hx]; simp
        · rw [vr_nilf hx]; simp
        · rw [vr_nilf hx]; simp
        · obtain ⟨_, _, hx⟩ := vr_fn hx; rw [hx]; simp
        · simp only [VRel] at hx
          obtain ⟨xs, hx, _⟩ := hx
          rw [hx]; simp [hfl _ rfl]
        · cases hr
      obtain ⟨n1, n2, n3, n4, n5, n6⟩ := hne
      refine bin_step (eqGuard_ok op t ox oy n1 n2) ?_
      rcases hop with rfl | rfl
      · refine ⟨.bool r, ?_, by simp only [VRel]; rfl⟩
        have : binOp .eql t x y = (do pure (.bool (← Op.equal t x y))) := by
          cases x <;> first
            | rfl
            | exact absurd rfl (n3 _ _)
            | exact absurd rfl (n4 _)
            | exact absurd rfl (n5 _ _)
            | exact absurd rfl (n6 _ _ _)
        rw [this, run_bind, hrun]; rfl
      · refine ⟨.bool (!r), ?_, by simp only [VRel]; rfl⟩
        have : binOp .neq t x y = (do pure (.bool (!(← Op.equal t x y)))) := by
          cases x <;> first
            | rfl
            | exact absurd rfl (n3 _ _)
            | exact absurd rfl (n4 _)
            | exact absurd rfl (n5 _ _)
            | exact absurd rfl (n6 _ _ _)
        rw [this, run_bind, hrun]; rfl
    · cases ev
  unfold trBin at e
  split at e
  · rename_i hop
    split at e
    · cases e; exact hbin rfl
    · cases e; exact hbin rfl
    · rename_i hu; cases e; exact heq .bool hop rfl hu fun _ h => by cases h
    · rename_i hu; cases e; exact heq .ptr hop rfl ⟨_, hu⟩ fun _ h => by cases h
    · rename_i hu; cases e; exact heq .slice hop rfl ⟨_, hu⟩ fun _ h => by cases h
    · rename_i hu; cases e; exact heq .map hop rfl ⟨_, _, hu⟩ fun _ h => by cases h
    · rename_i hu; cases e; exact heq .func hop rfl ⟨_, _, _, hu⟩ fun _ h => by cases h
    · rename_i fs hu
      split at e
      · rename_i ks hf
        split at e
        · cases e
        · rename_i hg
          cases e
          exact heq (.flat ks) hop rfl ⟨hf, by unfold aggT; rw [hu]⟩ fun _ _ => by simpa using hg
      · cases e
    · cases e
  · cases e; exact hbin rfl
theorem vr1 {M : Mem} {as : List AV} {x : Value} (h : VRels M as [x]) : ∃ a, as = [a] ∧ VRel M a x := by
  match as, h with
  | [], h => simp [VRels] at h
  | [a], h => simp only [VRels] at h; obtain ⟨_, _, h1, h2, _⟩ := h; cases h1; exact ⟨a, rfl, h2⟩
  | _ :: _ :: _, h => have := h.length; simp at this
theorem vr2 {M : Mem} {as : List AV} {x y : Value} (h : VRels M as [x, y]) : ∃ a b, as = [a, b] ∧ VRel M a x ∧ VRel M b y := by
  match as, h with
  | [], h => simp [VRels] at h
  | [a], h => have := h.length; simp at this
  | [a, b], h => simp only [VRels] at h; obtain ⟨_, _, h1, h2, _, _, h3, h4, _⟩ := h; cases h1; cases h3; exact ⟨a, b, rfl, h2, h4⟩
  | _ :: _ :: _ :: _, h => have := h.length; simp at this
theorem vrc {M : Mem} {as : List AV} {x : Value} {xs : List Value} (h : VRels M as (x :: xs)) : ∃ a as', as = a :: as' ∧ VRel M a x ∧ VRels M as' xs := by
  match as, h with
  | [], h => simp [VRels] at h
  | a :: as, h => simp only [VRels] at h; obtain ⟨_, _, h1, h2, h3⟩ := h; cases h1; exact ⟨a, as, rfl, h2, h3⟩
end Go.Sf
