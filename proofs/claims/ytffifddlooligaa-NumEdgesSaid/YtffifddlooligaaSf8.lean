/- The framework's operations that look alone: the rest of them; and all of them together, as the model's code has them. -/
import Derived.Test.YtffifddlooligaaSf7
set_option linter.unusedVariables false
set_option linter.unusedSimpArgs false
namespace Go.Sf

theorem rel_int (M : Mem) (k : IntKind) (n : Int) : VRel M (.int k n) (.int k n) := by simp only [VRel]
theorem rel_bool (M : Mem) (b : Bool) : VRel M (.bool b) (.bool b) := by simp only [VRel]
theorem rel_str (M : Mem) (s : ByteArray) : VRel M (.str s) (.string s) := by simp only [VRel]
theorem cvt_sound {P : Program} {M : Mem} {H : Heap} {w : World} {a : AV} {x : Value} (h : VRel M a x) {src dst : TypeId} {d1 : TypeDesc} {k : IntKind} (hs : P.underlying src = some d1) (hd : P.underlying dst = some (.int k))
    {p : Prop} {v : AV} (e : evK (.cvt k) H [a] = some (p, v)) (hp : p) : Gives P M w (convert src dst x) v := by
  cases a <;> simp only [evK, reduceCtorEq, Option.some.injEq, Prod.mk.injEq] at e
  obtain ⟨_, rfl⟩ := e
  rw [vr_int h]
  refine ⟨_, ?_, rel_int _ _ _⟩
  simp only [convert, run_bind, run_underlying hs, run_underlying hd, Conv.intToInt, run_pure]
theorem cvtS_sound {P : Program} {M : Mem} {H : Heap} {w : World} {a : AV} {x : Value} (h : VRel M a x) {src dst : TypeId} {d1 : TypeDesc} (hs : P.underlying src = some d1) (hd : P.underlying dst = some .string)
    {p : Prop} {v : AV} (e : evK .cvtS H [a] = some (p, v)) (hp : p) : Gives P M w (convert src dst x) v := by
  cases a <;> simp only [evK, reduceCtorEq, Option.some.injEq, Prod.mk.injEq] at e
  obtain ⟨_, rfl⟩ := e
  rw [vr_str h]
  refine ⟨_, ?_, rel_str _ _⟩
  simp only [convert, run_bind, run_underlying hs, run_underlying hd, run_pure]
theorem szp_none {P : Program} {t : TypeId} (h : SzP P t none) : aggT P t = some false := h
theorem field_sound {P : Program} {M : Mem} {H : Heap} {w : World} {a : AV} {x : Value} (h : VRel M a x) {t : TypeId} {f off : Nat} {fs : Array Field} {fl : Field} {sz : Option Nat}
    (hs : P.underlying t = some (.struct fs)) (hf : fs[f]? = some fl) (ho : fl.offset = off) (ht : SzP P fl.type sz)
    {p : Prop} {v : AV} (e : evK (.field off sz) H [a] = some (p, v)) (hp : p) : Gives P M w (Instr.field t x f) v := by
  cases a <;> (try (cases sz <;> simp only [evK, reduceCtorEq] at e; done))
  rename_i cs
  simp only [VRel] at h
  obtain ⟨xs, rfl, hr⟩ := h
  unfold Instr.field
  cases sz with
  | none =>
    simp only [evK] at e
    split at e
    · rename_i y hy
      cases e
      obtain ⟨u, hu, hr'⟩ := hr.get hy
      refine ⟨u, ?_, hr'⟩
      have hu' : xs[off]? = some u := by rw [← Array.getElem?_toList]; exact hu
      simp only [run_bind, run_underlying hs, hf, asAgg, run_pure, part, run_isAgg (szp_none ht), ho, hu', Bool.false_eq_true, if_false]
    · cases e
  | some k =>
    simp only [evK] at e
    split at e
    · rename_i hl
      cases e
      obtain ⟨ht, i, hi, hk⟩ := ht
      refine ⟨_, by simp only [run_bind, run_underlying hs, hf, asAgg, run_pure, part, run_isAgg ht, run_sizeOf hi, ho, if_true]; rfl, ?_⟩
      simp only [VRel]
      refine ⟨_, rfl, ?_⟩
      rw [Array.toList_extract, List.extract_eq_take_drop, show off + i.size - off = k by omega]
      exact (hr.drop off).take k
    · cases e
theorem idxS_sound {P : Program} {M : Mem} {H : Heap} {w : World} {a b : AV} {x y : Value} (h : VRel M a x) (k : VRel M b y) {t : TypeId} (ht : P.underlying t = some .string)
    {p : Prop} {v : AV} (e : evK .idxS H [a, b] = some (p, v)) (hp : p) : Gives P M w (Instr.index t x y) v := by
  cases a <;> cases b <;> simp only [evK, reduceCtorEq, Option.some.injEq, Prod.mk.injEq] at e
  obtain ⟨rfl, rfl⟩ := e
  rename_i s kk i
  rw [vr_str h, vr_int k]
  have hi : i.toNat < s.size := by omega
  have hi' : i.toNat < s.data.size := hi
  refine ⟨.int .u8 (s.data.toList.getD i.toNat 0).toNat, ?_, by simp only [VRel]⟩
  have e1 : s[i.toNat]? = some (s.data.toList.getD i.toNat 0) := by
    rw [getElem?_pos s i.toNat hi]
    congr 1
    show s.data[i.toNat] = _
    simp [List.getD_eq_getElem?_getD, Array.getElem?_eq_getElem hi']
  simp only [Instr.index, asIntOf, run_bind, run_pure, run_underlying ht, if_pos hp.1, e1]
theorem slcS_sound {P : Program} {M : Mem} {w : World} {s : ByteArray} {lo hi : Option Value} {l h : Int} (h1 : OptAt lo 0 l) (h2 : OptAt hi s.size h) {t : TypeId} (ht : P.underlying t = some .string)
    (k1 : 0 ≤ l) (k2 : l ≤ h) (k3 : h ≤ s.size) : Gives P M w (Instr.sliceAt t (.string s) lo hi none) (.str (s.extract l.toNat h.toNat)) := by
  have hb : (Instr.sliceBounds false s.size s.size lo hi none).run P w = .ok (l.toNat, h.toNat, s.size) w := by
    have := run_sliceBounds (P := P) (w := w) (b := false) (mx := none) (m := (s.size : Int)) h1 h2 (.inl ⟨rfl, rfl⟩) (.inl rfl) k1 k2 k3 (Int.le_refl _)
    simpa using this
  refine ⟨.string (s.extract l.toNat h.toNat), ?_, by simp only [VRel]⟩
  unfold Instr.sliceAt
  simp only [run_bind, run_underlying ht]
  unfold Instr.slice
  simp only [run_bind, run_underlying ht, hb, run_pure, Option.isSome, Bool.false_eq_true, if_false]
theorem ext_sound {P : Program} {M : Mem} {H : Heap} {w : World} {a : AV} {x : Value} (h : VRel M a x) {i : Nat} {p : Prop} {v : AV} (e : evK (.ext i) H [a] = some (p, v)) (hp : p) : Gives P M w (Instr.extract x i) v := by
  cases a <;> simp only [evK, reduceCtorEq] at e
  split at e
  · rename_i y hy
    cases e
    simp only [VRel] at h
    obtain ⟨xs, rfl, hr⟩ := h
    obtain ⟨u, hu, hr'⟩ := hr.get hy
    have hu' : xs[i]? = some u := by rw [← Array.getElem?_toList]; exact hu
    exact ⟨u, by simp only [Instr.extract, hu', run_pure], hr'⟩
  · cases e
def lenTy (P : Program) (t : TypeId) : Bool :=
  match P.underlying t with
  | some .string | some (.slice _) | some (.map _ _) => true
  | _ => false
theorem run_getObj {P : Program} {w : World} {b : Nat} {o : Obj} (h : w.heap[b]? = some o) (hc : ∀ c e f, o ≠ .cells c e f) : (getObj b).run P w = .ok o w := by
  simp only [getObj, Sem.run, h]
  all_goals (cases o <;> first | rfl | exact absurd rfl (hc _ _ _))
def LenTy (P : Program) (t : TypeId) : LT → Prop
  | .s => P.underlying t = some .string
  | .a => ∃ e, P.underlying t = some (.slice e)
  | .m => ∃ k e, P.underlying t = some (.map k e)
theorem len_sound {P : Program} {M : Mem} {H : Heap} {w : World} (r : Rel M H w) {a : AV} {x : Value} (h : VRel M a x) {t : TypeId} {ts : Array TypeId} {ty : TypeId} (hts : ts[0]? = some t) {c : LT} (ht : LenTy P t c)
    {p : Prop} {v : AV} (e : evK (.len c) H [a] = some (p, v)) (hp : p) : Gives P M w (Builtin.len_ ts ty #[x]) v := by
  cases c with
  | a =>
    obtain ⟨el, ht⟩ := ht
    have key : ∀ (A : Option Addr) (n c : Nat), x = .slice A n c → Gives P M w (Builtin.len_ ts ty #[x]) (.int .i64 n) := by
      intro A n c hx
      subst hx
      refine ⟨.int .i64 n, ?_, by simp only [VRel]⟩
      unfold Builtin.len_
      simp only [hts, List.getElem?_toArray, List.getElem?_cons_zero, run_bind, run_underlying ht]; rfl
    simp only [evK] at e
    split at e
    · cases e; exact key _ 0 0 (vr_nils h)
    · cases e
      simp only [VRel] at h
      obtain ⟨A, vs, k, hx, _⟩ := h
      exact key A _ k hx
    · cases e; exact key _ _ _ (vr_sl h)
    · cases e
  | s =>
    simp only [LenTy] at ht
    cases a <;> simp only [evK, reduceCtorEq, Option.some.injEq, Prod.mk.injEq] at e
    obtain ⟨_, rfl⟩ := e
    rw [vr_str h]
    refine ⟨_, ?_, rel_int _ _ _⟩
    unfold Builtin.len_
    simp only [hts, List.getElem?_toArray, List.getElem?_cons_zero, run_bind, run_underlying ht]; rfl
  | m =>
    obtain ⟨k, el, ht⟩ := ht
    simp only [evK] at e
    split at e
    · cases e
      rw [vr_nilm h]
      refine ⟨.int .i64 0, ?_, by simp only [VRel]⟩
      unfold Builtin.len_
      simp only [hts, List.getElem?_toArray, List.getElem?_cons_zero, run_bind, run_underlying ht]; rfl
    · split at e
      · rename_i es hb
        cases e
        rw [vr_mp h]
        obtain ⟨o, ho, hr⟩ := r.live _ _ hb
        simp only [BRel] at hr
        obtain ⟨xs, clock, rfl, _, h1, h2⟩ := hr
        have hl : es.length = xs.size := by have := h1.length; simpa using this
        refine ⟨.int .i64 es.length, ?_, by simp only [VRel]⟩
        unfold Builtin.len_
        simp only [hts, List.getElem?_toArray, List.getElem?_cons_zero, run_bind, run_underlying ht, run_getObj ho (fun _ _ _ => by simp), run_pure, goInt, hl]
      · cases e
    · cases e
theorem cap_sound {P : Program} {M : Mem} {H : Heap} {w : World} {a : AV} {x : Value} (h : VRel M a x) {t el : TypeId} {ts : Array TypeId} {ty : TypeId} (hts : ts[0]? = some t) (ht : P.underlying t = some (.slice el))
    {p : Prop} {v : AV} (e : evK .cap H [a] = some (p, v)) (hp : p) : Gives P M w (Builtin.cap_ ts ty #[x]) v := by
  have key : ∀ (A : Option Addr) (n c : Nat), x = .slice A n c → (Builtin.cap_ ts ty #[x]).run P w = .ok (.int .i64 c) w := by
    intro A n c hx
    subst hx
    unfold Builtin.cap_
    simp only [hts, List.getElem?_toArray, List.getElem?_cons_zero, run_bind, run_underlying ht, run_pure, goInt]
  simp only [evK] at e
  split at e
  · cases e; exact ⟨_, key _ _ _ (vr_nils h), by simp only [VRel]; rfl⟩
  · cases e; exact ⟨_, key _ _ _ (vr_sl h), by simp only [VRel]⟩
  · cases e
    simp only [VRel] at h
    obtain ⟨A, vs, k, h1, h2, _⟩ := h
    exact ⟨_, key _ _ _ h1, by simp only [VRel]; rw [h2 _ rfl]⟩
  · cases e
/-! ### Maps -/
def skT (P : Program) (t : TypeId) : Option SK :=
  match P.underlying t with
  | some (.int _) => some .i
  | some .string => some .s
  | some .bool => some .b
  | _ => none
def SKd : TypeDesc → SK → Prop
  | .int _, .i | .string, .s | .bool, .b => True
  | _, _ => False
theorem skT_spec {P : Program} {t : TypeId} {sk : SK} (h : skT P t = some sk) : ∃ d, P.underlying t = some d ∧ SKd d sk := by
  unfold skT at h
  split at h
  · rename_i hu; cases h; exact ⟨_, hu, trivial⟩
  · rename_i hu; cases h; exact ⟨_, hu, trivial⟩
  · rename_i hu; cases h; exact ⟨_, hu, trivial⟩
  · cases h
theorem scal_now {M : Mem} {sk : SK} {d : TypeDesc} (hd : SKd d sk) {a b : AV} {x y : Value} (ha : VRel M a x) (hb : VRel M b y) {r : Bool} (h : scalEq sk a b = some r) : Instr.sameNow d x y = some r := by
  unfold scalEq at h
  split at h
  · split at h
    · rename_i hk
      cases h; subst hk
      rw [vr_int ha, vr_int hb]
      cases d <;> simp only [SKd] at hd
      simp only [Instr.sameNow, if_true]
      rfl
    · cases h
  · cases h
    rw [vr_bool ha, vr_bool hb]
    cases d <;> simp only [SKd] at hd
    simp only [Instr.sameNow]; rfl
  · cases h
    rw [vr_str ha, vr_str hb]
    cases d <;> simp only [SKd] at hd
    simp only [Instr.sameNow, Option.some.injEq]
    rw [beq_toListBytes, ba_eq]
  · cases h
theorem find_now {M : Mem} {sk : SK} {d : TypeDesc} (hd : SKd d sk) {k : AV} {x : Value} (hk : VRel M k x) : ∀ (es : List (AV × AV)) (xs : List MapEntry) (i : Nat) {r : Option Nat}, VRels M (es.map (·.1)) (xs.map (·.key)) → findI sk k es = some r →
    Instr.findNow d x xs i = some (r.bind fun j => (xs[j]?).map fun e => (i + j, e.val))
  | [], xs, i, r, h, e => by
    simp only [List.map_nil, VRels, List.map_eq_nil_iff] at h; subst h
    simp only [findI, Option.some.injEq] at e; subst e; rfl
  | e0 :: es, [], i, r, h, e => by have := h.length; simp at this
  | e0 :: es, x0 :: xs, i, r, h, e => by
    simp only [List.map_cons, VRels] at h
    obtain ⟨_, _, h1, h2, h3⟩ := h
    cases h1
    simp only [findI] at e
    split at e
    · rename_i hs
      cases e
      simp only [Instr.findNow, scal_now hd hk h2 hs]
      simp
    · rename_i hs
      simp only [Instr.findNow, scal_now hd hk h2 hs]
      split at e
      · rename_i r' hr'
        cases e
        rw [find_now hd hk es xs (i + 1) h3 hr']
        cases r' with
        | none => rfl
        | some j => simp [show i + 1 + j = i + (j + 1) by omega]
      · cases e
    · cases e
theorem findI_lt {sk : SK} {k : AV} : ∀ {es : List (AV × AV)} {j : Nat}, findI sk k es = some (some j) → j < es.length
  | [], j, h => by simp [findI] at h
  | e :: es, j, h => by
    simp only [findI] at h
    split at h
    · cases h; simp
    · split at h
      · rename_i r hr
        cases r with
        | none => simp at h
        | some j' => simp at h; subst h; have := findI_lt hr; simp; omega
      · cases h
    · cases h
theorem run_checkKey {P : Program} {sk : SK} {t : TypeId} {d : TypeDesc} (hu : P.underlying t = some d) (hd : SKd d sk) (e : Bool) (x : Value) (w : World) : (Instr.checkKey e 10000 t x).run P w = .ok () w := by
  unfold Instr.checkKey
  rw [run_bind, run_underlying hu]
  cases d <;> simp only [SKd] at hd <;> rfl
theorem run_findKey {P : Program} {M : Mem} {sk : SK} {t : TypeId} {d : TypeDesc} (hu : P.underlying t = some d) (hd : SKd d sk) {k : AV} {x : Value} (hk : VRel M k x) {es : List (AV × AV)} {xs : List MapEntry} {r : Option Nat}
    (h : VRels M (es.map (·.1)) (xs.map (·.key))) (e : findI sk k es = some r) (w : World) : (Instr.findKey t x xs).run P w = .ok (r.bind fun j => (xs[j]?).map fun e => (j, e.val)) w := by
  unfold Instr.findKey
  rw [run_bind, run_underlying hu]
  simp only [find_now hd hk es xs 0 h e, Nat.zero_add, run_pure]
theorem run_getMap {P : Program} {w : World} {b : Nat} {xs : Array MapEntry} {clock : Nat} (h : w.heap[b]? = some (.map xs clock)) : (getObj b).run P w = .ok (.map xs clock) w := by
  simp only [getObj, Sem.run, h]
theorem lkp_sound {P : Program} {M : Mem} {H : Heap} {w : World} (r : Rel M H w) {m k : AV} {x y : Value} (hm : VRel M m x) (hk : VRel M k y) {t kt et : TypeId} {sk : SK} {ok : Bool} {z : Value} (ht : P.underlying t = some (.map kt et)) (hs : skT P kt = some sk)
    {i : TypeInfo} (hi : P.info? et = some i) (hz : i.zero = some z) {p : Prop} {v : AV} (e : evK (.lkp sk ok (ofValue z)) H [m, k] = some (p, v)) (hp : p) : Gives P M w (Instr.lookup t x y ok) v := by
  obtain ⟨d, hu, hd⟩ := skT_spec hs
  simp only [evK] at e
  split at e
  · rename_i es hes
    split at e
    · rename_i rr hrr
      cases e
      have key : ∃ xs : Array MapEntry, VRels M (es.map (·.1)) (xs.toList.map (·.key)) ∧ VRels M (es.map (·.2)) (xs.toList.map (·.val)) ∧
          ((x = .map none ∧ xs = #[]) ∨ ∃ b clock, x = .map (some b) ∧ w.heap[b]? = some (.map xs clock)) := by
        unfold mapOf at hes
        split at hes
        · cases hes
          simp only [VRel] at hm; subst hm
          exact ⟨#[], by simp [VRels], by simp [VRels], .inl ⟨rfl, rfl⟩⟩
        · rename_i b
          split at hes
          · rename_i es' hb
            cases hes
            simp only [VRel] at hm; subst hm
            obtain ⟨o, ho, hrel⟩ := r.live _ _ hb
            simp only [BRel] at hrel
            obtain ⟨xs, clock, rfl, _, h1, h2⟩ := hrel
            exact ⟨xs, h1, h2, .inr ⟨b, clock, rfl, ho⟩⟩
          · cases hes
        · cases hes
      obtain ⟨xs, h1, h2, h3⟩ := key
      have hl := h2.length
      simp only [List.length_map] at hl
      refine ⟨if ok then .tuple #[(match rr.bind (xs.toList[·]?) with | some e => e.val | none => z), .bool rr.isSome] else (match rr.bind (xs.toList[·]?) with | some e => e.val | none => z), ?_, ?_⟩
      · have hfk := run_findKey (P := P) hu hd hk h1 hrr w
        unfold Instr.lookup
        rcases h3 with ⟨rfl, rfl⟩ | ⟨b, clock, rfl, hb⟩
        · cases rr with
          | none =>
            simp only [Option.bind_none] at hfk
            simp only [run_bind, run_underlying ht, run_pure, run_checkKey hu hd, hfk, run_zeroValue hi hz, Option.bind_none]; rfl
          | some j =>
            have hj : j < (#[] : Array MapEntry).toList.length := by rw [← hl]; exact findI_lt hrr
            simp at hj
        · cases rr with
          | none =>
            simp only [Option.bind_none] at hfk
            simp only [run_bind, run_underlying ht, run_getMap hb, run_pure, run_checkKey hu hd, hfk, run_zeroValue hi hz, Option.bind_none]; rfl
          | some j =>
            have hj : j < xs.toList.length := by rw [← hl]; exact findI_lt hrr
            simp only [Option.bind_some, List.getElem?_eq_getElem hj, Option.map_some] at hfk
            simp only [run_bind, run_underlying ht, run_getMap hb, run_pure, run_checkKey hu hd, hfk, Option.bind_some, List.getElem?_eq_getElem hj]; rfl
      · have hv : VRel M (match rr.bind (es[·]?) with | some e => e.2 | none => ofValue z) (match rr.bind (xs.toList[·]?) with | some e => e.val | none => z) := by
          cases rr with
          | none => exact ofValue_rel M z
          | some j =>
            have hj' := findI_lt hrr
            have hj : j < xs.toList.length := by rw [← hl]; exact hj'
            simp only [Option.bind_some, List.getElem?_eq_getElem hj, List.getElem?_eq_getElem hj']
            have := h2.get (i := j) (a := es[j].2) (by simp [List.getElem?_eq_getElem hj'])
            obtain ⟨u, hu1, hu2⟩ := this
            rw [List.getElem?_map, List.getElem?_eq_getElem hj] at hu1
            simp only [Option.map_some, Option.some.injEq] at hu1
            rw [← hu1] at hu2; exact hu2
        unfold lkpV
        cases ok with
        | true =>
          simp only [if_true, VRel]
          exact ⟨_, rfl, .cons hv (.cons (rel_bool _ _) .nil)⟩
        | false => simp only [Bool.false_eq_true, if_false]; exact hv
    · cases e
  · cases e
end Go.Sf
