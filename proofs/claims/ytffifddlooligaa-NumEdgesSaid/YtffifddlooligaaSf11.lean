/- The operations that look alone, translated, give what the abstract ones say. -/
import Derived.Test.YtffifddlooligaaSf10
set_option linter.unusedVariables false
set_option linter.unusedSimpArgs false
namespace Go.Sf

/-- What an operation comes to, by the values of its operands. -/
theorem optAt_of {M : Mem} {b : Bool} {as rest : List AV} {d n : Int} (e : optI b as d = some (n, rest)) {o : Option Operand} {ρ : Operand → Value} {xs : List Value} (hb : o.isSome = b)
    (h : VRels M as ((o.toList.map ρ) ++ xs)) : OptAt (o.map ρ) d n ∧ VRels M rest xs := by
  cases o with
  | none =>
    simp only [Option.isSome] at hb; subst hb
    simp only [optI, Bool.false_eq_true, if_false, Option.some.injEq, Prod.mk.injEq] at e
    obtain ⟨rfl, rfl⟩ := e
    exact ⟨.inl ⟨rfl, rfl⟩, by simpa using h⟩
  | some x =>
    simp only [Option.isSome] at hb; subst hb
    simp only [optI, if_true] at e
    obtain ⟨a, as', rfl, h1, h2⟩ := vrc (by simpa using h : VRels M as (ρ x :: xs))
    split at e
    · rename_i hh
      cases hh
      simp only [Option.some.injEq, Prod.mk.injEq] at e
      obtain ⟨rfl, rfl⟩ := e
      exact ⟨.inr ⟨_, by rw [Option.map_some, vr_int h1]⟩, h2⟩
    · cases e

theorem trCvt_sound {P : Program} {M : Mem} {H : Heap} {w : World} (r : Rel M H w) {src dst : TypeId} {k : PK} (e : trCvt P src dst = some k) {a : AV} {x : Value} (hx : VRel M a x)
    {p : Prop} {v : AV} (ev : evK k H [a] = some (p, v)) (hp : p) : Gives P M w (convert src dst x) v := by
  unfold trCvt at e
  split at e
  · rename_i h1 h2; cases e; exact cvt_sound hx h1 h2 ev hp
  · rename_i h1 h2; cases e; exact cvtS_sound hx h1 h2 ev hp
  · rename_i el h1 h2
    split at e
    · rename_i h3; cases e
      refine b2s_sound r hx h1 h3 h2 (fun s hs => ?_) ev hp
      subst hs
      simp [evK] at ev
    · cases e
  · cases e
theorem mapM_some {α β : Type} {f : α → Option β} : ∀ {l : List α} {r : List β}, l.mapM f = some r → l.map f = r.map some
  | [], r, h => by simp at h; subst h; rfl
  | a :: l, r, h => by
    simp only [List.mapM_cons, Option.bind_eq_bind, Option.bind_eq_some_iff] at h
    obtain ⟨b, hb, r', hr, h3⟩ := h
    cases h3
    simp [hb, mapM_some hr]
theorem run_mapM_fields {P : Program} {w : World} : ∀ {fs : List Field} {places : List (Nat × Nat)}, fs.mapM (fun f => (sizeT P f.type).map fun s => (f.offset, s)) = some places →
    (fs.mapM (m := Sem) fun f => do pure (f.offset, ← sizeOf f.type)).run P w = .ok places w
  | [], places, h => by simp at h; subst h; rfl
  | f :: fs, places, h => by
    simp only [List.mapM_cons, Option.bind_eq_bind, Option.bind_eq_some_iff, Option.map_eq_some_iff] at h
    obtain ⟨b, ⟨s, hs, rfl⟩, r', hr, h3⟩ := h
    cases h3
    obtain ⟨i, hi, rfl⟩ := sizeT_spec hs
    simp only [List.mapM_cons, run_bind, run_sizeOf hi, run_pure, run_mapM_fields hr]
theorem trBuild_sound {P : Program} {M : Mem} {H : Heap} {w : World} {t : TypeId} {idx : List Nat} {k : PK} (e : trBuild P t idx = some k) {as : List AV} {xs : List Value} (hx : VRels M as xs)
    {p : Prop} {v : AV} (ev : evK k H as = some (p, v)) (hp : p) (hl : idx.length = xs.length) : Gives P M w (Instr.build t (idx.zip xs).toArray) v := by
  unfold trBuild at e
  split at e
  · rename_i fs i hu hi
    split at e
    · rename_i z hz
      split at e
      · rename_i places hpl
        split at e
        · rename_i ps hps
          cases e
          simp only [evK] at ev
          split at ev
          · rename_i hk
            split at ev
            · rename_i cs hc
              cases ev
              obtain ⟨ys, h1, h2⟩ := fill_sound (M := M) (place := fun i => places[i]?) idx ps as xs _ z.cells cs (mapM_some hps) hx hk (ofCells_rel M _) hc
              refine ⟨.agg ys, ?_, by simp only [VRel]; exact ⟨ys, rfl, h2⟩⟩
              unfold Instr.build
              have hm : (fs.mapM (m := Sem) fun f => do pure (f.offset, ← sizeOf f.type)).run P w = .ok places.toArray w := by
                rw [← Array.toArray_toList (xs := fs), List.mapM_toArray]
                show Sem.run P (List.toArray <$> _) w = _
                rw [show (List.toArray <$> (fs.toList.mapM (m := Sem) fun f => do pure (f.offset, ← sizeOf f.type))) = (do pure (List.toArray (← fs.toList.mapM (m := Sem) fun f => do pure (f.offset, ← sizeOf f.type)))) from by
                  rw [bind_pure_comp]]
                rw [run_bind, run_mapM_fields hpl]; rfl
              simp only [run_bind, run_zeroValue hi hz, run_underlying hu, hm]
              have h1' : Instr.fill (fun x => places.toArray[x]?) z.cells (idx.zip xs) = some ys := by
                rw [← h1]; congr 1; funext i; simp
              simp only [h1', run_pure]
            · cases ev
          · cases ev
        · cases e
      · cases e
    · cases e
  · cases e
theorem trK_sound {P : Program} {M : Mem} {H : Heap} {w : World} (r : Rel M H w) {o : Oper} {k : PK} {xs : List Operand} (e : trK P o.op = some (k, xs)) {ρ : Operand → Value} {as : List AV} (hx : VRels M as (xs.map ρ))
    {p : Prop} {v : AV} (ev : evK k H as = some (p, v)) (hp : p) : GivesOp P M w (execOp ρ o) v := by
  obtain ⟨dst, op, type, pos, after, guard⟩ := o
  simp only at e
  cases op <;> simp only [trK, reduceCtorEq] at e
  case move x =>
    cases e
    obtain ⟨a, rfl, ha⟩ := vr1 hx
    simp only [evK, Option.some.injEq, Prod.mk.injEq] at ev
    obtain ⟨_, rfl⟩ := ev
    exact ⟨_, rfl, ha⟩
  case assign x =>
    cases e
    obtain ⟨a, rfl, ha⟩ := vr1 hx
    simp only [evK, Option.some.injEq, Prod.mk.injEq] at ev
    obtain ⟨_, rfl⟩ := ev
    exact ⟨_, rfl, ha⟩
  case load t a =>
    simp only [Option.map_eq_some_iff, Prod.mk.injEq] at e
    obtain ⟨sz, hs, rfl, rfl⟩ := e
    obtain ⟨b, rfl, hb⟩ := vr1 hx
    exact (load_sound r hb (szT_spec hs) ev hp).op
  case nilCheck x =>
    cases e
    obtain ⟨a, rfl, ha⟩ := vr1 hx
    simp only [evK] at ev
    split at ev
    · cases ev; have := vr_ptr ha; exact ⟨_, by simp only [execOp]; rw [this]; rfl, by simp only [VRel]⟩
    · cases ev; obtain ⟨A, hA⟩ := vr_iptr ha; exact ⟨_, by simp only [execOp]; rw [hA]; rfl, by rw [← hA]; exact ha⟩
    · cases ev; obtain ⟨A, B, hA⟩ := vr_fn ha; exact ⟨_, by simp only [execOp]; rw [hA]; rfl, by rw [← hA]; exact ha⟩
    · cases ev
  case binOp op t x y yt =>
    simp only [Option.map_eq_some_iff, Prod.mk.injEq] at e
    obtain ⟨k', hk, rfl, rfl⟩ := e
    obtain ⟨a, b, rfl, ha, hb⟩ := vr2 hx
    exact (trBin_sound hk ha hb x y ev hp).op
  case unOp op t x =>
    cases e
    obtain ⟨a, rfl, ha⟩ := vr1 hx
    exact (unV_sound ha ev hp).op
  case convert src dst x =>
    simp only [Option.map_eq_some_iff, Prod.mk.injEq] at e
    obtain ⟨k', hk, rfl, rfl⟩ := e
    obtain ⟨a, rfl, ha⟩ := vr1 hx
    exact (trCvt_sound r hk ha ev hp).op
  case makeFunc fn first captured =>
    cases e
    simp only [evK, Option.some.injEq, Prod.mk.injEq] at ev
    obtain ⟨_, rfl⟩ := ev
    refine ⟨.func fn (first.map ρ) (captured.map ρ), rfl, ?_⟩
    simp only [VRel]
    refine ⟨_, _, rfl, ?_, ?_⟩
    · have := hx.take first.size
      simpa [List.map_append, List.take_append] using this
    · have := hx.drop first.size
      simpa [List.map_append, List.drop_append] using this
  case slice t x lo hi mx =>
    split at e
    · rename_i el hu
      split at e
      · cases e
      · rename_i hmx
        simp only [Option.map_eq_some_iff, Prod.mk.injEq] at e
        obtain ⟨s, hs, rfl, rfl⟩ := e
        obtain ⟨i, hi', hz⟩ := sizeT_spec hs
        obtain ⟨a, as', rfl, ha, has⟩ := vrc hx
        simp only [evK] at ev
        split at ev
        · rename_i n hn
          split at ev
          · rename_i l r1 h1
            split at ev
            · rename_i h r2 h2
              split at ev
              · rename_i m h3
                simp only [List.map_append, List.append_assoc] at has
                obtain ⟨o1, has⟩ := optAt_of h1 rfl has
                obtain ⟨o2, has⟩ := optAt_of h2 rfl has
                obtain ⟨o3, _⟩ := optAt_of (xs := []) h3 rfl (by simpa using has)
                refine (slcV_sound ha hn (fun s hs => ?_) o1 o2 ?_ hu hi' hz ev hp).op
                · subst hs; simp [slcV] at ev
                · cases mx with
                  | none => simp
                  | some mx =>
                    simp only [Option.isSome, if_true, Option.map_some]
                    refine ⟨?_, ?_⟩
                    · rcases o3 with ⟨h, _⟩ | ⟨kk, h⟩
                      · cases h
                      · exact ⟨kk, h⟩
                    · cases hi with
                      | none => simp at hmx
                      | some hi => simp
              · cases ev
            · cases ev
          · cases ev
        · cases ev
    · rename_i hu
      split at e
      · cases e
      · rename_i hmx
        cases e
        obtain ⟨a, as', rfl, ha, has⟩ := vrc hx
        simp only [List.map_append] at has
        cases a <;> simp only [evK, reduceCtorEq] at ev
        rename_i s
        split at ev
        · rename_i l r1 h1
          split at ev
          · rename_i h h2
            obtain ⟨o1, has⟩ := optAt_of h1 rfl has
            obtain ⟨o2, _⟩ := optAt_of (xs := []) h2 rfl (by simpa using has)
            simp only [Option.some.injEq, Prod.mk.injEq] at ev
            obtain ⟨rfl, rfl⟩ := ev
            have hmx' : mx = none := by cases mx <;> simp_all
            subst hmx'
            have := slcS_sound (P := P) (M := M) (w := w) o1 o2 hu hp.1 hp.2.1 hp.2.2
            have hs := vr_str ha
            refine Gives.op ?_
            rw [hs]; exact this
          · cases ev
        · cases ev
    · cases e
  case fieldAddr s x f =>
    split at e
    · rename_i fs hu
      split at e
      · rename_i fl hf
        split at e
        · rename_i kk hk
          cases e
          obtain ⟨a, rfl, ha⟩ := vr1 hx
          obtain ⟨i, hi, hz⟩ := sizeT_spec hk
          exact (faddr_sound ha hu hf rfl hi (by omega) ev hp).op
        · cases e
      · cases e
    · cases e
  case field s x f =>
    split at e
    · rename_i fs hu
      split at e
      · rename_i fl hf
        simp only [Option.map_eq_some_iff, Prod.mk.injEq] at e
        obtain ⟨sz, hs, rfl, rfl⟩ := e
        obtain ⟨a, rfl, ha⟩ := vr1 hx
        exact (field_sound ha hu hf rfl (szT_spec hs) ev hp).op
      · cases e
    · cases e
  case indexAddr t x i =>
    split at e
    · rename_i el hu
      simp only [Option.map_eq_some_iff, Prod.mk.injEq] at e
      obtain ⟨s, hs, rfl, rfl⟩ := e
      obtain ⟨a, b, rfl, ha, hb⟩ := vr2 hx
      obtain ⟨i', hi, hz⟩ := sizeT_spec hs
      exact (iaddr_sound ha hb hu hi hz ev hp).op
    · rename_i n el hu
      simp only [Option.map_eq_some_iff, Prod.mk.injEq] at e
      obtain ⟨s, hs, rfl, rfl⟩ := e
      obtain ⟨a, b, rfl, ha, hb⟩ := vr2 hx
      obtain ⟨i', hi, hz⟩ := sizeT_spec hs
      exact (iarr_sound ha hb hu hi hz ev hp).op
    · cases e
  case index t x i =>
    split at e
    · rename_i hu
      cases e
      obtain ⟨a, b, rfl, ha, hb⟩ := vr2 hx
      exact (idxS_sound ha hb hu ev hp).op
    · cases e
  case extract x i =>
    cases e
    obtain ⟨a, rfl, ha⟩ := vr1 hx
    exact (ext_sound ha ev hp).op
  case lookup t m k ok =>
    split at e
    · rename_i kt et hu
      split at e
      · rename_i sk z hs hz
        cases e
        obtain ⟨a, b, rfl, ha, hb⟩ := vr2 hx
        obtain ⟨i, hi, hiz⟩ := Option.bind_eq_some_iff.1 hz
        exact (lkp_sound r ha hb hu hs hi hiz ev hp).op
      · cases e
    · cases e
  case build t parts =>
    simp only [Option.map_eq_some_iff, Prod.mk.injEq] at e
    obtain ⟨k', hk, rfl, rfl⟩ := e
    have := trBuild_sound (w := w) hk hx ev hp (by simp)
    refine Gives.op ?_
    have hz : ((parts.toList.map (·.1)).zip ((parts.toList.map (·.2)).map ρ)).toArray = parts.map fun (i, x) => (i, ρ x) := by
      apply Array.toList_inj.1
      simp only [Array.toList_map, List.map_map]
      induction parts.toList with
      | nil => rfl
      | cons a l ih => simp [ih]
    rw [hz] at this; exact this
  case call c =>
    obtain ⟨callee, args, argTypes⟩ := c
    cases callee with
    | value f => simp at e
    | invoke a b => simp at e
    | builtin b =>
      cases b <;> simp only [reduceCtorEq] at e
      case len =>
        split at e
        · rename_i x t hargs ht
          simp only [Option.map_eq_some_iff, Prod.mk.injEq] at e
          obtain ⟨c, hc, rfl, rfl⟩ := e
          obtain ⟨a, rfl, ha⟩ := vr1 hx
          have hl : LenTy P t c := by
            unfold trLen at hc
            split at hc
            · cases hc; assumption
            · cases hc; exact ⟨_, by assumption⟩
            · cases hc; exact ⟨_, _, by assumption⟩
            · cases hc
          have ha2 : args = #[x] := by rw [← hargs]
          subst ha2
          refine Gives.op (s := Builtin.len_ argTypes type (#[x].map ρ)) ?_
          rw [show #[x].map ρ = #[ρ x] by simp]
          exact len_sound r ha ht hl (ty := type) ev hp
        · cases e
      case cap =>
        split at e
        · rename_i x t hargs ht
          split at e
          · rename_i el hu
            cases e
            obtain ⟨a, rfl, ha⟩ := vr1 hx
            have ha2 : args = #[x] := by rw [← hargs]
            subst ha2
            refine Gives.op (s := Builtin.cap_ argTypes type (#[x].map ρ)) ?_
            rw [show #[x].map ρ = #[ρ x] by simp]
            exact cap_sound ha ht hu (ty := type) ev hp
          · cases e
        · cases e
      case min =>
        cases e
        have := min_sound (P := P) (w := w) (ts := argTypes) (ty := type) hx ev hp
        refine Gives.op (s := Builtin.min_ argTypes type (args.map ρ)) ?_
        rw [show args.map ρ = (args.toList.map ρ).toArray by apply Array.toList_inj.1; simp]; exact this
      case max =>
        cases e
        have := max_sound (P := P) (w := w) (ts := argTypes) (ty := type) hx ev hp
        refine Gives.op (s := Builtin.max_ argTypes type (args.map ρ)) ?_
        rw [show args.map ρ = (args.toList.map ρ).toArray by apply Array.toList_inj.1; simp]; exact this
theorem pickV_rel {M : Mem} {x : Bool} {a b : AV} {y z : Value} (h1 : x = true → VRel M a y) (h2 : x = false → VRel M b z) : VRel M (pickV x a b) (if x then y else z) := by
  cases x with
  | true =>
    have h := h1 rfl
    unfold pickV
    split
    · simpa using h
    · simpa using h
  | false =>
    have h := h2 rfl
    unfold pickV
    split
    · simpa using h
    · simpa using h
theorem trP_sound {P : Program} {n : Nat} {M : Mem} {w : World} {o : Oper} {c : COp} (e : trP P n o.op = some c) {T : Nat → AV} {H : Heap} {a : Act} (ht : TRel n M T a.tmps) (r : Rel M H w)
    {p : Prop} {v : AV} (ev : evP c T H = some (p, v)) (hp : p) : GivesOp P M w (execOp a.eval o) v := by
  have hk : (match trK P o.op with
    | some (k, xs) => (trXs n xs).map (.p k)
    | none => none) = some c → GivesOp P M w (execOp a.eval o) v := by
    intro e
    split at e
    · rename_i k xs h1
      cases hx : trXs n xs with
      | none => simp [hx] at e
      | some cs =>
        simp [hx] at e; subst e
        simp only [evP] at ev
        split at ev
        · rename_i q u hq
          cases ev
          exact trK_sound r h1 (trXs_rel hx ht hp.1) hq hp.2
        · cases ev
    · cases e
  unfold trP at e
  split at e
  · rename_i cc ca cb hop
    split at e
    · rename_i c1 c2 c3 e1 e2 e3
      cases e
      simp only [evP] at ev
      split at ev
      · rename_i q x hu
        cases ev
        have hc := trX_rel e1 ht
        have hc' := un_rel hc (by rw [hu]; exact hp.1)
        rw [hu] at hc'
        have hb := vr_bool hc'
        refine ⟨if x then a.eval ca else a.eval cb, ?_, pickV_rel (fun h => un_rel (trX_rel e2 ht) (hp.2.1 h)) (fun h => un_rel (trX_rel e3 ht) (hp.2.2 h))⟩
        unfold execOp
        rw [hop]
        simp only [hb, asBool, run_bind, run_pure]
      · cases ev
    · cases e
  · exact hk e
end Go.Sf
