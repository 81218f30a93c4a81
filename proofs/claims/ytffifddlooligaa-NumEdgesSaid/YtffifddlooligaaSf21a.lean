/- Regions whose order is open and that write: every order that is left is walked. -/
import Derived.Test.YtffifddlooligaaSf21
set_option linter.unusedVariables false
set_option linter.unusedSimpArgs false
namespace Go.Sf
section
variable {P : Program} {n : Nat} {ops : Array Oper}

/-- Operations that ask the world nothing. -/
def hoistB (o : Oper) : Bool := o.guard.isNone && match o.op with
  | .move _ | .assign _ | .nilCheck _ | .fieldAddr _ _ _ => true
  | _ => false
theorem faddr_all {M : Mem} {H : Heap} {s : TypeId} {f off : Nat} {fs : Array Field} {fl : Field} {i : TypeInfo} {a : AV} {x : Value} (h : VRel M a x)
    (hs : P.underlying s = some (.struct fs)) (hf : fs[f]? = some fl) (ho : fl.offset = off) (hi : P.info? fl.type = some i) (hz : i.size ≠ 0) {p : Prop} {v : AV} (e : evK (.faddr off) H [a] = some (p, v)) (hp : p) :
    ∃ y, VRel M v y ∧ ∀ w, (Instr.fieldAt s x f).run P w = .ok y w := by
  have key : ∀ b o, x = .pointer (some ⟨b, o, none⟩) → ∀ w, (Instr.fieldAt s x f).run P w = .ok (.pointer (some ⟨b, o + off, none⟩)) w := by
    intro b o hx w
    subst hx
    unfold Instr.fieldAt
    rw [run_bind, run_underlying hs]
    simp only [hf]
    rw [run_bind, run_sureAddr]
    simp only []
    unfold fieldPlace
    rw [run_bind, run_bind, run_sizeOf hi]
    simp only [hz, if_false]
    rw [add_off, ho]; rfl
  simp only [evK] at e
  split at e
  · rename_i b o
    cases e
    exact ⟨_, by simp only [VRel], key b o (by simpa only [VRel] using h)⟩
  · rename_i cs j
    cases e
    simp only [VRel] at h
    obtain ⟨b, o, vs, hx, hm, hr⟩ := h
    refine ⟨_, ?_, key b (o + j) hx⟩
    simp only [VRel]
    exact ⟨b, o, vs, by rw [Nat.add_assoc], hm, hr⟩
  · cases e
theorem hoistK {M : Mem} {H : Heap} {o : Oper} (hh : hoistB o = true) {k : PK} {xs : List Operand} (e : trK P o.op = some (k, xs)) {ρ : Operand → Value} {as : List AV} (hx : VRels M as (xs.map ρ))
    {p : Prop} {v : AV} (ev : evK k H as = some (p, v)) (hp : p) : ∃ y, VRel M v y ∧ ∀ w, (execOp ρ o).run P w = .ok (.value y) w := by
  obtain ⟨dst, op, type, pos, after, guard⟩ := o
  simp only [hoistB, Bool.and_eq_true] at hh
  replace hh := hh.2
  simp only at e
  cases op <;> simp only [reduceCtorEq, Bool.false_eq_true] at hh <;> simp only [trK, reduceCtorEq] at e
  case move x =>
    cases e
    obtain ⟨a, rfl, ha⟩ := vr1 hx
    simp only [evK, Option.some.injEq, Prod.mk.injEq] at ev
    obtain ⟨_, rfl⟩ := ev
    exact ⟨_, ha, fun w => rfl⟩
  case assign x =>
    cases e
    obtain ⟨a, rfl, ha⟩ := vr1 hx
    simp only [evK, Option.some.injEq, Prod.mk.injEq] at ev
    obtain ⟨_, rfl⟩ := ev
    exact ⟨_, ha, fun w => rfl⟩
  case nilCheck x =>
    cases e
    obtain ⟨a, rfl, ha⟩ := vr1 hx
    simp only [evK] at ev
    split at ev
    · cases ev; have := vr_ptr ha; exact ⟨ρ x, ha, fun w => by simp only [execOp]; rw [this]; rfl⟩
    · cases ev; obtain ⟨A, hA⟩ := vr_iptr ha; exact ⟨ρ x, ha, fun w => by simp only [execOp]; rw [hA]; rfl⟩
    · cases ev; obtain ⟨A, B, hA⟩ := vr_fn ha; exact ⟨ρ x, ha, fun w => by simp only [execOp]; rw [hA]; rfl⟩
    · cases ev
  case fieldAddr s x f =>
    split at e
    · rename_i fs hu
      split at e
      · rename_i fl hf
        split at e
        · rename_i kk hk
          cases e
          obtain ⟨a, rfl, ha⟩ := vr1 hx
          obtain ⟨i, hi, hz⟩ := sizeT_spec hk
          obtain ⟨y, h1, h2⟩ := faddr_all (P := P) ha hu hf rfl hi (by omega) ev hp
          exact ⟨y, h1, fun w => by simp only [execOp]; rw [run_bind, h2 w]; rfl⟩
        · cases e
      · cases e
    · cases e
theorem hoist_sound {mt : Nat → Bool} {M : Mem} {S : AS} {K : AS → Prop} {o : Oper} {c : CO} (hh : hoistB o = true) (e : trCO P n mt ops o = some c) {a : Act} (ht : TRel n M S.T a.tmps) (hv : vcOp P c S K) :
    ∃ v y, VRel M v y ∧ Yields P ops o y a ∧ K ⟨put S.T o.dst v, S.H⟩ := by
  have hg : o.guard = none := by
    simp only [hoistB, Bool.and_eq_true, Option.isNone_iff_eq_none] at hh; exact hh.1
  unfold trCO at e
  rw [hg] at e
  simp only [trG] at e
  split at e
  · rename_i g c' hg' hc
    cases hg'
    split at e
    · cases e
      have hnp : ∀ x y z, o.op ≠ .pick x y z := by
        intro x y z h
        simp only [hoistB, h, Bool.and_false, Bool.false_eq_true] at hh
      unfold vcOp at hv
      simp only at hv
      unfold trOp at hc
      split at hc
      · rename_i c2 hp
        cases hc
        unfold trP at hp
        split at hp
        · rename_i x y z ho; exact absurd ho (hnp _ _ _)
        · split at hp
          · rename_i k xs h1
            simp only [Option.map_eq_some_iff] at hp
            obtain ⟨cs, hcs, rfl⟩ := hp
            unfold vcDo at hv
            simp only [evP] at hv
            split at hv
            · rename_i p v hev
              split at hev
              · rename_i q u hq
                cases hev
                obtain ⟨y, h2, h3⟩ := hoistK hh h1 (trXs_rel hcs ht hv.1.1) hq hv.1.2
                exact ⟨_, y, h2, .inl ⟨by unfold Region.wanted; rw [hg], h3⟩, hv.2⟩
              · cases hev
            · exact hv.elim
          · cases hp
      · rename_i hp
        exfalso
        split at hc
        · rename_i k xs he
          obtain ⟨dst, op, type, pos, after, guard⟩ := o
          simp only at hp he
          cases op <;> simp only [hoistB, reduceCtorEq, Bool.and_false, Bool.false_eq_true] at hh <;> simp [trE] at he
        · cases hc
          simp only [vcDo, vcE] at hv
          exact hv.2
    · cases e
  · cases e
def trOne (P : Program) (n : Nat) (mt : Nat → Bool) (ops : Array Oper) (rec : Array Bool → Option OT) (listed : Array Bool) (i : Nat) : Option OT :=
  match ops[i]? with
  | some o => match trCO P n mt ops o, rec (listed.setIfInBounds i true) with
    | some c, some t => some (.op c t)
    | _, _ => none
  | none => none
def trAll (P : Program) (n : Nat) (mt : Nat → Bool) (ops : Array Oper) (rec : Array Bool → Option OT) (listed : Array Bool) : List Nat → Option OT
  | [] => none
  | [i] => trOne P n mt ops rec listed i
  | i :: r => match trOne P n mt ops rec listed i, trAll P n mt ops rec listed r with
    | some a, some b => some (.two a b)
    | _, _ => none
def trT (P : Program) (n : Nat) (mt : Nat → Bool) (ops : Array Oper) : Nat → Array Bool → Option OT
  | 0, listed => if (Region.ready .any ops listed).isEmpty then some .done else none
  | f + 1, listed => if (Region.ready .any ops listed).isEmpty then some .done else
    match (Region.ready .any ops listed).find? (fun i => (ops[i]?.map hoistB).getD false && Region.free .any ops listed i) with
    | some i => trOne P n mt ops (trT P n mt ops f) listed i
    | none => trAll P n mt ops (trT P n mt ops f) listed (Region.ready .any ops listed)

def QN (n : Nat) (M : Mem) (H : Heap) (w : World) (K : AS → Prop) (e : Exit) (a : Act) (w' : World) : Prop := e = .normal ∧ Fin n M H w K a w'
theorem trOne_sound {mt : Nat → Bool} {M0 : Mem} {H0 : Heap} {w0 : World} {K : AS → Prop} {rec : Array Bool → Option OT} {f : Nat}
    (ih : ∀ (listed : Array Bool) (t : OT) (S : AS) (M : Mem) (a : Act) (w : World), rec listed = some t → vcT P t S K → TRel n M S.T a.tmps → Rel M S.H w → a.defers = [] → Fr M0 H0 w0 M S.H w →
      wpAny P .any ops (QN n M0 H0 w0 K) f listed a w)
    {listed : Array Bool} {i : Nat} {t : OT} {S : AS} {M : Mem} {a : Act} {w : World} (e : trOne P n mt ops rec listed i = some t) (hv : vcT P t S K) (ht : TRel n M S.T a.tmps) (hr : Rel M S.H w) (hd : a.defers = []) (hf : Fr M0 H0 w0 M S.H w) :
    wpOp P ops (QN n M0 H0 w0 K) i (wpAny P .any ops (QN n M0 H0 w0 K) f (listed.setIfInBounds i true)) a w := by
  unfold trOne at e
  split at e
  · rename_i o ho
    split at e
    · rename_i c t' e1 e2
      cases e
      simp only [vcT] at hv
      have hop := vcOp_sound (K := fun S' => vcT P t' S' K) e1 hv ht hr hd (QN n M0 H0 w0 K)
      have hnext : ∀ a' w', Fin n M S.H w (fun S' => vcT P t' S' K) a' w' → wpAny P .any ops (QN n M0 H0 w0 K) f (listed.setIfInBounds i true) a' w' := by
        rintro a' w' ⟨M', S', k1, k2, k3, k4, k5⟩
        exact ih _ _ _ M' a' w' e2 k5 k1 k2 k3 (hf.trans k4)
      unfold wpOp
      rw [ho]
      simp only
      split
      · rename_i hw
        rw [if_pos hw] at hop
        exact .inl (Oper.wp_mono hnext hop)
      · rename_i hw
        rw [if_neg hw] at hop
        exact hnext _ _ hop
    · cases e
  · cases e
theorem trAll_sound {mt : Nat → Bool} {M0 : Mem} {H0 : Heap} {w0 : World} {K : AS → Prop} {rec : Array Bool → Option OT} {f : Nat}
    (ih : ∀ (listed : Array Bool) (t : OT) (S : AS) (M : Mem) (a : Act) (w : World), rec listed = some t → vcT P t S K → TRel n M S.T a.tmps → Rel M S.H w → a.defers = [] → Fr M0 H0 w0 M S.H w →
      wpAny P .any ops (QN n M0 H0 w0 K) f listed a w)
    {listed : Array Bool} {S : AS} {M : Mem} {a : Act} {w : World} (ht : TRel n M S.T a.tmps) (hr : Rel M S.H w) (hd : a.defers = []) (hf : Fr M0 H0 w0 M S.H w) :
    ∀ (l : List Nat) (t : OT), trAll P n mt ops rec listed l = some t → vcT P t S K → ∀ i ∈ l, wpOp P ops (QN n M0 H0 w0 K) i (wpAny P .any ops (QN n M0 H0 w0 K) f (listed.setIfInBounds i true)) a w
  | [], t, e, hv, i, hi => by cases hi
  | [j], t, e, hv, i, hi => by
    simp only [List.mem_singleton] at hi; subst hi
    exact trOne_sound ih e hv ht hr hd hf
  | j :: k :: r, t, e, hv, i, hi => by
    simp only [trAll] at e
    split at e
    · rename_i x y e1 e2
      cases e
      simp only [vcT] at hv
      rcases List.mem_cons.1 hi with rfl | hi
      · exact trOne_sound ih e1 hv.1 ht hr hd hf
      · exact trAll_sound ih ht hr hd hf (k :: r) y e2 hv.2 i hi
    · cases e
theorem trT_sound {mt : Nat → Bool} {M0 : Mem} {H0 : Heap} {w0 : World} {K : AS → Prop} (hs : Region.noSelect ops = true) : ∀ (f : Nat) (listed : Array Bool) (t : OT) (S : AS) (M : Mem) (a : Act) (w : World),
    trT P n mt ops f listed = some t → vcT P t S K → TRel n M S.T a.tmps → Rel M S.H w → a.defers = [] → Fr M0 H0 w0 M S.H w → wpAny P .any ops (QN n M0 H0 w0 K) f listed a w
  | 0, listed, t, S, M, a, w, e, hv, ht, hr, hd, hf => by
    simp only [trT] at e
    split at e
    · rename_i h
      cases e
      exact wpAny_done (by simpa using h) ⟨rfl, M, S, ht, hr, hd, hf, hv⟩ 0
    · cases e
  | f + 1, listed, t, S, M, a, w, e, hv, ht, hr, hd, hf => by
    simp only [trT] at e
    split at e
    · rename_i h
      cases e
      exact wpAny_done (by simpa using h) ⟨rfl, M, S, ht, hr, hd, hf, hv⟩ _
    · rename_i hne
      split at e
      · rename_i i hi
        have h1 := List.find?_some hi
        have h2 := List.mem_of_find?_eq_some hi
        simp only [Bool.and_eq_true] at h1
        unfold trOne at e
        split at e
        · rename_i o ho
          rw [ho] at h1
          simp only [Option.map_some, Option.getD_some] at h1
          split at e
          · rename_i c t' e1 e2
            cases e
            simp only [vcT] at hv
            obtain ⟨v, y, g1, g2, g3⟩ := hoist_sound h1.1 e1 ht hv
            refine wpAny_take ho hs h1.2 (by simpa using h2) (fun c a w hq => by cases hq.1) g2 ?_
            exact trT_sound hs f _ _ ⟨put S.T o.dst v, S.H⟩ M _ _ e2 g3 (ht.put o.dst g1) hr (put_defers hd _ _) hf
          · cases e
        · cases e
      · exact wpAny_all rfl (by simpa using hne) (trAll_sound (fun listed t S M a w => trT_sound hs f listed t S M a w) ht hr hd hf _ t e hv)
theorem any_sound {mt : Nat → Bool} {t : OT} {id : Nat} {S : AS} {Q : Exit → AS → Prop} (hm : P.follows .mixedOrders = true) (hs : Region.noSelect ops = true) (e : trT P n mt ops ops.size (Array.replicate ops.size false) = some t)
    (hv : vcT P t S (Q .normal)) : CT P n (.region id ops true) S Q := by
  have : CT P n (.region id ops true) S (fun e S' => e = .normal ∧ Q .normal S') := by
    intro M a w ht hr hd
    have h := trT_sound (K := fun S' => Q .normal S') hs ops.size _ t S M a { w with drawn := w.drawn + 1 } e hv ht (hr.drawn _) hd (Fr.drawn M S.H w _)
    exact wp_mono (wp_region_any (id := id) hm h) fun e a w f => f.2.mono fun S' hq => ⟨f.1, hq⟩
  exact this.mono fun e S' h => by obtain ⟨rfl, h⟩ := h; exact h
end
end Go.Sf
