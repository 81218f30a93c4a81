/- Stores: an object is put. -/
import Derived.Test.YtffifddlooligaaLU
set_option linter.unusedVariables false
set_option linter.unusedSimpArgs false
set_option maxRecDepth 100000
set_option maxHeartbeats 4000000
namespace Go.Sf
theorem ObjRel.one : ∀ {A : FileL} {r : List AV}, ObjRel r A → r.all AV.one = true
  | [], r, h => by simp only [ObjRel] at h; subst h; rfl
  | p :: A, r, h => by
    simp only [ObjRel] at h
    obtain ⟨b, r', rfl, h1, h2⟩ := h
    simp only [List.all_cons, on_str, h1.one, ObjRel.one h2, Bool.and_self]
theorem ObjRel.ins {name : ByteArray} {b : AV} {l : List UInt8} (k : IsB b l) : ∀ {A : FileL} {r : List AV} (i : Nat), ObjRel r A → i ≤ A.length → ObjRel (r.take (i * 2) ++ ([.str name, b] ++ r.drop (i * 2))) (A.take i ++ (name, l) :: A.drop i)
  | A, r, 0, h, _ => ⟨b, r, by simp, k, by simpa using h⟩
  | [], r, i + 1, h, hi => by simp at hi
  | p :: A, r, i + 1, h, hi => by
    simp only [ObjRel] at h
    obtain ⟨b', r', rfl, h1, h2⟩ := h
    refine ⟨b', r'.take (i * 2) ++ ([.str name, b] ++ r'.drop (i * 2)), ?_, h1, ObjRel.ins k i h2 (by simpa using hi)⟩
    rw [show (i + 1) * 2 = i * 2 + 2 by omega]
    simp
theorem ObjRel.del : ∀ {A : FileL} {r : List AV} (i : Nat), ObjRel r A → i < A.length → ObjRel (r.take (i * 2) ++ r.drop ((i + 1) * 2)) (A.eraseIdx i)
  | [], r, i, h, hi => by simp at hi
  | p :: A, r, 0, h, _ => by
    simp only [ObjRel] at h
    obtain ⟨b', r', rfl, h1, h2⟩ := h
    simpa using h2
  | p :: A, r, i + 1, h, hi => by
    simp only [ObjRel] at h
    obtain ⟨b', r', rfl, h1, h2⟩ := h
    refine ⟨b', r'.take (i * 2) ++ r'.drop ((i + 1) * 2), ?_, h1, ObjRel.del i h2 (by simpa using hi)⟩
    rw [show (i + 1) * 2 = i * 2 + 2 by omega, show (i + 1 + 1) * 2 = (i + 1) * 2 + 2 by omega]
    simp [show (i + 1) * 2 = i * 2 + 2 by omega]
def insO (A : FileL) (i : Nat) (p : ByteArray × List UInt8) : FileL := A.take i ++ p :: A.drop i
theorem findO_le (name : ByteArray) (A : FileL) : (findO name A).1 ≤ A.length := by
  unfold findO; exact (List.takeWhile_prefix _).length_le
theorem findO_there {name : ByteArray} {A : FileL} (h : (findO name A).2 = true) : ∃ p, A[(findO name A).1]? = some p ∧ cmpS p.1 name = 0 := by
  unfold findO at *
  simp only at *
  split at h
  · rename_i p hp; exact ⟨p, hp, by simpa using h⟩
  · cases h
end Go.Sf
namespace Go.Proofs.Ytffifddlooligaa
open Go.Sf
attribute [local simp] s_skip s_ops s_draw s_any s_contA s_tdone s_ttwo s_top_p s_top_pick s_top_e s_top_g s_seq s_cond s_block s_loop s_exit s_ret s_mark s_then_n s_then_e s_then_r s_in_n s_in_e s_in_r s_contC s_contO s_contQ s_contT s_nil s_cons_p s_cons_pick s_cons_e s_cons_g s_qnil s_qcons_p s_qcons_pick s_qcons_e s_qcons_g s_M s_Mg s_Mq s_Mqg s_G_p s_G_pick s_G_e s_Gq_p s_Gq_pick s_Gq_e s_if s_call s_callv s_qcall s_qcallv s_getAll_nil s_getAll_cons s_put_some s_put_none s_ev_t s_ev_c s_ev_f un evP evK argT resAV lenOf_nils lenOf_imm lenOf_sl lenOf_str optI slcV binV isShift binInt binStr shiftInt pickV unV s_append s_alloc s_box s_bslice s_Bs_t s_Bs_f s_store1 s_storeN s_St1 s_St s_s2b s_markb s_Mk s_mkslice s_qbslice s_qs2b s_ret_n s_ret_r s_retc_n s_retc_r s_RV_nil s_RV_t s_RV_c s_RV1 tupOf fillC kn_int cl_int on_int kn_bool cl_bool on_bool kn_str cl_str on_str kn_nilp cl_nilp on_nilp kn_ptr cl_ptr on_ptr kn_iptr cl_iptr on_iptr kn_nils cl_nils on_nils kn_sl cl_sl on_sl kn_imm cl_imm on_imm kn_mp cl_mp on_mp kn_nilm cl_nilm on_nilm kn_fn cl_fn on_fn kn_nilf cl_nilf on_nilf kn_agg cl_agg scalEq flatEq eqV s_copy_i s_copy_s s_Cp s_clr s_clrn s_Cl s_appz s_Az s_ext s_Ov s_mapB s_mapBS s_rng s_rngn s_Rn s_nxt s_Nx0 s_ent s_mkmap s_mset s_mdel mapOf s_Mg_n s_Mqg_n s_gw_b s_gw_u s_gw_gb s_gw_f
theorem k_eqA {H : Heap} {b : AV} {l : List UInt8} (hb : BArg H b l) {u : AV} {m : List UInt8} (hu : IsB u m) : CC PP F_bytes_Equal [u, b] H fun v H' => H' = H ∧ v = .bool (decide (m = l)) := by
  rcases hb with hb | ⟨x, c, rfl, hx⟩
  · exact CP.use (p_bytesEqual hu hb) fun v hv => ⟨rfl, hv⟩
  · have hcells : cellsOf H 1 (.sl x 0 l.length c) = some (bytesV l) := by
      simp only [cellsOf, hx]
      by_cases h0 : l.length = 0
      · rw [if_pos h0, List.length_eq_zero_iff.1 h0]; rfl
      · rw [if_neg h0, if_pos (by rw [bytesV_length]; omega), List.drop_zero, List.take_of_length_le (by rw [bytesV_length]; omega)]
    have q : (({ data := m.toArray } : ByteArray) = { data := l.toArray }) ↔ m = l := by
      constructor
      · intro h; have := congrArg (fun x : ByteArray => x.data.toList) h; simpa using this
      · rintro rfl; rfl
    refine CC.by_vc ok_bytes_Equal (by simp) ?_
    unfold c_bytes_Equal
    rcases hu with ⟨rfl, rfl⟩ | ⟨d, rfl⟩
    · simp [cellsOf_nils, toBytes, hcells, bytesV_toBytes, q]
    · simp [cellsOf_imm, toBytes, immB, bytesV_length, hcells, bytesV_toBytes, q]
theorem BArg.len {H : Heap} {b : AV} {l : List UInt8} (hb : BArg H b l) : lenOf b = some l.length := by
  rcases hb with hb | ⟨x, c, rfl, hx⟩
  · exact hb.len
  · rfl
theorem BArg.un {H : Heap} {b : AV} {l : List UInt8} (hb : BArg H b l) : Sf.un b = (True, b) := by
  rcases hb with hb | ⟨x, c, rfl, hx⟩
  · exact hb.un
  · rfl
def putR (name : ByteArray) (l : List UInt8) (fail : Bool) (A : FileL) (room : Int) : Nat :=
  if (findO name A).2 then (match A[(findO name A).1]? with | some p => if p.2 = l then 0 else 6 | none => 6)
  else if 0 < room ∧ room - totL A < l.length then 4 else if fail then 5 else 0
def putA (name : ByteArray) (l : List UInt8) (fail : Bool) (A : FileL) (room : Int) : FileL :=
  if (findO name A).2 then A else if 0 < room ∧ room - totL A < l.length then A else if fail then A else insO A (findO name A).1 (name, l)
theorem k_storePut {H : Heap} {s : Nat} {v : AV} {A : FileL} {room : Int} (hS : StoreQ H s v A room) (hr0 : 0 ≤ room) (hr1 : room < 2 ^ 62) {name : ByteArray} (hn0 : name ≠ ⟨#[]⟩) (hn : name.size ≤ 40) {b : AV} {l : List UInt8} (hb : BArg H b l) (hl : l.length ≤ 65536) (hm : MonoO name A) (hA : A.length < 2 ^ 20) (ht : totL A ≤ 2 ^ 40) (fail : Bool) :
    CC PP F_store_Store_Put [.ptr s 0, .str name, b, .bool fail] H fun r H' => r = .int .i64 (putR name l fail A room) ∧ ∃ v', StoreQ H' s v' (putA name l fail A room) room ∧ (∀ x, blkOf v' = some x → H x = none ∨ blkOf v = some x) ∧ ∀ x, x ≠ s → blkOf v ≠ some x → H x ≠ none → H' x = H x := by
  have hS' := hS
  obtain ⟨hs, ⟨cs, ho, hO⟩, ne⟩ := hS
  have h40 : ¬ (40 : Int) < name.size := by omega
  have hcl := k_cloneA hb (by omega)
  have hun := ho.un
  have hbu := hb.un
  have hfind := k_find hS' name hm (by omega)
  have hused := k_used hS' (by omega) ht
  have hone := hO.one
  have hfl := findO_le name A
  have same : ∃ v', StoreQ H s v' A room ∧ (∀ x, blkOf v' = some x → H x = none ∨ blkOf v = some x) ∧ ∀ x, x ≠ s → blkOf v ≠ some x → H x ≠ none → H x = H x := ⟨v, hS', fun x hx => .inr hx, fun _ _ _ _ => rfl⟩
  have ins : ∀ u, IsB u l → CC PP F_slices_Insert_store_object_store_object [v, .int .i64 (findO name A).1, .imm [.str name, u] 1 (some 1)] H fun v' H' => H' s = some (.cells [v, .int .i64 room] 2) ∧ AV.one v' = true ∧ un v' = (True, v') ∧
      ∃ v'', StoreQ (H'.set s (some (.cells [v', .int .i64 room] 2))) s v'' (insO A (findO name A).1 (name, l)) room ∧ (∀ x, blkOf v'' = some x → H x = none ∨ blkOf v = some x) ∧ ∀ x, x ≠ s → blkOf v ≠ some x → H x ≠ none → (H'.set s (some (.cells [v', .int .i64 room] 2))) x = H x := fun u hu =>
    (k_insO ho hone (x := [.str name, u]) rfl (by simp only [List.all_cons, List.all_nil, on_str, hu.one, Bool.and_self]) hfl (by omega)).mono fun v' H' ⟨h1, h2, h3⟩ => by
      have hvs : blkOf v' ≠ some s := fun h => by
        rcases h3 s h with h | h
        · rw [hs] at h; cases h
        · exact ne h
      refine ⟨by rw [h2 s ne (by rw [hs]; simp)]; exact hs, h1.one, h1.un, v', ⟨Heap.set_self _ _ _, ⟨_, ?_, hO.ins hu _ hfl⟩, hvs⟩, h3, fun x x1 x2 x3 => ?_⟩
      · have hlen : (A.take (findO name A).1 ++ (name, l) :: A.drop (findO name A).1).length = A.length + 1 := by simp; omega
        unfold insO
        rw [hlen]
        exact h1.keep2 fun x hx => Heap.set_ne _ _ (fun h => hvs (by rw [← h]; exact hx))
      · rw [Heap.set_ne _ _ x1, h2 x x2 x3]
  refine CC.by_vc ok_store_Store_Put (by simp) ?_
  unfold c_store_Store_Put
  have hb' := hb
  have hlen := hb.len
  have hl2 : ¬ (65536 : Int) < l.length := by omega
  have hvv := ho.2
  rcases hb with (⟨rfl, h0⟩ | ⟨c, rfl⟩) | ⟨x, c, rfl, hx⟩
  · subst h0
    simp [hn0, h40]
    refine CallK.of hfind ?_
    rintro _ H' ⟨rfl, rfl⟩
    rcases hvv with ⟨rfl, hA0⟩ | ⟨bv, cv, rfl, hbv, hcv⟩
    · cases hth : (findO name A).2 with
      | true =>
        obtain ⟨p, hp, hcmp⟩ := findO_there hth
        have hpi : (findO name A).1 < A.length := (List.getElem?_eq_some_iff.1 hp).1
        omega
      | false =>
        have hR : putR name ([] : List UInt8) fail A room = if 0 < room ∧ room - totL A < ([] : List UInt8).length then 4 else if fail then 5 else 0 := by unfold putR; rw [if_neg (by rw [hth]; simp)]
        have hP : putA name ([] : List UInt8) fail A room = if 0 < room ∧ room - totL A < ([] : List UInt8).length then A else if fail then A else insO A (findO name A).1 (name, ([] : List UInt8)) := by unfold putA; rw [if_neg (by rw [hth]; simp)]
        rw [hR, hP]
        cases hld : cs[(findO name A).1 * 2 + 1]?
        all_goals
          by_cases hroom : 0 < room
          · simp [hth, hs, hroom]
            refine ⟨_, CallQ.ofH (hused.mono fun r H' h => ⟨h.2, h.1⟩) rfl, ?_⟩
            have w1 : IntKind.i64.wrap (room - (totL A : Int)) = room - totL A := wrap_i64 (by omega) (by omega)
            simp [hth, hs, w1]
            refine ⟨fun hful => ?_, fun hful => ?_⟩
            · simp [hful]
              exact ⟨_, hS', fun x hx => .inr hx⟩
            · simp [show ¬ room - (totL A : Int) < 0 by omega]
              refine ⟨fun hf => ?_, fun hf => ?_⟩
              · simp [hf]
                exact ⟨_, hS', fun x hx => .inr hx⟩
              · simp [hf]
                refine ⟨?_, ?_⟩
                · refine CallK.of hcl ?_
                  rintro u H9 ⟨rfl, hu⟩
                  simp [hu.un, hu.known, hu.cellsL, hs]
                  refine CallK.of (ins u hu) ?_
                  rintro v' H2 ⟨q1, q2, q3, q4⟩
                  simp [q1, q2, q3]
                  exact q4
                · refine CallK.of hcl ?_
                  rintro u H9 ⟨rfl, hu⟩
                  simp [hu.un, hu.known, hu.cellsL, hs]
                  refine ⟨?_, ?_, ?_⟩
                  all_goals
                    refine CallK.of (ins u hu) ?_
                    rintro v' H2 ⟨q1, q2, q3, q4⟩
                    simp [q1, q2, q3]
                    exact q4
          · simp [hth, hs, hroom]
            refine ⟨.int .i64 0, ?_⟩
            simp [hth, hs, hroom]
            refine ⟨fun hf => ?_, fun hf => ?_⟩
            · simp [hf]
              exact ⟨_, hS', fun x hx => .inr hx⟩
            · simp [hf]
              refine ⟨?_, ?_⟩
              · refine CallK.of hcl ?_
                rintro u H9 ⟨rfl, hu⟩
                simp [hu.un, hu.known, hu.cellsL, hs]
                refine CallK.of (ins u hu) ?_
                rintro v' H2 ⟨q1, q2, q3, q4⟩
                simp [q1, q2, q3]
                exact q4
              · refine CallK.of hcl ?_
                rintro u H9 ⟨rfl, hu⟩
                simp [hu.un, hu.known, hu.cellsL, hs]
                refine ⟨?_, ?_, ?_⟩
                all_goals
                  refine CallK.of (ins u hu) ?_
                  rintro v' H2 ⟨q1, q2, q3, q4⟩
                  simp [q1, q2, q3]
                  exact q4
    · cases hth : (findO name A).2 with
      | true =>
        obtain ⟨p, hp, hcmp⟩ := findO_there hth
        obtain ⟨u, hu1, hu2, hu3⟩ := hO.at hp
        have hpi : (findO name A).1 < A.length := (List.getElem?_eq_some_iff.1 hp).1
        have hload : cs[(findO name A).1 * 2 + 1]? = some u := by
          have := congrArg (fun l : List AV => l[1]?) hu1
          simp only [List.getElem?_take, List.getElem?_drop] at this
          simpa using this
        have hR : putR name ([] : List UInt8) fail A room = if p.2 = ([] : List UInt8) then 0 else 6 := by unfold putR; rw [if_pos hth, hp]
        have hP : putA name ([] : List UInt8) fail A room = A := by unfold putA; rw [if_pos hth]
        rw [hR, hP]
        simp [hth, hs, hpi, hbv, hload, hu2.un]
        refine CallK.of (k_eqA hb' hu2) ?_
        rintro _ H2 ⟨rfl, rfl⟩
        by_cases hpe : p.2 = ([] : List UInt8)
        · simp [hpe, hth]
          exact ⟨_, hS', fun x hx => .inr hx⟩
        · simp [hpe, hth]
          exact ⟨_, hS', fun x hx => .inr hx⟩
      | false =>
        have hR : putR name ([] : List UInt8) fail A room = if 0 < room ∧ room - totL A < ([] : List UInt8).length then 4 else if fail then 5 else 0 := by unfold putR; rw [if_neg (by rw [hth]; simp)]
        have hP : putA name ([] : List UInt8) fail A room = if 0 < room ∧ room - totL A < ([] : List UInt8).length then A else if fail then A else insO A (findO name A).1 (name, ([] : List UInt8)) := by unfold putA; rw [if_neg (by rw [hth]; simp)]
        rw [hR, hP]
        cases hld : cs[(findO name A).1 * 2 + 1]?
        all_goals
          by_cases hroom : 0 < room
          · simp [hth, hs, hroom, hbv, hld]
            refine ⟨_, CallQ.ofH (hused.mono fun r H' h => ⟨h.2, h.1⟩) rfl, ?_⟩
            have w1 : IntKind.i64.wrap (room - (totL A : Int)) = room - totL A := wrap_i64 (by omega) (by omega)
            simp [hth, hs, w1, hbv, hld]
            refine ⟨fun hful => ?_, fun hful => ?_⟩
            · simp [hful]
              exact ⟨_, hS', fun x hx => .inr hx⟩
            · simp [show ¬ room - (totL A : Int) < 0 by omega]
              refine ⟨fun hf => ?_, fun hf => ?_⟩
              · simp [hf]
                exact ⟨_, hS', fun x hx => .inr hx⟩
              · simp [hf]
                refine ⟨?_, ?_⟩
                · refine CallK.of hcl ?_
                  rintro u H9 ⟨rfl, hu⟩
                  simp [hu.un, hu.known, hu.cellsL, hs]
                  refine CallK.of (ins u hu) ?_
                  rintro v' H2 ⟨q1, q2, q3, q4⟩
                  simp [q1, q2, q3]
                  exact q4
                · refine CallK.of hcl ?_
                  rintro u H9 ⟨rfl, hu⟩
                  simp [hu.un, hu.known, hu.cellsL, hs]
                  refine ⟨?_, ?_, ?_⟩
                  all_goals
                    refine CallK.of (ins u hu) ?_
                    rintro v' H2 ⟨q1, q2, q3, q4⟩
                    simp [q1, q2, q3]
                    exact q4
          · simp [hth, hs, hroom, hbv, hld]
            refine ⟨.int .i64 0, ?_⟩
            simp [hth, hs, hroom, hbv, hld]
            refine ⟨fun hf => ?_, fun hf => ?_⟩
            · simp [hf]
              exact ⟨_, hS', fun x hx => .inr hx⟩
            · simp [hf]
              refine ⟨?_, ?_⟩
              · refine CallK.of hcl ?_
                rintro u H9 ⟨rfl, hu⟩
                simp [hu.un, hu.known, hu.cellsL, hs]
                refine CallK.of (ins u hu) ?_
                rintro v' H2 ⟨q1, q2, q3, q4⟩
                simp [q1, q2, q3]
                exact q4
              · refine CallK.of hcl ?_
                rintro u H9 ⟨rfl, hu⟩
                simp [hu.un, hu.known, hu.cellsL, hs]
                refine ⟨?_, ?_, ?_⟩
                all_goals
                  refine CallK.of (ins u hu) ?_
                  rintro v' H2 ⟨q1, q2, q3, q4⟩
                  simp [q1, q2, q3]
                  exact q4
  · simp [hn0, h40, immB, hl2]
    refine CallK.of hfind ?_
    rintro _ H' ⟨rfl, rfl⟩
    rcases hvv with ⟨rfl, hA0⟩ | ⟨bv, cv, rfl, hbv, hcv⟩
    · cases hth : (findO name A).2 with
      | true =>
        obtain ⟨p, hp, hcmp⟩ := findO_there hth
        have hpi : (findO name A).1 < A.length := (List.getElem?_eq_some_iff.1 hp).1
        omega
      | false =>
        have hR : putR name l fail A room = if 0 < room ∧ room - totL A < l.length then 4 else if fail then 5 else 0 := by unfold putR; rw [if_neg (by rw [hth]; simp)]
        have hP : putA name l fail A room = if 0 < room ∧ room - totL A < l.length then A else if fail then A else insO A (findO name A).1 (name, l) := by unfold putA; rw [if_neg (by rw [hth]; simp)]
        rw [hR, hP]
        cases hld : cs[(findO name A).1 * 2 + 1]?
        all_goals
          by_cases hroom : 0 < room
          · simp [hth, hs, hroom, immB]
            refine ⟨_, CallQ.ofH (hused.mono fun r H' h => ⟨h.2, h.1⟩) rfl, ?_⟩
            have w1 : IntKind.i64.wrap (room - (totL A : Int)) = room - totL A := wrap_i64 (by omega) (by omega)
            simp [hth, hs, w1, immB]
            refine ⟨fun hful => ?_, fun hful => ?_⟩
            · simp [hful]
              exact ⟨_, hS', fun x hx => .inr hx⟩
            · simp [show ¬ room - (totL A : Int) < (l.length : Int) by omega]
              refine ⟨fun hf => ?_, fun hf => ?_⟩
              · simp [hf]
                exact ⟨_, hS', fun x hx => .inr hx⟩
              · simp [hf]
                refine ⟨?_, ?_⟩
                · refine CallK.of hcl ?_
                  rintro u H9 ⟨rfl, hu⟩
                  simp [hu.un, hu.known, hu.cellsL, hs]
                  refine CallK.of (ins u hu) ?_
                  rintro v' H2 ⟨q1, q2, q3, q4⟩
                  simp [q1, q2, q3]
                  exact q4
                · refine CallK.of hcl ?_
                  rintro u H9 ⟨rfl, hu⟩
                  simp [hu.un, hu.known, hu.cellsL, hs]
                  refine ⟨?_, ?_, ?_⟩
                  all_goals
                    refine CallK.of (ins u hu) ?_
                    rintro v' H2 ⟨q1, q2, q3, q4⟩
                    simp [q1, q2, q3]
                    exact q4
          · simp [hth, hs, hroom, immB]
            refine ⟨.int .i64 0, ?_⟩
            simp [hth, hs, hroom, immB]
            refine ⟨fun hf => ?_, fun hf => ?_⟩
            · simp [hf]
              exact ⟨_, hS', fun x hx => .inr hx⟩
            · simp [hf]
              refine ⟨?_, ?_⟩
              · refine CallK.of hcl ?_
                rintro u H9 ⟨rfl, hu⟩
                simp [hu.un, hu.known, hu.cellsL, hs]
                refine CallK.of (ins u hu) ?_
                rintro v' H2 ⟨q1, q2, q3, q4⟩
                simp [q1, q2, q3]
                exact q4
              · refine CallK.of hcl ?_
                rintro u H9 ⟨rfl, hu⟩
                simp [hu.un, hu.known, hu.cellsL, hs]
                refine ⟨?_, ?_, ?_⟩
                all_goals
                  refine CallK.of (ins u hu) ?_
                  rintro v' H2 ⟨q1, q2, q3, q4⟩
                  simp [q1, q2, q3]
                  exact q4
    · cases hth : (findO name A).2 with
      | true =>
        obtain ⟨p, hp, hcmp⟩ := findO_there hth
        obtain ⟨u, hu1, hu2, hu3⟩ := hO.at hp
        have hpi : (findO name A).1 < A.length := (List.getElem?_eq_some_iff.1 hp).1
        have hload : cs[(findO name A).1 * 2 + 1]? = some u := by
          have := congrArg (fun l : List AV => l[1]?) hu1
          simp only [List.getElem?_take, List.getElem?_drop] at this
          simpa using this
        have hR : putR name l fail A room = if p.2 = l then 0 else 6 := by unfold putR; rw [if_pos hth, hp]
        have hP : putA name l fail A room = A := by unfold putA; rw [if_pos hth]
        rw [hR, hP]
        simp [hth, hs, hpi, hbv, hload, hu2.un, immB]
        refine CallK.of (k_eqA hb' hu2) ?_
        rintro _ H2 ⟨rfl, rfl⟩
        by_cases hpe : p.2 = l
        · simp [hpe, hth]
          exact ⟨_, hS', fun x hx => .inr hx⟩
        · simp [hpe, hth]
          exact ⟨_, hS', fun x hx => .inr hx⟩
      | false =>
        have hR : putR name l fail A room = if 0 < room ∧ room - totL A < l.length then 4 else if fail then 5 else 0 := by unfold putR; rw [if_neg (by rw [hth]; simp)]
        have hP : putA name l fail A room = if 0 < room ∧ room - totL A < l.length then A else if fail then A else insO A (findO name A).1 (name, l) := by unfold putA; rw [if_neg (by rw [hth]; simp)]
        rw [hR, hP]
        cases hld : cs[(findO name A).1 * 2 + 1]?
        all_goals
          by_cases hroom : 0 < room
          · simp [hth, hs, hroom, hbv, hld, immB]
            refine ⟨_, CallQ.ofH (hused.mono fun r H' h => ⟨h.2, h.1⟩) rfl, ?_⟩
            have w1 : IntKind.i64.wrap (room - (totL A : Int)) = room - totL A := wrap_i64 (by omega) (by omega)
            simp [hth, hs, w1, hbv, hld, immB]
            refine ⟨fun hful => ?_, fun hful => ?_⟩
            · simp [hful]
              exact ⟨_, hS', fun x hx => .inr hx⟩
            · simp [show ¬ room - (totL A : Int) < (l.length : Int) by omega]
              refine ⟨fun hf => ?_, fun hf => ?_⟩
              · simp [hf]
                exact ⟨_, hS', fun x hx => .inr hx⟩
              · simp [hf]
                refine ⟨?_, ?_⟩
                · refine CallK.of hcl ?_
                  rintro u H9 ⟨rfl, hu⟩
                  simp [hu.un, hu.known, hu.cellsL, hs]
                  refine CallK.of (ins u hu) ?_
                  rintro v' H2 ⟨q1, q2, q3, q4⟩
                  simp [q1, q2, q3]
                  exact q4
                · refine CallK.of hcl ?_
                  rintro u H9 ⟨rfl, hu⟩
                  simp [hu.un, hu.known, hu.cellsL, hs]
                  refine ⟨?_, ?_, ?_⟩
                  all_goals
                    refine CallK.of (ins u hu) ?_
                    rintro v' H2 ⟨q1, q2, q3, q4⟩
                    simp [q1, q2, q3]
                    exact q4
          · simp [hth, hs, hroom, hbv, hld, immB]
            refine ⟨.int .i64 0, ?_⟩
            simp [hth, hs, hroom, hbv, hld, immB]
            refine ⟨fun hf => ?_, fun hf => ?_⟩
            · simp [hf]
              exact ⟨_, hS', fun x hx => .inr hx⟩
            · simp [hf]
              refine ⟨?_, ?_⟩
              · refine CallK.of hcl ?_
                rintro u H9 ⟨rfl, hu⟩
                simp [hu.un, hu.known, hu.cellsL, hs]
                refine CallK.of (ins u hu) ?_
                rintro v' H2 ⟨q1, q2, q3, q4⟩
                simp [q1, q2, q3]
                exact q4
              · refine CallK.of hcl ?_
                rintro u H9 ⟨rfl, hu⟩
                simp [hu.un, hu.known, hu.cellsL, hs]
                refine ⟨?_, ?_, ?_⟩
                all_goals
                  refine CallK.of (ins u hu) ?_
                  rintro v' H2 ⟨q1, q2, q3, q4⟩
                  simp [q1, q2, q3]
                  exact q4
  · simp [hn0, h40, hl2]
    refine CallK.of hfind ?_
    rintro _ H' ⟨rfl, rfl⟩
    rcases hvv with ⟨rfl, hA0⟩ | ⟨bv, cv, rfl, hbv, hcv⟩
    · cases hth : (findO name A).2 with
      | true =>
        obtain ⟨p, hp, hcmp⟩ := findO_there hth
        have hpi : (findO name A).1 < A.length := (List.getElem?_eq_some_iff.1 hp).1
        omega
      | false =>
        have hR : putR name l fail A room = if 0 < room ∧ room - totL A < l.length then 4 else if fail then 5 else 0 := by unfold putR; rw [if_neg (by rw [hth]; simp)]
        have hP : putA name l fail A room = if 0 < room ∧ room - totL A < l.length then A else if fail then A else insO A (findO name A).1 (name, l) := by unfold putA; rw [if_neg (by rw [hth]; simp)]
        rw [hR, hP]
        cases hld : cs[(findO name A).1 * 2 + 1]?
        all_goals
          by_cases hroom : 0 < room
          · simp [hth, hs, hroom]
            refine ⟨_, CallQ.ofH (hused.mono fun r H' h => ⟨h.2, h.1⟩) rfl, ?_⟩
            have w1 : IntKind.i64.wrap (room - (totL A : Int)) = room - totL A := wrap_i64 (by omega) (by omega)
            simp [hth, hs, w1]
            refine ⟨fun hful => ?_, fun hful => ?_⟩
            · simp [hful]
              exact ⟨_, hS', fun x hx => .inr hx⟩
            · simp [show ¬ room - (totL A : Int) < (l.length : Int) by omega]
              refine ⟨fun hf => ?_, fun hf => ?_⟩
              · simp [hf]
                exact ⟨_, hS', fun x hx => .inr hx⟩
              · simp [hf]
                refine ⟨?_, ?_⟩
                · refine CallK.of hcl ?_
                  rintro u H9 ⟨rfl, hu⟩
                  simp [hu.un, hu.known, hu.cellsL, hs]
                  refine CallK.of (ins u hu) ?_
                  rintro v' H2 ⟨q1, q2, q3, q4⟩
                  simp [q1, q2, q3]
                  exact q4
                · refine CallK.of hcl ?_
                  rintro u H9 ⟨rfl, hu⟩
                  simp [hu.un, hu.known, hu.cellsL, hs]
                  refine ⟨?_, ?_, ?_⟩
                  all_goals
                    refine CallK.of (ins u hu) ?_
                    rintro v' H2 ⟨q1, q2, q3, q4⟩
                    simp [q1, q2, q3]
                    exact q4
          · simp [hth, hs, hroom]
            refine ⟨.int .i64 0, ?_⟩
            simp [hth, hs, hroom]
            refine ⟨fun hf => ?_, fun hf => ?_⟩
            · simp [hf]
              exact ⟨_, hS', fun x hx => .inr hx⟩
            · simp [hf]
              refine ⟨?_, ?_⟩
              · refine CallK.of hcl ?_
                rintro u H9 ⟨rfl, hu⟩
                simp [hu.un, hu.known, hu.cellsL, hs]
                refine CallK.of (ins u hu) ?_
                rintro v' H2 ⟨q1, q2, q3, q4⟩
                simp [q1, q2, q3]
                exact q4
              · refine CallK.of hcl ?_
                rintro u H9 ⟨rfl, hu⟩
                simp [hu.un, hu.known, hu.cellsL, hs]
                refine ⟨?_, ?_, ?_⟩
                all_goals
                  refine CallK.of (ins u hu) ?_
                  rintro v' H2 ⟨q1, q2, q3, q4⟩
                  simp [q1, q2, q3]
                  exact q4
    · cases hth : (findO name A).2 with
      | true =>
        obtain ⟨p, hp, hcmp⟩ := findO_there hth
        obtain ⟨u, hu1, hu2, hu3⟩ := hO.at hp
        have hpi : (findO name A).1 < A.length := (List.getElem?_eq_some_iff.1 hp).1
        have hload : cs[(findO name A).1 * 2 + 1]? = some u := by
          have := congrArg (fun l : List AV => l[1]?) hu1
          simp only [List.getElem?_take, List.getElem?_drop] at this
          simpa using this
        have hR : putR name l fail A room = if p.2 = l then 0 else 6 := by unfold putR; rw [if_pos hth, hp]
        have hP : putA name l fail A room = A := by unfold putA; rw [if_pos hth]
        rw [hR, hP]
        simp [hth, hs, hpi, hbv, hload, hu2.un]
        refine CallK.of (k_eqA hb' hu2) ?_
        rintro _ H2 ⟨rfl, rfl⟩
        by_cases hpe : p.2 = l
        · simp [hpe, hth]
          exact ⟨_, hS', fun x hx => .inr hx⟩
        · simp [hpe, hth]
          exact ⟨_, hS', fun x hx => .inr hx⟩
      | false =>
        have hR : putR name l fail A room = if 0 < room ∧ room - totL A < l.length then 4 else if fail then 5 else 0 := by unfold putR; rw [if_neg (by rw [hth]; simp)]
        have hP : putA name l fail A room = if 0 < room ∧ room - totL A < l.length then A else if fail then A else insO A (findO name A).1 (name, l) := by unfold putA; rw [if_neg (by rw [hth]; simp)]
        rw [hR, hP]
        cases hld : cs[(findO name A).1 * 2 + 1]?
        all_goals
          by_cases hroom : 0 < room
          · simp [hth, hs, hroom, hbv, hld]
            refine ⟨_, CallQ.ofH (hused.mono fun r H' h => ⟨h.2, h.1⟩) rfl, ?_⟩
            have w1 : IntKind.i64.wrap (room - (totL A : Int)) = room - totL A := wrap_i64 (by omega) (by omega)
            simp [hth, hs, w1, hbv, hld]
            refine ⟨fun hful => ?_, fun hful => ?_⟩
            · simp [hful]
              exact ⟨_, hS', fun x hx => .inr hx⟩
            · simp [show ¬ room - (totL A : Int) < (l.length : Int) by omega]
              refine ⟨fun hf => ?_, fun hf => ?_⟩
              · simp [hf]
                exact ⟨_, hS', fun x hx => .inr hx⟩
              · simp [hf]
                refine ⟨?_, ?_⟩
                · refine CallK.of hcl ?_
                  rintro u H9 ⟨rfl, hu⟩
                  simp [hu.un, hu.known, hu.cellsL, hs]
                  refine CallK.of (ins u hu) ?_
                  rintro v' H2 ⟨q1, q2, q3, q4⟩
                  simp [q1, q2, q3]
                  exact q4
                · refine CallK.of hcl ?_
                  rintro u H9 ⟨rfl, hu⟩
                  simp [hu.un, hu.known, hu.cellsL, hs]
                  refine ⟨?_, ?_, ?_⟩
                  all_goals
                    refine CallK.of (ins u hu) ?_
                    rintro v' H2 ⟨q1, q2, q3, q4⟩
                    simp [q1, q2, q3]
                    exact q4
          · simp [hth, hs, hroom, hbv, hld]
            refine ⟨.int .i64 0, ?_⟩
            simp [hth, hs, hroom, hbv, hld]
            refine ⟨fun hf => ?_, fun hf => ?_⟩
            · simp [hf]
              exact ⟨_, hS', fun x hx => .inr hx⟩
            · simp [hf]
              refine ⟨?_, ?_⟩
              · refine CallK.of hcl ?_
                rintro u H9 ⟨rfl, hu⟩
                simp [hu.un, hu.known, hu.cellsL, hs]
                refine CallK.of (ins u hu) ?_
                rintro v' H2 ⟨q1, q2, q3, q4⟩
                simp [q1, q2, q3]
                exact q4
              · refine CallK.of hcl ?_
                rintro u H9 ⟨rfl, hu⟩
                simp [hu.un, hu.known, hu.cellsL, hs]
                refine ⟨?_, ?_, ?_⟩
                all_goals
                  refine CallK.of (ins u hu) ?_
                  rintro v' H2 ⟨q1, q2, q3, q4⟩
                  simp [q1, q2, q3]
                  exact q4
end Go.Proofs.Ytffifddlooligaa
