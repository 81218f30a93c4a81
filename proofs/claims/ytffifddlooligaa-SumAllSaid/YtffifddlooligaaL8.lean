/- Numbers one behind the other. -/
import Derived.Test.YtffifddlooligaaL3
set_option linter.unusedVariables false
set_option linter.unusedSimpArgs false
set_option maxRecDepth 100000
namespace Go.Sf
def encN (l : List Int) : List UInt8 := l.flatMap fun z => enc z.toNat
def encZ (l : List Int) : List UInt8 := l.flatMap fun z => enc (zig z)
theorem flat_len {f : Int → List UInt8} : ∀ (l : List Int), (∀ z ∈ l, (f z).length ≤ 10) → (l.flatMap f).length ≤ 10 * l.length
  | [], _ => by simp
  | z :: l, h => by
    have h1 := h z (by simp)
    have h2 := flat_len l fun y hy => h y (by simp [hy])
    simp only [List.flatMap_cons, List.length_append, List.length_cons]; omega
theorem encN_len {l : List Int} (h : ∀ z ∈ l, 0 ≤ z ∧ z < 18446744073709551616) : (encN l).length ≤ 10 * l.length := flat_len l fun z hz => enc_len64 (by have := h z hz; omega)
theorem encZ_len {l : List Int} (h : ∀ z ∈ l, -9223372036854775808 ≤ z ∧ z < 9223372036854775808) : (encZ l).length ≤ 10 * l.length := flat_len l fun z hz => enc_len64 (zig_lt (h z hz).1 (h z hz).2)
theorem encN_take {l : List Int} {j : Nat} (h : j < l.length) : encN (l.take (j + 1)) = encN (l.take j) ++ enc l[j].toNat := by
  unfold encN; rw [← List.take_append_getElem h, List.flatMap_append]; simp
theorem encZ_take {l : List Int} {j : Nat} (h : j < l.length) : encZ (l.take (j + 1)) = encZ (l.take j) ++ enc (zig l[j]) := by
  unfold encZ; rw [← List.take_append_getElem h, List.flatMap_append]; simp
theorem encN_drop {l : List Int} {j : Nat} (h : j < l.length) : encN (l.drop j) = enc l[j].toNat ++ encN (l.drop (j + 1)) := by
  unfold encN; rw [List.drop_eq_getElem_cons h, List.flatMap_cons]
theorem encZ_drop {l : List Int} {j : Nat} (h : j < l.length) : encZ (l.drop j) = enc (zig l[j]) ++ encZ (l.drop (j + 1)) := by
  unfold encZ; rw [List.drop_eq_getElem_cons h, List.flatMap_cons]
theorem num_app {n : Nat} (hn : n < 2 ^ 64) {m : List UInt8} : num (enc n ++ m) = (n, (enc n).length, 0) := num_enc hn m
end Go.Sf
namespace Go.Proofs.Ytffifddlooligaa
open Go.Sf
attribute [local simp] s_skip s_ops s_draw s_any s_contA s_tdone s_ttwo s_top_p s_top_pick s_top_e s_top_g s_seq s_cond s_block s_loop s_exit s_ret s_mark s_then_n s_then_e s_then_r s_in_n s_in_e s_in_r s_contC s_contO s_contQ s_contT s_nil s_cons_p s_cons_pick s_cons_e s_cons_g s_qnil s_qcons_p s_qcons_pick s_qcons_e s_qcons_g s_M s_Mg s_Mq s_Mqg s_G_p s_G_pick s_G_e s_Gq_p s_Gq_pick s_Gq_e s_if s_call s_callv s_qcall s_qcallv s_getAll_nil s_getAll_cons s_put_some s_put_none s_ev_t s_ev_c s_ev_f un evP evK argT resAV lenOf_nils lenOf_imm lenOf_sl lenOf_str optI slcV binV isShift binInt binStr shiftInt pickV unV s_append s_alloc s_box s_bslice s_Bs_t s_Bs_f s_store1 s_storeN s_St1 s_St s_s2b s_markb s_Mk s_mkslice s_qbslice s_qs2b s_ret_n s_ret_r s_retc_n s_retc_r s_RV_nil s_RV_t s_RV_c s_RV1 tupOf fillC kn_int cl_int on_int kn_bool cl_bool on_bool kn_str cl_str on_str kn_nilp cl_nilp on_nilp kn_ptr cl_ptr on_ptr kn_iptr cl_iptr on_iptr kn_nils cl_nils on_nils kn_sl cl_sl on_sl kn_imm cl_imm on_imm kn_mp cl_mp on_mp kn_nilm cl_nilm on_nilm kn_fn cl_fn on_fn kn_nilf cl_nilf on_nilf kn_agg cl_agg scalEq flatEq eqV s_mkmap s_mset s_mdel mapOf s_Mg_n s_Mqg_n s_gw_b s_gw_u s_gw_gb s_gw_f
def immI (k : IntKind) (l : List Int) : AV := .imm (l.map (.int k ·)) l.length none
def I_o1 (ns xs : List Int) (k : Nat) (T : Nat → AV) (H : Heap) : Prop :=
  ∃ (j : Nat) (w : AV), j + k = ns.length ∧ T 0 = immI .u64 ns ∧ T 1 = immI .i64 xs ∧ T 6 = w ∧ IsB w (encN (ns.take j)) ∧ T 31 = .int .i64 ns.length ∧ T 32 = .int .i64 j ∧ H = Heap.nil
def I_o2 (ns xs : List Int) (k : Nat) (T : Nat → AV) (H : Heap) : Prop :=
  ∃ (j : Nat) (w : AV), j + k = xs.length ∧ T 0 = immI .u64 ns ∧ T 1 = immI .i64 xs ∧ T 6 = w ∧ IsB w (encN ns ++ encZ (xs.take j)) ∧ T 43 = .int .i64 xs.length ∧ T 44 = .int .i64 j ∧ H = Heap.nil
def I_o3 (ns xs : List Int) (k : Nat) (T : Nat → AV) (H : Heap) : Prop :=
  ∃ (j : Nat) (w : AV), j + k = ns.length ∧ T 0 = immI .u64 ns ∧ T 1 = immI .i64 xs ∧ T 6 = w ∧ IsB w (encN (ns.drop j) ++ encZ xs) ∧ T 55 = .int .i64 ns.length ∧ T 56 = .int .i64 j ∧ H = Heap.nil
def I_o4 (ns xs : List Int) (k : Nat) (T : Nat → AV) (H : Heap) : Prop :=
  ∃ (j : Nat) (w : AV), j + k = xs.length ∧ T 0 = immI .u64 ns ∧ T 1 = immI .i64 xs ∧ T 6 = w ∧ IsB w (encZ (xs.drop j)) ∧ T 90 = .int .i64 xs.length ∧ T 91 = .int .i64 j ∧ H = Heap.nil
theorem immI_take (k : IntKind) (l : List Int) : AV.imm (List.take (min l.length 12) (l.map (AV.int k ·))) (min l.length 12) none = immI k (l.take 12) := by
  unfold immI
  rw [List.map_take, List.length_take, Nat.min_comm 12]
  congr 1
  rw [List.take_eq_take_iff]; simp; omega
theorem p_NumOrder (ns : List Int) (hns : ns.length < 2 ^ 63) (bn : ∀ n ∈ ns, IntKind.u64.min ≤ n ∧ n ≤ IntKind.u64.max) (xs : List Int) (hxs : xs.length < 2 ^ 63) (bx : ∀ n ∈ xs, IntKind.i64.min ≤ n ∧ n ≤ IntKind.i64.max) :
    CP PP F_Rlaw1_NumOrder [.imm (ns.map (.int .u64 ·)) ns.length none, .imm (xs.map (.int .i64 ·)) xs.length none] (fun v => v = .bool true) := by
  refine CP.by_vc ok_Rlaw1_NumOrder (by simp) ?_
  unfold c_Rlaw1_NumOrder
  simp
  refine CallK.pure p_begun ?_
  rintro _ rfl
  have hm : ∀ n : Nat, (if (12 : Int) < n then 12 else (n : Int)) = ((min n 12 : Nat) : Int) := fun n => by split <;> omega
  simp [hm]
  refine ⟨by omega, by omega, ?_⟩
  have e1 : min (min ns.length 12) ns.length = (ns.take 12).length := by simp; omega
  have e2 : min (min xs.length 12) xs.length = (xs.take 12).length := by simp; omega
  have bn' : ∀ z ∈ ns.take 12, 0 ≤ z ∧ z < 18446744073709551616 := fun z hz => by
    have := bn z (List.mem_of_mem_take hz)
    have h1 : IntKind.u64.min = 0 := rfl
    have h2 : IntKind.u64.max = 18446744073709551615 := rfl
    omega
  have bx' : ∀ z ∈ xs.take 12, -9223372036854775808 ≤ z ∧ z < 9223372036854775808 := fun z hz => by
    have := bx z (List.mem_of_mem_take hz)
    have h1 : IntKind.i64.min = -9223372036854775808 := rfl
    have h2 : IntKind.i64.max = 9223372036854775807 := rfl
    omega
  have hN : (ns.take 12).length ≤ 12 := by simp; omega
  have hX : (xs.take 12).length ≤ 12 := by simp; omega
  have k1 := immI_take .u64 ns
  have k2 := immI_take .i64 xs
  have lN : min ns.length 12 = (ns.take 12).length := by simp; omega
  have lX : min xs.length 12 = (xs.take 12).length := by simp; omega
  rw [k1, k2, lN]
  generalize ns.take 12 = N at *
  generalize xs.take 12 = X at *
  have i0 : ∀ k l, (un (immI k l)) = (True, immI k l) := fun k l => rfl
  refine LoopV.mk2 (I_o1 N X) N.length ⟨0, .nils, by omega, by simp, by simp, by simp, by simp [encN, IsB.nil], by simp, by simp, rfl⟩ ?_
  rintro k T H ⟨j, w, hj, t0, t1, t6, hw, t31, t32, rfl⟩
  by_cases hk : k = 0
  rotate_left
  · have hlt : j < N.length := by omega
    have hz := bn' N[j] (by simp)
    have hl := encN_len (l := N.take j) fun z hz => bn' z (List.mem_of_mem_take hz)
    have hl2 : (N.take j).length ≤ 12 := by simp; omega
    have hli : (j : Int) < N.length := by omega
    obtain ⟨z, hz1⟩ := Int.eq_ofNat_of_zero_le hz.1
    simp [t0, t1, t6, t31, t32, immI, hlt, hw.un]
    rw [hz1]
    refine CallK.pure (p_put hw z (by omega) (by omega)) ?_
    rintro _ rfl
    simp [t32, immB]
    refine Again2.mk (k - 1) (by omega) ⟨j + 1, _, by omega, by simp [t0], by simp [t1], by simp; rfl, ?_, by simp [t31], ?_, rfl⟩
    · rw [encN_take hlt, hz1]; exact .inr ⟨none, by simp [immB]⟩
    · simp; rw [wrap_i64 (by omega) (by omega)]
  subst hk
  obtain rfl : j = N.length := by omega
  rw [List.take_length] at hw
  simp [t0, t1, t6, t31, t32, immI]
  refine LoopV.mk2 (I_o2 N X) X.length ⟨0, w, by omega, by simp [t0], by simp [t1], by simp [t6], by simpa [encZ] using hw, by simp, by simp, rfl⟩ ?_
  clear hw t0 t1 t6 t31 t32
  rintro k T H ⟨j, w, hj, t0, t1, t6, hw, t31, t32, rfl⟩
  have hNl := encN_len bn'
  have hXl := encZ_len bx'
  by_cases hk : k = 0
  rotate_left
  · have hlt : j < X.length := by omega
    have hz := bx' X[j] (by simp)
    have hl := encZ_len (l := X.take j) fun z hz => bx' z (List.mem_of_mem_take hz)
    have hl2 : (X.take j).length ≤ 12 := by simp; omega
    have hli : (j : Int) < X.length := by omega
    simp [t0, t1, t6, t31, t32, immI, hlt, hw.un]
    refine CallK.pure (k_putInt hw X[j] hz.1 hz.2 (by simp only [List.length_append]; omega)) ?_
    rintro _ rfl
    simp [t32, immB]
    refine Again2.mk (k - 1) (by omega) ⟨j + 1, _, by omega, by simp [t0], by simp [t1], by simp; rfl, ?_, by simp [t31], ?_, rfl⟩
    · rw [encZ_take hlt]; exact .inr ⟨none, by simp [immB]⟩
    · simp; rw [wrap_i64 (by omega) (by omega)]
  subst hk
  obtain rfl : j = X.length := by omega
  rw [List.take_length] at hw
  simp [t0, t1, t6, t31, t32, immI]
  refine LoopV.mk2 (I_o3 N X) N.length ⟨0, w, by omega, by simp [t0], by simp [t1], by simp [t6], by simpa using hw, by simp, by simp, rfl⟩ ?_
  clear hw t0 t1 t6 t31 t32
  rintro k T H ⟨j, w, hj, t0, t1, t6, hw, t31, t32, rfl⟩
  by_cases hk : k = 0
  rotate_left
  · have hlt : j < N.length := by omega
    have hz := bn' N[j] (by simp)
    have hl := encN_len (l := N.drop j) fun z hz => bn' z (List.mem_of_mem_drop hz)
    have hli : (j : Int) < N.length := by omega
    obtain ⟨z, hz1⟩ := Int.eq_ofNat_of_zero_le hz.1
    have hd := encN_drop hlt
    have hzn : N[j].toNat = z := by omega
    rw [hzn] at hd
    have he := enc_len64 (n := z) (by omega)
    have hpos := List.length_pos_iff.2 (enc_ne z)
    rw [hd, List.append_assoc] at hw
    generalize hm : encN (N.drop (j + 1)) ++ encZ X = m at *
    simp [t0, t1, t6, t31, t32, immI, hlt, hw.un]
    refine CallK.pure (p_get hw) ?_
    rw [num_app (by omega)]
    rintro _ rfl
    have n1 : ¬ ((enc z).length : Int) < 1 := by omega
    have n2 : ¬ ((enc z).length : Int) + m.length < (enc z).length := by omega
    rcases hw with ⟨rfl, hw⟩ | ⟨c, rfl⟩
    · exact absurd hw (by simp [enc_ne])
    simp [resN, t0, t1, t6, t31, t32, immI, immB, hlt, hz1, n1, n2]
    refine ⟨⟨by omega, by rw [bytesV_length, List.length_append]⟩, ?_⟩
    refine Again2.mk (k - 1) (by omega) ⟨j + 1, _, by omega, by simp [t0, immI], by simp [t1, immI], by simp; rfl, ?_, by simp [t31], ?_, rfl⟩
    · have e1 : ∀ a c : Nat, ((a : Int) + (c : Int)).toNat - a = c := fun a c => by omega
      have t1 : List.take m.length (bytesV m) = bytesV m := List.take_of_length_le (by rw [bytesV_length]; omega)
      rw [hm]
      simp [bytesV_append, bytesV_length, e1, t1]
      exact .inr ⟨_, rfl⟩
    · simp; rw [wrap_i64 (by omega) (by omega)]
  subst hk
  obtain rfl : j = N.length := by omega
  rw [List.drop_length] at hw
  simp [t0, t1, t6, t31, t32, immI]
  refine LoopV.mk2 (I_o4 N X) X.length ⟨0, w, by omega, by simp [t0], by simp [t1], by simp [t6], by simpa [encN] using hw, by simp, by simp, rfl⟩ ?_
  clear hw t0 t1 t6 t31 t32
  rintro k T H ⟨j, w, hj, t0, t1, t6, hw, t31, t32, rfl⟩
  by_cases hk : k = 0
  rotate_left
  · have hlt : j < X.length := by omega
    have hz := bx' X[j] (by simp)
    have hl := encZ_len (l := X.drop j) fun z hz => bx' z (List.mem_of_mem_drop hz)
    have hli : (j : Int) < X.length := by omega
    have hd := encZ_drop hlt
    have he := enc_len64 (zig_lt hz.1 hz.2)
    have hpos := List.length_pos_iff.2 (enc_ne (zig X[j]))
    rw [hd] at hw
    generalize hm : encZ (X.drop (j + 1)) = m at *
    simp [t0, t1, t6, t31, t32, immI, hlt, hw.un]
    refine CallK.pure (p_getInt hw) ?_
    rw [num_app (zig_lt hz.1 hz.2)]
    rintro _ rfl
    have n1 : ¬ ((enc (zig X[j])).length : Int) < 1 := by omega
    rcases hw with ⟨rfl, hw⟩ | ⟨c, rfl⟩
    · exact absurd hw (by simp [enc_ne])
    simp [resI, zag_zig, t0, t1, t6, t31, t32, immI, immB, hlt, n1]
    refine ⟨by omega, fun _ => ⟨⟨by omega, by rw [bytesV_length, List.length_append]⟩, ?_⟩⟩
    refine Again2.mk (k - 1) (by omega) ⟨j + 1, _, by omega, by simp [t0, immI], by simp [t1, immI], by simp; rfl, ?_, by simp [t31], ?_, rfl⟩
    · have e1 : ∀ a c : Nat, ((a : Int) + (c : Int)).toNat - a = c := fun a c => by omega
      have t1 : List.take m.length (bytesV m) = bytesV m := List.take_of_length_le (by rw [bytesV_length]; omega)
      rw [hm]
      simp [bytesV_append, bytesV_length, e1, t1]
      exact .inr ⟨_, rfl⟩
    · simp; rw [wrap_i64 (by omega) (by omega)]
  subst hk
  obtain rfl : j = X.length := by omega
  rw [List.drop_length] at hw
  rcases hw with ⟨rfl, hw⟩ | ⟨c, rfl⟩
  · simp [t0, t1, t6, t31, t32, immI]
  · simp [t0, t1, t6, t31, t32, immI, immB, encZ]
end Go.Proofs.Ytffifddlooligaa
