/- Contracts: Reverse, Join. -/
import Derived.Test.YtmnbafbicjgjgaaDoorAbxQ7
namespace Go.Abx
set_option maxRecDepth 100000
set_option linter.unusedSimpArgs false
set_option linter.unusedVariables false

/-- Bytes with two places exchanged, from the ends to the middle. -/
theorem set_rev (a b : List Int) (x y : Int) (m : List Int) : ((a ++ x :: m ++ y :: b).set a.length y).set (a.length + 1 + m.length) x = a ++ y :: m ++ x :: b := by
  have h1 : (a ++ x :: m ++ y :: b).set a.length y = a ++ y :: m ++ y :: b := by simp [List.set_append]
  rw [h1]
  have : a.length + 1 + m.length = (a ++ y :: m).length := by simp; omega
  rw [this, List.set_append]
  simp

theorem reverse_run {H : Heap} {id : Nat} {lim : Option Nat} {b : List Int} (hb : b.length ≤ 1099511627776) (hg : H.get id = some (.arr (ofBytes b) 1 none 0)) :
    ∃ H', runRaw v_slices_Reverse_byte_byte i_slices_Reverse_byte_byte [.hs id 0 b.length lim] H = some (.tup [], H') ∧ H'.get id = some (.arr (ofBytes b.reverse) 1 none 0) := by
  suffices h : ∃ l H1, runRaw v_slices_Reverse_byte_byte i_slices_Reverse_byte_byte [.hs id 0 b.length lim] H = some (pack l, H1) ∧ (l = [] ∧ H1.get id = some (.arr (ofBytes b.reverse) 1 none 0)) by
    obtain ⟨l, H1, e, rfl, h2⟩ := h
    exact ⟨H1, e, h2⟩
  refine runRaw_Q (by kernel_rfl) (by kernel_rfl) ?_
  simp (disch := omega) only [i_slices_Reverse_byte_byte, wp_skip, wp_ops, wp_seq, wp_block, wp_exit, wp_ret, wp_condn, condK_b, condB_t, condB_f, condB_d, wp_draw, wpL_nil, wpL_0, freeK_s, wpL_1, readK_s, wpL_2, writeK_s, wpL_g, gdK_b, gdK_u, List.zip_cons_cons, List.zip_nil_left, seqK_n, seqK_e, seqK_r, blockK_n, blockK_e, blockK_r, loopK_n, loopK_e, loopK_r, endK_r, endK_n, wpS_nil', wpS_op, opK_d, opK_0, wpS_g, guardK_b, guardK_u, putS_d, putS_0, wpS_frz, retellK_s, exOpS, evS_t, evS_c, upd, val, unit, isC, loadA, takeA, cells_agg, cells_int, cells_str, cells_bool, cells_vs, cells_nilsl, cells_hs, cells_ptr, cells_pimm, cells_nilptr, List.getElem?_cons_zero, List.getElem?_cons_succ, List.length_cons, List.length_nil, List.drop_zero, List.drop_succ_cons, List.take_succ_cons, List.take_zero, Nat.zero_add, flats, flat_int, flat_str, flat_bool, flat_vs, flat_nilsl, flat_hs, flat_ptr, flat_pimm, flat_nilptr, List.all_cons, List.all_nil, storeA, putElem, putCells, List.cons_append, List.nil_append, List.append_nil, List.set_cons_zero, Heap.get_new, set_set, get_new_set, frz_ptr, frzP_arr, frzB_t, stride_vs, stride_new, stride_new_set, stride_nil, stride_str, stride_ptr, stride_pimm, unA, nbeq_self, cond_true, cond_false, Nat.le_refl, Nat.zero_le, Nat.zero_lt_one, Nat.reduceLT, Nat.reduceLeDiff, Nat.zero_lt_succ, List.map_cons, List.map_nil, Option.map_some, Option.map_none, Nat.reduceEqDiff, Bool.or_false, Bool.or_true, Bool.false_or, Bool.true_or, ↓reduceIte, Nat.reduceAdd, reduceCtorEq, eq_self, beq_tt, beq_tf, beq_ft, beq_ff, beq_bt, beq_bf, Bool.not_true, Bool.not_false, Nat.reduceSub, Int.reduceEq, Int.reduceNe, Int.reduceLT, Int.reduceLE, Int.reduceNeg, Int.reduceAdd, Int.reduceSub, Int.reduceToNat, Int.toNat_natCast, ne_eq, bin_lss, bin_leq, bin_gtr, bin_geq, bin_eql, bin_neq, bin_add, bin_sub, bin_mul, bin_str_eql, bin_str_neq, bin_bool_eql, bin_bool_neq, wrapF_i64, Option.isSome_none, len_str, len_vs, len_hs, len_nil, argSt, resS, pack_one, pack_two, pureK_eq, pureE_t, AVal.pures, AVal.pure, Bool.and_true, Bool.true_and, and_true, true_and, decide_eq_true_eq, decide_eq_false_iff_not, decide_true, decide_false, not_false_eq_true, not_true_eq_false, false_implies, true_implies, forall_const, implies_true, Bool.false_eq_true, Bool.and_self, cast0, cast1, Int.sub_zero, Int.zero_add, Int.add_zero, Nat.add_zero]
  refine wp_loopI (fun n σ H => ∃ a m z, b = a ++ m ++ z ∧ a.length = z.length ∧ n = m.length ∧ σ 0 = .hs id 0 b.length lim ∧ σ 2 = .int .i64 a.length ∧ σ 3 = .int .i64 ((a.length : Int) + (m.length : Int) - 1) ∧ H.get id = some (.arr (ofBytes (z.reverse ++ m ++ a.reverse)) 1 none 0)) b.length (by unfold many; omega) ⟨[], b, [], by simp, rfl, rfl, rfl, rfl, by simp [upd], by simpa using hg⟩ ?_
  clear hg H
  rintro J hJ n σ H ⟨a, m, z, hbz, haz, rfl, h0, h2, h3, hg⟩
  have hlen : b.length = a.length + m.length + z.length := by rw [hbz]; simp; omega
  by_cases hm : m.length ≤ 1
  · have e : ((a.length : Int) < (a.length : Int) + (m.length : Int) - 1) = False := eq_false (by omega)
    simp (disch := omega) only [wp_skip, wp_ops, wp_seq, wp_block, wp_exit, wp_ret, wp_condn, condK_b, condB_t, condB_f, condB_d, wp_draw, wpL_nil, wpL_0, freeK_s, wpL_1, readK_s, wpL_2, writeK_s, wpL_g, gdK_b, gdK_u, List.zip_cons_cons, List.zip_nil_left, seqK_n, seqK_e, seqK_r, blockK_n, blockK_e, blockK_r, loopK_n, loopK_e, loopK_r, endK_r, endK_n, wpS_nil', wpS_op, opK_d, opK_0, wpS_g, guardK_b, guardK_u, putS_d, putS_0, wpS_frz, retellK_s, exOpS, evS_t, evS_c, upd, val, unit, isC, loadA, takeA, cells_agg, cells_int, cells_str, cells_bool, cells_vs, cells_nilsl, cells_hs, cells_ptr, cells_pimm, cells_nilptr, List.getElem?_cons_zero, List.getElem?_cons_succ, List.length_cons, List.length_nil, List.drop_zero, List.drop_succ_cons, List.take_succ_cons, List.take_zero, Nat.zero_add, flats, flat_int, flat_str, flat_bool, flat_vs, flat_nilsl, flat_hs, flat_ptr, flat_pimm, flat_nilptr, List.all_cons, List.all_nil, storeA, putElem, putCells, List.cons_append, List.nil_append, List.append_nil, List.set_cons_zero, Heap.get_new, set_set, get_new_set, frz_ptr, frzP_arr, frzB_t, stride_vs, stride_new, stride_new_set, stride_nil, stride_str, stride_ptr, stride_pimm, unA, nbeq_self, cond_true, cond_false, Nat.le_refl, Nat.zero_le, Nat.zero_lt_one, Nat.reduceLT, Nat.reduceLeDiff, Nat.zero_lt_succ, List.map_cons, List.map_nil, Option.map_some, Option.map_none, Nat.reduceEqDiff, Bool.or_false, Bool.or_true, Bool.false_or, Bool.true_or, ↓reduceIte, Nat.reduceAdd, reduceCtorEq, eq_self, beq_tt, beq_tf, beq_ft, beq_ff, beq_bt, beq_bf, Bool.not_true, Bool.not_false, Nat.reduceSub, Int.reduceEq, Int.reduceNe, Int.reduceLT, Int.reduceLE, Int.reduceNeg, Int.reduceAdd, Int.reduceSub, Int.reduceToNat, Int.toNat_natCast, ne_eq, bin_lss, bin_leq, bin_gtr, bin_geq, bin_eql, bin_neq, bin_add, bin_sub, bin_mul, bin_str_eql, bin_str_neq, bin_bool_eql, bin_bool_neq, wrapF_i64, Option.isSome_none, len_str, len_vs, len_hs, len_nil, argSt, resS, pack_one, pack_two, pureK_eq, pureE_t, AVal.pures, AVal.pure, Bool.and_true, Bool.true_and, and_true, true_and, decide_eq_true_eq, decide_eq_false_iff_not, decide_true, decide_false, not_false_eq_true, not_true_eq_false, false_implies, true_implies, forall_const, implies_true, Bool.false_eq_true, Bool.and_self, cast0, cast1, Int.sub_zero, Int.zero_add, Int.add_zero, Nat.add_zero, h0, h2, h3, e]
    have hmr : m.reverse = m := by
      match m, hm with
      | [], _ => rfl
      | [x], _ => rfl
    rw [hg, hbz]
    simp [hmr]
  · obtain ⟨x, m1, rfl⟩ : ∃ x m1, m = x :: m1 := by
      cases m with
      | nil => simp at hm
      | cons x m1 => exact ⟨x, m1, rfl⟩
    obtain ⟨m2, y, rfl⟩ : ∃ m2 y, m1 = m2 ++ [y] := by
      have : m1 ≠ [] := by intro h; subst h; simp at hm
      exact ⟨m1.dropLast, m1.getLast this, (List.dropLast_concat_getLast this).symm⟩
    have e3 : (a.length : Int) + ((x :: (m2 ++ [y])).length : Int) - 1 = ((a.length + 1 + m2.length : Nat) : Int) := by simp; omega
    have e : ((a.length : Int) < ((a.length + 1 + m2.length : Nat) : Int)) = True := eq_true (by omega)
    simp only [List.length_cons, List.length_append, List.length_nil] at hlen
    have hst : stride H 1 (.hs id 0 b.length lim) = true := stride_at hg
    have ai : indexAddrA none 1 (.hs id 0 b.length lim) (.int .i64 (a.length : Int)) = some (.ptr id a.length 0) := by
      rw [addr_hs (by omega) (by omega)]; simp
    have aj : indexAddrA none 1 (.hs id 0 b.length lim) (.int .i64 ((a.length + 1 + m2.length : Nat) : Int)) = some (.ptr id (a.length + 1 + m2.length) 0) := by
      rw [addr_hs (by omega) (by omega)]; simp; omega
    have hcur : z.reverse ++ (x :: (m2 ++ [y])) ++ a.reverse = z.reverse ++ x :: m2 ++ y :: a.reverse := by simp
    rw [hcur] at hg
    have gi : (ofBytes (z.reverse ++ x :: m2 ++ y :: a.reverse))[a.length]? = some (.int .u8 x) := ofBytes_at (by rw [haz]; simp)
    have gj : (ofBytes (z.reverse ++ x :: m2 ++ y :: a.reverse))[a.length + 1 + m2.length]? = some (.int .u8 y) := ofBytes_at (by
      have : a.length + 1 + m2.length = (z.reverse ++ x :: m2).length := by simp; omega
      rw [this, List.getElem?_append_right (Nat.le_refl _)]; simp)
    have s1 : (ofBytes (z.reverse ++ x :: m2 ++ y :: a.reverse)).set a.length (.int .u8 y) = ofBytes (z.reverse ++ y :: m2 ++ y :: a.reverse) := by
      rw [haz]; simp [ofBytes, List.set_append]
    have gj1 : (ofBytes (z.reverse ++ y :: m2 ++ y :: a.reverse))[a.length + 1 + m2.length]? = some (.int .u8 y) := ofBytes_at (by
      have : a.length + 1 + m2.length = (z.reverse ++ y :: m2).length := by simp; omega
      rw [this, List.getElem?_append_right (Nat.le_refl _)]; simp)
    have s2 : (ofBytes (z.reverse ++ y :: m2 ++ y :: a.reverse)).set (a.length + 1 + m2.length) (.int .u8 x) = ofBytes (z.reverse ++ y :: m2 ++ x :: a.reverse) := by
      have : a.length + 1 + m2.length = (ofBytes (z.reverse ++ y :: m2)).length := by simp [ofBytes_length]; omega
      rw [this, ofBytes_app, ofBytes_cons, List.set_append, ofBytes_app (z.reverse ++ y :: m2)]
      simp [ofBytes_cons]
    have hg1 : (H.set id (.arr (ofBytes (z.reverse ++ y :: m2 ++ y :: a.reverse)) 1 none 0)).get id = some (.arr (ofBytes (z.reverse ++ y :: m2 ++ y :: a.reverse)) 1 none 0) := Heap.get_set _ _ _ _ hg
    have hst1 : stride (H.set id (.arr (ofBytes (z.reverse ++ y :: m2 ++ y :: a.reverse)) 1 none 0)) 1 (.hs id 0 b.length lim) = true := stride_at hg1
    rw [e3] at h3
    simp (disch := omega) only [wp_skip, wp_ops, wp_seq, wp_block, wp_exit, wp_ret, wp_condn, condK_b, condB_t, condB_f, condB_d, wp_draw, wpL_nil, wpL_0, freeK_s, wpL_1, readK_s, wpL_2, writeK_s, wpL_g, gdK_b, gdK_u, List.zip_cons_cons, List.zip_nil_left, seqK_n, seqK_e, seqK_r, blockK_n, blockK_e, blockK_r, loopK_n, loopK_e, loopK_r, endK_r, endK_n, wpS_nil', wpS_op, opK_d, opK_0, wpS_g, guardK_b, guardK_u, putS_d, putS_0, wpS_frz, retellK_s, exOpS, evS_t, evS_c, upd, val, unit, isC, loadA, takeA, cells_agg, cells_int, cells_str, cells_bool, cells_vs, cells_nilsl, cells_hs, cells_ptr, cells_pimm, cells_nilptr, List.getElem?_cons_zero, List.getElem?_cons_succ, List.length_cons, List.length_nil, List.drop_zero, List.drop_succ_cons, List.take_succ_cons, List.take_zero, Nat.zero_add, flats, flat_int, flat_str, flat_bool, flat_vs, flat_nilsl, flat_hs, flat_ptr, flat_pimm, flat_nilptr, List.all_cons, List.all_nil, storeA, putElem, putCells, List.cons_append, List.nil_append, List.append_nil, List.set_cons_zero, Heap.get_new, set_set, get_new_set, frz_ptr, frzP_arr, frzB_t, stride_vs, stride_new, stride_new_set, stride_nil, stride_str, stride_ptr, stride_pimm, unA, nbeq_self, cond_true, cond_false, Nat.le_refl, Nat.zero_le, Nat.zero_lt_one, Nat.reduceLT, Nat.reduceLeDiff, Nat.zero_lt_succ, List.map_cons, List.map_nil, Option.map_some, Option.map_none, Nat.reduceEqDiff, Bool.or_false, Bool.or_true, Bool.false_or, Bool.true_or, ↓reduceIte, Nat.reduceAdd, reduceCtorEq, eq_self, beq_tt, beq_tf, beq_ft, beq_ff, beq_bt, beq_bf, Bool.not_true, Bool.not_false, Nat.reduceSub, Int.reduceEq, Int.reduceNe, Int.reduceLT, Int.reduceLE, Int.reduceNeg, Int.reduceAdd, Int.reduceSub, Int.reduceToNat, Int.toNat_natCast, ne_eq, bin_lss, bin_leq, bin_gtr, bin_geq, bin_eql, bin_neq, bin_add, bin_sub, bin_mul, bin_str_eql, bin_str_neq, bin_bool_eql, bin_bool_neq, wrapF_i64, Option.isSome_none, len_str, len_vs, len_hs, len_nil, argSt, resS, pack_one, pack_two, pureK_eq, pureE_t, AVal.pures, AVal.pure, Bool.and_true, Bool.true_and, and_true, true_and, decide_eq_true_eq, decide_eq_false_iff_not, decide_true, decide_false, not_false_eq_true, not_true_eq_false, false_implies, true_implies, forall_const, implies_true, Bool.false_eq_true, Bool.and_self, cast0, cast1, Int.sub_zero, Int.zero_add, Int.add_zero, Nat.add_zero, h0, h2, h3, e]
    refine draw_L [0, 0, 0, 0, 0, 0, 1, 1, 0, 0, 1, 1, 1, 2, 1, 2] (by kernel_rfl) (by kernel_rfl) ?_
    simp (disch := omega) only [wp_skip, wp_ops, wp_seq, wp_block, wp_exit, wp_ret, wp_condn, condK_b, condB_t, condB_f, condB_d, wp_draw, wpL_nil, wpL_0, freeK_s, wpL_1, readK_s, wpL_2, writeK_s, wpL_g, gdK_b, gdK_u, List.zip_cons_cons, List.zip_nil_left, seqK_n, seqK_e, seqK_r, blockK_n, blockK_e, blockK_r, loopK_n, loopK_e, loopK_r, endK_r, endK_n, wpS_nil', wpS_op, opK_d, opK_0, wpS_g, guardK_b, guardK_u, putS_d, putS_0, wpS_frz, retellK_s, exOpS, evS_t, evS_c, upd, val, unit, isC, loadA, takeA, cells_agg, cells_int, cells_str, cells_bool, cells_vs, cells_nilsl, cells_hs, cells_ptr, cells_pimm, cells_nilptr, List.getElem?_cons_zero, List.getElem?_cons_succ, List.length_cons, List.length_nil, List.drop_zero, List.drop_succ_cons, List.take_succ_cons, List.take_zero, Nat.zero_add, flats, flat_int, flat_str, flat_bool, flat_vs, flat_nilsl, flat_hs, flat_ptr, flat_pimm, flat_nilptr, List.all_cons, List.all_nil, storeA, putElem, putCells, List.cons_append, List.nil_append, List.append_nil, List.set_cons_zero, Heap.get_new, set_set, get_new_set, frz_ptr, frzP_arr, frzB_t, stride_vs, stride_new, stride_new_set, stride_nil, stride_str, stride_ptr, stride_pimm, unA, nbeq_self, cond_true, cond_false, Nat.le_refl, Nat.zero_le, Nat.zero_lt_one, Nat.reduceLT, Nat.reduceLeDiff, Nat.zero_lt_succ, List.map_cons, List.map_nil, Option.map_some, Option.map_none, Nat.reduceEqDiff, Bool.or_false, Bool.or_true, Bool.false_or, Bool.true_or, ↓reduceIte, Nat.reduceAdd, reduceCtorEq, eq_self, beq_tt, beq_tf, beq_ft, beq_ff, beq_bt, beq_bf, Bool.not_true, Bool.not_false, Nat.reduceSub, Int.reduceEq, Int.reduceNe, Int.reduceLT, Int.reduceLE, Int.reduceNeg, Int.reduceAdd, Int.reduceSub, Int.reduceToNat, Int.toNat_natCast, ne_eq, bin_lss, bin_leq, bin_gtr, bin_geq, bin_eql, bin_neq, bin_add, bin_sub, bin_mul, bin_str_eql, bin_str_neq, bin_bool_eql, bin_bool_neq, wrapF_i64, Option.isSome_none, len_str, len_vs, len_hs, len_nil, argSt, resS, pack_one, pack_two, pureK_eq, pureE_t, AVal.pures, AVal.pure, Bool.and_true, Bool.true_and, and_true, true_and, decide_eq_true_eq, decide_eq_false_iff_not, decide_true, decide_false, not_false_eq_true, not_true_eq_false, false_implies, true_implies, forall_const, implies_true, Bool.false_eq_true, Bool.and_self, cast0, cast1, Int.sub_zero, Int.zero_add, Int.add_zero, Nat.add_zero, h0, h2, h3, hst, ai, aj, hg, gi, gj, s1, hg1, hst1, gj1, s2]
    subst hJ
    refine ⟨m2.length, by simp; omega, a ++ [x], m2, y :: z, by simp [hbz], by simp [haz], rfl, ?_, ?_, ?_, ?_⟩
    · simp [upd, h0]
    · simp [upd]
    · simp [upd]
    · rw [Heap.get_set _ _ _ _ hg]; simp

/-! ### Join -/
theorem copy_hs {H : Heap} {sz id s n fr z : Nat} {lim cap : Option Nat} {es src : List AVal} {x : AVal} (hx : srcEls sz H x = some src) (hg : H.get id = some (.arr es z cap fr)) (hf : fr ≤ s) (hn : s + n ≤ es.length) :
    copyA sz (.hs id s n lim) x H = some (.int .i64 ((Min.min src.length n : Nat) : Int), H.set id (.arr (setEls es s (src.take (Min.min src.length n))) z cap fr)) := by
  simp only [copyA, hx, hg]
  rw [if_pos ⟨hf, hn⟩]
theorem copy_vs0 {H : Heap} {sz z : Nat} {cap : Option Nat} {src : List AVal} {x : AVal} (hx : srcEls sz H x = some src) : copyA sz (.vs [] z cap) x H = some (.int .i64 0, H) := by simp only [copyA, hx]

/-- A slice that is filled from its beginning on. -/
def Bf (v : AVal) (H : Heap) (pre : List Int) (n : Nat) : Prop :=
  pre.length ≤ n ∧ ((n = 0 ∧ v = .vs [] 1 (some 0)) ∨ (0 < n ∧ ∃ id rest, v = .hs id 0 n (some n) ∧ H.get id = some (.arr (ofBytes pre ++ rest) 1 none 0) ∧ rest.length = n - pre.length))
theorem Bf.stride {v : AVal} {H : Heap} {pre : List Int} {n : Nat} (h : Bf v H pre n) : stride H 1 v = true := by
  rcases h.2 with ⟨_, rfl⟩ | ⟨_, id, rest, rfl, hg, _⟩
  · rfl
  · exact stride_at hg
theorem Bf.copy {v x : AVal} {H : Heap} {pre c : List Int} {n : Nat} (h : Bf v H pre n) (hx : ∀ H, srcEls 1 H x = some (ofBytes c)) (hl : pre.length + c.length ≤ n) :
    ∃ d H', sliceA false 1 v (some (.int .i64 pre.length)) none none = some d ∧ Abx.stride H 1 d = true ∧ copyA 1 d x H = some (.int .i64 c.length, H') ∧ Bf v H' (pre ++ c) n := by
  rcases h.2 with ⟨hn, rfl⟩ | ⟨hn, id, rest, rfl, hg, hr⟩
  · have hp : pre = [] := List.length_eq_zero_iff.1 (by omega)
    have hc : c = [] := List.length_eq_zero_iff.1 (by omega)
    subst hp; subst hc
    exact ⟨.vs [] 1 (some 0), H, by simp [sliceA, bounds, optBnd, bnd], rfl, copy_vs0 (hx H), ⟨by simp, .inl ⟨hn, rfl⟩⟩⟩
  · have hb : bounds n (some (.int .i64 (pre.length : Int))) none none = some (pre.length, n, none) := by
      have h0 : bnd (.int .i64 (pre.length : Int)) n = some pre.length := by simp only [bnd]; rw [if_pos ⟨by omega, by omega⟩]; simp
      simp only [bounds, optBnd, h0]
    by_cases hpn : pre.length = n
    · have hc : c = [] := List.length_eq_zero_iff.1 (by omega)
      subst hc
      refine ⟨.vs [] 1 none, H, ?_, rfl, copy_vs0 (hx H), ⟨by simp; omega, .inr ⟨hn, id, rest, rfl, by simpa using hg, by simpa using hr⟩⟩⟩
      simp only [sliceA, Bool.false_eq_true, if_false, hb]
      rw [if_pos ⟨hpn.symm, by omega⟩]
    · have hmin : Min.min (ofBytes c).length (n - pre.length) = c.length := by rw [ofBytes_length]; omega
      have hset : setEls (ofBytes pre ++ rest) pre.length ((ofBytes c).take c.length) = ofBytes (pre ++ c) ++ rest.drop c.length := by
        have h1 : (ofBytes c).take c.length = ofBytes c := List.take_of_length_le (by rw [ofBytes_length]; omega)
        have h2 : (ofBytes pre ++ rest).take pre.length = ofBytes pre := by rw [← ofBytes_length pre, List.take_left]
        have h3 : (ofBytes pre ++ rest).drop (pre.length + (ofBytes c).length) = rest.drop c.length := by
          rw [List.drop_append, List.drop_of_length_le (by rw [ofBytes_length]; omega), List.nil_append, ofBytes_length, ofBytes_length]
          congr 1; omega
        rw [setEls, h1, h2, h3, ofBytes_app]
      have hcp := copy_hs (sz := 1) (lim := some (n - pre.length)) (hx H) hg (Nat.zero_le pre.length) (n := n - pre.length) (by simp [ofBytes_length]; omega)
      rw [hmin, hset] at hcp
      refine ⟨.hs id pre.length (n - pre.length) (some (n - pre.length)), _, ?_, stride_at hg, hcp, ⟨by simp; omega, .inr ⟨hn, id, _, rfl, Heap.get_set _ _ _ _ hg, by simp; omega⟩⟩⟩
      simp only [sliceA, Bool.false_eq_true, if_false, hb]
      rw [if_neg (by omega)]
      simp
theorem Bf.copy0 {v x : AVal} {H : Heap} {c : List Int} {n : Nat} (h : Bf v H [] n) (hx : ∀ H, srcEls 1 H x = some (ofBytes c)) (hl : c.length ≤ n) : ∃ H', copyA 1 v x H = some (.int .i64 c.length, H') ∧ Bf v H' c n := by
  rcases h.2 with ⟨hn, rfl⟩ | ⟨hn, id, rest, rfl, hg, hr⟩
  · have hc : c = [] := List.length_eq_zero_iff.1 (by omega)
    subst hc
    exact ⟨H, copy_vs0 (hx H), ⟨by simp, .inl ⟨hn, rfl⟩⟩⟩
  · simp only [ofBytes_nil, List.nil_append, List.length_nil, Nat.sub_zero] at hg hr
    have hmin : Min.min (ofBytes c).length n = c.length := by rw [ofBytes_length]; omega
    have hset : setEls rest 0 ((ofBytes c).take c.length) = ofBytes c ++ rest.drop c.length := by
      have h1 : (ofBytes c).take c.length = ofBytes c := List.take_of_length_le (by rw [ofBytes_length]; omega)
      simp [setEls, h1, ofBytes_length]
    have hcp := copy_hs (sz := 1) (lim := some n) (hx H) hg (Nat.le_refl 0) (n := n) (by omega)
    rw [hmin, hset] at hcp
    exact ⟨_, hcp, ⟨hl, .inr ⟨hn, id, _, rfl, Heap.get_set _ _ _ _ hg, by simp; omega⟩⟩⟩

theorem join_run (ps : List (AVal × List Int)) (cap : Option Nat) (hps : ∀ p ∈ ps, isBs p.1 p.2) (hl : ps.length ≤ 1048576) (ht : (catB ps).length ≤ 1099511627776) :
    ∃ v, runOwn v_bytes_Join i_bytes_Join [.vs (ps.map (·.1)) 1 cap, .nilsl] = some v ∧ isBs v (catB ps) := by
  have hpure : AVal.pures (ps.map (·.1)) = true := pures_of fun x hx => by
    obtain ⟨p, hp, rfl⟩ := List.mem_map.1 hx; exact (hps p hp).pure
  refine runOwn_Q (by kernel_rfl) (by kernel_rfl) (by simp [AVal.pures, AVal.pure, hpure]) ?_
  match ps, hps, hl, ht, hpure with
  | [], _, _, _, _ =>
    simp (disch := omega) only [i_bytes_Join, wp_skip, wp_ops, wp_seq, wp_block, wp_exit, wp_ret, wp_condn, condK_b, condB_t, condB_f, condB_d, wp_draw, wpL_nil, wpL_0, freeK_s, wpL_1, readK_s, wpL_2, writeK_s, wpL_g, gdK_b, gdK_u, List.zip_cons_cons, List.zip_nil_left, seqK_n, seqK_e, seqK_r, blockK_n, blockK_e, blockK_r, loopK_n, loopK_e, loopK_r, endK_r, endK_n, wpS_nil', wpS_op, opK_d, opK_0, wpS_g, guardK_b, guardK_u, putS_d, putS_0, wpS_frz, retellK_s, exOpS, evS_t, evS_c, upd, val, unit, isC, loadA, takeA, cells_agg, cells_int, cells_str, cells_bool, cells_vs, cells_nilsl, cells_hs, cells_ptr, cells_pimm, cells_nilptr, List.getElem?_cons_zero, List.getElem?_cons_succ, List.length_cons, List.length_nil, List.drop_zero, List.drop_succ_cons, List.take_succ_cons, List.take_zero, Nat.zero_add, flats, flat_int, flat_str, flat_bool, flat_vs, flat_nilsl, flat_hs, flat_ptr, flat_pimm, flat_nilptr, List.all_cons, List.all_nil, storeA, putElem, putCells, List.cons_append, List.nil_append, List.append_nil, List.set_cons_zero, Heap.get_new, set_set, get_new_set, frz_ptr, frzP_arr, frzB_t, stride_vs, stride_new, stride_new_set, stride_nil, stride_str, stride_ptr, stride_pimm, unA, nbeq_self, cond_true, cond_false, Nat.le_refl, Nat.zero_le, Nat.zero_lt_one, Nat.reduceLT, Nat.reduceLeDiff, Nat.zero_lt_succ, List.map_cons, List.map_nil, Option.map_some, Option.map_none, Nat.reduceEqDiff, Bool.or_false, Bool.or_true, Bool.false_or, Bool.true_or, ↓reduceIte, Nat.reduceAdd, reduceCtorEq, eq_self, beq_tt, beq_tf, beq_ft, beq_ff, beq_bt, beq_bf, Bool.not_true, Bool.not_false, Nat.reduceSub, Int.reduceEq, Int.reduceNe, Int.reduceLT, Int.reduceLE, Int.reduceNeg, Int.reduceAdd, Int.reduceSub, Int.reduceToNat, Int.toNat_natCast, ne_eq, bin_lss, bin_leq, bin_gtr, bin_geq, bin_eql, bin_neq, bin_add, bin_sub, bin_mul, bin_str_eql, bin_str_neq, bin_bool_eql, bin_bool_neq, wrapF_i64, Option.isSome_none, len_str, len_vs, len_hs, len_nil, argSt, resS, pack_one, pack_two, pureK_eq, pureE_t, AVal.pures, AVal.pure, Bool.and_true, Bool.true_and, and_true, true_and, decide_eq_true_eq, decide_eq_false_iff_not, decide_true, decide_false, not_false_eq_true, not_true_eq_false, false_implies, true_implies, forall_const, implies_true, Bool.false_eq_true, Bool.and_self, cast0, cast1, Int.sub_zero, Int.zero_add, Int.add_zero, Nat.add_zero, fillEls, List.replicate_zero]
    exact ownQ_vs rfl (.inr ⟨_, rfl⟩)
  | [x], hps, hl, ht, hpure =>
    have hxb := hps x (by simp)
    have hcat : catB [x] = x.2 := by simp [catB]
    obtain ⟨v', H', hap, hA⟩ := Acc.app (v := .nilsl) (H := Heap.empty) (b := []) (.inl ⟨rfl, rfl⟩) (src_bs hxb) (by rw [hcat] at ht; simp; omega)
    have hadr : indexAddrA none 1 (.vs [x.1] 1 cap) (.int .i64 0) = some (.pimm x.1.cells 0) := rfl
    simp (disch := omega) only [i_bytes_Join, wp_skip, wp_ops, wp_seq, wp_block, wp_exit, wp_ret, wp_condn, condK_b, condB_t, condB_f, condB_d, wp_draw, wpL_nil, wpL_0, freeK_s, wpL_1, readK_s, wpL_2, writeK_s, wpL_g, gdK_b, gdK_u, List.zip_cons_cons, List.zip_nil_left, seqK_n, seqK_e, seqK_r, blockK_n, blockK_e, blockK_r, loopK_n, loopK_e, loopK_r, endK_r, endK_n, wpS_nil', wpS_op, opK_d, opK_0, wpS_g, guardK_b, guardK_u, putS_d, putS_0, wpS_frz, retellK_s, exOpS, evS_t, evS_c, upd, val, unit, isC, loadA, takeA, cells_agg, cells_int, cells_str, cells_bool, cells_vs, cells_nilsl, cells_hs, cells_ptr, cells_pimm, cells_nilptr, List.getElem?_cons_zero, List.getElem?_cons_succ, List.length_cons, List.length_nil, List.drop_zero, List.drop_succ_cons, List.take_succ_cons, List.take_zero, Nat.zero_add, flats, flat_int, flat_str, flat_bool, flat_vs, flat_nilsl, flat_hs, flat_ptr, flat_pimm, flat_nilptr, List.all_cons, List.all_nil, storeA, putElem, putCells, List.cons_append, List.nil_append, List.append_nil, List.set_cons_zero, Heap.get_new, set_set, get_new_set, frz_ptr, frzP_arr, frzB_t, stride_vs, stride_new, stride_new_set, stride_nil, stride_str, stride_ptr, stride_pimm, unA, nbeq_self, cond_true, cond_false, Nat.le_refl, Nat.zero_le, Nat.zero_lt_one, Nat.reduceLT, Nat.reduceLeDiff, Nat.zero_lt_succ, List.map_cons, List.map_nil, Option.map_some, Option.map_none, Nat.reduceEqDiff, Bool.or_false, Bool.or_true, Bool.false_or, Bool.true_or, ↓reduceIte, Nat.reduceAdd, reduceCtorEq, eq_self, beq_tt, beq_tf, beq_ft, beq_ff, beq_bt, beq_bf, Bool.not_true, Bool.not_false, Nat.reduceSub, Int.reduceEq, Int.reduceNe, Int.reduceLT, Int.reduceLE, Int.reduceNeg, Int.reduceAdd, Int.reduceSub, Int.reduceToNat, Int.toNat_natCast, ne_eq, bin_lss, bin_leq, bin_gtr, bin_geq, bin_eql, bin_neq, bin_add, bin_sub, bin_mul, bin_str_eql, bin_str_neq, bin_bool_eql, bin_bool_neq, wrapF_i64, Option.isSome_none, len_str, len_vs, len_hs, len_nil, argSt, resS, pack_one, pack_two, pureK_eq, pureE_t, AVal.pures, AVal.pure, Bool.and_true, Bool.true_and, and_true, true_and, decide_eq_true_eq, decide_eq_false_iff_not, decide_true, decide_false, not_false_eq_true, not_true_eq_false, false_implies, true_implies, forall_const, implies_true, Bool.false_eq_true, Bool.and_self, cast0, cast1, Int.sub_zero, Int.zero_add, Int.add_zero, Nat.add_zero, hadr, hxb.cells, hxb.stride, hap]
    rw [hcat]
    rcases hA with ⟨h5, h6⟩ | ⟨id, h5, hg, hi⟩
    · rw [h5]; exact ownQ_nil rfl (.inl ⟨rfl, by simpa using h6⟩)
    · rw [h5]; exact ownQ_hs (fr := 0) hg rfl (ofBytes_pure _) rfl (.inr ⟨_, rfl⟩)
  | x :: y :: ps, hps, hl, ht, hpure =>
    have n0 : ((List.length (x :: y :: ps) : Int) = 0) = False := eq_false (by simp; omega)
    have n1 : ((List.length (x :: y :: ps) : Int) = 1) = False := eq_false (by simp; omega)
    have hR : ∃ R, x :: y :: ps = x :: R := ⟨_, rfl⟩
    obtain ⟨R, hR⟩ := hR
    have hRl : R.length ≤ 1048576 := by have := congrArg List.length hR; simp at this; simp at hl; omega
    rw [hR] at hps ht hpure n0 n1 ⊢
    clear hR hl
    have hL : (x :: R).length ≤ 1048577 := by simp; omega
    have hxb := hps x (by simp)
    have hcat : catB (x :: R) = x.2 ++ catB R := by simp [catB]
    have adr0 : ∀ z, indexAddrA none z (.vs ((x :: R).map (·.1)) 1 cap) (.int .i64 0) = some (.pimm x.1.cells 0) := fun z => rfl
    have sl1 : sliceA false 1 (.vs ((x :: R).map (·.1)) 1 cap) (some (.int .i64 1)) none none = some (.vs (R.map (·.1)) 1 (cap.map (· - 1))) := by
      simp [sliceA, bounds, optBnd, bnd]
      rw [if_pos (by omega)]
      simp
      exact List.take_of_length_le (by simp)
    generalize hLd : x :: R = L at *
    simp (disch := omega) only [i_bytes_Join, wp_skip, wp_ops, wp_seq, wp_block, wp_exit, wp_ret, wp_condn, condK_b, condB_t, condB_f, condB_d, wp_draw, wpL_nil, wpL_0, freeK_s, wpL_1, readK_s, wpL_2, writeK_s, wpL_g, gdK_b, gdK_u, List.zip_cons_cons, List.zip_nil_left, seqK_n, seqK_e, seqK_r, blockK_n, blockK_e, blockK_r, loopK_n, loopK_e, loopK_r, endK_r, endK_n, wpS_nil', wpS_op, opK_d, opK_0, wpS_g, guardK_b, guardK_u, putS_d, putS_0, wpS_frz, retellK_s, exOpS, evS_t, evS_c, upd, val, unit, isC, loadA, takeA, cells_agg, cells_int, cells_str, cells_bool, cells_vs, cells_nilsl, cells_hs, cells_ptr, cells_pimm, cells_nilptr, List.getElem?_cons_zero, List.getElem?_cons_succ, List.length_cons, List.length_nil, List.drop_zero, List.drop_succ_cons, List.take_succ_cons, List.take_zero, Nat.zero_add, flats, flat_int, flat_str, flat_bool, flat_vs, flat_nilsl, flat_hs, flat_ptr, flat_pimm, flat_nilptr, List.all_cons, List.all_nil, storeA, putElem, putCells, List.cons_append, List.nil_append, List.append_nil, List.set_cons_zero, Heap.get_new, set_set, get_new_set, frz_ptr, frzP_arr, frzB_t, stride_vs, stride_new, stride_new_set, stride_nil, stride_str, stride_ptr, stride_pimm, unA, nbeq_self, cond_true, cond_false, Nat.le_refl, Nat.zero_le, Nat.zero_lt_one, Nat.reduceLT, Nat.reduceLeDiff, Nat.zero_lt_succ, List.map_cons, List.map_nil, Option.map_some, Option.map_none, Nat.reduceEqDiff, Bool.or_false, Bool.or_true, Bool.false_or, Bool.true_or, ↓reduceIte, Nat.reduceAdd, reduceCtorEq, eq_self, beq_tt, beq_tf, beq_ft, beq_ff, beq_bt, beq_bf, Bool.not_true, Bool.not_false, Nat.reduceSub, Int.reduceEq, Int.reduceNe, Int.reduceLT, Int.reduceLE, Int.reduceNeg, Int.reduceAdd, Int.reduceSub, Int.reduceToNat, Int.toNat_natCast, ne_eq, bin_lss, bin_leq, bin_gtr, bin_geq, bin_eql, bin_neq, bin_add, bin_sub, bin_mul, bin_str_eql, bin_str_neq, bin_bool_eql, bin_bool_neq, wrapF_i64, Option.isSome_none, len_str, len_vs, len_hs, len_nil, argSt, resS, pack_one, pack_two, pureK_eq, pureE_t, AVal.pures, AVal.pure, Bool.and_true, Bool.true_and, and_true, true_and, decide_eq_true_eq, decide_eq_false_iff_not, decide_true, decide_false, not_false_eq_true, not_true_eq_false, false_implies, true_implies, forall_const, implies_true, Bool.false_eq_true, Bool.and_self, cast0, cast1, Int.sub_zero, Int.zero_add, Int.add_zero, Nat.add_zero, List.length_map, n0, n1]
    refine wp_loopI (fun n σ H => ∃ p q, L = p ++ q ∧ n = q.length ∧ σ 0 = .vs (L.map (·.1)) 1 cap ∧ σ 1 = .nilsl ∧ σ 5 = .int .i64 (catB p).length ∧ σ 42 = .vs (L.map (·.1)) 1 cap ∧ σ 43 = .int .i64 L.length ∧ σ 44 = .int .i64 p.length ∧ H = Heap.empty) L.length (by unfold many; omega) ⟨[], L, rfl, rfl, rfl, rfl, rfl, rfl, rfl, rfl, rfl⟩ ?_
    rintro J hJ n σ H ⟨p, q, hpq, rfl, h0, h1, h5, h42, h43, h44, rfl⟩
    have hlen : L.length = p.length + q.length := by rw [hpq, List.length_append]
    cases q with
    | cons z q =>
      have e : ((p.length : Int) < (L.length : Int)) = True := eq_true (by simp at hlen; omega)
      have hz : (L.map (·.1))[p.length]? = some z.1 := by rw [hpq]; simp
      have hzb : isBs z.1 z.2 := hps z (by rw [hpq]; simp)
      have hle : (catB p).length + z.2.length ≤ 1099511627776 := by
        refine Nat.le_trans ?_ ht
        rw [hpq]; simp [catB]
      have en : ((9223372036854775807 : Int) - ((catB p).length : Int) < (z.2.length : Int)) = False := eq_false (by omega)
      simp (disch := omega) only [wp_skip, wp_ops, wp_seq, wp_block, wp_exit, wp_ret, wp_condn, condK_b, condB_t, condB_f, condB_d, wp_draw, wpL_nil, wpL_0, freeK_s, wpL_1, readK_s, wpL_2, writeK_s, wpL_g, gdK_b, gdK_u, List.zip_cons_cons, List.zip_nil_left, seqK_n, seqK_e, seqK_r, blockK_n, blockK_e, blockK_r, loopK_n, loopK_e, loopK_r, endK_r, endK_n, wpS_nil', wpS_op, opK_d, opK_0, wpS_g, guardK_b, guardK_u, putS_d, putS_0, wpS_frz, retellK_s, exOpS, evS_t, evS_c, upd, val, unit, isC, loadA, takeA, cells_agg, cells_int, cells_str, cells_bool, cells_vs, cells_nilsl, cells_hs, cells_ptr, cells_pimm, cells_nilptr, List.getElem?_cons_zero, List.getElem?_cons_succ, List.length_cons, List.length_nil, List.drop_zero, List.drop_succ_cons, List.take_succ_cons, List.take_zero, Nat.zero_add, flats, flat_int, flat_str, flat_bool, flat_vs, flat_nilsl, flat_hs, flat_ptr, flat_pimm, flat_nilptr, List.all_cons, List.all_nil, storeA, putElem, putCells, List.cons_append, List.nil_append, List.append_nil, List.set_cons_zero, Heap.get_new, set_set, get_new_set, frz_ptr, frzP_arr, frzB_t, stride_vs, stride_new, stride_new_set, stride_nil, stride_str, stride_ptr, stride_pimm, unA, nbeq_self, cond_true, cond_false, Nat.le_refl, Nat.zero_le, Nat.zero_lt_one, Nat.reduceLT, Nat.reduceLeDiff, Nat.zero_lt_succ, List.map_cons, List.map_nil, Option.map_some, Option.map_none, Nat.reduceEqDiff, Bool.or_false, Bool.or_true, Bool.false_or, Bool.true_or, ↓reduceIte, Nat.reduceAdd, reduceCtorEq, eq_self, beq_tt, beq_tf, beq_ft, beq_ff, beq_bt, beq_bf, Bool.not_true, Bool.not_false, Nat.reduceSub, Int.reduceEq, Int.reduceNe, Int.reduceLT, Int.reduceLE, Int.reduceNeg, Int.reduceAdd, Int.reduceSub, Int.reduceToNat, Int.toNat_natCast, ne_eq, bin_lss, bin_leq, bin_gtr, bin_geq, bin_eql, bin_neq, bin_add, bin_sub, bin_mul, bin_str_eql, bin_str_neq, bin_bool_eql, bin_bool_neq, wrapF_i64, Option.isSome_none, len_str, len_vs, len_hs, len_nil, argSt, resS, pack_one, pack_two, pureK_eq, pureE_t, AVal.pures, AVal.pure, Bool.and_true, Bool.true_and, and_true, true_and, decide_eq_true_eq, decide_eq_false_iff_not, decide_true, decide_false, not_false_eq_true, not_true_eq_false, false_implies, true_implies, forall_const, implies_true, Bool.false_eq_true, Bool.and_self, cast0, cast1, Int.sub_zero, Int.zero_add, Int.add_zero, Nat.add_zero, h0, h1, h5, h42, h43, h44, e, addr_vs_at hz, hzb.cells, hzb.len, en]
      subst hJ
      refine ⟨q.length, by simp, p ++ [z], q, by simp [hpq], rfl, ?_, ?_, ?_, ?_, ?_, ?_, rfl⟩
      · simp [upd, h0]
      · simp [upd, h1]
      · simp [upd, catB_app]
      · simp [upd, h42]
      · simp [upd, h43]
      · simp [upd]
    | nil =>
      have e : ((p.length : Int) < (L.length : Int)) = False := eq_false (by simp at hlen; omega)
      have hps' : L = p := by simpa using hpq
      rw [← hps'] at h5
      obtain ⟨t60, H60, v8, hcall, hst, hsl, hBf⟩ : ∃ t60 H60 v8, exCall v_bytes_Join 31 .own [.int .i64 (catB L).length] Heap.empty = some (t60, H60) ∧ stride H60 1 t60 = true ∧ sliceA false 1 t60 none (some (.int .i64 (catB L).length)) (some (.int .i64 (catB L).length)) = some v8 ∧ Bf v8 H60 [] (catB L).length := by
        have hm : makeNoZeroS [.int .i64 (catB L).length] = some (.vs (List.replicate (catB L).length .anyb) 1 none) := by
          simp only [makeNoZeroS]; rw [if_pos ⟨by omega, by omega⟩]; simp
        have hc := exCall_own (env := v_bytes_Join) (g := 31) (H := Heap.empty) rfl (by rfl) hm
        by_cases h0 : (catB L).length = 0
        · rw [h0] at hc ⊢
          exact ⟨_, _, _, hc, rfl, by simp [sliceA, bounds, bnd, optBnd], ⟨by simp, .inl ⟨rfl, rfl⟩⟩⟩
        · have hne : List.replicate (catB L).length AVal.anyb ≠ [] := by simp [h0]
          rw [import_ne hne] at hc
          refine ⟨_, _, .hs 0 0 (catB L).length (some (catB L).length), hc, stride_at (Heap.get_new _ _), ?_, ⟨by simp, .inr ⟨by omega, 0, List.replicate (catB L).length .anyb, rfl, by rw [ofBytes_nil, List.nil_append]; exact Heap.get_new _ _, by simp⟩⟩⟩
          have hb : bnd (.int .i64 ((catB L).length : Int)) (catB L).length = some (catB L).length := by simp only [bnd]; rw [if_pos ⟨by omega, by omega⟩]; simp
          simp [sliceA, bounds, hb, optBnd, h0]
          rfl
      obtain ⟨H61, hcp, hBf1⟩ := hBf.copy0 (fun H => src_bs hxb) (by rw [hcat]; simp)
      simp (disch := omega) only [wp_skip, wp_ops, wp_seq, wp_block, wp_exit, wp_ret, wp_condn, condK_b, condB_t, condB_f, condB_d, wp_draw, wpL_nil, wpL_0, freeK_s, wpL_1, readK_s, wpL_2, writeK_s, wpL_g, gdK_b, gdK_u, List.zip_cons_cons, List.zip_nil_left, seqK_n, seqK_e, seqK_r, blockK_n, blockK_e, blockK_r, loopK_n, loopK_e, loopK_r, endK_r, endK_n, wpS_nil', wpS_op, opK_d, opK_0, wpS_g, guardK_b, guardK_u, putS_d, putS_0, wpS_frz, retellK_s, exOpS, evS_t, evS_c, upd, val, unit, isC, loadA, takeA, cells_agg, cells_int, cells_str, cells_bool, cells_vs, cells_nilsl, cells_hs, cells_ptr, cells_pimm, cells_nilptr, List.getElem?_cons_zero, List.getElem?_cons_succ, List.length_cons, List.length_nil, List.drop_zero, List.drop_succ_cons, List.take_succ_cons, List.take_zero, Nat.zero_add, flats, flat_int, flat_str, flat_bool, flat_vs, flat_nilsl, flat_hs, flat_ptr, flat_pimm, flat_nilptr, List.all_cons, List.all_nil, storeA, putElem, putCells, List.cons_append, List.nil_append, List.append_nil, List.set_cons_zero, Heap.get_new, set_set, get_new_set, frz_ptr, frzP_arr, frzB_t, stride_vs, stride_new, stride_new_set, stride_nil, stride_str, stride_ptr, stride_pimm, unA, nbeq_self, cond_true, cond_false, Nat.le_refl, Nat.zero_le, Nat.zero_lt_one, Nat.reduceLT, Nat.reduceLeDiff, Nat.zero_lt_succ, List.map_cons, List.map_nil, Option.map_some, Option.map_none, Nat.reduceEqDiff, Bool.or_false, Bool.or_true, Bool.false_or, Bool.true_or, ↓reduceIte, Nat.reduceAdd, reduceCtorEq, eq_self, beq_tt, beq_tf, beq_ft, beq_ff, beq_bt, beq_bf, Bool.not_true, Bool.not_false, Nat.reduceSub, Int.reduceEq, Int.reduceNe, Int.reduceLT, Int.reduceLE, Int.reduceNeg, Int.reduceAdd, Int.reduceSub, Int.reduceToNat, Int.toNat_natCast, ne_eq, bin_lss, bin_leq, bin_gtr, bin_geq, bin_eql, bin_neq, bin_add, bin_sub, bin_mul, bin_str_eql, bin_str_neq, bin_bool_eql, bin_bool_neq, wrapF_i64, Option.isSome_none, len_str, len_vs, len_hs, len_nil, argSt, resS, pack_one, pack_two, pureK_eq, pureE_t, AVal.pures, AVal.pure, Bool.and_true, Bool.true_and, and_true, true_and, decide_eq_true_eq, decide_eq_false_iff_not, decide_true, decide_false, not_false_eq_true, not_true_eq_false, false_implies, true_implies, forall_const, implies_true, Bool.false_eq_true, Bool.and_self, cast0, cast1, Int.sub_zero, Int.zero_add, Int.add_zero, Nat.add_zero, h0, h1, h5, h42, h43, h44, e, hcall, hst, hsl, adr0, hxb.cells, hBf.stride, hxb.stride, hcp, sl1, List.length_map]
      clear hJ
      refine wp_loopI (fun n σ H => ∃ p q, R = p ++ q ∧ n = q.length ∧ σ 1 = .nilsl ∧ σ 8 = v8 ∧ σ 9 = .int .i64 (x.2 ++ catB p).length ∧ σ 70 = .vs (R.map (·.1)) 1 (cap.map (· - 1)) ∧ σ 71 = .int .i64 R.length ∧ σ 72 = .int .i64 p.length ∧ Bf v8 H (x.2 ++ catB p) (catB L).length) R.length (by unfold many; omega) ⟨[], R, rfl, rfl, by simp [upd, h1], rfl, by simp [upd, catB], rfl, rfl, rfl, by simpa [catB] using hBf1⟩ ?_
      clear h0 h1 h5 h42 h43 h44 hpq hps' hlen e hcall hst hsl hBf hcp hBf1 H61 σ t60 H60 p
      rintro J2 hJ n σ H ⟨p, q, hpq, rfl, h1, h8, h9, h70, h71, h72, hBf⟩
      have hlen : R.length = p.length + q.length := by rw [hpq, List.length_append]
      cases q with
      | nil =>
        have e : ((p.length : Int) < (R.length : Int)) = False := eq_false (by simp at hlen; omega)
        have hps' : R = p := by simpa using hpq
        rw [← hps', ← hcat] at hBf
        simp (disch := omega) only [wp_skip, wp_ops, wp_seq, wp_block, wp_exit, wp_ret, wp_condn, condK_b, condB_t, condB_f, condB_d, wp_draw, wpL_nil, wpL_0, freeK_s, wpL_1, readK_s, wpL_2, writeK_s, wpL_g, gdK_b, gdK_u, List.zip_cons_cons, List.zip_nil_left, seqK_n, seqK_e, seqK_r, blockK_n, blockK_e, blockK_r, loopK_n, loopK_e, loopK_r, endK_r, endK_n, wpS_nil', wpS_op, opK_d, opK_0, wpS_g, guardK_b, guardK_u, putS_d, putS_0, wpS_frz, retellK_s, exOpS, evS_t, evS_c, upd, val, unit, isC, loadA, takeA, cells_agg, cells_int, cells_str, cells_bool, cells_vs, cells_nilsl, cells_hs, cells_ptr, cells_pimm, cells_nilptr, List.getElem?_cons_zero, List.getElem?_cons_succ, List.length_cons, List.length_nil, List.drop_zero, List.drop_succ_cons, List.take_succ_cons, List.take_zero, Nat.zero_add, flats, flat_int, flat_str, flat_bool, flat_vs, flat_nilsl, flat_hs, flat_ptr, flat_pimm, flat_nilptr, List.all_cons, List.all_nil, storeA, putElem, putCells, List.cons_append, List.nil_append, List.append_nil, List.set_cons_zero, Heap.get_new, set_set, get_new_set, frz_ptr, frzP_arr, frzB_t, stride_vs, stride_new, stride_new_set, stride_nil, stride_str, stride_ptr, stride_pimm, unA, nbeq_self, cond_true, cond_false, Nat.le_refl, Nat.zero_le, Nat.zero_lt_one, Nat.reduceLT, Nat.reduceLeDiff, Nat.zero_lt_succ, List.map_cons, List.map_nil, Option.map_some, Option.map_none, Nat.reduceEqDiff, Bool.or_false, Bool.or_true, Bool.false_or, Bool.true_or, ↓reduceIte, Nat.reduceAdd, reduceCtorEq, eq_self, beq_tt, beq_tf, beq_ft, beq_ff, beq_bt, beq_bf, Bool.not_true, Bool.not_false, Nat.reduceSub, Int.reduceEq, Int.reduceNe, Int.reduceLT, Int.reduceLE, Int.reduceNeg, Int.reduceAdd, Int.reduceSub, Int.reduceToNat, Int.toNat_natCast, ne_eq, bin_lss, bin_leq, bin_gtr, bin_geq, bin_eql, bin_neq, bin_add, bin_sub, bin_mul, bin_str_eql, bin_str_neq, bin_bool_eql, bin_bool_neq, wrapF_i64, Option.isSome_none, len_str, len_vs, len_hs, len_nil, argSt, resS, pack_one, pack_two, pureK_eq, pureE_t, AVal.pures, AVal.pure, Bool.and_true, Bool.true_and, and_true, true_and, decide_eq_true_eq, decide_eq_false_iff_not, decide_true, decide_false, not_false_eq_true, not_true_eq_false, false_implies, true_implies, forall_const, implies_true, Bool.false_eq_true, Bool.and_self, cast0, cast1, Int.sub_zero, Int.zero_add, Int.add_zero, Nat.add_zero, h1, h8, h9, h70, h71, h72, e]
        rcases hBf.2 with ⟨h0, rfl⟩ | ⟨h0, id, rest, rfl, hg, hr⟩
        · exact ownQ_vs rfl (.inr ⟨_, by rw [List.length_eq_zero_iff.1 h0]; rfl⟩)
        · have : rest = [] := List.length_eq_zero_iff.1 (by omega)
          subst this
          rw [List.append_nil] at hg
          exact ownQ_hs (fr := 0) hg (by rw [ofBytes_length]) (ofBytes_pure _) rfl (.inr ⟨_, rfl⟩)
      | cons z q =>
        have e : ((p.length : Int) < (R.length : Int)) = True := eq_true (by simp at hlen; omega)
        have hz : (R.map (·.1))[p.length]? = some z.1 := by rw [hpq]; simp
        have hzb : isBs z.1 z.2 := hps z (by rw [← hLd, hpq]; simp)
        have hle : (x.2 ++ catB p).length + z.2.length ≤ (catB L).length := by
          rw [hcat, hpq]; simp [catB]; omega
        obtain ⟨d1, H1, sd1, st1, cp1, b1⟩ := hBf.copy (x := .nilsl) (c := []) (fun _ => rfl) (by simpa using hBf.1)
        rw [List.append_nil] at b1
        obtain ⟨d2, H2, sd2, st2, cp2, b2⟩ := b1.copy (x := z.1) (c := z.2) (fun H => src_bs hzb) hle
        obtain rfl : d1 = d2 := by rw [sd1] at sd2; simpa using sd2
        have cp1' : copyA 1 d1 .nilsl H = some (.int .i64 0, H1) := cp1
        simp (disch := omega) only [wp_skip, wp_ops, wp_seq, wp_block, wp_exit, wp_ret, wp_condn, condK_b, condB_t, condB_f, condB_d, wp_draw, wpL_nil, wpL_0, freeK_s, wpL_1, readK_s, wpL_2, writeK_s, wpL_g, gdK_b, gdK_u, List.zip_cons_cons, List.zip_nil_left, seqK_n, seqK_e, seqK_r, blockK_n, blockK_e, blockK_r, loopK_n, loopK_e, loopK_r, endK_r, endK_n, wpS_nil', wpS_op, opK_d, opK_0, wpS_g, guardK_b, guardK_u, putS_d, putS_0, wpS_frz, retellK_s, exOpS, evS_t, evS_c, upd, val, unit, isC, loadA, takeA, cells_agg, cells_int, cells_str, cells_bool, cells_vs, cells_nilsl, cells_hs, cells_ptr, cells_pimm, cells_nilptr, List.getElem?_cons_zero, List.getElem?_cons_succ, List.length_cons, List.length_nil, List.drop_zero, List.drop_succ_cons, List.take_succ_cons, List.take_zero, Nat.zero_add, flats, flat_int, flat_str, flat_bool, flat_vs, flat_nilsl, flat_hs, flat_ptr, flat_pimm, flat_nilptr, List.all_cons, List.all_nil, storeA, putElem, putCells, List.cons_append, List.nil_append, List.append_nil, List.set_cons_zero, Heap.get_new, set_set, get_new_set, frz_ptr, frzP_arr, frzB_t, stride_vs, stride_new, stride_new_set, stride_nil, stride_str, stride_ptr, stride_pimm, unA, nbeq_self, cond_true, cond_false, Nat.le_refl, Nat.zero_le, Nat.zero_lt_one, Nat.reduceLT, Nat.reduceLeDiff, Nat.zero_lt_succ, List.map_cons, List.map_nil, Option.map_some, Option.map_none, Nat.reduceEqDiff, Bool.or_false, Bool.or_true, Bool.false_or, Bool.true_or, ↓reduceIte, Nat.reduceAdd, reduceCtorEq, eq_self, beq_tt, beq_tf, beq_ft, beq_ff, beq_bt, beq_bf, Bool.not_true, Bool.not_false, Nat.reduceSub, Int.reduceEq, Int.reduceNe, Int.reduceLT, Int.reduceLE, Int.reduceNeg, Int.reduceAdd, Int.reduceSub, Int.reduceToNat, Int.toNat_natCast, ne_eq, bin_lss, bin_leq, bin_gtr, bin_geq, bin_eql, bin_neq, bin_add, bin_sub, bin_mul, bin_str_eql, bin_str_neq, bin_bool_eql, bin_bool_neq, wrapF_i64, Option.isSome_none, len_str, len_vs, len_hs, len_nil, argSt, resS, pack_one, pack_two, pureK_eq, pureE_t, AVal.pures, AVal.pure, Bool.and_true, Bool.true_and, and_true, true_and, decide_eq_true_eq, decide_eq_false_iff_not, decide_true, decide_false, not_false_eq_true, not_true_eq_false, false_implies, true_implies, forall_const, implies_true, Bool.false_eq_true, Bool.and_self, cast0, cast1, Int.sub_zero, Int.zero_add, Int.add_zero, Nat.add_zero, h1, h8, h9, h70, h71, h72, e, addr_vs_at hz, hzb.cells, hzb.stride, hBf.stride, b1.stride, sd1, st1, cp1', sd2, st2, cp2]
        subst hJ
        refine ⟨q.length, by simp, p ++ [z], q, by simp [hpq], rfl, ?_, ?_, ?_, ?_, ?_, ?_, ?_⟩
        · simp [upd, h1]
        · simp [upd, h8]
        · simp [upd, catB_app]; omega
        · simp [upd, h70]
        · simp [upd, h71]
        · simp [upd]
        · rw [catB_app, ← List.append_assoc]; exact b2
end Go.Abx
