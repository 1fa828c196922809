/- ActsGrow: the plain law: true at every input. -/
import Derived.Test.YtmnbafbicjgjgaaDoorAbxR7
import Derived.Test.YtmnbafbicjgjgaaDoorAbxG1
import Derived.Test.YtmnbafbicjgjgaaDoorAbxX6
namespace Go.Abx
set_option maxRecDepth 100000
set_option linter.unusedSimpArgs false
set_option linter.unusedVariables false

def bandM (n : Int) (m : Nat) : Nat := (BitVec.ofInt 64 n &&& BitVec.ofInt 64 (m : Int)).toNat
theorem bandM_le (n : Int) (m : Nat) (hm : m < 2 ^ 63) : bandM n m ≤ m := by
  unfold bandM
  rw [BitVec.toNat_and]
  refine Nat.le_trans Nat.and_le_right ?_
  rw [BitVec.ofInt_natCast, BitVec.toNat_ofNat]
  exact Nat.mod_le _ _
theorem band_run {l : Bool} (n : Int) (m : Nat) (hm : m < 2 ^ 63) : binA .and .int l (.int .i64 n) (.int .i64 (m : Int)) = some (.int .i64 (bandM n m : Nat)) := band_eq n m hm

def tw : D := ⟨9, 0, []⟩
def tx (a : Nat) : D := ⟨1, 0, List.replicate a 120⟩
theorem okRest_tw : ∀ j, okRest (List.replicate j tw) = true
  | 0 => rfl
  | j + 1 => by rw [List.replicate_succ, okRest, okRest_tw j]; rfl
theorem ok_grow (a j : Nat) (ha : a ≤ 63) (hj : j ≤ 7) : okB (tx a :: List.replicate j tw) = true := by
  have h1 : fitsB (List.replicate a 120) = true := by
    simp only [fitsB, Bool.and_eq_true, List.all_eq_true, decide_eq_true_eq, List.length_replicate]
    refine ⟨fun x hx => ?_, by omega⟩
    rw [List.eq_of_mem_replicate hx]; rfl
  have h2 : rightB (tx a) = true := by simp [rightB, tx, textB, h1]
  simp only [okB, okPre, h2, okRest_tw, List.length_cons, List.length_replicate]
  simp [beginsB, tx]; omega
theorem grow_G : ∀ (j : Nat) (b : List Int), b.length ≤ 256 → (match runG [] (List.replicate j tw) b with | some x => x.length = b.length * 2 ^ j ∧ b.length * 2 ^ j ≤ 256 | none => 256 < b.length * 2 ^ j)
  | 0, b, h => by simp [runG, h]
  | j + 1, b, h => by
    have hs : stepF tw [] b = some (b ++ b) := rfl
    rw [List.replicate_succ]
    simp only [runG, hs]
    by_cases hl : 256 < (b ++ b).length
    · rw [if_pos hl]
      simp only
      rw [List.length_append] at hl
      have : 1 ≤ 2 ^ j := Nat.one_le_two_pow
      rw [Nat.pow_succ]
      have : b.length * (2 ^ j * 2) = (b.length + b.length) * 2 ^ j := by rw [← Nat.mul_two, Nat.mul_assoc, Nat.mul_comm 2]
      rw [this]
      exact Nat.lt_of_lt_of_le hl (Nat.le_mul_of_pos_right _ (by omega))
    · rw [if_neg hl]
      have ih := grow_G j (b ++ b) (by omega)
      have : (b ++ b).length * 2 ^ j = b.length * 2 ^ (j + 1) := by
        rw [List.length_append, Nat.pow_succ, ← Nat.mul_two, Nat.mul_assoc, Nat.mul_comm 2]
      rw [this] at ih
      exact ih
theorem grow_F (a j : Nat) (ha : a ≤ 63) (hj : j ≤ 7) : (match runF (tx a :: List.replicate j tw) [] with | some x => x.length = a * 2 ^ j ∧ a * 2 ^ j ≤ 256 | none => 256 < a * 2 ^ j) := by
  have h1 : runF (tx a :: List.replicate j tw) [] = runG [] (List.replicate j tw) (List.replicate a 120) := by
    simp only [runF, ok_grow a j ha hj, if_true, runG]
    have : stepF (tx a) [] [] = some (List.replicate a 120) := rfl
    rw [this]
    simp only [List.length_replicate]
    rw [if_neg (by omega)]
  have := grow_G j (List.replicate a 120) (by simp; omega)
  rw [List.length_replicate] at this
  rw [h1]; exact this

theorem grow_run (n t : Int) : runPure v2Forms i_fettlelaw6_ActsGrow [.int .i64 n, .int .i64 t] = some (.bool true) := by
  refine runPure_W (by kernel_rfl) (by kernel_rfl) (by rfl) ?_
  have b1 : binA .and .int true (.int .i64 n) (.int .i64 63) = some (.int .i64 (bandM n 63 : Nat)) := band_run n 63 (by decide)
  have b2 : binA .and .int true (.int .i64 t) (.int .i64 255) = some (.int .i64 (bandM t 255 : Nat)) := band_run t 255 (by decide)
  have b3 : binA .rem .int true (.int .i64 (bandM t 255 : Nat)) (.int .i64 8) = some (.int .i64 ((bandM t 255 % 8 : Nat) : Int)) := by rw [bin_rem (by decide)]; rfl
  have ha := bandM_le n 63 (by decide)
  have hb : bandM t 255 % 8 < 8 := Nat.mod_lt _ (by decide)
  generalize hA : bandM n 63 = a at b1 ha
  generalize hB : bandM t 255 % 8 = b at b3 hb
  simp (disch := omega) only [i_fettlelaw6_ActsGrow, wp_skip, wp_ops, wp_seq, wp_block, wp_exit, wp_ret, wp_condm, wp_draw, wpL_nil, wpL_0, freeK_s, wpL_1, readK_s, wpL_2, writeK_s, wpL_g, gdK_b, gdK_u, List.zip_cons_cons, List.zip_nil_left, seqK_n, seqK_e, seqK_r, blockK_n, blockK_e, blockK_r, loopK_n, loopK_e, loopK_r, endK_r, endK_n, wpS_nil', wpS_op, opK_d, opK_0, wpS_g, guardK_b, guardK_u, putS_d, putS_0, wpS_frz, retellK_s, exOpS, evS_t, evS_c, upd, val, unit, isC, loadA, takeA, cells_agg, cells_int, cells_str, cells_bool, cells_vs, cells_nilsl, cells_hs, cells_ptr, cells_pimm, cells_nilptr, List.getElem?_cons_zero, List.getElem?_cons_succ, List.length_cons, List.length_nil, List.drop_zero, List.drop_succ_cons, List.take_succ_cons, List.take_zero, Nat.zero_add, flats, flat_int, flat_str, flat_bool, flat_vs, flat_nilsl, flat_hs, flat_ptr, flat_pimm, flat_nilptr, List.all_cons, List.all_nil, storeA, putElem, putCells, List.cons_append, List.nil_append, List.append_nil, List.set_cons_zero, Heap.get_new, set_set, get_new_set, frz_ptr, frzP_arr, frzB_t, stride_vs, stride_new, stride_new_set, stride_nil, stride_str, stride_ptr, stride_pimm, unA, nbeq_self, cond_true, cond_false, Nat.le_refl, Nat.zero_le, Nat.zero_lt_one, Nat.reduceLT, Nat.reduceLeDiff, Nat.zero_lt_succ, List.map_cons, List.map_nil, Option.map_some, Option.map_none, Nat.reduceEqDiff, Bool.or_false, Bool.or_true, Bool.false_or, Bool.true_or, ↓reduceIte, Nat.reduceAdd, reduceCtorEq, eq_self, beq_tt, beq_tf, beq_ft, beq_ff, beq_bt, beq_bf, Bool.not_true, Bool.not_false, Nat.reduceSub, Int.reduceEq, Int.reduceNe, Int.reduceLT, Int.reduceLE, Int.reduceNeg, Int.reduceAdd, Int.reduceSub, Int.reduceToNat, Int.toNat_natCast, ne_eq, bin_lss, bin_leq, bin_gtr, bin_geq, bin_eql, bin_neq, bin_add, bin_sub, bin_mul, bin_str_eql, bin_str_neq, bin_bool_eql, bin_bool_neq, wrapF_i64, Option.isSome_none, len_str, len_vs, len_hs, len_nil, argSt, resS, pack_one, pack_two, pureK_eq, pureE_t, AVal.pures, AVal.pure, Bool.and_true, Bool.true_and, and_true, true_and, decide_eq_true_eq, decide_eq_false_iff_not, decide_true, decide_false, not_false_eq_true, not_true_eq_false, false_implies, true_implies, forall_const, implies_true, Bool.false_eq_true, Bool.and_self, cast0, cast1, Int.sub_zero, Int.zero_add, Int.add_zero, Nat.add_zero, b1, b2, b3]
  refine wp_loopI (fun m σ H => ∃ i, m = a - i ∧ i ≤ a ∧ σ 0 = .int .i64 a ∧ σ 1 = .int .i64 b ∧ σ 5 = .str (List.replicate i 120) ∧ σ 6 = .int .i64 i) a (by unfold many; omega) ⟨0, rfl, by omega, rfl, rfl, rfl, rfl⟩ ?_
  rintro J hJ m σ H ⟨i, rfl, hi, h0, h1, h5, h6⟩
  by_cases hlt : i < a
  · have e : ((i : Int) < (a : Int)) = True := eq_true (by omega)
    have hadd : ∀ l, binA .add .str l (.str (List.replicate i 120)) (.str [120]) = some (.str (List.replicate (i + 1) 120)) := fun l => by
      rw [bin_str_add _ _ (by simp; omega), List.replicate_succ']
    simp (disch := omega) only [wp_skip, wp_ops, wp_seq, wp_block, wp_exit, wp_ret, wp_condm, wp_draw, wpL_nil, wpL_0, freeK_s, wpL_1, readK_s, wpL_2, writeK_s, wpL_g, gdK_b, gdK_u, List.zip_cons_cons, List.zip_nil_left, seqK_n, seqK_e, seqK_r, blockK_n, blockK_e, blockK_r, loopK_n, loopK_e, loopK_r, endK_r, endK_n, wpS_nil', wpS_op, opK_d, opK_0, wpS_g, guardK_b, guardK_u, putS_d, putS_0, wpS_frz, retellK_s, exOpS, evS_t, evS_c, upd, val, unit, isC, loadA, takeA, cells_agg, cells_int, cells_str, cells_bool, cells_vs, cells_nilsl, cells_hs, cells_ptr, cells_pimm, cells_nilptr, List.getElem?_cons_zero, List.getElem?_cons_succ, List.length_cons, List.length_nil, List.drop_zero, List.drop_succ_cons, List.take_succ_cons, List.take_zero, Nat.zero_add, flats, flat_int, flat_str, flat_bool, flat_vs, flat_nilsl, flat_hs, flat_ptr, flat_pimm, flat_nilptr, List.all_cons, List.all_nil, storeA, putElem, putCells, List.cons_append, List.nil_append, List.append_nil, List.set_cons_zero, Heap.get_new, set_set, get_new_set, frz_ptr, frzP_arr, frzB_t, stride_vs, stride_new, stride_new_set, stride_nil, stride_str, stride_ptr, stride_pimm, unA, nbeq_self, cond_true, cond_false, Nat.le_refl, Nat.zero_le, Nat.zero_lt_one, Nat.reduceLT, Nat.reduceLeDiff, Nat.zero_lt_succ, List.map_cons, List.map_nil, Option.map_some, Option.map_none, Nat.reduceEqDiff, Bool.or_false, Bool.or_true, Bool.false_or, Bool.true_or, ↓reduceIte, Nat.reduceAdd, reduceCtorEq, eq_self, beq_tt, beq_tf, beq_ft, beq_ff, beq_bt, beq_bf, Bool.not_true, Bool.not_false, Nat.reduceSub, Int.reduceEq, Int.reduceNe, Int.reduceLT, Int.reduceLE, Int.reduceNeg, Int.reduceAdd, Int.reduceSub, Int.reduceToNat, Int.toNat_natCast, ne_eq, bin_lss, bin_leq, bin_gtr, bin_geq, bin_eql, bin_neq, bin_add, bin_sub, bin_mul, bin_str_eql, bin_str_neq, bin_bool_eql, bin_bool_neq, wrapF_i64, Option.isSome_none, len_str, len_vs, len_hs, len_nil, argSt, resS, pack_one, pack_two, pureK_eq, pureE_t, AVal.pures, AVal.pure, Bool.and_true, Bool.true_and, and_true, true_and, decide_eq_true_eq, decide_eq_false_iff_not, decide_true, decide_false, not_false_eq_true, not_true_eq_false, false_implies, true_implies, forall_const, implies_true, Bool.false_eq_true, Bool.and_self, cast0, cast1, Int.sub_zero, Int.zero_add, Int.add_zero, Nat.add_zero, h0, h1, h5, h6, e, hadd]
    subst hJ
    refine ⟨a - (i + 1), by omega, i + 1, rfl, by omega, ?_, ?_, ?_, ?_⟩
    · simp [upd, h0]
    · simp [upd, h1]
    · simp [upd]
    · simp [upd]
  have e : ((i : Int) < (a : Int)) = False := eq_false (by omega)
  obtain rfl : i = a := by omega
  have f1 : fillA [.int .i64 0, .int .i64 0, .str []] [(0, 1, .int .i64 1), (2, 1, .str (List.replicate i 120))] = some [.int .i64 1, .int .i64 0, .str (List.replicate i 120)] := rfl
  have f2 : fillA [.int .i64 0, .int .i64 0, .str []] [(0, 1, .int .i64 9)] = some [.int .i64 9, .int .i64 0, .str []] := rfl
  simp (disch := omega) only [wp_skip, wp_ops, wp_seq, wp_block, wp_exit, wp_ret, wp_condm, wp_draw, wpL_nil, wpL_0, freeK_s, wpL_1, readK_s, wpL_2, writeK_s, wpL_g, gdK_b, gdK_u, List.zip_cons_cons, List.zip_nil_left, seqK_n, seqK_e, seqK_r, blockK_n, blockK_e, blockK_r, loopK_n, loopK_e, loopK_r, endK_r, endK_n, wpS_nil', wpS_op, opK_d, opK_0, wpS_g, guardK_b, guardK_u, putS_d, putS_0, wpS_frz, retellK_s, exOpS, evS_t, evS_c, upd, val, unit, isC, loadA, takeA, cells_agg, cells_int, cells_str, cells_bool, cells_vs, cells_nilsl, cells_hs, cells_ptr, cells_pimm, cells_nilptr, List.getElem?_cons_zero, List.getElem?_cons_succ, List.length_cons, List.length_nil, List.drop_zero, List.drop_succ_cons, List.take_succ_cons, List.take_zero, Nat.zero_add, flats, flat_int, flat_str, flat_bool, flat_vs, flat_nilsl, flat_hs, flat_ptr, flat_pimm, flat_nilptr, List.all_cons, List.all_nil, storeA, putElem, putCells, List.cons_append, List.nil_append, List.append_nil, List.set_cons_zero, Heap.get_new, set_set, get_new_set, frz_ptr, frzP_arr, frzB_t, stride_vs, stride_new, stride_new_set, stride_nil, stride_str, stride_ptr, stride_pimm, unA, nbeq_self, cond_true, cond_false, Nat.le_refl, Nat.zero_le, Nat.zero_lt_one, Nat.reduceLT, Nat.reduceLeDiff, Nat.zero_lt_succ, List.map_cons, List.map_nil, Option.map_some, Option.map_none, Nat.reduceEqDiff, Bool.or_false, Bool.or_true, Bool.false_or, Bool.true_or, ↓reduceIte, Nat.reduceAdd, reduceCtorEq, eq_self, beq_tt, beq_tf, beq_ft, beq_ff, beq_bt, beq_bf, Bool.not_true, Bool.not_false, Nat.reduceSub, Int.reduceEq, Int.reduceNe, Int.reduceLT, Int.reduceLE, Int.reduceNeg, Int.reduceAdd, Int.reduceSub, Int.reduceToNat, Int.toNat_natCast, ne_eq, bin_lss, bin_leq, bin_gtr, bin_geq, bin_eql, bin_neq, bin_add, bin_sub, bin_mul, bin_str_eql, bin_str_neq, bin_bool_eql, bin_bool_neq, wrapF_i64, Option.isSome_none, len_str, len_vs, len_hs, len_nil, argSt, resS, pack_one, pack_two, pureK_eq, pureE_t, AVal.pures, AVal.pure, Bool.and_true, Bool.true_and, and_true, true_and, decide_eq_true_eq, decide_eq_false_iff_not, decide_true, decide_false, not_false_eq_true, not_true_eq_false, false_implies, true_implies, forall_const, implies_true, Bool.false_eq_true, Bool.and_self, cast0, cast1, Int.sub_zero, Int.zero_add, Int.add_zero, Nat.add_zero, h0, h1, h5, h6, e, f1, fillEls, List.replicate_succ, List.replicate_zero]
  clear hJ
  refine wp_loopI (fun m σ H => ∃ j id lim, m = b - j ∧ j ≤ b ∧ σ 0 = .int .i64 i ∧ σ 1 = .int .i64 b ∧ σ 7 = .hs id 0 (j + 1) lim ∧ σ 8 = .int .i64 j ∧ id < H.next ∧ (lim = none ∨ (j = 0 ∧ lim = some 1)) ∧ ∃ cap, H.get id = some (.arr ((tx i :: List.replicate j tw).map D.v) 3 cap 0)) b (by unfold many; omega)
    ⟨0, H.next, some 1, rfl, by omega, by simp [upd, h0], by simp [upd, h1], rfl, rfl, by rw [next_new]; omega, .inr ⟨rfl, rfl⟩, some 1, by rw [Heap.get_new]; rfl⟩ ?_
  clear h0 h1 h5 h6 σ H
  rintro J2 hJ m σ H ⟨j, id, lim, rfl, hj, h0, h1, h7, h8, hid, hlim, cap, hg⟩
  have hst : stride H 3 (.hs id 0 (j + 1) lim) = true := stride_at hg
  by_cases hlt : j < b
  · have e : ((j : Int) < (b : Int)) = True := eq_true (by omega)
    have hg2 : (H.new (.arr [.agg [.int .i64 9, .int .i64 0, .str []]] 3 (some 1) 0)).get id = some (.arr ((tx i :: List.replicate j tw).map D.v) 3 cap 0) := by rw [get_new_lt hid]; exact hg
    have hst2 : stride (H.new (.arr [.agg [.int .i64 9, .int .i64 0, .str []]] 3 (some 1) 0)) 3 (.hs id 0 (j + 1) lim) = true := stride_at hg2
    have hsrc : srcEls 3 (H.new (.arr [.agg [.int .i64 9, .int .i64 0, .str []]] 3 (some 1) 0)) (.hs H.next 0 1 (some 1)) = some [tw.v] := by
      rw [src_hs (Heap.get_new _ _) (by simp)]; rfl
    have hes : (tx i :: List.replicate j tw).map D.v ++ [tw.v] = (tx i :: List.replicate (j + 1) tw).map D.v := by
      rw [List.replicate_succ']; simp
    obtain ⟨id2, H2, hap, hg3, hn3⟩ : ∃ id2 H2, appendA 3 32 (.hs id 0 (j + 1) lim) (.hs H.next 0 1 (some 1)) (H.new (.arr [.agg [.int .i64 9, .int .i64 0, .str []]] 3 (some 1) 0)) = some (.hs id2 0 (j + 1 + 1) none, H2) ∧ H2.get id2 = some (.arr ((tx i :: List.replicate (j + 1) tw).map D.v) 3 none 0) ∧ id2 < H2.next := by
      have hlen : ((tx i :: List.replicate j tw).map D.v).length = j + 1 := by simp
      rcases hlim with rfl | ⟨rfl, rfl⟩
      · have := app_hs (sz := 3) (bytes := 32) hsrc (by simp) hg2 (by simp; omega)
        rw [hlen] at this
        refine ⟨_, _, this, ?_, ?_⟩
        · rw [hes]
          exact Heap.get_new ((H.new (.arr [.agg [.int .i64 9, .int .i64 0, .str []]] 3 (some 1) 0)).drop id) _
        · exact Nat.lt_succ_self _
      · have := app_full (sz := 3) (bytes := 32) (s := 0) (n := 1) hsrc (by simp) hg2 (by simp) (by simp)
        refine ⟨_, _, this, ?_, ?_⟩
        · rw [Heap.get_new]; rfl
        · exact Nat.lt_succ_self _
    simp (disch := omega) only [wp_skip, wp_ops, wp_seq, wp_block, wp_exit, wp_ret, wp_condm, wp_draw, wpL_nil, wpL_0, freeK_s, wpL_1, readK_s, wpL_2, writeK_s, wpL_g, gdK_b, gdK_u, List.zip_cons_cons, List.zip_nil_left, seqK_n, seqK_e, seqK_r, blockK_n, blockK_e, blockK_r, loopK_n, loopK_e, loopK_r, endK_r, endK_n, wpS_nil', wpS_op, opK_d, opK_0, wpS_g, guardK_b, guardK_u, putS_d, putS_0, wpS_frz, retellK_s, exOpS, evS_t, evS_c, upd, val, unit, isC, loadA, takeA, cells_agg, cells_int, cells_str, cells_bool, cells_vs, cells_nilsl, cells_hs, cells_ptr, cells_pimm, cells_nilptr, List.getElem?_cons_zero, List.getElem?_cons_succ, List.length_cons, List.length_nil, List.drop_zero, List.drop_succ_cons, List.take_succ_cons, List.take_zero, Nat.zero_add, flats, flat_int, flat_str, flat_bool, flat_vs, flat_nilsl, flat_hs, flat_ptr, flat_pimm, flat_nilptr, List.all_cons, List.all_nil, storeA, putElem, putCells, List.cons_append, List.nil_append, List.append_nil, List.set_cons_zero, Heap.get_new, set_set, get_new_set, frz_ptr, frzP_arr, frzB_t, stride_vs, stride_new, stride_new_set, stride_nil, stride_str, stride_ptr, stride_pimm, unA, nbeq_self, cond_true, cond_false, Nat.le_refl, Nat.zero_le, Nat.zero_lt_one, Nat.reduceLT, Nat.reduceLeDiff, Nat.zero_lt_succ, List.map_cons, List.map_nil, Option.map_some, Option.map_none, Nat.reduceEqDiff, Bool.or_false, Bool.or_true, Bool.false_or, Bool.true_or, ↓reduceIte, Nat.reduceAdd, reduceCtorEq, eq_self, beq_tt, beq_tf, beq_ft, beq_ff, beq_bt, beq_bf, Bool.not_true, Bool.not_false, Nat.reduceSub, Int.reduceEq, Int.reduceNe, Int.reduceLT, Int.reduceLE, Int.reduceNeg, Int.reduceAdd, Int.reduceSub, Int.reduceToNat, Int.toNat_natCast, ne_eq, bin_lss, bin_leq, bin_gtr, bin_geq, bin_eql, bin_neq, bin_add, bin_sub, bin_mul, bin_str_eql, bin_str_neq, bin_bool_eql, bin_bool_neq, wrapF_i64, Option.isSome_none, len_str, len_vs, len_hs, len_nil, argSt, resS, pack_one, pack_two, pureK_eq, pureE_t, AVal.pures, AVal.pure, Bool.and_true, Bool.true_and, and_true, true_and, decide_eq_true_eq, decide_eq_false_iff_not, decide_true, decide_false, not_false_eq_true, not_true_eq_false, false_implies, true_implies, forall_const, implies_true, Bool.false_eq_true, Bool.and_self, cast0, cast1, Int.sub_zero, Int.zero_add, Int.add_zero, Nat.add_zero, h0, h1, h7, h8, e, f2, fillEls, List.replicate_succ, List.replicate_zero, hst2, hap]
    subst hJ
    refine ⟨b - (j + 1), by omega, j + 1, id2, none, rfl, by omega, ?_, ?_, ?_, ?_, hn3, .inl rfl, none, hg3⟩
    · simp [upd, h0]
    · simp [upd, h1]
    · simp [upd]
    · simp [upd]
  have e : ((j : Int) < (b : Int)) = False := eq_false (by omega)
  obtain rfl : j = b := by omega
  have hvs : ∀ r, runOwn v_acts_Run i_acts_Run [vsD (tx i :: List.replicate j tw) lim, .nilsl] = some r → exCall v2Forms 8 .own [.hs id 0 (j + 1) lim, .nilsl] H = some (importA r (H.set id (.arr ((tx i :: List.replicate j tw).map D.v) 3 cap ((tx i :: List.replicate j tw).map D.v).length))) := fun r hr =>
    exCall_own_hs (env := v2Forms) (g := 8) (rest := [.nilsl]) rfl hg (by simp) (pures_of fun x hx => by obtain ⟨d, _, rfl⟩ := List.mem_map.1 hx; rfl) rfl (by rw [List.take_of_length_le (by simp)]; exact hr)
  obtain ⟨r, hr, hsr⟩ := run_run (iv := .nilsl) (ps := []) (l := tx i :: List.replicate j tw) (cap := lim) ⟨.inl ⟨rfl, rfl⟩, by simp⟩ (by unfold many; simp; omega) (fun d hd => by
    rcases List.mem_cons.1 hd with rfl | hd
    · exact ⟨by simp [tx], by simp [tx]; omega⟩
    · rw [List.eq_of_mem_replicate hd]; exact ⟨by decide, by decide⟩) (by simp) (by simp [catB])
  have hcall := hvs r hr
  have hF := grow_F i j (by omega) (by omega)
  have hpow : 2 ^ j ≤ 128 := Nat.le_trans (Nat.pow_le_pow_right (by decide) (by omega : j ≤ 7)) (by decide)
  have hlong : i * 2 ^ j ≤ 63 * 128 := Nat.mul_le_mul ha hpow
  have hshl : ∀ l, binA .shl .int l (.int .i64 (i : Int)) (.int .u64 (j : Int)) = some (.int .i64 ((i * 2 ^ j : Nat) : Int)) := fun l => by
    simp only [binA, intBin]
    rw [if_neg (by omega)]
    have : Min.min (Int.toNat (j : Int)) IntKind.i64.bits = j := by simp [IntKind.bits]; omega
    rw [this]
    have h2 : (i : Int) * 2 ^ j = ((i * 2 ^ j : Nat) : Int) := by push_cast; rfl
    have h3 : IntKind.i64.wrap ((i * 2 ^ j : Nat) : Int) = ((i * 2 ^ j : Nat) : Int) := by
      generalize i * 2 ^ j = N at hlong
      rw [IntKind.wrap_i64]; omega
    rw [h2, h3]
  have hw : wrapF .u64 (j : Int) = j := wrapF_u64 (by omega) (by omega)
  have haw : ∀ H, exCall v2Forms 3 .pure [] H = some (.bool true, H) := fun H => exCall_pure rfl rfl rfl
  simp only [List.map_nil] at hsr
  cases hrf : runF (tx i :: List.replicate j tw) [] with
  | none =>
    rw [hrf] at hsr hF
    have hr0 : r = .tup [.nilsl, .bool false] := hsr
    subst hr0
    simp only at hF
    have e2 : (((i * 2 ^ j : Nat) : Int) ≤ 256) = False := eq_false (by omega)
    have himp : ∀ H, importA (.tup [.nilsl, .bool false]) H = (.tup [.nilsl, .bool false], H) := fun H => rfl
    simp (disch := omega) only [wp_skip, wp_ops, wp_seq, wp_block, wp_exit, wp_ret, wp_condm, wp_draw, wpL_nil, wpL_0, freeK_s, wpL_1, readK_s, wpL_2, writeK_s, wpL_g, gdK_b, gdK_u, List.zip_cons_cons, List.zip_nil_left, seqK_n, seqK_e, seqK_r, blockK_n, blockK_e, blockK_r, loopK_n, loopK_e, loopK_r, endK_r, endK_n, wpS_nil', wpS_op, opK_d, opK_0, wpS_g, guardK_b, guardK_u, putS_d, putS_0, wpS_frz, retellK_s, exOpS, evS_t, evS_c, upd, val, unit, isC, loadA, takeA, cells_agg, cells_int, cells_str, cells_bool, cells_vs, cells_nilsl, cells_hs, cells_ptr, cells_pimm, cells_nilptr, List.getElem?_cons_zero, List.getElem?_cons_succ, List.length_cons, List.length_nil, List.drop_zero, List.drop_succ_cons, List.take_succ_cons, List.take_zero, Nat.zero_add, flats, flat_int, flat_str, flat_bool, flat_vs, flat_nilsl, flat_hs, flat_ptr, flat_pimm, flat_nilptr, List.all_cons, List.all_nil, storeA, putElem, putCells, List.cons_append, List.nil_append, List.append_nil, List.set_cons_zero, Heap.get_new, set_set, get_new_set, frz_ptr, frzP_arr, frzB_t, stride_vs, stride_new, stride_new_set, stride_nil, stride_str, stride_ptr, stride_pimm, unA, nbeq_self, cond_true, cond_false, Nat.le_refl, Nat.zero_le, Nat.zero_lt_one, Nat.reduceLT, Nat.reduceLeDiff, Nat.zero_lt_succ, List.map_cons, List.map_nil, Option.map_some, Option.map_none, Nat.reduceEqDiff, Bool.or_false, Bool.or_true, Bool.false_or, Bool.true_or, ↓reduceIte, Nat.reduceAdd, reduceCtorEq, eq_self, beq_tt, beq_tf, beq_ft, beq_ff, beq_bt, beq_bf, Bool.not_true, Bool.not_false, Nat.reduceSub, Int.reduceEq, Int.reduceNe, Int.reduceLT, Int.reduceLE, Int.reduceNeg, Int.reduceAdd, Int.reduceSub, Int.reduceToNat, Int.toNat_natCast, ne_eq, bin_lss, bin_leq, bin_gtr, bin_geq, bin_eql, bin_neq, bin_add, bin_sub, bin_mul, bin_str_eql, bin_str_neq, bin_bool_eql, bin_bool_neq, wrapF_i64, Option.isSome_none, len_str, len_vs, len_hs, len_nil, argSt, resS, pack_one, pack_two, pureK_eq, pureE_t, AVal.pures, AVal.pure, Bool.and_true, Bool.true_and, and_true, true_and, decide_eq_true_eq, decide_eq_false_iff_not, decide_true, decide_false, not_false_eq_true, not_true_eq_false, false_implies, true_implies, forall_const, implies_true, Bool.false_eq_true, Bool.and_self, cast0, cast1, Int.sub_zero, Int.zero_add, Int.add_zero, Nat.add_zero, h0, h1, h7, h8, e, hcall, himp, convA, hw, hshl, e2, haw]
  | some x =>
    rw [hrf] at hsr hF
    obtain ⟨xv, rfl, hxb⟩ := hsr
    simp only at hF
    have e2 : (((i * 2 ^ j : Nat) : Int) ≤ 256) = True := eq_true (by omega)
    have hxl : (x.length : Int) = ((i * 2 ^ j : Nat) : Int) := by rw [hF.1]
    obtain ⟨w, H3, himp, hwl⟩ : ∃ w H3, importA (.tup [xv, .bool true]) (H.set id (.arr ((tx i :: List.replicate j tw).map D.v) 3 cap ((tx i :: List.replicate j tw).map D.v).length)) = (.tup [w, .bool true], H3) ∧ ∀ H', lenA H' .slice w = some x.length := by
      by_cases hx0 : x = []
      · subst hx0
        rcases hxb with ⟨rfl, _⟩ | ⟨c, rfl⟩
        · exact ⟨_, _, rfl, fun _ => rfl⟩
        · exact ⟨_, _, rfl, fun _ => rfl⟩
      · rcases hxb with ⟨_, h⟩ | ⟨c, rfl⟩
        · exact absurd h hx0
        · exact ⟨_, _, import_tup_ne (ofBytes_ne hx0), fun _ => by rw [← ofBytes_length x]; rfl⟩
    rw [himp] at hcall
    simp (disch := omega) only [wp_skip, wp_ops, wp_seq, wp_block, wp_exit, wp_ret, wp_condm, wp_draw, wpL_nil, wpL_0, freeK_s, wpL_1, readK_s, wpL_2, writeK_s, wpL_g, gdK_b, gdK_u, List.zip_cons_cons, List.zip_nil_left, seqK_n, seqK_e, seqK_r, blockK_n, blockK_e, blockK_r, loopK_n, loopK_e, loopK_r, endK_r, endK_n, wpS_nil', wpS_op, opK_d, opK_0, wpS_g, guardK_b, guardK_u, putS_d, putS_0, wpS_frz, retellK_s, exOpS, evS_t, evS_c, upd, val, unit, isC, loadA, takeA, cells_agg, cells_int, cells_str, cells_bool, cells_vs, cells_nilsl, cells_hs, cells_ptr, cells_pimm, cells_nilptr, List.getElem?_cons_zero, List.getElem?_cons_succ, List.length_cons, List.length_nil, List.drop_zero, List.drop_succ_cons, List.take_succ_cons, List.take_zero, Nat.zero_add, flats, flat_int, flat_str, flat_bool, flat_vs, flat_nilsl, flat_hs, flat_ptr, flat_pimm, flat_nilptr, List.all_cons, List.all_nil, storeA, putElem, putCells, List.cons_append, List.nil_append, List.append_nil, List.set_cons_zero, Heap.get_new, set_set, get_new_set, frz_ptr, frzP_arr, frzB_t, stride_vs, stride_new, stride_new_set, stride_nil, stride_str, stride_ptr, stride_pimm, unA, nbeq_self, cond_true, cond_false, Nat.le_refl, Nat.zero_le, Nat.zero_lt_one, Nat.reduceLT, Nat.reduceLeDiff, Nat.zero_lt_succ, List.map_cons, List.map_nil, Option.map_some, Option.map_none, Nat.reduceEqDiff, Bool.or_false, Bool.or_true, Bool.false_or, Bool.true_or, ↓reduceIte, Nat.reduceAdd, reduceCtorEq, eq_self, beq_tt, beq_tf, beq_ft, beq_ff, beq_bt, beq_bf, Bool.not_true, Bool.not_false, Nat.reduceSub, Int.reduceEq, Int.reduceNe, Int.reduceLT, Int.reduceLE, Int.reduceNeg, Int.reduceAdd, Int.reduceSub, Int.reduceToNat, Int.toNat_natCast, ne_eq, bin_lss, bin_leq, bin_gtr, bin_geq, bin_eql, bin_neq, bin_add, bin_sub, bin_mul, bin_str_eql, bin_str_neq, bin_bool_eql, bin_bool_neq, wrapF_i64, Option.isSome_none, len_str, len_vs, len_hs, len_nil, argSt, resS, pack_one, pack_two, pureK_eq, pureE_t, AVal.pures, AVal.pure, Bool.and_true, Bool.true_and, and_true, true_and, decide_eq_true_eq, decide_eq_false_iff_not, decide_true, decide_false, not_false_eq_true, not_true_eq_false, false_implies, true_implies, forall_const, implies_true, Bool.false_eq_true, Bool.and_self, cast0, cast1, Int.sub_zero, Int.zero_add, Int.add_zero, Nat.add_zero, h0, h1, h7, h8, e, hcall, convA, hw, hshl, e2, haw, hwl, hxl]
end Go.Abx
