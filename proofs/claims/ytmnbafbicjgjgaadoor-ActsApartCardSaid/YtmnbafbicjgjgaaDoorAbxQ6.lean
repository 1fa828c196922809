/- Contracts of functions on bytes: Clone, Clip, turned, Reverse, Concat, Join, joined. -/
import Derived.Test.YtmnbafbicjgjgaaDoorAbxI6
import Derived.Test.YtmnbafbicjgjgaaDoorAbxT5
import Derived.KernelRfl
namespace Go.Abx
set_option maxRecDepth 100000
set_option linter.unusedSimpArgs false
set_option linter.unusedVariables false

/-! ### Clone, Clip -/
def cloneV (b : List Int) : AVal := if b = [] then .vs [] 1 (some 0) else .vs (ofBytes b) 1 none
theorem clone_nil : runOwn v_slices_Clone_byte_byte i_slices_Clone_byte_byte [.nilsl] = some .nilsl := by kernel_rfl
theorem clone_vs (b : List Int) (cap : Option Nat) (hb : b.length ≤ 140737488355328) : runOwn v_slices_Clone_byte_byte i_slices_Clone_byte_byte [.vs (ofBytes b) 1 cap] = some (cloneV b) := by
  refine runOwn_W (by kernel_rfl) (by kernel_rfl) (by simp [AVal.pures, AVal.pure, ofBytes_pure]) ?_
  by_cases h : b = []
  · subst h
    simp only [i_slices_Clone_byte_byte, wp_skip, wp_ops, wp_seq, wp_block, wp_exit, wp_ret, wp_condn, condK_b, condB_t, condB_f, condB_d, wp_draw, wpL_nil, wpL_0, freeK_s, wpL_1, readK_s, wpL_2, writeK_s, wpL_g, gdK_b, gdK_u, List.zip_cons_cons, List.zip_nil_left, seqK_n, seqK_e, seqK_r, blockK_n, blockK_e, blockK_r, loopK_n, loopK_e, loopK_r, endK_r, endK_n, wpS_nil', wpS_op, opK_d, opK_0, wpS_g, guardK_b, guardK_u, putS_d, putS_0, wpS_frz, retellK_s, exOpS, evS_t, evS_c, upd, val, unit, isC, loadA, takeA, cells_agg, cells_int, cells_str, cells_bool, cells_vs, cells_nilsl, cells_hs, cells_ptr, cells_pimm, cells_nilptr, List.getElem?_cons_zero, List.getElem?_cons_succ, List.length_cons, List.length_nil, List.drop_zero, List.drop_succ_cons, List.take_succ_cons, List.take_zero, Nat.zero_add, flats, flat_int, flat_str, flat_bool, flat_vs, flat_nilsl, flat_hs, flat_ptr, flat_pimm, flat_nilptr, List.all_cons, List.all_nil, storeA, putElem, putCells, List.cons_append, List.nil_append, List.append_nil, List.set_cons_zero, Heap.get_new, set_set, get_new_set, frz_ptr, frzP_arr, frzB_t, stride_vs, stride_new, stride_new_set, stride_nil, stride_str, stride_ptr, stride_pimm, unA, nbeq_self, cond_true, cond_false, Nat.le_refl, Nat.zero_le, Nat.zero_lt_one, Nat.reduceLT, Nat.reduceLeDiff, Nat.zero_lt_succ, List.map_cons, List.map_nil, Option.map_some, Option.map_none, Nat.reduceEqDiff, Bool.or_false, Bool.or_true, Bool.false_or, Bool.true_or, ↓reduceIte, Nat.reduceAdd, reduceCtorEq, eq_self, beq_tt, beq_tf, beq_ft, beq_ff, beq_bt, beq_bf, Bool.not_true, Bool.not_false, Nat.reduceSub, Int.reduceEq, Int.reduceNe, Int.reduceLT, Int.reduceLE, Int.reduceNeg, Int.reduceAdd, Int.reduceSub, Int.reduceToNat, Int.toNat_natCast, ne_eq, bin_lss, bin_leq, bin_gtr, bin_geq, bin_eql, bin_neq, bin_add, bin_sub, bin_mul, bin_str_eql, bin_str_neq, bin_bool_eql, bin_bool_neq, wrapF_i64, Option.isSome_none, len_str, len_vs, len_hs, len_nil, argSt, resS, pack_one, pack_two, pureK_eq, pureE_t, AVal.pures, AVal.pure, Bool.and_true, Bool.true_and, and_true, true_and, decide_eq_true_eq, decide_eq_false_iff_not, decide_true, decide_false, not_false_eq_true, not_true_eq_false, false_implies, true_implies, forall_const, implies_true, Bool.false_eq_true, sl_vs_nil, fillEls, List.replicate_zero, ofBytes_nil, app_empty src_vs]
    exact ownK_vs rfl (by simp [cloneV, pack])
  · have ha := app_vs0 (H := Heap.empty) (bytes := 1) (z := 1) (src_vs (H := Heap.empty) (sz := 1) (es := ofBytes b) (z := 1) (cap := cap)) (ofBytes_ne h) (by rw [ofBytes_length]; omega)
    simp only [i_slices_Clone_byte_byte, wp_skip, wp_ops, wp_seq, wp_block, wp_exit, wp_ret, wp_condn, condK_b, condB_t, condB_f, condB_d, wp_draw, wpL_nil, wpL_0, freeK_s, wpL_1, readK_s, wpL_2, writeK_s, wpL_g, gdK_b, gdK_u, List.zip_cons_cons, List.zip_nil_left, seqK_n, seqK_e, seqK_r, blockK_n, blockK_e, blockK_r, loopK_n, loopK_e, loopK_r, endK_r, endK_n, wpS_nil', wpS_op, opK_d, opK_0, wpS_g, guardK_b, guardK_u, putS_d, putS_0, wpS_frz, retellK_s, exOpS, evS_t, evS_c, upd, val, unit, isC, loadA, takeA, cells_agg, cells_int, cells_str, cells_bool, cells_vs, cells_nilsl, cells_hs, cells_ptr, cells_pimm, cells_nilptr, List.getElem?_cons_zero, List.getElem?_cons_succ, List.length_cons, List.length_nil, List.drop_zero, List.drop_succ_cons, List.take_succ_cons, List.take_zero, Nat.zero_add, flats, flat_int, flat_str, flat_bool, flat_vs, flat_nilsl, flat_hs, flat_ptr, flat_pimm, flat_nilptr, List.all_cons, List.all_nil, storeA, putElem, putCells, List.cons_append, List.nil_append, List.append_nil, List.set_cons_zero, Heap.get_new, set_set, get_new_set, frz_ptr, frzP_arr, frzB_t, stride_vs, stride_new, stride_new_set, stride_nil, stride_str, stride_ptr, stride_pimm, unA, nbeq_self, cond_true, cond_false, Nat.le_refl, Nat.zero_le, Nat.zero_lt_one, Nat.reduceLT, Nat.reduceLeDiff, Nat.zero_lt_succ, List.map_cons, List.map_nil, Option.map_some, Option.map_none, Nat.reduceEqDiff, Bool.or_false, Bool.or_true, Bool.false_or, Bool.true_or, ↓reduceIte, Nat.reduceAdd, reduceCtorEq, eq_self, beq_tt, beq_tf, beq_ft, beq_ff, beq_bt, beq_bf, Bool.not_true, Bool.not_false, Nat.reduceSub, Int.reduceEq, Int.reduceNe, Int.reduceLT, Int.reduceLE, Int.reduceNeg, Int.reduceAdd, Int.reduceSub, Int.reduceToNat, Int.toNat_natCast, ne_eq, bin_lss, bin_leq, bin_gtr, bin_geq, bin_eql, bin_neq, bin_add, bin_sub, bin_mul, bin_str_eql, bin_str_neq, bin_bool_eql, bin_bool_neq, wrapF_i64, Option.isSome_none, len_str, len_vs, len_hs, len_nil, argSt, resS, pack_one, pack_two, pureK_eq, pureE_t, AVal.pures, AVal.pure, Bool.and_true, Bool.true_and, and_true, true_and, decide_eq_true_eq, decide_eq_false_iff_not, decide_true, decide_false, not_false_eq_true, not_true_eq_false, false_implies, true_implies, forall_const, implies_true, Bool.false_eq_true, sl_vs_nil, fillEls, List.replicate_zero, ha]
    refine ownK_hs ?_
    rw [Heap.get_new]
    exact ⟨rfl, ofBytes_pure b, rfl, by simp [cloneV, h, pack]⟩
theorem clone_bs {v : AVal} {b : List Int} (h : isBs v b) (hb : b.length ≤ 140737488355328) : ∃ r, runOwn v_slices_Clone_byte_byte i_slices_Clone_byte_byte [v] = some r ∧ isBs r b ∧ (r = .nilsl ∨ r = cloneV b) := by
  rcases h with ⟨rfl, rfl⟩ | ⟨cap, rfl⟩
  · exact ⟨_, clone_nil, .inl ⟨rfl, rfl⟩, .inl rfl⟩
  · refine ⟨_, clone_vs b cap hb, .inr ?_, .inr rfl⟩
    unfold cloneV
    split
    · rename_i h; subst h; exact ⟨_, rfl⟩
    · exact ⟨_, rfl⟩

/-! ### Grow, Concat -/
theorem grow_0 (H : Heap) : runRaw v_slices_Grow_byte_byte i_slices_Grow_byte_byte [.nilsl, .int .i64 0] H = some (.nilsl, H) := by kernel_rfl
theorem grow_n (n : Nat) (h0 : n ≠ 0) (hn : n ≤ 1099511627776) (H : Heap) : runRaw v_slices_Grow_byte_byte i_slices_Grow_byte_byte [.nilsl, .int .i64 n] H = some (.hs H.next 0 0 none, (H.new (.arr (List.replicate n (.int .u8 0)) 1 none 0)).set H.next (.arr [] 1 none 0)) := by
  refine runRaw_W (by kernel_rfl) (by kernel_rfl) ?_
  have e1 : ((n : Int) < 0) = False := eq_false (by omega)
  have e2 : ((0 : Int) < (n : Int)) = True := eq_true (by omega)
  have ez : appendZA (.int .u8 0) 1 1 .nilsl (.int .i64 (n : Int)) H = some (.hs H.next 0 n none, H.new (.arr (List.replicate n (.int .u8 0)) 1 none 0)) := by
    unfold appendZA
    simp only
    rw [if_pos (by omega), if_neg (by omega)]
    simp; omega
  have es : ∀ id, sliceA false 1 (.hs id 0 n none) none (some (.int .i64 0)) none = some (.hs id 0 0 none) := fun id => by simp [sliceA, bounds, optBnd, bnd]
  have es0 : sliceA false 1 .nilsl none (some (.int .i64 0)) none = some .nilsl := by simp [sliceA, bounds, optBnd, bnd]
  simp (disch := omega) only [i_slices_Grow_byte_byte, wp_skip, wp_ops, wp_seq, wp_block, wp_exit, wp_ret, wp_condn, condK_b, condB_t, condB_f, condB_d, wp_draw, wpL_nil, wpL_0, freeK_s, wpL_1, readK_s, wpL_2, writeK_s, wpL_g, gdK_b, gdK_u, List.zip_cons_cons, List.zip_nil_left, seqK_n, seqK_e, seqK_r, blockK_n, blockK_e, blockK_r, loopK_n, loopK_e, loopK_r, endK_r, endK_n, wpS_nil', wpS_op, opK_d, opK_0, wpS_g, guardK_b, guardK_u, putS_d, putS_0, wpS_frz, retellK_s, exOpS, evS_t, evS_c, upd, val, unit, isC, loadA, takeA, cells_agg, cells_int, cells_str, cells_bool, cells_vs, cells_nilsl, cells_hs, cells_ptr, cells_pimm, cells_nilptr, List.getElem?_cons_zero, List.getElem?_cons_succ, List.length_cons, List.length_nil, List.drop_zero, List.drop_succ_cons, List.take_succ_cons, List.take_zero, Nat.zero_add, flats, flat_int, flat_str, flat_bool, flat_vs, flat_nilsl, flat_hs, flat_ptr, flat_pimm, flat_nilptr, List.all_cons, List.all_nil, storeA, putElem, putCells, List.cons_append, List.nil_append, List.append_nil, List.set_cons_zero, Heap.get_new, set_set, get_new_set, frz_ptr, frzP_arr, frzB_t, stride_vs, stride_new, stride_new_set, stride_nil, stride_str, stride_ptr, stride_pimm, unA, nbeq_self, cond_true, cond_false, Nat.le_refl, Nat.zero_le, Nat.zero_lt_one, Nat.reduceLT, Nat.reduceLeDiff, Nat.zero_lt_succ, List.map_cons, List.map_nil, Option.map_some, Option.map_none, Nat.reduceEqDiff, Bool.or_false, Bool.or_true, Bool.false_or, Bool.true_or, ↓reduceIte, Nat.reduceAdd, reduceCtorEq, eq_self, beq_tt, beq_tf, beq_ft, beq_ff, beq_bt, beq_bf, Bool.not_true, Bool.not_false, Nat.reduceSub, Int.reduceEq, Int.reduceNe, Int.reduceLT, Int.reduceLE, Int.reduceNeg, Int.reduceAdd, Int.reduceSub, Int.reduceToNat, Int.toNat_natCast, ne_eq, bin_lss, bin_leq, bin_gtr, bin_geq, bin_eql, bin_neq, bin_add, bin_sub, bin_mul, bin_str_eql, bin_str_neq, bin_bool_eql, bin_bool_neq, wrapF_i64, Option.isSome_none, len_str, len_vs, len_hs, len_nil, argSt, resS, pack_one, pack_two, pureK_eq, pureE_t, AVal.pures, AVal.pure, Bool.and_true, Bool.true_and, and_true, true_and, decide_eq_true_eq, decide_eq_false_iff_not, decide_true, decide_false, not_false_eq_true, not_true_eq_false, false_implies, true_implies, forall_const, implies_true, Bool.false_eq_true, Bool.and_self, cast0, cast1, Int.sub_zero, Int.zero_add, Int.add_zero, Nat.add_zero, capA, e1, e2, es, es0, Option.map_none, ez]
  rw [wpS_trunc (H := H.new (.arr (List.replicate n (.int .u8 0)) 1 none 0)) (id := H.next) (n := 0) rfl (Heap.get_new _ _) ⟨by omega, by omega⟩]
  simp (disch := omega) only [wp_skip, wp_ops, wp_seq, wp_block, wp_exit, wp_ret, wp_condn, condK_b, condB_t, condB_f, condB_d, wp_draw, wpL_nil, wpL_0, freeK_s, wpL_1, readK_s, wpL_2, writeK_s, wpL_g, gdK_b, gdK_u, List.zip_cons_cons, List.zip_nil_left, seqK_n, seqK_e, seqK_r, blockK_n, blockK_e, blockK_r, loopK_n, loopK_e, loopK_r, endK_r, endK_n, wpS_nil', wpS_op, opK_d, opK_0, wpS_g, guardK_b, guardK_u, putS_d, putS_0, wpS_frz, retellK_s, exOpS, evS_t, evS_c, upd, val, unit, isC, loadA, takeA, cells_agg, cells_int, cells_str, cells_bool, cells_vs, cells_nilsl, cells_hs, cells_ptr, cells_pimm, cells_nilptr, List.getElem?_cons_zero, List.getElem?_cons_succ, List.length_cons, List.length_nil, List.drop_zero, List.drop_succ_cons, List.take_succ_cons, List.take_zero, Nat.zero_add, flats, flat_int, flat_str, flat_bool, flat_vs, flat_nilsl, flat_hs, flat_ptr, flat_pimm, flat_nilptr, List.all_cons, List.all_nil, storeA, putElem, putCells, List.cons_append, List.nil_append, List.append_nil, List.set_cons_zero, Heap.get_new, set_set, get_new_set, frz_ptr, frzP_arr, frzB_t, stride_vs, stride_new, stride_new_set, stride_nil, stride_str, stride_ptr, stride_pimm, unA, nbeq_self, cond_true, cond_false, Nat.le_refl, Nat.zero_le, Nat.zero_lt_one, Nat.reduceLT, Nat.reduceLeDiff, Nat.zero_lt_succ, List.map_cons, List.map_nil, Option.map_some, Option.map_none, Nat.reduceEqDiff, Bool.or_false, Bool.or_true, Bool.false_or, Bool.true_or, ↓reduceIte, Nat.reduceAdd, reduceCtorEq, eq_self, beq_tt, beq_tf, beq_ft, beq_ff, beq_bt, beq_bf, Bool.not_true, Bool.not_false, Nat.reduceSub, Int.reduceEq, Int.reduceNe, Int.reduceLT, Int.reduceLE, Int.reduceNeg, Int.reduceAdd, Int.reduceSub, Int.reduceToNat, Int.toNat_natCast, ne_eq, bin_lss, bin_leq, bin_gtr, bin_geq, bin_eql, bin_neq, bin_add, bin_sub, bin_mul, bin_str_eql, bin_str_neq, bin_bool_eql, bin_bool_neq, wrapF_i64, Option.isSome_none, len_str, len_vs, len_hs, len_nil, argSt, resS, pack_one, pack_two, pureK_eq, pureE_t, AVal.pures, AVal.pure, Bool.and_true, Bool.true_and, and_true, true_and, decide_eq_true_eq, decide_eq_false_iff_not, decide_true, decide_false, not_false_eq_true, not_true_eq_false, false_implies, true_implies, forall_const, implies_true, Bool.false_eq_true, Bool.and_self, cast0, cast1, Int.sub_zero, Int.zero_add, Int.add_zero, Nat.add_zero]
  exact ⟨rfl, rfl⟩

/-- Bytes of one's own: none, where there are none. -/
def ownV (b : List Int) : AVal := if b = [] then .nilsl else .vs (ofBytes b) 1 none
theorem ownV_bs (b : List Int) : isBs (ownV b) b := by
  unfold ownV
  split
  · exact .inl ⟨rfl, by assumption⟩
  · exact .inr ⟨_, rfl⟩
/-- The slice that is appended to: nothing yet, or an object. -/
def Acc (v : AVal) (H : Heap) (b : List Int) : Prop := (v = .nilsl ∧ b = []) ∨ ∃ id, v = .hs id 0 (ofBytes b).length none ∧ H.get id = some (.arr (ofBytes b) 1 none 0) ∧ id < H.next
theorem Acc.app {v x : AVal} {H : Heap} {b c : List Int} (h : Acc v H b) (hx : srcEls 1 H x = some (ofBytes c)) (hl : b.length + c.length ≤ 140737488355328) : ∃ v' H', appendA 1 1 v x H = some (v', H') ∧ Acc v' H' (b ++ c) := by
  by_cases hc : c = []
  · subst hc
    rw [List.append_nil]
    rcases h with ⟨rfl, rfl⟩ | ⟨id, rfl, hg, hi⟩
    · exact ⟨_, _, app_empty_nil hx, .inl ⟨rfl, rfl⟩⟩
    · exact ⟨_, _, app_empty_hs hx, .inr ⟨id, rfl, hg, hi⟩⟩
  · rcases h with ⟨rfl, rfl⟩ | ⟨id, rfl, hg, hi⟩
    · refine ⟨_, _, app_nil hx (ofBytes_ne hc) (by rw [ofBytes_length]; simpa using hl), .inr ⟨H.next, rfl, ?_, ?_⟩⟩
      · rw [Heap.get_new]; rfl
      · rw [next_new]; omega
    · refine ⟨_, _, app_hs hx (ofBytes_ne hc) hg (by simp only [ofBytes_length]; omega), .inr ⟨H.next, ?_, ?_, ?_⟩⟩
      · simp [ofBytes_length]
      · rw [← next_drop (H := H) id, Heap.get_new, ofBytes_app]
      · rw [next_new, next_drop]; omega
theorem Acc.len {v : AVal} {H : Heap} {b : List Int} (h : Acc v H b) : lenA H .slice v = some b.length := by
  rcases h with ⟨rfl, rfl⟩ | ⟨id, rfl, hg, hi⟩
  · rfl
  · simp [lenA, ofBytes_length]
theorem Acc.stride {v : AVal} {H : Heap} {b : List Int} (h : Acc v H b) : stride H 1 v = true := by
  rcases h with ⟨rfl, rfl⟩ | ⟨id, rfl, hg, hi⟩
  · rfl
  · simp [Abx.stride, hg]
theorem Acc.own {v : AVal} {H : Heap} {b : List Int} (h : Acc v H b) (hn : b = [] → v = .nilsl) : ownK (ownV b) [v] H := by
  rcases h with ⟨rfl, rfl⟩ | ⟨id, rfl, hg, hi⟩
  · exact ownK_nil rfl rfl
  · refine ownK_hs ?_
    rw [hg]
    refine ⟨rfl, ofBytes_pure b, rfl, ?_⟩
    unfold ownV
    by_cases hb : b = []
    · cases hn hb
    · rw [if_neg hb]; rfl

/-- Several bytes, one behind the other. -/
def catB (ps : List (AVal × List Int)) : List Int := (ps.map (·.2)).flatten
theorem catB_app (p : List (AVal × List Int)) (x : AVal × List Int) : catB (p ++ [x]) = catB p ++ x.2 := by simp [catB]
theorem concat_run (ps : List (AVal × List Int)) (cap : Option Nat) (hps : ∀ p ∈ ps, isBs p.1 p.2) (hl : ps.length < many) (ht : (catB ps).length ≤ 1099511627776) :
    ∃ v, runOwn v_slices_Concat_byte_byte i_slices_Concat_byte_byte [.vs (ps.map (·.1)) 1 cap] = some v ∧ isBs v (catB ps) := by
  have hpure : AVal.pures (ps.map (·.1)) = true := pures_of fun x hx => by
    obtain ⟨p, hp, rfl⟩ := List.mem_map.1 hx; exact (hps p hp).pure
  refine ⟨ownV (catB ps), runOwn_W (by kernel_rfl) (by kernel_rfl) (by simp [AVal.pures, AVal.pure, hpure]) ?_, ownV_bs _⟩
  simp (disch := omega) only [i_slices_Concat_byte_byte, wp_skip, wp_ops, wp_seq, wp_block, wp_exit, wp_ret, wp_condn, condK_b, condB_t, condB_f, condB_d, wp_draw, wpL_nil, wpL_0, freeK_s, wpL_1, readK_s, wpL_2, writeK_s, wpL_g, gdK_b, gdK_u, List.zip_cons_cons, List.zip_nil_left, seqK_n, seqK_e, seqK_r, blockK_n, blockK_e, blockK_r, loopK_n, loopK_e, loopK_r, endK_r, endK_n, wpS_nil', wpS_op, opK_d, opK_0, wpS_g, guardK_b, guardK_u, putS_d, putS_0, wpS_frz, retellK_s, exOpS, evS_t, evS_c, upd, val, unit, isC, loadA, takeA, cells_agg, cells_int, cells_str, cells_bool, cells_vs, cells_nilsl, cells_hs, cells_ptr, cells_pimm, cells_nilptr, List.getElem?_cons_zero, List.getElem?_cons_succ, List.length_cons, List.length_nil, List.drop_zero, List.drop_succ_cons, List.take_succ_cons, List.take_zero, Nat.zero_add, flats, flat_int, flat_str, flat_bool, flat_vs, flat_nilsl, flat_hs, flat_ptr, flat_pimm, flat_nilptr, List.all_cons, List.all_nil, storeA, putElem, putCells, List.cons_append, List.nil_append, List.append_nil, List.set_cons_zero, Heap.get_new, set_set, get_new_set, frz_ptr, frzP_arr, frzB_t, stride_vs, stride_new, stride_new_set, stride_nil, stride_str, stride_ptr, stride_pimm, unA, nbeq_self, cond_true, cond_false, Nat.le_refl, Nat.zero_le, Nat.zero_lt_one, Nat.reduceLT, Nat.reduceLeDiff, Nat.zero_lt_succ, List.map_cons, List.map_nil, Option.map_some, Option.map_none, Nat.reduceEqDiff, Bool.or_false, Bool.or_true, Bool.false_or, Bool.true_or, ↓reduceIte, Nat.reduceAdd, reduceCtorEq, eq_self, beq_tt, beq_tf, beq_ft, beq_ff, beq_bt, beq_bf, Bool.not_true, Bool.not_false, Nat.reduceSub, Int.reduceEq, Int.reduceNe, Int.reduceLT, Int.reduceLE, Int.reduceNeg, Int.reduceAdd, Int.reduceSub, Int.reduceToNat, Int.toNat_natCast, ne_eq, bin_lss, bin_leq, bin_gtr, bin_geq, bin_eql, bin_neq, bin_add, bin_sub, bin_mul, bin_str_eql, bin_str_neq, bin_bool_eql, bin_bool_neq, wrapF_i64, Option.isSome_none, len_str, len_vs, len_hs, len_nil, argSt, resS, pack_one, pack_two, pureK_eq, pureE_t, AVal.pures, AVal.pure, Bool.and_true, Bool.true_and, and_true, true_and, decide_eq_true_eq, decide_eq_false_iff_not, decide_true, decide_false, not_false_eq_true, not_true_eq_false, false_implies, true_implies, forall_const, implies_true, Bool.false_eq_true, Bool.and_self, cast0, cast1, Int.sub_zero, Int.zero_add, Int.add_zero, Nat.add_zero, List.length_map]
  refine wp_loopI (fun n σ H => ∃ p q, ps = p ++ q ∧ n = q.length ∧ σ 0 = .vs (ps.map (·.1)) 1 cap ∧ σ 9 = .vs (ps.map (·.1)) 1 cap ∧ σ 10 = .int .i64 ps.length ∧ σ 11 = .int .i64 p.length ∧ σ 3 = .int .i64 (catB p).length ∧ H = Heap.empty) ps.length hl ⟨[], ps, rfl, rfl, rfl, rfl, rfl, rfl, rfl, rfl⟩ ?_
  rintro J hJ n σ H ⟨p, q, hpq, rfl, h0, h9, h10, h11, h3, rfl⟩
  unfold many at hl
  have hlen : ps.length = p.length + q.length := by rw [hpq, List.length_append]
  cases q with
  | cons x q =>
    have e : ((p.length : Int) < (ps.length : Int)) = True := eq_true (by simp at hlen; omega)
    have hx : (ps.map (·.1))[p.length]? = some x.1 := by rw [hpq]; simp
    have hxb : isBs x.1 x.2 := hps x (by rw [hpq]; simp)
    have hle : (catB p).length + x.2.length ≤ 1099511627776 := by
      refine Nat.le_trans ?_ ht
      rw [hpq]; simp [catB]
    have en : (((catB p).length : Int) + (x.2.length : Int) < 0) = False := eq_false (by omega)
    simp (disch := omega) only [wp_skip, wp_ops, wp_seq, wp_block, wp_exit, wp_ret, wp_condn, condK_b, condB_t, condB_f, condB_d, wp_draw, wpL_nil, wpL_0, freeK_s, wpL_1, readK_s, wpL_2, writeK_s, wpL_g, gdK_b, gdK_u, List.zip_cons_cons, List.zip_nil_left, seqK_n, seqK_e, seqK_r, blockK_n, blockK_e, blockK_r, loopK_n, loopK_e, loopK_r, endK_r, endK_n, wpS_nil', wpS_op, opK_d, opK_0, wpS_g, guardK_b, guardK_u, putS_d, putS_0, wpS_frz, retellK_s, exOpS, evS_t, evS_c, upd, val, unit, isC, loadA, takeA, cells_agg, cells_int, cells_str, cells_bool, cells_vs, cells_nilsl, cells_hs, cells_ptr, cells_pimm, cells_nilptr, List.getElem?_cons_zero, List.getElem?_cons_succ, List.length_cons, List.length_nil, List.drop_zero, List.drop_succ_cons, List.take_succ_cons, List.take_zero, Nat.zero_add, flats, flat_int, flat_str, flat_bool, flat_vs, flat_nilsl, flat_hs, flat_ptr, flat_pimm, flat_nilptr, List.all_cons, List.all_nil, storeA, putElem, putCells, List.cons_append, List.nil_append, List.append_nil, List.set_cons_zero, Heap.get_new, set_set, get_new_set, frz_ptr, frzP_arr, frzB_t, stride_vs, stride_new, stride_new_set, stride_nil, stride_str, stride_ptr, stride_pimm, unA, nbeq_self, cond_true, cond_false, Nat.le_refl, Nat.zero_le, Nat.zero_lt_one, Nat.reduceLT, Nat.reduceLeDiff, Nat.zero_lt_succ, List.map_cons, List.map_nil, Option.map_some, Option.map_none, Nat.reduceEqDiff, Bool.or_false, Bool.or_true, Bool.false_or, Bool.true_or, ↓reduceIte, Nat.reduceAdd, reduceCtorEq, eq_self, beq_tt, beq_tf, beq_ft, beq_ff, beq_bt, beq_bf, Bool.not_true, Bool.not_false, Nat.reduceSub, Int.reduceEq, Int.reduceNe, Int.reduceLT, Int.reduceLE, Int.reduceNeg, Int.reduceAdd, Int.reduceSub, Int.reduceToNat, Int.toNat_natCast, ne_eq, bin_lss, bin_leq, bin_gtr, bin_geq, bin_eql, bin_neq, bin_add, bin_sub, bin_mul, bin_str_eql, bin_str_neq, bin_bool_eql, bin_bool_neq, wrapF_i64, Option.isSome_none, len_str, len_vs, len_hs, len_nil, argSt, resS, pack_one, pack_two, pureK_eq, pureE_t, AVal.pures, AVal.pure, Bool.and_true, Bool.true_and, and_true, true_and, decide_eq_true_eq, decide_eq_false_iff_not, decide_true, decide_false, not_false_eq_true, not_true_eq_false, false_implies, true_implies, forall_const, implies_true, Bool.false_eq_true, Bool.and_self, cast0, cast1, Int.sub_zero, Int.zero_add, Int.add_zero, Nat.add_zero, h0, h9, h10, h11, h3, e, addr_vs_at hx, hxb.cells, hxb.len, en]
    subst hJ
    refine ⟨q.length, by simp, p ++ [x], q, by simp [hpq], rfl, ?_, ?_, ?_, ?_, ?_, rfl⟩
    · simp [upd, h0]
    · simp [upd, h9]
    · simp [upd, h10]
    · simp [upd]
    · simp [upd, catB_app]
  | nil =>
    have e : ((p.length : Int) < (ps.length : Int)) = False := eq_false (by simp at hlen; omega)
    have hps' : ps = p := by simpa using hpq
    rw [← hps'] at h3
    obtain ⟨v0, H0, hg, hA, hz⟩ : ∃ v0 H0, exCall v_slices_Concat_byte_byte 32 .raw [.nilsl, .int .i64 (catB ps).length] Heap.empty = some (v0, H0) ∧ Acc v0 H0 [] ∧ (catB ps = [] → v0 = .nilsl) := by
      by_cases hc : catB ps = []
      · refine ⟨_, _, exCall_raw rfl (by rw [hc]; exact grow_0 _), .inl ⟨rfl, rfl⟩, fun _ => rfl⟩
      · refine ⟨_, _, exCall_raw rfl (grow_n _ (fun h => hc (List.length_eq_zero_iff.1 h)) ht _), .inr ⟨_, rfl, ?_, ?_⟩, fun h => absurd h hc⟩
        · rw [get_new_set]; rfl
        · rw [next_set, next_new]; omega
    simp (disch := omega) only [wp_skip, wp_ops, wp_seq, wp_block, wp_exit, wp_ret, wp_condn, condK_b, condB_t, condB_f, condB_d, wp_draw, wpL_nil, wpL_0, freeK_s, wpL_1, readK_s, wpL_2, writeK_s, wpL_g, gdK_b, gdK_u, List.zip_cons_cons, List.zip_nil_left, seqK_n, seqK_e, seqK_r, blockK_n, blockK_e, blockK_r, loopK_n, loopK_e, loopK_r, endK_r, endK_n, wpS_nil', wpS_op, opK_d, opK_0, wpS_g, guardK_b, guardK_u, putS_d, putS_0, wpS_frz, retellK_s, exOpS, evS_t, evS_c, upd, val, unit, isC, loadA, takeA, cells_agg, cells_int, cells_str, cells_bool, cells_vs, cells_nilsl, cells_hs, cells_ptr, cells_pimm, cells_nilptr, List.getElem?_cons_zero, List.getElem?_cons_succ, List.length_cons, List.length_nil, List.drop_zero, List.drop_succ_cons, List.take_succ_cons, List.take_zero, Nat.zero_add, flats, flat_int, flat_str, flat_bool, flat_vs, flat_nilsl, flat_hs, flat_ptr, flat_pimm, flat_nilptr, List.all_cons, List.all_nil, storeA, putElem, putCells, List.cons_append, List.nil_append, List.append_nil, List.set_cons_zero, Heap.get_new, set_set, get_new_set, frz_ptr, frzP_arr, frzB_t, stride_vs, stride_new, stride_new_set, stride_nil, stride_str, stride_ptr, stride_pimm, unA, nbeq_self, cond_true, cond_false, Nat.le_refl, Nat.zero_le, Nat.zero_lt_one, Nat.reduceLT, Nat.reduceLeDiff, Nat.zero_lt_succ, List.map_cons, List.map_nil, Option.map_some, Option.map_none, Nat.reduceEqDiff, Bool.or_false, Bool.or_true, Bool.false_or, Bool.true_or, ↓reduceIte, Nat.reduceAdd, reduceCtorEq, eq_self, beq_tt, beq_tf, beq_ft, beq_ff, beq_bt, beq_bf, Bool.not_true, Bool.not_false, Nat.reduceSub, Int.reduceEq, Int.reduceNe, Int.reduceLT, Int.reduceLE, Int.reduceNeg, Int.reduceAdd, Int.reduceSub, Int.reduceToNat, Int.toNat_natCast, ne_eq, bin_lss, bin_leq, bin_gtr, bin_geq, bin_eql, bin_neq, bin_add, bin_sub, bin_mul, bin_str_eql, bin_str_neq, bin_bool_eql, bin_bool_neq, wrapF_i64, Option.isSome_none, len_str, len_vs, len_hs, len_nil, argSt, resS, pack_one, pack_two, pureK_eq, pureE_t, AVal.pures, AVal.pure, Bool.and_true, Bool.true_and, and_true, true_and, decide_eq_true_eq, decide_eq_false_iff_not, decide_true, decide_false, not_false_eq_true, not_true_eq_false, false_implies, true_implies, forall_const, implies_true, Bool.false_eq_true, Bool.and_self, cast0, cast1, Int.sub_zero, Int.zero_add, Int.add_zero, Nat.add_zero, h0, h9, h10, h11, h3, e, hg, List.length_map]
    refine wp_loopI (fun n σ H => ∃ p q, ps = p ++ q ∧ n = q.length ∧ σ 25 = .vs (ps.map (·.1)) 1 cap ∧ σ 26 = .int .i64 ps.length ∧ σ 27 = .int .i64 p.length ∧ Acc (σ 6) H (catB p) ∧ (catB ps = [] → σ 6 = .nilsl)) ps.length (by unfold many; omega) ⟨[], ps, rfl, rfl, rfl, rfl, rfl, hA, hz⟩ ?_
    clear hJ J h0 h9 h10 h11 h3 hA hz hps' hpq hlen e σ p hg
    rintro J hJ n σ H ⟨p, q, hpq, rfl, h25, h26, h27, hA, hz⟩
    have hlen : ps.length = p.length + q.length := by rw [hpq, List.length_append]
    cases q with
    | nil =>
      have e : ((p.length : Int) < (ps.length : Int)) = False := eq_false (by simp at hlen; omega)
      simp (disch := omega) only [wp_skip, wp_ops, wp_seq, wp_block, wp_exit, wp_ret, wp_condn, condK_b, condB_t, condB_f, condB_d, wp_draw, wpL_nil, wpL_0, freeK_s, wpL_1, readK_s, wpL_2, writeK_s, wpL_g, gdK_b, gdK_u, List.zip_cons_cons, List.zip_nil_left, seqK_n, seqK_e, seqK_r, blockK_n, blockK_e, blockK_r, loopK_n, loopK_e, loopK_r, endK_r, endK_n, wpS_nil', wpS_op, opK_d, opK_0, wpS_g, guardK_b, guardK_u, putS_d, putS_0, wpS_frz, retellK_s, exOpS, evS_t, evS_c, upd, val, unit, isC, loadA, takeA, cells_agg, cells_int, cells_str, cells_bool, cells_vs, cells_nilsl, cells_hs, cells_ptr, cells_pimm, cells_nilptr, List.getElem?_cons_zero, List.getElem?_cons_succ, List.length_cons, List.length_nil, List.drop_zero, List.drop_succ_cons, List.take_succ_cons, List.take_zero, Nat.zero_add, flats, flat_int, flat_str, flat_bool, flat_vs, flat_nilsl, flat_hs, flat_ptr, flat_pimm, flat_nilptr, List.all_cons, List.all_nil, storeA, putElem, putCells, List.cons_append, List.nil_append, List.append_nil, List.set_cons_zero, Heap.get_new, set_set, get_new_set, frz_ptr, frzP_arr, frzB_t, stride_vs, stride_new, stride_new_set, stride_nil, stride_str, stride_ptr, stride_pimm, unA, nbeq_self, cond_true, cond_false, Nat.le_refl, Nat.zero_le, Nat.zero_lt_one, Nat.reduceLT, Nat.reduceLeDiff, Nat.zero_lt_succ, List.map_cons, List.map_nil, Option.map_some, Option.map_none, Nat.reduceEqDiff, Bool.or_false, Bool.or_true, Bool.false_or, Bool.true_or, ↓reduceIte, Nat.reduceAdd, reduceCtorEq, eq_self, beq_tt, beq_tf, beq_ft, beq_ff, beq_bt, beq_bf, Bool.not_true, Bool.not_false, Nat.reduceSub, Int.reduceEq, Int.reduceNe, Int.reduceLT, Int.reduceLE, Int.reduceNeg, Int.reduceAdd, Int.reduceSub, Int.reduceToNat, Int.toNat_natCast, ne_eq, bin_lss, bin_leq, bin_gtr, bin_geq, bin_eql, bin_neq, bin_add, bin_sub, bin_mul, bin_str_eql, bin_str_neq, bin_bool_eql, bin_bool_neq, wrapF_i64, Option.isSome_none, len_str, len_vs, len_hs, len_nil, argSt, resS, pack_one, pack_two, pureK_eq, pureE_t, AVal.pures, AVal.pure, Bool.and_true, Bool.true_and, and_true, true_and, decide_eq_true_eq, decide_eq_false_iff_not, decide_true, decide_false, not_false_eq_true, not_true_eq_false, false_implies, true_implies, forall_const, implies_true, Bool.false_eq_true, Bool.and_self, cast0, cast1, Int.sub_zero, Int.zero_add, Int.add_zero, Nat.add_zero, h25, h26, h27, e]
      have hps' : ps = p := by simpa using hpq
      rw [← hps'] at hA
      exact hA.own hz
    | cons x q =>
      have e : ((p.length : Int) < (ps.length : Int)) = True := eq_true (by simp at hlen; omega)
      have hx : (ps.map (·.1))[p.length]? = some x.1 := by rw [hpq]; simp
      have hxb : isBs x.1 x.2 := hps x (by rw [hpq]; simp)
      have hle : (catB p).length + x.2.length ≤ 1099511627776 := by
        refine Nat.le_trans ?_ ht
        rw [hpq]; simp [catB]
      obtain ⟨v', H', hap, hA'⟩ := hA.app (src_bs hxb) (by omega)
      simp (disch := omega) only [wp_skip, wp_ops, wp_seq, wp_block, wp_exit, wp_ret, wp_condn, condK_b, condB_t, condB_f, condB_d, wp_draw, wpL_nil, wpL_0, freeK_s, wpL_1, readK_s, wpL_2, writeK_s, wpL_g, gdK_b, gdK_u, List.zip_cons_cons, List.zip_nil_left, seqK_n, seqK_e, seqK_r, blockK_n, blockK_e, blockK_r, loopK_n, loopK_e, loopK_r, endK_r, endK_n, wpS_nil', wpS_op, opK_d, opK_0, wpS_g, guardK_b, guardK_u, putS_d, putS_0, wpS_frz, retellK_s, exOpS, evS_t, evS_c, upd, val, unit, isC, loadA, takeA, cells_agg, cells_int, cells_str, cells_bool, cells_vs, cells_nilsl, cells_hs, cells_ptr, cells_pimm, cells_nilptr, List.getElem?_cons_zero, List.getElem?_cons_succ, List.length_cons, List.length_nil, List.drop_zero, List.drop_succ_cons, List.take_succ_cons, List.take_zero, Nat.zero_add, flats, flat_int, flat_str, flat_bool, flat_vs, flat_nilsl, flat_hs, flat_ptr, flat_pimm, flat_nilptr, List.all_cons, List.all_nil, storeA, putElem, putCells, List.cons_append, List.nil_append, List.append_nil, List.set_cons_zero, Heap.get_new, set_set, get_new_set, frz_ptr, frzP_arr, frzB_t, stride_vs, stride_new, stride_new_set, stride_nil, stride_str, stride_ptr, stride_pimm, unA, nbeq_self, cond_true, cond_false, Nat.le_refl, Nat.zero_le, Nat.zero_lt_one, Nat.reduceLT, Nat.reduceLeDiff, Nat.zero_lt_succ, List.map_cons, List.map_nil, Option.map_some, Option.map_none, Nat.reduceEqDiff, Bool.or_false, Bool.or_true, Bool.false_or, Bool.true_or, ↓reduceIte, Nat.reduceAdd, reduceCtorEq, eq_self, beq_tt, beq_tf, beq_ft, beq_ff, beq_bt, beq_bf, Bool.not_true, Bool.not_false, Nat.reduceSub, Int.reduceEq, Int.reduceNe, Int.reduceLT, Int.reduceLE, Int.reduceNeg, Int.reduceAdd, Int.reduceSub, Int.reduceToNat, Int.toNat_natCast, ne_eq, bin_lss, bin_leq, bin_gtr, bin_geq, bin_eql, bin_neq, bin_add, bin_sub, bin_mul, bin_str_eql, bin_str_neq, bin_bool_eql, bin_bool_neq, wrapF_i64, Option.isSome_none, len_str, len_vs, len_hs, len_nil, argSt, resS, pack_one, pack_two, pureK_eq, pureE_t, AVal.pures, AVal.pure, Bool.and_true, Bool.true_and, and_true, true_and, decide_eq_true_eq, decide_eq_false_iff_not, decide_true, decide_false, not_false_eq_true, not_true_eq_false, false_implies, true_implies, forall_const, implies_true, Bool.false_eq_true, Bool.and_self, cast0, cast1, Int.sub_zero, Int.zero_add, Int.add_zero, Nat.add_zero, h25, h26, h27, e, addr_vs_at hx, hxb.cells, hA.stride, hxb.stride, hap, Bool.and_self]
      subst hJ
      refine ⟨q.length, by simp, p ++ [x], q, by simp [hpq], rfl, ?_, ?_, ?_, ?_, ?_⟩
      · simp [upd, h25]
      · simp [upd, h26]
      · simp [upd]
      · simpa [upd, catB_app] using hA'
      · intro hc
        have h1 : x.2 = [] := by
          rw [hpq] at hc; simp [catB] at hc; exact hc.2.1
        have h2 := hz hc
        rw [h2] at hap
        have : appendA 1 1 .nilsl x.1 H = some (.nilsl, H) := app_empty_nil (by rw [src_bs hxb, h1]; rfl)
        rw [this] at hap
        simp only [Option.some.injEq, Prod.mk.injEq] at hap
        simp [upd, ← hap.1]
end Go.Abx
