/- Contracts: Num, Bytes, SameAct. -/
import Derived.Test.YtmnbafbicjgjgaaDoorAbxA7
namespace Go.Abx
set_option maxRecDepth 100000
set_option linter.unusedSimpArgs false
set_option linter.unusedVariables false

/-! ### Numbers -/
def byteAt (n : Int) (k : Nat) : Int := wrapF .u8 (n.fdiv (2 ^ (8 * k)))
def numL (n : Int) : List Int := [byteAt n 5, byteAt n 4, byteAt n 3, byteAt n 2, byteAt n 1, byteAt n 0]

/-- The slice that Num appends to. -/
def AccF (v : AVal) (H : Heap) (b : List Int) : Prop := (v = .nilsl ∧ b = []) ∨ (v = .vs [] 1 (some 0) ∧ b = []) ∨ ∃ id lim, v = .hs id 0 b.length lim ∧ (lim = none ∨ lim = some b.length) ∧ H.get id = some (.arr (ofBytes b) 1 none 0) ∧ id < H.next
theorem AccF.stride {v : AVal} {H : Heap} {b : List Int} (h : AccF v H b) : stride H 1 v = true := by
  rcases h with ⟨rfl, rfl⟩ | ⟨rfl, rfl⟩ | ⟨id, lim, rfl, _, hg, hi⟩
  · rfl
  · rfl
  · exact stride_at hg
theorem AccF.new {v : AVal} {H : Heap} {b : List Int} (h : AccF v H b) (o : AObj) : AccF v (H.new o) b := by
  rcases h with ⟨rfl, rfl⟩ | ⟨rfl, rfl⟩ | ⟨id, lim, rfl, hl, hg, hi⟩
  · exact .inl ⟨rfl, rfl⟩
  · exact .inr (.inl ⟨rfl, rfl⟩)
  · exact .inr (.inr ⟨id, lim, rfl, hl, by rw [get_new_lt hi]; exact hg, by rw [next_new]; omega⟩)
theorem AccF.app {v x : AVal} {H : Heap} {b c : List Int} (h : AccF v H b) (hx : srcEls 1 H x = some (ofBytes c)) (hl : b.length + c.length ≤ 140737488355328) : ∃ v' H', appendA 1 1 v x H = some (v', H') ∧ AccF v' H' (b ++ c) := by
  by_cases hc : c = []
  · subst hc
    rw [List.append_nil]
    rcases h with ⟨rfl, rfl⟩ | ⟨rfl, rfl⟩ | ⟨id, lim, rfl, hll, hg, hi⟩
    · exact ⟨_, _, app_empty_nil hx, .inl ⟨rfl, rfl⟩⟩
    · exact ⟨_, _, app_empty hx, .inr (.inl ⟨rfl, rfl⟩)⟩
    · exact ⟨_, _, app_empty_hs hx, .inr (.inr ⟨id, lim, rfl, hll, hg, hi⟩)⟩
  · rcases h with ⟨rfl, rfl⟩ | ⟨rfl, rfl⟩ | ⟨id, lim, rfl, hll, hg, hi⟩
    · refine ⟨_, _, app_nil hx (ofBytes_ne hc) (by rw [ofBytes_length]; simpa using hl), .inr (.inr ⟨H.next, none, by rw [ofBytes_length]; rfl, .inl rfl, ?_, Nat.lt_succ_self _⟩)⟩
      rw [Heap.get_new]; rfl
    · refine ⟨_, _, app_vs0 hx (ofBytes_ne hc) (by rw [ofBytes_length]; simpa using hl), .inr (.inr ⟨H.next, none, by rw [ofBytes_length]; rfl, .inl rfl, ?_, Nat.lt_succ_self _⟩)⟩
      rw [Heap.get_new]; rfl
    · rcases hll with rfl | rfl
      · have := app_hs (sz := 1) (bytes := 1) hx (ofBytes_ne hc) hg (by simp only [ofBytes_length]; omega)
        rw [ofBytes_length, ofBytes_length] at this
        refine ⟨_, _, this, .inr (.inr ⟨H.next, none, by simp, .inl rfl, ?_, by rw [next_new, next_drop]; omega⟩)⟩
        rw [← next_drop (H := H) id, Heap.get_new, ofBytes_app]
      · have := app_full (sz := 1) (bytes := 1) (s := 0) (n := b.length) hx (ofBytes_ne hc) hg (by rw [ofBytes_length]; omega) (by rw [ofBytes_length]; omega)
        rw [List.drop_zero, List.take_of_length_le (by rw [ofBytes_length]; omega), ofBytes_length] at this
        refine ⟨_, _, this, .inr (.inr ⟨H.next, none, by simp, .inl rfl, ?_, by rw [next_new]; omega⟩)⟩
        rw [Heap.get_new, ofBytes_app]
def Hs (v : AVal) (H : Heap) (b : List Int) : Prop := ∃ id, v = .hs id 0 b.length none ∧ H.get id = some (.arr (ofBytes b) 1 none 0) ∧ id < H.next
theorem Hs.F {v : AVal} {H : Heap} {b : List Int} (h : Hs v H b) : AccF v H b := by
  obtain ⟨id, h1, h2, h3⟩ := h
  exact .inr (.inr ⟨id, none, h1, .inl rfl, h2, h3⟩)
theorem AccF.app1 {v x : AVal} {H : Heap} {b c : List Int} (h : AccF v H b) (hx : srcEls 1 H x = some (ofBytes c)) (hc : c ≠ []) (hl : b.length + c.length ≤ 140737488355328) : ∃ v' H', appendA 1 1 v x H = some (v', H') ∧ Hs v' H' (b ++ c) := by
  rcases h with ⟨rfl, rfl⟩ | ⟨rfl, rfl⟩ | ⟨id, lim, rfl, hll, hg, hi⟩
  · refine ⟨_, _, app_nil hx (ofBytes_ne hc) (by rw [ofBytes_length]; simpa using hl), ⟨H.next, by rw [ofBytes_length]; rfl, ?_, Nat.lt_succ_self _⟩⟩
    rw [Heap.get_new]; rfl
  · refine ⟨_, _, app_vs0 hx (ofBytes_ne hc) (by rw [ofBytes_length]; simpa using hl), ⟨H.next, by rw [ofBytes_length]; rfl, ?_, Nat.lt_succ_self _⟩⟩
    rw [Heap.get_new]; rfl
  · rcases hll with rfl | rfl
    · have := app_hs (sz := 1) (bytes := 1) hx (ofBytes_ne hc) hg (by simp only [ofBytes_length]; omega)
      rw [ofBytes_length, ofBytes_length] at this
      refine ⟨_, _, this, ⟨H.next, by simp, ?_, by rw [next_new, next_drop]; omega⟩⟩
      rw [← next_drop (H := H) id, Heap.get_new, ofBytes_app]
    · have := app_full (sz := 1) (bytes := 1) (s := 0) (n := b.length) hx (ofBytes_ne hc) hg (by rw [ofBytes_length]; omega) (by rw [ofBytes_length]; omega)
      rw [List.drop_zero, List.take_of_length_le (by rw [ofBytes_length]; omega), ofBytes_length] at this
      refine ⟨_, _, this, ⟨H.next, by simp, ?_, by rw [next_new]; omega⟩⟩
      rw [Heap.get_new, ofBytes_app]
theorem Hs.own {v : AVal} {H : Heap} {b : List Int} (h : Hs v H b) : ownK (.vs (ofBytes b) 1 none) [v] H := by
  obtain ⟨id, rfl, hg, hi⟩ := h
  refine ownK_hs ?_
  rw [hg]
  exact ⟨(ofBytes_length b).symm, ofBytes_pure b, rfl, rfl⟩
theorem AccF.own {v : AVal} {H : Heap} {b : List Int} (h : AccF v H b) : ownQ (fun r => isBs r b) [v] H := by
  rcases h with ⟨rfl, rfl⟩ | ⟨rfl, rfl⟩ | ⟨id, lim, rfl, hll, hg, hi⟩
  · exact ownQ_nil rfl (.inl ⟨rfl, rfl⟩)
  · exact ownQ_vs rfl (.inr ⟨_, rfl⟩)
  · exact ownQ_hs (fr := 0) hg (by rw [ofBytes_length]) (ofBytes_pure _) rfl (.inr ⟨_, rfl⟩)

theorem num_run {v : AVal} {b : List Int} (h : isBs v b) (hb : b.length ≤ 1099511627776) {n : Int} (h0 : 0 ≤ n) (hn : n ≤ 1099511627776) : runOwn v_code_Num i_code_Num [v, .int .i64 n] = some (.vs (ofBytes (b ++ numL n)) 1 none) := by
  refine runOwn_W (by kernel_rfl) (by kernel_rfl) (by simp [AVal.pures, h.pure, AVal.pure]) ?_
  obtain ⟨r, hr, hrb, hcase⟩ := clone_bs h (by omega)
  have hcall : ∀ H, exCall v_code_Num 6 .own [v] H = some (importA r H) := fun H => exCall_own rfl (by simp [AVal.pures, h.pure]) hr
  have m1 : (if (0 : Int) > n then 0 else n) = n := if_neg (by omega)
  have m2 : (if (1099511627776 : Int) < n then 1099511627776 else n) = n := if_neg (by omega)
  obtain ⟨w, H1, v5, H2, hi1, hc2, hF⟩ : ∃ w H1 v5 H2, importA r Heap.empty = (w, H1) ∧ exCall v_code_Num 7 .raw [w] H1 = some (v5, H2) ∧ AccF v5 H2 b := by
    by_cases hb0 : b = []
    · subst hb0
      rcases hcase with rfl | rfl
      · exact ⟨_, _, _, _, import_nilsl, exCall_raw rfl clip_nil, .inl ⟨rfl, rfl⟩⟩
      · have hcl : cloneV [] = .vs [] 1 (some 0) := rfl
        rw [hcl]
        exact ⟨_, _, _, _, import_nil, exCall_raw rfl clip_vs0, .inr (.inl ⟨rfl, rfl⟩)⟩
    · have hr2 : r = .vs (ofBytes b) 1 none := by
        rcases hcase with rfl | rfl
        · rcases hrb with ⟨_, h0⟩ | ⟨_, h0⟩
          · exact absurd h0 hb0
          · cases h0
        · unfold cloneV; rw [if_neg hb0]
      subst hr2
      have hnb : b.length ≠ 0 := fun h => hb0 (List.length_eq_zero_iff.1 h)
      have hcl := exCall_raw (env := v_code_Num) (g := 7) rfl (clip_hs (H := Heap.empty.new (.arr (ofBytes b) 1 none 0)) (id := Heap.empty.next) (n := b.length) (lim := none) (Heap.get_new _ _) hnb)
      exact ⟨_, _, _, _, import_ne (ofBytes_ne hb0), by rw [ofBytes_length]; exact hcl, .inr (.inr ⟨_, _, rfl, .inr rfl, Heap.get_new _ _, Nat.lt_succ_self _⟩)⟩
  simp (disch := omega) only [i_code_Num, wp_skip, wp_ops, wp_seq, wp_block, wp_exit, wp_ret, wp_condn, condK_b, condB_t, condB_f, condB_d, wp_draw, wpL_nil, wpL_0, freeK_s, wpL_1, readK_s, wpL_2, writeK_s, wpL_g, gdK_b, gdK_u, List.zip_cons_cons, List.zip_nil_left, seqK_n, seqK_e, seqK_r, blockK_n, blockK_e, blockK_r, loopK_n, loopK_e, loopK_r, endK_r, endK_n, wpS_nil', wpS_op, opK_d, opK_0, wpS_g, guardK_b, guardK_u, putS_d, putS_0, wpS_frz, retellK_s, exOpS, evS_t, evS_c, upd, val, unit, isC, loadA, takeA, cells_agg, cells_int, cells_str, cells_bool, cells_vs, cells_nilsl, cells_hs, cells_ptr, cells_pimm, cells_nilptr, List.getElem?_cons_zero, List.getElem?_cons_succ, List.length_cons, List.length_nil, List.drop_zero, List.drop_succ_cons, List.take_succ_cons, List.take_zero, Nat.zero_add, flats, flat_int, flat_str, flat_bool, flat_vs, flat_nilsl, flat_hs, flat_ptr, flat_pimm, flat_nilptr, List.all_cons, List.all_nil, storeA, putElem, putCells, List.cons_append, List.nil_append, List.append_nil, List.set_cons_zero, Heap.get_new, set_set, get_new_set, frz_ptr, frzP_arr, frzB_t, stride_vs, stride_new, stride_new_set, stride_nil, stride_str, stride_ptr, stride_pimm, unA, nbeq_self, cond_true, cond_false, Nat.le_refl, Nat.zero_le, Nat.zero_lt_one, Nat.reduceLT, Nat.reduceLeDiff, Nat.zero_lt_succ, List.map_cons, List.map_nil, Option.map_some, Option.map_none, Nat.reduceEqDiff, Bool.or_false, Bool.or_true, Bool.false_or, Bool.true_or, ↓reduceIte, Nat.reduceAdd, reduceCtorEq, eq_self, beq_tt, beq_tf, beq_ft, beq_ff, beq_bt, beq_bf, Bool.not_true, Bool.not_false, Nat.reduceSub, Int.reduceEq, Int.reduceNe, Int.reduceLT, Int.reduceLE, Int.reduceNeg, Int.reduceAdd, Int.reduceSub, Int.reduceToNat, Int.toNat_natCast, ne_eq, bin_lss, bin_leq, bin_gtr, bin_geq, bin_eql, bin_neq, bin_add, bin_sub, bin_mul, bin_str_eql, bin_str_neq, bin_bool_eql, bin_bool_neq, wrapF_i64, Option.isSome_none, len_str, len_vs, len_hs, len_nil, argSt, resS, pack_one, pack_two, pureK_eq, pureE_t, AVal.pures, AVal.pure, Bool.and_true, Bool.true_and, and_true, true_and, decide_eq_true_eq, decide_eq_false_iff_not, decide_true, decide_false, not_false_eq_true, not_true_eq_false, false_implies, true_implies, forall_const, implies_true, Bool.false_eq_true, Bool.and_self, cast0, cast1, Int.sub_zero, Int.zero_add, Int.add_zero, Nat.add_zero, m1, m2, hcall, hi1, hc2]
  refine wp_loopI (fun m σ H => ∃ i, m = 6 - i ∧ i ≤ 6 ∧ σ 1 = .int .i64 n ∧ AccF (σ 5) H (b ++ (numL n).take i) ∧ (0 < i → Hs (σ 5) H (b ++ (numL n).take i)) ∧ σ 6 = .int .i64 (5 - (i : Int))) 6 (by decide) ⟨0, rfl, by omega, rfl, by simpa [upd] using hF, fun h => by omega, rfl⟩ ?_
  rintro J hJ m σ H ⟨i, rfl, hi, h1, hA, hHs, h6⟩
  by_cases hlt : i < 6
  · have e : ((0 : Int) ≤ 5 - (i : Int)) = True := eq_true (by omega)
    have hs : ∀ l, binA .shr .int l (.int .i64 n) (.int .i64 (8 * (5 - (i : Int)))) = some (.int .i64 (n.fdiv (2 ^ (8 * (5 - i))))) := fun l => by
      simp only [binA, intBin]
      rw [if_neg (by omega)]
      have : Min.min (Int.toNat (8 * (5 - (i : Int)))) IntKind.i64.bits = 8 * (5 - i) := by simp [IntKind.bits]; omega
      rw [this]
    have hby : wrapF .u8 (n.fdiv (2 ^ (8 * (5 - i)))) = byteAt n (5 - i) := rfl
    have hsrc : srcEls 1 (H.new (.arr [.int .u8 (byteAt n (5 - i))] 1 (some 1) 0)) (.hs H.next 0 1 (some 1)) = some (ofBytes [byteAt n (5 - i)]) := by
      rw [src_hs (Heap.get_new _ _) (by simp)]; rfl
    have hA1 := hA.new (.arr [.int .u8 (byteAt n (5 - i))] 1 (some 1) 0)
    have hlen : (b ++ (numL n).take i).length ≤ 1099511627782 := by
      rw [List.length_append, List.length_take]
      have : (numL n).length = 6 := rfl
      omega
    obtain ⟨v', H', hap, hA'⟩ := hA1.app1 hsrc (by simp) (by simp only [List.length_cons, List.length_nil]; omega)
    simp (disch := omega) only [wp_skip, wp_ops, wp_seq, wp_block, wp_exit, wp_ret, wp_condn, condK_b, condB_t, condB_f, condB_d, wp_draw, wpL_nil, wpL_0, freeK_s, wpL_1, readK_s, wpL_2, writeK_s, wpL_g, gdK_b, gdK_u, List.zip_cons_cons, List.zip_nil_left, seqK_n, seqK_e, seqK_r, blockK_n, blockK_e, blockK_r, loopK_n, loopK_e, loopK_r, endK_r, endK_n, wpS_nil', wpS_op, opK_d, opK_0, wpS_g, guardK_b, guardK_u, putS_d, putS_0, wpS_frz, retellK_s, exOpS, evS_t, evS_c, upd, val, unit, isC, loadA, takeA, cells_agg, cells_int, cells_str, cells_bool, cells_vs, cells_nilsl, cells_hs, cells_ptr, cells_pimm, cells_nilptr, List.getElem?_cons_zero, List.getElem?_cons_succ, List.length_cons, List.length_nil, List.drop_zero, List.drop_succ_cons, List.take_succ_cons, List.take_zero, Nat.zero_add, flats, flat_int, flat_str, flat_bool, flat_vs, flat_nilsl, flat_hs, flat_ptr, flat_pimm, flat_nilptr, List.all_cons, List.all_nil, storeA, putElem, putCells, List.cons_append, List.nil_append, List.append_nil, List.set_cons_zero, Heap.get_new, set_set, get_new_set, frz_ptr, frzP_arr, frzB_t, stride_vs, stride_new, stride_new_set, stride_nil, stride_str, stride_ptr, stride_pimm, unA, nbeq_self, cond_true, cond_false, Nat.le_refl, Nat.zero_le, Nat.zero_lt_one, Nat.reduceLT, Nat.reduceLeDiff, Nat.zero_lt_succ, List.map_cons, List.map_nil, Option.map_some, Option.map_none, Nat.reduceEqDiff, Bool.or_false, Bool.or_true, Bool.false_or, Bool.true_or, ↓reduceIte, Nat.reduceAdd, reduceCtorEq, eq_self, beq_tt, beq_tf, beq_ft, beq_ff, beq_bt, beq_bf, Bool.not_true, Bool.not_false, Nat.reduceSub, Int.reduceEq, Int.reduceNe, Int.reduceLT, Int.reduceLE, Int.reduceNeg, Int.reduceAdd, Int.reduceSub, Int.reduceToNat, Int.toNat_natCast, ne_eq, bin_lss, bin_leq, bin_gtr, bin_geq, bin_eql, bin_neq, bin_add, bin_sub, bin_mul, bin_str_eql, bin_str_neq, bin_bool_eql, bin_bool_neq, wrapF_i64, Option.isSome_none, len_str, len_vs, len_hs, len_nil, argSt, resS, pack_one, pack_two, pureK_eq, pureE_t, AVal.pures, AVal.pure, Bool.and_true, Bool.true_and, and_true, true_and, decide_eq_true_eq, decide_eq_false_iff_not, decide_true, decide_false, not_false_eq_true, not_true_eq_false, false_implies, true_implies, forall_const, implies_true, Bool.false_eq_true, Bool.and_self, cast0, cast1, Int.sub_zero, Int.zero_add, Int.add_zero, Nat.add_zero, h1, h6, e, hs, convA, hby, fillEls, List.replicate_succ, List.replicate_zero, hA1.stride, hap]
    subst hJ
    have ht0 : (numL n).take (i + 1) = (numL n).take i ++ [byteAt n (5 - i)] := by
      have : i = 0 ∨ i = 1 ∨ i = 2 ∨ i = 3 ∨ i = 4 ∨ i = 5 := by omega
      rcases this with rfl | rfl | rfl | rfl | rfl | rfl <;> rfl
    refine ⟨6 - (i + 1), by omega, i + 1, rfl, by omega, ?_, ?_, ?_, ?_⟩
    · simp [upd, h1]
    · rw [ht0, ← List.append_assoc]
      simpa [upd] using hA'.F
    · intro _
      rw [ht0, ← List.append_assoc]
      simpa [upd] using hA'
    · simp [upd]; omega
  · have e : ((0 : Int) ≤ 5 - (i : Int)) = False := eq_false (by omega)
    obtain rfl : i = 6 := by omega
    have ht : (numL n).take 6 = numL n := rfl
    have hH := hHs (by omega)
    rw [ht] at hH
    simp (disch := omega) only [wp_skip, wp_ops, wp_seq, wp_block, wp_exit, wp_ret, wp_condn, condK_b, condB_t, condB_f, condB_d, wp_draw, wpL_nil, wpL_0, freeK_s, wpL_1, readK_s, wpL_2, writeK_s, wpL_g, gdK_b, gdK_u, List.zip_cons_cons, List.zip_nil_left, seqK_n, seqK_e, seqK_r, blockK_n, blockK_e, blockK_r, loopK_n, loopK_e, loopK_r, endK_r, endK_n, wpS_nil', wpS_op, opK_d, opK_0, wpS_g, guardK_b, guardK_u, putS_d, putS_0, wpS_frz, retellK_s, exOpS, evS_t, evS_c, upd, val, unit, isC, loadA, takeA, cells_agg, cells_int, cells_str, cells_bool, cells_vs, cells_nilsl, cells_hs, cells_ptr, cells_pimm, cells_nilptr, List.getElem?_cons_zero, List.getElem?_cons_succ, List.length_cons, List.length_nil, List.drop_zero, List.drop_succ_cons, List.take_succ_cons, List.take_zero, Nat.zero_add, flats, flat_int, flat_str, flat_bool, flat_vs, flat_nilsl, flat_hs, flat_ptr, flat_pimm, flat_nilptr, List.all_cons, List.all_nil, storeA, putElem, putCells, List.cons_append, List.nil_append, List.append_nil, List.set_cons_zero, Heap.get_new, set_set, get_new_set, frz_ptr, frzP_arr, frzB_t, stride_vs, stride_new, stride_new_set, stride_nil, stride_str, stride_ptr, stride_pimm, unA, nbeq_self, cond_true, cond_false, Nat.le_refl, Nat.zero_le, Nat.zero_lt_one, Nat.reduceLT, Nat.reduceLeDiff, Nat.zero_lt_succ, List.map_cons, List.map_nil, Option.map_some, Option.map_none, Nat.reduceEqDiff, Bool.or_false, Bool.or_true, Bool.false_or, Bool.true_or, ↓reduceIte, Nat.reduceAdd, reduceCtorEq, eq_self, beq_tt, beq_tf, beq_ft, beq_ff, beq_bt, beq_bf, Bool.not_true, Bool.not_false, Nat.reduceSub, Int.reduceEq, Int.reduceNe, Int.reduceLT, Int.reduceLE, Int.reduceNeg, Int.reduceAdd, Int.reduceSub, Int.reduceToNat, Int.toNat_natCast, ne_eq, bin_lss, bin_leq, bin_gtr, bin_geq, bin_eql, bin_neq, bin_add, bin_sub, bin_mul, bin_str_eql, bin_str_neq, bin_bool_eql, bin_bool_neq, wrapF_i64, Option.isSome_none, len_str, len_vs, len_hs, len_nil, argSt, resS, pack_one, pack_two, pureK_eq, pureE_t, AVal.pures, AVal.pure, Bool.and_true, Bool.true_and, and_true, true_and, decide_eq_true_eq, decide_eq_false_iff_not, decide_true, decide_false, not_false_eq_true, not_true_eq_false, false_implies, true_implies, forall_const, implies_true, Bool.false_eq_true, Bool.and_self, cast0, cast1, Int.sub_zero, Int.zero_add, Int.add_zero, Nat.add_zero, h1, h6, e]
    exact hH.own

theorem numL_ne (b : List Int) (n : Int) : ofBytes (b ++ numL n) ≠ [] := ofBytes_ne (by simp [numL])
theorem numL_len (n : Int) : (numL n).length = 6 := rfl
theorem bytes_run {v w : AVal} {b x : List Int} (h : isBs v b) (hw : isBs w x) (hb : b.length ≤ 1099511627776) (hx : x.length ≤ 1099511627776) : runOwn v_code_Bytes i_code_Bytes [v, w] = some (.vs (ofBytes (b ++ numL x.length ++ x)) 1 none) := by
  refine runOwn_W (by kernel_rfl) (by kernel_rfl) (by simp [AVal.pures, h.pure, hw.pure]) ?_
  have hr := num_run h hb (n := x.length) (by omega) (by omega)
  have hcall : ∀ H, exCall v_code_Bytes 4 .own [v, .int .i64 x.length] H = some (importA (.vs (ofBytes (b ++ numL x.length)) 1 none) H) := fun H => exCall_own rfl (by simp [AVal.pures, h.pure, AVal.pure]) hr
  have hH : Hs (.hs Heap.empty.next 0 (b ++ numL x.length).length none) (Heap.empty.new (.arr (ofBytes (b ++ numL x.length)) 1 none 0)) (b ++ numL x.length) := ⟨_, rfl, Heap.get_new _ _, Nat.lt_succ_self _⟩
  obtain ⟨v', H', hap, hA⟩ : ∃ v' H', appendA 1 1 (.hs Heap.empty.next 0 (b ++ numL x.length).length none) w (Heap.empty.new (.arr (ofBytes (b ++ numL x.length)) 1 none 0)) = some (v', H') ∧ Hs v' H' (b ++ numL x.length ++ x) := by
    by_cases hx0 : x = []
    · have hs0 : srcEls 1 (Heap.empty.new (.arr (ofBytes (b ++ numL x.length)) 1 none 0)) w = some [] := by rw [src_bs hw, hx0]; rfl
      refine ⟨_, _, app_empty_hs hs0, ?_⟩
      have e : b ++ numL x.length ++ x = b ++ numL x.length := by rw [hx0]; simp
      rw [e]; exact hH
    · exact hH.F.app1 (src_bs hw) hx0 (by rw [List.length_append, numL_len]; omega)
  simp (disch := omega) only [i_code_Bytes, wp_skip, wp_ops, wp_seq, wp_block, wp_exit, wp_ret, wp_condn, condK_b, condB_t, condB_f, condB_d, wp_draw, wpL_nil, wpL_0, freeK_s, wpL_1, readK_s, wpL_2, writeK_s, wpL_g, gdK_b, gdK_u, List.zip_cons_cons, List.zip_nil_left, seqK_n, seqK_e, seqK_r, blockK_n, blockK_e, blockK_r, loopK_n, loopK_e, loopK_r, endK_r, endK_n, wpS_nil', wpS_op, opK_d, opK_0, wpS_g, guardK_b, guardK_u, putS_d, putS_0, wpS_frz, retellK_s, exOpS, evS_t, evS_c, upd, val, unit, isC, loadA, takeA, cells_agg, cells_int, cells_str, cells_bool, cells_vs, cells_nilsl, cells_hs, cells_ptr, cells_pimm, cells_nilptr, List.getElem?_cons_zero, List.getElem?_cons_succ, List.length_cons, List.length_nil, List.drop_zero, List.drop_succ_cons, List.take_succ_cons, List.take_zero, Nat.zero_add, flats, flat_int, flat_str, flat_bool, flat_vs, flat_nilsl, flat_hs, flat_ptr, flat_pimm, flat_nilptr, List.all_cons, List.all_nil, storeA, putElem, putCells, List.cons_append, List.nil_append, List.append_nil, List.set_cons_zero, Heap.get_new, set_set, get_new_set, frz_ptr, frzP_arr, frzB_t, stride_vs, stride_new, stride_new_set, stride_nil, stride_str, stride_ptr, stride_pimm, unA, nbeq_self, cond_true, cond_false, Nat.le_refl, Nat.zero_le, Nat.zero_lt_one, Nat.reduceLT, Nat.reduceLeDiff, Nat.zero_lt_succ, List.map_cons, List.map_nil, Option.map_some, Option.map_none, Nat.reduceEqDiff, Bool.or_false, Bool.or_true, Bool.false_or, Bool.true_or, ↓reduceIte, Nat.reduceAdd, reduceCtorEq, eq_self, beq_tt, beq_tf, beq_ft, beq_ff, beq_bt, beq_bf, Bool.not_true, Bool.not_false, Nat.reduceSub, Int.reduceEq, Int.reduceNe, Int.reduceLT, Int.reduceLE, Int.reduceNeg, Int.reduceAdd, Int.reduceSub, Int.reduceToNat, Int.toNat_natCast, ne_eq, bin_lss, bin_leq, bin_gtr, bin_geq, bin_eql, bin_neq, bin_add, bin_sub, bin_mul, bin_str_eql, bin_str_neq, bin_bool_eql, bin_bool_neq, wrapF_i64, Option.isSome_none, len_str, len_vs, len_hs, len_nil, argSt, resS, pack_one, pack_two, pureK_eq, pureE_t, AVal.pures, AVal.pure, Bool.and_true, Bool.true_and, and_true, true_and, decide_eq_true_eq, decide_eq_false_iff_not, decide_true, decide_false, not_false_eq_true, not_true_eq_false, false_implies, true_implies, forall_const, implies_true, Bool.false_eq_true, Bool.and_self, cast0, cast1, Int.sub_zero, Int.zero_add, Int.add_zero, Nat.add_zero, hw.len, hcall, import_ne (numL_ne _ _), ofBytes_length, hw.stride, hap]
  exact hA.own

theorem frz_p {x : AVal} {H : Heap} (h : x.pure = true) : frzVal frzDepth x H = some (x, H) := by simp [frzDepth, frzVal, h]
/-! ### The bytes of an action -/
def encD (d : D) : List Int := numL d.k ++ numL d.n ++ numL d.t.length ++ d.t
def encL (l : List D) : List Int := numL l.length ++ l.flatMap encD
theorem abytes_run {l : List D} {lim : Option Nat} (hl : l.length ≤ 64) (hg : ∀ d ∈ l, 0 ≤ d.k ∧ d.k ≤ 64 ∧ 0 ≤ d.n ∧ d.n ≤ 64 ∧ d.t.length ≤ 64) : runOwn v_acts_Bytes i_acts_Bytes [vsD l lim] = some (.vs (ofBytes (encL l)) 1 none) := by
  have hpD : AVal.pures (l.map D.v) = true := pures_of fun x hx => by
    obtain ⟨d, _, rfl⟩ := List.mem_map.1 hx; rfl
  refine runOwn_W (by kernel_rfl) (by kernel_rfl) (by simp [AVal.pures, vsD, AVal.pure, hpD]) ?_
  have h0 := num_run (v := .nilsl) (b := []) (.inl ⟨rfl, rfl⟩) (by simp) (n := l.length) (by omega) (by omega)
  have hne0 : ofBytes ([] ++ numL l.length) ≠ [] := numL_ne _ _
  have hcall : ∀ H, exCall v_acts_Bytes 4 .own [.nilsl, .int .i64 l.length] H = some (.hs H.next 0 (ofBytes ([] ++ numL l.length)).length none, H.new (.arr (ofBytes ([] ++ numL l.length)) 1 none 0)) := fun H => by
    rw [exCall_own rfl (by rfl) h0, import_ne hne0]
  have hlv : ∀ H, lenA H .slice (vsD l lim) = some l.length := fun H => by simp [lenA, vsD]
  simp (disch := omega) only [i_acts_Bytes, wp_skip, wp_ops, wp_seq, wp_block, wp_exit, wp_ret, wp_condn, condK_b, condB_t, condB_f, condB_d, wp_draw, wpL_nil, wpL_0, freeK_s, wpL_1, readK_s, wpL_2, writeK_s, wpL_g, gdK_b, gdK_u, List.zip_cons_cons, List.zip_nil_left, seqK_n, seqK_e, seqK_r, blockK_n, blockK_e, blockK_r, loopK_n, loopK_e, loopK_r, endK_r, endK_n, wpS_nil', wpS_op, opK_d, opK_0, wpS_g, guardK_b, guardK_u, putS_d, putS_0, wpS_frz, retellK_s, exOpS, evS_t, evS_c, upd, val, unit, isC, loadA, takeA, cells_agg, cells_int, cells_str, cells_bool, cells_vs, cells_nilsl, cells_hs, cells_ptr, cells_pimm, cells_nilptr, List.getElem?_cons_zero, List.getElem?_cons_succ, List.length_cons, List.length_nil, List.drop_zero, List.drop_succ_cons, List.take_succ_cons, List.take_zero, Nat.zero_add, flats, flat_int, flat_str, flat_bool, flat_vs, flat_nilsl, flat_hs, flat_ptr, flat_pimm, flat_nilptr, List.all_cons, List.all_nil, storeA, putElem, putCells, List.cons_append, List.nil_append, List.append_nil, List.set_cons_zero, Heap.get_new, set_set, get_new_set, frz_ptr, frzP_arr, frzB_t, stride_vs, stride_new, stride_new_set, stride_nil, stride_str, stride_ptr, stride_pimm, unA, nbeq_self, cond_true, cond_false, Nat.le_refl, Nat.zero_le, Nat.zero_lt_one, Nat.reduceLT, Nat.reduceLeDiff, Nat.zero_lt_succ, List.map_cons, List.map_nil, Option.map_some, Option.map_none, Nat.reduceEqDiff, Bool.or_false, Bool.or_true, Bool.false_or, Bool.true_or, ↓reduceIte, Nat.reduceAdd, reduceCtorEq, eq_self, beq_tt, beq_tf, beq_ft, beq_ff, beq_bt, beq_bf, Bool.not_true, Bool.not_false, Nat.reduceSub, Int.reduceEq, Int.reduceNe, Int.reduceLT, Int.reduceLE, Int.reduceNeg, Int.reduceAdd, Int.reduceSub, Int.reduceToNat, Int.toNat_natCast, ne_eq, bin_lss, bin_leq, bin_gtr, bin_geq, bin_eql, bin_neq, bin_add, bin_sub, bin_mul, bin_str_eql, bin_str_neq, bin_bool_eql, bin_bool_neq, wrapF_i64, Option.isSome_none, len_str, len_vs, len_hs, len_nil, argSt, resS, pack_one, pack_two, pureK_eq, pureE_t, AVal.pures, AVal.pure, Bool.and_true, Bool.true_and, and_true, true_and, decide_eq_true_eq, decide_eq_false_iff_not, decide_true, decide_false, not_false_eq_true, not_true_eq_false, false_implies, true_implies, forall_const, implies_true, Bool.false_eq_true, Bool.and_self, cast0, cast1, Int.sub_zero, Int.zero_add, Int.add_zero, Nat.add_zero, hlv, hcall]
  refine wp_loopI (fun m σ H => ∃ p q, l = p ++ q ∧ m = q.length ∧ σ 0 = vsD l lim ∧ σ 9 = vsD l lim ∧ σ 10 = .int .i64 l.length ∧ σ 11 = .int .i64 p.length ∧ ∃ id, σ 3 = .hs id 0 (numL l.length ++ p.flatMap encD).length none ∧ H.get id = some (.arr (ofBytes (numL l.length ++ p.flatMap encD)) 1 none 0)) l.length (by unfold many; omega)
    ⟨[], l, rfl, rfl, rfl, rfl, rfl, rfl, Heap.empty.next, by simp [upd, ofBytes_length], by rw [Heap.get_new]; simp⟩ ?_
  rintro J hJ m σ H ⟨p, q, hpq, rfl, h0, h9, h10, h11, id, h3, hg3⟩
  have hlen : l.length = p.length + q.length := by rw [hpq, List.length_append]
  cases q with
  | nil =>
    have e : ((p.length : Int) < (l.length : Int)) = False := eq_false (by simp at hlen; omega)
    have hlp : l = p := by simpa using hpq
    simp (disch := omega) only [wp_skip, wp_ops, wp_seq, wp_block, wp_exit, wp_ret, wp_condn, condK_b, condB_t, condB_f, condB_d, wp_draw, wpL_nil, wpL_0, freeK_s, wpL_1, readK_s, wpL_2, writeK_s, wpL_g, gdK_b, gdK_u, List.zip_cons_cons, List.zip_nil_left, seqK_n, seqK_e, seqK_r, blockK_n, blockK_e, blockK_r, loopK_n, loopK_e, loopK_r, endK_r, endK_n, wpS_nil', wpS_op, opK_d, opK_0, wpS_g, guardK_b, guardK_u, putS_d, putS_0, wpS_frz, retellK_s, exOpS, evS_t, evS_c, upd, val, unit, isC, loadA, takeA, cells_agg, cells_int, cells_str, cells_bool, cells_vs, cells_nilsl, cells_hs, cells_ptr, cells_pimm, cells_nilptr, List.getElem?_cons_zero, List.getElem?_cons_succ, List.length_cons, List.length_nil, List.drop_zero, List.drop_succ_cons, List.take_succ_cons, List.take_zero, Nat.zero_add, flats, flat_int, flat_str, flat_bool, flat_vs, flat_nilsl, flat_hs, flat_ptr, flat_pimm, flat_nilptr, List.all_cons, List.all_nil, storeA, putElem, putCells, List.cons_append, List.nil_append, List.append_nil, List.set_cons_zero, Heap.get_new, set_set, get_new_set, frz_ptr, frzP_arr, frzB_t, stride_vs, stride_new, stride_new_set, stride_nil, stride_str, stride_ptr, stride_pimm, unA, nbeq_self, cond_true, cond_false, Nat.le_refl, Nat.zero_le, Nat.zero_lt_one, Nat.reduceLT, Nat.reduceLeDiff, Nat.zero_lt_succ, List.map_cons, List.map_nil, Option.map_some, Option.map_none, Nat.reduceEqDiff, Bool.or_false, Bool.or_true, Bool.false_or, Bool.true_or, ↓reduceIte, Nat.reduceAdd, reduceCtorEq, eq_self, beq_tt, beq_tf, beq_ft, beq_ff, beq_bt, beq_bf, Bool.not_true, Bool.not_false, Nat.reduceSub, Int.reduceEq, Int.reduceNe, Int.reduceLT, Int.reduceLE, Int.reduceNeg, Int.reduceAdd, Int.reduceSub, Int.reduceToNat, Int.toNat_natCast, ne_eq, bin_lss, bin_leq, bin_gtr, bin_geq, bin_eql, bin_neq, bin_add, bin_sub, bin_mul, bin_str_eql, bin_str_neq, bin_bool_eql, bin_bool_neq, wrapF_i64, Option.isSome_none, len_str, len_vs, len_hs, len_nil, argSt, resS, pack_one, pack_two, pureK_eq, pureE_t, AVal.pures, AVal.pure, Bool.and_true, Bool.true_and, and_true, true_and, decide_eq_true_eq, decide_eq_false_iff_not, decide_true, decide_false, not_false_eq_true, not_true_eq_false, false_implies, true_implies, forall_const, implies_true, Bool.false_eq_true, Bool.and_self, cast0, cast1, Int.sub_zero, Int.zero_add, Int.add_zero, Nat.add_zero, h0, h9, h10, h11, h3, e]
    refine ownK_hs ?_
    rw [hg3]
    have : numL l.length ++ p.flatMap encD = encL l := by rw [encL, ← hlp]
    rw [this]
    exact ⟨(ofBytes_length _).symm, ofBytes_pure _, rfl, rfl⟩
  | cons d q =>
    have e : ((p.length : Int) < (l.length : Int)) = True := eq_true (by simp at hlen; omega)
    have hd : (l.map D.v)[p.length]? = some d.v := by rw [hpq]; simp
    obtain ⟨k, n, t⟩ := d
    obtain ⟨g1, g2, g3, g4, g5⟩ := hg ⟨k, n, t⟩ (by rw [hpq]; simp)
    simp only at g1 g2 g3 g4 g5
    have hbig : (numL l.length ++ p.flatMap encD).length ≤ 65536 := by
      have : ∀ (r : List D), (∀ d ∈ r, d.t.length ≤ 64) → (r.flatMap encD).length ≤ r.length * 82 := by
        intro r
        induction r with
        | nil => intro _; simp
        | cons x r ih =>
          intro h
          have h1 := ih fun d hd => h d (by simp [hd])
          have h2 := h x (by simp)
          simp only [List.flatMap_cons, List.length_append, encD, numL_len, List.length_cons]
          omega
      have := this p fun d hd => (hg d (by rw [hpq]; simp [hd])).2.2.2.2
      rw [List.length_append, numL_len]; simp at hlen; omega
    rw [vsD] at h9
    simp only [D.v] at hd
    generalize hB : numL l.length ++ p.flatMap encD = B at h3 hg3 hbig
    have hBs : isBs (.vs (ofBytes B) 1 none) B := .inr ⟨_, rfl⟩
    have hfz : frzVal frzDepth (.hs id 0 B.length none) H = some (.vs (ofBytes B) 1 none, H.set id (.arr (ofBytes B) 1 none (ofBytes B).length)) := by
      rw [frz_hs hg3 (by rw [ofBytes_length]; omega) (ofBytes_pure B), List.take_of_length_le (by rw [ofBytes_length]; omega)]
    have c1 : ∀ H, exCall v_acts_Bytes 4 .pure [.vs (ofBytes B) 1 none, .int .i64 k] H = some (.vs (ofBytes (B ++ numL k)) 1 none, H) := fun H =>
      exCall_pure rfl (by simp [AVal.pures, AVal.pure, ofBytes_pure]) (num_run hBs (by omega) (by omega) (by omega))
    have c2 : ∀ H, exCall v_acts_Bytes 4 .pure [.vs (ofBytes (B ++ numL k)) 1 none, .int .i64 n] H = some (.vs (ofBytes (B ++ numL k ++ numL n)) 1 none, H) := fun H =>
      exCall_pure rfl (by simp [AVal.pures, AVal.pure, ofBytes_pure]) (num_run (.inr ⟨_, rfl⟩) (by rw [List.length_append, numL_len]; omega) (by omega) (by omega))
    have hb3 := bytes_run (v := .vs (ofBytes (B ++ numL k ++ numL n)) 1 none) (w := .vs (ofBytes t) 1 none) (x := t) (.inr ⟨_, rfl⟩) (.inr ⟨_, rfl⟩) (by rw [List.length_append, List.length_append, numL_len, numL_len]; omega) (by omega)
    have c3 : ∀ G : Heap, exCall v_acts_Bytes 5 .own [.vs (ofBytes (B ++ numL k ++ numL n)) 1 none, .hs G.next 0 t.length none] (G.new (.arr (ofBytes t) 1 none 0)) = some (importA (.vs (ofBytes (B ++ numL k ++ numL n ++ numL t.length ++ t)) 1 none) ((G.new (.arr (ofBytes t) 1 none 0)).set G.next (.arr (ofBytes t) 1 none (ofBytes t).length))) := fun G => by
      have hp : AVal.pures (ofBytes t) = true := ofBytes_pure t
      have hz := frz_hs (lim := none) (n := t.length) (Heap.get_new G (.arr (ofBytes t) 1 none 0)) (by rw [ofBytes_length]; omega) hp
      rw [List.take_of_length_le (by rw [ofBytes_length]; omega)] at hz
      have hx : (AVal.vs (ofBytes (B ++ numL k ++ numL n)) 1 none).pure = true := by simp [AVal.pure, ofBytes_pure]
      have hall : frzAll [.vs (ofBytes (B ++ numL k ++ numL n)) 1 none, .hs G.next 0 t.length none] (G.new (.arr (ofBytes t) 1 none 0)) = some ([.vs (ofBytes (B ++ numL k ++ numL n)) 1 none, .vs (ofBytes t) 1 none], (G.new (.arr (ofBytes t) 1 none 0)).set G.next (.arr (ofBytes t) 1 none (ofBytes t).length)) := by
        have h0 : AVal.pures [.vs (ofBytes (B ++ numL k ++ numL n)) 1 none, .hs G.next 0 t.length none] = false := by simp [AVal.pures, AVal.pure]
        have h1 : frzVal frzDepth (.vs (ofBytes (B ++ numL k ++ numL n)) 1 none) (G.new (.arr (ofBytes t) 1 none 0)) = some (.vs (ofBytes (B ++ numL k ++ numL n)) 1 none, G.new (.arr (ofBytes t) 1 none 0)) := by
          exact frz_p hx
        simp only [frzAll, h0, Bool.false_eq_true, if_false, frzList, h1, hz]
      have hen : envGet v_acts_Bytes 5 = some (.pure true (runOwn v_code_Bytes i_code_Bytes)) := rfl
      simp only [exCall, hen, hall, hb3]
    have hne3 : ofBytes (B ++ numL k ++ numL n ++ numL t.length ++ t) ≠ [] := ofBytes_ne (by simp [numL])
    simp (disch := omega) only [wp_skip, wp_ops, wp_seq, wp_block, wp_exit, wp_ret, wp_condn, condK_b, condB_t, condB_f, condB_d, wp_draw, wpL_nil, wpL_0, freeK_s, wpL_1, readK_s, wpL_2, writeK_s, wpL_g, gdK_b, gdK_u, List.zip_cons_cons, List.zip_nil_left, seqK_n, seqK_e, seqK_r, blockK_n, blockK_e, blockK_r, loopK_n, loopK_e, loopK_r, endK_r, endK_n, wpS_nil', wpS_op, opK_d, opK_0, wpS_g, guardK_b, guardK_u, putS_d, putS_0, wpS_frz, retellK_s, exOpS, evS_t, evS_c, upd, val, unit, isC, loadA, takeA, cells_agg, cells_int, cells_str, cells_bool, cells_vs, cells_nilsl, cells_hs, cells_ptr, cells_pimm, cells_nilptr, List.getElem?_cons_zero, List.getElem?_cons_succ, List.length_cons, List.length_nil, List.drop_zero, List.drop_succ_cons, List.take_succ_cons, List.take_zero, Nat.zero_add, flats, flat_int, flat_str, flat_bool, flat_vs, flat_nilsl, flat_hs, flat_ptr, flat_pimm, flat_nilptr, List.all_cons, List.all_nil, storeA, putElem, putCells, List.cons_append, List.nil_append, List.append_nil, List.set_cons_zero, Heap.get_new, set_set, get_new_set, frz_ptr, frzP_arr, frzB_t, stride_vs, stride_new, stride_new_set, stride_nil, stride_str, stride_ptr, stride_pimm, unA, nbeq_self, cond_true, cond_false, Nat.le_refl, Nat.zero_le, Nat.zero_lt_one, Nat.reduceLT, Nat.reduceLeDiff, Nat.zero_lt_succ, List.map_cons, List.map_nil, Option.map_some, Option.map_none, Nat.reduceEqDiff, Bool.or_false, Bool.or_true, Bool.false_or, Bool.true_or, ↓reduceIte, Nat.reduceAdd, reduceCtorEq, eq_self, beq_tt, beq_tf, beq_ft, beq_ff, beq_bt, beq_bf, Bool.not_true, Bool.not_false, Nat.reduceSub, Int.reduceEq, Int.reduceNe, Int.reduceLT, Int.reduceLE, Int.reduceNeg, Int.reduceAdd, Int.reduceSub, Int.reduceToNat, Int.toNat_natCast, ne_eq, bin_lss, bin_leq, bin_gtr, bin_geq, bin_eql, bin_neq, bin_add, bin_sub, bin_mul, bin_str_eql, bin_str_neq, bin_bool_eql, bin_bool_neq, wrapF_i64, Option.isSome_none, len_str, len_vs, len_hs, len_nil, argSt, resS, pack_one, pack_two, pureK_eq, pureE_t, AVal.pures, AVal.pure, Bool.and_true, Bool.true_and, and_true, true_and, decide_eq_true_eq, decide_eq_false_iff_not, decide_true, decide_false, not_false_eq_true, not_true_eq_false, false_implies, true_implies, forall_const, implies_true, Bool.false_eq_true, Bool.and_self, cast0, cast1, Int.sub_zero, Int.zero_add, Int.add_zero, Nat.add_zero, h0, h9, h10, h11, h3, e, addr_vs_at hd, hfz]
    refine draw_L [0, 0, 0, 0, 0, 0, 0, 0, 0, 2, 2, 0] (by kernel_rfl) (by kernel_rfl) ?_
    simp (disch := omega) only [wp_skip, wp_ops, wp_seq, wp_block, wp_exit, wp_ret, wp_condn, condK_b, condB_t, condB_f, condB_d, wp_draw, wpL_nil, wpL_0, freeK_s, wpL_1, readK_s, wpL_2, writeK_s, wpL_g, gdK_b, gdK_u, List.zip_cons_cons, List.zip_nil_left, seqK_n, seqK_e, seqK_r, blockK_n, blockK_e, blockK_r, loopK_n, loopK_e, loopK_r, endK_r, endK_n, wpS_nil', wpS_op, opK_d, opK_0, wpS_g, guardK_b, guardK_u, putS_d, putS_0, wpS_frz, retellK_s, exOpS, evS_t, evS_c, upd, val, unit, isC, loadA, takeA, cells_agg, cells_int, cells_str, cells_bool, cells_vs, cells_nilsl, cells_hs, cells_ptr, cells_pimm, cells_nilptr, List.getElem?_cons_zero, List.getElem?_cons_succ, List.length_cons, List.length_nil, List.drop_zero, List.drop_succ_cons, List.take_succ_cons, List.take_zero, Nat.zero_add, flats, flat_int, flat_str, flat_bool, flat_vs, flat_nilsl, flat_hs, flat_ptr, flat_pimm, flat_nilptr, List.all_cons, List.all_nil, storeA, putElem, putCells, List.cons_append, List.nil_append, List.append_nil, List.set_cons_zero, Heap.get_new, set_set, get_new_set, frz_ptr, frzP_arr, frzB_t, stride_vs, stride_new, stride_new_set, stride_nil, stride_str, stride_ptr, stride_pimm, unA, nbeq_self, cond_true, cond_false, Nat.le_refl, Nat.zero_le, Nat.zero_lt_one, Nat.reduceLT, Nat.reduceLeDiff, Nat.zero_lt_succ, List.map_cons, List.map_nil, Option.map_some, Option.map_none, Nat.reduceEqDiff, Bool.or_false, Bool.or_true, Bool.false_or, Bool.true_or, ↓reduceIte, Nat.reduceAdd, reduceCtorEq, eq_self, beq_tt, beq_tf, beq_ft, beq_ff, beq_bt, beq_bf, Bool.not_true, Bool.not_false, Nat.reduceSub, Int.reduceEq, Int.reduceNe, Int.reduceLT, Int.reduceLE, Int.reduceNeg, Int.reduceAdd, Int.reduceSub, Int.reduceToNat, Int.toNat_natCast, ne_eq, bin_lss, bin_leq, bin_gtr, bin_geq, bin_eql, bin_neq, bin_add, bin_sub, bin_mul, bin_str_eql, bin_str_neq, bin_bool_eql, bin_bool_neq, wrapF_i64, Option.isSome_none, len_str, len_vs, len_hs, len_nil, argSt, resS, pack_one, pack_two, pureK_eq, pureE_t, AVal.pures, AVal.pure, Bool.and_true, Bool.true_and, and_true, true_and, decide_eq_true_eq, decide_eq_false_iff_not, decide_true, decide_false, not_false_eq_true, not_true_eq_false, false_implies, true_implies, forall_const, implies_true, Bool.false_eq_true, Bool.and_self, cast0, cast1, Int.sub_zero, Int.zero_add, Int.add_zero, Nat.add_zero, h0, h9, h10, h11, h3, convA, c1, c2, c3, import_ne hne3]
    subst hJ
    have hBB : numL l.length ++ (p ++ [(⟨k, n, t⟩ : D)]).flatMap encD = B ++ numL k ++ numL n ++ numL t.length ++ t := by
      rw [List.flatMap_append, ← List.append_assoc, hB]; simp [encD]
    refine ⟨q.length, by simp, p ++ [⟨k, n, t⟩], q, by simp [hpq], rfl, ?_, ?_, ?_, ?_, ?_⟩
    · simp [upd, h0]
    · simp [upd, h9, vsD]
    · simp [upd, h10]
    · simp [upd]
    · rw [hBB]
      exact ⟨_, by simp [upd, ofBytes_length], Heap.get_new _ _⟩

/-! ### Alike -/
theorem same_run {l m : List D} {cl cm : Option Nat} (hl : l.length < many) : runPure v_fettleref4_SameAct i_fettleref4_SameAct [vsD l cl, vsD m cm] = some (.bool (decide (l = m))) := by
  have hpD : ∀ l : List D, AVal.pures (l.map D.v) = true := fun l => pures_of fun x hx => by
    obtain ⟨d, _, rfl⟩ := List.mem_map.1 hx; rfl
  refine runPure_W (by kernel_rfl) (by kernel_rfl) (by simp [AVal.pures, vsD, AVal.pure, hpD]) ?_
  by_cases hlm : l.length = m.length
  · have e : (((l.length : Nat) : Int) = (m.length : Int)) = True := eq_true (by omega)
    simp (disch := omega) only [i_fettleref4_SameAct, wp_skip, wp_ops, wp_seq, wp_block, wp_exit, wp_ret, wp_condn, condK_b, condB_t, condB_f, condB_d, wp_draw, wpL_nil, wpL_0, freeK_s, wpL_1, readK_s, wpL_2, writeK_s, wpL_g, gdK_b, gdK_u, List.zip_cons_cons, List.zip_nil_left, seqK_n, seqK_e, seqK_r, blockK_n, blockK_e, blockK_r, loopK_n, loopK_e, loopK_r, endK_r, endK_n, wpS_nil', wpS_op, opK_d, opK_0, wpS_g, guardK_b, guardK_u, putS_d, putS_0, wpS_frz, retellK_s, exOpS, evS_t, evS_c, upd, val, unit, isC, loadA, takeA, cells_agg, cells_int, cells_str, cells_bool, cells_vs, cells_nilsl, cells_hs, cells_ptr, cells_pimm, cells_nilptr, List.getElem?_cons_zero, List.getElem?_cons_succ, List.length_cons, List.length_nil, List.drop_zero, List.drop_succ_cons, List.take_succ_cons, List.take_zero, Nat.zero_add, flats, flat_int, flat_str, flat_bool, flat_vs, flat_nilsl, flat_hs, flat_ptr, flat_pimm, flat_nilptr, List.all_cons, List.all_nil, storeA, putElem, putCells, List.cons_append, List.nil_append, List.append_nil, List.set_cons_zero, Heap.get_new, set_set, get_new_set, frz_ptr, frzP_arr, frzB_t, stride_vs, stride_new, stride_new_set, stride_nil, stride_str, stride_ptr, stride_pimm, unA, nbeq_self, cond_true, cond_false, Nat.le_refl, Nat.zero_le, Nat.zero_lt_one, Nat.reduceLT, Nat.reduceLeDiff, Nat.zero_lt_succ, List.map_cons, List.map_nil, Option.map_some, Option.map_none, Nat.reduceEqDiff, Bool.or_false, Bool.or_true, Bool.false_or, Bool.true_or, ↓reduceIte, Nat.reduceAdd, reduceCtorEq, eq_self, beq_tt, beq_tf, beq_ft, beq_ff, beq_bt, beq_bf, Bool.not_true, Bool.not_false, Nat.reduceSub, Int.reduceEq, Int.reduceNe, Int.reduceLT, Int.reduceLE, Int.reduceNeg, Int.reduceAdd, Int.reduceSub, Int.reduceToNat, Int.toNat_natCast, ne_eq, bin_lss, bin_leq, bin_gtr, bin_geq, bin_eql, bin_neq, bin_add, bin_sub, bin_mul, bin_str_eql, bin_str_neq, bin_bool_eql, bin_bool_neq, wrapF_i64, Option.isSome_none, len_str, len_vs, len_hs, len_nil, argSt, resS, pack_one, pack_two, pureK_eq, pureE_t, AVal.pures, AVal.pure, Bool.and_true, Bool.true_and, and_true, true_and, decide_eq_true_eq, decide_eq_false_iff_not, decide_true, decide_false, not_false_eq_true, not_true_eq_false, false_implies, true_implies, forall_const, implies_true, Bool.false_eq_true, Bool.and_self, cast0, cast1, Int.sub_zero, Int.zero_add, Int.add_zero, Nat.add_zero, vsD, List.length_map, e]
    refine wp_loopI (fun k σ H => ∃ p q r, l = p ++ q ∧ m = p ++ r ∧ k = q.length ∧ σ 0 = vsD l cl ∧ σ 1 = vsD m cm ∧ σ 5 = .int .i64 p.length) l.length hl ⟨[], l, m, rfl, rfl, rfl, rfl, rfl, rfl⟩ ?_
    rintro J hJ k σ H ⟨p, q, r, hpq, hpr, rfl, h0, h1, h5⟩
    unfold many at hl
    have hln : l.length = p.length + q.length := by rw [hpq, List.length_append]
    have hmn : m.length = p.length + r.length := by rw [hpr, List.length_append]
    rw [vsD] at h0 h1
    cases q with
    | nil =>
      have e2 : ((p.length : Int) < (l.length : Int)) = False := eq_false (by simp at hln; omega)
      have hr0 : r = [] := List.length_eq_zero_iff.1 (by simp at hln; omega)
      subst hr0
      simp (disch := omega) only [wp_skip, wp_ops, wp_seq, wp_block, wp_exit, wp_ret, wp_condn, condK_b, condB_t, condB_f, condB_d, wp_draw, wpL_nil, wpL_0, freeK_s, wpL_1, readK_s, wpL_2, writeK_s, wpL_g, gdK_b, gdK_u, List.zip_cons_cons, List.zip_nil_left, seqK_n, seqK_e, seqK_r, blockK_n, blockK_e, blockK_r, loopK_n, loopK_e, loopK_r, endK_r, endK_n, wpS_nil', wpS_op, opK_d, opK_0, wpS_g, guardK_b, guardK_u, putS_d, putS_0, wpS_frz, retellK_s, exOpS, evS_t, evS_c, upd, val, unit, isC, loadA, takeA, cells_agg, cells_int, cells_str, cells_bool, cells_vs, cells_nilsl, cells_hs, cells_ptr, cells_pimm, cells_nilptr, List.getElem?_cons_zero, List.getElem?_cons_succ, List.length_cons, List.length_nil, List.drop_zero, List.drop_succ_cons, List.take_succ_cons, List.take_zero, Nat.zero_add, flats, flat_int, flat_str, flat_bool, flat_vs, flat_nilsl, flat_hs, flat_ptr, flat_pimm, flat_nilptr, List.all_cons, List.all_nil, storeA, putElem, putCells, List.cons_append, List.nil_append, List.append_nil, List.set_cons_zero, Heap.get_new, set_set, get_new_set, frz_ptr, frzP_arr, frzB_t, stride_vs, stride_new, stride_new_set, stride_nil, stride_str, stride_ptr, stride_pimm, unA, nbeq_self, cond_true, cond_false, Nat.le_refl, Nat.zero_le, Nat.zero_lt_one, Nat.reduceLT, Nat.reduceLeDiff, Nat.zero_lt_succ, List.map_cons, List.map_nil, Option.map_some, Option.map_none, Nat.reduceEqDiff, Bool.or_false, Bool.or_true, Bool.false_or, Bool.true_or, ↓reduceIte, Nat.reduceAdd, reduceCtorEq, eq_self, beq_tt, beq_tf, beq_ft, beq_ff, beq_bt, beq_bf, Bool.not_true, Bool.not_false, Nat.reduceSub, Int.reduceEq, Int.reduceNe, Int.reduceLT, Int.reduceLE, Int.reduceNeg, Int.reduceAdd, Int.reduceSub, Int.reduceToNat, Int.toNat_natCast, ne_eq, bin_lss, bin_leq, bin_gtr, bin_geq, bin_eql, bin_neq, bin_add, bin_sub, bin_mul, bin_str_eql, bin_str_neq, bin_bool_eql, bin_bool_neq, wrapF_i64, Option.isSome_none, len_str, len_vs, len_hs, len_nil, argSt, resS, pack_one, pack_two, pureK_eq, pureE_t, AVal.pures, AVal.pure, Bool.and_true, Bool.true_and, and_true, true_and, decide_eq_true_eq, decide_eq_false_iff_not, decide_true, decide_false, not_false_eq_true, not_true_eq_false, false_implies, true_implies, forall_const, implies_true, Bool.false_eq_true, Bool.and_self, cast0, cast1, Int.sub_zero, Int.zero_add, Int.add_zero, Nat.add_zero, h0, h1, h5, e2, List.length_map]
      simp [hpq, hpr]
    | cons a q =>
      cases r with
      | nil => simp at hln hmn; omega
      | cons b r =>
        have e2 : ((p.length : Int) < (l.length : Int)) = True := eq_true (by simp at hln; omega)
        have ha : (l.map D.v)[p.length]? = some a.v := by rw [hpq]; simp
        have hb : (m.map D.v)[p.length]? = some b.v := by rw [hpr]; simp
        simp (disch := omega) only [wp_skip, wp_ops, wp_seq, wp_block, wp_exit, wp_ret, wp_condn, condK_b, condB_t, condB_f, condB_d, wp_draw, wpL_nil, wpL_0, freeK_s, wpL_1, readK_s, wpL_2, writeK_s, wpL_g, gdK_b, gdK_u, List.zip_cons_cons, List.zip_nil_left, seqK_n, seqK_e, seqK_r, blockK_n, blockK_e, blockK_r, loopK_n, loopK_e, loopK_r, endK_r, endK_n, wpS_nil', wpS_op, opK_d, opK_0, wpS_g, guardK_b, guardK_u, putS_d, putS_0, wpS_frz, retellK_s, exOpS, evS_t, evS_c, upd, val, unit, isC, loadA, takeA, cells_agg, cells_int, cells_str, cells_bool, cells_vs, cells_nilsl, cells_hs, cells_ptr, cells_pimm, cells_nilptr, List.getElem?_cons_zero, List.getElem?_cons_succ, List.length_cons, List.length_nil, List.drop_zero, List.drop_succ_cons, List.take_succ_cons, List.take_zero, Nat.zero_add, flats, flat_int, flat_str, flat_bool, flat_vs, flat_nilsl, flat_hs, flat_ptr, flat_pimm, flat_nilptr, List.all_cons, List.all_nil, storeA, putElem, putCells, List.cons_append, List.nil_append, List.append_nil, List.set_cons_zero, Heap.get_new, set_set, get_new_set, frz_ptr, frzP_arr, frzB_t, stride_vs, stride_new, stride_new_set, stride_nil, stride_str, stride_ptr, stride_pimm, unA, nbeq_self, cond_true, cond_false, Nat.le_refl, Nat.zero_le, Nat.zero_lt_one, Nat.reduceLT, Nat.reduceLeDiff, Nat.zero_lt_succ, List.map_cons, List.map_nil, Option.map_some, Option.map_none, Nat.reduceEqDiff, Bool.or_false, Bool.or_true, Bool.false_or, Bool.true_or, ↓reduceIte, Nat.reduceAdd, reduceCtorEq, eq_self, beq_tt, beq_tf, beq_ft, beq_ff, beq_bt, beq_bf, Bool.not_true, Bool.not_false, Nat.reduceSub, Int.reduceEq, Int.reduceNe, Int.reduceLT, Int.reduceLE, Int.reduceNeg, Int.reduceAdd, Int.reduceSub, Int.reduceToNat, Int.toNat_natCast, ne_eq, bin_lss, bin_leq, bin_gtr, bin_geq, bin_eql, bin_neq, bin_add, bin_sub, bin_mul, bin_str_eql, bin_str_neq, bin_bool_eql, bin_bool_neq, wrapF_i64, Option.isSome_none, len_str, len_vs, len_hs, len_nil, argSt, resS, pack_one, pack_two, pureK_eq, pureE_t, AVal.pures, AVal.pure, Bool.and_true, Bool.true_and, and_true, true_and, decide_eq_true_eq, decide_eq_false_iff_not, decide_true, decide_false, not_false_eq_true, not_true_eq_false, false_implies, true_implies, forall_const, implies_true, Bool.false_eq_true, Bool.and_self, cast0, cast1, Int.sub_zero, Int.zero_add, Int.add_zero, Nat.add_zero, h0, h1, h5, e2, List.length_map]
        refine draw_L [1, 1, 1, 1, 1, 1, 1, 1, 1] (by kernel_rfl) (by kernel_rfl) ?_
        obtain ⟨k1, n1, t1⟩ := a
        obtain ⟨k2, n2, t2⟩ := b
        simp only [D.v] at ha hb
        have hneq : ∀ lit, binA .neq (.agg [0, 0, 2]) lit (.agg [.int .i64 k1, .int .i64 n1, .str t1]) (.agg [.int .i64 k2, .int .i64 n2, .str t2]) = some (.bool (!decide ((⟨k1, n1, t1⟩ : D) = ⟨k2, n2, t2⟩))) := fun lit => by
          have hd : decide ((⟨k1, n1, t1⟩ : D) = ⟨k2, n2, t2⟩) = (decide (k1 = k2) && (decide (n1 = n2) && decide (t1 = t2))) := by
            simp only [D.mk.injEq]
            by_cases h1 : k1 = k2 <;> by_cases h2 : n1 = n2 <;> by_cases h3 : t1 = t2 <;> simp [h1, h2, h3]
          rw [hd]
          have ht : (t1 == t2) = decide (t1 = t2) := by by_cases h : t1 = t2 <;> simp [h]
          have hk : (k1 == k2) = decide (k1 = k2) := rfl
          have hn : (n1 == n2) = decide (n1 = n2) := rfl
          simp only [binA, eqArm, eqOf, cellsEq, cellEq, eqI_eq, ht, hk, hn, if_true]
          cases decide (k1 = k2) <;> cases decide (n1 = n2) <;> cases decide (t1 = t2) <;> rfl
        by_cases hab : (⟨k1, n1, t1⟩ : D) = ⟨k2, n2, t2⟩
        · have hdt : decide ((⟨k1, n1, t1⟩ : D) = ⟨k2, n2, t2⟩) = true := by simpa using hab
          simp (disch := omega) only [wp_skip, wp_ops, wp_seq, wp_block, wp_exit, wp_ret, wp_condn, condK_b, condB_t, condB_f, condB_d, wp_draw, wpL_nil, wpL_0, freeK_s, wpL_1, readK_s, wpL_2, writeK_s, wpL_g, gdK_b, gdK_u, List.zip_cons_cons, List.zip_nil_left, seqK_n, seqK_e, seqK_r, blockK_n, blockK_e, blockK_r, loopK_n, loopK_e, loopK_r, endK_r, endK_n, wpS_nil', wpS_op, opK_d, opK_0, wpS_g, guardK_b, guardK_u, putS_d, putS_0, wpS_frz, retellK_s, exOpS, evS_t, evS_c, upd, val, unit, isC, loadA, takeA, cells_agg, cells_int, cells_str, cells_bool, cells_vs, cells_nilsl, cells_hs, cells_ptr, cells_pimm, cells_nilptr, List.getElem?_cons_zero, List.getElem?_cons_succ, List.length_cons, List.length_nil, List.drop_zero, List.drop_succ_cons, List.take_succ_cons, List.take_zero, Nat.zero_add, flats, flat_int, flat_str, flat_bool, flat_vs, flat_nilsl, flat_hs, flat_ptr, flat_pimm, flat_nilptr, List.all_cons, List.all_nil, storeA, putElem, putCells, List.cons_append, List.nil_append, List.append_nil, List.set_cons_zero, Heap.get_new, set_set, get_new_set, frz_ptr, frzP_arr, frzB_t, stride_vs, stride_new, stride_new_set, stride_nil, stride_str, stride_ptr, stride_pimm, unA, nbeq_self, cond_true, cond_false, Nat.le_refl, Nat.zero_le, Nat.zero_lt_one, Nat.reduceLT, Nat.reduceLeDiff, Nat.zero_lt_succ, List.map_cons, List.map_nil, Option.map_some, Option.map_none, Nat.reduceEqDiff, Bool.or_false, Bool.or_true, Bool.false_or, Bool.true_or, ↓reduceIte, Nat.reduceAdd, reduceCtorEq, eq_self, beq_tt, beq_tf, beq_ft, beq_ff, beq_bt, beq_bf, Bool.not_true, Bool.not_false, Nat.reduceSub, Int.reduceEq, Int.reduceNe, Int.reduceLT, Int.reduceLE, Int.reduceNeg, Int.reduceAdd, Int.reduceSub, Int.reduceToNat, Int.toNat_natCast, ne_eq, bin_lss, bin_leq, bin_gtr, bin_geq, bin_eql, bin_neq, bin_add, bin_sub, bin_mul, bin_str_eql, bin_str_neq, bin_bool_eql, bin_bool_neq, wrapF_i64, Option.isSome_none, len_str, len_vs, len_hs, len_nil, argSt, resS, pack_one, pack_two, pureK_eq, pureE_t, AVal.pures, AVal.pure, Bool.and_true, Bool.true_and, and_true, true_and, decide_eq_true_eq, decide_eq_false_iff_not, decide_true, decide_false, not_false_eq_true, not_true_eq_false, false_implies, true_implies, forall_const, implies_true, Bool.false_eq_true, Bool.and_self, cast0, cast1, Int.sub_zero, Int.zero_add, Int.add_zero, Nat.add_zero, h0, h1, h5, addr_vs_at ha, addr_vs_at hb, hneq, hdt]
          subst hJ
          refine ⟨q.length, by simp, p ++ [⟨k1, n1, t1⟩], q, r, by simp [hpq], by rw [hpr, ← hab]; simp, rfl, ?_, ?_, ?_⟩
          · simp [upd, h0, vsD]
          · simp [upd, h1, vsD]
          · simp [upd]
        · have hdt : decide ((⟨k1, n1, t1⟩ : D) = ⟨k2, n2, t2⟩) = false := by simpa using hab
          simp (disch := omega) only [wp_skip, wp_ops, wp_seq, wp_block, wp_exit, wp_ret, wp_condn, condK_b, condB_t, condB_f, condB_d, wp_draw, wpL_nil, wpL_0, freeK_s, wpL_1, readK_s, wpL_2, writeK_s, wpL_g, gdK_b, gdK_u, List.zip_cons_cons, List.zip_nil_left, seqK_n, seqK_e, seqK_r, blockK_n, blockK_e, blockK_r, loopK_n, loopK_e, loopK_r, endK_r, endK_n, wpS_nil', wpS_op, opK_d, opK_0, wpS_g, guardK_b, guardK_u, putS_d, putS_0, wpS_frz, retellK_s, exOpS, evS_t, evS_c, upd, val, unit, isC, loadA, takeA, cells_agg, cells_int, cells_str, cells_bool, cells_vs, cells_nilsl, cells_hs, cells_ptr, cells_pimm, cells_nilptr, List.getElem?_cons_zero, List.getElem?_cons_succ, List.length_cons, List.length_nil, List.drop_zero, List.drop_succ_cons, List.take_succ_cons, List.take_zero, Nat.zero_add, flats, flat_int, flat_str, flat_bool, flat_vs, flat_nilsl, flat_hs, flat_ptr, flat_pimm, flat_nilptr, List.all_cons, List.all_nil, storeA, putElem, putCells, List.cons_append, List.nil_append, List.append_nil, List.set_cons_zero, Heap.get_new, set_set, get_new_set, frz_ptr, frzP_arr, frzB_t, stride_vs, stride_new, stride_new_set, stride_nil, stride_str, stride_ptr, stride_pimm, unA, nbeq_self, cond_true, cond_false, Nat.le_refl, Nat.zero_le, Nat.zero_lt_one, Nat.reduceLT, Nat.reduceLeDiff, Nat.zero_lt_succ, List.map_cons, List.map_nil, Option.map_some, Option.map_none, Nat.reduceEqDiff, Bool.or_false, Bool.or_true, Bool.false_or, Bool.true_or, ↓reduceIte, Nat.reduceAdd, reduceCtorEq, eq_self, beq_tt, beq_tf, beq_ft, beq_ff, beq_bt, beq_bf, Bool.not_true, Bool.not_false, Nat.reduceSub, Int.reduceEq, Int.reduceNe, Int.reduceLT, Int.reduceLE, Int.reduceNeg, Int.reduceAdd, Int.reduceSub, Int.reduceToNat, Int.toNat_natCast, ne_eq, bin_lss, bin_leq, bin_gtr, bin_geq, bin_eql, bin_neq, bin_add, bin_sub, bin_mul, bin_str_eql, bin_str_neq, bin_bool_eql, bin_bool_neq, wrapF_i64, Option.isSome_none, len_str, len_vs, len_hs, len_nil, argSt, resS, pack_one, pack_two, pureK_eq, pureE_t, AVal.pures, AVal.pure, Bool.and_true, Bool.true_and, and_true, true_and, decide_eq_true_eq, decide_eq_false_iff_not, decide_true, decide_false, not_false_eq_true, not_true_eq_false, false_implies, true_implies, forall_const, implies_true, Bool.false_eq_true, Bool.and_self, cast0, cast1, Int.sub_zero, Int.zero_add, Int.add_zero, Nat.add_zero, h0, h1, h5, addr_vs_at ha, addr_vs_at hb, hneq, hdt]
          have : l ≠ m := fun h => by
            rw [hpq, hpr] at h
            have := List.append_cancel_left h
            exact hab (List.cons.inj this).1
          simp [this]
  · have e : (((l.length : Nat) : Int) = (m.length : Int)) = False := eq_false (by omega)
    simp (disch := omega) only [i_fettleref4_SameAct, wp_skip, wp_ops, wp_seq, wp_block, wp_exit, wp_ret, wp_condn, condK_b, condB_t, condB_f, condB_d, wp_draw, wpL_nil, wpL_0, freeK_s, wpL_1, readK_s, wpL_2, writeK_s, wpL_g, gdK_b, gdK_u, List.zip_cons_cons, List.zip_nil_left, seqK_n, seqK_e, seqK_r, blockK_n, blockK_e, blockK_r, loopK_n, loopK_e, loopK_r, endK_r, endK_n, wpS_nil', wpS_op, opK_d, opK_0, wpS_g, guardK_b, guardK_u, putS_d, putS_0, wpS_frz, retellK_s, exOpS, evS_t, evS_c, upd, val, unit, isC, loadA, takeA, cells_agg, cells_int, cells_str, cells_bool, cells_vs, cells_nilsl, cells_hs, cells_ptr, cells_pimm, cells_nilptr, List.getElem?_cons_zero, List.getElem?_cons_succ, List.length_cons, List.length_nil, List.drop_zero, List.drop_succ_cons, List.take_succ_cons, List.take_zero, Nat.zero_add, flats, flat_int, flat_str, flat_bool, flat_vs, flat_nilsl, flat_hs, flat_ptr, flat_pimm, flat_nilptr, List.all_cons, List.all_nil, storeA, putElem, putCells, List.cons_append, List.nil_append, List.append_nil, List.set_cons_zero, Heap.get_new, set_set, get_new_set, frz_ptr, frzP_arr, frzB_t, stride_vs, stride_new, stride_new_set, stride_nil, stride_str, stride_ptr, stride_pimm, unA, nbeq_self, cond_true, cond_false, Nat.le_refl, Nat.zero_le, Nat.zero_lt_one, Nat.reduceLT, Nat.reduceLeDiff, Nat.zero_lt_succ, List.map_cons, List.map_nil, Option.map_some, Option.map_none, Nat.reduceEqDiff, Bool.or_false, Bool.or_true, Bool.false_or, Bool.true_or, ↓reduceIte, Nat.reduceAdd, reduceCtorEq, eq_self, beq_tt, beq_tf, beq_ft, beq_ff, beq_bt, beq_bf, Bool.not_true, Bool.not_false, Nat.reduceSub, Int.reduceEq, Int.reduceNe, Int.reduceLT, Int.reduceLE, Int.reduceNeg, Int.reduceAdd, Int.reduceSub, Int.reduceToNat, Int.toNat_natCast, ne_eq, bin_lss, bin_leq, bin_gtr, bin_geq, bin_eql, bin_neq, bin_add, bin_sub, bin_mul, bin_str_eql, bin_str_neq, bin_bool_eql, bin_bool_neq, wrapF_i64, Option.isSome_none, len_str, len_vs, len_hs, len_nil, argSt, resS, pack_one, pack_two, pureK_eq, pureE_t, AVal.pures, AVal.pure, Bool.and_true, Bool.true_and, and_true, true_and, decide_eq_true_eq, decide_eq_false_iff_not, decide_true, decide_false, not_false_eq_true, not_true_eq_false, false_implies, true_implies, forall_const, implies_true, Bool.false_eq_true, Bool.and_self, cast0, cast1, Int.sub_zero, Int.zero_add, Int.add_zero, Nat.add_zero, vsD, List.length_map, e]
    have : l ≠ m := fun h => hlm (by rw [h])
    simp [this]
end Go.Abx
