/- ActsOwn: the plain law: true at every input. -/
import Derived.Test.YtmnbafbicjgjgaaDoorAbxA7
import Derived.Test.YtmnbafbicjgjgaaDoorAbxX6
namespace Go.Abx
set_option maxRecDepth 100000
set_option linter.unusedSimpArgs false
set_option linter.unusedVariables false

/-- Objects that are only read from now on. -/
def Keep (R : List (Nat × List AVal × Nat)) (N : Nat) (H : Heap) : Prop := N ≤ H.next ∧ ∀ x ∈ R, x.1 < N ∧ Rd H x.1 x.2.1 x.2.2
section
variable {R : List (Nat × List AVal × Nat)} {N : Nat} {H : Heap}
theorem Keep.new (h : Keep R N H) (o : AObj) : Keep R N (H.new o) :=
  ⟨by rw [next_new]; have := h.1; omega, fun x hx => by
    obtain ⟨h1, c, f, h2⟩ := h.2 x hx
    exact ⟨h1, c, f, by rw [get_new_lt (by have := h.1; omega)]; exact h2⟩⟩
theorem Keep.set_ge (h : Keep R N H) {id : Nat} (hid : N ≤ id) (o : AObj) : Keep R N (H.set id o) :=
  ⟨h.1, fun x hx => by
    obtain ⟨h1, c, f, h2⟩ := h.2 x hx
    exact ⟨h1, c, f, by rw [get_set_other (by omega)]; exact h2⟩⟩
theorem Keep.drop_ge (h : Keep R N H) {id : Nat} (hid : N ≤ id) : Keep R N (H.drop id) :=
  ⟨h.1, fun x hx => by
    obtain ⟨h1, c, f, h2⟩ := h.2 x hx
    exact ⟨h1, c, f, by rw [get_drop_other (by omega)]; exact h2⟩⟩
theorem Keep.freeze (h : Keep R N H) {id sz fr fr' : Nat} {es : List AVal} {cap : Option Nat} (hg : H.get id = some (.arr es sz cap fr)) : Keep R N (H.set id (.arr es sz cap fr')) :=
  ⟨h.1, fun x hx => by
    obtain ⟨h1, c, f, h2⟩ := h.2 x hx
    by_cases hi : x.1 = id
    · rw [hi, hg] at h2
      simp only [Option.some.injEq, AObj.arr.injEq] at h2
      obtain ⟨e1, e2, rfl, rfl⟩ := h2
      exact ⟨h1, cap, fr', by rw [hi, ← e1, ← e2]; exact Heap.get_set _ _ _ _ hg⟩
    · exact ⟨h1, c, f, by rw [get_set_other (fun e => hi e.symm)]; exact h2⟩⟩
end

/-- Bytes of one's own, whose capacity is their length. -/
def Vown (N : Nat) (v : AVal) (H : Heap) (n : Nat) : Prop :=
  (v = .nilsl ∧ n = 0) ∨ (v = .vs [] 1 (some 0) ∧ n = 0) ∨ ∃ id bs, v = .hs id 0 n (some n) ∧ N ≤ id ∧ id < H.next ∧ H.get id = some (.arr (ofBytes bs) 1 none 0) ∧ bs.length = n
theorem Vown.len {N n : Nat} {v : AVal} {H : Heap} (h : Vown N v H n) (H' : Heap) : lenA H' .slice v = some n := by
  rcases h with ⟨rfl, rfl⟩ | ⟨rfl, rfl⟩ | ⟨id, bs, rfl, _⟩ <;> rfl
theorem Vown.stride {N n : Nat} {v : AVal} {H : Heap} (h : Vown N v H n) : stride H 1 v = true := by
  rcases h with ⟨rfl, rfl⟩ | ⟨rfl, rfl⟩ | ⟨id, bs, rfl, _, _, hg, _⟩
  · rfl
  · rfl
  · exact stride_at hg

theorem runG_len {ins : List (List Int)} : ∀ {l : List D} {b x : List Int}, runG ins l b = some x → b.length ≤ 256 → x.length ≤ 256
  | [], b, x, h, hb => by simp only [runG, Option.some.injEq] at h; rw [← h]; exact hb
  | d :: r, b, x, h, hb => by
    simp only [runG] at h
    split at h
    · split at h
      · cases h
      · exact runG_len h (by omega)
    · cases h
theorem runF_len {ins : List (List Int)} {l : List D} {x : List Int} (h : runF l ins = some x) : x.length ≤ 256 := by
  simp only [runF] at h
  split at h
  · exact runG_len h (by simp)
  · cases h
theorem Vown.app {R : List (Nat × List AVal × Nat)} {N n : Nat} {v : AVal} {H : Heap} (h : Vown N v H n) (hk : Keep R N H) (hn : n ≤ 1099511627776) (es : List AVal) (hes : es.length = 3) :
    Abx.stride (H.new (.arr es 1 (some 3) 0)) 1 v = true ∧ ∃ v2 H2, appendA 1 1 v (.hs H.next 0 3 (some 3)) (H.new (.arr es 1 (some 3) 0)) = some (v2, H2) ∧ Keep R N H2 := by
  have hsrc : srcEls 1 (H.new (.arr es 1 (some 3) 0)) (.hs H.next 0 3 (some 3)) = some es := by
    rw [src_hs (Heap.get_new _ _) (by omega), List.drop_zero, List.take_of_length_le (by omega)]
  have hne : es ≠ [] := by intro h; subst h; simp at hes
  have hk1 := hk.new (.arr es 1 (some 3) 0)
  rcases h with ⟨rfl, rfl⟩ | ⟨rfl, rfl⟩ | ⟨id, bs, rfl, hid, hlt, hg, hb⟩
  · exact ⟨rfl, _, _, app_nil hsrc hne (by omega), hk1.new _⟩
  · exact ⟨rfl, _, _, app_vs0 hsrc hne (by omega), hk1.new _⟩
  · have hg1 : (H.new (.arr es 1 (some 3) 0)).get id = some (.arr (ofBytes bs) 1 none 0) := by rw [get_new_lt hlt]; exact hg
    exact ⟨stride_at hg1, _, _, app_full hsrc hne hg1 (by rw [ofBytes_length]; omega) (by omega), hk1.new _⟩
def vOwn : Env := [(8, e_acts_Run), (0, e_fettlelaw6_Act), (3, .pure false awakeS)]
theorem run_own {iv : AVal} {rs : List (AVal × List Int)} {R : List (Nat × List AVal × Nat)} {N id : Nat} {lim : Option Nat} {ds : List D} {H : Heap} (hi : isRows iv rs) (hl : rs.length ≤ 8) (hb : ∀ r ∈ rs, r.2.length ≤ 256) (hk : Keep R N H) (hr : Rd H id (ds.map D.v) 3) (hg : ∀ d ∈ ds, 0 ≤ d.n ∧ d.t.length ≤ 65536) (hd : ds.length ≤ 8) :
    ∃ v ok H' n, exCall vOwn 8 .own [.hs id 0 ds.length lim, iv] H = some (.tup [v, .bool ok], H') ∧ Keep R N H' ∧ Vown N v H' n ∧ n ≤ 256 := by
  have hcat : ∀ l : List (AVal × List Int), (∀ r ∈ l, r.2.length ≤ 256) → (catB l).length ≤ l.length * 256 := by
    intro l
    induction l with
    | nil => intro _; simp [catB]
    | cons x l ih =>
      intro h
      have := ih fun r hr => h r (by simp [hr])
      have hx := h x (by simp)
      have e : catB (x :: l) = x.2 ++ catB l := by simp [catB]
      rw [e, List.length_append, List.length_cons]; omega
  have hc := hcat rs hb
  obtain ⟨r, hrun, hR⟩ := run_run (l := ds) (cap := lim) hi (by unfold many; omega) hg (by omega) (by omega)
  obtain ⟨cap, fr, hget⟩ := hr
  have hcall := exCall_own_hs (env := vOwn) (g := 8) (n := ds.length) (lim := lim) (rest := [iv]) (r := r) rfl hget (by simp) (pures_of fun x hx => by obtain ⟨d, _, rfl⟩ := List.mem_map.1 hx; rfl) (by simp [AVal.pures, hi.pure]) (by rw [List.take_of_length_le (by simp)]; exact hrun)
  have hk2 := hk.freeze (fr' := (ds.map D.v).length) hget
  cases hF : runF ds (rs.map (·.2)) with
  | none =>
    rw [hF] at hR
    have : r = .tup [.nilsl, .bool false] := hR
    subst this
    exact ⟨_, _, _, 0, hcall, hk2, .inl ⟨rfl, rfl⟩, by decide⟩
  | some out =>
    rw [hF] at hR
    obtain ⟨v, rfl, ⟨rfl, _⟩ | rfl⟩ := hR
    · exact ⟨_, _, _, 0, hcall, hk2, .inl ⟨rfl, rfl⟩, by decide⟩
    · by_cases ho : out = []
      · subst ho
        exact ⟨_, _, _, 0, hcall, hk2, .inr (.inl ⟨rfl, rfl⟩), by decide⟩
      · rw [import_tup_ne (ofBytes_ne ho)] at hcall
        have hlen : (ofBytes out).length = out.length := ofBytes_length out
        rw [hlen] at hcall
        refine ⟨_, _, _, out.length, hcall, hk2.new _, .inr (.inr ⟨_, out, rfl, hk2.1, Nat.lt_succ_self _, Heap.get_new _ _, rfl⟩), ?_⟩
        have := runF_len hF
        omega

theorem own_run {av iv : AVal} {zs : List Int} {rs : List (AVal × List Int)} (ha : isInts av zs) (hi : isRows iv rs) (hb : ∀ r ∈ rs, ∀ x ∈ r.2, 0 ≤ x ∧ x < 256) : runPure vOwn i_fettlelaw6_ActsOwn [av, iv] = some (.bool true) := by
  refine runPure_W (by kernel_rfl) (by kernel_rfl) (by simp [AVal.pures, ha.pure, hi.pure]) ?_
  have haw : ∀ H, exCall vOwn 3 .pure [] H = some (.bool true, H) := fun H => exCall_pure rfl rfl rfl
  by_cases h8 : 8 < rs.length
  · have e : ((8 : Int) < (rs.length : Int)) = True := eq_true (by omega)
    simp (disch := omega) only [i_fettlelaw6_ActsOwn, wp_skip, wp_ops, wp_seq, wp_block, wp_exit, wp_ret, wp_condn, condK_b, condB_t, condB_f, condB_d, wp_draw, wpL_nil, wpL_0, freeK_s, wpL_1, readK_s, wpL_2, writeK_s, wpL_g, gdK_b, gdK_u, List.zip_cons_cons, List.zip_nil_left, seqK_n, seqK_e, seqK_r, blockK_n, blockK_e, blockK_r, loopK_n, loopK_e, loopK_r, endK_r, endK_n, wpS_nil', wpS_op, opK_d, opK_0, wpS_g, guardK_b, guardK_u, putS_d, putS_0, wpS_frz, retellK_s, exOpS, evS_t, evS_c, upd, val, unit, isC, loadA, takeA, cells_agg, cells_int, cells_str, cells_bool, cells_vs, cells_nilsl, cells_hs, cells_ptr, cells_pimm, cells_nilptr, List.getElem?_cons_zero, List.getElem?_cons_succ, List.length_cons, List.length_nil, List.drop_zero, List.drop_succ_cons, List.take_succ_cons, List.take_zero, Nat.zero_add, flats, flat_int, flat_str, flat_bool, flat_vs, flat_nilsl, flat_hs, flat_ptr, flat_pimm, flat_nilptr, List.all_cons, List.all_nil, storeA, putElem, putCells, List.cons_append, List.nil_append, List.append_nil, List.set_cons_zero, Heap.get_new, set_set, get_new_set, frz_ptr, frzP_arr, frzB_t, stride_vs, stride_new, stride_new_set, stride_nil, stride_str, stride_ptr, stride_pimm, unA, nbeq_self, cond_true, cond_false, Nat.le_refl, Nat.zero_le, Nat.zero_lt_one, Nat.reduceLT, Nat.reduceLeDiff, Nat.zero_lt_succ, List.map_cons, List.map_nil, Option.map_some, Option.map_none, Nat.reduceEqDiff, Bool.or_false, Bool.or_true, Bool.false_or, Bool.true_or, ↓reduceIte, Nat.reduceAdd, reduceCtorEq, eq_self, beq_tt, beq_tf, beq_ft, beq_ff, beq_bt, beq_bf, Bool.not_true, Bool.not_false, Nat.reduceSub, Int.reduceEq, Int.reduceNe, Int.reduceLT, Int.reduceLE, Int.reduceNeg, Int.reduceAdd, Int.reduceSub, Int.reduceToNat, Int.toNat_natCast, ne_eq, bin_lss, bin_leq, bin_gtr, bin_geq, bin_eql, bin_neq, bin_add, bin_sub, bin_mul, bin_str_eql, bin_str_neq, bin_bool_eql, bin_bool_neq, wrapF_i64, Option.isSome_none, len_str, len_vs, len_hs, len_nil, argSt, resS, pack_one, pack_two, pureK_eq, pureE_t, AVal.pures, AVal.pure, Bool.and_true, Bool.true_and, and_true, true_and, decide_eq_true_eq, decide_eq_false_iff_not, decide_true, decide_false, not_false_eq_true, not_true_eq_false, false_implies, true_implies, forall_const, implies_true, Bool.false_eq_true, Bool.and_self, cast0, cast1, Int.sub_zero, Int.zero_add, Int.add_zero, Nat.add_zero, hi.len, e, haw]
  have e8 : ((8 : Int) < (rs.length : Int)) = False := eq_false (by omega)
  simp (disch := omega) only [i_fettlelaw6_ActsOwn, wp_skip, wp_ops, wp_seq, wp_block, wp_exit, wp_ret, wp_condn, condK_b, condB_t, condB_f, condB_d, wp_draw, wpL_nil, wpL_0, freeK_s, wpL_1, readK_s, wpL_2, writeK_s, wpL_g, gdK_b, gdK_u, List.zip_cons_cons, List.zip_nil_left, seqK_n, seqK_e, seqK_r, blockK_n, blockK_e, blockK_r, loopK_n, loopK_e, loopK_r, endK_r, endK_n, wpS_nil', wpS_op, opK_d, opK_0, wpS_g, guardK_b, guardK_u, putS_d, putS_0, wpS_frz, retellK_s, exOpS, evS_t, evS_c, upd, val, unit, isC, loadA, takeA, cells_agg, cells_int, cells_str, cells_bool, cells_vs, cells_nilsl, cells_hs, cells_ptr, cells_pimm, cells_nilptr, List.getElem?_cons_zero, List.getElem?_cons_succ, List.length_cons, List.length_nil, List.drop_zero, List.drop_succ_cons, List.take_succ_cons, List.take_zero, Nat.zero_add, flats, flat_int, flat_str, flat_bool, flat_vs, flat_nilsl, flat_hs, flat_ptr, flat_pimm, flat_nilptr, List.all_cons, List.all_nil, storeA, putElem, putCells, List.cons_append, List.nil_append, List.append_nil, List.set_cons_zero, Heap.get_new, set_set, get_new_set, frz_ptr, frzP_arr, frzB_t, stride_vs, stride_new, stride_new_set, stride_nil, stride_str, stride_ptr, stride_pimm, unA, nbeq_self, cond_true, cond_false, Nat.le_refl, Nat.zero_le, Nat.zero_lt_one, Nat.reduceLT, Nat.reduceLeDiff, Nat.zero_lt_succ, List.map_cons, List.map_nil, Option.map_some, Option.map_none, Nat.reduceEqDiff, Bool.or_false, Bool.or_true, Bool.false_or, Bool.true_or, ↓reduceIte, Nat.reduceAdd, reduceCtorEq, eq_self, beq_tt, beq_tf, beq_ft, beq_ff, beq_bt, beq_bf, Bool.not_true, Bool.not_false, Nat.reduceSub, Int.reduceEq, Int.reduceNe, Int.reduceLT, Int.reduceLE, Int.reduceNeg, Int.reduceAdd, Int.reduceSub, Int.reduceToNat, Int.toNat_natCast, ne_eq, bin_lss, bin_leq, bin_gtr, bin_geq, bin_eql, bin_neq, bin_add, bin_sub, bin_mul, bin_str_eql, bin_str_neq, bin_bool_eql, bin_bool_neq, wrapF_i64, Option.isSome_none, len_str, len_vs, len_hs, len_nil, argSt, resS, pack_one, pack_two, pureK_eq, pureE_t, AVal.pures, AVal.pure, Bool.and_true, Bool.true_and, and_true, true_and, decide_eq_true_eq, decide_eq_false_iff_not, decide_true, decide_false, not_false_eq_true, not_true_eq_false, false_implies, true_implies, forall_const, implies_true, Bool.false_eq_true, Bool.and_self, cast0, cast1, Int.sub_zero, Int.zero_add, Int.add_zero, Nat.add_zero, hi.len, e8]
  refine wp_loopI (fun m σ H => ∃ p q, rs = p ++ q ∧ m = q.length ∧ σ 0 = av ∧ σ 1 = iv ∧ σ 19 = iv ∧ σ 20 = .int .i64 rs.length ∧ σ 21 = .int .i64 p.length ∧ AccE 1 (σ 5) H (p.map fun r => .str r.2) ∧ ∀ r ∈ p, r.2.length ≤ 256) rs.length (by unfold many; omega) ⟨[], rs, rfl, rfl, rfl, rfl, rfl, rfl, rfl, .inl ⟨rfl, rfl⟩, by simp⟩ ?_
  rintro J hJ m σ H ⟨p, q, hpq, rfl, h0, h1, h19, h20, h21, hA, hlen⟩
  have hln : rs.length = p.length + q.length := by rw [hpq, List.length_append]
  cases q with
  | cons x q =>
    have e : ((p.length : Int) < (rs.length : Int)) = True := eq_true (by simp at hln; omega)
    have hx : rs[p.length]? = some x := by rw [hpq]; simp
    have hxm : x ∈ rs := by rw [hpq]; simp
    have hxb := hi.2 x hxm
    by_cases h256 : 256 < x.2.length
    · have e2 : ((256 : Int) < (x.2.length : Int)) = True := eq_true (by omega)
      simp (disch := omega) only [wp_skip, wp_ops, wp_seq, wp_block, wp_exit, wp_ret, wp_condn, condK_b, condB_t, condB_f, condB_d, wp_draw, wpL_nil, wpL_0, freeK_s, wpL_1, readK_s, wpL_2, writeK_s, wpL_g, gdK_b, gdK_u, List.zip_cons_cons, List.zip_nil_left, seqK_n, seqK_e, seqK_r, blockK_n, blockK_e, blockK_r, loopK_n, loopK_e, loopK_r, endK_r, endK_n, wpS_nil', wpS_op, opK_d, opK_0, wpS_g, guardK_b, guardK_u, putS_d, putS_0, wpS_frz, retellK_s, exOpS, evS_t, evS_c, upd, val, unit, isC, loadA, takeA, cells_agg, cells_int, cells_str, cells_bool, cells_vs, cells_nilsl, cells_hs, cells_ptr, cells_pimm, cells_nilptr, List.getElem?_cons_zero, List.getElem?_cons_succ, List.length_cons, List.length_nil, List.drop_zero, List.drop_succ_cons, List.take_succ_cons, List.take_zero, Nat.zero_add, flats, flat_int, flat_str, flat_bool, flat_vs, flat_nilsl, flat_hs, flat_ptr, flat_pimm, flat_nilptr, List.all_cons, List.all_nil, storeA, putElem, putCells, List.cons_append, List.nil_append, List.append_nil, List.set_cons_zero, Heap.get_new, set_set, get_new_set, frz_ptr, frzP_arr, frzB_t, stride_vs, stride_new, stride_new_set, stride_nil, stride_str, stride_ptr, stride_pimm, unA, nbeq_self, cond_true, cond_false, Nat.le_refl, Nat.zero_le, Nat.zero_lt_one, Nat.reduceLT, Nat.reduceLeDiff, Nat.zero_lt_succ, List.map_cons, List.map_nil, Option.map_some, Option.map_none, Nat.reduceEqDiff, Bool.or_false, Bool.or_true, Bool.false_or, Bool.true_or, ↓reduceIte, Nat.reduceAdd, reduceCtorEq, eq_self, beq_tt, beq_tf, beq_ft, beq_ff, beq_bt, beq_bf, Bool.not_true, Bool.not_false, Nat.reduceSub, Int.reduceEq, Int.reduceNe, Int.reduceLT, Int.reduceLE, Int.reduceNeg, Int.reduceAdd, Int.reduceSub, Int.reduceToNat, Int.toNat_natCast, ne_eq, bin_lss, bin_leq, bin_gtr, bin_geq, bin_eql, bin_neq, bin_add, bin_sub, bin_mul, bin_str_eql, bin_str_neq, bin_bool_eql, bin_bool_neq, wrapF_i64, Option.isSome_none, len_str, len_vs, len_hs, len_nil, argSt, resS, pack_one, pack_two, pureK_eq, pureE_t, AVal.pures, AVal.pure, Bool.and_true, Bool.true_and, and_true, true_and, decide_eq_true_eq, decide_eq_false_iff_not, decide_true, decide_false, not_false_eq_true, not_true_eq_false, false_implies, true_implies, forall_const, implies_true, Bool.false_eq_true, Bool.and_self, cast0, cast1, Int.sub_zero, Int.zero_add, Int.add_zero, Nat.add_zero, h0, h1, h19, h20, h21, e, hi.stride, hi.addr hx, hxb.len, e2, haw]
    · have e2 : ((256 : Int) < (x.2.length : Int)) = False := eq_false (by omega)
      have hcb : ∀ H, convA .bytesStr x.1 H = some (.str x.2, H) := fun H => by
        simp only [convA, hxb.elems, bytesOf_ofBytes (hb x hxm)]
      have hA1 : AccE 1 (σ 5) (H.new (.arr [.str x.2] 1 (some 1) 0)) (p.map fun r => .str r.2) := hA.mono (fun j hj => get_new_lt hj) (by rw [next_new]; omega)
      have hsrc : srcEls 1 (H.new (.arr [.str x.2] 1 (some 1) 0)) (.hs H.next 0 1 (some 1)) = some [.str x.2] := by
        rw [src_hs (Heap.get_new _ _) (by simp)]; rfl
      obtain ⟨v', H', hap, hA2, _⟩ := hA1.app (bytes := 16) hsrc (by simp) (by simp at hln ⊢; omega)
      simp (disch := omega) only [wp_skip, wp_ops, wp_seq, wp_block, wp_exit, wp_ret, wp_condn, condK_b, condB_t, condB_f, condB_d, wp_draw, wpL_nil, wpL_0, freeK_s, wpL_1, readK_s, wpL_2, writeK_s, wpL_g, gdK_b, gdK_u, List.zip_cons_cons, List.zip_nil_left, seqK_n, seqK_e, seqK_r, blockK_n, blockK_e, blockK_r, loopK_n, loopK_e, loopK_r, endK_r, endK_n, wpS_nil', wpS_op, opK_d, opK_0, wpS_g, guardK_b, guardK_u, putS_d, putS_0, wpS_frz, retellK_s, exOpS, evS_t, evS_c, upd, val, unit, isC, loadA, takeA, cells_agg, cells_int, cells_str, cells_bool, cells_vs, cells_nilsl, cells_hs, cells_ptr, cells_pimm, cells_nilptr, List.getElem?_cons_zero, List.getElem?_cons_succ, List.length_cons, List.length_nil, List.drop_zero, List.drop_succ_cons, List.take_succ_cons, List.take_zero, Nat.zero_add, flats, flat_int, flat_str, flat_bool, flat_vs, flat_nilsl, flat_hs, flat_ptr, flat_pimm, flat_nilptr, List.all_cons, List.all_nil, storeA, putElem, putCells, List.cons_append, List.nil_append, List.append_nil, List.set_cons_zero, Heap.get_new, set_set, get_new_set, frz_ptr, frzP_arr, frzB_t, stride_vs, stride_new, stride_new_set, stride_nil, stride_str, stride_ptr, stride_pimm, unA, nbeq_self, cond_true, cond_false, Nat.le_refl, Nat.zero_le, Nat.zero_lt_one, Nat.reduceLT, Nat.reduceLeDiff, Nat.zero_lt_succ, List.map_cons, List.map_nil, Option.map_some, Option.map_none, Nat.reduceEqDiff, Bool.or_false, Bool.or_true, Bool.false_or, Bool.true_or, ↓reduceIte, Nat.reduceAdd, reduceCtorEq, eq_self, beq_tt, beq_tf, beq_ft, beq_ff, beq_bt, beq_bf, Bool.not_true, Bool.not_false, Nat.reduceSub, Int.reduceEq, Int.reduceNe, Int.reduceLT, Int.reduceLE, Int.reduceNeg, Int.reduceAdd, Int.reduceSub, Int.reduceToNat, Int.toNat_natCast, ne_eq, bin_lss, bin_leq, bin_gtr, bin_geq, bin_eql, bin_neq, bin_add, bin_sub, bin_mul, bin_str_eql, bin_str_neq, bin_bool_eql, bin_bool_neq, wrapF_i64, Option.isSome_none, len_str, len_vs, len_hs, len_nil, argSt, resS, pack_one, pack_two, pureK_eq, pureE_t, AVal.pures, AVal.pure, Bool.and_true, Bool.true_and, and_true, true_and, decide_eq_true_eq, decide_eq_false_iff_not, decide_true, decide_false, not_false_eq_true, not_true_eq_false, false_implies, true_implies, forall_const, implies_true, Bool.false_eq_true, Bool.and_self, cast0, cast1, Int.sub_zero, Int.zero_add, Int.add_zero, Nat.add_zero, h0, h1, h19, h20, h21, e, hi.stride, hi.addr hx, hxb.len, e2, hcb, fillEls, List.replicate_succ, List.replicate_zero, hA1.stride, hap]
      subst hJ
      refine ⟨q.length, by simp, p ++ [x], q, by simp [hpq], rfl, ?_, ?_, ?_, ?_, ?_, ?_, ?_⟩
      · simp [upd, h0]
      · simp [upd, h1]
      · simp [upd, h19]
      · simp [upd, h20]
      · simp [upd]
      · simpa [upd] using hA2
      · intro r hr
        rcases List.mem_append.1 hr with hr | hr
        · exact hlen r hr
        · rw [List.mem_singleton.1 hr]; omega
  | nil =>
    have e : ((p.length : Int) < (rs.length : Int)) = False := eq_false (by simp at hln; omega)
    have hrp : rs = p := by simpa using hpq
    rw [← hrp] at hA hlen
    obtain ⟨ds, lim, hact, hne, hd6, hgood⟩ := act_run ha
    have hda : ds.map D.v ≠ [] := by simpa using hne
    have hcall : ∀ H, exCall vOwn 0 .own [av] H = some (.hs H.next 0 (ds.map D.v).length lim, H.new (.arr (ds.map D.v) 3 none 0)) := fun H => by
      rw [exCall_own (env := vOwn) (g := 0) rfl (by simp [AVal.pures, ha.pure]) hact, vsD, import_ne hda]
    have f1 : fillA [.int .i64 0, .int .i64 0, .str []] [(0, 1, .int .i64 2)] = some [.int .i64 2, .int .i64 0, .str []] := rfl
    have f2 : fillA [.int .i64 0, .int .i64 0, .str []] [(0, 1, .int .i64 3)] = some [.int .i64 3, .int .i64 0, .str []] := rfl
    have f3 : fillA [.int .i64 0, .int .i64 0, .str []] [(0, 1, .int .i64 7), (1, 1, .int .i64 99)] = some [.int .i64 7, .int .i64 99, .str []] := rfl
    simp (disch := omega) only [wp_skip, wp_ops, wp_seq, wp_block, wp_exit, wp_ret, wp_condn, condK_b, condB_t, condB_f, condB_d, wp_draw, wpL_nil, wpL_0, freeK_s, wpL_1, readK_s, wpL_2, writeK_s, wpL_g, gdK_b, gdK_u, List.zip_cons_cons, List.zip_nil_left, seqK_n, seqK_e, seqK_r, blockK_n, blockK_e, blockK_r, loopK_n, loopK_e, loopK_r, endK_r, endK_n, wpS_nil', wpS_op, opK_d, opK_0, wpS_g, guardK_b, guardK_u, putS_d, putS_0, wpS_frz, retellK_s, exOpS, evS_t, evS_c, upd, val, unit, isC, loadA, takeA, cells_agg, cells_int, cells_str, cells_bool, cells_vs, cells_nilsl, cells_hs, cells_ptr, cells_pimm, cells_nilptr, List.getElem?_cons_zero, List.getElem?_cons_succ, List.length_cons, List.length_nil, List.drop_zero, List.drop_succ_cons, List.take_succ_cons, List.take_zero, Nat.zero_add, flats, flat_int, flat_str, flat_bool, flat_vs, flat_nilsl, flat_hs, flat_ptr, flat_pimm, flat_nilptr, List.all_cons, List.all_nil, storeA, putElem, putCells, List.cons_append, List.nil_append, List.append_nil, List.set_cons_zero, Heap.get_new, set_set, get_new_set, frz_ptr, frzP_arr, frzB_t, stride_vs, stride_new, stride_new_set, stride_nil, stride_str, stride_ptr, stride_pimm, unA, nbeq_self, cond_true, cond_false, Nat.le_refl, Nat.zero_le, Nat.zero_lt_one, Nat.reduceLT, Nat.reduceLeDiff, Nat.zero_lt_succ, List.map_cons, List.map_nil, Option.map_some, Option.map_none, Nat.reduceEqDiff, Bool.or_false, Bool.or_true, Bool.false_or, Bool.true_or, ↓reduceIte, Nat.reduceAdd, reduceCtorEq, eq_self, beq_tt, beq_tf, beq_ft, beq_ff, beq_bt, beq_bf, Bool.not_true, Bool.not_false, Nat.reduceSub, Int.reduceEq, Int.reduceNe, Int.reduceLT, Int.reduceLE, Int.reduceNeg, Int.reduceAdd, Int.reduceSub, Int.reduceToNat, Int.toNat_natCast, ne_eq, bin_lss, bin_leq, bin_gtr, bin_geq, bin_eql, bin_neq, bin_add, bin_sub, bin_mul, bin_str_eql, bin_str_neq, bin_bool_eql, bin_bool_neq, wrapF_i64, Option.isSome_none, len_str, len_vs, len_hs, len_nil, argSt, resS, pack_one, pack_two, pureK_eq, pureE_t, AVal.pures, AVal.pure, Bool.and_true, Bool.true_and, and_true, true_and, decide_eq_true_eq, decide_eq_false_iff_not, decide_true, decide_false, not_false_eq_true, not_true_eq_false, false_implies, true_implies, forall_const, implies_true, Bool.false_eq_true, Bool.and_self, cast0, cast1, Int.sub_zero, Int.zero_add, Int.add_zero, Nat.add_zero, h0, h1, h19, h20, h21, e, hcall, f1, f2, f3, fillEls, List.replicate_succ, List.replicate_zero, List.set_cons_succ, Nat.reduceMul]
    obtain ⟨H1, e1⟩ : ∃ H1, H1 = H.new (.arr (ds.map D.v) 3 none 0) := ⟨_, rfl⟩
    rw [← e1]
    obtain ⟨H2, e2⟩ : ∃ H2, H2 = H1.new (.arr [.agg [.int .i64 2, .int .i64 0, .str []]] 3 (some 1) 0) := ⟨_, rfl⟩
    rw [← e2]
    obtain ⟨H3, e3⟩ : ∃ H3, H3 = H2.new (.arr [.agg [.int .i64 3, .int .i64 0, .str []]] 3 (some 1) 0) := ⟨_, rfl⟩
    rw [← e3]
    obtain ⟨H4, e4⟩ : ∃ H4, H4 = H3.new (.arr [.agg [.int .i64 2, .int .i64 0, .str []], .agg [.int .i64 7, .int .i64 99, .str []]] 3 (some 2) 0) := ⟨_, rfl⟩
    rw [← e4]
    have n1 : H1.next = H.next + 1 := by rw [e1]; rfl
    have n2 : H2.next = H.next + 2 := by rw [e2, next_new, n1]
    have n3 : H3.next = H.next + 3 := by rw [e3, next_new, n2]
    have n4 : H4.next = H.next + 4 := by rw [e4, next_new, n3]
    obtain ⟨R, N, acts, hK, hw, h44, hacts, hL4, hmap⟩ : ∃ (R : List (Nat × List AVal × Nat)) (N : Nat) (acts : List (AVal × List D)),
        Keep R N (H4.new (.arr [.hs H.next 0 (ds.map D.v).length lim, .hs H1.next 0 1 (some 1), .hs H2.next 0 1 (some 1), .hs H3.next 0 2 (some 2)] 1 (some 4) 0)) ∧
        ((σ 5 = .nilsl ∧ rs = []) ∨ ∃ idw, σ 5 = .hs idw 0 rs.length none ∧ (idw, rs.map (fun r => .str r.2), 1) ∈ R) ∧
        (H4.next, acts.map (·.1), 1) ∈ R ∧ (∀ p ∈ acts, ∃ id lim, p.1 = .hs id 0 p.2.length lim ∧ (id, p.2.map D.v, 3) ∈ R ∧ (∀ d ∈ p.2, 0 ≤ d.n ∧ d.t.length ≤ 65536) ∧ p.2.length ≤ 8) ∧ acts.length = 4 ∧
        acts.map (·.1) = [.hs H.next 0 (ds.map D.v).length lim, .hs H1.next 0 1 (some 1), .hs H2.next 0 1 (some 1), .hs H3.next 0 2 (some 2)] := by
      obtain ⟨Rw, hRw, hw⟩ : ∃ Rw : List (Nat × List AVal × Nat), (∀ x ∈ Rw, x.1 < H.next ∧ Rd H x.1 x.2.1 x.2.2) ∧ ((σ 5 = .nilsl ∧ rs = []) ∨ ∃ idw, σ 5 = .hs idw 0 rs.length none ∧ (idw, rs.map (fun r => .str r.2), 1) ∈ Rw) := by
        rcases hA with ⟨h5, h6⟩ | ⟨idw, h5, hg, hid⟩
        · exact ⟨[], by simp, .inl ⟨h5, by simpa using h6⟩⟩
        · refine ⟨[(idw, rs.map (fun r => .str r.2), 1)], fun x hx => ?_, .inr ⟨idw, by rw [h5]; simp, by simp⟩⟩
          rw [List.mem_singleton.1 hx]
          exact ⟨hid, _, _, hg⟩
      have k0 : Keep Rw H.next H := ⟨Nat.le_refl _, hRw⟩
      have k5 : Keep Rw H.next (H4.new (.arr [.hs H.next 0 (ds.map D.v).length lim, .hs H1.next 0 1 (some 1), .hs H2.next 0 1 (some 1), .hs H3.next 0 2 (some 2)] 1 (some 4) 0)) := by
        rw [e4, e3, e2, e1]; exact ((((k0.new _).new _).new _).new _).new _
      have g0 : (H4.new (.arr [.hs H.next 0 (ds.map D.v).length lim, .hs H1.next 0 1 (some 1), .hs H2.next 0 1 (some 1), .hs H3.next 0 2 (some 2)] 1 (some 4) 0)).get H.next = some (.arr (ds.map D.v) 3 none 0) := by
        rw [get_new_lt (by omega), e4, get_new_lt (by omega), e3, get_new_lt (by omega), e2, get_new_lt (by omega), e1, Heap.get_new]
      have g1 : (H4.new (.arr [.hs H.next 0 (ds.map D.v).length lim, .hs H1.next 0 1 (some 1), .hs H2.next 0 1 (some 1), .hs H3.next 0 2 (some 2)] 1 (some 4) 0)).get H1.next = some (.arr [.agg [.int .i64 2, .int .i64 0, .str []]] 3 (some 1) 0) := by
        rw [get_new_lt (by omega), e4, get_new_lt (by omega), e3, get_new_lt (by omega), e2, Heap.get_new]
      have g2 : (H4.new (.arr [.hs H.next 0 (ds.map D.v).length lim, .hs H1.next 0 1 (some 1), .hs H2.next 0 1 (some 1), .hs H3.next 0 2 (some 2)] 1 (some 4) 0)).get H2.next = some (.arr [.agg [.int .i64 3, .int .i64 0, .str []]] 3 (some 1) 0) := by
        rw [get_new_lt (by omega), e4, get_new_lt (by omega), e3, Heap.get_new]
      have g3 : (H4.new (.arr [.hs H.next 0 (ds.map D.v).length lim, .hs H1.next 0 1 (some 1), .hs H2.next 0 1 (some 1), .hs H3.next 0 2 (some 2)] 1 (some 4) 0)).get H3.next = some (.arr [.agg [.int .i64 2, .int .i64 0, .str []], .agg [.int .i64 7, .int .i64 99, .str []]] 3 (some 2) 0) := by
        rw [get_new_lt (by omega), e4, Heap.get_new]
      refine ⟨Rw ++ [(H.next, ds.map D.v, 3), (H1.next, [(⟨2, 0, []⟩ : D).v], 3), (H2.next, [(⟨3, 0, []⟩ : D).v], 3), (H3.next, [(⟨2, 0, []⟩ : D).v, (⟨7, 99, []⟩ : D).v], 3), (H4.next, [.hs H.next 0 (ds.map D.v).length lim, .hs H1.next 0 1 (some 1), .hs H2.next 0 1 (some 1), .hs H3.next 0 2 (some 2)], 1)], H.next + 5,
        [(.hs H.next 0 (ds.map D.v).length lim, ds), (.hs H1.next 0 1 (some 1), [⟨2, 0, []⟩]), (.hs H2.next 0 1 (some 1), [⟨3, 0, []⟩]), (.hs H3.next 0 2 (some 2), [⟨2, 0, []⟩, ⟨7, 99, []⟩])], ⟨by rw [next_new]; omega, fun x hx => ?_⟩, ?_, by simp, ?_, rfl, rfl⟩
      · rcases List.mem_append.1 hx with hx | hx
        · exact ⟨by have := (hRw x hx).1; omega, (k5.2 x hx).2⟩
        · simp only [List.mem_cons, List.not_mem_nil, or_false] at hx
          rcases hx with rfl | rfl | rfl | rfl | rfl
          · exact ⟨by show H.next < _; omega, _, _, g0⟩
          · exact ⟨by show H1.next < _; omega, _, _, g1⟩
          · exact ⟨by show H2.next < _; omega, _, _, g2⟩
          · exact ⟨by show H3.next < _; omega, _, _, g3⟩
          · exact ⟨by show H4.next < _; omega, _, _, Heap.get_new _ _⟩
      · rcases hw with hw | ⟨idw, h1, h2⟩
        · exact .inl hw
        · exact .inr ⟨idw, h1, List.mem_append.2 (.inl h2)⟩
      · intro p hp
        simp only [List.mem_cons, List.not_mem_nil, or_false] at hp
        rcases hp with rfl | rfl | rfl | rfl
        · refine ⟨H.next, lim, by simp, by simp, fun d hd => ?_, by simp only; omega⟩
          obtain ⟨_, _, q1, q2, q3⟩ := hgood d hd
          refine ⟨q1, ?_⟩
          simp only [txt6, List.mem_cons, List.not_mem_nil, or_false] at q3
          rcases q3 with q | q | q | q | q | q <;> rw [q] <;> decide
        · exact ⟨H1.next, some 1, rfl, by simp, by simp, by simp⟩
        · exact ⟨H2.next, some 1, rfl, by simp, by simp, by simp⟩
        · exact ⟨H3.next, some 2, rfl, by simp, by simp, by simp⟩
    generalize hW : σ 5 = wv at hw
    refine wp_loopI (fun m σ H => ∃ j, m = 4 - j ∧ j ≤ 4 ∧ σ 1 = iv ∧ σ 5 = wv ∧ σ 44 = .hs H4.next 0 4 (some 4) ∧ σ 45 = .int .i64 ((4 : Nat) : Int) ∧ σ 46 = .int .i64 (j : Nat) ∧ Keep R N H) 4 (by decide) ⟨0, rfl, by omega, by simp [upd, h1], by simp [upd, hW], rfl, rfl, rfl, hK⟩ ?_
    clear hK hA h0 h1 h19 h20 h21 e hJ hW n1 n2 n3 n4 e1 e2 e3 hcall
    generalize H4.next = id44 at h44
    clear e4 H1 H2 H3 H4 H σ hpq hln hrp J hmap
    rintro J hJ m σ H ⟨j, rfl, hj4, h1, h5, h44v, h45, h46, hK⟩
    by_cases hj : j < 4
    · have e : ((j : Int) < ((4 : Nat) : Int)) = True := eq_true (by omega)
      obtain ⟨p, hp⟩ : ∃ p, acts[j]? = some p := ⟨acts[j], List.getElem?_eq_getElem (by omega)⟩
      obtain ⟨ida, lima, hp1, hpR, hpg, hp8⟩ := hacts p (List.mem_of_getElem? hp)
      obtain ⟨_, cap4, fr4, g44⟩ := hK.2 _ h44
      simp only at g44
      have hpj : (acts.map (·.1))[j]? = some (.hs ida 0 p.2.length lima) := by rw [List.getElem?_map, hp, ← hp1]; rfl
      have st44 : stride H 1 (.hs id44 0 4 (some 4)) = true := stride_at g44
      have ad44 : indexAddrA none 1 (.hs id44 0 4 (some 4)) (.int .i64 (j : Int)) = some (.ptr id44 j 0) := by
        rw [addr_hs (by omega) (by omega), Int.toNat_natCast, Nat.zero_add]
      obtain ⟨v, okk, H', n, hcall, hK', hV, hn⟩ := run_own (lim := lima) (id := ida) hi (by omega) hlen hK (hK.2 _ hpR).2 hpg hp8
      simp (disch := omega) only [wp_skip, wp_ops, wp_seq, wp_block, wp_exit, wp_ret, wp_condn, condK_b, condB_t, condB_f, condB_d, wp_draw, wpL_nil, wpL_0, freeK_s, wpL_1, readK_s, wpL_2, writeK_s, wpL_g, gdK_b, gdK_u, List.zip_cons_cons, List.zip_nil_left, seqK_n, seqK_e, seqK_r, blockK_n, blockK_e, blockK_r, loopK_n, loopK_e, loopK_r, endK_r, endK_n, wpS_nil', wpS_op, opK_d, opK_0, wpS_g, guardK_b, guardK_u, putS_d, putS_0, wpS_frz, retellK_s, exOpS, evS_t, evS_c, upd, val, unit, isC, loadA, takeA, cells_agg, cells_int, cells_str, cells_bool, cells_vs, cells_nilsl, cells_hs, cells_ptr, cells_pimm, cells_nilptr, List.getElem?_cons_zero, List.getElem?_cons_succ, List.length_cons, List.length_nil, List.drop_zero, List.drop_succ_cons, List.take_succ_cons, List.take_zero, Nat.zero_add, flats, flat_int, flat_str, flat_bool, flat_vs, flat_nilsl, flat_hs, flat_ptr, flat_pimm, flat_nilptr, List.all_cons, List.all_nil, storeA, putElem, putCells, List.cons_append, List.nil_append, List.append_nil, List.set_cons_zero, Heap.get_new, set_set, get_new_set, frz_ptr, frzP_arr, frzB_t, stride_vs, stride_new, stride_new_set, stride_nil, stride_str, stride_ptr, stride_pimm, unA, nbeq_self, cond_true, cond_false, Nat.le_refl, Nat.zero_le, Nat.zero_lt_one, Nat.reduceLT, Nat.reduceLeDiff, Nat.zero_lt_succ, List.map_cons, List.map_nil, Option.map_some, Option.map_none, Nat.reduceEqDiff, Bool.or_false, Bool.or_true, Bool.false_or, Bool.true_or, ↓reduceIte, Nat.reduceAdd, reduceCtorEq, eq_self, beq_tt, beq_tf, beq_ft, beq_ff, beq_bt, beq_bf, Bool.not_true, Bool.not_false, Nat.reduceSub, Int.reduceEq, Int.reduceNe, Int.reduceLT, Int.reduceLE, Int.reduceNeg, Int.reduceAdd, Int.reduceSub, Int.reduceToNat, Int.toNat_natCast, ne_eq, bin_lss, bin_leq, bin_gtr, bin_geq, bin_eql, bin_neq, bin_add, bin_sub, bin_mul, bin_str_eql, bin_str_neq, bin_bool_eql, bin_bool_neq, wrapF_i64, Option.isSome_none, len_str, len_vs, len_hs, len_nil, argSt, resS, pack_one, pack_two, pureK_eq, pureE_t, AVal.pures, AVal.pure, Bool.and_true, Bool.true_and, and_true, true_and, decide_eq_true_eq, decide_eq_false_iff_not, decide_true, decide_false, not_false_eq_true, not_true_eq_false, false_implies, true_implies, forall_const, implies_true, Bool.false_eq_true, Bool.and_self, cast0, cast1, Int.sub_zero, Int.zero_add, Int.add_zero, Nat.add_zero, h1, h5, h44v, h45, h46, e, st44, ad44, g44, hpj, hcall, hV.len]
      refine wp_loopI (fun m σ H => ∃ i, m = n - i ∧ i ≤ n ∧ σ 1 = iv ∧ σ 5 = wv ∧ σ 44 = .hs id44 0 4 (some 4) ∧ σ 45 = .int .i64 ((4 : Nat) : Int) ∧ σ 46 = .int .i64 (j : Nat) ∧ σ 10 = v ∧ σ 57 = .int .i64 n ∧ σ 58 = .int .i64 (i : Nat) ∧ Keep R N H ∧ Vown N v H n) n (by unfold many; omega) ⟨0, rfl, by omega, by simp [upd, h1], by simp [upd, h5], by simp [upd, h44v], by simp [upd, h45], by simp [upd, h46], rfl, rfl, rfl, hK', hV⟩ ?_
      clear h1 h5 h44v h45 h46 hK g44 st44 hpj hcall hK' hV H' σ H
      rintro J3 hJ3 m σ H ⟨i, rfl, hin, h1, h5, h44v, h45, h46, h10, h57, h58, hK, hV⟩
      by_cases hi2 : i < n
      · have e2 : ((i : Int) < (n : Int)) = True := eq_true (by omega)
        obtain ⟨id2, bs, rfl, hge, hlt2, hg2, hbl⟩ : ∃ id bs, v = .hs id 0 n (some n) ∧ N ≤ id ∧ id < H.next ∧ H.get id = some (.arr (ofBytes bs) 1 none 0) ∧ bs.length = n := by
          rcases hV with ⟨_, h⟩ | ⟨_, h⟩ | h
          · omega
          · omega
          · exact h
        obtain ⟨x, hx⟩ : ∃ x, bs[i]? = some x := ⟨bs[i], List.getElem?_eq_getElem (by omega)⟩
        have st2 : stride H 1 (.hs id2 0 n (some n)) = true := stride_at hg2
        have ad2 : indexAddrA none 1 (.hs id2 0 n (some n)) (.int .i64 (i : Int)) = some (.ptr id2 i 0) := by
          rw [addr_hs (by omega) (by omega), Int.toNat_natCast, Nat.zero_add]
        have set2 : ∀ y, (ofBytes bs).set i (.int .u8 y) = ofBytes (bs.set i y) := fun y => by simp [ofBytes, List.map_set]
        simp (disch := omega) only [wp_skip, wp_ops, wp_seq, wp_block, wp_exit, wp_ret, wp_condn, condK_b, condB_t, condB_f, condB_d, wp_draw, wpL_nil, wpL_0, freeK_s, wpL_1, readK_s, wpL_2, writeK_s, wpL_g, gdK_b, gdK_u, List.zip_cons_cons, List.zip_nil_left, seqK_n, seqK_e, seqK_r, blockK_n, blockK_e, blockK_r, loopK_n, loopK_e, loopK_r, endK_r, endK_n, wpS_nil', wpS_op, opK_d, opK_0, wpS_g, guardK_b, guardK_u, putS_d, putS_0, wpS_frz, retellK_s, exOpS, evS_t, evS_c, upd, val, unit, isC, loadA, takeA, cells_agg, cells_int, cells_str, cells_bool, cells_vs, cells_nilsl, cells_hs, cells_ptr, cells_pimm, cells_nilptr, List.getElem?_cons_zero, List.getElem?_cons_succ, List.length_cons, List.length_nil, List.drop_zero, List.drop_succ_cons, List.take_succ_cons, List.take_zero, Nat.zero_add, flats, flat_int, flat_str, flat_bool, flat_vs, flat_nilsl, flat_hs, flat_ptr, flat_pimm, flat_nilptr, List.all_cons, List.all_nil, storeA, putElem, putCells, List.cons_append, List.nil_append, List.append_nil, List.set_cons_zero, Heap.get_new, set_set, get_new_set, frz_ptr, frzP_arr, frzB_t, stride_vs, stride_new, stride_new_set, stride_nil, stride_str, stride_ptr, stride_pimm, unA, nbeq_self, cond_true, cond_false, Nat.le_refl, Nat.zero_le, Nat.zero_lt_one, Nat.reduceLT, Nat.reduceLeDiff, Nat.zero_lt_succ, List.map_cons, List.map_nil, Option.map_some, Option.map_none, Nat.reduceEqDiff, Bool.or_false, Bool.or_true, Bool.false_or, Bool.true_or, ↓reduceIte, Nat.reduceAdd, reduceCtorEq, eq_self, beq_tt, beq_tf, beq_ft, beq_ff, beq_bt, beq_bf, Bool.not_true, Bool.not_false, Nat.reduceSub, Int.reduceEq, Int.reduceNe, Int.reduceLT, Int.reduceLE, Int.reduceNeg, Int.reduceAdd, Int.reduceSub, Int.reduceToNat, Int.toNat_natCast, ne_eq, bin_lss, bin_leq, bin_gtr, bin_geq, bin_eql, bin_neq, bin_add, bin_sub, bin_mul, bin_str_eql, bin_str_neq, bin_bool_eql, bin_bool_neq, wrapF_i64, Option.isSome_none, len_str, len_vs, len_hs, len_nil, argSt, resS, pack_one, pack_two, pureK_eq, pureE_t, AVal.pures, AVal.pure, Bool.and_true, Bool.true_and, and_true, true_and, decide_eq_true_eq, decide_eq_false_iff_not, decide_true, decide_false, not_false_eq_true, not_true_eq_false, false_implies, true_implies, forall_const, implies_true, Bool.false_eq_true, Bool.and_self, cast0, cast1, Int.sub_zero, Int.zero_add, Int.add_zero, Nat.add_zero, h1, h5, h44v, h45, h46, h10, h57, h58, e2, st2, ad2, hg2, ofBytes_at hx, set2]
        subst hJ3
        refine ⟨n - (i + 1), by omega, i + 1, rfl, by omega, ?_, ?_, ?_, ?_, ?_, ?_, ?_, ?_, hK.set_ge hge _, .inr (.inr ⟨id2, _, rfl, hge, hlt2, Heap.get_set _ _ _ _ hg2, by simp [hbl]⟩)⟩
        · simp [upd, h1]
        · simp [upd, h5]
        · simp [upd, h44v]
        · simp [upd, h45]
        · simp [upd, h46]
        · simp [upd, h10]
        · simp [upd, h57]
        · simp [upd]
      · have e2 : ((i : Int) < (n : Int)) = False := eq_false (by omega)
        obtain ⟨st3, v2, H2, hap, hK2⟩ := hV.app hK (by omega) [.int .u8 1, .int .u8 2, .int .u8 3] rfl
        simp (disch := omega) only [wp_skip, wp_ops, wp_seq, wp_block, wp_exit, wp_ret, wp_condn, condK_b, condB_t, condB_f, condB_d, wp_draw, wpL_nil, wpL_0, freeK_s, wpL_1, readK_s, wpL_2, writeK_s, wpL_g, gdK_b, gdK_u, List.zip_cons_cons, List.zip_nil_left, seqK_n, seqK_e, seqK_r, blockK_n, blockK_e, blockK_r, loopK_n, loopK_e, loopK_r, endK_r, endK_n, wpS_nil', wpS_op, opK_d, opK_0, wpS_g, guardK_b, guardK_u, putS_d, putS_0, wpS_frz, retellK_s, exOpS, evS_t, evS_c, upd, val, unit, isC, loadA, takeA, cells_agg, cells_int, cells_str, cells_bool, cells_vs, cells_nilsl, cells_hs, cells_ptr, cells_pimm, cells_nilptr, List.getElem?_cons_zero, List.getElem?_cons_succ, List.length_cons, List.length_nil, List.drop_zero, List.drop_succ_cons, List.take_succ_cons, List.take_zero, Nat.zero_add, flats, flat_int, flat_str, flat_bool, flat_vs, flat_nilsl, flat_hs, flat_ptr, flat_pimm, flat_nilptr, List.all_cons, List.all_nil, storeA, putElem, putCells, List.cons_append, List.nil_append, List.append_nil, List.set_cons_zero, Heap.get_new, set_set, get_new_set, frz_ptr, frzP_arr, frzB_t, stride_vs, stride_new, stride_new_set, stride_nil, stride_str, stride_ptr, stride_pimm, unA, nbeq_self, cond_true, cond_false, Nat.le_refl, Nat.zero_le, Nat.zero_lt_one, Nat.reduceLT, Nat.reduceLeDiff, Nat.zero_lt_succ, List.map_cons, List.map_nil, Option.map_some, Option.map_none, Nat.reduceEqDiff, Bool.or_false, Bool.or_true, Bool.false_or, Bool.true_or, ↓reduceIte, Nat.reduceAdd, reduceCtorEq, eq_self, beq_tt, beq_tf, beq_ft, beq_ff, beq_bt, beq_bf, Bool.not_true, Bool.not_false, Nat.reduceSub, Int.reduceEq, Int.reduceNe, Int.reduceLT, Int.reduceLE, Int.reduceNeg, Int.reduceAdd, Int.reduceSub, Int.reduceToNat, Int.toNat_natCast, ne_eq, bin_lss, bin_leq, bin_gtr, bin_geq, bin_eql, bin_neq, bin_add, bin_sub, bin_mul, bin_str_eql, bin_str_neq, bin_bool_eql, bin_bool_neq, wrapF_i64, Option.isSome_none, len_str, len_vs, len_hs, len_nil, argSt, resS, pack_one, pack_two, pureK_eq, pureE_t, AVal.pures, AVal.pure, Bool.and_true, Bool.true_and, and_true, true_and, decide_eq_true_eq, decide_eq_false_iff_not, decide_true, decide_false, not_false_eq_true, not_true_eq_false, false_implies, true_implies, forall_const, implies_true, Bool.false_eq_true, Bool.and_self, cast0, cast1, Int.sub_zero, Int.zero_add, Int.add_zero, Nat.add_zero, h1, h5, h44v, h45, h46, h10, h57, h58, e2, fillEls, List.replicate_succ, List.replicate_zero, List.set_cons_succ, st3, hap, hi.len]
        clear hJ3
        refine wp_loopI (fun m σ H => ∃ i, m = rs.length - i ∧ i ≤ rs.length ∧ σ 1 = iv ∧ σ 5 = wv ∧ σ 44 = .hs id44 0 4 (some 4) ∧ σ 45 = .int .i64 ((4 : Nat) : Int) ∧ σ 46 = .int .i64 (j : Nat) ∧ σ 71 = iv ∧ σ 72 = .int .i64 rs.length ∧ σ 73 = .int .i64 (i : Nat) ∧ Keep R N H) rs.length (by unfold many; omega) ⟨0, rfl, by omega, by simp [upd, h1], by simp [upd, h5], by simp [upd, h44v], by simp [upd, h45], by simp [upd, h46], rfl, rfl, rfl, hK2⟩ ?_
        clear h1 h5 h44v h45 h46 h10 h57 h58 hK hV st3 hap hK2 H2 v2 σ H e2 hi2 hin i
        rintro J4 hJ4 m σ H ⟨i, rfl, hin, h1, h5, h44v, h45, h46, h71, h72, h73, hK⟩
        by_cases hi2 : i < rs.length
        · have e2 : ((i : Int) < (rs.length : Int)) = True := eq_true (by omega)
          obtain ⟨x, hx⟩ : ∃ x, rs[i]? = some x := ⟨rs[i], List.getElem?_eq_getElem hi2⟩
          have hxm := List.mem_of_getElem? hx
          have hxb := hi.2 x hxm
          have hcb : ∀ H, convA .bytesStr x.1 H = some (.str x.2, H) := fun H => by
            simp only [convA, hxb.elems, bytesOf_ofBytes (hb x hxm)]
          obtain ⟨idw, rfl, hwR⟩ : ∃ idw, wv = .hs idw 0 rs.length none ∧ (idw, rs.map (fun r => .str r.2), 1) ∈ R := by
            rcases hw with ⟨_, h⟩ | h
            · rw [h] at hi2; simp at hi2
            · exact h
          obtain ⟨_, capw, frw, gw⟩ := hK.2 _ hwR
          simp only at gw
          have stw : stride H 1 (.hs idw 0 rs.length none) = true := stride_at gw
          have adw : indexAddrA none 1 (.hs idw 0 rs.length none) (.int .i64 (i : Int)) = some (.ptr idw i 0) := by
            rw [addr_hs (by omega) (by omega), Int.toNat_natCast, Nat.zero_add]
          have hwi : (rs.map (fun r => AVal.str r.2))[i]? = some (.str x.2) := by rw [List.getElem?_map, hx]; rfl
          simp (disch := omega) only [wp_skip, wp_ops, wp_seq, wp_block, wp_exit, wp_ret, wp_condn, condK_b, condB_t, condB_f, condB_d, wp_draw, wpL_nil, wpL_0, freeK_s, wpL_1, readK_s, wpL_2, writeK_s, wpL_g, gdK_b, gdK_u, List.zip_cons_cons, List.zip_nil_left, seqK_n, seqK_e, seqK_r, blockK_n, blockK_e, blockK_r, loopK_n, loopK_e, loopK_r, endK_r, endK_n, wpS_nil', wpS_op, opK_d, opK_0, wpS_g, guardK_b, guardK_u, putS_d, putS_0, wpS_frz, retellK_s, exOpS, evS_t, evS_c, upd, val, unit, isC, loadA, takeA, cells_agg, cells_int, cells_str, cells_bool, cells_vs, cells_nilsl, cells_hs, cells_ptr, cells_pimm, cells_nilptr, List.getElem?_cons_zero, List.getElem?_cons_succ, List.length_cons, List.length_nil, List.drop_zero, List.drop_succ_cons, List.take_succ_cons, List.take_zero, Nat.zero_add, flats, flat_int, flat_str, flat_bool, flat_vs, flat_nilsl, flat_hs, flat_ptr, flat_pimm, flat_nilptr, List.all_cons, List.all_nil, storeA, putElem, putCells, List.cons_append, List.nil_append, List.append_nil, List.set_cons_zero, Heap.get_new, set_set, get_new_set, frz_ptr, frzP_arr, frzB_t, stride_vs, stride_new, stride_new_set, stride_nil, stride_str, stride_ptr, stride_pimm, unA, nbeq_self, cond_true, cond_false, Nat.le_refl, Nat.zero_le, Nat.zero_lt_one, Nat.reduceLT, Nat.reduceLeDiff, Nat.zero_lt_succ, List.map_cons, List.map_nil, Option.map_some, Option.map_none, Nat.reduceEqDiff, Bool.or_false, Bool.or_true, Bool.false_or, Bool.true_or, ↓reduceIte, Nat.reduceAdd, reduceCtorEq, eq_self, beq_tt, beq_tf, beq_ft, beq_ff, beq_bt, beq_bf, Bool.not_true, Bool.not_false, Nat.reduceSub, Int.reduceEq, Int.reduceNe, Int.reduceLT, Int.reduceLE, Int.reduceNeg, Int.reduceAdd, Int.reduceSub, Int.reduceToNat, Int.toNat_natCast, ne_eq, bin_lss, bin_leq, bin_gtr, bin_geq, bin_eql, bin_neq, bin_add, bin_sub, bin_mul, bin_str_eql, bin_str_neq, bin_bool_eql, bin_bool_neq, wrapF_i64, Option.isSome_none, len_str, len_vs, len_hs, len_nil, argSt, resS, pack_one, pack_two, pureK_eq, pureE_t, AVal.pures, AVal.pure, Bool.and_true, Bool.true_and, and_true, true_and, decide_eq_true_eq, decide_eq_false_iff_not, decide_true, decide_false, not_false_eq_true, not_true_eq_false, false_implies, true_implies, forall_const, implies_true, Bool.false_eq_true, Bool.and_self, cast0, cast1, Int.sub_zero, Int.zero_add, Int.add_zero, Nat.add_zero, h1, h5, h44v, h45, h46, h71, h72, h73, e2, hi.stride, hi.addr hx]
          refine draw_L [1, 1, 1, 1, 1, 1, 1] (by kernel_rfl) (by kernel_rfl) ?_
          simp (disch := omega) only [wp_skip, wp_ops, wp_seq, wp_block, wp_exit, wp_ret, wp_condn, condK_b, condB_t, condB_f, condB_d, wp_draw, wpL_nil, wpL_0, freeK_s, wpL_1, readK_s, wpL_2, writeK_s, wpL_g, gdK_b, gdK_u, List.zip_cons_cons, List.zip_nil_left, seqK_n, seqK_e, seqK_r, blockK_n, blockK_e, blockK_r, loopK_n, loopK_e, loopK_r, endK_r, endK_n, wpS_nil', wpS_op, opK_d, opK_0, wpS_g, guardK_b, guardK_u, putS_d, putS_0, wpS_frz, retellK_s, exOpS, evS_t, evS_c, upd, val, unit, isC, loadA, takeA, cells_agg, cells_int, cells_str, cells_bool, cells_vs, cells_nilsl, cells_hs, cells_ptr, cells_pimm, cells_nilptr, List.getElem?_cons_zero, List.getElem?_cons_succ, List.length_cons, List.length_nil, List.drop_zero, List.drop_succ_cons, List.take_succ_cons, List.take_zero, Nat.zero_add, flats, flat_int, flat_str, flat_bool, flat_vs, flat_nilsl, flat_hs, flat_ptr, flat_pimm, flat_nilptr, List.all_cons, List.all_nil, storeA, putElem, putCells, List.cons_append, List.nil_append, List.append_nil, List.set_cons_zero, Heap.get_new, set_set, get_new_set, frz_ptr, frzP_arr, frzB_t, stride_vs, stride_new, stride_new_set, stride_nil, stride_str, stride_ptr, stride_pimm, unA, nbeq_self, cond_true, cond_false, Nat.le_refl, Nat.zero_le, Nat.zero_lt_one, Nat.reduceLT, Nat.reduceLeDiff, Nat.zero_lt_succ, List.map_cons, List.map_nil, Option.map_some, Option.map_none, Nat.reduceEqDiff, Bool.or_false, Bool.or_true, Bool.false_or, Bool.true_or, ↓reduceIte, Nat.reduceAdd, reduceCtorEq, eq_self, beq_tt, beq_tf, beq_ft, beq_ff, beq_bt, beq_bf, Bool.not_true, Bool.not_false, Nat.reduceSub, Int.reduceEq, Int.reduceNe, Int.reduceLT, Int.reduceLE, Int.reduceNeg, Int.reduceAdd, Int.reduceSub, Int.reduceToNat, Int.toNat_natCast, ne_eq, bin_lss, bin_leq, bin_gtr, bin_geq, bin_eql, bin_neq, bin_add, bin_sub, bin_mul, bin_str_eql, bin_str_neq, bin_bool_eql, bin_bool_neq, wrapF_i64, Option.isSome_none, len_str, len_vs, len_hs, len_nil, argSt, resS, pack_one, pack_two, pureK_eq, pureE_t, AVal.pures, AVal.pure, Bool.and_true, Bool.true_and, and_true, true_and, decide_eq_true_eq, decide_eq_false_iff_not, decide_true, decide_false, not_false_eq_true, not_true_eq_false, false_implies, true_implies, forall_const, implies_true, Bool.false_eq_true, Bool.and_self, cast0, cast1, Int.sub_zero, Int.zero_add, Int.add_zero, Nat.add_zero, h1, h5, h44v, h45, h46, h71, h72, h73, hcb, stw, adw, gw, hwi, beq_self_eq_true]
          subst hJ4
          refine ⟨rs.length - (i + 1), by omega, i + 1, rfl, by omega, ?_, ?_, ?_, ?_, ?_, ?_, ?_, ?_, hK⟩
          · simp [upd, h1]
          · simp [upd, h5]
          · simp [upd, h44v]
          · simp [upd, h45]
          · simp [upd, h46]
          · simp [upd, h71]
          · simp [upd, h72]
          · simp [upd]
        · have e2 : ((i : Int) < (rs.length : Int)) = False := eq_false (by omega)
          simp (disch := omega) only [wp_skip, wp_ops, wp_seq, wp_block, wp_exit, wp_ret, wp_condn, condK_b, condB_t, condB_f, condB_d, wp_draw, wpL_nil, wpL_0, freeK_s, wpL_1, readK_s, wpL_2, writeK_s, wpL_g, gdK_b, gdK_u, List.zip_cons_cons, List.zip_nil_left, seqK_n, seqK_e, seqK_r, blockK_n, blockK_e, blockK_r, loopK_n, loopK_e, loopK_r, endK_r, endK_n, wpS_nil', wpS_op, opK_d, opK_0, wpS_g, guardK_b, guardK_u, putS_d, putS_0, wpS_frz, retellK_s, exOpS, evS_t, evS_c, upd, val, unit, isC, loadA, takeA, cells_agg, cells_int, cells_str, cells_bool, cells_vs, cells_nilsl, cells_hs, cells_ptr, cells_pimm, cells_nilptr, List.getElem?_cons_zero, List.getElem?_cons_succ, List.length_cons, List.length_nil, List.drop_zero, List.drop_succ_cons, List.take_succ_cons, List.take_zero, Nat.zero_add, flats, flat_int, flat_str, flat_bool, flat_vs, flat_nilsl, flat_hs, flat_ptr, flat_pimm, flat_nilptr, List.all_cons, List.all_nil, storeA, putElem, putCells, List.cons_append, List.nil_append, List.append_nil, List.set_cons_zero, Heap.get_new, set_set, get_new_set, frz_ptr, frzP_arr, frzB_t, stride_vs, stride_new, stride_new_set, stride_nil, stride_str, stride_ptr, stride_pimm, unA, nbeq_self, cond_true, cond_false, Nat.le_refl, Nat.zero_le, Nat.zero_lt_one, Nat.reduceLT, Nat.reduceLeDiff, Nat.zero_lt_succ, List.map_cons, List.map_nil, Option.map_some, Option.map_none, Nat.reduceEqDiff, Bool.or_false, Bool.or_true, Bool.false_or, Bool.true_or, ↓reduceIte, Nat.reduceAdd, reduceCtorEq, eq_self, beq_tt, beq_tf, beq_ft, beq_ff, beq_bt, beq_bf, Bool.not_true, Bool.not_false, Nat.reduceSub, Int.reduceEq, Int.reduceNe, Int.reduceLT, Int.reduceLE, Int.reduceNeg, Int.reduceAdd, Int.reduceSub, Int.reduceToNat, Int.toNat_natCast, ne_eq, bin_lss, bin_leq, bin_gtr, bin_geq, bin_eql, bin_neq, bin_add, bin_sub, bin_mul, bin_str_eql, bin_str_neq, bin_bool_eql, bin_bool_neq, wrapF_i64, Option.isSome_none, len_str, len_vs, len_hs, len_nil, argSt, resS, pack_one, pack_two, pureK_eq, pureE_t, AVal.pures, AVal.pure, Bool.and_true, Bool.true_and, and_true, true_and, decide_eq_true_eq, decide_eq_false_iff_not, decide_true, decide_false, not_false_eq_true, not_true_eq_false, false_implies, true_implies, forall_const, implies_true, Bool.false_eq_true, Bool.and_self, cast0, cast1, Int.sub_zero, Int.zero_add, Int.add_zero, Nat.add_zero, h1, h5, h44v, h45, h46, h71, h72, h73, e2]
          subst hJ
          refine ⟨4 - (j + 1), by omega, j + 1, rfl, by omega, ?_, ?_, ?_, ?_, ?_, hK⟩
          · simp [upd, h1]
          · simp [upd, h5]
          · simp [upd, h44v]
          · simp [upd, h45]
          · simp [upd]
    · have e : ((j : Int) < ((4 : Nat) : Int)) = False := eq_false (by omega)
      simp (disch := omega) only [wp_skip, wp_ops, wp_seq, wp_block, wp_exit, wp_ret, wp_condn, condK_b, condB_t, condB_f, condB_d, wp_draw, wpL_nil, wpL_0, freeK_s, wpL_1, readK_s, wpL_2, writeK_s, wpL_g, gdK_b, gdK_u, List.zip_cons_cons, List.zip_nil_left, seqK_n, seqK_e, seqK_r, blockK_n, blockK_e, blockK_r, loopK_n, loopK_e, loopK_r, endK_r, endK_n, wpS_nil', wpS_op, opK_d, opK_0, wpS_g, guardK_b, guardK_u, putS_d, putS_0, wpS_frz, retellK_s, exOpS, evS_t, evS_c, upd, val, unit, isC, loadA, takeA, cells_agg, cells_int, cells_str, cells_bool, cells_vs, cells_nilsl, cells_hs, cells_ptr, cells_pimm, cells_nilptr, List.getElem?_cons_zero, List.getElem?_cons_succ, List.length_cons, List.length_nil, List.drop_zero, List.drop_succ_cons, List.take_succ_cons, List.take_zero, Nat.zero_add, flats, flat_int, flat_str, flat_bool, flat_vs, flat_nilsl, flat_hs, flat_ptr, flat_pimm, flat_nilptr, List.all_cons, List.all_nil, storeA, putElem, putCells, List.cons_append, List.nil_append, List.append_nil, List.set_cons_zero, Heap.get_new, set_set, get_new_set, frz_ptr, frzP_arr, frzB_t, stride_vs, stride_new, stride_new_set, stride_nil, stride_str, stride_ptr, stride_pimm, unA, nbeq_self, cond_true, cond_false, Nat.le_refl, Nat.zero_le, Nat.zero_lt_one, Nat.reduceLT, Nat.reduceLeDiff, Nat.zero_lt_succ, List.map_cons, List.map_nil, Option.map_some, Option.map_none, Nat.reduceEqDiff, Bool.or_false, Bool.or_true, Bool.false_or, Bool.true_or, ↓reduceIte, Nat.reduceAdd, reduceCtorEq, eq_self, beq_tt, beq_tf, beq_ft, beq_ff, beq_bt, beq_bf, Bool.not_true, Bool.not_false, Nat.reduceSub, Int.reduceEq, Int.reduceNe, Int.reduceLT, Int.reduceLE, Int.reduceNeg, Int.reduceAdd, Int.reduceSub, Int.reduceToNat, Int.toNat_natCast, ne_eq, bin_lss, bin_leq, bin_gtr, bin_geq, bin_eql, bin_neq, bin_add, bin_sub, bin_mul, bin_str_eql, bin_str_neq, bin_bool_eql, bin_bool_neq, wrapF_i64, Option.isSome_none, len_str, len_vs, len_hs, len_nil, argSt, resS, pack_one, pack_two, pureK_eq, pureE_t, AVal.pures, AVal.pure, Bool.and_true, Bool.true_and, and_true, true_and, decide_eq_true_eq, decide_eq_false_iff_not, decide_true, decide_false, not_false_eq_true, not_true_eq_false, false_implies, true_implies, forall_const, implies_true, Bool.false_eq_true, Bool.and_self, cast0, cast1, Int.sub_zero, Int.zero_add, Int.add_zero, Nat.add_zero, h1, h5, h44v, h45, h46, e, haw]
end Go.Abx
