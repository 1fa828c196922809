/- ActsApart: the plain law: true at every input. -/
import Derived.Test.YtmnbafbicjgjgaaDoorAbxE7
import Derived.Test.YtmnbafbicjgjgaaDoorAbxX6
namespace Go.Abx
set_option maxRecDepth 100000
set_option linter.unusedSimpArgs false
set_option linter.unusedVariables false

def G6 (d : D) : Prop := 0 ≤ d.k ∧ d.k ≤ 64 ∧ 0 ≤ d.n ∧ d.n ≤ 64 ∧ d.t.length ≤ 64 ∧ ∀ x ∈ d.t, 0 ≤ x ∧ x < 256
theorem byteAt_eq (n : Int) (k : Nat) : byteAt n k = n.fdiv (2 ^ (8 * k)) % 256 := by rw [byteAt, wrapF_eq, IntKind.wrap_u8]
theorem byteAt_range (n : Int) (k : Nat) : 0 ≤ byteAt n k ∧ byteAt n k < 256 := by rw [byteAt_eq]; omega
theorem numL_range (n : Int) : ∀ x ∈ numL n, 0 ≤ x ∧ x < 256 := by
  intro x hx
  simp only [numL, List.mem_cons, List.not_mem_nil, or_false] at hx
  rcases hx with rfl | rfl | rfl | rfl | rfl | rfl <;> exact byteAt_range _ _
theorem numL_inj {n m : Int} (h0 : 0 ≤ n) (hn : n ≤ 1000000) (g0 : 0 ≤ m) (gm : m ≤ 1000000) (h : numL n = numL m) : n = m := by
  simp only [numL, List.cons.injEq, byteAt_eq] at h
  obtain ⟨_, _, _, h2, h1, h0', _⟩ := h
  rw [Int.fdiv_eq_ediv_of_nonneg _ (by decide), Int.fdiv_eq_ediv_of_nonneg _ (by decide)] at h2 h1 h0'
  simp only [Nat.mul_zero, Int.pow_zero, Int.ediv_one] at h0'
  have e1 : (2 : Int) ^ (8 * 1) = 256 := rfl
  have e2 : (2 : Int) ^ (8 * 2) = 65536 := rfl
  rw [e1] at h1
  rw [e2] at h2
  omega
theorem encL_range {l : List D} (h : ∀ d ∈ l, G6 d) : ∀ x ∈ encL l, 0 ≤ x ∧ x < 256 := by
  intro x hx
  simp only [encL, List.mem_append, List.mem_flatMap, encD] at hx
  rcases hx with hx | ⟨d, hd, ((hx | hx) | hx) | hx⟩
  · exact numL_range _ x hx
  · exact numL_range _ x hx
  · exact numL_range _ x hx
  · exact numL_range _ x hx
  · exact (h d hd).2.2.2.2.2 x hx
theorem flat_inj : ∀ {a b : List D}, a.length = b.length → (∀ d ∈ a, G6 d) → (∀ d ∈ b, G6 d) → a.flatMap encD = b.flatMap encD → a = b
  | [], [], _, _, _, _ => rfl
  | [], _ :: _, h, _, _, _ => by simp at h
  | _ :: _, [], h, _, _, _ => by simp at h
  | x :: a, y :: b, hl, ha, hb, h => by
    obtain ⟨x1, x2, x3, x4, x5, _⟩ := ha x (by simp)
    obtain ⟨y1, y2, y3, y4, y5, _⟩ := hb y (by simp)
    simp only [List.flatMap_cons, encD, List.append_assoc] at h
    obtain ⟨e1, h⟩ := List.append_inj h rfl
    obtain ⟨e2, h⟩ := List.append_inj h rfl
    obtain ⟨e3, h⟩ := List.append_inj h rfl
    have k1 := numL_inj x1 (by omega) y1 (by omega) e1
    have k2 := numL_inj x3 (by omega) y3 (by omega) e2
    have k3 := numL_inj (by omega) (by omega) (by omega) (by omega) e3
    obtain ⟨e4, h⟩ := List.append_inj h (by omega)
    have ih := flat_inj (a := a) (b := b) (by simpa using hl) (fun d hd => ha d (by simp [hd])) (fun d hd => hb d (by simp [hd])) h
    obtain ⟨xk, xn, xt⟩ := x
    obtain ⟨yk, yn, yt⟩ := y
    simp only at k1 k2 e4
    rw [k1, k2, e4, ih]
theorem enc_inj {a b : List D} (hla : a.length ≤ 64) (hlb : b.length ≤ 64) (ha : ∀ d ∈ a, G6 d) (hb : ∀ d ∈ b, G6 d) : (encL a == encL b) = decide (a = b) := by
  by_cases h : a = b
  · simp [h]
  · have : encL a ≠ encL b := fun he => by
      simp only [encL] at he
      obtain ⟨e1, e2⟩ := List.append_inj he rfl
      have := numL_inj (by omega) (by omega) (by omega) (by omega) e1
      exact h (flat_inj (by omega) ha hb e2)
    simp [h, this]

def vApart : Env := [(1, e_acts_Bytes), (0, e_fettlelaw6_Act), (3, .pure false awakeS), (2, e_fettleref4_SameAct)]
theorem vsD_pures (l : List D) : AVal.pures (l.map D.v) = true := pures_of fun x hx => by
  obtain ⟨d, _, rfl⟩ := List.mem_map.1 hx; rfl

def apL : List (List Nat × IStep) := match i_fettlelaw6_ActsApart.body with
  | .seq _ (.seq _ (.seq _ (.seq (.draw l) _))) => l
  | _ => []

theorem apart_tail {σ : Sig} {H : Heap} {ia ib : Nat} {la lb ca cb : Option Nat} {fa fb : Nat} {a b : List D} (h9 : σ 9 = .hs ia 0 a.length la) (h10 : σ 10 = .hs ib 0 b.length lb) (hab : ia ≠ ib) (ga : H.get ia = some (.arr (a.map D.v) 3 ca fa)) (gb : H.get ib = some (.arr (b.map D.v) 3 cb fb))
    (hla : a.length ≤ 64) (hlb : b.length ≤ 64) (ha : ∀ d ∈ a, G6 d) (hb : ∀ d ∈ b, G6 d) : drawW vApart apL σ H (seqK vApart .ret (endK [.tmp 8] (pureK (.bool true))) .normal) := by
  have haw : ∀ H, exCall vApart 3 .pure [] H = some (.bool true, H) := fun H => exCall_pure rfl rfl rfl
  have c1 : exCall vApart 1 .pure [.hs ia 0 a.length la] H = some (.vs (ofBytes (encL a)) 1 none, H.set ia (.arr (a.map D.v) 3 ca (a.map D.v).length)) :=
    exCall_pure_hs (rest := []) rfl ga (by simp) (vsD_pures a) rfl (by rw [List.take_of_length_le (by simp)]; exact abytes_run hla fun d hd => ⟨(ha d hd).1, (ha d hd).2.1, (ha d hd).2.2.1, (ha d hd).2.2.2.1, (ha d hd).2.2.2.2.1⟩)
  have gb1 : (H.set ia (.arr (a.map D.v) 3 ca (a.map D.v).length)).get ib = some (.arr (b.map D.v) 3 cb fb) := by rw [get_set_other hab]; exact gb
  have c2 : exCall vApart 1 .pure [.hs ib 0 b.length lb] (H.set ia (.arr (a.map D.v) 3 ca (a.map D.v).length)) = some (.vs (ofBytes (encL b)) 1 none, (H.set ia (.arr (a.map D.v) 3 ca (a.map D.v).length)).set ib (.arr (b.map D.v) 3 cb (b.map D.v).length)) :=
    exCall_pure_hs (rest := []) rfl gb1 (by simp) (vsD_pures b) rfl (by rw [List.take_of_length_le (by simp)]; exact abytes_run hlb fun d hd => ⟨(hb d hd).1, (hb d hd).2.1, (hb d hd).2.2.1, (hb d hd).2.2.2.1, (hb d hd).2.2.2.2.1⟩)
  obtain ⟨H3, c3⟩ : ∃ H3, exCall vApart 2 .pure [.hs ia 0 a.length la, .hs ib 0 b.length lb] ((H.set ia (.arr (a.map D.v) 3 ca (a.map D.v).length)).set ib (.arr (b.map D.v) 3 cb (b.map D.v).length)) = some (.bool (decide (a = b)), H3) := by
    have ga2 : ((H.set ia (.arr (a.map D.v) 3 ca (a.map D.v).length)).set ib (.arr (b.map D.v) 3 cb (b.map D.v).length)).get ia = some (.arr (a.map D.v) 3 ca (a.map D.v).length) := by
      rw [get_set_other (fun e => hab e.symm)]; exact Heap.get_set _ _ _ _ ga
    have z1 := frz_hs (lim := la) (n := a.length) ga2 (by simp) (vsD_pures a)
    have gb2 : (((H.set ia (.arr (a.map D.v) 3 ca (a.map D.v).length)).set ib (.arr (b.map D.v) 3 cb (b.map D.v).length)).set ia (.arr (a.map D.v) 3 ca (a.map D.v).length)).get ib = some (.arr (b.map D.v) 3 cb (b.map D.v).length) := by
      rw [get_set_other hab]; exact Heap.get_set _ _ _ _ gb1
    have z2 := frz_hs (lim := lb) (n := b.length) gb2 (by simp) (vsD_pures b)
    rw [List.take_of_length_le (by simp)] at z1 z2
    have hen : envGet vApart 2 = some e_fettleref4_SameAct := rfl
    obtain ⟨Hz, hall⟩ : ∃ Hz, frzAll [.hs ia 0 a.length la, .hs ib 0 b.length lb] ((H.set ia (.arr (a.map D.v) 3 ca (a.map D.v).length)).set ib (.arr (b.map D.v) 3 cb (b.map D.v).length)) = some ([.vs (a.map D.v) 3 la, .vs (b.map D.v) 3 lb], Hz) := by
      have h0 : AVal.pures [.hs ia 0 a.length la, .hs ib 0 b.length lb] = false := rfl
      simp only [frzAll, h0, Bool.false_eq_true, if_false, frzList, z1, z2]
      exact ⟨_, rfl⟩
    have hs := same_run (l := a) (m := b) (cl := la) (cm := lb) (by unfold many; omega)
    rw [vsD, vsD] at hs
    exact ⟨Hz, by simp only [exCall, hen, e_fettleref4_SameAct, hall, hs]⟩
  have s1 : ∀ H, convA .bytesStr (.vs (ofBytes (encL a)) 1 none) H = some (.str (encL a), H) := fun H => by
    simp only [convA, elems, bytesOf_ofBytes (encL_range ha)]
  have s2 : ∀ H, convA .bytesStr (.vs (ofBytes (encL b)) 1 none) H = some (.str (encL b), H) := fun H => by
    simp only [convA, elems, bytesOf_ofBytes (encL_range hb)]
  refine draw_L [0, 2, 0, 0, 2, 0, 0, 0, 0, 2, 0, 0, 0, 0, 0] (by kernel_rfl) (by kernel_rfl) ?_
  simp (disch := omega) only [apL, i_fettlelaw6_ActsApart, wp_skip, wp_ops, wp_seq, wp_block, wp_exit, wp_ret, wp_condn, condK_b, condB_t, condB_f, condB_d, wp_draw, wpL_nil, wpL_0, freeK_s, wpL_1, readK_s, wpL_2, writeK_s, wpL_g, gdK_b, gdK_u, List.zip_cons_cons, List.zip_nil_left, seqK_n, seqK_e, seqK_r, blockK_n, blockK_e, blockK_r, loopK_n, loopK_e, loopK_r, endK_r, endK_n, wpS_nil', wpS_op, opK_d, opK_0, wpS_g, guardK_b, guardK_u, putS_d, putS_0, wpS_frz, retellK_s, exOpS, evS_t, evS_c, upd, val, unit, isC, loadA, takeA, cells_agg, cells_int, cells_str, cells_bool, cells_vs, cells_nilsl, cells_hs, cells_ptr, cells_pimm, cells_nilptr, List.getElem?_cons_zero, List.getElem?_cons_succ, List.length_cons, List.length_nil, List.drop_zero, List.drop_succ_cons, List.take_succ_cons, List.take_zero, Nat.zero_add, flats, flat_int, flat_str, flat_bool, flat_vs, flat_nilsl, flat_hs, flat_ptr, flat_pimm, flat_nilptr, List.all_cons, List.all_nil, storeA, putElem, putCells, List.cons_append, List.nil_append, List.append_nil, List.set_cons_zero, Heap.get_new, set_set, get_new_set, frz_ptr, frzP_arr, frzB_t, stride_vs, stride_new, stride_new_set, stride_nil, stride_str, stride_ptr, stride_pimm, unA, nbeq_self, cond_true, cond_false, Nat.le_refl, Nat.zero_le, Nat.zero_lt_one, Nat.reduceLT, Nat.reduceLeDiff, Nat.zero_lt_succ, List.map_cons, List.map_nil, Option.map_some, Option.map_none, Nat.reduceEqDiff, Bool.or_false, Bool.or_true, Bool.false_or, Bool.true_or, ↓reduceIte, Nat.reduceAdd, reduceCtorEq, eq_self, beq_tt, beq_tf, beq_ft, beq_ff, beq_bt, beq_bf, Bool.not_true, Bool.not_false, Nat.reduceSub, Int.reduceEq, Int.reduceNe, Int.reduceLT, Int.reduceLE, Int.reduceNeg, Int.reduceAdd, Int.reduceSub, Int.reduceToNat, Int.toNat_natCast, ne_eq, bin_lss, bin_leq, bin_gtr, bin_geq, bin_eql, bin_neq, bin_add, bin_sub, bin_mul, bin_str_eql, bin_str_neq, bin_bool_eql, bin_bool_neq, wrapF_i64, Option.isSome_none, len_str, len_vs, len_hs, len_nil, argSt, resS, pack_one, pack_two, pureK_eq, pureE_t, AVal.pures, AVal.pure, Bool.and_true, Bool.true_and, and_true, true_and, decide_eq_true_eq, decide_eq_false_iff_not, decide_true, decide_false, not_false_eq_true, not_true_eq_false, false_implies, true_implies, forall_const, implies_true, Bool.false_eq_true, Bool.and_self, cast0, cast1, Int.sub_zero, Int.zero_add, Int.add_zero, Nat.add_zero, h9, h10, c1, c2, c3, s1, s2, enc_inj hla hlb ha hb, beq_self_eq_true, haw]

theorem good_G6 {d : D} (h : goodD d) : G6 d := by
  obtain ⟨h1, h2, h3, h4, h5⟩ := h
  refine ⟨by omega, by omega, by omega, by omega, ?_⟩
  simp only [txt6, List.mem_cons, List.not_mem_nil, or_false] at h5
  rcases h5 with h | h | h | h | h | h <;> rw [h] <;> decide

theorem apart_run {av bv : AVal} {zs ws : List Int} (n : Int) (s : Bool) (hav : isInts av zs) (hbv : isInts bv ws) : runPure vApart i_fettlelaw6_ActsApart [av, bv, .int .i64 n, .bool s] = some (.bool true) := by
  refine runPure_W (by kernel_rfl) (by kernel_rfl) (by simp [AVal.pures, hav.pure, hbv.pure, AVal.pure]) ?_
  obtain ⟨a, la, hact, hane, ha6, hag⟩ := act_run hav
  obtain ⟨b, lb, hbct, hbne, hb6, hbg⟩ := act_run hbv
  have hna : a.map D.v ≠ [] := by simpa using hane
  have hnb : b.map D.v ≠ [] := by simpa using hbne
  have ca : ∀ H, exCall vApart 0 .own [av] H = some (.hs H.next 0 (a.map D.v).length la, H.new (.arr (a.map D.v) 3 none 0)) := fun H => by
    rw [exCall_own (env := vApart) (g := 0) rfl (by simp [AVal.pures, hav.pure]) hact, vsD, import_ne hna]
  have cb : ∀ H, exCall vApart 0 .own [bv] H = some (.hs H.next 0 (b.map D.v).length lb, H.new (.arr (b.map D.v) 3 none 0)) := fun H => by
    rw [exCall_own (env := vApart) (g := 0) rfl (by simp [AVal.pures, hbv.pure]) hbct, vsD, import_ne hnb]
  cases s with
  | false =>
    simp (disch := omega) only [i_fettlelaw6_ActsApart, wp_skip, wp_ops, wp_seq, wp_block, wp_exit, wp_ret, wp_condn, condK_b, condB_t, condB_f, condB_d, wp_draw, wpL_nil, wpL_0, freeK_s, wpL_1, readK_s, wpL_2, writeK_s, wpL_g, gdK_b, gdK_u, List.zip_cons_cons, List.zip_nil_left, seqK_n, seqK_e, seqK_r, blockK_n, blockK_e, blockK_r, loopK_n, loopK_e, loopK_r, endK_r, endK_n, wpS_nil', wpS_op, opK_d, opK_0, wpS_g, guardK_b, guardK_u, putS_d, putS_0, wpS_frz, retellK_s, exOpS, evS_t, evS_c, upd, val, unit, isC, loadA, takeA, cells_agg, cells_int, cells_str, cells_bool, cells_vs, cells_nilsl, cells_hs, cells_ptr, cells_pimm, cells_nilptr, List.getElem?_cons_zero, List.getElem?_cons_succ, List.length_cons, List.length_nil, List.drop_zero, List.drop_succ_cons, List.take_succ_cons, List.take_zero, Nat.zero_add, flats, flat_int, flat_str, flat_bool, flat_vs, flat_nilsl, flat_hs, flat_ptr, flat_pimm, flat_nilptr, List.all_cons, List.all_nil, storeA, putElem, putCells, List.cons_append, List.nil_append, List.append_nil, List.set_cons_zero, Heap.get_new, set_set, get_new_set, frz_ptr, frzP_arr, frzB_t, stride_vs, stride_new, stride_new_set, stride_nil, stride_str, stride_ptr, stride_pimm, unA, nbeq_self, cond_true, cond_false, Nat.le_refl, Nat.zero_le, Nat.zero_lt_one, Nat.reduceLT, Nat.reduceLeDiff, Nat.zero_lt_succ, List.map_cons, List.map_nil, Option.map_some, Option.map_none, Nat.reduceEqDiff, Bool.or_false, Bool.or_true, Bool.false_or, Bool.true_or, ↓reduceIte, Nat.reduceAdd, reduceCtorEq, eq_self, beq_tt, beq_tf, beq_ft, beq_ff, beq_bt, beq_bf, Bool.not_true, Bool.not_false, Nat.reduceSub, Int.reduceEq, Int.reduceNe, Int.reduceLT, Int.reduceLE, Int.reduceNeg, Int.reduceAdd, Int.reduceSub, Int.reduceToNat, Int.toNat_natCast, ne_eq, bin_lss, bin_leq, bin_gtr, bin_geq, bin_eql, bin_neq, bin_add, bin_sub, bin_mul, bin_str_eql, bin_str_neq, bin_bool_eql, bin_bool_neq, wrapF_i64, Option.isSome_none, len_str, len_vs, len_hs, len_nil, argSt, resS, pack_one, pack_two, pureK_eq, pureE_t, AVal.pures, AVal.pure, Bool.and_true, Bool.true_and, and_true, true_and, decide_eq_true_eq, decide_eq_false_iff_not, decide_true, decide_false, not_false_eq_true, not_true_eq_false, false_implies, true_implies, forall_const, implies_true, Bool.false_eq_true, Bool.and_self, cast0, cast1, Int.sub_zero, Int.zero_add, Int.add_zero, Nat.add_zero, ca, cb, List.length_map]
    exact apart_tail (a := a) (b := b) rfl rfl (show Heap.empty.next ≠ (Heap.empty.new _).next by rw [next_new]; decide) (by rw [get_new_lt (by rw [next_new]; decide), Heap.get_new]) (Heap.get_new _ _) (by omega) (by omega) (fun d hd => good_G6 (hag d hd)) (fun d hd => good_G6 (hbg d hd))
  | true =>
    obtain ⟨HB, hB⟩ : ∃ HB, HB = (Heap.empty.new (.arr (a.map D.v) 3 none 0)).new (.arr (b.map D.v) 3 none 0) := ⟨_, rfl⟩
    have nB : HB.next = 2 := by rw [hB]; rfl
    have n0 : Heap.empty.next = 0 := rfl
    have ga : HB.get Heap.empty.next = some (.arr (a.map D.v) 3 none 0) := by rw [hB, get_new_lt (by rw [next_new]; decide), Heap.get_new]
    have hsrc : srcEls 3 HB (.hs Heap.empty.next 0 a.length la) = some (a.map D.v) := by
      rw [src_hs ga (by simp), List.drop_zero, List.take_of_length_le (by simp)]
    have gC1 : ∀ o, (HB.new o).get 0 = some (.arr (a.map D.v) 3 none 0) := fun o => by rw [get_new_lt (by omega)]; exact ga
    have gC2 : ∀ o o', ((HB.new o).set HB.next o').get 0 = some (.arr (a.map D.v) 3 none 0) := fun o o' => by rw [get_set_other (by omega), get_new_lt (by omega)]; exact ga
    rw [hB] at gC1 gC2
    have hap := app_vs0 (sz := 3) (bytes := 32) (z := 3) hsrc hna (by simp; omega)
    rw [List.length_map, hB] at hap
    have hst : stride ((Heap.empty.new (.arr (a.map D.v) 3 none 0)).new (.arr (b.map D.v) 3 none 0)) 3 (.hs Heap.empty.next 0 a.length la) = true := by rw [← hB]; exact stride_at ga
    have hal : 0 < a.length := List.length_pos_iff.2 hane
    have b255 : ∀ l, binA .and .int l (.int .i64 n) (.int .i64 255) = some (.int .i64 (bandM n 255 : Nat)) := fun l => band_run n 255 (by decide)
    have rem : ∀ l, binA .rem .int l (.int .i64 (bandM n 255 : Nat)) (.int .i64 (a.length : Nat)) = some (.int .i64 ((bandM n 255 % a.length : Nat) : Int)) := fun l => by rw [bin_rem (by omega)]; rfl
    obtain ⟨x8, s8⟩ : ∃ x, ∀ l, binA .shr .int l (.int .i64 n) (.int .u64 8) = some (.int .i64 x) := ⟨_, fun l => rfl⟩
    have a1 : ∀ l, binA .and .int l (.int .i64 x8) (.int .i64 1) = some (.int .i64 (bandM x8 1 : Nat)) := fun l => band_run x8 1 (by decide)
    have hk : bandM n 255 % a.length < a.length := Nat.mod_lt _ hal
    have hgC : ((Heap.empty.new (.arr (a.map D.v) 3 none 0)).new (.arr (b.map D.v) 3 none 0)).next = 2 := rfl
    by_cases hx : bandM x8 1 = 1
    · have ex : (((bandM x8 1 : Nat) : Int) = 1) = True := eq_true (by omega)
      obtain ⟨d, hd⟩ : ∃ d, a[bandM n 255 % a.length]? = some d := ⟨a[bandM n 255 % a.length], List.getElem?_eq_getElem hk⟩
      have hdg := hag d (List.mem_of_getElem? hd)
      obtain ⟨dk, dn, dt⟩ := d
      obtain ⟨q1, q2, q3, q4, q5⟩ := hdg
      simp only at q1 q2 q3 q4 q5
      have hdm : (a.map D.v)[bandM n 255 % a.length]? = some (.agg [.int .i64 dk, .int .i64 dn, .str dt]) := by rw [List.getElem?_map, hd]; rfl
      have hset : (a.map D.v).set (bandM n 255 % a.length) (.agg [.int .i64 dk, .int .i64 (dn + 1), .str dt]) = (a.set (bandM n 255 % a.length) ⟨dk, dn + 1, dt⟩).map D.v := by
        rw [List.map_set]; rfl
      have adk : ∀ z l, indexAddrA none z (.hs ((Heap.empty.new (.arr (a.map D.v) 3 none 0)).new (.arr (b.map D.v) 3 none 0)).next 0 a.length l) (.int .i64 ((bandM n 255 % a.length : Nat) : Int)) = some (.ptr ((Heap.empty.new (.arr (a.map D.v) 3 none 0)).new (.arr (b.map D.v) 3 none 0)).next (bandM n 255 % a.length) 0) := fun z l => by
        rw [addr_hs (by omega) (by omega), Int.toNat_natCast, Nat.zero_add]
      simp (disch := omega) only [i_fettlelaw6_ActsApart, wp_skip, wp_ops, wp_seq, wp_block, wp_exit, wp_ret, wp_condn, condK_b, condB_t, condB_f, condB_d, wp_draw, wpL_nil, wpL_0, freeK_s, wpL_1, readK_s, wpL_2, writeK_s, wpL_g, gdK_b, gdK_u, List.zip_cons_cons, List.zip_nil_left, seqK_n, seqK_e, seqK_r, blockK_n, blockK_e, blockK_r, loopK_n, loopK_e, loopK_r, endK_r, endK_n, wpS_nil', wpS_op, opK_d, opK_0, wpS_g, guardK_b, guardK_u, putS_d, putS_0, wpS_frz, retellK_s, exOpS, evS_t, evS_c, upd, val, unit, isC, loadA, takeA, cells_agg, cells_int, cells_str, cells_bool, cells_vs, cells_nilsl, cells_hs, cells_ptr, cells_pimm, cells_nilptr, List.getElem?_cons_zero, List.getElem?_cons_succ, List.length_cons, List.length_nil, List.drop_zero, List.drop_succ_cons, List.take_succ_cons, List.take_zero, Nat.zero_add, flats, flat_int, flat_str, flat_bool, flat_vs, flat_nilsl, flat_hs, flat_ptr, flat_pimm, flat_nilptr, List.all_cons, List.all_nil, storeA, putElem, putCells, List.cons_append, List.nil_append, List.append_nil, List.set_cons_zero, Heap.get_new, set_set, get_new_set, frz_ptr, frzP_arr, frzB_t, stride_vs, stride_new, stride_new_set, stride_nil, stride_str, stride_ptr, stride_pimm, unA, nbeq_self, cond_true, cond_false, Nat.le_refl, Nat.zero_le, Nat.zero_lt_one, Nat.reduceLT, Nat.reduceLeDiff, Nat.zero_lt_succ, List.map_cons, List.map_nil, Option.map_some, Option.map_none, Nat.reduceEqDiff, Bool.or_false, Bool.or_true, Bool.false_or, Bool.true_or, ↓reduceIte, Nat.reduceAdd, reduceCtorEq, eq_self, beq_tt, beq_tf, beq_ft, beq_ff, beq_bt, beq_bf, Bool.not_true, Bool.not_false, Nat.reduceSub, Int.reduceEq, Int.reduceNe, Int.reduceLT, Int.reduceLE, Int.reduceNeg, Int.reduceAdd, Int.reduceSub, Int.reduceToNat, Int.toNat_natCast, ne_eq, bin_lss, bin_leq, bin_gtr, bin_geq, bin_eql, bin_neq, bin_add, bin_sub, bin_mul, bin_str_eql, bin_str_neq, bin_bool_eql, bin_bool_neq, wrapF_i64, Option.isSome_none, len_str, len_vs, len_hs, len_nil, argSt, resS, pack_one, pack_two, pureK_eq, pureE_t, AVal.pures, AVal.pure, Bool.and_true, Bool.true_and, and_true, true_and, decide_eq_true_eq, decide_eq_false_iff_not, decide_true, decide_false, not_false_eq_true, not_true_eq_false, false_implies, true_implies, forall_const, implies_true, Bool.false_eq_true, Bool.and_self, cast0, cast1, Int.sub_zero, Int.zero_add, Int.add_zero, Nat.add_zero, ca, cb, List.length_map, fillEls, List.replicate_zero, hst, hap, b255, rem, s8, a1, ex, adk, hdm, hset]
      refine apart_tail (a := a) (b := a.set (bandM n 255 % a.length) ⟨dk, dn + 1, dt⟩) (la := la) (lb := none) (ca := none) (cb := none) (fa := 0) (fb := 0) (ia := 0) (ib := 2) rfl ?_ (by decide) ?_ ?_ (by omega) (by simp; omega) (fun d hd => good_G6 (hag d hd)) ?_
      · rw [List.length_set]; rfl
      · exact gC2 _ _
      · exact Heap.get_set _ _ _ _ (Heap.get_new _ _)
      · intro d hd
        rcases List.mem_or_eq_of_mem_set hd with h | h
        · exact good_G6 (hag d h)
        · rw [h]
          have := good_G6 (d := ⟨dk, dn, dt⟩) ⟨q1, q2, q3, q4, q5⟩
          obtain ⟨w1, w2, w3, w4, w5, w6⟩ := this
          exact ⟨w1, w2, by simp only; omega, by simp only; omega, w5, w6⟩
    · have ex : (((bandM x8 1 : Nat) : Int) = 1) = False := eq_false (by omega)
      simp (disch := omega) only [i_fettlelaw6_ActsApart, wp_skip, wp_ops, wp_seq, wp_block, wp_exit, wp_ret, wp_condn, condK_b, condB_t, condB_f, condB_d, wp_draw, wpL_nil, wpL_0, freeK_s, wpL_1, readK_s, wpL_2, writeK_s, wpL_g, gdK_b, gdK_u, List.zip_cons_cons, List.zip_nil_left, seqK_n, seqK_e, seqK_r, blockK_n, blockK_e, blockK_r, loopK_n, loopK_e, loopK_r, endK_r, endK_n, wpS_nil', wpS_op, opK_d, opK_0, wpS_g, guardK_b, guardK_u, putS_d, putS_0, wpS_frz, retellK_s, exOpS, evS_t, evS_c, upd, val, unit, isC, loadA, takeA, cells_agg, cells_int, cells_str, cells_bool, cells_vs, cells_nilsl, cells_hs, cells_ptr, cells_pimm, cells_nilptr, List.getElem?_cons_zero, List.getElem?_cons_succ, List.length_cons, List.length_nil, List.drop_zero, List.drop_succ_cons, List.take_succ_cons, List.take_zero, Nat.zero_add, flats, flat_int, flat_str, flat_bool, flat_vs, flat_nilsl, flat_hs, flat_ptr, flat_pimm, flat_nilptr, List.all_cons, List.all_nil, storeA, putElem, putCells, List.cons_append, List.nil_append, List.append_nil, List.set_cons_zero, Heap.get_new, set_set, get_new_set, frz_ptr, frzP_arr, frzB_t, stride_vs, stride_new, stride_new_set, stride_nil, stride_str, stride_ptr, stride_pimm, unA, nbeq_self, cond_true, cond_false, Nat.le_refl, Nat.zero_le, Nat.zero_lt_one, Nat.reduceLT, Nat.reduceLeDiff, Nat.zero_lt_succ, List.map_cons, List.map_nil, Option.map_some, Option.map_none, Nat.reduceEqDiff, Bool.or_false, Bool.or_true, Bool.false_or, Bool.true_or, ↓reduceIte, Nat.reduceAdd, reduceCtorEq, eq_self, beq_tt, beq_tf, beq_ft, beq_ff, beq_bt, beq_bf, Bool.not_true, Bool.not_false, Nat.reduceSub, Int.reduceEq, Int.reduceNe, Int.reduceLT, Int.reduceLE, Int.reduceNeg, Int.reduceAdd, Int.reduceSub, Int.reduceToNat, Int.toNat_natCast, ne_eq, bin_lss, bin_leq, bin_gtr, bin_geq, bin_eql, bin_neq, bin_add, bin_sub, bin_mul, bin_str_eql, bin_str_neq, bin_bool_eql, bin_bool_neq, wrapF_i64, Option.isSome_none, len_str, len_vs, len_hs, len_nil, argSt, resS, pack_one, pack_two, pureK_eq, pureE_t, AVal.pures, AVal.pure, Bool.and_true, Bool.true_and, and_true, true_and, decide_eq_true_eq, decide_eq_false_iff_not, decide_true, decide_false, not_false_eq_true, not_true_eq_false, false_implies, true_implies, forall_const, implies_true, Bool.false_eq_true, Bool.and_self, cast0, cast1, Int.sub_zero, Int.zero_add, Int.add_zero, Nat.add_zero, ca, cb, List.length_map, fillEls, List.replicate_zero, hst, hap, b255, rem, s8, a1, ex]
      exact apart_tail (a := a) (b := a) (la := la) (lb := none) (ca := none) (cb := none) (fa := 0) (fb := 0) (ia := 0) (ib := 2) rfl rfl (by decide) (gC1 _) (Heap.get_new _ _) (by omega) (by omega) (fun d hd => good_G6 (hag d hd)) (fun d hd => good_G6 (hag d hd))
end Go.Abx
