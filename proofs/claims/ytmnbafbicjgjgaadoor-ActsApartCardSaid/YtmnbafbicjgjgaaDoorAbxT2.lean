/- Equations by which symbolic runs are reckoned. -/
import Derived.Test.YtmnbafbicjgjgaaDoorAbxT1
namespace Go.Abx
set_option linter.unusedVariables false
set_option linter.unusedSimpArgs false
section
variable {env : Env} {σ : Sig} {H : Heap} {K : Ex → Sig → Heap → Prop} {k : IntKind} {a b : Int} {l : Bool}

theorem wp_skip : wp env .skip σ H K = K .normal σ H := rfl
theorem wp_ops (l : List IStep) : wp env (.ops l) σ H K = wpS env l σ H (K .normal) := rfl
theorem wp_draw (l : List (List Nat × IStep)) : wp env (.draw l) σ H K = drawW env l σ H (K .normal) := rfl
/-- What comes behind, by name: so that nothing looks into it before its time. -/
def seqK (env : Env) (b : ICode) (K : Ex → Sig → Heap → Prop) : Ex → Sig → Heap → Prop := fun e σ H => match e with
    | .normal => wp env b σ H K
    | e => K e σ H
def blockK (id : Nat) (K : Ex → Sig → Heap → Prop) : Ex → Sig → Heap → Prop := fun e σ H => match e with
    | .exit j => if j = id then K .normal σ H else K (.exit j) σ H
    | e => K e σ H
def loopK (I : Nat → Sig → Heap → Prop) (n : Nat) (K : Ex → Sig → Heap → Prop) : Ex → Sig → Heap → Prop := fun e σ H => match e with
    | .normal => ∃ m, m < n ∧ I m σ H
    | e => K e σ H
def endK (rs : List IRes) (K : List AVal → Heap → Prop) : Ex → Sig → Heap → Prop := fun e σ H' => match e with
    | .exit _ => False
    | _ => match resS σ H' rs with
      | some l => K l H'
      | none => False
theorem wp_seq (a b : ICode) : wp env (.seq a b) σ H K = wp env a σ H (seqK env b K) := rfl
theorem wp_block (id : Nat) (a : ICode) : wp env (.block id a) σ H K = wp env a σ H (blockK id K) := rfl
theorem wp_condm (c : Opd) (a b : ICode) : wp env (.cond c a b) σ H K = (match evS σ c with
    | .bool t => (t = true → wp env a σ H K) ∧ (t = false → wp env b σ H K)
    | _ => False) := rfl
def condB (env : Env) (a b : ICode) (σ : Sig) (H : Heap) (K : Ex → Sig → Heap → Prop) : Bool → Prop
  | true => wp env a σ H K
  | false => wp env b σ H K
def condK (env : Env) (a b : ICode) (σ : Sig) (H : Heap) (K : Ex → Sig → Heap → Prop) : AVal → Prop
  | .bool t => condB env a b σ H K t
  | _ => False
theorem wp_condn (c : Opd) (a b : ICode) : wp env (.cond c a b) σ H K = condK env a b σ H K (evS σ c) := by
  rw [wp_condm]
  cases evS σ c with
  | bool t => cases t <;> simp [condK, condB]
  | _ => rfl
theorem condK_b (a b : ICode) (t : Bool) : condK env a b σ H K (.bool t) = condB env a b σ H K t := rfl
theorem condB_t (a b : ICode) : condB env a b σ H K true = wp env a σ H K := rfl
theorem condB_f (a b : ICode) : condB env a b σ H K false = wp env b σ H K := rfl
theorem condB_d (a b : ICode) (p : Prop) [Decidable p] : condB env a b σ H K (decide p) = ((p → wp env a σ H K) ∧ (¬ p → wp env b σ H K)) := by
  by_cases h : p <;> simp [h, condB]
theorem seqK_n (b : ICode) : seqK env b K .normal σ H = wp env b σ H K := rfl
theorem seqK_e (b : ICode) (j : Nat) : seqK env b K (.exit j) σ H = K (.exit j) σ H := rfl
theorem seqK_r (b : ICode) : seqK env b K .ret σ H = K .ret σ H := rfl
theorem blockK_n (id : Nat) : blockK id K .normal σ H = K .normal σ H := rfl
theorem blockK_e (id j : Nat) : blockK id K (.exit j) σ H = if j = id then K .normal σ H else K (.exit j) σ H := rfl
theorem blockK_r (id : Nat) : blockK id K .ret σ H = K .ret σ H := rfl
theorem loopK_n (I : Nat → Sig → Heap → Prop) (n : Nat) : loopK I n K .normal σ H = ∃ m, m < n ∧ I m σ H := rfl
theorem loopK_e (I : Nat → Sig → Heap → Prop) (n j : Nat) : loopK I n K (.exit j) σ H = K (.exit j) σ H := rfl
theorem loopK_r (I : Nat → Sig → Heap → Prop) (n : Nat) : loopK I n K .ret σ H = K .ret σ H := rfl
theorem endK_r (rs : List IRes) (K : List AVal → Heap → Prop) : endK rs K .ret σ H = (match resS σ H rs with
      | some l => K l H
      | none => False) := rfl
theorem endK_n (rs : List IRes) (K : List AVal → Heap → Prop) : endK rs K .normal σ H = (match resS σ H rs with
      | some l => K l H
      | none => False) := rfl
theorem bodyW_eq (fn : IFun) (args : List AVal) (K : List AVal → Heap → Prop) : bodyW env fn args H K = wp env fn.body (argSt args) H (endK fn.results K) := rfl
/-- The loop's rule: the invariant by name. -/
theorem wp_loopI {a : ICode} (I : Nat → Sig → Heap → Prop) (n : Nat) (hn : n < many) (h0 : I n σ H) (hs : ∀ J : Nat → Sig → Heap → Prop, J = I → ∀ n σ H, I n σ H → wp env a σ H (loopK J n K)) : wp env (.loop a) σ H K :=
  ⟨I, ⟨n, hn, h0⟩, fun n σ H hi => hs I rfl n σ H hi⟩
/-- A cut: what holds at a place where ways meet. -/
theorem wp_cut {a : ICode} (A : Ex → Sig → Heap → Prop) (h1 : wp env a σ H A) (h2 : ∀ e σ H, A e σ H → K e σ H) : wp env a σ H K := wp_mono a h2 h1
def pureK (r : AVal) : List AVal → Heap → Prop := fun l H1 => match frzAll l H1 with | some (l', _) => AVal.pures l' = true ∧ pack l' = r | none => False
def ownK (r : AVal) : List AVal → Heap → Prop := fun l H1 => match ownHead H1 l with | some l' => pack l' = r | none => False
def rawK (r : AVal) (H' : Heap) : List AVal → Heap → Prop := fun l H1 => pack l = r ∧ H1 = H'
theorem pureK_of {r : AVal} {l : List AVal} (h : AVal.pures l = true) : pureK r l H = (pack l = r) := by
  simp only [pureK, frzAll, h, if_true, true_and]
def pureE (r : AVal) (l : List AVal) (H : Heap) : Bool → Prop
  | true => pack l = r
  | false => pureK r l H
theorem pureK_eq {r : AVal} {l : List AVal} : pureK r l H = pureE r l H (AVal.pures l) := by
  cases h : AVal.pures l with
  | true => simp only [pureK, frzAll, h, if_true, true_and, pureE]
  | false => rfl
theorem pureE_t {r : AVal} {l : List AVal} : pureE r l H true = (pack l = r) := rfl
theorem pack_one (v : AVal) : pack [v] = v := rfl
theorem pack_two (v w : AVal) (l : List AVal) : pack (v :: w :: l) = .tup (v :: w :: l) := rfl
theorem runPure_W {fn : IFun} {args : List AVal} {r : AVal} (hd : codeOk (depthOf (fn.ntmps + args.length)) fn.body = true) (hl : Nat.ble (args.length + 1) (2 ^ depthOf (fn.ntmps + args.length)) = true) (hp : AVal.pures args = true)
    (h : wp env fn.body (argSt args) Heap.empty (endK fn.results (pureK r))) : runPure env fn args = some r := runPure_of hd (Nat.le_of_ble_eq_true hl) hp h
theorem runOwn_W {fn : IFun} {args : List AVal} {r : AVal} (hd : codeOk (depthOf (fn.ntmps + args.length)) fn.body = true) (hl : Nat.ble (args.length + 1) (2 ^ depthOf (fn.ntmps + args.length)) = true) (hp : AVal.pures args = true)
    (h : wp env fn.body (argSt args) Heap.empty (endK fn.results (ownK r))) : runOwn env fn args = some r := runOwn_of hd (Nat.le_of_ble_eq_true hl) hp h
theorem runRaw_W {fn : IFun} {args : List AVal} {r : AVal} {H' : Heap} (hd : codeOk (depthOf (fn.ntmps + args.length)) fn.body = true) (hl : Nat.ble (args.length + 1) (2 ^ depthOf (fn.ntmps + args.length)) = true)
    (h : wp env fn.body (argSt args) H (endK fn.results (rawK r H'))) : runRaw env fn args H = some (r, H') := runRaw_of hd (Nat.le_of_ble_eq_true hl) h
theorem wp_exit (id : Nat) : wp env (.exit id) σ H K = K (.exit id) σ H := rfl
theorem wp_ret : wp env .ret σ H K = K .ret σ H := rfl
theorem wpS_nil {K : Sig → Heap → Prop} : wpS env [] σ H K = K σ H := rfl
theorem wpS_cons {K : Sig → Heap → Prop} {s : IStep} {r : List IStep} {σ' : Sig} {H' : Heap} (h : exStepS env s σ H = some (σ', H')) : wpS env (s :: r) σ H K = wpS env r σ' H' K := by simp only [wpS, h]
/-- What comes behind a step, by name. -/
def opK (env : Env) (d : Option Nat) (r : List IStep) (σ : Sig) (K : Sig → Heap → Prop) : Option (AVal × Heap) → Prop
  | some (v, H) => wpS env r (putS σ d v) H K
  | none => False
def guardK (env : Env) (d : Option Nat) (op : IOp) (w : Bool) (r : List IStep) (σ : Sig) (H : Heap) (K : Sig → Heap → Prop) : AVal → Prop
  | .bool b => if (b == w) = true then wpS env (.op none d op :: r) σ H K else wpS env r (putS σ d undefA) H K
  | .tup [] => wpS env r (putS σ d undefA) H K
  | _ => False
def retellK (env : Env) (t : Nat) (r : List IStep) (σ : Sig) (K : Sig → Heap → Prop) : Option (AVal × Heap) → Prop
  | some (v, H) => wpS env r (upd σ t v) H K
  | none => False
section
variable {K : Sig → Heap → Prop} {r : List IStep} {d : Option Nat} {op : IOp}
theorem wpS_nil' : wpS env [] σ H K = K σ H := rfl
theorem wpS_op : wpS env (.op none d op :: r) σ H K = opK env d r σ K (exOpS env σ H op) := by
  simp only [wpS, exStepS, wantedS, opK]
  cases exOpS env σ H op <;> rfl
theorem opK_d {n : Nat} {v : AVal} : opK env (some n) r σ K (some (v, H)) = wpS env r (upd σ n v) H K := rfl
theorem opK_0 {v : AVal} : opK env none r σ K (some (v, H)) = wpS env r σ H K := rfl
theorem wpS_g {t : Nat} {w : Bool} : wpS env (.op (some (t, w)) d op :: r) σ H K = guardK env d op w r σ H K (σ t) := by
  simp only [wpS, exStepS, wantedS, guardK]
  cases σ t with
  | bool b =>
    cases hb : b == w with
    | true => simp [hb]
    | false => simp [hb]
  | tup l => cases l <;> rfl
  | _ => rfl
theorem guardK_b {w b : Bool} : guardK env d op w r σ H K (.bool b) = if (b == w) = true then wpS env (.op none d op :: r) σ H K else wpS env r (putS σ d undefA) H K := rfl
theorem guardK_u {w : Bool} : guardK env d op w r σ H K undefA = wpS env r (putS σ d undefA) H K := rfl
theorem putS_d {n : Nat} {v : AVal} : putS σ (some n) v = upd σ n v := rfl
theorem putS_0 {v : AVal} : putS σ none v = σ := rfl
theorem wpS_frz {t : Nat} : wpS env (.frz t :: r) σ H K = retellK env t r σ K (frzVal frzDepth (σ t) H) := by
  simp only [wpS, exStepS, retellK]
  cases frzVal frzDepth (σ t) H <;> rfl
theorem retellK_s {t : Nat} {v : AVal} : retellK env t r σ K (some (v, H)) = wpS env r (upd σ t v) H K := rfl
theorem wpS_trunc {t id n sz fr : Nat} {es : List AVal} {cap : Option Nat} (h : σ t = .hs id 0 n none) (hg : H.get id = some (.arr es sz cap fr)) (hc : fr ≤ n ∧ n ≤ es.length) :
    wpS env (.trunc t :: r) σ H K = wpS env r σ (H.set id (.arr (es.take n) sz cap fr)) K := by
  simp only [wpS, exStepS, h, hg, if_pos hc]
end

theorem bin_lss : binA .lss .int l (.int k a) (.int k b) = some (.bool (decide (a < b))) := by simp [binA, intBin, ltI_eq]
theorem bin_leq : binA .leq .int l (.int k a) (.int k b) = some (.bool (decide (a ≤ b))) := by
  have h : (!decide (b < a)) = decide (a ≤ b) := by by_cases h : a ≤ b <;> simp [h] <;> omega
  simp only [binA, intBin, ltI_eq, ne_eq, not_true, if_false, h]
theorem bin_gtr : binA .gtr .int l (.int k a) (.int k b) = some (.bool (decide (b < a))) := by simp [binA, intBin, ltI_eq]
theorem bin_geq : binA .geq .int l (.int k a) (.int k b) = some (.bool (decide (b ≤ a))) := by
  have h : (!decide (a < b)) = decide (b ≤ a) := by by_cases h : b ≤ a <;> simp [h] <;> omega
  simp only [binA, intBin, ltI_eq, ne_eq, not_true, if_false, h]
theorem bin_eql : binA .eql .int l (.int k a) (.int k b) = some (.bool (decide (a = b))) := by simp [binA, intBin, eqI_eq]; rfl
theorem bin_neq : binA .neq .int l (.int k a) (.int k b) = some (.bool (decide (a ≠ b))) := by simp [binA, intBin, eqI_eq]; rfl
theorem bin_add : binA .add .int l (.int k a) (.int k b) = some (.int k (wrapF k (a + b))) := by simp [binA, intBin]
theorem bin_sub : binA .sub .int l (.int k a) (.int k b) = some (.int k (wrapF k (a - b))) := by simp [binA, intBin]
theorem bin_mul : binA .mul .int l (.int k a) (.int k b) = some (.int k (wrapF k (a * b))) := by simp [binA, intBin]
theorem bin_quo (h : b ≠ 0) : binA .quo .int l (.int k a) (.int k b) = some (.int k (wrapF k (a.tdiv b))) := by simp [binA, intBin, h]
theorem bin_rem (h : b ≠ 0) : binA .rem .int l (.int k a) (.int k b) = some (.int k (a.tmod b)) := by simp [binA, intBin, h]
theorem bin_and (x : Int) : binA .and .int l (.int k x) (.int k b) = some (.int k (k.wrap (BitVec.ofInt k.bits x &&& BitVec.ofInt k.bits b).toNat)) := by simp [binA, intBin, bitsOp]
theorem bin_str_add (x y : List Int) (h : x.length + y.length ≤ 9223372036854775807) : binA .add .str l (.str x) (.str y) = some (.str (x ++ y)) := by
  simp only [binA, strBin]; rw [if_neg (by omega)]
theorem bin_str_eql (x y : List Int) : binA .eql .str l (.str x) (.str y) = some (.bool (x == y)) := rfl
theorem bin_str_neq (x y : List Int) : binA .neq .str l (.str x) (.str y) = some (.bool !(x == y)) := rfl
theorem bin_bool_eql (x y : Bool) : binA .eql .bool l (.bool x) (.bool y) = some (.bool (x == y)) := rfl
theorem bin_bool_neq (x y : Bool) : binA .neq .bool l (.bool x) (.bool y) = some (.bool !(x == y)) := rfl
theorem wrapF_i64 {x : Int} (h1 : -9223372036854775808 ≤ x) (h2 : x ≤ 9223372036854775807) : wrapF .i64 x = x := by
  rw [wrapF_eq, IntKind.wrap_i64]; omega
theorem wrapF_u8 {x : Int} (h1 : 0 ≤ x) (h2 : x ≤ 255) : wrapF .u8 x = x := by
  rw [wrapF_eq, IntKind.wrap_u8]; omega
theorem wrapF_u64 {x : Int} (h1 : 0 ≤ x) (h2 : x ≤ 18446744073709551615) : wrapF .u64 x = x := by
  rw [wrapF_eq]; simp only [IntKind.wrap, IntKind.bits, IntKind.signed]; simp; omega

theorem exO_mv (x : Opd) : exOpS env σ H (.mv x) = some (evS σ x, H) := rfl
theorem exO_pick {c x y : Opd} {t : Bool} (h : evS σ c = .bool t) : exOpS env σ H (.pick c x y) = some (if t then evS σ x else evS σ y, H) := by simp only [exOpS, h]
theorem exO_alloc (z : AVal) (sz : Nat) : exOpS env σ H (.alloc z sz) = some (.ptr H.next 0 0, H.new (.arr [z] sz (some 1) 0)) := rfl
theorem exO_bin {op : BinOp} {k : BKind} {x y : Opd} : exOpS env σ H (.bin op k x y) = val H (binA op k (isC x || isC y) (evS σ x) (evS σ y)) := rfl
theorem val_some (v : AVal) : val H (some v) = some (v, H) := rfl
theorem unit_some (H : Heap) : unit (some H) = some (undefA, H) := rfl
theorem evS_t (n : Nat) : evS σ (.t n) = σ n := rfl
theorem evS_c (v : AVal) : evS σ (.c v) = v := rfl

theorem next_new (o : AObj) : (H.new o).next = H.next + 1 := rfl
theorem next_set (i : Nat) (o : AObj) : (H.set i o).next = H.next := rfl
theorem next_drop (i : Nat) : (H.drop i).next = H.next := rfl
theorem get_new_lt {i : Nat} {o : AObj} (h : i < H.next) : (H.new o).get i = H.get i := Heap.get_new_ne H o i (by omega)
theorem get_new_gt {i : Nat} {o : AObj} (h : H.next < i) : (H.new o).get i = H.get i := Heap.get_new_ne H o i (by omega)
theorem get_set_other {i j : Nat} {o : AObj} (h : i ≠ j) : (H.set i o).get j = H.get j := Heap.get_set_ne H i j o h
theorem get_drop_other {i j : Nat} (h : i ≠ j) : (H.drop i).get j = H.get j := Heap.get_drop_ne H i j h

theorem index_str {s : List Int} {i : Int} (h0 : 0 ≤ i) (h1 : i.toNat < s.length) : indexA none (.str s) (.int k i) = some (.int .u8 s[i.toNat]) := by
  simp [indexA, h0, h1]
theorem index_str_at {s : List Int} {i : Nat} {c : Int} (h : s[i]? = some c) : indexA none (.str s) (.int k (i : Int)) = some (.int .u8 c) := by
  simp [indexA, h]
theorem addr_vs_at {es : List AVal} {sz z : Nat} {cap : Option Nat} {i : Nat} {e : AVal} (h : es[i]? = some e) : indexAddrA none z (.vs es sz cap) (.int k (i : Int)) = some (.pimm e.cells 0) := by
  simp [indexAddrA, h]
theorem addr_vs {es : List AVal} {sz z : Nat} {cap : Option Nat} {i : Int} (h0 : 0 ≤ i) (h1 : i.toNat < es.length) : indexAddrA none z (.vs es sz cap) (.int k i) = some (.pimm es[i.toNat].cells 0) := by
  simp [indexAddrA, h0, h1]
theorem addr_hs {id s n : Nat} {lim : Option Nat} {z : Nat} {i : Int} (h0 : 0 ≤ i) (h1 : i < n) : indexAddrA none z (.hs id s n lim) (.int k i) = some (.ptr id (s + i.toNat) 0) := by
  simp [indexAddrA, h0, h1]

theorem len_str {s : List Int} : lenA H .str (.str s) = some s.length := rfl
theorem len_vs {es : List AVal} {sz : Nat} {cap : Option Nat} : lenA H .slice (.vs es sz cap) = some es.length := rfl
theorem len_hs {id s n : Nat} {lim : Option Nat} : lenA H .slice (.hs id s n lim) = some n := rfl
theorem len_nil : lenA H .slice .nilsl = some 0 := rfl
theorem flat_int (k : IntKind) (n : Int) : flat (.int k n) = true := rfl
theorem flat_str (s : List Int) : flat (.str s) = true := rfl
theorem flat_bool (b : Bool) : flat (.bool b) = true := rfl
theorem flat_vs (es : List AVal) (sz : Nat) (cap : Option Nat) : flat (.vs es sz cap) = true := rfl
theorem flat_nilsl : flat .nilsl = true := rfl
theorem flat_hs (i s n : Nat) (lim : Option Nat) : flat (.hs i s n lim) = true := rfl
theorem flat_ptr (i a b : Nat) : flat (.ptr i a b) = true := rfl
theorem flat_pimm (cs : List AVal) (b : Nat) : flat (.pimm cs b) = true := rfl
theorem flat_nilptr : flat .nilptr = true := rfl
theorem cells_agg (cs : List AVal) : (AVal.agg cs).cells = cs := rfl
theorem cells_int (k : IntKind) (n : Int) : (AVal.int k n).cells = [.int k n] := rfl
theorem cells_str (s : List Int) : (AVal.str s).cells = [.str s] := rfl
theorem cells_bool (b : Bool) : (AVal.bool b).cells = [.bool b] := rfl
theorem cells_vs (es : List AVal) (sz : Nat) (cap : Option Nat) : (AVal.vs es sz cap).cells = [.vs es sz cap] := rfl
theorem cells_nilsl : AVal.nilsl.cells = [.nilsl] := rfl
theorem cells_hs (i s n : Nat) (lim : Option Nat) : (AVal.hs i s n lim).cells = [.hs i s n lim] := rfl
theorem cells_ptr (i a b : Nat) : (AVal.ptr i a b).cells = [.ptr i a b] := rfl
theorem cells_pimm (cs : List AVal) (b : Nat) : (AVal.pimm cs b).cells = [.pimm cs b] := rfl
theorem cells_nilptr : AVal.nilptr.cells = [.nilptr] := rfl
theorem frz_pure {l : List AVal} (h : AVal.pures l = true) : frzAll l H = some (l, H) := by simp only [frzAll, h, if_true]
theorem match_some {α β : Type} {f : α → Option β} {x : α} : (match some x with | some v => f v | none => none) = f x := rfl
theorem beq_tt : (true == true) = true := rfl
theorem beq_tf : (true == false) = false := rfl
theorem beq_ft : (false == true) = false := rfl
theorem beq_ff : (false == false) = true := rfl
theorem beq_bt (b : Bool) : (b == true) = b := by cases b <;> rfl
theorem beq_bf (b : Bool) : (b == false) = !b := by cases b <;> rfl
end

/-! Only temporaries and heap are simplified, neither the code nor what comes behind. -/
theorem wp_congr {env : Env} {c : ICode} {σ σ' : Sig} {H H' : Heap} {K : Ex → Sig → Heap → Prop} (h1 : σ = σ') (h2 : H = H') : wp env c σ H K = wp env c σ' H' K := by rw [h1, h2]
theorem wpS_congr {env : Env} {l : List IStep} {σ σ' : Sig} {H H' : Heap} {K : Sig → Heap → Prop} (h1 : σ = σ') (h2 : H = H') : wpS env l σ H K = wpS env l σ' H' K := by rw [h1, h2]
attribute [congr] wp_congr wpS_congr
end Go.Abx
