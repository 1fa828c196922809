/- Single operations (3: arithmetic, comparisons, strings). -/
import Derived.Test.YtmnbafbicjgjgaaDoorAbxD
namespace Go.Abx
open Go.RowKit
set_option linter.unusedVariables false
set_option linter.unusedSimpArgs false

theorem ltI_eq (a b : Int) : ltI a b = decide (a < b) := by
  cases a <;> cases b <;> simp [ltI, Nat.blt] <;> (try (rw [Bool.eq_iff_iff]; simp)) <;> omega
theorem eqI_eq (a b : Int) : eqI a b = (a == b) := by
  cases a <;> cases b <;> simp [eqI] <;> (try (rw [Bool.eq_iff_iff]; simp)) <;> omega
theorem wrapF_eq (k : IntKind) (n : Int) : wrapF k n = k.wrap n := by
  unfold wrapF
  split
  · rename_i m
    cases h : Nat.blt m 9223372036854775808 with
    | false => rfl
    | true => have : m ≤ 9223372036854775807 := by simpa [Nat.blt] using h
              simp [IntKind.wrap, IntKind.bits, IntKind.signed]; omega
  · rename_i m
    cases h : Nat.blt m 18446744073709551616 with
    | false => rfl
    | true => have : m ≤ 18446744073709551615 := by simpa [Nat.blt] using h
              simp [IntKind.wrap, IntKind.bits, IntKind.signed]; omega
  · rename_i m
    cases h : Nat.blt m 2147483648 with
    | false => rfl
    | true => have : m ≤ 2147483647 := by simpa [Nat.blt] using h
              simp [IntKind.wrap, IntKind.bits, IntKind.signed]; omega
  · rename_i m
    cases h : Nat.blt m 4294967296 with
    | false => rfl
    | true => have : m ≤ 4294967295 := by simpa [Nat.blt] using h
              simp [IntKind.wrap, IntKind.bits, IntKind.signed]; omega
  · rename_i m
    cases h : Nat.blt m 256 with
    | false => simp [IntKind.wrap, IntKind.bits, IntKind.signed]
    | true => have : m ≤ 255 := by simpa [Nat.blt] using h
              simp [IntKind.wrap, IntKind.bits, IntKind.signed]; omega
  · rfl

theorem byteInts_inj {a b : ByteArray} (h : byteInts a = byteInts b) : a = b := by
  obtain ⟨⟨x⟩⟩ := a
  obtain ⟨⟨y⟩⟩ := b
  simp only [byteInts] at h
  have : x = y := by
    refine List.map_inj_right (f := fun b : UInt8 => (b.toNat : Int)) (fun p q e => ?_) |>.1 h
    have e' : (p.toNat : Int) = (q.toNat : Int) := e
    have : p.toNat = q.toNat := by omega
    exact UInt8.toNat_inj.1 this
  rw [this]
theorem byteInts_eq (a b : ByteArray) : (a.toList == b.toList) = (byteInts a == byteInts b) := by
  rw [ByteArray.toList_eq, ByteArray.toList_eq, Bool.eq_iff_iff]
  simp only [beq_iff_eq]
  constructor
  · intro h; simp [byteInts, h]
  · intro h; rw [byteInts_inj h]
theorem byteInts_less (a b : ByteArray) : Op.bytesLess a.toList b.toList = strLess (byteInts a) (byteInts b) := by
  rw [ByteArray.toList_eq, ByteArray.toList_eq]
  simp only [byteInts]
  generalize a.data.toList = x
  generalize b.data.toList = y
  induction x generalizing y with
  | nil => cases y <;> rfl
  | cons p x ih =>
    cases y with
    | nil => rfl
    | cons q y =>
      simp only [Op.bytesLess, List.map_cons, strLess, ih]
      congr 1
      · rw [Bool.eq_iff_iff]; simp [UInt8.lt_iff_toNat_lt]
      · congr 1
        rw [Bool.eq_iff_iff]; simp only [beq_iff_eq, ← UInt8.toNat_inj]; omega
theorem byteInts_append (a b : ByteArray) : byteInts (a ++ b) = byteInts a ++ byteInts b := by
  simp only [byteInts, ByteArray.data_append, Array.toList_append, List.map_append]
theorem byteInts_len (a : ByteArray) : (byteInts a).length = a.size := by
  show (a.data.toList.map _).length = a.data.size
  simp

section
variable {P : Program} {c : Cx} {w0 : World} {base : Nat} {M : Mem} {ρ : Pl} {H H' : Heap} {w w' : World} {tm : Tm} {a : Act} {o : Oper} {env : Env} {v : AVal}

theorem run_intBin {op : BinOp} {t : TypeId} {k l : IntKind} {x y : Int} {w : World} (h : intBin op k x l y = some v) : ∃ u, (binOp op t (.int k x) (.int l y)).run P w = .ok u w ∧ VR c M ρ v u := by
  unfold intBin at h
  cases op <;> simp only at h
  case shl =>
    split at h
    · cases h
    · rename_i hy; cases h
      exact ⟨.int k (k.wrap (x * 2 ^ (min y.toNat k.bits))), by simp [binOp, Op.shift, hy], .int _ _⟩
  case shr =>
    split at h
    · cases h
    · rename_i hy; cases h
      exact ⟨.int k (x.fdiv (2 ^ (min y.toNat k.bits))), by simp [binOp, Op.shift, hy], .int _ _⟩
  all_goals
    split at h
    · cases h
    rename_i hk
    have hk : k = l := Decidable.not_not.1 hk
    subst hk
  case add => cases h; exact ⟨.int k (k.wrap (x + y)), by simp [binOp, Op.intArith], by rw [wrapF_eq]; exact .int _ _⟩
  case sub => cases h; exact ⟨.int k (k.wrap (x - y)), by simp [binOp, Op.intArith], by rw [wrapF_eq]; exact .int _ _⟩
  case mul => cases h; exact ⟨.int k (k.wrap (x * y)), by simp [binOp, Op.intArith], by rw [wrapF_eq]; exact .int _ _⟩
  case quo =>
    split at h
    · cases h
    · rename_i hy; cases h; exact ⟨.int k (k.wrap (x.tdiv y)), by simp [binOp, Op.intDiv, hy], by rw [wrapF_eq]; exact .int _ _⟩
  case rem =>
    split at h
    · cases h
    · rename_i hy; cases h; exact ⟨.int k (x.tmod y), by simp [binOp, Op.intDiv, hy], .int _ _⟩
  case eql => cases h; exact ⟨.bool (x == y), by simp [binOp, Op.intCmp], by rw [eqI_eq]; exact .bool _⟩
  case neq => cases h; exact ⟨.bool (x != y), by simp [binOp, Op.intCmp], by rw [eqI_eq]; exact .bool _⟩
  case lss => cases h; exact ⟨.bool (decide (x < y)), by simp [binOp, Op.intCmp], by rw [ltI_eq]; exact .bool _⟩
  case leq => cases h; exact ⟨.bool (decide (x ≤ y)), by simp [binOp, Op.intCmp], by rw [ltI_eq, show (!decide (y < x)) = decide (x ≤ y) by rw [Bool.eq_iff_iff]; simp]; exact .bool _⟩
  case gtr => cases h; exact ⟨.bool (decide (x > y)), by simp [binOp, Op.intCmp], by rw [ltI_eq]; exact .bool _⟩
  case geq => cases h; exact ⟨.bool (decide (x ≥ y)), by simp [binOp, Op.intCmp], by rw [ltI_eq, show (!decide (x < y)) = decide (x ≥ y) by rw [Bool.eq_iff_iff]; simp]; exact .bool _⟩
  all_goals
    simp only [bitsOp] at h
    cases h
    exact ⟨_, by simp only [binOp, Op.intBits, if_false, ne_eq, not_true_eq_false, Sem.run_pure], .int _ _⟩
theorem run_strBin {op : BinOp} {t : TypeId} {x y : ByteArray} {w : World} (h : strBin op (byteInts x) (byteInts y) = some v) : ∃ u, (binOp op t (.string x) (.string y)).run P w = .ok u w ∧ VR c M ρ v u := by
  unfold strBin at h
  cases op <;> simp only [reduceCtorEq] at h
  case add =>
    split at h
    · cases h
    · rename_i hl
      cases h
      rw [byteInts_len, byteInts_len] at hl
      have hl' : ¬ (((x.size + y.size : Nat) : Int) > IntKind.i64.max) := by simpa using hl
      exact ⟨.string (x ++ y), by simp only [binOp, Op.stringOp, if_neg hl', Sem.run_pure], by rw [← byteInts_append]; exact .str _⟩
  all_goals
    cases h
    refine ⟨_, by simp only [binOp, Op.stringOp, Sem.run_pure]; rfl, ?_⟩
    first
      | (rw [← byteInts_eq]; exact .bool _)
      | (rw [← byteInts_less, ← byteInts_eq]; exact .bool _)
      | (rw [← byteInts_less]; exact .bool _)

theorem guard_ok (op : BinOp) (t : TypeId) (x y : Operand) (u v : Value) (w : World) (h : ∀ cs, u ≠ .agg cs) (h2 : u ≠ .nilIface ∨ v ≠ .nilIface) : (eqGuard op t x y u v).run P w = .ok () w := by
  cases u with
  | agg cs => exact absurd rfl (h cs)
  | nilIface =>
    cases v with
    | nilIface => rcases h2 with h2 | h2 <;> exact absurd rfl h2
    | _ => cases op <;> rfl
  | _ => cases op <;> rfl

theorem run_eql_of {t : TypeId} {x y : Value} {b : Bool} {w : World} (he : (Op.equal t x y).run P w = .ok b w) (hx : (∀ k n, x ≠ .int k n) ∧ (∀ s, x ≠ .string s) ∧ (∀ k n, x ≠ .float k n) ∧ (∀ k n m, x ≠ .complex k n m)) :
    (binOp .eql t x y).run P w = .ok (.bool b) w ∧ (binOp .neq t x y).run P w = .ok (.bool !b) w := by
  constructor <;> (cases x <;> cases y <;> first | (simp [binOp, he]; done) | (exfalso; first | exact hx.1 _ _ rfl | exact hx.2.1 _ rfl | exact hx.2.2.1 _ _ rfl | exact hx.2.2.2 _ _ _ rfl))

theorem cellsEq_spec {t : TypeId} {ks : List Nat} (hp : plainStruct P t ks = true) {xs ys : List AVal} {b : Bool} (h : cellsEq ks xs ys = some b) {ax ay : Array Value} (hx : CR c M ρ xs ax) (hy : CR c M ρ ys ay) (w : World) :
    (Op.equal t (.agg ax) (.agg ay)).run P w = .ok b w ∧ P.eqGuardType P.depth t = false := by
  unfold plainStruct at hp
  split at hp
  case h_2 => cases hp
  rename_i fs hu
  simp only [Bool.and_eq_true, Bool.not_eq_true'] at hp
  obtain ⟨⟨h1, h2⟩, h3⟩ := hp
  refine ⟨?_, h2⟩
  have hfo : P.fieldsOf t = fs := by simp [Program.fieldsOf, hu]
  show (Op.equalIn (9999 + 1) t _ _).run P w = _
  rw [run_equalIn_struct w 9999 t ax ay (by rw [hfo]; exact hu) h1, hfo]
  -- field by field, from field k on
  have key : ∀ (l : List Field) (k : Nat) (ks : List Nat) (xs ys : List AVal), cellKinds P l k ks = true →
      (∀ (j : Nat) (x : AVal), xs[j]? = some x → ∃ u, ax[k + j]? = some u ∧ VR c M ρ x u) → (∀ (j : Nat) (x : AVal), ys[j]? = some x → ∃ u, ay[k + j]? = some u ∧ VR c M ρ x u) →
      cellsEq ks xs ys = some b → (Op.eqFields 9999 ax ay l).run P w = .ok b w := by
    intro l
    induction l with
    | nil =>
      intro k ks xs ys hk _ _ hc
      cases ks with
      | nil => simp [cellsEq] at hc; subst hc; rfl
      | cons _ _ => simp [cellKinds] at hk
    | cons f l ih =>
      intro k ks xs ys hall hxs hys hc
      cases ks with
      | nil => simp [cellKinds] at hall
      | cons kd ks =>
      cases xs with
      | nil => simp [cellsEq] at hc
      | cons x xs =>
        cases ys with
        | nil => simp [cellsEq] at hc
        | cons y ys =>
          simp only [cellKinds, Bool.and_eq_true, bne_iff_ne, ne_eq, beq_iff_eq] at hall
          obtain ⟨⟨⟨hn, ho⟩, hk⟩, hr⟩ := hall
          obtain ⟨u, hu1, hu2⟩ := hxs 0 x rfl
          obtain ⟨u', hu3, hu4⟩ := hys 0 y rfl
          simp only [Nat.add_zero] at hu1 hu3
          have hagg : aggIs P f.type false = true := by
            unfold cellKind at hk; unfold aggIs
            split at hk <;> simp_all
          have hpx : (part f.type ax f.offset).run P w = .ok u w := by simp [part, run_isAgg hagg, ho, hu1]
          have hpy : (part f.type ay f.offset).run P w = .ok u' w := by simp [part, run_isAgg hagg, ho, hu3]
          have ihr := ih (k + 1) ks xs ys hr (fun j z hz => by have := hxs (j + 1) z (by simpa using hz); rw [show k + 1 + j = k + (j + 1) by omega]; exact this)
            (fun j z hz => by have := hys (j + 1) z (by simpa using hz); rw [show k + 1 + j = k + (j + 1) by omega]; exact this)
          have heq : ∀ r, cellEq kd x y = some r → (Op.equalIn 9999 f.type u u').run P w = .ok r w := by
            intro r hr'
            unfold cellEq at hr'
            split at hr'
            · split at hr'
              · rename_i hkk; subst hkk
                cases hr'
                cases int_inv hu2
                cases int_inv hu4
                unfold cellKind at hk
                split at hk <;> simp_all
                rename_i hut
                rw [eqI_eq]
                exact run_equalIn_int w 9998 f.type _ _ _ _ hut
              · cases hr'
            · cases hr'
              cases bool_inv hu2
              cases bool_inv hu4
              unfold cellKind at hk
              split at hk <;> simp_all
              rename_i hut
              exact run_equalIn_bool' w 9998 f.type _ _ hut
            · cases hr'
              obtain ⟨s, rfl, rfl⟩ := str_inv hu2
              obtain ⟨s', rfl, rfl⟩ := str_inv hu4
              unfold cellKind at hk
              split at hk <;> simp_all
              rename_i hut
              rw [← byteInts_eq]
              exact run_equalIn_string w 9998 f.type _ _ hut
            · cases hr'
          simp only [cellsEq] at hc
          simp only [Op.eqFields, ne_eq, hn, not_false_eq_true, if_true, Sem.run_bind, hpx, hpy, Result.andThen_ok]
          split at hc
          · rename_i hc1
            rw [heq true hc1]
            simp only [Result.andThen_ok, Bool.not_true, Bool.false_eq_true, if_false]
            exact ihr hc
          · rename_i hc1
            cases hc
            rw [heq false hc1]
            simp
          · cases hc
  have hcell : ∀ {xs : List AVal} {ax : Array Value}, CR c M ρ xs ax → ∀ (j : Nat) (x : AVal), xs[j]? = some x → ∃ u, ax[0 + j]? = some u ∧ VR c M ρ x u := fun {xs ax} hC j x hj => by
    have hl : j < ax.size := by rw [← hC.2.1]; exact (List.getElem?_eq_some_iff.1 hj).1
    exact ⟨ax[j], by simp [hl], hC.2.2 j x _ hj (by simp [hl])⟩
  exact key fs.toList 0 ks xs ys h3 (hcell hx) (hcell hy) h

section
variable {t : TypeId} (w : World)
theorem eq_bool (hut : P.underlying t = some .bool) (a b : Bool) : (Op.equal t (.bool a) (.bool b)).run P w = .ok (a == b) w := run_equalIn_bool' w 9999 t a b hut
theorem eq_ptr {e : TypeId} (d : Nat) (hut : P.underlying t = some (.pointer e)) (b : Option Addr) : (Op.equalIn (d + 1) t (.pointer none) (.pointer b)).run P w = .ok b.isNone w := by
  simp [Op.equalIn, run_underlying hut]
theorem eq_ptr' {e : TypeId} (d : Nat) (hut : P.underlying t = some (.pointer e)) (a : Addr) : (Op.equalIn (d + 1) t (.pointer (some a)) (.pointer none)).run P w = .ok false w := by
  simp [Op.equalIn, run_underlying hut]
theorem eq_slice {e : TypeId} (d : Nat) (hut : P.underlying t = some (.slice e)) (b : Option Addr) (n k m l : Nat) : (Op.equalIn (d + 1) t (.slice none m l) (.slice b n k)).run P w = .ok b.isNone w := by
  simp [Op.equalIn, run_underlying hut]
theorem eq_slice' {e : TypeId} (d : Nat) (hut : P.underlying t = some (.slice e)) (a : Addr) (n k m l : Nat) : (Op.equalIn (d + 1) t (.slice (some a) m l) (.slice none n k)).run P w = .ok false w := by
  simp [Op.equalIn, run_underlying hut]
theorem eq_map {e f : TypeId} (d : Nat) (hut : P.underlying t = some (.map e f)) (b : Option Nat) : (Op.equalIn (d + 1) t (.map none) (.map b)).run P w = .ok b.isNone w := by
  simp [Op.equalIn, run_underlying hut]
theorem eq_map' {e f : TypeId} (d : Nat) (hut : P.underlying t = some (.map e f)) (a : Nat) : (Op.equalIn (d + 1) t (.map (some a)) (.map none)).run P w = .ok false w := by
  simp [Op.equalIn, run_underlying hut]
theorem eq_if {ms : Array (String × TypeId)} (d : Nat) (hut : P.underlying t = some (.interface ms)) (e : TypeId) (x : Value) : (Op.equalIn (d + 1) t .nilIface (.iface e x)).run P w = .ok false w := by
  simp [Op.equalIn, run_underlying hut]
theorem eq_if' {ms : Array (String × TypeId)} (d : Nat) (hut : P.underlying t = some (.interface ms)) (e : TypeId) (x : Value) : (Op.equalIn (d + 1) t (.iface e x) .nilIface).run P w = .ok false w := by
  simp [Op.equalIn, run_underlying hut]
theorem eq_if2 {ms : Array (String × TypeId)} (d : Nat) (hut : P.underlying t = some (.interface ms)) : (Op.equalIn (d + 1) t .nilIface .nilIface).run P w = .ok true w := by
  simp [Op.equalIn, run_underlying hut]
theorem eq_fn {a b : Array TypeId} {v : Bool} (d : Nat) (hut : P.underlying t = some (.func a b v)) : (Op.equalIn (d + 1) t .nilFunc .nilFunc).run P w = .ok true w := by
  simp [Op.equalIn, run_underlying hut]
theorem eq_fn1 {a b : Array TypeId} {v : Bool} (d : Nat) (hut : P.underlying t = some (.func a b v)) (f : Fn) (x y : Array Value) : (Op.equalIn (d + 1) t .nilFunc (.func f x y)).run P w = .ok false w := by
  simp [Op.equalIn, run_underlying hut]
theorem eq_fn2 {a b : Array TypeId} {v : Bool} (d : Nat) (hut : P.underlying t = some (.func a b v)) (f : Fn) (x y : Array Value) : (Op.equalIn (d + 1) t (.func f x y) .nilFunc).run P w = .ok false w := by
  simp [Op.equalIn, run_underlying hut]
end

/-- What eqOf says of two values, Go says. -/
def EqTells (P : Program) (t : TypeId) (u u' : Value) (b : Bool) (w : World) : Prop :=
  (Op.equal t u u').run P w = .ok b w ∧ ((∀ k n, u ≠ .int k n) ∧ (∀ s, u ≠ .string s) ∧ (∀ k n, u ≠ .float k n) ∧ (∀ k n m, u ≠ .complex k n m)) ∧ (∀ op X Y, (eqGuard op t X Y u u').run P w = .ok () w)
theorem EqTells.mk' {t : TypeId} {u u' : Value} {b : Bool} {w : World} (h : (Op.equalIn 10000 t u u').run P w = .ok b w) (h1 : ∀ cs, u ≠ .agg cs) (h2 : u ≠ .nilIface ∨ u' ≠ .nilIface)
    (h3 : (∀ k n, u ≠ .int k n) ∧ (∀ s, u ≠ .string s) ∧ (∀ k n, u ≠ .float k n) ∧ (∀ k n m, u ≠ .complex k n m)) : EqTells P t u u' b w := ⟨h, h3, fun op X Y => guard_ok op t X Y u u' w h1 h2⟩

theorem eqOf_spec {k : BKind} {t : TypeId} (hk : kindIs P t k = true) {x y : AVal} {b : Bool} (h : eqOf k x y = some b) {u u' : Value} (hu : VR c M ρ x u) (hu' : VR c M ρ y u') (w : World) : EqTells P t u u' b w := by
  cases k with
  | int => simp [eqOf] at h
  | str => simp [eqOf] at h
  | bool =>
    cases x <;> cases y <;> simp only [eqOf, reduceCtorEq, Option.some.injEq] at h
    subst h
    cases bool_inv hu
    cases bool_inv hu'
    simp only [kindIs] at hk
    split at hk
    · rename_i hut; exact .mk' (eq_bool w hut _ _) (by simp) (by simp) (by simp)
    · cases hk
  | ptr =>
    simp only [kindIs] at hk
    split at hk
    case h_2 => cases hk
    rename_i e hut
    cases x <;> cases y <;> simp only [eqOf, reduceCtorEq, Option.some.injEq] at h <;> subst h <;> cases hu <;> cases hu' <;>
      first | exact .mk' (eq_ptr w 9999 hut _) (by simp) (by simp) (by simp) | exact .mk' (eq_ptr' w 9999 hut _) (by simp) (by simp) (by simp)
  | slice =>
    simp only [kindIs] at hk
    split at hk
    case h_2 => cases hk
    rename_i e hut
    cases x <;> cases y <;> simp only [eqOf, reduceCtorEq, Option.some.injEq] at h <;> subst h
    · cases nilsl_inv hu; cases nilsl_inv hu'
      exact .mk' (eq_slice w 9999 hut _ _ _ _ _) (by simp) (by simp) (by simp)
    · cases nilsl_inv hu
      obtain ⟨a, cap', rfl, _⟩ := vs_inv hu'
      exact .mk' (eq_slice w 9999 hut _ _ _ _ _) (by simp) (by simp) (by simp)
    · cases nilsl_inv hu
      obtain ⟨b, sz, tot, cap', _, rfl, _⟩ := hs_inv hu'
      exact .mk' (eq_slice w 9999 hut _ _ _ _ _) (by simp) (by simp) (by simp)
    · cases nilsl_inv hu'
      obtain ⟨a, cap', rfl, _⟩ := vs_inv hu
      exact .mk' (eq_slice' w 9999 hut _ _ _ _ _) (by simp) (by simp) (by simp)
    · cases nilsl_inv hu'
      obtain ⟨b, sz, tot, cap', _, rfl, _⟩ := hs_inv hu
      exact .mk' (eq_slice' w 9999 hut _ _ _ _ _) (by simp) (by simp) (by simp)
  | iface =>
    simp only [kindIs] at hk
    split at hk
    case h_2 => cases hk
    rename_i e hut
    cases x <;> cases y <;> simp only [eqOf, reduceCtorEq, Option.some.injEq] at h <;> subst h <;> cases hu <;> cases hu' <;>
      first | exact .mk' (eq_if w 9999 hut _ _) (by simp) (by simp) (by simp) | exact .mk' (eq_if' w 9999 hut _ _) (by simp) (by simp) (by simp)
  | map =>
    simp only [kindIs] at hk
    split at hk
    case h_2 => cases hk
    rename_i e f hut
    cases x <;> cases y <;> simp only [eqOf, reduceCtorEq, Option.some.injEq] at h <;> subst h <;> cases hu <;> cases hu' <;>
      first | exact .mk' (eq_map w 9999 hut _) (by simp) (by simp) (by simp) | exact .mk' (eq_map' w 9999 hut _) (by simp) (by simp) (by simp)
  | func =>
    simp only [kindIs] at hk
    split at hk
    case h_2 => cases hk
    rename_i e f g hut
    cases x <;> cases y <;> simp only [eqOf, reduceCtorEq, Option.some.injEq] at h <;> subst h <;> cases hu <;> cases hu' <;>
      first | exact .mk' (eq_fn w 9999 hut) (by simp) (by simp) (by simp) | exact .mk' (eq_fn1 w 9999 hut _ _ _) (by simp) (by simp) (by simp) | exact .mk' (eq_fn2 w 9999 hut _ _ _) (by simp) (by simp) (by simp)
  | agg ks =>
    cases x <;> cases y <;> simp only [eqOf, reduceCtorEq] at h
    obtain ⟨ax, rfl, hx⟩ := agg_inv hu
    obtain ⟨ay, rfl, hy⟩ := agg_inv hu'
    obtain ⟨h1, h2⟩ := cellsEq_spec (by simpa [kindIs] using hk) h hx hy w
    exact ⟨h1, by simp, fun op X Y => run_eqGuard_agg w op t X Y ax ay h2⟩

theorem binEq_spec {op : BinOp} {k : BKind} {t : TypeId} (hk : kindIs P t k = true) {X Y : AVal} {u u' : Value} (hu : VR c M ρ X u) (hu' : VR c M ρ Y u') (w : World) (x y : Operand)
    (h : eqArm op k X Y = some v) :
    ∃ r, (eqGuard op t x y u u').run P w = .ok () w ∧ (binOp op t u u').run P w = .ok r w ∧ VR c M ρ v r := by
  unfold eqArm at h
  cases op <;> simp only [reduceCtorEq, Option.map_eq_some_iff] at h
  all_goals
    obtain ⟨b, hb, rfl⟩ := h
    obtain ⟨e1, e2, e3⟩ := eqOf_spec hk hb hu hu' w
    obtain ⟨f1, f2⟩ := run_eql_of e1 e2
  · exact ⟨_, e3 _ _ _, f1, .bool _⟩
  · exact ⟨_, e3 _ _ _, f2, .bool _⟩

theorem binA_spec {op : BinOp} {k : BKind} {t : TypeId} (hk : kindIs P t k = true) {lit : Bool} {X Y : AVal} {u u' : Value} (hu : VR c M ρ X u) (hu' : VR c M ρ Y u') (w : World) (x y : Operand)
    (hlit : lit = true → X = .nilif → Y = .nilif → (∃ v, x = .const v) ∨ (∃ v, y = .const v)) (h : binA op k lit X Y = some v) :
    ∃ r, (eqGuard op t x y u u').run P w = .ok () w ∧ (binOp op t u u').run P w = .ok r w ∧ VR c M ρ v r := by
  have gen : eqArm op k X Y = some v →
      ∃ r, (eqGuard op t x y u u').run P w = .ok () w ∧ (binOp op t u u').run P w = .ok r w ∧ VR c M ρ v r := fun h => binEq_spec hk hu hu' w x y h
  cases k with
  | int =>
    cases X with
    | int i n =>
      cases Y with
      | int j m =>
        cases int_inv hu
        cases int_inv hu'
        obtain ⟨r, g1, g2⟩ := run_intBin (P := P) (c := c) (M := M) (ρ := ρ) (t := t) (w := w) (h : intBin op i n j m = some v)
        exact ⟨r, guard_ok _ _ _ _ _ _ _ (by simp) (by simp), g1, g2⟩
      | _ => exact gen h
    | _ => exact gen h
  | str =>
    cases X with
    | str s =>
      cases Y with
      | str s' =>
        obtain ⟨S, rfl, rfl⟩ := str_inv hu
        obtain ⟨S', rfl, rfl⟩ := str_inv hu'
        obtain ⟨r, g1, g2⟩ := run_strBin (P := P) (c := c) (M := M) (ρ := ρ) (t := t) (w := w) (h : strBin op _ _ = some v)
        exact ⟨r, guard_ok _ _ _ _ _ _ _ (by simp) (by simp), g1, g2⟩
      | _ => exact gen h
    | _ => exact gen h
  | iface =>
    cases X with
    | nilif =>
      cases Y with
      | nilif =>
        cases lit with
        | false => simp [binA] at h
        | true =>
          have e1 : u = .nilIface := by cases hu with | nilif => rfl
          have e2 : u' = .nilIface := by cases hu' with | nilif => rfl
          subst e1; subst e2
          simp only [kindIs] at hk
          split at hk
          case h_2 => cases hk
          rename_i ms hut
          have hg : (eqGuard op t x y .nilIface .nilIface).run P w = .ok () w := by
            rcases hlit rfl rfl rfl with ⟨v, rfl⟩ | ⟨v, rfl⟩
            · rw [eqGuard_nil_constL]; rfl
            · rw [eqGuard_nil_constR]; rfl
          have he : (Op.equal t .nilIface .nilIface).run P w = .ok true w := eq_if2 w 9999 hut
          obtain ⟨f1, f2⟩ := run_eql_of he (by simp)
          cases op <;> simp only [binA, if_true, reduceCtorEq, Option.some.injEq] at h <;> subst h
          · exact ⟨_, hg, f1, .bool _⟩
          · exact ⟨_, hg, f2, .bool _⟩
      | _ => exact gen h
    | _ => exact gen h
  | _ => exact gen h

theorem op_bin {op : BinOp} {k : BKind} {x y : Opd} (hm : mOp P c o (.bin op k x y) = true) (hx : binA op k (isC x || isC y) (ev tm x) (ev tm y) = some v) (hT : TR c M ρ tm a.tmps) (hH : HR c w0 base M ρ H w) :
    Res c w0 base M ρ ((execOp a.eval o).run P w) v H := by
  cases hop : o.op <;> simp only [mOp, hop, Bool.false_eq_true, Bool.and_eq_true, beq_iff_eq] at hm
  rename_i op' t x' y' yt
  obtain ⟨⟨⟨rfl, hk⟩, h1⟩, h2⟩ := hm
  obtain ⟨r, g1, g2, g3⟩ := binA_spec hk (ev_vr hT h1) (ev_vr hT h2) w x' y' (fun hl e1 e2 => by
    simp only [Bool.or_eq_true] at hl
    rcases hl with hl | hl
    · left
      cases x with
      | t n => simp [isC] at hl
      | c cc =>
        have e1 : cc = .nilif := e1
        subst e1
        cases x' <;> simp [mOpd] at h1
        exact ⟨_, rfl⟩
    · right
      cases y with
      | t n => simp [isC] at hl
      | c cc =>
        have e2 : cc = .nilif := e2
        subst e2
        cases y' <;> simp [mOpd] at h2
        exact ⟨_, rfl⟩) hx
  exact .val (u := r) (by simp [execOp, hop, g1, g2]) g3 hH

theorem op_un {op : UnOp} {x : Opd} (hm : mOp P c o (.un op x) = true) (hx : unA op (ev tm x) = some v) (hT : TR c M ρ tm a.tmps) (hH : HR c w0 base M ρ H w) :
    Res c w0 base M ρ ((execOp a.eval o).run P w) v H := by
  cases hop : o.op <;> simp only [mOp, hop, Bool.false_eq_true, Bool.and_eq_true, beq_iff_eq] at hm
  rename_i op' t x'
  obtain ⟨rfl, h1⟩ := hm
  have hu := ev_vr hT h1
  unfold unA at hx
  split at hx
  · rename_i k n e
    rw [e] at hu
    cases hx
    exact .val (u := .int k (k.wrap (0 - n))) (by simp [execOp, hop, int_inv hu, Op.unary, Op.intArith]) (.int _ _) hH
  · rename_i b e
    rw [e] at hu
    cases hx
    exact .val (u := .bool !b) (by simp [execOp, hop, bool_inv hu, Op.unary]) (.bool _) hH
  · rename_i k n e
    rw [e] at hu
    simp only [bitsOp, Option.map_some, Option.some.injEq] at hx
    subst hx
    exact .val (by simp only [execOp, hop, int_inv hu, Op.unary, Op.intBits, Sem.run_pure, Sem.run_bind, Result.andThen_ok]) (.int _ _) hH
  · cases hx
end
end Go.Abx
