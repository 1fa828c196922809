/- Regions that draw their order, step by step. -/
import Derived.Test.YtmnbafbicjgjgaaDoorAbxT3
namespace Go.Abx
set_option linter.unusedVariables false
set_option linter.unusedSimpArgs false

def wpL (env : Env) : List (Nat × IStep) → Sig → Heap → (Sig → Heap → Prop) → Prop
  | [], σ, H, K => K σ H
  | (0, s) :: r, σ, H, K => ∃ v, (∀ H', valS env s σ H' = some (v, H')) ∧ wpL env r (putS σ (dstS s) v) H K
  | (1, s) :: r, σ, H, K => ∃ v, valS env s σ H = some (v, H) ∧ wpL env r (putS σ (dstS s) v) H K
  | (_ + 2, s) :: r, σ, H, K => ∃ v H', valS env s σ H = some (v, H') ∧ wpL env r (putS σ (dstS s) v) H' K

section
variable {env : Env} {σ : Sig} {H : Heap} {K : Sig → Heap → Prop} {r : List (Nat × IStep)} {d : Option Nat} {op : IOp}

theorem wpL_C {l : List (List Nat × IStep)} {fl : List Nat} (hlen : fl.length = l.length) : ∀ (m i : Nat) {σ : Sig} {H : Heap}, i + m = l.length → wpL env ((fl.zip (l.map (·.2))).drop i) σ H K → wpC env l fl m i σ H K
  | 0, i, σ, H, hi, h => by
    rw [List.drop_eq_nil_of_le (by simp; omega)] at h
    exact h
  | m + 1, i, σ, H, hi, h => by
    have hil : i < (fl.zip (l.map (·.2))).length := by simp; omega
    have hl : i < l.length := by omega
    have hf : i < fl.length := by omega
    rw [List.drop_eq_getElem_cons hil] at h
    have hst : stepAt l i = l[i].2 := by simp [stepAt, hl]
    have hfl : fl.getD i 0 = fl[i] := by simp [List.getD, hf]
    have hz : (fl.zip (l.map (·.2)))[i] = (fl[i], l[i].2) := by simp
    rw [hz, ← hst, ← hfl] at h
    simp only [wpC]
    generalize fl.getD i 0 = f at h ⊢
    match f, h with
    | 0, h => obtain ⟨v, h1, h2⟩ := h; exact ⟨v, h1, wpL_C hlen m (i + 1) (by omega) h2⟩
    | 1, h => obtain ⟨v, h1, h2⟩ := h; exact ⟨v, h1, wpL_C hlen m (i + 1) (by omega) h2⟩
    | f + 2, h => obtain ⟨v, H1, h1, h2⟩ := h; exact ⟨v, H1, h1, wpL_C hlen m (i + 1) (by omega) h2⟩

/-- A region, by its steps one behind the other, each flagged: 0 does not look at the heap, 1 looks at it, 2 turns it. -/
theorem draw_L (fl : List Nat) {l : List (List Nat × IStep)} (hlen : Nat.beq fl.length l.length = true) (hok : regionOk l fl = true) (h : wpL env (fl.zip (l.map (·.2))) σ H K) : drawW env l σ H K :=
  draw_C fl hok (wpL_C (Nat.eq_of_beq_eq_true hlen) l.length 0 (by omega) h)

def freeK (env : Env) (d : Option Nat) (r : List (Nat × IStep)) (σ : Sig) (H : Heap) (K : Sig → Heap → Prop) (f : Heap → Option (AVal × Heap)) : Prop := ∃ v, (∀ H', f H' = some (v, H')) ∧ wpL env r (putS σ d v) H K
def readK (env : Env) (d : Option Nat) (r : List (Nat × IStep)) (σ : Sig) (H : Heap) (K : Sig → Heap → Prop) : Option (AVal × Heap) → Prop
  | some (v, H') => H' = H ∧ wpL env r (putS σ d v) H K
  | none => False
def writeK (env : Env) (d : Option Nat) (r : List (Nat × IStep)) (σ : Sig) (K : Sig → Heap → Prop) : Option (AVal × Heap) → Prop
  | some (v, H') => wpL env r (putS σ d v) H' K
  | none => False
def gdK (f : Nat) (env : Env) (d : Option Nat) (op : IOp) (w : Bool) (r : List (Nat × IStep)) (σ : Sig) (H : Heap) (K : Sig → Heap → Prop) : AVal → Prop
  | .bool b => if (b == w) = true then wpL env ((f, .op none d op) :: r) σ H K else wpL env r (putS σ d undefA) H K
  | .tup [] => wpL env r (putS σ d undefA) H K
  | _ => False

theorem wpL_nil : wpL env [] σ H K = K σ H := rfl
theorem wpL_0 : wpL env ((0, .op none d op) :: r) σ H K = freeK env d r σ H K (fun H' => exOpS env σ H' op) := rfl
theorem freeK_s {v : AVal} : freeK env d r σ H K (fun H' => some (v, H')) = wpL env r (putS σ d v) H K := propext ⟨fun ⟨v', h1, h2⟩ => by
  have := h1 H
  simp only [Option.some.injEq, Prod.mk.injEq] at this
  rw [this.1]; exact h2, fun h => ⟨v, fun _ => rfl, h⟩⟩
theorem wpL_1 : wpL env ((1, .op none d op) :: r) σ H K = readK env d r σ H K (exOpS env σ H op) := propext ⟨fun ⟨v, h1, h2⟩ => by
  simp only [valS, wantedS] at h1
  rw [h1]; exact ⟨rfl, h2⟩, fun h => by
  cases he : exOpS env σ H op with
  | none => rw [he] at h; exact h.elim
  | some p =>
    obtain ⟨v, H1⟩ := p
    rw [he] at h
    obtain ⟨rfl, h⟩ := h
    exact ⟨v, he, h⟩⟩
theorem readK_s {v : AVal} : readK env d r σ H K (some (v, H)) = wpL env r (putS σ d v) H K := propext ⟨fun h => h.2, fun h => ⟨rfl, h⟩⟩
theorem wpL_2 : wpL env ((2, .op none d op) :: r) σ H K = writeK env d r σ K (exOpS env σ H op) := propext ⟨fun ⟨v, H1, h1, h2⟩ => by
  simp only [valS, wantedS] at h1
  rw [h1]; exact h2, fun h => by
  cases he : exOpS env σ H op with
  | none => rw [he] at h; exact h.elim
  | some p => rw [he] at h; exact ⟨p.1, p.2, he, h⟩⟩
theorem writeK_s {v : AVal} {H' : Heap} : writeK env d r σ K (some (v, H')) = wpL env r (putS σ d v) H' K := rfl
theorem wpL_g {f t : Nat} {w : Bool} : wpL env ((f, .op (some (t, w)) d op) :: r) σ H K = gdK f env d op w r σ H K (σ t) := by
  match f with
  | 0 =>
    simp only [wpL, valS, wantedS, gdK, dstS]
    cases σ t with
    | bool b => cases hb : b == w <;> simp [hb]
    | tup l => cases l <;> simp
    | _ => simp
  | 1 =>
    simp only [wpL, valS, wantedS, gdK, dstS]
    cases σ t with
    | bool b => cases hb : b == w <;> simp [hb]
    | tup l => cases l <;> simp
    | _ => simp
  | f + 2 =>
    have two : (∃ v H', some (undefA, H) = some (v, H') ∧ wpL env r (putS σ d v) H' K) ↔ wpL env r (putS σ d undefA) H K := by
      constructor
      · rintro ⟨v, H', e, h⟩
        simp only [Option.some.injEq, Prod.mk.injEq] at e
        obtain ⟨rfl, rfl⟩ := e
        exact h
      · exact fun h => ⟨_, _, rfl, h⟩
    simp only [wpL, valS, wantedS, gdK, dstS]
    cases σ t with
    | bool b =>
      cases hb : b == w with
      | true => simp [hb]
      | false => simp only [hb]; rw [two]; simp
    | tup l =>
      cases l with
      | nil => simp only; rw [two]
      | cons x y => simp
    | _ => simp
theorem gdK_b {f : Nat} {w b : Bool} : gdK f env d op w r σ H K (.bool b) = if (b == w) = true then wpL env ((f, .op none d op) :: r) σ H K else wpL env r (putS σ d undefA) H K := rfl
theorem gdK_u {f : Nat} {w : Bool} : gdK f env d op w r σ H K undefA = wpL env r (putS σ d undefA) H K := rfl

/-! Calls -/
theorem call_pure {g : Nat} {args : List Opd} {own : Bool} {F : List AVal → Option AVal} {e : FEnt} (he : envGet env g = some e) (hF : e = .pure own F) {r : AVal} (hp : AVal.pures (args.map (evS σ)) = true) (h : F (args.map (evS σ)) = some r) (H : Heap) :
    exOpS env σ H (.call g .pure args) = some (r, H) := by
  subst hF
  simp only [exOpS, exCall, he, frzAll, hp, if_true, h]
theorem call_own {g : Nat} {args : List Opd} {F : List AVal → Option AVal} {e : FEnt} (he : envGet env g = some e) (hF : e = .pure true F) {r : AVal} (hp : AVal.pures (args.map (evS σ)) = true) (h : F (args.map (evS σ)) = some r) (H : Heap) :
    exOpS env σ H (.call g .own args) = some (importA r H) := by
  subst hF
  simp only [exOpS, exCall, he, frzAll, hp, if_true, h]
theorem call_raw {g : Nat} {args : List Opd} {F : List AVal → Heap → Option (AVal × Heap)} {e : FEnt} (he : envGet env g = some e) (hF : e = .raw F) {p : AVal × Heap} {H : Heap} (h : F (args.map (evS σ)) H = some p) :
    exOpS env σ H (.call g .raw args) = some p := by
  subst hF
  simp only [exOpS, exCall, he, h]
/-- A call by what its callee comes to. -/
def callP (o : Option AVal) (H : Heap) : Option (AVal × Heap) := match o with | some r => some (r, H) | none => none
theorem exCall_pure {g : Nat} {args : List AVal} {own : Bool} {F : List AVal → Option AVal} (he : envGet env g = some (.pure own F)) (hp : AVal.pures args = true) {r : AVal} (h : F args = some r) : exCall env g .pure args H = some (r, H) := by
  simp only [exCall, he, frzAll, hp, if_true, h]
theorem exCall_own {g : Nat} {args : List AVal} {F : List AVal → Option AVal} (he : envGet env g = some (.pure true F)) (hp : AVal.pures args = true) {r : AVal} (h : F args = some r) : exCall env g .own args H = some (importA r H) := by
  simp only [exCall, he, frzAll, hp, if_true, h]
theorem exCall_raw {g : Nat} {args : List AVal} {F : List AVal → Heap → Option (AVal × Heap)} (he : envGet env g = some (.raw F)) {p : AVal × Heap} (h : F args H = some p) : exCall env g .raw args H = some p := by
  simp only [exCall, he, h]

theorem stride_vs {z : Nat} {es : List AVal} {cap : Option Nat} : stride H z (.vs es z cap) = true := Nat.beq_refl z
theorem stride_nil {z : Nat} : stride H z .nilsl = true := rfl
theorem stride_str {z : Nat} {s : List Int} : stride H z (.str s) = true := rfl
theorem stride_ptr {z i a b : Nat} : stride H z (.ptr i a b) = true := rfl
theorem stride_pimm {z b : Nat} {cs : List AVal} : stride H z (.pimm cs b) = true := rfl
theorem stride_at {id s n z fr : Nat} {lim cap : Option Nat} {es : List AVal} (hg : H.get id = some (.arr es z cap fr)) : stride H z (.hs id s n lim) = true := by simp [stride, hg]
theorem stride_new {s n z fr : Nat} {lim cap : Option Nat} {es : List AVal} : stride (H.new (.arr es z cap fr)) z (.hs H.next s n lim) = true := stride_at (Heap.get_new _ _)
theorem stride_new_set {o : AObj} {s n z fr : Nat} {lim cap : Option Nat} {es : List AVal} : stride ((H.new o).set H.next (.arr es z cap fr)) z (.hs H.next s n lim) = true := stride_at (Heap.get_set _ _ _ o (Heap.get_new H o))
theorem nbeq_self (n : Nat) : Nat.beq n n = true := Nat.beq_refl n
/-! The newest object, and freezing -/
theorem repl_repl : ∀ (l : List (Nat × AObj)) (i : Nat) (a b : AObj), repl (repl l i a) i b = repl l i b
  | [], _, _, _ => rfl
  | (j, o) :: r, i, a, b => by
    by_cases h : j = i
    · simp [repl, h, repl_repl r i a b]
    · simp [repl, h, repl_repl r i a b]
theorem set_set {i : Nat} {a b : AObj} : (H.set i a).set i b = H.set i b := by simp [Heap.set, repl_repl]
theorem get_new_set {o o' : AObj} : ((H.new o).set H.next o').get H.next = some o' := Heap.get_set _ _ _ o (Heap.get_new H o)
def frzB (b : Bool) (es : List AVal) (id i c sz : Nat) (cap : Option Nat) (H : Heap) : Option (AVal × Heap) :=
  match b with
  | true => (match es[i]? with
    | some e => some (.pimm e.cells c, H.set id (.arr es sz cap es.length))
    | none => none)
  | false => frzVal frzDepth (.ptr id i c) H
def frzP (o : Option AObj) (id i c : Nat) (H : Heap) : Option (AVal × Heap) :=
  match o with
  | some (.arr es sz cap fr) => frzB (AVal.pures es) es id i c sz cap H
  | _ => none
theorem frz_ptr {id i c : Nat} : frzVal frzDepth (.ptr id i c) H = frzP (H.get id) id i c H := by
  have h2 : (AVal.ptr id i c).pure = false := rfl
  cases hg : H.get id with
  | none => simp only [frzDepth, frzVal, h2, Bool.false_eq_true, if_false, hg, frzP]
  | some o =>
    cases o with
    | map kv => simp only [frzDepth, frzVal, h2, Bool.false_eq_true, if_false, hg, frzP]
    | arr es sz cap fr =>
      simp only [frzP]
      cases hp : AVal.pures es with
      | false => rfl
      | true =>
        have h1 : frzList (frzVal 11) es H = some (es, H) := frzList_pure 10 _ _ hp
        rw [frzDepth, frzVal]
        simp only [h2, Bool.false_eq_true, if_false, hg]
        rw [h1]
        simp only [frzB]
        cases es[i]? <;> rfl
theorem frzP_arr {es : List AVal} {sz fr id i c : Nat} {cap : Option Nat} : frzP (some (.arr es sz cap fr)) id i c H = frzB (AVal.pures es) es id i c sz cap H := rfl
theorem frzB_t {es : List AVal} {sz id i c : Nat} {cap : Option Nat} : frzB true es id i c sz cap H = (match es[i]? with
    | some e => some (.pimm e.cells c, H.set id (.arr es sz cap es.length))
    | none => none) := rfl
end
end Go.Abx
