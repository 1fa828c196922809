/- The relation between the abstract executor's values and heap, and Go's. -/
import Derived.Test.YtmnbafbicjgjgaaDoorAbxA
import Derived.Laws.AppendOwn
import Derived.Laws.Strings2
namespace Go.Abx
open Go.RowKit
set_option linter.unusedVariables false
set_option linter.unusedSimpArgs false

/-- Ghost: cells that nobody writes any more. -/
abbrev Mem := Nat → Nat → Option Value
/-- How functions and types of the intermediate code are numbered in the dump. -/
structure Cx where
  fn : Nat → Option FuncId
  ty : Nat → Option TypeId
  /-- what lies there from the start, and stays: tables of the library -/
  m0 : Mem := fun _ _ => none

/-- Ghost: where an object of the abstract heap lies: block, cells of an element, elements of the block. -/
abbrev Pl := Nat → Option (Nat × Nat × Nat)

def byteInts (s : ByteArray) : List Int := s.data.toList.map fun b => (b.toNat : Int)

inductive VR (c : Cx) (M : Mem) (ρ : Pl) : AVal → Value → Prop where
  | bool (b : Bool) : VR c M ρ (.bool b) (.bool b)
  | int (k : IntKind) (n : Int) : VR c M ρ (.int k n) (.int k n)
  | str (s : ByteArray) : VR c M ρ (.str (byteInts s)) (.string s)
  | nilptr : VR c M ρ .nilptr (.pointer none)
  | ptr {id b sz tot : Nat} (i o : Nat) (h : ρ id = some (b, sz, tot)) : VR c M ρ (.ptr id i o) (.pointer (some ⟨b, i * sz + o, none⟩))
  | pimm (cs : List AVal) (b o off : Nat) (u : Nat → Value) (hf : flats cs = true) (hm : ∀ (j : Nat) (x : AVal), cs[j]? = some x → M b (o + j) = some (u j))
      (hv : ∀ (j : Nat) (x : AVal), cs[j]? = some x → VR c M ρ x (u j)) : VR c M ρ (.pimm cs off) (.pointer (some ⟨b, o + off, none⟩))
  | nilsl : VR c M ρ .nilsl (.slice none 0 0)
  | vs (es : List AVal) (sz : Nat) (cap : Option Nat) (a : Option Addr) (cap' b o : Nat) (u : Nat → Nat → Value)
      (ha : es ≠ [] → a = some ⟨b, o, none⟩) (hsome : a.isSome = true) (hcap : ∀ k, cap = some k → k = cap') (hle : es.length ≤ cap')
      (hsz : ∀ (j : Nat) (e : AVal), es[j]? = some e → e.cells.length = sz ∧ flats e.cells = true)
      (hm : ∀ (j : Nat) (e : AVal), es[j]? = some e → ∀ (i : Nat) (x : AVal), e.cells[i]? = some x → M b (o + j * sz + i) = some (u j i))
      (hv : ∀ (j : Nat) (e : AVal), es[j]? = some e → ∀ (i : Nat) (x : AVal), e.cells[i]? = some x → VR c M ρ x (u j i)) : VR c M ρ (.vs es sz cap) (.slice a es.length cap')
  | hs {id b sz tot : Nat} (s n cap' : Nat) (lim : Option Nat) (h : ρ id = some (b, sz, tot)) (h0 : lim = none → cap' = tot - s)
      (h1 : ∀ k, lim = some k → k = cap') (hn : n ≤ cap') (ht : s + cap' ≤ tot) : VR c M ρ (.hs id s n lim) (.slice (some ⟨b, s * sz, none⟩) n cap')
  | mp {id b sz tot : Nat} (h : ρ id = some (b, sz, tot)) : VR c M ρ (.mp id) (.map (some b))
  | nilmap : VR c M ρ .nilmap (.map none)
  | fn {g : Nat} {f : FuncId} (cs : List AVal) (arr : Array Value) (h : c.fn g = some f) (hl : cs.length = arr.size)
      (hv : ∀ (j : Nat) (x : AVal) (u : Value), cs[j]? = some x → arr[j]? = some u → VR c M ρ x u) : VR c M ρ (.fn g cs) (.func (.func f) #[] arr)
  | nilfn : VR c M ρ .nilfn .nilFunc
  | iface {t : Nat} {t' : TypeId} {v : AVal} {x : Value} (h : c.ty t = some t') (hv : VR c M ρ v x) : VR c M ρ (.iface t v) (.iface t' x)
  | nilif : VR c M ρ .nilif .nilIface
  | anyif (t : TypeId) (x : Value) : VR c M ρ .anyif (.iface t x)
  | anyb (n : Int) : VR c M ρ .anyb (.int .u8 n)
  | agg (cs : List AVal) (arr : Array Value) (hf : flats cs = true) (hl : cs.length = arr.size)
      (hv : ∀ (j : Nat) (x : AVal) (u : Value), cs[j]? = some x → arr[j]? = some u → VR c M ρ x u) : VR c M ρ (.agg cs) (.agg arr)
  | tup (cs : List AVal) (arr : Array Value) (hl : cs.length = arr.size)
      (hv : ∀ (j : Nat) (x : AVal) (u : Value), cs[j]? = some x → arr[j]? = some u → VR c M ρ x u) : VR c M ρ (.tup cs) (.tuple arr)

def MLe (M M' : Mem) : Prop := ∀ b o u, M b o = some u → M' b o = some u
def PLe (ρ ρ' : Pl) : Prop := ∀ i p, ρ i = some p → ρ' i = some p
theorem MLe.refl (M : Mem) : MLe M M := fun _ _ _ h => h
theorem PLe.refl (ρ : Pl) : PLe ρ ρ := fun _ _ h => h
theorem MLe.trans {A B C : Mem} (h : MLe A B) (k : MLe B C) : MLe A C := fun _ _ _ x => k _ _ _ (h _ _ _ x)
theorem PLe.trans {A B C : Pl} (h : PLe A B) (k : PLe B C) : PLe A C := fun _ _ x => k _ _ (h _ _ x)

theorem VR.mono {c : Cx} {M M' : Mem} {ρ ρ' : Pl} {a : AVal} {v : Value} (h : VR c M ρ a v) (hM : MLe M M') (hP : PLe ρ ρ') : VR c M' ρ' a v := by
  induction h with
  | bool b => exact .bool b
  | int k n => exact .int k n
  | str s => exact .str s
  | nilptr => exact .nilptr
  | ptr i o h => exact .ptr i o (hP _ _ h)
  | pimm cs b o off u hf hm hv ih => exact .pimm cs b o off u hf (fun j x h => hM _ _ _ (hm j x h)) (fun j x h => ih j x h)
  | nilsl => exact .nilsl
  | vs es sz cap a cap' b o u ha hsome hcap hle hsz hm hv ih =>
    exact .vs es sz cap a cap' b o u ha hsome hcap hle hsz (fun j e he i x hx => hM _ _ _ (hm j e he i x hx)) (fun j e he i x hx => ih j e he i x hx)
  | hs s n cap' lim h h0 h1 hn ht => exact .hs s n cap' lim (hP _ _ h) h0 h1 hn ht
  | mp h => exact .mp (hP _ _ h)
  | nilmap => exact .nilmap
  | fn cs arr h hl hv ih => exact .fn cs arr h hl (fun j x u hx hu => ih j x u hx hu)
  | nilfn => exact .nilfn
  | iface h hv ih => exact .iface h ih
  | nilif => exact .nilif
  | anyif t x => exact .anyif t x
  | anyb n => exact .anyb n
  | agg cs arr hf hl hv ih => exact .agg cs arr hf hl (fun j x u hx hu => ih j x u hx hu)
  | tup cs arr hl hv ih => exact .tup cs arr hl (fun j x u hx hu => ih j x u hx hu)

theorem pures_mem : ∀ {l : List AVal}, AVal.pures l = true → ∀ {x}, x ∈ l → x.pure = true
  | [], _, _, h => by cases h
  | v :: r, hp, x, h => by
    simp only [AVal.pures, Bool.and_eq_true] at hp
    rcases List.mem_cons.1 h with rfl | h
    · exact hp.1
    · exact pures_mem hp.2 h
theorem pures_at {l : List AVal} (h : AVal.pures l = true) {j : Nat} {x : AVal} (hx : l[j]? = some x) : x.pure = true := pures_mem h (List.mem_of_getElem? hx)
theorem pures_of : ∀ {l : List AVal}, (∀ x ∈ l, x.pure = true) → AVal.pures l = true
  | [], _ => rfl
  | v :: r, h => by simp only [AVal.pures, Bool.and_eq_true]; exact ⟨h v (List.mem_cons_self ..), pures_of fun x hx => h x (List.mem_cons_of_mem _ hx)⟩
theorem pure_cells {e : AVal} (h : e.pure = true) : AVal.pures e.cells = true := by
  cases e <;> simp_all [AVal.cells, AVal.pure, AVal.pures]
theorem pures_drop {l : List AVal} (n : Nat) (h : AVal.pures l = true) : AVal.pures (l.drop n) = true := pures_of fun x hx => pures_mem h (List.mem_of_mem_drop hx)
theorem pures_take {l : List AVal} (n : Nat) (h : AVal.pures l = true) : AVal.pures (l.take n) = true := pures_of fun x hx => pures_mem h (List.mem_of_mem_take hx)

/-- A value without handles has nothing to do with the abstract heap. -/
theorem VR.free {c : Cx} {M : Mem} {ρ ρ' : Pl} {a : AVal} {v : Value} (h : VR c M ρ a v) (hp : a.pure = true) : VR c M ρ' a v := by
  induction h with
  | bool b => exact .bool b
  | int k n => exact .int k n
  | str s => exact .str s
  | nilptr => exact .nilptr
  | ptr i o h => simp [AVal.pure] at hp
  | pimm cs b o off u hf hm hv ih => exact .pimm cs b o off u hf hm (fun j x h => ih j x h (pures_at (by simpa [AVal.pure] using hp) h))
  | nilsl => exact .nilsl
  | vs es sz cap a cap' b o u ha hsome hcap hle hsz hm hv ih =>
    exact .vs es sz cap a cap' b o u ha hsome hcap hle hsz hm (fun j e he i x hx => ih j e he i x hx (pures_at (pure_cells (pures_at (by simpa [AVal.pure] using hp) he)) hx))
  | hs s n cap' lim h h0 h1 hn ht => simp [AVal.pure] at hp
  | mp h => simp [AVal.pure] at hp
  | nilmap => exact .nilmap
  | fn cs arr h hl hv ih => exact .fn cs arr h hl (fun j x u hx hu => ih j x u hx hu (pures_at (by simpa [AVal.pure] using hp) hx))
  | nilfn => exact .nilfn
  | iface h hv ih => exact .iface h (ih (by simpa [AVal.pure] using hp))
  | nilif => exact .nilif
  | anyif t x => exact .anyif t x
  | anyb n => exact .anyb n
  | agg cs arr hf hl hv ih => exact .agg cs arr hf hl (fun j x u hx hu => ih j x u hx hu (pures_at (by simpa [AVal.pure] using hp) hx))
  | tup cs arr hl hv ih => exact .tup cs arr hl (fun j x u hx hu => ih j x u hx hu (pures_at (by simpa [AVal.pure] using hp) hx))

/-- A value of one cell is told by a value of one cell. -/
theorem VR.one {c : Cx} {M : Mem} {ρ : Pl} {a : AVal} {v : Value} (h : VR c M ρ a v) (hf : flat a = true) : v.oneCell' = true ∧ v.cells = #[v] := by
  cases h <;> simp_all [Abx.flat, Value.oneCell', Value.cells]

theorem flats_at {l : List AVal} (h : flats l = true) {j : Nat} {x : AVal} (hx : l[j]? = some x) : flat x = true := List.all_eq_true.1 h _ (List.mem_of_getElem? hx)
theorem flats_of {l : List AVal} (h : ∀ x ∈ l, flat x = true) : flats l = true := List.all_eq_true.2 h
theorem flat_cells {a : AVal} (h : flat a = true) : a.cells = [a] := by cases a <;> simp_all [flat, AVal.cells]

/-- The cells of a value, one by one. -/
theorem VR.cells {c : Cx} {M : Mem} {ρ : Pl} {a : AVal} {v : Value} (h : VR c M ρ a v) (hf : flats a.cells = true) :
    v.cells.size = a.cells.length ∧ ∀ (j : Nat) (x : AVal), a.cells[j]? = some x → ∃ u, v.cells[j]? = some u ∧ VR c M ρ x u := by
  by_cases ha : flat a = true
  · have h1 := h.one ha
    rw [flat_cells ha, h1.2]
    refine ⟨rfl, fun j x hx => ?_⟩
    cases j with
    | zero => exact ⟨v, rfl, by simpa using (by simpa using hx : a = x) ▸ h⟩
    | succ j => simp at hx
  · cases h with
    | agg cs arr hf hl hv =>
      refine ⟨hl.symm, fun j x hx => ?_⟩
      have hj : j < arr.size := hl ▸ (List.getElem?_eq_some_iff.1 hx).1
      exact ⟨arr[j], by simp [Value.cells, hj], hv j x _ hx (by simp [hj])⟩
    | tup cs arr hl hv => simp [AVal.cells, flats, Abx.flat] at hf
    | _ => simp [Abx.flat] at ha

/-! ### The heap -/
/-- An object of the abstract heap, and its block. -/
def OR (c : Cx) (M : Mem) (ρ : Pl) (w : World) (b sz tot : Nat) : AObj → Prop
  | .arr es z cap fr => z = sz ∧ 0 < sz ∧ es.length ≤ tot ∧ fr ≤ es.length ∧ (∀ k, cap = some k → k = tot) ∧ (∀ o, fr * sz ≤ o → M b o = none) ∧
      ∃ (cs : Array Value) (E : TypeId) (fz : Nat × Nat), w.heap[b]? = some (.cells cs E fz) ∧ cs.size = tot * sz ∧ (fz.1 = fz.2 ∨ tot * sz ≤ fz.1) ∧
        (∀ (j : Nat) (e : AVal), es[j]? = some e → e.cells.length = sz ∧ flats e.cells = true) ∧
        (∀ (j : Nat) (e : AVal), es[j]? = some e → ∀ i x, e.cells[i]? = some x → ∃ u, cs[j * sz + i]? = some u ∧ VR c M ρ x u)
  | .map kv => (∀ o, M b o = none) ∧ ∃ (es : Array MapEntry) (clock : Nat), w.heap[b]? = some (.map es clock) ∧ es.size = kv.length ∧
      ∀ (j : Nat) (p : AVal × AVal), kv[j]? = some p → ∃ e, es[j]? = some e ∧ VR c M ρ p.1 e.key ∧ VR c M ρ p.2 e.val

theorem fz_ok {fz : Nat × Nat} {n : Nat} (h : fz.1 = fz.2 ∨ n ≤ fz.1) (o : Nat) (ho : o < n) : (decide (fz.1 ≤ o) && decide (o < fz.2)) = false := by
  rw [Bool.and_eq_false_iff]
  simp only [decide_eq_false_iff_not]
  omega

theorem OR.mono {c : Cx} {M M' : Mem} {ρ ρ' : Pl} {w w' : World} {b sz tot : Nat} {o : AObj} (h : OR c M ρ w b sz tot o) (hM : MLe M M') (hP : PLe ρ ρ')
    (hb : w'.heap[b]? = w.heap[b]?) (hn : ∀ o, M b o = none → M' b o = none) : OR c M' ρ' w' b sz tot o := by
  cases o with
  | arr es z cap fr =>
    obtain ⟨h1, h2, h3, h4, h5, h6, cs, E, fz, h7, h8, h9, h10, h11⟩ := h
    exact ⟨h1, h2, h3, h4, h5, fun o ho => hn o (h6 o ho), cs, E, fz, by rw [hb, h7], h8, h9, h10, fun j e he i x hx => (h11 j e he i x hx).imp fun u hu => ⟨hu.1, hu.2.mono hM hP⟩⟩
  | map kv =>
    obtain ⟨h1, es, clock, h2, h3, h4⟩ := h
    exact ⟨fun o => hn o (h1 o), es, clock, by rw [hb, h2], h3, fun j p hp => (h4 j p hp).imp fun e he => ⟨he.1, he.2.1.mono hM hP, he.2.2.mono hM hP⟩⟩

structure HR (c : Cx) (w0 : World) (base : Nat) (M : Mem) (ρ : Pl) (H : Heap) (w : World) : Prop where
  below : Below base w0 w
  low : base ≤ w.heap.size
  tab : ∀ b o u, c.m0 b o = some u → M b o = some u
  mem : ∀ b o u, M b o = some u → w.cell? ⟨b, o, none⟩ = some u
  fresh : ∀ i p, ρ i = some p → i < H.next
  obj : ∀ i o, H.get i = some o → ∃ b sz tot, ρ i = some (b, sz, tot) ∧ base ≤ b ∧ b < w.heap.size ∧ OR c M ρ w b sz tot o
  dist : ∀ i j o p b s t s' t', H.get i = some o → H.get j = some p → ρ i = some (b, s, t) → ρ j = some (b, s', t') → i = j

/-- What grows from state to state: the ghost memory (on blocks from 'base' on) and the places. -/
structure Grows (base : Nat) (M : Mem) (ρ : Pl) (M' : Mem) (ρ' : Pl) : Prop where
  m : MLe M M'
  p : PLe ρ ρ'
  old : ∀ b o, b < base → M' b o = M b o
theorem Grows.refl (base : Nat) (M : Mem) (ρ : Pl) : Grows base M ρ M ρ := ⟨.refl _, .refl _, fun _ _ _ => rfl⟩
theorem Grows.trans {base : Nat} {M M1 M2 : Mem} {ρ ρ1 ρ2 : Pl} (h : Grows base M ρ M1 ρ1) (k : Grows base M1 ρ1 M2 ρ2) : Grows base M ρ M2 ρ2 :=
  ⟨h.m.trans k.m, h.p.trans k.p, fun b o hb => (k.old b o hb).trans (h.old b o hb)⟩
theorem VR.grow {c : Cx} {base : Nat} {M M' : Mem} {ρ ρ' : Pl} {a : AVal} {v : Value} (h : VR c M ρ a v) (g : Grows base M ρ M' ρ') : VR c M' ρ' a v := h.mono g.m g.p

/-! ### Temporaries -/
def Tm.full : Tm → Nat → Prop
  | .leaf, d => d = 0
  | .node _ l r, d => ∃ e, d = e + 1 ∧ l.full e ∧ r.full e

theorem Tm.full_mk : ∀ d, (Tm.mk d).full d
  | 0 => rfl
  | d + 1 => ⟨d, rfl, Tm.full_mk d, Tm.full_mk d⟩

theorem Tm.full_set (t : Tm) : ∀ (d n : Nat) (v : AVal), t.full d → (t.set n v).full d := by
  induction t with
  | leaf => exact fun d n v h => h
  | node x l r ihl ihr =>
    rintro d n v ⟨e, rfl, hl, hr⟩
    simp only [Tm.set]
    cases Nat.beq n 0 with
    | true => exact ⟨e, rfl, hl, hr⟩
    | false =>
      cases Nat.beq (Nat.mod n 2) 1 with
      | true => exact ⟨e, rfl, ihl e _ v hl, hr⟩
      | false => exact ⟨e, rfl, hl, ihr e _ v hr⟩

theorem Tm.get_set_same (t : Tm) : ∀ (d n : Nat) (v : AVal), t.full d → n + 1 < 2 ^ d → (t.set n v).get n = v := by
  induction t with
  | leaf =>
    intro d n v h hn
    have : d = 0 := h
    subst this
    simp at hn
  | node x l r ihl ihr =>
    rintro d n v ⟨e, rfl, hl, hr⟩ hn
    have hp : 2 ^ (e + 1) = 2 ^ e * 2 := Nat.pow_succ ..
    simp only [Tm.set]
    cases h0 : Nat.beq n 0 with
    | true => simp [Tm.get, h0]
    | false =>
      have hn0 : n ≠ 0 := fun h => by simp [h] at h0
      cases h1 : Nat.beq (Nat.mod n 2) 1 with
      | true =>
        simp only [cond_true, cond_false, Tm.get, h0, h1]
        refine ihl e _ v hl ?_
        show n / 2 + 1 < 2 ^ e
        have : n % 2 = 1 := Nat.eq_of_beq_eq_true h1
        omega
      | false =>
        simp only [cond_false, Tm.get, h0, h1]
        refine ihr e _ v hr ?_
        show n / 2 - 1 + 1 < 2 ^ e
        omega

theorem Tm.get_set_ne (t : Tm) : ∀ (n m : Nat) (v : AVal), n ≠ m → (t.set n v).get m = t.get m := by
  induction t with
  | leaf => exact fun n m v h => rfl
  | node x l r ihl ihr =>
    intro n m v h
    simp only [Tm.set]
    cases hn0 : Nat.beq n 0 with
    | true =>
      have : n = 0 := by simpa using hn0
      subst this
      have hm : Nat.beq m 0 = false := by
        cases hm : Nat.beq m 0 with
        | false => rfl
        | true => exact absurd (by simpa using hm : m = 0).symm h
      simp [Tm.get, hm]
    | false =>
      have hn : n ≠ 0 := fun h => by simp [h] at hn0
      cases hn1 : Nat.beq (Nat.mod n 2) 1 with
      | true =>
        have en : n % 2 = 1 := Nat.eq_of_beq_eq_true hn1
        simp only [cond_true, cond_false, Tm.get]
        cases hm0 : Nat.beq m 0 with
        | true => simp
        | false =>
          have hm : m ≠ 0 := fun h => by simp [h] at hm0
          cases hm1 : Nat.beq (Nat.mod m 2) 1 with
          | true =>
            have em : m % 2 = 1 := Nat.eq_of_beq_eq_true hm1
            simp only [cond_true, cond_false]
            refine ihl _ _ v ?_
            show n / 2 ≠ m / 2
            omega
          | false => simp
      | false =>
        have en : n % 2 ≠ 1 := Nat.ne_of_beq_eq_false hn1
        simp only [cond_false, Tm.get]
        cases hm0 : Nat.beq m 0 with
        | true => simp
        | false =>
          have hm : m ≠ 0 := fun h => by simp [h] at hm0
          cases hm1 : Nat.beq (Nat.mod m 2) 1 with
          | true => simp
          | false =>
            have em : m % 2 ≠ 1 := Nat.ne_of_beq_eq_false hm1
            simp only [cond_false]
            refine ihr _ _ v ?_
            show n / 2 - 1 ≠ m / 2 - 1
            omega

theorem Tm.get_set_or (t : Tm) : ∀ (n : Nat) (v : AVal), (t.set n v).get n = v ∨ (t.set n v).get n = t.get n := by
  induction t with
  | leaf => exact fun n v => .inr rfl
  | node x l r ihl ihr =>
    intro n v
    simp only [Tm.set]
    cases hn0 : Nat.beq n 0 with
    | true => exact .inl (by simp [Tm.get, hn0])
    | false =>
      cases hn1 : Nat.beq (Nat.mod n 2) 1 with
      | true => simp only [cond_true, cond_false, Tm.get, hn0, hn1]; exact ihl _ v
      | false => simp only [cond_false, Tm.get, hn0, hn1]; exact ihr _ v

theorem Tm.get_mk : ∀ d n, (Tm.mk d).get n = undefA
  | 0, n => rfl
  | d + 1, n => by
    simp only [Tm.mk, Tm.get]
    cases Nat.beq n 0 with
    | true => rfl
    | false => cases Nat.beq (Nat.mod n 2) 1 <;> simp [Tm.get_mk d]

/-- Related temporaries. -/
structure TR (c : Cx) (M : Mem) (ρ : Pl) (tm : Tm) (ts : Array Value) : Prop where
  full : ∃ d, tm.full d ∧ ts.size + 1 ≤ 2 ^ d
  at_ : ∀ n, VR c M ρ (tm.get n) (ts.getD n undef)
theorem TR.mono {c : Cx} {M M' : Mem} {ρ ρ' : Pl} {tm : Tm} {ts : Array Value} (h : TR c M ρ tm ts) (hM : MLe M M') (hP : PLe ρ ρ') : TR c M' ρ' tm ts :=
  ⟨h.full, fun n => (h.at_ n).mono hM hP⟩
theorem TR.grow {c : Cx} {base : Nat} {M M' : Mem} {ρ ρ' : Pl} {tm : Tm} {ts : Array Value} (h : TR c M ρ tm ts) (g : Grows base M ρ M' ρ') : TR c M' ρ' tm ts := h.mono g.m g.p

theorem undef_vr (c : Cx) (M : Mem) (ρ : Pl) : VR c M ρ undefA undef := .tup [] #[] rfl (by simp)

theorem TR.put {c : Cx} {M : Mem} {ρ : Pl} {tm : Tm} {a : Act} (h : TR c M ρ tm a.tmps) (dst : Option Nat) (hd : ∀ d, dst = some d → d < a.tmps.size) {v : AVal} {u : Value} (hv : VR c M ρ v u) :
    TR c M ρ (putT tm dst v) (a.put dst u).tmps := by
  cases dst with
  | none => exact h
  | some d =>
    have hd := hd d rfl
    obtain ⟨e, hf, hs⟩ := h.full
    refine ⟨⟨e, tm.full_set e d v hf, by simpa [Act.put] using hs⟩, fun n => ?_⟩
    simp only [putT, Act.put]
    by_cases hn : d = n
    · subst hn
      rw [Tm.get_set_same tm e d v hf (by omega)]
      have : (a.tmps.setIfInBounds d u).getD d undef = u := by simp [hd]
      rw [this]; exact hv
    · rw [Tm.get_set_ne tm d n v hn]
      have : (a.tmps.setIfInBounds d u).getD n undef = a.tmps.getD n undef := by simp [Array.getElem?_setIfInBounds_ne hn]
      rw [this]
      exact h.at_ n

/-- A temporary's own value told in another way. -/
theorem TR.retell {c : Cx} {M : Mem} {ρ : Pl} {tm : Tm} {ts : Array Value} (h : TR c M ρ tm ts) (t : Nat) {v : AVal} (hv : VR c M ρ v (ts.getD t undef)) : TR c M ρ (tm.set t v) ts := by
  obtain ⟨e, hf, hs⟩ := h.full
  refine ⟨⟨e, tm.full_set e t v hf, hs⟩, fun n => ?_⟩
  by_cases hn : t = n
  · subst hn
    rcases tm.get_set_or t v with hq | hq <;> rw [hq]
    · exact hv
    · exact h.at_ t
  · rw [Tm.get_set_ne tm t n v hn]; exact h.at_ n

end Go.Abx
