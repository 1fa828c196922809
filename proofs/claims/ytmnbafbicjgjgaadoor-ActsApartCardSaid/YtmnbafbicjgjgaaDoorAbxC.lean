/- Single operations: what the executor does, Go does (1: values, variables, structs). -/
import Derived.Test.YtmnbafbicjgjgaaDoorAbxH
import Derived.Laws.Build
import Derived.Laws.StructEq
namespace Go.Abx
open Go.RowKit
set_option linter.unusedVariables false
set_option linter.unusedSimpArgs false

/-- What Go's operation came to is told by a value and a heap. -/
def Res (c : Cx) (w0 : World) (base : Nat) (M : Mem) (ρ : Pl) (r : Result Next) (v : AVal) (H' : Heap) : Prop :=
  ∃ u w', (r = .ok (.value u) w' ∨ (r = .ok .skip w' ∧ u = undef)) ∧ ∃ M' ρ', Grows base M ρ M' ρ' ∧ VR c M' ρ' v u ∧ HR c w0 base M' ρ' H' w'

section
variable {P : Program} {c : Cx} {w0 : World} {base : Nat} {M : Mem} {ρ : Pl} {H H' : Heap} {w w' : World} {tm : Tm} {a : Act} {o : Oper} {env : Env} {v : AVal}

theorem Res.val {u : Value} {r : Result Next} (hr : r = .ok (.value u) w) (hv : VR c M ρ v u) (hH : HR c w0 base M ρ H w) : Res c w0 base M ρ r v H :=
  ⟨u, w, .inl hr, M, ρ, .refl _ _ _, hv, hH⟩
theorem Res.val' {u : Value} {r : Result Next} (hr : r = .ok (.value u) w') (hv : VR c M ρ v u) (hH : HR c w0 base M ρ H w') : Res c w0 base M ρ r v H :=
  ⟨u, w', .inl hr, M, ρ, .refl _ _ _, hv, hH⟩
theorem Res.skip {r : Result Next} (hr : r = .ok .skip w') (hH : HR c w0 base M ρ H' w') : Res c w0 base M ρ r undefA H' :=
  ⟨undef, w', .inr ⟨hr, rfl⟩, M, ρ, .refl _ _ _, undef_vr _ _ _, hH⟩

theorem bool_inv {t : Bool} {u : Value} (h : VR c M ρ (.bool t) u) : u = .bool t := by cases h; rfl
theorem int_inv {k : IntKind} {n : Int} {u : Value} (h : VR c M ρ (.int k n) u) : u = .int k n := by cases h; rfl
theorem str_inv {l : List Int} {u : Value} (h : VR c M ρ (.str l) u) : ∃ s, u = .string s ∧ byteInts s = l := by cases h; exact ⟨_, rfl, rfl⟩

theorem vs_inv {es : List AVal} {sz : Nat} {cap : Option Nat} {u : Value} (h : VR c M ρ (.vs es sz cap) u) : ∃ (a : Addr) (cap' : Nat), u = .slice (some a) es.length cap' ∧ es.length ≤ cap' ∧ (∀ k, cap = some k → k = cap') ∧
    (∀ (j : Nat) (e : AVal), es[j]? = some e → e.cells.length = sz ∧ flats e.cells = true) ∧
    (es ≠ [] → a.spot = none ∧ ∀ (j : Nat) (e : AVal), es[j]? = some e → ∀ (i : Nat) (x : AVal), e.cells[i]? = some x → ∃ y, M a.block (a.off + j * sz + i) = some y ∧ VR c M ρ x y) := by
  cases h with
  | vs es sz cap a cap' b o u ha hsome hcap hle hsz hm hv =>
    obtain ⟨a, rfl⟩ := Option.isSome_iff_exists.1 hsome
    refine ⟨a, cap', rfl, hle, hcap, hsz, fun hne => ?_⟩
    have := ha hne
    simp only [Option.some.injEq] at this
    subst this
    exact ⟨rfl, fun j e he i x hx => ⟨u j i, hm j e he i x hx, hv j e he i x hx⟩⟩
theorem hs_inv {id s n : Nat} {lim : Option Nat} {u : Value} (h : VR c M ρ (.hs id s n lim) u) : ∃ b sz tot cap', ρ id = some (b, sz, tot) ∧ u = .slice (some ⟨b, s * sz, none⟩) n cap' ∧ (lim = none → cap' = tot - s) ∧
    (∀ k, lim = some k → k = cap') ∧ n ≤ cap' ∧ s + cap' ≤ tot := by
  cases h with
  | hs s n cap' lim h h0 h1 hn ht => exact ⟨_, _, _, cap', h, rfl, h0, h1, hn, ht⟩
theorem nilsl_inv {u : Value} (h : VR c M ρ .nilsl u) : u = .slice none 0 0 := by cases h; rfl

/-! ### Types -/
theorem zero_inv {t : TypeId} {z : AVal} {sz : Nat} (h : zeroIs P t z sz = true) :
    ∃ i v, P.info? t = some i ∧ i.zero = some v ∧ mVal z v = true ∧ i.size = sz ∧ 0 < sz ∧ z.cells.length = sz ∧ flats z.cells = true := by
  unfold zeroIs at h
  split at h
  · rename_i i hi
    simp only [Bool.and_eq_true, beq_iff_eq, decide_eq_true_eq] at h
    obtain ⟨⟨⟨⟨h1, h2⟩, h3⟩, h4⟩, h5⟩ := h
    split at h1
    · rename_i v hv
      exact ⟨i, v, hi, hv, h1, h2, h3, h4, h5⟩
    · cases h1
  · cases h
theorem sz_inv {t : TypeId} {n : Nat} (h : szIs P t n = true) : ∃ i, P.info? t = some i ∧ i.size = n := by
  unfold szIs at h; split at h
  · rename_i i hi; exact ⟨i, hi, by simpa using h⟩
  · cases h
theorem by_inv {t : TypeId} {n : Nat} (h : byIs P t n = true) : ∃ i, P.info? t = some i ∧ i.bytes = n := by
  unfold byIs at h; split at h
  · rename_i i hi; exact ⟨i, hi, by simpa using h⟩
  · cases h
theorem elem_inv {t : TypeId} {p : TypeId → Bool} (h : elemIs P t p = true) : ∃ e, P.underlying t = some (.slice e) ∧ p e = true := by
  unfold elemIs at h; split at h
  · rename_i e he; exact ⟨e, he, h⟩
  · cases h
theorem field_inv {t : TypeId} {f : Nat} {p : Field → Bool} (h : fieldIs P t f p = true) : ∃ fs x, P.underlying t = some (.struct fs) ∧ fs[f]? = some x ∧ p x = true := by
  unfold fieldIs at h; split at h
  · rename_i fs hfs
    split at h
    · rename_i x hx; exact ⟨fs, x, hfs, hx, h⟩
    · cases h
  · cases h
theorem run_isAgg {t : TypeId} {b : Bool} (h : aggIs P t b = true) (w : World) : (isAgg t).run P w = .ok b w := by
  unfold aggIs at h
  unfold isAgg
  split at h
  · rename_i hu; simp [run_underlying hu, h]
  · rename_i hu; simp [run_underlying hu, h]
  · rename_i d h1 h2 hu
    have hb : b = false := by simpa using h
    subst hb
    rw [Sem.run_bind, run_underlying hu w]
    cases d <;> simp_all
  · cases h
theorem run_typeInfo {t : TypeId} {i : TypeInfo} (h : P.info? t = some i) (w : World) : (typeInfo t).run P w = .ok i w := by simp [typeInfo, h]
theorem run_sizeOf {t : TypeId} {i : TypeInfo} (h : P.info? t = some i) (w : World) : (sizeOf t).run P w = .ok i.size w := by simp [sizeOf, run_typeInfo h]
theorem run_zeroValue {t : TypeId} {i : TypeInfo} {v : Value} (h : P.info? t = some i) (hz : i.zero = some v) (w : World) : (zeroValue t).run P w = .ok v w := by simp [zeroValue, run_typeInfo h, hz]

theorem bcall_inv {b : Builtin} {l : List Operand} {ts : List TypeId} (h : bcall o = some (b, l, ts)) : o.op = .call { callee := .builtin b, args := l.toArray, argTypes := ts.toArray } := by
  unfold bcall at h
  split at h
  · rename_i cl hop
    split at h
    · rename_i b' hb
      simp only [Option.some.injEq, Prod.mk.injEq] at h
      obtain ⟨rfl, rfl, rfl⟩ := h
      rw [hop]
      obtain ⟨ce, ar, at'⟩ := cl
      simp only at hb
      subst hb
      simp
    · cases h
  · cases h
theorem fcall_inv {f : Operand} {l : List Operand} (h : fcall o = some (f, l)) : ∃ ts, o.op = .call { callee := .value f, args := l.toArray, argTypes := ts } := by
  unfold fcall at h
  split at h
  · rename_i cl hop
    split at h
    · rename_i b' hb
      simp only [Option.some.injEq, Prod.mk.injEq] at h
      obtain ⟨rfl, rfl⟩ := h
      obtain ⟨ce, ar, at'⟩ := cl
      simp only at hb
      subst hb
      exact ⟨at', by rw [hop]⟩
    · cases h
  · cases h

/-! ### New objects -/
theorem OR_new {es : List AVal} {sz tot : Nat} {cap : Option Nat} {cs : Array Value} {E : TypeId} {fz : Nat × Nat} {ρ' : Pl} (hH : HR c w0 base M ρ H w) (hsz : 0 < sz) (hle : es.length ≤ tot)
    (hcap : ∀ k, cap = some k → k = tot) (hcs : cs.size = tot * sz) (hfz : fz.1 = fz.2 ∨ tot * sz ≤ fz.1)
    (hels : ∀ (j : Nat) (e : AVal), es[j]? = some e → e.cells.length = sz ∧ flats e.cells = true)
    (hv : ∀ (j : Nat) (e : AVal), es[j]? = some e → ∀ (i : Nat) (x : AVal), e.cells[i]? = some x → ∃ u, cs[j * sz + i]? = some u ∧ VR c M ρ' x u) :
    OR c M ρ' (w.alloc (.cells cs E fz)) w.heap.size sz tot (.arr es sz cap 0) :=
  ⟨rfl, hsz, hle, Nat.zero_le _, hcap, fun o _ => hH.mem_none (Nat.le_refl _) o, cs, E, fz, heap_alloc_new w _, hcs, hfz, hels, hv⟩

theorem OR_one {v : AVal} {u : Value} {sz : Nat} {E : TypeId} {ρ' : Pl} (hH : HR c w0 base M ρ H w) (hsz : 0 < sz) (hl : v.cells.length = sz) (hf : flats v.cells = true) (hv : VR c M ρ' v u) :
    OR c M ρ' (w.alloc (.cells u.cells E)) w.heap.size sz 1 (.arr [v] sz (some 1) 0) := by
  obtain ⟨h1, h2⟩ := hv.cells hf
  refine OR_new hH hsz (by simp) (fun k hk => by simpa using hk.symm) (by rw [h1, hl, Nat.one_mul]) (.inl rfl) (fun j e he => ?_) (fun j e he i x hx => ?_)
  · cases j with
    | zero => simp at he; subst he; exact ⟨hl, hf⟩
    | succ j => simp at he
  · cases j with
    | zero =>
      simp at he; subst he
      obtain ⟨u', hu, hv'⟩ := h2 i x hx
      exact ⟨u', by simpa using hu, hv'⟩
    | succ j => simp at he

theorem res_newPtr {v : AVal} {u : Value} {sz : Nat} {E : TypeId} {r : Result Next} (hr : r = .ok (.value (.pointer (some ⟨w.heap.size, 0, none⟩))) (w.alloc (.cells u.cells E)))
    (hH : HR c w0 base M ρ H w) (hsz : 0 < sz) (hl : v.cells.length = sz) (hf : flats v.cells = true) (hv : VR c M ρ v u) :
    Res c w0 base M ρ r (.ptr H.next 0 0) (H.new (.arr [v] sz (some 1) 0)) := by
  have hg := hH.lay_grows (w.heap.size, sz, 1)
  refine ⟨_, _, .inl hr, M, _, hg, ?_, hH.new _ _ sz 1 (OR_one hH hsz hl hf (hv.grow hg))⟩
  have := VR.ptr (c := c) (M := M) (ρ := plNew ρ H.next (w.heap.size, sz, 1)) (id := H.next) (b := w.heap.size) (sz := sz) (tot := 1) 0 0 (by simp [plNew])
  simpa using this

/-! ### Copies, choices, variables -/
theorem op_mv {x : Opd} (hm : mOp P c o (.mv x) = true) (hT : TR c M ρ tm a.tmps) (hH : HR c w0 base M ρ H w) :
    Res c w0 base M ρ ((execOp a.eval o).run P w) (ev tm x) H := by
  cases hop : o.op <;> simp only [mOp, hop, Bool.false_eq_true] at hm
  · exact .val (by simp [execOp, hop]) (ev_vr hT hm) hH
  · exact .val (by simp [execOp, hop]) (ev_vr hT hm) hH

theorem op_pick {p x y : Opd} {t : Bool} (hm : mOp P c o (.pick p x y) = true) (hp : ev tm p = .bool t) (hT : TR c M ρ tm a.tmps) (hH : HR c w0 base M ρ H w) :
    Res c w0 base M ρ ((execOp a.eval o).run P w) (if t then ev tm x else ev tm y) H := by
  cases hop : o.op <;> simp only [mOp, hop, Bool.false_eq_true, Bool.and_eq_true] at hm
  rename_i p' x' y'
  have e := bool_inv (hp ▸ ev_vr hT hm.1.1)
  refine .val (u := if t then a.eval x' else a.eval y') (by simp [execOp, hop, e, asBool]) ?_ hH
  cases t
  · exact ev_vr hT hm.2
  · exact ev_vr hT hm.1.2

theorem op_alloc {z : AVal} {sz : Nat} (hm : mOp P c o (.alloc z sz) = true) (hH : HR c w0 base M ρ H w) :
    Res c w0 base M ρ ((execOp a.eval o).run P w) (.ptr H.next 0 0) (H.new (.arr [z] sz (some 1) 0)) := by
  cases hop : o.op <;> simp only [mOp, hop, Bool.false_eq_true] at hm
  rename_i t
  obtain ⟨i, u, h1, h2, h3, h4, h5, h6, h7⟩ := zero_inv hm
  refine res_newPtr (u := u) (E := t) ?_ hH h5 h6 h7 (mVal_vr c M ρ z u h3)
  simp [execOp, hop, Instr.alloc, run_zeroValue h1 h2, newVar, newRow]

theorem op_box {x : Opd} {sz : Nat} (hm : mOp P c o (.box sz x) = true) (hl : (ev tm x).cells.length = sz) (hf : flats (ev tm x).cells = true) (hT : TR c M ρ tm a.tmps) (hH : HR c w0 base M ρ H w) :
    Res c w0 base M ρ ((execOp a.eval o).run P w) (.ptr H.next 0 0) (H.new (.arr [ev tm x] sz (some 1) 0)) := by
  cases hop : o.op <;> simp only [mOp, hop, Bool.false_eq_true, Bool.and_eq_true, decide_eq_true_eq] at hm
  rename_i t x'
  refine res_newPtr (u := a.eval x') (E := t) ?_ hH hm.1.2 hl hf (ev_vr hT hm.2)
  simp [execOp, hop, Instr.box, newVar, newRow]

/-! ### Loads and stores -/
theorem run_loadCells_at (w : World) (a : Addr) (vs : List Value) (h : ∀ j u, vs[j]? = some u → w.cell? (a.add j) = some u) : (loadCells a vs.length).run P w = .ok vs.toArray w :=
  run_loadCells_list w a vs h

theorem addr_add (b o j : Nat) : (⟨b, o, none⟩ : Addr).add j = ⟨b, o + j, none⟩ := by
  unfold Addr.add; split <;> simp_all

/-- Reading a variable of a row. -/
theorem run_loadVar {t : TypeId} {agg : Bool} {n : Nat} (hagg : aggIs P t agg = true) (hn : szIs P t n = true) (h1 : agg = true ∨ n = 1) (w : World) (b o : Nat) (us : List Value)
    (hl : us.length = n) (hu : ∀ j u, us[j]? = some u → w.cell? ⟨b, o + j, none⟩ = some u) :
    (loadVar t ⟨b, o, none⟩).run P w = .ok (if agg then .agg us.toArray else us.getD 0 undef) w := by
  obtain ⟨i, hi, hs⟩ := sz_inv hn
  have hl' : (loadCells ⟨b, o, none⟩ n).run P w = .ok us.toArray w := by
    rw [← hl]; exact run_loadCells_at w _ us fun j u h => by rw [addr_add]; exact hu j u h
  cases agg with
  | true => simp [loadVar, run_isAgg hagg, run_sizeOf hi, hs, hl']
  | false =>
    have : n = 1 := by simpa using h1
    subst this
    obtain ⟨u, rfl⟩ : ∃ u, us = [u] := by
      match us, hl with
      | [u], _ => exact ⟨u, rfl⟩
    have := hu 0 u rfl
    simp [loadVar, run_isAgg hagg, run_load] at *
    simp [this]

/-- A part of related cells. -/
theorem VR.part {cs : List AVal} {k n : Nat} (agg : Bool) (hf : flats cs = true) (h1 : agg = true ∨ n = 1) {us : List Value} (hn : us.length = n)
    (hv : ∀ (j : Nat) (x : AVal) (u : Value), cs[k + j]? = some x → us[j]? = some u → VR c M ρ x u)
    (h : takeA agg n cs k = some v) : VR c M ρ v (if agg then .agg us.toArray else us.getD 0 undef) := by
  unfold takeA at h
  cases agg with
  | true =>
    simp only [if_true] at h ⊢
    split at h
    · rename_i hle
      cases h
      refine .agg _ _ (flats_of fun x hx => List.all_eq_true.1 hf x (List.mem_of_mem_drop (List.mem_of_mem_take hx))) (by simp [hn]; omega) (fun j x u hx hu => ?_)
      rw [List.getElem?_take] at hx
      split at hx
      · rw [List.getElem?_drop] at hx
        exact hv j x u hx (by simpa using hu)
      · cases hx
    · cases h
  | false =>
    simp only [Bool.false_eq_true, if_false] at h ⊢
    have : n = 1 := by simpa using h1
    subst this
    match us, hn with
    | [u], _ => exact hv 0 v u (by simpa using h) rfl

theorem op_load {agg : Bool} {n : Nat} {x : Opd} (hm : mOp P c o (.load agg n x) = true) (hx : loadA agg n (ev tm x) H = some v) (hT : TR c M ρ tm a.tmps) (hH : HR c w0 base M ρ H w) :
    Res c w0 base M ρ ((execOp a.eval o).run P w) v H := by
  cases hop : o.op <;> simp only [mOp, hop, Bool.false_eq_true, Bool.and_eq_true, Bool.or_eq_true, beq_iff_eq] at hm
  rename_i t x'
  obtain ⟨⟨⟨h1, h2⟩, h3⟩, h4⟩ := hm
  have hv := ev_vr hT h3
  -- the cells, and what they hold
  have key : ∀ (b k : Nat) (cs : List AVal) (k0 : Nat), a.eval x' = .pointer (some ⟨b, k + k0, none⟩) → flats cs = true →
      (∀ (j : Nat) (y : AVal), cs[j]? = some y → ∃ u, w.cell? ⟨b, k + j, none⟩ = some u ∧ VR c M ρ y u) →
      takeA agg n cs k0 = some v → Res c w0 base M ρ ((execOp a.eval o).run P w) v H := by
    intro b k cs k0 he hf hc hp
    have hlen : k0 + n ≤ cs.length := by
      unfold takeA at hp
      cases agg with
      | true =>
        simp only [if_true] at hp
        split at hp
        · assumption
        · cases hp
      | false =>
        have : n = 1 := by simpa using h4
        subst this
        simp only [Bool.false_eq_true, if_false] at hp
        have := (List.getElem?_eq_some_iff.1 hp).1
        omega
    let us : List Value := (List.range n).map fun j => (w.cell? ⟨b, k + (k0 + j), none⟩).getD undef
    have hus : ∀ j u, us[j]? = some u → w.cell? ⟨b, k + k0 + j, none⟩ = some u ∧ ∀ y, cs[k0 + j]? = some y → VR c M ρ y u := by
      intro j u hu
      have hj : j < n := by have := (List.getElem?_eq_some_iff.1 hu).1; simpa [us] using this
      have hu' : (w.cell? ⟨b, k + (k0 + j), none⟩).getD undef = u := by simpa [us, hj] using hu
      obtain ⟨u1, h5, h6⟩ := hc (k0 + j) cs[k0 + j] (by simp)
      rw [h5] at hu'
      simp only [Option.getD_some] at hu'
      subst hu'
      rw [Nat.add_assoc]
      refine ⟨h5, fun y hy => ?_⟩
      have : cs[k0 + j] = y := by simpa [show k0 + j < cs.length by omega] using hy
      exact this ▸ h6
    refine .val (u := if agg then .agg us.toArray else us.getD 0 undef) ?_ (VR.part agg hf h4 (by simp [us]) (fun j y u hy hu => (hus j u hu).2 y hy) hp) hH
    simp [execOp, hop, he, Instr.loadAt, Instr.sureAddr, run_loadVar h1 h2 h4 w b (k + k0) us (by simp [us]) (fun j u hu => (hus j u hu).1)]
  unfold loadA at hx
  cases hev : ev tm x <;> rw [hev] at hx hv <;> simp only [reduceCtorEq] at hx
  case pimm cs k0 =>
    cases he : a.eval x' <;> rw [he] at hv <;> cases hv
    rename_i b k u hf hmm hvv
    exact key b k cs k0 he hf (fun j y hy => ⟨u j, hH.mem _ _ _ (hmm j y hy), hvv j y hy⟩) hx
  case ptr id i k0 =>
    split at hx
    · rename_i es sz cap fr hget
      split at hx
      · rename_i e hei
        obtain ⟨b, sz', tot, hp, hb, hb2, hO⟩ := hH.obj id _ hget
        obtain ⟨rfl, hsz, hle, hfr, hcap, hMn, cs, E, fz, hw, hcs, hfz, hels, hvs⟩ := hO
        cases he : a.eval x' <;> rw [he] at hv <;> cases hv
        rename_i b' sz'' tot' hp'
        rw [hp] at hp'
        simp only [Option.some.injEq, Prod.mk.injEq] at hp'
        obtain ⟨rfl, rfl, rfl⟩ := hp'
        refine key b (i * sz) e.cells k0 he (hels i e hei).2 (fun j y hy => ?_) hx
        obtain ⟨u, hu, hvu⟩ := hvs i e hei j y hy
        exact ⟨u, by simp [World.cell?, hw, hu], hvu⟩
      · cases hx
    · cases hx
end
end Go.Abx
