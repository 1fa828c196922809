/- Single operations (2: stores, structs, arithmetic, functions, interfaces, addresses). -/
import Derived.Test.YtmnbafbicjgjgaaDoorAbxC
namespace Go.Abx
open Go.RowKit
set_option linter.unusedVariables false
set_option linter.unusedSimpArgs false

section
variable {P : Program} {c : Cx} {w0 : World} {base : Nat} {M : Mem} {ρ : Pl} {H H' : Heap} {w w' : World} {tm : Tm} {a : Act} {o : Oper} {env : Env} {v : AVal}

theorem heap_setCell (w : World) (b q : Nat) (u : Value) {cs : Array Value} {E : TypeId} {fz : Nat × Nat} (h : w.heap[b]? = some (.cells cs E fz)) :
    (w.setCell ⟨b, q, none⟩ u).heap[b]? = some (.cells (cs.setIfInBounds q u) E fz) := by
  simp [World.setCell, Array.getElem?_modify, h]
theorem heap_setCell_ne (w : World) (b q k : Nat) (u : Value) (hk : k ≠ b) : (w.setCell ⟨b, q, none⟩ u).heap[k]? = w.heap[k]? := by
  simp only [World.setCell, Array.getElem?_modify]
  rw [if_neg (fun e => hk e.symm)]

/-- What a row of stores leaves. -/
structure Wrote (w w' : World) (b : Nat) (E : TypeId) (fz : Nat × Nat) (cs cs' : Array Value) : Prop where
  heap : w'.heap[b]? = some (.cells cs' E fz)
  size : w'.heap.size = w.heap.size
  others : ∀ k, k ≠ b → w'.heap[k]? = w.heap[k]?
  os : w'.os = w.os
  tape : w'.tape = w.tape
  output : w'.output = w.output
  len : cs'.size = cs.size

theorem Wrote.below {b : Nat} {E : TypeId} {fz : Nat × Nat} {cs cs' : Array Value} (h : Wrote w w' b E fz cs cs') (hB : Below base w0 w) (hb : base ≤ b) : Below base w0 w' :=
  hB.trans ⟨h.os, h.tape, h.output, by rw [h.size]; exact Nat.le_refl _, fun k hk => h.others k (by omega)⟩

theorem run_storeCells (P : Program) (b o : Nat) (E : TypeId) (fz : Nat × Nat) : ∀ (us : List Value) (i : Nat) (w : World) (cs : Array Value), w.heap[b]? = some (.cells cs E fz) → o + i + us.length ≤ cs.size →
    (∀ q, q < cs.size → (decide (fz.1 ≤ q) && decide (q < fz.2)) = false) → (∀ u ∈ us, u.oneCell' = true) →
    ∃ w' cs', (storeCells ⟨b, o, none⟩ us i).run P w = .ok () w' ∧ Wrote w w' b E fz cs cs' ∧ ∀ q, cs'[q]? = if o + i ≤ q ∧ q < o + i + us.length then us[q - (o + i)]? else cs[q]?
  | [], i, w, cs, hw, hl, hf, h1 => ⟨w, cs, rfl, ⟨hw, rfl, fun _ _ => rfl, rfl, rfl, rfl, rfl⟩, fun q => by rw [if_neg (by simp only [List.length_nil]; omega)]⟩
  | u :: us, i, w, cs, hw, hl, hf, h1 => by
    simp only [List.length_cons] at hl
    have hq : o + i < cs.size := by omega
    have hc : w.cell? ⟨b, o + i, none⟩ = some cs[o + i] := by simp [World.cell?, hw, hq]
    have hfz : w.frozen? ⟨b, o + i, none⟩ = false := by simpa [World.frozen?, hw] using hf (o + i) hq
    obtain ⟨w1, cs1, hr, hW, hcs⟩ := run_storeCells P b o E fz us (i + 1) (w.setCell ⟨b, o + i, none⟩ u) (cs.setIfInBounds (o + i) u) (heap_setCell w b (o + i) u hw) (by simp; omega) (by simpa using hf) (fun x hx => h1 x (List.mem_cons_of_mem _ hx))
    refine ⟨w1, cs1, ?_, ⟨hW.heap, by rw [hW.size]; simp, fun k hk => by rw [hW.others k hk, heap_setCell_ne w b (o + i) k u hk], hW.os, hW.tape, hW.output, by rw [hW.len]; simp⟩, fun q => ?_⟩
    · simp only [storeCells, Sem.run_bind, addr_add, run_store P w _ u _ (h1 u (List.mem_cons_self ..)), hc, hfz]
      simpa using hr
    · rw [hcs q]
      by_cases e : q = o + i
      · subst e
        rw [if_neg (by omega), if_pos (by simp)]
        simp [hq]
      · rw [Array.getElem?_setIfInBounds_ne (Ne.symm e)]
        by_cases h : o + i ≤ q ∧ q < o + i + (us.length + 1)
        · rw [if_pos (by omega), if_pos (by simpa using h)]
          obtain ⟨d, rfl⟩ : ∃ d, q = o + i + (d + 1) := ⟨q - (o + i) - 1, by omega⟩
          rw [show o + i + (d + 1) - (o + (i + 1)) = d by omega, show o + i + (d + 1) - (o + i) = d + 1 by omega]
          rfl
        · rw [if_neg (by omega), if_neg (by simpa using h)]

theorem putCells_get (old new : List AVal) (k j : Nat) (h : k + new.length ≤ old.length) : (putCells old k new)[j]? = if k ≤ j ∧ j < k + new.length then new[j - k]? else old[j]? := by
  unfold putCells
  by_cases h1 : j < k
  · rw [if_neg (by omega), List.append_assoc, List.getElem?_append_left (by simp; omega), List.getElem?_take, if_pos h1]
  · by_cases h2 : j < k + new.length
    · rw [if_pos (by omega), List.append_assoc, List.getElem?_append_right (by simp; omega), List.getElem?_append_left (by simp; omega)]
      congr 1
      simp; omega
    · rw [if_neg (by omega), List.append_assoc, List.getElem?_append_right (by simp; omega), List.getElem?_append_right (by simp; omega), List.getElem?_drop]
      congr 1
      simp; omega
theorem putCells_len (old new : List AVal) (k : Nat) (h : k + new.length ≤ old.length) : (putCells old k new).length = old.length := by simp [putCells]; omega
theorem putCells_flats {old new : List AVal} {k : Nat} (h1 : flats old = true) (h2 : flats new = true) : flats (putCells old k new) = true := by
  refine flats_of fun x hx => ?_
  simp only [putCells, List.mem_append] at hx
  rcases hx with (hx | hx) | hx
  · exact List.all_eq_true.1 h1 x (List.mem_of_mem_take hx)
  · exact List.all_eq_true.1 h2 x hx
  · exact List.all_eq_true.1 h1 x (List.mem_of_mem_drop hx)

/-- The element behind a store, cell by cell. -/
theorem putElem_spec {e e' : AVal} {k : Nat} {new : List AVal} (h : putElem e k new = some e') (hf : flats e.cells = true) (hn : flats new = true) :
    k + new.length ≤ e.cells.length ∧ e'.cells = putCells e.cells k new ∧ flats e'.cells = true := by
  unfold putElem at h
  cases e with
  | agg cs =>
    simp only at h
    split at h
    · rename_i hle; cases h; exact ⟨hle, rfl, putCells_flats hf hn⟩
    · cases h
  | _ =>
    simp only at h
    split at h
    · split at h
      · rename_i u hu
        cases h
        rw [flat_cells hu]
        simp [AVal.cells, putCells, flats, hu]
      · cases h
    · cases h

theorem op_store {n : Nat} {p x : Opd} (hm : mOp P c o (.store n p x) = true) (hx : storeA n (ev tm p) (ev tm x) H = some H') (hT : TR c M ρ tm a.tmps) (hH : HR c w0 base M ρ H w) :
    Res c w0 base M ρ ((execOp a.eval o).run P w) undefA H' := by
  cases hop : o.op <;> simp only [mOp, hop, Bool.false_eq_true, Bool.and_eq_true] at hm
  rename_i t p' x'
  obtain ⟨⟨h1, h2⟩, h3⟩ := hm
  have hvp := ev_vr hT h2
  have hvx := ev_vr hT h3
  unfold storeA at hx
  split at hx
  · rename_i id i k hev
    split at hx
    · rename_i es sz cap fr hget
      split at hx
      · rename_i hcond
        obtain ⟨hfr, hlen, hfl⟩ := hcond
        split at hx
        · rename_i e hei
          split at hx
          · rename_i e' hput
            cases hx
            obtain ⟨b, sz', tot, hp, hb, hb2, hO⟩ := hH.obj id _ hget
            obtain ⟨rfl, hsz, hle, hfr2, hcap, hMn, cs, E, fz, hw, hcs, hfz, hels, hvs⟩ := hO
            rw [hev] at hvp
            cases he : a.eval p' <;> rw [he] at hvp <;> cases hvp
            rename_i b' sz'' tot' hp'
            rw [hp] at hp'
            simp only [Option.some.injEq, Prod.mk.injEq] at hp'
            obtain ⟨rfl, rfl, rfl⟩ := hp'
            obtain ⟨hs1, hs2⟩ := hvx.cells hfl
            obtain ⟨g1, g2, g3⟩ := putElem_spec hput (hels i e hei).2 hfl
            have hi : i < es.length := (List.getElem?_eq_some_iff.1 hei).1
            have hil : (i + 1) * sz ≤ tot * sz := Nat.mul_le_mul_right _ (by omega)
            rw [Nat.succ_mul] at hil
            have hcl := (hels i e hei).1
            obtain ⟨info, hinfo, hisz⟩ := sz_inv h1
            have hone : ∀ u ∈ (a.eval x').cells.toList, u.oneCell' = true := by
              intro u hu
              obtain ⟨j, hj⟩ := List.mem_iff_getElem?.1 hu
              have hjl : j < (ev tm x).cells.length := by rw [← hs1]; have := (List.getElem?_eq_some_iff.1 hj).1; simpa using this
              obtain ⟨u', hu', hv'⟩ := hs2 j _ (List.getElem?_eq_getElem hjl)
              have : u' = u := by
                have : (a.eval x').cells[j]? = some u := by simpa using hj
                rw [hu'] at this; simpa using this
              exact this ▸ (hv'.one (flats_at hfl (List.getElem?_eq_getElem hjl))).1
            obtain ⟨w', cs', hr, hW, hcs'⟩ := run_storeCells P b (i * sz + k) E fz (a.eval x').cells.toList 0 w cs hw
              (by rw [Array.length_toList, hs1, hcs]; omega) (by rw [hcs]; exact fz_ok hfz) hone
            simp only [Nat.add_zero, Array.length_toList, hs1] at hcs'
            refine Res.skip (w' := w') ?_ (hH.turn hget hp _ hb (hW.below hH.below hb) hW.size hW.others ?_ ?_)
            · simp [execOp, hop, he, Instr.storeAt, Instr.sureAddr, storeVar, run_sizeOf hinfo, hisz, hs1, hlen, hr]
            · refine ⟨rfl, hsz, by simpa using hle, by simpa using hfr2, hcap, hMn, cs', E, fz, hW.heap, by rw [hW.len, hcs], hfz, fun j e1 hj => ?_, fun j e1 hj q y hy => ?_⟩
              · by_cases hji : i = j
                · subst hji
                  rw [List.getElem?_set_self hi] at hj
                  cases hj
                  rw [g2, putCells_len _ _ _ g1]
                  exact ⟨hcl, by rw [← g2]; exact g3⟩
                · rw [List.getElem?_set_ne hji] at hj
                  exact hels j e1 hj
              · rw [hcs']
                by_cases hji : i = j
                · subst hji
                  rw [List.getElem?_set_self hi] at hj
                  cases hj
                  rw [g2, putCells_get _ _ _ _ g1] at hy
                  by_cases hin : k ≤ q ∧ q < k + (ev tm x).cells.length
                  · rw [if_pos hin] at hy
                    rw [if_pos (by omega)]
                    obtain ⟨u, hu, hv⟩ := hs2 _ _ hy
                    exact ⟨u, by rw [show i * sz + q - (i * sz + k) = q - k by omega]; simpa using hu, hv⟩
                  · rw [if_neg hin] at hy
                    rw [if_neg (by omega)]
                    exact hvs i e hei q y hy
                · rw [List.getElem?_set_ne hji] at hj
                  have hq : q < sz := by rw [← (hels j e1 hj).1]; exact (List.getElem?_eq_some_iff.1 hy).1
                  rw [if_neg ?_]
                  · exact hvs j e1 hj q y hy
                  · intro hin
                    rcases Nat.lt_or_gt_of_ne hji with hlt | hlt
                    · have : (i + 1) * sz ≤ j * sz := Nat.mul_le_mul_right _ hlt
                      rw [Nat.succ_mul] at this; omega
                    · have : (j + 1) * sz ≤ i * sz := Nat.mul_le_mul_right _ hlt
                      rw [Nat.succ_mul] at this; omega
            · intro q u hu
              have hq : q < fr * sz := by
                rcases Nat.lt_or_ge q (fr * sz) with h | h
                · exact h
                · rw [hMn q h] at hu; cases hu
              have hlt : fr * sz ≤ i * sz := Nat.mul_le_mul_right _ hfr
              have hold := hH.mem b q u hu
              have hcell : (w'.cell? ⟨b, q, none⟩) = cs'[q]? := by simp [World.cell?, hW.heap]
              have hcell0 : (w.cell? ⟨b, q, none⟩) = cs[q]? := by simp [World.cell?, hw]
              rw [hcell0] at hold
              rw [hcell, hcs', if_neg (by omega)]
              exact hold
          · cases hx
        · cases hx
      · cases hx
    · cases hx
  · cases hx

/-! ### Structs -/
/-- A row of cells of a struct that is built: the executor's beside Go's. -/
def CR (c : Cx) (M : Mem) (ρ : Pl) (cs : List AVal) (arr : Array Value) : Prop :=
  flats cs = true ∧ cs.length = arr.size ∧ ∀ (j : Nat) (x : AVal) (u : Value), cs[j]? = some x → arr[j]? = some u → VR c M ρ x u

theorem foldl_set (off : Nat) : ∀ (us : List Value) (i : Nat) (arr : Array Value), off + i + us.length ≤ arr.size →
    ((us.zipIdx i).foldl (fun cs (x : Value × Nat) => cs.setIfInBounds (off + x.2) x.1) arr).size = arr.size ∧
    ∀ q, ((us.zipIdx i).foldl (fun cs (x : Value × Nat) => cs.setIfInBounds (off + x.2) x.1) arr)[q]? = if off + i ≤ q ∧ q < off + i + us.length then us[q - (off + i)]? else arr[q]?
  | [], i, arr, h => ⟨rfl, fun q => by rw [if_neg (by simp only [List.length_nil]; omega)]; rfl⟩
  | u :: us, i, arr, h => by
    simp only [List.length_cons] at h
    obtain ⟨h1, h2⟩ := foldl_set off us (i + 1) (arr.setIfInBounds (off + i) u) (by simp; omega)
    simp only [List.zipIdx_cons, List.foldl_cons]
    refine ⟨by rw [h1]; simp, fun q => ?_⟩
    rw [h2 q]
    by_cases e : q = off + i
    · subst e
      rw [if_neg (by omega), if_pos (by simp)]
      simp [show off + i < arr.size by omega]
    · rw [Array.getElem?_setIfInBounds_ne (Ne.symm e)]
      by_cases hin : off + i ≤ q ∧ q < off + i + (us.length + 1)
      · rw [if_pos (by omega), if_pos (by simpa using hin)]
        obtain ⟨d, rfl⟩ : ∃ d, q = off + i + (d + 1) := ⟨q - (off + i) - 1, by omega⟩
        rw [show off + i + (d + 1) - (off + (i + 1)) = d by omega, show off + i + (d + 1) - (off + i) = d + 1 by omega]
        rfl
      · rw [if_neg (by omega), if_neg (by simpa using hin)]

theorem CR.put {cs : List AVal} {arr : Array Value} (h : CR c M ρ cs arr) {x : AVal} {u : Value} (hx : VR c M ρ x u) (hf : flats x.cells = true) (off : Nat) (hl : off + x.cells.length ≤ cs.length) :
    CR c M ρ (putCells cs off x.cells) (u.cells.zipIdx.foldl (fun cs (x : Value × Nat) => cs.setIfInBounds (off + x.2) x.1) arr) := by
  obtain ⟨h1, h2, h3⟩ := h
  obtain ⟨g1, g2⟩ := hx.cells hf
  have e : u.cells.zipIdx.foldl (fun cs (x : Value × Nat) => cs.setIfInBounds (off + x.2) x.1) arr = (u.cells.toList.zipIdx 0).foldl (fun cs (x : Value × Nat) => cs.setIfInBounds (off + x.2) x.1) arr := by
    rw [← Array.foldl_toList, Array.toList_zipIdx]
  obtain ⟨f1, f2⟩ := foldl_set off u.cells.toList 0 arr (by simp [g1]; omega)
  rw [e]
  refine ⟨putCells_flats h1 hf, by rw [putCells_len _ _ _ hl, f1, h2], fun j y z hy hz => ?_⟩
  rw [f2 j] at hz
  rw [putCells_get _ _ _ _ hl] at hy
  simp only [Nat.add_zero, Array.length_toList, g1] at hz
  by_cases hin : off ≤ j ∧ j < off + x.cells.length
  · rw [if_pos hin] at hy hz
    obtain ⟨u', hu', hv'⟩ := g2 _ _ hy
    have : u' = z := by
      have hz' : u.cells[j - off]? = some z := by simpa using hz
      rw [hu'] at hz'; simpa using hz'
    exact this ▸ hv'
  · rw [if_neg hin] at hy hz
    exact h3 j y z hy hz

theorem fill_spec (place : Nat → Option (Nat × Nat)) (pl : Nat → Nat → Nat → Bool) (hpl : ∀ i off n, pl i off n = true → place i = some (off, n)) (hT : TR c M ρ tm a.tmps) :
    ∀ (parts : List (Nat × Operand)) (parts' : List (Nat × Nat × Opd)) (cs cs' : List AVal) (arr : Array Value), mParts c pl parts parts' = true → CR c M ρ cs arr →
      fillA cs (parts'.map fun p => (p.1, p.2.1, ev tm p.2.2)) = some cs' → ∃ arr', Instr.fill place arr (parts.map fun p => (p.1, a.eval p.2)) = some arr' ∧ CR c M ρ cs' arr' ∧ cs'.length = cs.length
  | [], parts', cs, cs', arr, hm, hC, hf => by
    cases parts' with
    | nil => simp [fillA] at hf; subst hf; exact ⟨arr, rfl, hC, rfl⟩
    | cons p r => simp [mParts] at hm
  | (i, x) :: r, parts', cs, cs', arr, hm, hC, hf => by
    cases parts' with
    | nil => simp [mParts] at hm
    | cons p r' =>
      obtain ⟨off, n, y⟩ := p
      simp only [mParts, Bool.and_eq_true] at hm
      obtain ⟨⟨h1, h2⟩, h3⟩ := hm
      simp only [List.map_cons, fillA] at hf
      split at hf
      · cases hf
      · rename_i hcond
        have hc1 : (ev tm y).cells.length = n := by
          rcases Decidable.em ((ev tm y).cells.length = n) with h | h
          · exact h
          · exact absurd (.inl h) hcond
        have hc2 : off + n ≤ cs.length := by
          rcases Nat.lt_or_ge cs.length (off + n) with h | h
          · exact absurd (.inr (.inl h)) hcond
          · exact h
        have hc3 : flats (ev tm y).cells = true := by
          cases hq : flats (ev tm y).cells with
          | true => rfl
          | false => exact absurd (.inr (.inr hq)) hcond
        have hv := ev_vr hT h2
        have hC' := hC.put hv hc3 off (by rw [hc1]; exact hc2)
        obtain ⟨arr', e1, e2, e3⟩ := fill_spec place pl hpl hT r r' _ cs' _ h3 hC' hf
        refine ⟨arr', ?_, e2, by rw [e3, putCells_len _ _ _ (by rw [hc1]; exact hc2)]⟩
        have hs := (hv.cells hc3).1
        simp only [List.map_cons, Instr.fill, hpl i off n h1]
        rw [if_neg]
        · exact e1
        · rw [hs, hc1, ← hC.2.1]; simp; omega

theorem places_spec {fs : Array Field} (h : (fs.all fun f => (P.info? f.type).isSome) = true) (w : World) :
    (fs.mapM fun f => (Prod.mk f.offset <$> sizeOf f.type : Sem (Nat × Nat))).run P w = .ok (fs.map fun f => (f.offset, P.cellsOf f.type)) w := by
  have h' : ∀ f ∈ fs.toList, (P.info? f.type).isSome = true := fun f hf => by
    rw [Array.all_eq_true_iff_forall_mem] at h
    exact h f (by simpa using hf)
  rw [Array.mapM_eq_mapM_toList]
  have key : ∀ l : List Field, (∀ f ∈ l, (P.info? f.type).isSome = true) → (l.mapM fun f => (Prod.mk f.offset <$> sizeOf f.type : Sem (Nat × Nat))).run P w = .ok (l.map fun f => (f.offset, P.cellsOf f.type)) w := by
    intro l hl
    induction l with
    | nil => rfl
    | cons f r ih =>
      obtain ⟨i, hi⟩ := Option.isSome_iff_exists.1 (hl f (List.mem_cons_self ..))
      have := ih fun x hx => hl x (List.mem_cons_of_mem _ hx)
      simp [List.mapM_cons, run_sizeOf hi, this, Program.cellsOf, hi]
  rw [Sem.run_map, key fs.toList h']
  simp only [Result.andThen_ok]
  congr 1
  apply Array.toList_inj.1
  simp

theorem op_build {z : List AVal} {parts : List (Nat × Nat × Opd)} {cs : List AVal} (hm : mOp P c o (.build z parts) = true) (hx : fillA z (parts.map fun p => (p.1, p.2.1, ev tm p.2.2)) = some cs)
    (hT : TR c M ρ tm a.tmps) (hH : HR c w0 base M ρ H w) : Res c w0 base M ρ ((execOp a.eval o).run P w) (.agg cs) H := by
  cases hop : o.op <;> simp only [mOp, hop, Bool.false_eq_true, Bool.and_eq_true] at hm
  rename_i t ps
  obtain ⟨hz, hk⟩ := hm
  obtain ⟨i, u, h1, h2, h3, h4, h5, h6, h7⟩ := zero_inv hz
  have hvz := mVal_vr c M ρ _ u h3
  have hC : CR c M ρ z u.cells := by
    cases hvz with
    | agg cs arr hf hl hv => exact ⟨hf, hl, hv⟩
  have epair : (ps.map fun x => (x.1, a.eval x.2)).toList = ps.toList.map fun p => (p.1, a.eval p.2) := by simp
  split at hk
  · rename_i fs hu
    simp only [Bool.and_eq_true] at hk
    obtain ⟨arr', e1, e2, e3⟩ := fill_spec (fun i => (fs.map fun f => (f.offset, P.cellsOf f.type))[i]?) (fun i off n => match fs[i]? with | some f => f.offset == off && szIs P f.type n | none => false)
      (fun i off n h => by
        split at h
        · rename_i f hf
          simp only [Bool.and_eq_true, beq_iff_eq] at h
          obtain ⟨j, hj, hjs⟩ := sz_inv h.2
          simp [hf, h.1, Program.cellsOf, hj, hjs]
        · cases h) hT ps.toList parts z cs u.cells hk.2 hC hx
    refine .val (u := .agg arr') ?_ (.agg cs arr' e2.1 e2.2.1 e2.2.2) hH
    simp [execOp, hop, Instr.build, run_zeroValue h1 h2, run_underlying hu]
    rw [places_spec hk.1 w (P := P)]
    simp only [Array.getElem?_map] at e1
    simp [e1]
  · rename_i n e hu
    simp only [Bool.and_eq_true] at hk
    obtain ⟨j, hj⟩ := Option.isSome_iff_exists.1 hk.1
    obtain ⟨arr', e1, e2, e3⟩ := fill_spec (fun i => some (i * j.size, j.size)) (fun i off n => szIs P e n && off == i * n)
      (fun i off n h => by
        simp only [Bool.and_eq_true, beq_iff_eq] at h
        obtain ⟨j', hj', hjs⟩ := sz_inv h.1
        rw [hj] at hj'
        cases hj'
        simp [hjs, h.2]) hT ps.toList parts z cs u.cells hk.2 hC hx
    refine .val (u := .agg arr') ?_ (.agg cs arr' e2.1 e2.2.1 e2.2.2) hH
    simp [execOp, hop, Instr.build, run_zeroValue h1 h2, run_underlying hu, run_sizeOf hj, e1]
  · cases hk

/-! ### Functions, interfaces, addresses, parts -/
theorem op_nilCheck {x : Opd} (hm : mOp P c o (.nilCheck x) = true) (hx : (match ev tm x with | .ptr .. => true | .pimm .. => true | .fn .. => true | _ => false) = true) (hT : TR c M ρ tm a.tmps) (hH : HR c w0 base M ρ H w) :
    Res c w0 base M ρ ((execOp a.eval o).run P w) (ev tm x) H := by
  cases hop : o.op <;> simp only [mOp, hop, Bool.false_eq_true] at hm
  rename_i x'
  have hv := ev_vr hT hm
  cases hev : ev tm x <;> rw [hev] at hx hv <;> simp only [Bool.false_eq_true] at hx
  · have hv' := hv
    cases he : a.eval x' <;> rw [he] at hv <;> cases hv
    exact .val (u := a.eval x') (by simp [execOp, hop, he]) hv' hH
  · have hv' := hv
    cases he : a.eval x' <;> rw [he] at hv <;> cases hv
    exact .val (u := a.eval x') (by simp [execOp, hop, he]) hv' hH
  · have hv' := hv
    cases he : a.eval x' <;> rw [he] at hv <;> cases hv
    exact .val (u := a.eval x') (by simp [execOp, hop, he]) hv' hH

theorem op_mkIface {t : Nat} {x : Opd} (hm : mOp P c o (.mkIface t x) = true) (hT : TR c M ρ tm a.tmps) (hH : HR c w0 base M ρ H w) :
    Res c w0 base M ρ ((execOp a.eval o).run P w) (.iface t (ev tm x)) H := by
  cases hop : o.op <;> simp only [mOp, hop, Bool.false_eq_true, Bool.and_eq_true, beq_iff_eq] at hm
  rename_i t' x'
  obtain ⟨⟨h1, h2⟩, h3⟩ := hm
  refine .val (u := .iface t' (a.eval x')) ?_ (.iface h1 (ev_vr hT h3)) hH
  have hc : P.concrete t' = true := by
    unfold Program.concrete
    split at h2 <;> simp_all
  simp [execOp, hop, run_makeInterface w t' (a.eval x') hc]

theorem opds_vr {M : Mem} {ρ : Pl} (hT : TR c M ρ tm a.tmps) : ∀ (l : List Operand) (l' : List Opd), mOpds c l l' = true → l'.length = l.length ∧ ∀ (j : Nat) (x : AVal) (u : Value), (l'.map (ev tm))[j]? = some x → (l.map a.eval)[j]? = some u → VR c M ρ x u
  | [], [], _ => ⟨rfl, by simp⟩
  | [], _ :: _, h => by simp [mOpds] at h
  | _ :: _, [], h => by simp [mOpds] at h
  | x :: r, y :: s, h => by
    simp only [mOpds, Bool.and_eq_true] at h
    obtain ⟨h1, h2⟩ := opds_vr hT r s h.2
    refine ⟨by simp [h1], fun j z u hz hu => ?_⟩
    cases j with
    | zero => simp at hz hu; subst hz; subst hu; exact ev_vr hT h.1
    | succ j => exact h2 j z u (by simpa using hz) (by simpa using hu)

theorem op_mkFunc {g : Nat} {caps : List Opd} (hm : mOp P c o (.mkFunc g caps) = true) (hT : TR c M ρ tm a.tmps) (hH : HR c w0 base M ρ H w) :
    Res c w0 base M ρ ((execOp a.eval o).run P w) (.fn g (caps.map (ev tm))) H := by
  cases hop : o.op <;> simp only [mOp, hop, Bool.false_eq_true] at hm
  rename_i f first cs
  cases f <;> simp only [Bool.false_eq_true, Bool.and_eq_true, beq_iff_eq] at hm
  rename_i f
  obtain ⟨⟨h1, h2⟩, h3⟩ := hm
  obtain ⟨h4, h5⟩ := opds_vr hT cs.toList caps h3
  have h1' : first = #[] := by simpa using h1
  refine .val (u := .func (.func f) #[] (cs.map a.eval)) (by simp [execOp, hop, Instr.makeFunc, h1']) (.fn _ _ h2 (by simpa using h4) (fun j x u hx hu => h5 j x u hx (by simpa using hu))) hH

theorem op_fieldAddr {off : Nat} {x : Opd} (hm : mOp P c o (.fieldAddr off x) = true) (hx : (match ev tm x with | .ptr id i k => some (AVal.ptr id i (k + off)) | .pimm cs k => some (.pimm cs (k + off)) | _ => none) = some v)
    (hT : TR c M ρ tm a.tmps) (hH : HR c w0 base M ρ H w) : Res c w0 base M ρ ((execOp a.eval o).run P w) v H := by
  cases hop : o.op <;> simp only [mOp, hop, Bool.false_eq_true, Bool.and_eq_true] at hm
  rename_i t x' f
  obtain ⟨fs, fd, h1, h2, h3⟩ := field_inv hm.1
  simp only [Bool.and_eq_true, beq_iff_eq] at h3
  obtain ⟨h3, h4⟩ := h3
  split at h4
  case h_2 => cases h4
  rename_i i hi
  have hpos : ¬ i.size = 0 := by simp at h4; omega
  have hv := ev_vr hT hm.2
  cases hev : ev tm x <;> rw [hev] at hx hv <;> simp only [reduceCtorEq, Option.some.injEq] at hx
  · subst hx
    cases he : a.eval x' <;> rw [he] at hv <;> cases hv
    rename_i id j k b sz tot hp
    refine .val (u := .pointer (some ⟨b, j * sz + (k + off), none⟩)) ?_ (.ptr _ _ hp) hH
    simp [execOp, hop, he, Instr.fieldAt, Instr.sureAddr, run_underlying h1, h2, fieldPlace, run_sizeOf hi, hpos, addr_add, h3, Nat.add_assoc]
  · subst hx
    cases he : a.eval x' <;> rw [he] at hv <;> cases hv
    rename_i cs k b q u hf hmm hvv
    refine .val (u := .pointer (some ⟨b, q + (k + off), none⟩)) ?_ (.pimm _ _ _ _ u hf hmm hvv) hH
    simp [execOp, hop, he, Instr.fieldAt, Instr.sureAddr, run_underlying h1, h2, fieldPlace, run_sizeOf hi, hpos, addr_add, h3, Nat.add_assoc]

/-- A part of a struct's or an array's value. -/
theorem run_part {t : TypeId} {agg : Bool} {n : Nat} (hagg : aggIs P t agg = true) (hn : szIs P t n = true) (h1 : agg = true ∨ n = 1) {cs : List AVal} {arr : Array Value} {k : Nat} (hC : CR c M ρ cs arr)
    (h : takeA agg n cs k = some v) (w : World) : ∃ u, (part t arr k).run P w = .ok u w ∧ VR c M ρ v u := by
  obtain ⟨i, hi, hs⟩ := sz_inv hn
  have hlen : k + n ≤ cs.length := by
    unfold takeA at h
    cases agg with
    | true =>
      simp only [if_true] at h
      split at h
      · assumption
      · cases h
    | false =>
      have : n = 1 := by simpa using h1
      subst this
      simp only [Bool.false_eq_true, if_false] at h
      have := (List.getElem?_eq_some_iff.1 h).1
      omega
  have hv := VR.part (us := (arr.extract k (k + n)).toList) agg hC.1 h1 (by have := hC.2.1; simp; omega)
    (fun j x u hx hu => hC.2.2 (k + j) x u hx (by
      have : (arr.extract k (k + n))[j]? = some u := by rw [← Array.getElem?_toList]; exact hu
      rw [Array.getElem?_extract] at this
      split at this
      · exact this
      · cases this)) h
  cases agg with
  | true =>
    simp only [if_true, Array.toArray_toList] at hv
    refine ⟨_, ?_, hv⟩
    simp [part, run_isAgg hagg, run_sizeOf hi, hs]
  | false =>
    have : n = 1 := by simpa using h1
    subst this
    have hk : k < arr.size := by have := hC.2.1; omega
    have e : (arr.extract k (k + 1)).toList.getD 0 undef = arr[k] := by simp [hk]
    simp only [Bool.false_eq_true, if_false] at hv
    rw [e] at hv
    exact ⟨arr[k], by simp [part, run_isAgg hagg, hk], hv⟩

theorem agg_inv {cs : List AVal} {u : Value} (h : VR c M ρ (.agg cs) u) : ∃ arr, u = .agg arr ∧ CR c M ρ cs arr := by
  cases h with
  | agg cs arr hf hl hv => exact ⟨arr, rfl, hf, hl, hv⟩

theorem op_field {off : Nat} {agg : Bool} {n : Nat} {x : Opd} {cs : List AVal} (hm : mOp P c o (.field off agg n x) = true) (hev : ev tm x = .agg cs) (hx : takeA agg n cs off = some v)
    (hT : TR c M ρ tm a.tmps) (hH : HR c w0 base M ρ H w) : Res c w0 base M ρ ((execOp a.eval o).run P w) v H := by
  cases hop : o.op <;> simp only [mOp, hop, Bool.false_eq_true, Bool.and_eq_true] at hm
  rename_i t x' f
  obtain ⟨fs, fd, h1, h2, h3⟩ := field_inv hm.1
  simp only [Bool.and_eq_true, Bool.or_eq_true, beq_iff_eq] at h3
  obtain ⟨⟨⟨h3, h4⟩, h5⟩, h6⟩ := h3
  obtain ⟨arr, he, hC⟩ := agg_inv (hev ▸ ev_vr hT hm.2)
  obtain ⟨u, hu, hv⟩ := run_part (v := v) h5 h4 h6 hC hx w
  refine .val (u := u) ?_ hv hH
  simp [execOp, hop, he, Instr.field, run_underlying h1, h2, asAgg, h3, hu]

theorem tup_inv {cs : List AVal} {u : Value} (h : VR c M ρ (.tup cs) u) : ∃ arr, u = .tuple arr ∧ cs.length = arr.size ∧ ∀ (j : Nat) (x : AVal) (u : Value), cs[j]? = some x → arr[j]? = some u → VR c M ρ x u := by
  cases h with
  | tup cs arr hl hv => exact ⟨arr, rfl, hl, hv⟩

theorem op_extract {x : Opd} {i : Nat} {cs : List AVal} (hm : mOp P c o (.extract x i) = true) (hev : ev tm x = .tup cs) (hx : cs[i]? = some v) (hT : TR c M ρ tm a.tmps) (hH : HR c w0 base M ρ H w) :
    Res c w0 base M ρ ((execOp a.eval o).run P w) v H := by
  cases hop : o.op <;> simp only [mOp, hop, Bool.false_eq_true, Bool.and_eq_true, beq_iff_eq] at hm
  rename_i x' i'
  obtain ⟨h1, rfl⟩ := hm
  obtain ⟨arr, he, hl, hv⟩ := tup_inv (hev ▸ ev_vr hT h1)
  have hi : i' < arr.size := by rw [← hl]; exact (List.getElem?_eq_some_iff.1 hx).1
  exact .val (u := arr[i']) (by simp [execOp, hop, he, Instr.extract, hi]) (hv i' v _ hx (by simp [hi])) hH
end
end Go.Abx
