/- Freezing: what an object holds is told as a value, and nobody writes there any more. -/
import Derived.Test.YtmnbafbicjgjgaaDoorAbxN
namespace Go.Abx
open Go.RowKit
set_option linter.unusedVariables false
set_option linter.unusedSimpArgs false

section
variable {c : Cx} {w0 : World} {base : Nat} {w : World}

def shapeOf : AObj → Option (Nat × Nat × Option Nat)
  | .arr es sz cap _ => some (es.length, sz, cap)
  | .map _ => none
/-- The same objects, frozen or not. -/
def Fz (H H' : Heap) : Prop := H'.next = H.next ∧ ∀ k o, H.get k = some o → ∃ o', H'.get k = some o' ∧ shapeOf o' = shapeOf o
theorem Fz.refl (H : Heap) : Fz H H := ⟨rfl, fun k o h => ⟨o, h, rfl⟩⟩
theorem Fz.trans {A B C : Heap} (h : Fz A B) (k : Fz B C) : Fz A C := ⟨k.1.trans h.1, fun i o ho => by
  obtain ⟨o1, h1, h2⟩ := h.2 i o ho
  obtain ⟨o2, h3, h4⟩ := k.2 i o1 h1
  exact ⟨o2, h3, h4.trans h2⟩⟩

/-- What freezing comes to. -/
def FrzOk (c : Cx) (w0 : World) (base : Nat) (w : World) (ρ : Pl) (M : Mem) (H H' : Heap) (R : Mem → Prop) : Prop := Fz H H' ∧ ∃ M', Grows base M ρ M' ρ ∧ HR c w0 base M' ρ H' w ∧ R M'

theorem frzList_ok {f : AVal → Heap → Option (AVal × Heap)} {ρ : Pl} (hf : ∀ v H v' H', f v H = some (v', H') → ∀ M, HR c w0 base M ρ H w → FrzOk c w0 base w ρ M H H' fun M' => ∀ u, VR c M ρ v u → VR c M' ρ v' u) :
    ∀ (l : List AVal) (H : Heap) (l' : List AVal) (H' : Heap), frzList f l H = some (l', H') → ∀ M, HR c w0 base M ρ H w → FrzOk c w0 base w ρ M H H' fun M' => l'.length = l.length ∧
      ∀ (j : Nat) (x x' : AVal), l[j]? = some x → l'[j]? = some x' → ∀ u, VR c M ρ x u → VR c M' ρ x' u
  | [], H, l', H', h, M, hH => by
    simp only [frzList, Option.some.injEq, Prod.mk.injEq] at h
    obtain ⟨rfl, rfl⟩ := h
    exact ⟨.refl _, M, .refl _ _ _, hH, rfl, fun j x x' hx => by simp at hx⟩
  | v :: r, H, l', H', h, M, hH => by
    simp only [frzList] at h
    split at h
    case h_2 => cases h
    rename_i v' H1 hv
    split at h
    case h_2 => cases h
    rename_i r' H2 hr
    simp only [Option.some.injEq, Prod.mk.injEq] at h
    obtain ⟨rfl, rfl⟩ := h
    obtain ⟨z1, M1, g1, hH1, k1⟩ := hf v H v' H1 hv M hH
    obtain ⟨z2, M2, g2, hH2, k2, k3⟩ := frzList_ok hf r H1 r' H2 hr M1 hH1
    refine ⟨z1.trans z2, M2, g1.trans g2, hH2, by simp [k2], fun j x x' hx hx' u hu => ?_⟩
    cases j with
    | zero => simp at hx hx'; subst hx; subst hx'; exact (k1 u hu).grow g2
    | succ j => exact k3 j x x' (by simpa using hx) (by simpa using hx') u (hu.grow g1)

/-- The memory with a row frozen. -/
def memRow (M : Mem) (w : World) (b n : Nat) : Mem := fun b' o => if b' = b ∧ o < n then w.cell? ⟨b, o, none⟩ else M b' o

theorem freeze_obj {M M1 : Mem} {ρ : Pl} {H H1 : Heap} {id : Nat} {es es' : List AVal} {sz : Nat} {cap : Option Nat} {fr : Nat} (hget : H.get id = some (.arr es sz cap fr)) (hH : HR c w0 base M ρ H w) (hz : Fz H H1) (hg : Grows base M ρ M1 ρ) (hH1 : HR c w0 base M1 ρ H1 w)
    (hl : es'.length = es.length) (hfl : ∀ (j : Nat) (e : AVal), es'[j]? = some e → e.cells.length = sz ∧ flats e.cells = true)
    (hv : ∀ (j : Nat) (e e' : AVal), es[j]? = some e → es'[j]? = some e' → ∀ (i : Nat) (x x' : AVal), e.cells[i]? = some x → e'.cells[i]? = some x' → ∀ u, VR c M ρ x u → VR c M1 ρ x' u) :
    ∃ b tot, ρ id = some (b, sz, tot) ∧ 0 < sz ∧ es.length ≤ tot ∧ Fz H (H1.set id (.arr es' sz cap es.length)) ∧ Grows base M1 ρ (memRow M1 w b (es.length * sz)) ρ ∧ HR c w0 base (memRow M1 w b (es.length * sz)) ρ (H1.set id (.arr es' sz cap es.length)) w ∧
      (∀ (j : Nat) (e : AVal), es'[j]? = some e → ∀ (i : Nat) (x : AVal), e.cells[i]? = some x → ∃ u, memRow M1 w b (es.length * sz) b (j * sz + i) = some u ∧ VR c (memRow M1 w b (es.length * sz)) ρ x u) := by
  obtain ⟨b, sz', tot, hp, hb1, hb2, hO⟩ := hH.obj _ _ hget
  obtain rfl : sz = sz' := hO.1
  obtain ⟨_, hsz, hle, hfr, hcap, hMn, cs, E, fz, hw, hcs, hfz, hels, hvv⟩ := hO
  obtain ⟨o1, hget1, hs1⟩ := hz.2 _ _ hget
  -- the object as it is by now
  obtain ⟨es1, fr1, rfl, hl1⟩ : ∃ es1 fr1, o1 = .arr es1 sz cap fr1 ∧ es1.length = es.length := by
    cases o1 with
    | arr es1 z1 c1 f1 =>
      simp only [shapeOf, Option.some.injEq, Prod.mk.injEq] at hs1
      obtain ⟨h1, rfl, rfl⟩ := hs1
      exact ⟨es1, f1, rfl, h1⟩
    | map kv => simp [shapeOf] at hs1
  obtain ⟨b2, sz2, tot2, hp2, _, _, hO1⟩ := hH1.obj _ _ hget1
  rw [hp] at hp2
  simp only [Option.some.injEq, Prod.mk.injEq] at hp2
  obtain ⟨rfl, rfl, rfl⟩ := hp2
  obtain ⟨_, _, _, hfr1, _, hMn1, _⟩ := hO1
  have hcell : ∀ q, w.cell? ⟨b, q, none⟩ = cs[q]? := fun q => by simp [World.cell?, hw]
  have hn : ∀ q, es.length * sz ≤ q → M1 b q = none := fun q hq => hMn1 q (by
    have : fr1 * sz ≤ es.length * sz := Nat.mul_le_mul_right _ (by omega)
    omega)
  have hM' : MLe M1 (memRow M1 w b (es.length * sz)) := fun b' q u hu => by
    unfold memRow
    split
    · rename_i hc
      obtain ⟨rfl, hq⟩ := hc
      exact hH1.mem _ _ _ hu
    · exact hu
  have hkey : ∀ (j : Nat) (e : AVal), es'[j]? = some e → ∀ (i : Nat) (x : AVal), e.cells[i]? = some x → ∃ u, cs[j * sz + i]? = some u ∧ j * sz + i < es.length * sz ∧ VR c M1 ρ x u := by
    intro j e' he' i x' hx'
    have hj : j < es.length := by rw [← hl]; exact (List.getElem?_eq_some_iff.1 he').1
    have hi : i < sz := by rw [← (hfl j e' he').1]; exact (List.getElem?_eq_some_iff.1 hx').1
    obtain ⟨h1, h2⟩ := hels j es[j] (by simp [hj])
    obtain ⟨u, hu, hvu⟩ := hvv j es[j] (by simp [hj]) i (es[j].cells[i]'(by rw [h1]; exact hi)) (by simp [h1, hi])
    exact ⟨u, hu, row_lt hj hi, hv j es[j] e' (by simp [hj]) he' i _ x' (by simp [h1, hi]) hx' u hvu⟩
  have hset : (H1.set id (.arr es' sz cap es.length)).next = H1.next := rfl
  refine ⟨b, tot, hp, hsz, hle, ⟨hz.1, fun k o ho => ?_⟩, ⟨hM', .refl _, fun b' q hb' => ?_⟩, ⟨hH1.below, hH1.low, fun b o u hu => hM' b o u (hH1.tab b o u hu), fun b' q u hu => ?_, hH1.fresh, fun k o ho => ?_, fun i j o p b s t s' t' hi hj h1 h2 => ?_⟩, fun j e he i x hx => ?_⟩
  · by_cases hk : id = k
    · subst hk
      rw [hget] at ho
      cases ho
      exact ⟨_, Heap.get_set _ _ _ _ hget1, by simp [shapeOf, hl]⟩
    · rw [Heap.get_set_ne _ _ _ _ hk]; exact hz.2 k o ho
  · unfold memRow
    rw [if_neg (by omega)]
  · unfold memRow at hu
    split at hu
    · rename_i hc
      obtain ⟨rfl, hq⟩ := hc
      exact hu
    · exact hH1.mem _ _ _ hu
  · by_cases hk : id = k
    · subst hk
      rw [Heap.get_set _ _ _ _ hget1] at ho
      cases ho
      refine ⟨b, sz, tot, hp, hb1, hb2, rfl, hsz, by rw [hl]; exact hle, by rw [hl]; exact Nat.le_refl _, hcap, fun q hq => ?_, cs, E, fz, hw, hcs, hfz, hfl, fun j e he i x hx => ?_⟩
      · unfold memRow
        rw [if_neg (by omega)]
        exact hn q hq
      · obtain ⟨u, h1, _, h2⟩ := hkey j e he i x hx
        exact ⟨u, h1, h2.mono hM' (.refl _)⟩
    · rw [Heap.get_set_ne _ _ _ _ hk] at ho
      obtain ⟨b', s', t', h1, h2, h3, h4⟩ := hH1.obj k o ho
      refine ⟨b', s', t', h1, h2, h3, h4.mono hM' (.refl _) rfl fun q hq => ?_⟩
      have hne : b' ≠ b := fun hbb => by
        subst hbb
        exact hk (hH1.dist id k _ _ _ _ _ _ _ hget1 ho hp h1)
      unfold memRow
      rw [if_neg (by omega)]
      exact hq
  · have key : ∀ j q, (H1.set id (.arr es' sz cap es.length)).get j = some q → ∃ q', H1.get j = some q' := fun j q hj => by
      by_cases e : id = j
      · subst e; exact ⟨_, hget1⟩
      · rw [Heap.get_set_ne _ _ _ _ e] at hj; exact ⟨q, hj⟩
    obtain ⟨q', hq⟩ := key i o hi
    obtain ⟨r', hr⟩ := key j p hj
    exact hH1.dist i j q' r' b s t s' t' hq hr h1 h2
  · obtain ⟨u, h1, h2, h3⟩ := hkey j e he i x hx
    refine ⟨u, ?_, h3.mono hM' (.refl _)⟩
    unfold memRow
    rw [if_pos ⟨rfl, h2⟩, hcell, h1]


theorem frzList_shape {f : AVal → Heap → Option (AVal × Heap)} (hf : ∀ v H v' H', f v H = some (v', H') → flat v' = flat v ∧ v'.cells.length = v.cells.length ∧ (flats v.cells = true → flats v'.cells = true)) :
    ∀ (l : List AVal) (H : Heap) (l' : List AVal) (H' : Heap), frzList f l H = some (l', H') → l'.length = l.length ∧ (flats l = true → flats l' = true) ∧
      ∀ (j : Nat) (x x' : AVal), l[j]? = some x → l'[j]? = some x' → flat x' = flat x ∧ x'.cells.length = x.cells.length ∧ (flats x.cells = true → flats x'.cells = true)
  | [], H, l', H', h => by
    simp only [frzList, Option.some.injEq, Prod.mk.injEq] at h
    obtain ⟨rfl, rfl⟩ := h
    exact ⟨rfl, id, fun j x x' hx => by simp at hx⟩
  | v :: r, H, l', H', h => by
    simp only [frzList] at h
    split at h
    case h_2 => cases h
    rename_i v' H1 hv
    split at h
    case h_2 => cases h
    rename_i r' H2 hr
    simp only [Option.some.injEq, Prod.mk.injEq] at h
    obtain ⟨rfl, rfl⟩ := h
    obtain ⟨k1, k2, k3⟩ := frzList_shape hf r H1 r' _ hr
    have hv' := hf v H v' H1 hv
    refine ⟨by simp [k1], fun h => ?_, fun j x x' hx hx' => ?_⟩
    · simp only [flats, List.all_cons, Bool.and_eq_true] at h ⊢
      exact ⟨hv'.1.trans h.1, k2 h.2⟩
    · cases j with
      | zero => simp at hx hx'; subst hx; subst hx'; exact hv'
      | succ j => exact k3 j x x' (by simpa using hx) (by simpa using hx')

theorem frzVal_shape : ∀ (f : Nat) (v : AVal) (H : Heap) (v' : AVal) (H' : Heap), frzVal f v H = some (v', H') → flat v' = flat v ∧ v'.cells.length = v.cells.length ∧ (flats v.cells = true → flats v'.cells = true)
  | 0, v, H, v', H', h => by simp [frzVal] at h
  | f + 1, v, H, v', H', h => by
    have ih := frzList_shape (frzVal_shape f)
    unfold frzVal at h
    split at h
    · simp only [Option.some.injEq, Prod.mk.injEq] at h
      obtain ⟨rfl, rfl⟩ := h
      exact ⟨rfl, rfl, id⟩
    · split at h
      · split at h
        · split at h
          · split at h
            · simp only [Option.some.injEq, Prod.mk.injEq] at h
              obtain ⟨rfl, rfl⟩ := h
              exact ⟨rfl, rfl, id⟩
            · cases h
          · cases h
        · cases h
      · split at h
        · split at h
          · split at h
            · simp only [Option.some.injEq, Prod.mk.injEq] at h
              obtain ⟨rfl, rfl⟩ := h
              exact ⟨rfl, rfl, id⟩
            · cases h
          · cases h
        · cases h
      · split at h
        · rename_i cs cs' H1 hl
          simp only [Option.some.injEq, Prod.mk.injEq] at h
          obtain ⟨rfl, rfl⟩ := h
          obtain ⟨k1, k2, _⟩ := ih _ _ _ _ hl
          exact ⟨rfl, k1, k2⟩
        · cases h
      · split at h
        · simp only [Option.some.injEq, Prod.mk.injEq] at h
          obtain ⟨rfl, rfl⟩ := h
          exact ⟨rfl, rfl, id⟩
        · cases h
      · split at h
        · simp only [Option.some.injEq, Prod.mk.injEq] at h
          obtain ⟨rfl, rfl⟩ := h
          exact ⟨rfl, rfl, id⟩
        · cases h
      · split at h
        · simp only [Option.some.injEq, Prod.mk.injEq] at h
          obtain ⟨rfl, rfl⟩ := h
          exact ⟨rfl, rfl, id⟩
        · cases h
      · cases h

/-- What holds of values holds of their cells. -/
theorem cell_of_elem {M M1 : Mem} {ρ : Pl} {e e' : AVal} (h : ∀ u, VR c M ρ e u → VR c M1 ρ e' u) (hs : ∀ (i : Nat) (x : AVal), e.cells[i]? = some x → ∃ u, VR c M ρ x u) (hf : flats e.cells = true) (hf' : flats e'.cells = true) (he : flat e' = flat e)
    (i : Nat) (x x' : AVal) (hx : e.cells[i]? = some x) (hx' : e'.cells[i]? = some x') (u : Value) (hu : VR c M ρ x u) : VR c M1 ρ x' u := by
  cases hfl : flat e with
  | true =>
    rw [flat_cells hfl] at hx
    rw [flat_cells (he.trans hfl)] at hx'
    cases i with
    | zero => simp at hx hx'; subst hx; subst hx'; exact h u hu
    | succ i => simp at hx
  | false =>
    cases e <;> simp [flat] at hfl
    case tup => simp [AVal.cells, flats, flat] at hf
    rename_i cs
    cases e' <;> simp [flat] at he
    case tup => simp [AVal.cells, flats, flat] at hf'
    rename_i cs'
    simp only [AVal.cells] at *
    have hi : i < cs.length := (List.getElem?_eq_some_iff.1 hx).1
    let g : Fin cs.length → Value := fun j => if j.1 = i then u else (hs j.1 cs[j.1] (by simp)).choose
    have hg : VR c M ρ (.agg cs) (.agg (Array.ofFn g)) := .agg _ _ hf (by simp) (fun j y z hy hz => by
      have hj : j < cs.length := (List.getElem?_eq_some_iff.1 hy).1
      have hz' : g ⟨j, hj⟩ = z := by simpa [hj] using hz
      subst hz'
      have hyy : cs[j] = y := by simpa [hj] using hy
      by_cases hji : j = i
      · subst hji
        simp only [g, if_true]
        rw [hx] at hy
        cases hy
        exact hu
      · simp only [g, if_neg hji]
        have := (hs j cs[j] (by simp)).choose_spec
        rw [← hyy]
        exact this)
    cases h _ hg with
    | agg _ _ h1 h2 h3 =>
      refine h3 i x' u hx' ?_
      simp [hi, g]

theorem frzVal_ok {ρ : Pl} : ∀ (f : Nat) (v : AVal) (H : Heap) (v' : AVal) (H' : Heap), frzVal f v H = some (v', H') → ∀ M, HR c w0 base M ρ H w → FrzOk c w0 base w ρ M H H' fun M' => ∀ u, VR c M ρ v u → VR c M' ρ v' u
  | 0, v, H, v', H', h, M, hH => by simp [frzVal] at h
  | f + 1, v, H, v', H', h, M, hH => by
    have ihl := frzList_ok (c := c) (w0 := w0) (base := base) (w := w) (ρ := ρ) (frzVal_ok f)
    have shl := frzList_shape (frzVal_shape f)
    -- an object
    have obj : ∀ id es sz cap fr es' H1, H.get id = some (.arr es sz cap fr) → frzList (frzVal f) es H = some (es', H1) → ∃ M1 b tot, ρ id = some (b, sz, tot) ∧ 0 < sz ∧ es.length ≤ tot ∧ es'.length = es.length ∧
        (∀ (j : Nat) (e : AVal), es'[j]? = some e → e.cells.length = sz ∧ flats e.cells = true) ∧ Fz H (H1.set id (.arr es' sz cap es.length)) ∧ Grows base M ρ M1 ρ ∧ HR c w0 base M1 ρ (H1.set id (.arr es' sz cap es.length)) w ∧
        (∀ (j : Nat) (e : AVal), es'[j]? = some e → ∀ (i : Nat) (x : AVal), e.cells[i]? = some x → ∃ u, M1 b (j * sz + i) = some u ∧ VR c M1 ρ x u) := by
      intro id es sz cap fr es' H1 hget hl
      obtain ⟨z, M1, g, hH1, k1, k2⟩ := ihl es H es' H1 hl M hH
      obtain ⟨s1, _, s3⟩ := shl es H es' H1 hl
      obtain ⟨b0, sz0, tot0, hp0, _, _, hO⟩ := hH.obj _ _ hget
      obtain ⟨_, _, _, _, _, _, cs, _, _, _, _, _, hels, hvv⟩ := hO
      have hold : ∀ (j : Nat) (e' : AVal), es'[j]? = some e' → ∃ e, es[j]? = some e := fun j e' he' => by
        have hj : j < es.length := by rw [← s1]; exact (List.getElem?_eq_some_iff.1 he').1
        exact ⟨es[j], by simp [hj]⟩
      have hz0 : sz = sz0 := by assumption
      subst hz0
      have hfl : ∀ (j : Nat) (e : AVal), es'[j]? = some e → e.cells.length = sz ∧ flats e.cells = true := fun j e' he' => by
        obtain ⟨e, he⟩ := hold j e' he'
        obtain ⟨t1, t2, t3⟩ := s3 j e e' he he'
        obtain ⟨q1, q2⟩ := hels j e he
        exact ⟨t2.trans q1, t3 q2⟩
      obtain ⟨b, tot, r1, r2, r3, r4, r5, r6, r7⟩ := freeze_obj hget hH z g hH1 k1 hfl (fun j e e' he he' i x x' hx hx' u hu => by
        obtain ⟨t1, t2, t3⟩ := s3 j e e' he he'
        obtain ⟨q1, q2⟩ := hels j e he
        exact cell_of_elem (k2 j e e' he he') (fun i x hx => (hvv j e he i x hx).imp fun u hu => hu.2) q2 (t3 q2) t1 i x x' hx hx' u hu)
      exact ⟨_, b, tot, r1, r2, r3, k1, hfl, r4, g.trans r5, r6, r7⟩
    unfold frzVal at h
    split at h
    · simp only [Option.some.injEq, Prod.mk.injEq] at h
      obtain ⟨rfl, rfl⟩ := h
      exact ⟨.refl _, M, .refl _ _ _, hH, fun u hu => hu⟩
    · split at h
      · -- a slice
        rename_i id s n lim _
        split at h
        case h_2 => cases h
        rename_i es sz cap fr hget
        split at h
        case isFalse => cases h
        rename_i hsn
        split at h
        case h_2 => cases h
        rename_i es' H1 hl
        simp only [Option.some.injEq, Prod.mk.injEq] at h
        obtain ⟨rfl, rfl⟩ := h
        obtain ⟨M1, b, tot, hp, hsz, hle, hll, hfl, z, g, hH1, hm⟩ := obj _ _ _ _ _ _ _ hget hl
        refine ⟨z, M1, g, hH1, fun u hu => ?_⟩
        obtain ⟨b', sz', tot', cap', hp', rfl, h0, h1, hn, ht⟩ := hs_inv hu
        rw [hp] at hp'
        simp only [Option.some.injEq, Prod.mk.injEq] at hp'
        obtain ⟨rfl, rfl, rfl⟩ := hp'
        have hln : ((es'.drop s).take n).length = n := by rw [List.length_take, List.length_drop, hll]; omega
        have hel : ∀ (j : Nat) (e : AVal), ((es'.drop s).take n)[j]? = some e → es'[s + j]? = some e := fun j e he => by
          rw [List.getElem?_take] at he
          split at he
          · rw [List.getElem?_drop] at he; exact he
          · cases he
        have key : ∀ (j : Nat) (e : AVal), ((es'.drop s).take n)[j]? = some e → ∀ (i : Nat) (x : AVal), e.cells[i]? = some x → ∃ u, M1 b (s * sz + j * sz + i) = some u ∧ VR c M1 ρ x u := fun j e he i x hx => by
          obtain ⟨u, h1, h2⟩ := hm _ e (hel j e he) i x hx
          rw [Nat.add_mul] at h1
          exact ⟨u, h1, h2⟩
        have := VR.vs (c := c) (M := M1) (ρ := ρ) ((es'.drop s).take n) sz lim (some ⟨b, s * sz, none⟩) cap' b (s * sz) (fun j i => (M1 b (s * sz + j * sz + i)).getD undef) (fun _ => rfl) rfl h1 (by rw [hln]; exact hn)
          (fun j e he => hfl _ e (hel j e he)) (fun j e he i x hx => by obtain ⟨u, h1, _⟩ := key j e he i x hx; rw [h1]; rfl) (fun j e he i x hx => by obtain ⟨u, h1, h2⟩ := key j e he i x hx; rw [h1]; exact h2)
        rw [hln] at this
        exact this
      · -- a pointer
        rename_i id i k _
        split at h
        case h_2 => cases h
        rename_i es sz cap fr hget
        split at h
        case h_2 => cases h
        rename_i es' H1 hl
        split at h
        case h_2 => cases h
        rename_i e hei
        simp only [Option.some.injEq, Prod.mk.injEq] at h
        obtain ⟨rfl, rfl⟩ := h
        obtain ⟨M1, b, tot, hp, hsz, hle, hll, hfl, z, g, hH1, hm⟩ := obj _ _ _ _ _ _ _ hget hl
        refine ⟨z, M1, g, hH1, fun u hu => ?_⟩
        cases hu with
        | ptr i' o' hp' =>
        rw [hp] at hp'
        simp only [Option.some.injEq, Prod.mk.injEq] at hp'
        obtain ⟨rfl, rfl, rfl⟩ := hp'
        exact .pimm e.cells b (i * sz) k (fun j => (M1 b (i * sz + j)).getD undef) (hfl i e hei).2 (fun j x hx => by obtain ⟨u, h1, _⟩ := hm i e hei j x hx; rw [h1]; rfl) (fun j x hx => by obtain ⟨u, h1, h2⟩ := hm i e hei j x hx; rw [h1]; exact h2)
      · rename_i cs _
        split at h
        case h_2 => cases h
        rename_i cs' H1 hl
        simp only [Option.some.injEq, Prod.mk.injEq] at h
        obtain ⟨rfl, rfl⟩ := h
        obtain ⟨z, M1, g, hH1, k1, k2⟩ := ihl _ _ _ _ hl M hH
        obtain ⟨s1, s2, s3⟩ := shl _ _ _ _ hl
        refine ⟨z, M1, g, hH1, fun u hu => ?_⟩
        cases hu with
        | agg _ arr q1 q2 q3 =>
        exact .agg _ _ (s2 q1) (k1.trans q2) fun j x u hx hu => by
          have hj : j < cs.length := by rw [← k1]; exact (List.getElem?_eq_some_iff.1 hx).1
          exact k2 j cs[j] x (by simp [hj]) hx u (q3 j _ u (by simp [hj]) hu)
      · rename_i cs _
        split at h
        case h_2 => cases h
        rename_i cs' H1 hl
        simp only [Option.some.injEq, Prod.mk.injEq] at h
        obtain ⟨rfl, rfl⟩ := h
        obtain ⟨z, M1, g, hH1, k1, k2⟩ := ihl _ _ _ _ hl M hH
        refine ⟨z, M1, g, hH1, fun u hu => ?_⟩
        cases hu with
        | tup _ arr q2 q3 =>
        exact .tup _ _ (k1.trans q2) fun j x u hx hu => by
          have hj : j < cs.length := by rw [← k1]; exact (List.getElem?_eq_some_iff.1 hx).1
          exact k2 j cs[j] x (by simp [hj]) hx u (q3 j _ u (by simp [hj]) hu)
      · rename_i gg cs _
        split at h
        case h_2 => cases h
        rename_i cs' H1 hl
        simp only [Option.some.injEq, Prod.mk.injEq] at h
        obtain ⟨rfl, rfl⟩ := h
        obtain ⟨z, M1, g, hH1, k1, k2⟩ := ihl _ _ _ _ hl M hH
        refine ⟨z, M1, g, hH1, fun u hu => ?_⟩
        cases hu with
        | fn _ arr q1 q2 q3 =>
        exact .fn _ _ q1 (k1.trans q2) fun j x u hx hu => by
          have hj : j < cs.length := by rw [← k1]; exact (List.getElem?_eq_some_iff.1 hx).1
          exact k2 j cs[j] x (by simp [hj]) hx u (q3 j _ u (by simp [hj]) hu)
      · split at h
        case h_2 => cases h
        rename_i v1 H1 hl
        simp only [Option.some.injEq, Prod.mk.injEq] at h
        obtain ⟨rfl, rfl⟩ := h
        obtain ⟨z, M1, g, hH1, k1⟩ := frzVal_ok f _ _ _ _ hl M hH
        refine ⟨z, M1, g, hH1, fun u hu => ?_⟩
        cases hu with
        | iface q1 q2 => exact .iface q1 (k1 _ q2)
      · cases h

theorem frzAll_ok {ρ : Pl} {l l' : List AVal} {H H' : Heap} (h : frzAll l H = some (l', H')) {M : Mem} (hH : HR c w0 base M ρ H w) : FrzOk c w0 base w ρ M H H' fun M' => l'.length = l.length ∧
    ∀ (j : Nat) (x x' : AVal), l[j]? = some x → l'[j]? = some x' → ∀ u, VR c M ρ x u → VR c M' ρ x' u := by
  unfold frzAll at h
  split at h
  · simp only [Option.some.injEq, Prod.mk.injEq] at h
    obtain ⟨rfl, rfl⟩ := h
    exact ⟨.refl _, M, .refl _ _ _, hH, rfl, fun j x x' hx hx' u hu => by rw [hx] at hx'; cases hx'; exact hu⟩
  · exact frzList_ok (frzVal_ok frzDepth) l H l' H' h M hH
end
end Go.Abx
