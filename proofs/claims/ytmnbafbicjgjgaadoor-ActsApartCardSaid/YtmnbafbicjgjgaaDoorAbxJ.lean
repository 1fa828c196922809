/- Single operations (7: what is made; append and copy). -/
import Derived.Test.YtmnbafbicjgjgaaDoorAbxI
namespace Go.Abx
open Go.RowKit
set_option linter.unusedVariables false
set_option linter.unusedSimpArgs false

section
variable {P : Program} {c : Cx} {w0 : World} {base : Nat} {M : Mem} {ρ : Pl} {H H' : Heap} {w w' : World} {tm : Tm} {a : Act} {o : Oper} {env : Env} {v : AVal}

/-! ### Elements, and their cells in a row -/
def FlatR (c : Cx) (M : Mem) (ρ : Pl) (sz : Nat) (es : List AVal) (us : List Value) : Prop :=
  us.length = es.length * sz ∧ (∀ (j : Nat) (e : AVal), es[j]? = some e → e.cells.length = sz ∧ flats e.cells = true) ∧
  ∀ (j : Nat) (e : AVal), es[j]? = some e → ∀ (i : Nat) (x : AVal), e.cells[i]? = some x → ∃ u, us[j * sz + i]? = some u ∧ VR c M ρ x u

theorem FlatR.nil (sz : Nat) : FlatR c M ρ sz [] [] := ⟨by simp, fun j e h => by simp at h, fun j e h => by simp at h⟩
theorem FlatR.app {sz : Nat} {es es' : List AVal} {us us' : List Value} (h : FlatR c M ρ sz es us) (h' : FlatR c M ρ sz es' us') : FlatR c M ρ sz (es ++ es') (us ++ us') := by
  obtain ⟨h1, h2, h3⟩ := h
  obtain ⟨g1, g2, g3⟩ := h'
  refine ⟨by simp [h1, g1, Nat.add_mul], fun j e he => ?_, fun j e he i x hx => ?_⟩
  · by_cases hj : j < es.length
    · rw [List.getElem?_append_left hj] at he; exact h2 j e he
    · rw [List.getElem?_append_right (by omega)] at he; exact g2 _ e he
  · by_cases hj : j < es.length
    · rw [List.getElem?_append_left hj] at he
      obtain ⟨u, hu, hv⟩ := h3 j e he i x hx
      exact ⟨u, by rw [List.getElem?_append_left (List.getElem?_eq_some_iff.1 hu).1]; exact hu, hv⟩
    · rw [List.getElem?_append_right (by omega)] at he
      obtain ⟨u, hu, hv⟩ := g3 _ e he i x hx
      refine ⟨u, ?_, hv⟩
      have e1 : j * sz + i = us.length + ((j - es.length) * sz + i) := by
        rw [h1, ← Nat.add_assoc, ← Nat.add_mul]
        congr 2; omega
      rw [e1, List.getElem?_append_right (by omega), Nat.add_sub_cancel_left]
      exact hu
theorem FlatR.mono {sz : Nat} {es : List AVal} {us : List Value} {M' : Mem} {ρ' : Pl} (h : FlatR c M ρ sz es us) (hM : MLe M M') (hP : PLe ρ ρ') : FlatR c M' ρ' sz es us :=
  ⟨h.1, h.2.1, fun j e he i x hx => (h.2.2 j e he i x hx).imp fun u hu => ⟨hu.1, hu.2.mono hM hP⟩⟩
theorem FlatR.one {sz : Nat} {es : List AVal} {us : List Value} (h : FlatR c M ρ sz es us) (hsz : 0 < sz) : ∀ u ∈ us, u.oneCell' = true := by
  intro u hu
  obtain ⟨k, hk⟩ := List.mem_iff_getElem?.1 hu
  have hkl : k < es.length * sz := by rw [← h.1]; exact (List.getElem?_eq_some_iff.1 hk).1
  have hj : k / sz < es.length := (Nat.div_lt_iff_lt_mul hsz).2 hkl
  have hi : k % sz < sz := Nat.mod_lt _ hsz
  obtain ⟨h1, h2⟩ := h.2.1 (k / sz) es[k / sz] (by simp [hj])
  obtain ⟨u', hu', hv⟩ := h.2.2 (k / sz) es[k / sz] (by simp [hj]) (k % sz) (es[k / sz].cells[k % sz]'(by rw [h1]; exact hi)) (by simp [h1, hi])
  have e : k / sz * sz + k % sz = k := by rw [Nat.mul_comm]; exact Nat.div_add_mod k sz
  rw [e, hk] at hu'
  cases hu'
  exact (hv.one (flats_at h2 (List.getElem?_eq_getElem _))).1

/-- A new block that begins with told elements. -/
theorem OR_flat {sz tot : Nat} {es : List AVal} {us : List Value} {cap : Option Nat} {cs : Array Value} {E : TypeId} {fz : Nat × Nat} {ρ' : Pl} (hH : HR c w0 base M ρ H w) (hF : FlatR c M ρ' sz es us) (hsz : 0 < sz) (hle : es.length ≤ tot)
    (hcap : ∀ k, cap = some k → k = tot) (hcs : cs.size = tot * sz) (hfz : fz.1 = fz.2 ∨ tot * sz ≤ fz.1) (hpre : ∀ (j : Nat) (u : Value), us[j]? = some u → cs[j]? = some u) :
    OR c M ρ' (w.alloc (.cells cs E fz)) w.heap.size sz tot (.arr es sz cap 0) :=
  OR_new hH hsz hle hcap hcs hfz hF.2.1 fun j e he i x hx => by
    obtain ⟨u, hu, hv⟩ := hF.2.2 j e he i x hx
    exact ⟨u, hpre _ u hu, hv⟩

theorem OR.fr_le {w : World} {b sz tot : Nat} {es : List AVal} {cap : Option Nat} {ρ : Pl} (h : OR c M ρ w b sz tot (.arr es sz cap 0)) (hM : ∀ o, M b o = none) {fr : Nat} (hfr : fr ≤ es.length) : OR c M ρ w b sz tot (.arr es sz cap fr) := by
  obtain ⟨h1, h2, h3, h4, h5, h6, r⟩ := h
  exact ⟨h1, h2, h3, hfr, h5, fun o _ => hM o, r⟩

/-- A slice in a new block. -/
theorem res_newSliceF {sz tot : Nat} {es : List AVal} {us : List Value} {cap lim : Option Nat} {cs : Array Value} {E : TypeId} {fz : Nat × Nat} {r : Result Next} (fr : Nat) (hfr : fr ≤ es.length) (hr : r = .ok (.value (.slice (some ⟨w.heap.size, 0, none⟩) es.length tot)) (w.alloc (.cells cs E fz)))
    (hH : HR c w0 base M ρ H w) (hF : FlatR c M ρ sz es us) (hsz : 0 < sz) (hle : es.length ≤ tot) (hcap : ∀ k, cap = some k → k = tot) (hlim : ∀ k, lim = some k → k = tot) (hcs : cs.size = tot * sz) (hfz : fz.1 = fz.2 ∨ tot * sz ≤ fz.1)
    (hpre : ∀ (j : Nat) (u : Value), us[j]? = some u → cs[j]? = some u) : Res c w0 base M ρ r (.hs H.next 0 es.length lim) (H.new (.arr es sz cap fr)) := by
  have hg := hH.lay_grows (w.heap.size, sz, tot)
  refine ⟨_, _, .inl hr, M, _, hg, ?_, hH.new _ _ sz tot ((OR_flat hH (hF.mono hg.m hg.p) hsz hle hcap hcs hfz hpre).fr_le (fun o => hH.mem_none (Nat.le_refl _) o) hfr)⟩
  have := VR.hs (c := c) (M := M) (ρ := plNew ρ H.next (w.heap.size, sz, tot)) (id := H.next) (b := w.heap.size) (sz := sz) (tot := tot) 0 es.length tot lim (by simp [plNew]) (fun _ => by simp) hlim hle (by omega)
  simpa using this
theorem res_newSlice {sz tot : Nat} {es : List AVal} {us : List Value} {cap lim : Option Nat} {cs : Array Value} {E : TypeId} {fz : Nat × Nat} {r : Result Next} (hr : r = .ok (.value (.slice (some ⟨w.heap.size, 0, none⟩) es.length tot)) (w.alloc (.cells cs E fz)))
    (hH : HR c w0 base M ρ H w) (hF : FlatR c M ρ sz es us) (hsz : 0 < sz) (hle : es.length ≤ tot) (hcap : ∀ k, cap = some k → k = tot) (hlim : ∀ k, lim = some k → k = tot) (hcs : cs.size = tot * sz) (hfz : fz.1 = fz.2 ∨ tot * sz ≤ fz.1)
    (hpre : ∀ (j : Nat) (u : Value), us[j]? = some u → cs[j]? = some u) : Res c w0 base M ρ r (.hs H.next 0 es.length lim) (H.new (.arr es sz cap 0)) :=
  res_newSliceF 0 (Nat.zero_le _) hr hH hF hsz hle hcap hlim hcs hfz hpre

theorem HR.drew_eq {X : World} (h : X = w.drew) (hH : HR c w0 base M ρ H w) : HR c w0 base M ρ H X := h ▸ hH.drew

/-! ### Sources of append and copy -/
/-- What a source holds, for Go's append and copy. -/
structure Src (P : Program) (c : Cx) (M : Mem) (ρ : Pl) (w : World) (sz : Nat) (u : Value) (es : List AVal) (us : List Value) : Prop where
  len : ∀ w1 : World, (Builtin.lenOf u).run P w1 = .ok es.length w1
  first : ∀ n, n ≤ es.length → ∀ w1 : World, (∀ ad, w1.cell? ad = w.cell? ad) → (Builtin.firstCells sz n u).run P w1 = .ok (us.take (n * sz)).toArray w1
  flat : FlatR c M ρ sz es us

theorem flat_ofBytes (s : ByteArray) : FlatR c M ρ 1 (ofBytes (byteInts s)) (s.data.toList.map fun b => Value.int .u8 b.toNat) := by
  have hg : ∀ (j : Nat) (e : AVal), (ofBytes (byteInts s))[j]? = some e → ∃ b, s.data.toList[j]? = some b ∧ e = .int .u8 b.toNat := fun j e he => by
    simp only [ofBytes, byteInts, List.map_map, List.getElem?_map, Option.map_eq_some_iff] at he
    obtain ⟨b, hb, rfl⟩ := he
    exact ⟨b, hb, rfl⟩
  refine ⟨by simp [ofBytes, byteInts], fun j e he => ?_, fun j e he i x hx => ?_⟩
  · obtain ⟨b, _, rfl⟩ := hg j e he
    simp [AVal.cells, flats, flat]
  · obtain ⟨b, hb, rfl⟩ := hg j e he
    cases i with
    | zero =>
      simp [AVal.cells] at hx
      subst hx
      exact ⟨.int .u8 b.toNat, by simp [hb], .int _ _⟩
    | succ i => simp [AVal.cells] at hx

theorem src_spec {x : AVal} {es : List AVal} {u : Value} {sz : Nat} (hH : HR c w0 base M ρ H w) (hv : VR c M ρ x u) (hs : stride H sz x = true) (hsz : 0 < sz)
    (h : srcEls sz H x = some es) : ∃ us, Src P c M ρ w sz u es us := by
  by_cases hstr : ∃ l, x = .str l
  · obtain ⟨l, rfl⟩ := hstr
    simp only [srcEls] at h
    split at h
    case isFalse => cases h
    rename_i h1
    subst h1
    cases h
    obtain ⟨s, rfl, rfl⟩ := str_inv hv
    have hlen : (ofBytes (byteInts s)).length = s.size := by simp [ofBytes, byteInts_len]
    refine ⟨_, fun w1 => by rw [hlen]; rfl, fun n hn w1 _ => ?_, flat_ofBytes s⟩
    have e : (s.extract 0 n).data.toList = s.data.toList.take n := by
      obtain ⟨⟨d⟩⟩ := s
      rw [show ByteArray.mk ⟨d⟩ = ByteArray.mk d.toArray from rfl, ByteArray.extract_mk]
      simp
    simp only [Builtin.firstCells, Sem.run_pure]
    congr 1
    apply Array.toList_inj.1
    rw [Array.toList_map, e]
    simp [List.map_take]
  · have h' : elems H x = some es := by
      cases x <;> first | exact h | exact absurd ⟨_, rfl⟩ hstr
    rcases elems_spec hH hv h' with ⟨rfl, ad, n, k, rfl, rfl⟩ | ⟨b, q, z, cap', rfl, hsz', hcell⟩
    · refine ⟨[], fun w1 => rfl, fun n hn w1 _ => ?_, FlatR.nil sz⟩
      have : n = 0 := by simpa using hn
      subst this
      cases ad <;> simp [Builtin.firstCells, loadCells, loadCellsFrom]
    · have hz : es ≠ [] → z = sz := fun hne => by
        cases x <;> simp only [elems, reduceCtorEq, Option.some.injEq] at h'
        · subst h'; exact absurd rfl hne
        · subst h'
          rename_i es cap z'
          cases vs_stride hs
          obtain ⟨e0, he0⟩ : ∃ e0, es[0]? = some e0 := by
            cases es with
            | nil => exact absurd rfl hne
            | cons e0 r => exact ⟨e0, rfl⟩
          obtain ⟨_, _, _, _, _, hsz2, _⟩ := vs_inv hv
          rw [← (hsz' 0 e0 he0).1, (hsz2 0 e0 he0).1]
        · rename_i id s n lim
          obtain ⟨es2, cap2, fr2, hg⟩ := stride_hs hs
          rw [hg] at h'
          simp only at h'
          split at h'
          · cases h'
            obtain ⟨e0, he0⟩ : ∃ e0, ((es2.drop s).take n)[0]? = some e0 := by
              cases hq : ((es2.drop s).take n) with
              | nil => exact absurd hq hne
              | cons e0 r => exact ⟨e0, rfl⟩
            obtain ⟨b', s', t', hp', _, _, hO⟩ := hH.obj _ _ hg
            obtain ⟨hzz, _, _, _, _, _, _, _, _, _, _, _, hels, _⟩ := hO
            have he0' : es2[s + 0]? = some e0 := by
              rw [List.getElem?_take] at he0
              split at he0
              · rw [List.getElem?_drop] at he0; exact he0
              · cases he0
            rw [← (hsz' 0 e0 he0).1, (hels _ e0 he0').1, ← hzz]
          · cases h'
      let us : List Value := (List.range (es.length * sz)).map fun j => (w.cell? ⟨b, q + j, none⟩).getD undef
      have hcell' : ∀ k, k < es.length * sz → w.cell? ⟨b, q + k, none⟩ = some ((w.cell? ⟨b, q + k, none⟩).getD undef) := fun k hk => by
        have hj : k / sz < es.length := (Nat.div_lt_iff_lt_mul hsz).2 hk
        have hi : k % sz < sz := Nat.mod_lt _ hsz
        have hne : es ≠ [] := by rintro rfl; simp at hj
        cases hz hne
        obtain ⟨g1, g2⟩ := hsz' (k / sz) es[k / sz] (by simp [hj])
        obtain ⟨y, hy, _⟩ := hcell (k / sz) es[k / sz] (by simp [hj]) (k % sz) (es[k / sz].cells[k % sz]'(by rw [g1]; exact hi)) (by simp [g1, hi])
        have e : q + k / sz * sz + k % sz = q + k := by rw [Nat.add_assoc]; congr 1; rw [Nat.mul_comm]; exact Nat.div_add_mod k sz
        rw [e] at hy
        rw [hy]; rfl
      refine ⟨us, fun w1 => rfl, fun n hn w1 hw1 => ?_, by simp [us], fun j e he => ?_, fun j e he i x hx => ?_⟩
      · refine run_firstCells_some w1 sz n ⟨b, q, none⟩ _ _ (us.take (n * sz)) ?_ fun j u hu => ?_
        · have h5 : n * sz ≤ es.length * sz := Nat.mul_le_mul_right _ hn
          simp only [us, List.length_take, List.length_map, List.length_range]
          exact Nat.min_eq_left h5
        · rw [List.getElem?_take] at hu
          split at hu
          · have hj : j < es.length * sz := by have := (List.getElem?_eq_some_iff.1 hu).1; simpa [us] using this
            rw [addr_add, hw1, hcell' j hj]
            simp only [us, List.getElem?_map, List.getElem?_range hj, Option.map_some] at hu
            exact hu
          · cases hu
      · have hne : es ≠ [] := by rintro rfl; simp at he
        cases hz hne
        exact hsz' j e he
      · have hne : es ≠ [] := by rintro rfl; simp at he
        cases hz hne
        obtain ⟨y, hy, hvy⟩ := hcell j e he i x hx
        have hjl : j < es.length := (List.getElem?_eq_some_iff.1 he).1
        have hil : i < sz := by rw [← (hsz' j e he).1]; exact (List.getElem?_eq_some_iff.1 hx).1
        have hk : j * sz + i < es.length * sz := by
          have : (j + 1) * sz ≤ es.length * sz := Nat.mul_le_mul_right _ hjl
          rw [Nat.succ_mul] at this; omega
        refine ⟨y, ?_, hvy⟩
        simp only [us, List.getElem?_map, List.getElem?_range hk, Option.map_some]
        rw [show q + (j * sz + i) = q + j * sz + i by omega, hy]; rfl
end
end Go.Abx
