/- Single operations (8: new slices, maps, bytes). -/
import Derived.Test.YtmnbafbicjgjgaaDoorAbxJ
import Derived.Laws.MakeOwn
import Derived.Laws.IdiomStrings
import Derived.Deep.AppendSrc
namespace Go.Abx
open Go.RowKit
set_option linter.unusedVariables false
set_option linter.unusedSimpArgs false

section
variable {P : Program} {c : Cx} {w0 : World} {base : Nat} {M : Mem} {ρ : Pl} {H H' : Heap} {w w' : World} {tm : Tm} {a : Act} {o : Oper} {env : Env} {v : AVal}

theorem row_lt {j i sz n : Nat} (hj : j < n) (hi : i < sz) : j * sz + i < n * sz := by
  have : (j + 1) * sz ≤ n * sz := Nat.mul_le_mul_right _ hj
  rw [Nat.succ_mul] at this; omega
theorem row_ne {j k i sz q : Nat} (h : j ≠ k) (hi : i < sz) : ¬ (k * sz ≤ j * sz + i ∧ j * sz + i < k * sz + sz) := by
  rcases Nat.lt_or_gt_of_ne h with hlt | hlt
  · have : (j + 1) * sz ≤ k * sz := Nat.mul_le_mul_right _ hlt
    rw [Nat.succ_mul] at this; omega
  · have : (k + 1) * sz ≤ j * sz := Nat.mul_le_mul_right _ hlt
    rw [Nat.succ_mul] at this; omega

theorem flat_zero {sz : Nat} {z : AVal} {u : Value} (hm : mVal z u = true) (hf : flats z.cells = true) (hl : z.cells.length = sz) (n : Nat) : FlatR c M ρ sz (List.replicate n z) (madeCells u.cells (n * sz)).toList := by
  have hv := mVal_vr c M ρ z u hm
  obtain ⟨g1, g2⟩ := hv.cells hf
  have hg : ∀ (j : Nat) (e : AVal), (List.replicate n z)[j]? = some e → j < n ∧ e = z := fun j e he => by
    rw [List.getElem?_replicate] at he
    split at he
    · exact ⟨‹_›, by simpa using he.symm⟩
    · cases he
  refine ⟨by simp [size_madeCells], fun j e he => by rw [(hg j e he).2]; exact ⟨hl, hf⟩, fun j e he i x hx => ?_⟩
  obtain ⟨hj, rfl⟩ := hg j e he
  obtain ⟨y, hy, hvy⟩ := g2 i x hx
  have hi : i < sz := by rw [← hl]; exact (List.getElem?_eq_some_iff.1 hx).1
  refine ⟨y, ?_, hvy⟩
  have hlt := row_lt hj hi
  have hmod : (j * sz + i) % sz = i := by rw [Nat.mul_comm, Nat.mul_add_mod, Nat.mod_eq_of_lt hi]
  have hsz : u.cells.size = sz := by rw [g1, hl]
  have hi' : i < u.cells.size := by rw [hsz]; exact hi
  simp only [madeCells, Array.toList_map, Array.toList_range, List.getElem?_map, List.getElem?_range hlt, Option.map_some, hsz, hmod]
  rw [Array.getElem?_eq_getElem hi'] at hy
  rw [getElem!_pos u.cells i hi']
  exact hy

theorem FlatR.set {sz : Nat} {es : List AVal} {arr : Array Value} (h : FlatR c M ρ sz es arr.toList) {x : AVal} {u : Value} (hx : VR c M ρ x u) (hf : flats x.cells = true) (hl : x.cells.length = sz) (k : Nat) (hk : k < es.length) :
    FlatR c M ρ sz (es.set k x) (u.cells.zipIdx.foldl (fun cs (x : Value × Nat) => cs.setIfInBounds (k * sz + x.2) x.1) arr).toList ∧
    (u.cells.zipIdx.foldl (fun cs (x : Value × Nat) => cs.setIfInBounds (k * sz + x.2) x.1) arr).size = arr.size := by
  obtain ⟨h1, h2, h3⟩ := h
  obtain ⟨g1, g2⟩ := hx.cells hf
  have e : u.cells.zipIdx.foldl (fun cs (x : Value × Nat) => cs.setIfInBounds (k * sz + x.2) x.1) arr = (u.cells.toList.zipIdx 0).foldl (fun cs (x : Value × Nat) => cs.setIfInBounds (k * sz + x.2) x.1) arr := by
    rw [← Array.foldl_toList, Array.toList_zipIdx]
  have h1' : arr.size = es.length * sz := by simpa using h1
  have hle : (k + 1) * sz ≤ es.length * sz := Nat.mul_le_mul_right _ hk
  rw [Nat.succ_mul] at hle
  obtain ⟨f1, f2⟩ := foldl_set (k * sz) u.cells.toList 0 arr (by simp [g1, hl]; omega)
  rw [e]
  have hlen : u.cells.toList.length = sz := by simp [g1, hl]
  refine ⟨⟨by simp [f1, h1'], fun j e he => ?_, fun j e he i y hy => ?_⟩, f1⟩
  · by_cases hj : k = j
    · subst hj
      rw [List.getElem?_set_self hk] at he
      cases he
      exact ⟨hl, hf⟩
    · rw [List.getElem?_set_ne hj] at he; exact h2 j e he
  · rw [Array.getElem?_toList, f2]
    simp only [Nat.add_zero, hlen]
    by_cases hj : k = j
    · subst hj
      rw [List.getElem?_set_self hk] at he
      cases he
      have hi : i < sz := by rw [← hl]; exact (List.getElem?_eq_some_iff.1 hy).1
      obtain ⟨u', hu', hv'⟩ := g2 i y hy
      refine ⟨u', ?_, hv'⟩
      rw [if_pos (by omega), Nat.add_sub_cancel_left]
      simpa using hu'
    · rw [List.getElem?_set_ne hj] at he
      have hi : i < sz := by rw [← (h2 j e he).1]; exact (List.getElem?_eq_some_iff.1 hy).1
      rw [if_neg (row_ne (q := 0) (Ne.symm hj) hi)]
      have := h3 j e he i y hy
      simpa using this

theorem fillEls_spec {sz : Nat} (hT : TR c M ρ tm a.tmps) :
    ∀ (parts : List (Nat × Operand)) (parts' : List (Nat × Opd)) (es es' : List AVal) (arr : Array Value), mEls c parts parts' = true → FlatR c M ρ sz es arr.toList →
      fillEls es sz (parts'.map fun p => (p.1, ev tm p.2)) = some es' → ∃ arr', Instr.fill (fun i => some (i * sz, sz)) arr (parts.map fun p => (p.1, a.eval p.2)) = some arr' ∧ FlatR c M ρ sz es' arr'.toList ∧ es'.length = es.length
  | [], parts', es, es', arr, hm, hC, hf => by
    cases parts' with
    | nil => simp [fillEls] at hf; subst hf; exact ⟨arr, rfl, hC, rfl⟩
    | cons p r => simp [mEls] at hm
  | (i, x) :: r, parts', es, es', arr, hm, hC, hf => by
    cases parts' with
    | nil => simp [mEls] at hm
    | cons p r' =>
      obtain ⟨j, y⟩ := p
      simp only [mEls, Bool.and_eq_true, beq_iff_eq] at hm
      obtain ⟨⟨rfl, h2⟩, h3⟩ := hm
      simp only [List.map_cons, fillEls] at hf
      split at hf
      case isFalse => cases hf
      rename_i hc
      obtain ⟨k1, k2, k3⟩ := hc
      have hv := ev_vr hT h2
      obtain ⟨g1, g2⟩ := hv.cells k3
      obtain ⟨s1, s2⟩ := hC.set hv k3 k1 i k2
      obtain ⟨arr', e1, e2, e3⟩ := fillEls_spec hT r r' _ es' _ h3 s1 hf
      refine ⟨arr', ?_, e2, by simpa using e3⟩
      have hsz : (a.eval x).cells.size = sz := by rw [g1, k1]
      have h1 : arr.size = es.length * sz := by simpa using hC.1
      have hle : (i + 1) * sz ≤ es.length * sz := Nat.mul_le_mul_right _ k2
      rw [Nat.succ_mul] at hle
      simp only [List.map_cons, Instr.fill, hsz]
      rw [if_neg (by simp; omega)]
      exact e1

theorem op_mkMap (hm : mOp P c o .mkMap = true) (hH : HR c w0 base M ρ H w) : Res c w0 base M ρ ((execOp a.eval o).run P w) (.mp H.next) (H.new (.map [])) := by
  cases hop : o.op <;> simp only [mOp, hop, Bool.false_eq_true] at hm
  rename_i t r
  cases r with
  | some r => simp at hm
  | none =>
    have hr : (execOp a.eval o).run P w = .ok (.value (.map (some w.heap.size))) (w.alloc (.map #[] 0)) := by simp [execOp, hop, Instr.makeMap]
    have hg := hH.lay_grows (w.heap.size, 0, 0)
    refine ⟨_, _, .inl hr, M, _, hg, .mp (sz := 0) (tot := 0) (by simp [plNew]), hH.new _ _ 0 0 ⟨fun o => hH.mem_none (Nat.le_refl _) o, #[], 0, heap_alloc_new w _, rfl, fun j p hp => by simp at hp⟩⟩

theorem op_mkSlice {z : AVal} {sz bytes : Nat} {l k : Opd} {n m : Int} (hm : mOp P c o (.mkSlice z sz bytes l k) = true) (hl : ev tm l = .int .i64 n) (hk : ev tm k = .int .i64 m)
    (hx : 0 ≤ n ∧ n ≤ m ∧ m * bytes ≤ 140737488355328 ∧ 0 < bytes) (hT : TR c M ρ tm a.tmps) (hH : HR c w0 base M ρ H w) :
    Res c w0 base M ρ ((execOp a.eval o).run P w) (.hs H.next 0 n.toNat none) (H.new (.arr (List.replicate n.toNat z) sz (some m.toNat) 0)) := by
  cases hop : o.op <;> simp only [mOp, hop, Bool.false_eq_true, Bool.and_eq_true] at hm
  rename_i t l' k'
  obtain ⟨⟨h1, h2⟩, h3⟩ := hm
  obtain ⟨e, he, h1⟩ := elem_inv h1
  simp only [Bool.and_eq_true] at h1
  obtain ⟨i, u, g1, g2, g3, g4, g5, g6, g7⟩ := zero_inv h1.1
  obtain ⟨i', g8, g9⟩ := by_inv h1.2
  rw [g1] at g8
  cases g8
  obtain ⟨x1, x2, x3, x4⟩ := hx
  have el := int_inv (hl ▸ ev_vr hT h2)
  have ek := int_inv (hk ▸ ev_vr hT h3)
  have hmb : m ≤ m * bytes := by
    have : m * 1 ≤ m * (bytes : Int) := Int.mul_le_mul_of_nonneg_left (by omega) (by omega)
    simpa using this
  have hb : (i.bytes : Int) * m ≤ 281474976710656 := by rw [g9, Int.mul_comm]; omega
  have hr := run_make (P := P) w t e i u he g1 g2 .i64 .i64 n m x1 x2 hb (by omega)
  have hF : FlatR c M ρ sz (List.replicate n.toNat z) ((madeCells u.cells (n.toNat * sz)).toList) := flat_zero g3 g7 g6 _
  have hr' : (execOp a.eval o).run P w = .ok (.value (.slice (some ⟨w.heap.size, 0, none⟩) (List.replicate n.toNat z).length m.toNat)) (w.alloc (.cells (madeCells u.cells (m.toNat * sz)) e)) := by
    rw [g4] at hr
    simp [execOp, hop, el, ek, hr]
  have hnm : n.toNat ≤ m.toNat := by omega
  have := res_newSlice (lim := none) hr' hH hF g5 (by simpa using hnm) (cap := some m.toNat) (by simp) (by simp) (size_madeCells _ _) (.inl rfl) (fun j u' hj => by
    have hlt : j < n.toNat * sz := by have := (List.getElem?_eq_some_iff.1 hj).1; simpa [size_madeCells] using this
    have hlt' : j < m.toNat * sz := Nat.lt_of_lt_of_le hlt (Nat.mul_le_mul_right _ hnm)
    simp only [madeCells, Array.toList_map, Array.toList_range, List.getElem?_map, List.getElem?_range hlt, Option.map_some] at hj
    simp only [madeCells, Array.getElem?_map, Array.getElem?_range, hlt', if_true, Option.map_some]
    exact hj)
  simpa using this

theorem op_buildSlice {z : AVal} {sz len : Nat} {parts : List (Nat × Opd)} {es : List AVal} (hm : mOp P c o (.buildSlice z sz len parts) = true)
    (hx : fillEls (List.replicate len z) sz (parts.map fun p => (p.1, ev tm p.2)) = some es) (hT : TR c M ρ tm a.tmps) (hH : HR c w0 base M ρ H w) :
    Res c w0 base M ρ ((execOp a.eval o).run P w) (if len = 0 then .vs [] sz (some 0) else .hs H.next 0 len (some len)) (if len = 0 then H else H.new (.arr es sz (some len) 0)) := by
  cases hop : o.op <;> simp only [mOp, hop, Bool.false_eq_true, Bool.and_eq_true, decide_eq_true_eq, beq_iff_eq] at hm
  rename_i t len' parts'
  obtain ⟨⟨⟨h1, rfl⟩, h3⟩, h4⟩ := hm
  obtain ⟨e, he, h1⟩ := elem_inv h1
  obtain ⟨i, u, g1, g2, g3, g4, g5, g6, g7⟩ := zero_inv h1
  have hF : FlatR c M ρ sz (List.replicate len' z) ((madeCells u.cells (len' * sz)).toList) := flat_zero g3 g7 g6 _
  obtain ⟨arr', e1, e2, e3⟩ := fillEls_spec hT parts'.toList parts _ es _ h4 hF hx
  rw [List.length_replicate] at e3
  have hr : (execOp a.eval o).run P w = .ok (.value (.slice (some ⟨w.heap.size, 0, none⟩) len' len')) (w.alloc (.cells arr' e)) := by
    have h24 : ¬ (16777216 < len' * sz) := by omega
    have ep : (parts'.map fun (x : Nat × Operand) => (x.1, a.eval x.2)).toList = parts'.toList.map fun p => (p.1, a.eval p.2) := by simp
    by_cases h0 : len' * sz = 0
    · have hl0 : len' = 0 := by
        rcases Nat.mul_eq_zero.1 h0 with h | h
        · exact h
        · omega
      subst hl0
      simp only [madeCells, Nat.zero_mul, Array.range_zero', Array.map_empty] at e1
      simp [execOp, hop, Instr.buildSlice, run_underlying he, sizeOf, typeInfo, g1, g4, newRow, Array.range_zero', e1]
    · simp only [madeCells] at e1
      have h0' : ¬ (len' = 0 ∨ sz = 0) := fun h => h0 (Nat.mul_eq_zero.2 h)
      simp [execOp, hop, Instr.buildSlice, run_underlying he, sizeOf, typeInfo, zeroValue, g1, g2, g4, newRow, h24, h0, h0', e1]
  by_cases h0 : len' = 0
  · subst h0
    simp only [if_true]
    refine ⟨_, _, .inl hr, M, ρ, .refl _ _ _, ?_, hH.alloc _⟩
    exact .vs [] sz (some 0) _ 0 0 0 (fun _ _ => undef) (by simp) rfl (by simp) (by simp) (by simp) (by simp) (by simp)
  · simp only [if_neg h0]
    have hr' : (execOp a.eval o).run P w = .ok (.value (.slice (some ⟨w.heap.size, 0, none⟩) es.length len')) (w.alloc (.cells arr' e)) := by rw [e3]; exact hr
    have := res_newSlice (lim := some len') hr' hH e2 g5 (by omega) (cap := some len') (by simp) (by simp) (by have := e2.1; rw [e3] at this; simpa using this) (.inl rfl) (fun j u' hj => by simpa using hj)
    rw [e3] at this
    exact this

theorem op_strBytes {x : Opd} {s : List Int} (hm : mOp P c o (.conv .strBytes x) = true) (hev : ev tm x = .str s) (hT : TR c M ρ tm a.tmps) (hH : HR c w0 base M ρ H w) :
    Res c w0 base M ρ ((execOp a.eval o).run P w) (.hs H.next 0 s.length none) (H.new (.arr (ofBytes s) 1 none 0)) := by
  cases hop : o.op <;> simp only [mOp, hop, Bool.false_eq_true, Bool.and_eq_true, mConv] at hm
  rename_i t d x'
  obtain ⟨⟨h1, h2⟩, h3⟩ := hm
  obtain ⟨e, he, h2⟩ := elem_inv h2
  have hs : P.underlying t = some .string := by
    split at h1
    · assumption
    · cases h1
  have hu8 : P.underlying e = some (.int .u8) := by
    unfold isU8 at h2
    split at h2
    · assumption
    · cases h2
  obtain ⟨s, hsx, rfl⟩ := str_inv (hev ▸ ev_vr hT h3)
  have hr := run_bytes_of_string (P := P) w t d e s hs he hu8
  have hge := grownCap_ge w s.size 0 e
  have hlen : (ofBytes (byteInts s)).length = s.size := by simp [ofBytes, byteInts_len]
  have hr' : (execOp a.eval o).run P w = .ok (.value (.slice (some ⟨w.drew.heap.size, 0, none⟩) (ofBytes (byteInts s)).length (grownCap w s.size 0 e)))
      (w.drew.alloc (.cells (bytesRow s (grownCap w s.size 0 e)) e ((bytesRow s (grownCap w s.size 0 e)).size, (bytesRow s (grownCap w s.size 0 e)).size + 1))) := by
    rw [hlen]
    simp [execOp, hop, hsx, hr]
  have hF : FlatR c M ρ 1 (ofBytes (byteInts s)) _ := flat_ofBytes s
  have hsz : (bytesRow s (grownCap w s.size 0 e)).size = grownCap w s.size 0 e := by
    simp [bytesRow]; have : s.data.size = s.size := rfl; omega
  have := res_newSlice (lim := none) hr' hH.drew hF (by omega) (by rw [hlen]; exact hge) (cap := none) (by simp) (by simp) (by rw [hsz, Nat.mul_one]) (.inr (by rw [hsz, Nat.mul_one]; exact Nat.le_refl _)) (fun j u' hj => by
    have hj' := (List.getElem?_eq_some_iff.1 hj).1
    simp only [List.length_map] at hj'
    simp only [bytesRow]
    rw [Array.getElem?_append_left (by simpa using hj')]
    simpa using hj)
  rw [hlen] at this
  rw [byteInts_len]
  exact this
end
end Go.Abx
