/- Steps: any operation, guards, ghost steps, rows of steps. -/
import Derived.Test.YtmnbafbicjgjgaaDoorAbxP
import Derived.Test.YtmnbafbicjgjgaaDoorAbxE
namespace Go.Abx
open Go.RowKit
set_option linter.unusedVariables false
set_option linter.unusedSimpArgs false

/-- The executor's state beside Go's. -/
structure St (c : Cx) (w0 : World) (base N : Nat) (M : Mem) (ρ : Pl) (tm : Tm) (H : Heap) (a : Act) (w : World) : Prop where
  t : TR c M ρ tm a.tmps
  h : HR c w0 base M ρ H w
  n : N ≤ a.tmps.size
  d : a.defers = []

section
variable {P : Program} {c : Cx} {w0 : World} {base : Nat} {M : Mem} {ρ : Pl} {H H' : Heap} {w w' : World} {tm tm' : Tm} {a : Act} {o : Oper} {env : Env} {v : AVal}

theorem res_wp {K : Act → World → Prop} {Q : Exit → Act → World → Prop} (h : Res c w0 base M ρ ((execOp a.eval o).run P w) v H') (hK : ∀ u w' M' ρ', Grows base M ρ M' ρ' → HR c w0 base M' ρ' H' w' → VR c M' ρ' v u → K (a.put o.dst u) w') : o.wp P a w K Q := by
  obtain ⟨u, w', hr, M', ρ', hg, hv, hH⟩ := h
  unfold Oper.wp
  rcases hr with hr | ⟨hr, rfl⟩
  · rw [hr]; exact hK u w' M' ρ' hg hH hv
  · rw [hr]; exact hK undef w' M' ρ' hg hH hv

theorem val_inv {r : Option AVal} (h : val H r = some (v, H')) : r = some v ∧ H' = H := by
  unfold val at h
  split at h
  · simp only [Option.some.injEq, Prod.mk.injEq] at h; exact ⟨by rw [h.1], h.2.symm⟩
  · cases h

theorem op_appendZ {z : AVal} {sz bytes : Nat} {s n : Opd} (hm : mOp P c o (.appendZ z sz bytes s n) = true) (hx : appendZA z sz bytes (ev tm s) (ev tm n) H = some (v, H')) (hT : TR c M ρ tm a.tmps) (hH : HR c w0 base M ρ H w) :
    Res c w0 base M ρ ((execOp a.eval o).run P w) v H' := by
  simp only [mOp] at hm
  split at hm
  case h_2 => cases hm
  rename_i s' n' t u hbc
  have hop := bcall_inv hbc
  simp only [Bool.and_eq_true] at hm
  obtain ⟨⟨⟨h1, h2⟩, h3⟩, h4⟩ := hm
  obtain ⟨e, he, h1⟩ := elem_inv h1
  simp only [Bool.and_eq_true] at h1
  obtain ⟨i, zv, g1, g2, g3, g4, g5, g6, g7⟩ := zero_inv h1.1
  obtain ⟨i', g8, g9⟩ := by_inv h1.2
  rw [g1] at g8
  cases g8
  split at h2
  case h_2 => cases h2
  rename_i k hu
  have hvs := ev_vr hT h3
  have hvn := ev_vr hT h4
  unfold appendZA at hx
  split at hx
  case h_2 => cases hx
  rename_i m' hn
  split at hx
  case isFalse => cases hx
  rename_i hb
  have en := int_inv (hn ▸ hvn)
  have run : ∀ u' w', (Builtin.append_ #[t, u] o.type #[a.eval s', a.eval n']).run P w = .ok u' w' → (execOp a.eval o).run P w = .ok (.value u') w' := fun u' w' h => by
    simp [execOp, hop, resolve, invoke, builtin, h]
  have hw0 : IntKind.i64.wrap 0 = 0 := by rw [IntKind.wrap_i64]; rfl
  by_cases h0 : m' = 0
  · subst h0
    rw [if_pos rfl] at hx
    have fin : ∀ ad n k, a.eval s' = .slice ad n k → n ≤ k → (Builtin.append_ #[t, u] o.type #[a.eval s', a.eval n']).run P w = .ok (a.eval s') w := fun ad n k h hnk => by
      rw [h, en]
      cases ad <;> simp [Builtin.append_, run_underlying he, run_underlying hu, sizeOf, typeInfo, g1, asInt, asIntOf, hw0, hnk, storeCells]
    split at hx
    · rename_i ev1
      cases hx
      rw [ev1] at hvs
      exact .val (run _ _ (fin _ _ _ (nilsl_inv hvs) (Nat.le_refl _))) (by rw [ev1]; exact hvs) hH
    · rename_i ev1
      cases hx
      rw [ev1] at hvs
      obtain ⟨ad, cap', hu', hle, _⟩ := vs_inv hvs
      exact .val (run _ _ (fin _ _ _ hu' hle)) (by rw [ev1]; exact hvs) hH
    · rename_i ev1
      cases hx
      rw [ev1] at hvs
      obtain ⟨b, sz', tot, cap', _, hu', _, _, hle, _⟩ := hs_inv hvs
      exact .val (run _ _ (fin _ _ _ hu' hle)) (by rw [ev1]; exact hvs) hH
    · cases hx
  · rw [if_neg h0] at hx
    split at hx
    case h_2 => cases hx
    rename_i ev1
    split at hx
    case isFalse => cases hx
    rename_i hbb
    cases hx
    obtain ⟨m, rfl⟩ : ∃ m : Nat, m' = m := ⟨m'.toNat, by omega⟩
    simp only [Int.toNat_natCast] at hbb ⊢
    have hes := nilsl_inv (ev1 ▸ hvs)
    have hmp : 0 < m := by omega
    have hw : IntKind.i64.wrap (m : Int) = m := by rw [IntKind.wrap_i64]; omega
    have hm0 : m ≠ 0 := by omega
    have hneg : ¬ ((m : Int) < 0) := by omega
    have hbig : ¬ (281474976710656 < (m : Int) * (i.bytes : Int)) := by
      rw [← Int.natCast_mul, g9]; omega
    have h63 : ¬ (9223372036854775807 < (m : Int)) := by omega
    have h48 : ¬ (281474976710656 < Builtin.nextslicecap m 0 * i.bytes) := by rw [nextslicecap_zero hmp, g9]; omega
    have hmz : m * i.size ≠ 0 := Nat.mul_ne_zero hm0 (by omega)
    have hmz' : ¬ (m = 0 ∨ i.size = 0) := fun h => hmz (Nat.mul_eq_zero.2 h)
    have hge := grownCap_ge w m 0 e
    have hzs : zv.cells.size = sz := by rw [((mVal_vr c M ρ z zv g3).cells g7).1, g6]
    have hr : (Builtin.append_ #[t, u] o.type #[a.eval s', a.eval n']).run P w = .ok (.slice (some ⟨w.heap.size, 0, none⟩) m (grownCap w m 0 e)) (w.drew.alloc (.cells (Builtin.zeroCells zv.cells m ++ Builtin.zeroCells zv.cells (grownCap w m 0 e - m)) e)) := by
      rw [hes, en]
      simp [Builtin.append_, run_underlying he, run_underlying hu, sizeOf, typeInfo, zeroValue, g1, g2, asInt, asIntOf, hw, hneg, hbig, hm0, h63, h48, hmz, hmz', Question.forced, newRow, grownCap, run_firstCells_none]
    have hzm : Builtin.zeroCells zv.cells m = madeCells zv.cells (m * sz) := by simp [Builtin.zeroCells, madeCells, hzs]
    have hF : FlatR c M ρ sz (List.replicate m z) ((madeCells zv.cells (m * sz)).toList) := flat_zero g3 g7 g6 _
    have hr' : (execOp a.eval o).run P w = .ok (.value (.slice (some ⟨w.drew.heap.size, 0, none⟩) (List.replicate m z).length (grownCap w m 0 e))) (w.drew.alloc (.cells (madeCells zv.cells (m * sz) ++ Builtin.zeroCells zv.cells (grownCap w m 0 e - m)) e)) := by
      rw [List.length_replicate, ← hzm]; exact run _ _ hr
    have := res_newSlice (lim := none) hr' hH.drew hF g5 (by simpa using hge) (cap := none) (by simp) (by simp) (by
      rw [Array.size_append, size_madeCells, size_zeroCells, hzs, ← Nat.add_mul]; congr 1; omega) (.inl rfl) (fun j u' hj => by
        have hj' := (List.getElem?_eq_some_iff.1 hj).1
        rw [Array.getElem?_append_left (by simpa using hj')]
        simpa using hj)
    simpa using this

theorem op_all {op : IOp} {K : Act → World → Prop} {Q : Exit → Act → World → Prop} (he : EnvOk P c env) (hm : mOp P c o op = true) (hx : exOp env tm H op = some (v, H')) (hT : TR c M ρ tm a.tmps) (hH : HR c w0 base M ρ H w)
    (hK : ∀ u w' M' ρ', Grows base M ρ M' ρ' → HR c w0 base M' ρ' H' w' → VR c M' ρ' v u → K (a.put o.dst u) w') : o.wp P a w K Q := by
  cases op with
  | mv x =>
    simp only [exOp, Option.some.injEq, Prod.mk.injEq] at hx
    obtain ⟨rfl, rfl⟩ := hx
    exact res_wp (op_mv hm hT hH) hK
  | pick p x y =>
    simp only [exOp] at hx
    split at hx
    · rename_i t hp
      simp only [Option.some.injEq, Prod.mk.injEq] at hx
      obtain ⟨rfl, rfl⟩ := hx
      exact res_wp (op_pick hm hp hT hH) hK
    · cases hx
  | alloc z sz =>
    simp only [exOp, Option.some.injEq, Prod.mk.injEq] at hx
    obtain ⟨rfl, rfl⟩ := hx
    exact res_wp (op_alloc hm hH) hK
  | box sz x =>
    simp only [exOp] at hx
    split at hx
    · rename_i h
      simp only [Option.some.injEq, Prod.mk.injEq] at hx
      obtain ⟨rfl, rfl⟩ := hx
      exact res_wp (op_box hm h.1 h.2 hT hH) hK
    · cases hx
  | build z parts =>
    simp only [exOp] at hx
    split at hx
    · rename_i cs h
      simp only [Option.some.injEq, Prod.mk.injEq] at hx
      obtain ⟨rfl, rfl⟩ := hx
      exact res_wp (op_build hm h hT hH) hK
    · cases hx
  | buildSlice z sz len parts =>
    simp only [exOp] at hx
    split at hx
    · rename_i es h
      have := op_buildSlice hm h hT hH
      split at hx
      · rename_i h0
        simp only [Option.some.injEq, Prod.mk.injEq] at hx
        obtain ⟨rfl, rfl⟩ := hx
        simp only [h0, if_true] at this
        exact res_wp this hK
      · rename_i h0
        simp only [Option.some.injEq, Prod.mk.injEq] at hx
        obtain ⟨rfl, rfl⟩ := hx
        simp only [if_neg h0] at this
        exact res_wp this hK
    · cases hx
  | load agg n x =>
    obtain ⟨h, rfl⟩ := val_inv hx
    exact res_wp (op_load hm h hT hH) hK
  | store n x y =>
    simp only [exOp, unit] at hx
    split at hx
    · rename_i H1 h
      simp only [Option.some.injEq, Prod.mk.injEq] at hx
      obtain ⟨rfl, rfl⟩ := hx
      exact res_wp (op_store hm h hT hH) hK
    · cases hx
  | nilCheck x =>
    simp only [exOp] at hx
    have h : (match ev tm x with | .ptr .. => true | .pimm .. => true | .fn .. => true | _ => false) = true ∧ v = ev tm x ∧ H' = H := by
      cases hq : ev tm x <;> rw [hq] at hx <;> simp at hx <;> simp [hx]
    obtain ⟨h1, rfl, rfl⟩ := h
    exact res_wp (op_nilCheck hm h1 hT hH) hK
  | bin op k x y =>
    obtain ⟨h, rfl⟩ := val_inv hx
    exact res_wp (op_bin hm h hT hH) hK
  | un op x =>
    obtain ⟨h, rfl⟩ := val_inv hx
    exact res_wp (op_un hm h hT hH) hK
  | conv k x =>
    simp only [exOp] at hx
    unfold convA at hx
    split at hx
    · rename_i hq
      simp only [Option.some.injEq, Prod.mk.injEq] at hx
      obtain ⟨rfl, rfl⟩ := hx
      exact res_wp (op_convInt hm hq hT hH) hK
    · rename_i hq
      simp only [Option.some.injEq, Prod.mk.injEq] at hx
      obtain ⟨rfl, rfl⟩ := hx
      exact res_wp (op_strBytes hm hq hT hH) hK
    · split at hx
      · rename_i es hes
        split at hx
        · rename_i l hl
          simp only [Option.some.injEq, Prod.mk.injEq] at hx
          obtain ⟨rfl, rfl⟩ := hx
          exact res_wp (op_bytesStr hm hes hl hT hH) hK
        · cases hx
      · cases hx
    · rename_i hq
      simp only [Option.some.injEq, Prod.mk.injEq] at hx
      obtain ⟨rfl, rfl⟩ := hx
      exact res_wp (op_convSame hm hq hT hH) hK
    · rename_i id s n lim hq
      split at hx
      · rename_i es z k f hget
        simp only [Option.some.injEq, Prod.mk.injEq] at hx
        obtain ⟨rfl, rfl⟩ := hx
        exact res_wp (op_mark hm hq hT hH ⟨_, _, _, _, hget⟩) hK
      · cases hx
    · cases hx
    · cases hx
  | mkIface t x =>
    simp only [exOp, Option.some.injEq, Prod.mk.injEq] at hx
    obtain ⟨rfl, rfl⟩ := hx
    exact res_wp (op_mkIface hm hT hH) hK
  | mkFunc f caps =>
    simp only [exOp, Option.some.injEq, Prod.mk.injEq] at hx
    obtain ⟨rfl, rfl⟩ := hx
    exact res_wp (op_mkFunc hm hT hH) hK
  | mkMap =>
    simp only [exOp, Option.some.injEq, Prod.mk.injEq] at hx
    obtain ⟨rfl, rfl⟩ := hx
    exact res_wp (op_mkMap hm hH) hK
  | mkSlice z sz bytes l k =>
    simp only [exOp] at hx
    split at hx
    · rename_i h1 h2
      split at hx
      · rename_i h
        simp only [Option.some.injEq, Prod.mk.injEq] at hx
        obtain ⟨rfl, rfl⟩ := hx
        exact res_wp (op_mkSlice hm h1 h2 h hT hH) hK
      · cases hx
    · cases hx
  | slice str sz x lo hi mx =>
    simp only [exOp] at hx
    cases hs : stride H sz (ev tm x) with
    | false => rw [hs] at hx; cases hx
    | true =>
      rw [hs] at hx
      obtain ⟨h, rfl⟩ := val_inv hx
      exact res_wp (op_slice hm hs h hT hH) hK
  | fieldAddr off x =>
    simp only [exOp] at hx
    have h : (match ev tm x with | .ptr id i k => some (AVal.ptr id i (k + off)) | .pimm cs k => some (.pimm cs (k + off)) | _ => none) = some v ∧ H' = H := by
      cases hq : ev tm x <;> rw [hq] at hx <;> simp at hx <;> simp [hx]
    obtain ⟨h1, rfl⟩ := h
    exact res_wp (op_fieldAddr hm h1 hT hH) hK
  | field off agg n x =>
    simp only [exOp] at hx
    split at hx
    · rename_i cs hq
      obtain ⟨h, rfl⟩ := val_inv hx
      exact res_wp (op_field hm hq h hT hH) hK
    · cases hx
  | indexAddr arr sz x i =>
    simp only [exOp] at hx
    cases hs : stride H sz (ev tm x) with
    | false => rw [hs] at hx; cases hx
    | true =>
      rw [hs] at hx
      obtain ⟨h, rfl⟩ := val_inv hx
      exact res_wp (op_indexAddr hm hs h hT hH) hK
  | index arr x i =>
    obtain ⟨h, rfl⟩ := val_inv hx
    exact res_wp (op_index hm h hT hH) hK
  | lookup kk z m k ok =>
    obtain ⟨h, rfl⟩ := val_inv hx
    exact res_wp (op_lookup hm h hT hH) hK
  | mapUpdate kk m k x =>
    simp only [exOp] at hx
    split at hx
    · rename_i id h1
      split at hx
      · rename_i kv h2
        split at hx
        · rename_i h3
          simp only [Option.some.injEq, Prod.mk.injEq] at hx
          obtain ⟨rfl, rfl⟩ := hx
          exact res_wp (op_mapUpdate hm h1 h2 h3 hT hH) hK
        · cases hx
      · cases hx
    · cases hx
  | extract x i =>
    simp only [exOp] at hx
    split at hx
    · rename_i l h1
      obtain ⟨h, rfl⟩ := val_inv hx
      exact res_wp (op_extract hm h1 h hT hH) hK
    · cases hx
  | call g mode args => exact op_call he hm hx hT hH hK
  | callv f mode args =>
    simp only [exOp] at hx
    split at hx
    · rename_i g caps h1
      exact op_callv he hm h1 hx hT hH hK
    · cases hx
  | len k x =>
    obtain ⟨h, rfl⟩ := val_inv hx
    simp only [Option.map_eq_some_iff] at h
    obtain ⟨n, h1, rfl⟩ := h
    cases hl : lenA H' k (ev tm x) with
    | none => rw [hl] at h1; cases h1
    | some m =>
      rw [hl] at h1
      cases h1
      exact res_wp (op_len hm hl hT hH) hK
  | cap x =>
    obtain ⟨h, rfl⟩ := val_inv hx
    simp only [Option.map_eq_some_iff] at h
    obtain ⟨n, h1, rfl⟩ := h
    cases hl : capA H' (ev tm x) with
    | none => rw [hl] at h1; cases h1
    | some m =>
      rw [hl] at h1
      cases h1
      exact res_wp (op_cap hm hl hT hH) hK
  | appendZ z sz bytes s n => exact res_wp (op_appendZ hm hx hT hH) hK
  | max x y =>
    simp only [exOp] at hx
    split at hx
    · rename_i h1 h2
      simp only [Option.some.injEq, Prod.mk.injEq] at hx
      obtain ⟨rfl, rfl⟩ := hx
      exact res_wp (op_max hm h1 h2 hT hH) hK
    · cases hx
  | min x y =>
    simp only [exOp] at hx
    split at hx
    · rename_i h1 h2
      simp only [Option.some.injEq, Prod.mk.injEq] at hx
      obtain ⟨rfl, rfl⟩ := hx
      exact res_wp (op_min hm h1 h2 hT hH) hK
    · cases hx
  | append sz bytes s x =>
    simp only [exOp] at hx
    cases h1 : stride H sz (ev tm s) with
    | false => rw [h1] at hx; cases hx
    | true => cases h2 : stride H sz (ev tm x) with
      | false => rw [h1, h2] at hx; cases hx
      | true =>
        rw [h1, h2] at hx
        exact res_wp (op_append hm h1 h2 hx hT hH) hK
  | copy sz d x =>
    simp only [exOp] at hx
    cases h1 : stride H sz (ev tm d) with
    | false => rw [h1] at hx; cases hx
    | true => cases h2 : stride H sz (ev tm x) with
      | false => rw [h1, h2] at hx; cases hx
      | true =>
        rw [h1, h2] at hx
        exact res_wp (op_copy hm h1 h2 hx hT hH) hK
  | delete kk m k =>
    simp only [exOp] at hx
    repeat' (split at hx)
    all_goals cases hx
  | stop => cases hx
end
end Go.Abx
