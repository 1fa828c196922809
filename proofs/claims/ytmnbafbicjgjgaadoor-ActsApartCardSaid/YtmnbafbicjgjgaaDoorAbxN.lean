/- Single operations (10: copy, marks, maps). -/
import Derived.Test.YtmnbafbicjgjgaaDoorAbxL
namespace Go.Abx
open Go.RowKit
set_option linter.unusedVariables false
set_option linter.unusedSimpArgs false

section
variable {P : Program} {c : Cx} {w0 : World} {base : Nat} {M : Mem} {ρ : Pl} {H H' : Heap} {w w' : World} {tm : Tm} {a : Act} {o : Oper} {env : Env} {v : AVal}

theorem setEls_get (old new : List AVal) (k j : Nat) (h : k + new.length ≤ old.length) : (setEls old k new)[j]? = if k ≤ j ∧ j < k + new.length then new[j - k]? else old[j]? := putCells_get old new k j h
theorem setEls_len (old new : List AVal) (k : Nat) (h : k + new.length ≤ old.length) : (setEls old k new).length = old.length := putCells_len old new k h

theorem op_copy {sz : Nat} {d x : Opd} (hm : mOp P c o (.copy sz d x) = true) (hs1 : stride H sz (ev tm d) = true) (hs2 : stride H sz (ev tm x) = true)
    (hx : copyA sz (ev tm d) (ev tm x) H = some (v, H')) (hT : TR c M ρ tm a.tmps) (hH : HR c w0 base M ρ H w) :
    Res c w0 base M ρ ((execOp a.eval o).run P w) v H' := by
  simp only [mOp] at hm
  split at hm
  case h_2 => cases hm
  rename_i d' x' t u hbc
  have hop := bcall_inv hbc
  simp only [Bool.and_eq_true] at hm
  obtain ⟨⟨⟨h1, h2⟩, h3⟩, h4⟩ := hm
  obtain ⟨e, he, h1⟩ := elem_inv h1
  simp only [Bool.and_eq_true, decide_eq_true_eq] at h1
  obtain ⟨g1, hsz⟩ := h1
  obtain ⟨i, gi, gs⟩ := sz_inv g1
  have hvd := ev_vr hT h3
  have hvx := ev_vr hT h4
  unfold copyA at hx
  split at hx
  case h_1 => cases hx
  rename_i src hsrc
  obtain ⟨ns, hX⟩ := src_spec (P := P) hH hvx hs2 hsz hsrc
  have run : ∀ u' w', (Builtin.copy_ #[t, u] o.type #[a.eval d', a.eval x']).run P w = .ok u' w' → (execOp a.eval o).run P w = .ok (.value u') w' := fun u' w' h => by
    simp [execOp, hop, resolve, invoke, builtin, h]
  have zero : ∀ ad k, a.eval d' = .slice ad 0 k → (Builtin.copy_ #[t, u] o.type #[a.eval d', a.eval x']).run P w = .ok (.int .i64 0) w := fun ad k h => by
    have h0 : (Builtin.firstCells sz 0 (a.eval x')).run P w = .ok #[] w := by have := hX.first 0 (Nat.zero_le _) w fun _ => rfl; simpa using this
    rw [h]
    cases ad <;> simp [Builtin.copy_, run_underlying he, hX.len, sizeOf, typeInfo, gi, gs, h0, storeCells, goInt]
  split at hx
  · rename_i id s n lim ev1
    split at hx
    case h_2 => cases hx
    rename_i es z' cap fr hget
    simp only at hx
    split at hx
    case isFalse => cases hx
    rename_i hcond
    obtain ⟨hfs, hle⟩ := hcond
    cases hx
    obtain ⟨b, sz', tot, cap', hp, hu', h0, h1', hncap, htot⟩ := hs_inv (ev1 ▸ hvd)
    obtain ⟨b2, sz2, tot2, hp2, hb1, hb2, hO⟩ := hH.obj _ _ hget
    rw [hp] at hp2
    simp only [Option.some.injEq, Prod.mk.injEq] at hp2
    obtain ⟨rfl, rfl, rfl⟩ := hp2
    obtain rfl : sz' = sz := hs_stride hH (ev1 ▸ hs1) hp
    obtain rfl : z' = sz' := hO.1
    obtain ⟨hz1, hsz', hle', hfr, hcap, hMn, cs, E, fz, hw, hcs, hfz, hels, hvv⟩ := hO
    have hk : Min.min src.length n ≤ src.length := Nat.min_le_left _ _
    have hkn : Min.min src.length n ≤ n := Nat.min_le_right _ _
    generalize hkk : Min.min src.length n = k at *
    have hcells := hX.first k hk w fun _ => rfl
    have hnl := hX.flat.1
    have hkl : k * z' ≤ ns.length := by rw [hnl]; exact Nat.mul_le_mul_right _ hk
    have hlen : (ns.take (k * z')).length = k * z' := by rw [List.length_take]; exact Nat.min_eq_left hkl
    have hfit : (s + k) * z' ≤ es.length * z' := Nat.mul_le_mul_right _ (by omega)
    have hfit2 : es.length * z' ≤ tot * z' := Nat.mul_le_mul_right _ hle'
    rw [Nat.add_mul] at hfit
    obtain ⟨w', cs', hst, hW, hcs'⟩ := run_storeCells P b (s * z') E fz (ns.take (k * z')) 0 w cs hw (by rw [hlen]; omega) (fun q hq => fz_ok hfz q (by rw [← hcs]; exact hq)) (fun u hu => hX.flat.one hsz u (List.mem_of_mem_take hu))
    have hrun : (Builtin.copy_ #[t, u] o.type #[a.eval d', a.eval x']).run P w = .ok (.int .i64 k) w' := by
      rw [hu']
      have hmin : Nat.min src.length n = k := hkk
      simp [Builtin.copy_, run_underlying he, hX.len, sizeOf, typeInfo, gi, gs, hmin, hcells, hst, goInt]
    have htl : (src.take k).length = k := by rw [List.length_take]; exact Nat.min_eq_left hk
    refine ⟨_, _, .inl (run _ _ hrun), M, ρ, .refl _ _ _, .int _ _, hH.turn hget hp _ hb1 (hW.below hH.below hb1) hW.size hW.others ?_ ?_⟩
    · refine ⟨rfl, hsz, by rw [setEls_len _ _ _ (by omega)]; exact hle', by rw [setEls_len _ _ _ (by omega)]; exact hfr, hcap, hMn, cs', E, fz, hW.heap, by rw [hW.len, hcs], hfz, fun j e' he' => ?_, fun j e' he' q y hy => ?_⟩
      · rw [setEls_get _ _ _ _ (by omega)] at he'
        split at he'
        · rw [List.getElem?_take] at he'
          split at he'
          · exact hX.flat.2.1 _ e' he'
          · cases he'
        · exact hels j e' he'
      · rw [setEls_get _ _ _ _ (by omega), htl] at he'
        rw [hcs', hlen, Nat.add_zero]
        by_cases hj : s ≤ j ∧ j < s + k
        · rw [if_pos hj, List.getElem?_take, if_pos (by omega)] at he'
          obtain ⟨u', hu2, hv2⟩ := hX.flat.2.2 _ e' he' q y hy
          have hq : q < z' := by rw [← (hX.flat.2.1 _ e' he').1]; exact (List.getElem?_eq_some_iff.1 hy).1
          have hr1 := row_lt (n := k) (show j - s < k by omega) hq
          have hje : j * z' = s * z' + (j - s) * z' := by rw [← Nat.add_mul]; congr 1; omega
          refine ⟨u', ?_, hv2⟩
          rw [if_pos (by omega), List.getElem?_take, if_pos (by omega), hje]
          rw [show s * z' + (j - s) * z' + q - s * z' = (j - s) * z' + q by omega]
          exact hu2
        · rw [if_neg hj] at he'
          obtain ⟨u', hu2, hv2⟩ := hvv j e' he' q y hy
          have hq : q < z' := by rw [← (hels j e' he').1]; exact (List.getElem?_eq_some_iff.1 hy).1
          refine ⟨u', ?_, hv2⟩
          rw [if_neg ?_]
          · exact hu2
          · intro hin
            rcases Nat.lt_or_ge j s with hlt | hge
            · have := row_lt (n := s) hlt hq; omega
            · have hge' : s + k ≤ j := by omega
              have : (s + k) * z' ≤ j * z' := Nat.mul_le_mul_right _ hge'
              rw [Nat.add_mul] at this; omega
    · intro q u' hu2
      have hlt : q < fr * z' := by
        rcases Nat.lt_or_ge q (fr * z') with h | h
        · exact h
        · rw [hMn q h] at hu2; cases hu2
      have hfl : fr * z' ≤ s * z' := Nat.mul_le_mul_right _ hfs
      have := hH.mem b q u' hu2
      have hcell : (w'.cell? ⟨b, q, none⟩) = cs'[q]? := by simp [World.cell?, hW.heap]
      have hcell0 : (w.cell? ⟨b, q, none⟩) = cs[q]? := by simp [World.cell?, hw]
      rw [hcell0] at this
      rw [hcell, hcs', if_neg (by omega)]
      exact this
  · rename_i ev1
    cases hx
    exact .val (run _ _ (zero _ _ (nilsl_inv (ev1 ▸ hvd)))) (.int _ _) hH
  · rename_i ev1
    cases hx
    obtain ⟨ad, cap', hu', _⟩ := vs_inv (ev1 ▸ hvd)
    exact .val (run _ _ (zero _ _ hu')) (.int _ _) hH
  · cases hx

theorem op_mark {x : Opd} {id s n : Nat} {lim : Option Nat} (hm : mOp P c o (.conv .mark x) = true) (hev : ev tm x = .hs id s n lim) (hT : TR c M ρ tm a.tmps) (hH : HR c w0 base M ρ H w)
    (hg : ∃ es z k f, H.get id = some (.arr es z k f)) : Res c w0 base M ρ ((execOp a.eval o).run P w) (.hs id s n lim) H := by
  cases hop : o.op <;> simp only [mOp, hop, Bool.false_eq_true, Bool.and_eq_true, mConv, beq_iff_eq] at hm
  rename_i t d x'
  obtain ⟨⟨rfl, h2⟩, h3⟩ := hm
  obtain ⟨e, he, h2⟩ := elem_inv h2
  have hu8 : P.underlying e = some (.int .u8) := by
    unfold isU8 at h2
    split at h2
    · assumption
    · cases h2
  obtain ⟨es, z, k, f, hget⟩ := hg
  have hv := ev_vr hT h3
  rw [hev] at hv
  obtain ⟨b, sz, tot, cap', hp, hu', h0, h1, hn, ht⟩ := hs_inv hv
  obtain ⟨b2, sz2, tot2, hp2, hb1, hb2, hO⟩ := hH.obj _ _ hget
  rw [hp] at hp2
  simp only [Option.some.injEq, Prod.mk.injEq] at hp2
  obtain ⟨rfl, rfl, rfl⟩ := hp2
  obtain ⟨hz1, hsz', hle', hfr, hcap, hMn, cs, E, fz, hw, hcs, hfz, hels, hvv⟩ := hO
  obtain ⟨lo, hi⟩ := fz
  have hsh : w.shape? b = some (E, cs.size) := by simp [World.shape?, hw]
  have hr : (execOp a.eval o).run P w = .ok (.value (a.eval x')) (w.freeze ⟨b, cs.size, none⟩ 1) := by
    simp [execOp, hop, hu', convert, run_underlying he, run_underlying hu8, markStringish, hsh]
  have hb : (w.freeze ⟨b, cs.size, none⟩ 1).heap[b]? = some (.cells cs E (if lo == hi then (cs.size, cs.size + 1) else (min lo cs.size, max hi (cs.size + 1)))) := by
    simp [World.freeze, Array.getElem?_modify, hw]
  have ho : ∀ k, k ≠ b → (w.freeze ⟨b, cs.size, none⟩ 1).heap[k]? = w.heap[k]? := fun k hk => by
    rw [World.freeze, if_neg (by decide)]
    simp only [Array.getElem?_modify]
    rw [if_neg (Ne.symm hk)]
  have hsz2 : (w.freeze ⟨b, cs.size, none⟩ 1).heap.size = w.heap.size := by simp [World.freeze]
  have hB : Below base w0 (w.freeze ⟨b, cs.size, none⟩ 1) := hH.below.trans ⟨rfl, rfl, rfl, by rw [hsz2]; exact Nat.le_refl _, fun k hk => ho k (by omega)⟩
  refine .val' hr (hev ▸ ev_vr hT h3) ((hH.turn hget hp (.arr es z k f) hb1 hB hsz2 ho ⟨hz1, hsz', hle', hfr, hcap, hMn, cs, E, _, hb, hcs, ?_, hels, hvv⟩ (fun q u hu => ?_)).ext rfl fun j => ?_)
  · simp only at hfz
    by_cases hl : lo = hi
    · simp only [hl, beq_self_eq_true, if_true]; right; omega
    · have : ¬ (lo == hi) = true := by simpa using hl
      rw [if_neg this]
      right
      simp only
      omega
  · have := hH.mem b q u hu
    have hcell : ((w.freeze ⟨b, cs.size, none⟩ 1).cell? ⟨b, q, none⟩) = cs[q]? := by simp [World.cell?, hb]
    have hcell0 : (w.cell? ⟨b, q, none⟩) = cs[q]? := by simp [World.cell?, hw]
    rw [hcell, ← hcell0]; exact this
  · by_cases hj : id = j
    · subst hj; rw [Heap.get_set _ _ _ _ hget, hget]
    · rw [Heap.get_set_ne _ _ _ _ hj]

/-! ### Maps -/
theorem keyLike_now {kk : Nat} {k e : AVal} (h : keyOk kk k = true) (hl : keyLike k e = true) {u u' : Value} (hv : VR c M ρ k u) (hv' : VR c M ρ e u') {t : TypeId} (ht : cellKind P t kk = true) :
    ∃ d, P.underlying t = some d ∧ Instr.sameNow d u u' = some (keyEq k e) ∧ (keyEq k e = true → k = e ∧ Instr.sameBits 10000 u' u = true) := by
  unfold cellKind at ht
  split at ht
  · rename_i kd hd
    cases k <;> simp only [keyOk, Bool.false_eq_true] at h
    cases e <;> simp only [keyLike, Bool.false_eq_true, beq_iff_eq] at hl
    subst hl
    cases hv; cases hv'
    refine ⟨_, hd, by simp [Instr.sameNow, keyEq], fun hk => ?_⟩
    simp [keyEq] at hk
    subst hk
    exact ⟨rfl, by simp [Instr.sameBits]⟩
  · rename_i hd
    cases k <;> simp only [keyOk, Bool.false_eq_true] at h
    cases e <;> simp only [keyLike, Bool.false_eq_true] at hl
    cases hv; cases hv'
    refine ⟨_, hd, by simp [Instr.sameNow, keyEq], fun hk => ?_⟩
    simp [keyEq] at hk
    subst hk
    exact ⟨rfl, by simp [Instr.sameBits]⟩
  · rename_i hd
    cases k <;> simp only [keyOk, Bool.false_eq_true] at h
    cases e <;> simp only [keyLike, Bool.false_eq_true] at hl
    obtain ⟨s, rfl, rfl⟩ := str_inv hv
    obtain ⟨s', rfl, rfl⟩ := str_inv hv'
    have hse : (s == s') = (byteInts s == byteInts s') := (beq_toListBytes s s').trans (byteInts_eq s s')
    refine ⟨_, hd, by simp [Instr.sameNow, keyEq, hse], fun hk => ?_⟩
    simp only [keyEq, beq_iff_eq] at hk
    have := byteInts_inj hk
    subst this
    exact ⟨rfl, by simp [Instr.sameBits, hse]⟩
  · cases ht

/-- What Go's map finds, and what stands in the executor's list. -/
theorem find_spec {kk : Nat} {k : AVal} {u : Value} {t : TypeId} {d : TypeDesc} (hd : P.underlying t = some d) (ht : cellKind P t kk = true) (h : keyOk kk k = true) (hv : VR c M ρ k u) :
    ∀ (kv : List (AVal × AVal)) (es : List MapEntry) (i : Nat), es.length = kv.length → (kv.all fun p => keyLike k p.1) = true →
      (∀ (j : Nat) (p : AVal × AVal), kv[j]? = some p → ∃ e, es[j]? = some e ∧ VR c M ρ p.1 e.key ∧ VR c M ρ p.2 e.val) →
      (Instr.findNow d u es i = some none ∧ kvGet kv k = none ∧ (∀ x, kvSet kv k x = kv ++ [(k, x)]) ∧ kvDel kv k = kv) ∨
      ∃ j e p, Instr.findNow d u es i = some (some (i + j, e.val)) ∧ es[j]? = some e ∧ kv[j]? = some (k, p) ∧ kvGet kv k = some p ∧ VR c M ρ k e.key ∧ VR c M ρ p e.val ∧ Instr.sameBits 10000 e.key u = true ∧
        (∀ x, kvSet kv k x = kv.set j (k, x)) ∧ kvDel kv k = kv.eraseIdx j
  | [], es, i, hl, ha, hr => by
    have : es = [] := List.eq_nil_of_length_eq_zero hl
    subst this
    exact .inl ⟨rfl, rfl, fun x => rfl, rfl⟩
  | (k0, x0) :: kv, es, i, hl, ha, hr => by
    cases es with
    | nil => cases hl
    | cons e0 es =>
      simp only [List.all_cons, Bool.and_eq_true] at ha
      obtain ⟨e, he, hk0, hx0⟩ := hr 0 (k0, x0) rfl
      have : e0 = e := by simpa using he
      subst this
      obtain ⟨d', hd', hs, hq⟩ := keyLike_now h ha.1 hv hk0 ht
      rw [hd] at hd'
      cases hd'
      cases hke : keyEq k k0 with
      | true =>
        obtain ⟨rfl, hsb⟩ := hq hke
        refine .inr ⟨0, e0, x0, by simp [Instr.findNow, hs, hke], rfl, rfl, by simp [kvGet, hke], hk0, hx0, hsb, fun x => by simp [kvSet, hke], by simp [kvDel, hke]⟩
      | false =>
        rcases find_spec hd ht h hv kv es (i + 1) (by simpa using hl) ha.2 (fun j p hp => hr (j + 1) p hp) with ⟨h1, h2, h3, h4⟩ | ⟨j, e, p, h1, h2, h3, h4, h5, h6, h7, h8, h9⟩
        · exact .inl ⟨by simp [Instr.findNow, hs, hke, h1], by simp [kvGet, hke, h2], fun x => by simp [kvSet, hke, h3], by simp [kvDel, hke, h4]⟩
        · refine .inr ⟨j + 1, e, p, by simp [Instr.findNow, hs, hke, h1]; omega, h2, h3, by simp [kvGet, hke, h4], h5, h6, h7, fun x => by simp [kvSet, hke, h8], by simp [kvDel, hke, h9]⟩

theorem run_check1 {t : TypeId} {d : TypeDesc} (hd : P.underlying t = some d) (h1 : ∀ m, d ≠ .interface m) (h2 : ∀ n e, d ≠ .array n e) (h3 : ∀ f, d ≠ .struct f) (b : Bool) (u : Value) (w : World) : (Instr.checkKey b (9999 + 1) t u).run P w = .ok () w := by
  rw [Instr.checkKey, Sem.run_bind, run_underlying hd w]
  cases d <;> simp_all [Result.andThen]

theorem run_checkKey {kk : Nat} {t : TypeId} (ht : cellKind P t kk = true) {k : AVal} {u : Value} (h : keyOk kk k = true) (hv : VR c M ρ k u) (b : Bool) (w : World) : (Instr.checkKey b 10000 t u).run P w = .ok () w := by
  unfold cellKind at ht
  split at ht <;> (first | cases ht | skip)
  all_goals
    rename_i hd
    cases k <;> simp only [keyOk, Bool.false_eq_true] at h <;> cases hv <;> exact run_check1 hd (by simp) (by simp) (by simp) b _ w

theorem run_findKey {kk : Nat} {t : TypeId} {d : TypeDesc} (hd : P.underlying t = some d) {u : Value} {es : List MapEntry} {r : Option (Nat × Value)} (h : Instr.findNow d u es 0 = some r) (w : World) : (Instr.findKey t u es).run P w = .ok r w := by
  unfold Instr.findKey
  rw [Sem.run_bind, run_underlying hd w]
  simp only [Result.andThen, h]
  rfl

theorem cellKind_desc {kk : Nat} {t : TypeId} (ht : cellKind P t kk = true) : ∃ d, P.underlying t = some d := by
  unfold cellKind at ht
  split at ht <;> first | exact ⟨_, by assumption⟩ | cases ht

theorem map_inv {id : Nat} {u : Value} (h : VR c M ρ (.mp id) u) : ∃ b sz tot, ρ id = some (b, sz, tot) ∧ u = .map (some b) := by cases h with | mp h => exact ⟨_, _, _, h, rfl⟩

theorem mapOf_spec {m : AVal} {kv : List (AVal × AVal)} {u : Value} (h : mapOf H m = some kv) (hH : HR c w0 base M ρ H w) (hv : VR c M ρ m u) :
    ∃ es : Array MapEntry, es.size = kv.length ∧ (∀ (j : Nat) (p : AVal × AVal), kv[j]? = some p → ∃ e, es[j]? = some e ∧ VR c M ρ p.1 e.key ∧ VR c M ρ p.2 e.val) ∧
      ((u = .map none ∧ es = #[]) ∨ ∃ b clock, u = .map (some b) ∧ w.heap[b]? = some (.map es clock)) := by
  unfold mapOf at h
  split at h
  · cases h; cases hv; exact ⟨#[], rfl, fun j p hp => by simp at hp, .inl ⟨rfl, rfl⟩⟩
  · rename_i id
    split at h
    · rename_i kv' hget
      cases h
      obtain ⟨b, sz, tot, hp, rfl⟩ := map_inv hv
      obtain ⟨b2, sz2, tot2, hp2, hb1, hb2, hO⟩ := hH.obj _ _ hget
      rw [hp] at hp2
      simp only [Option.some.injEq, Prod.mk.injEq] at hp2
      obtain ⟨rfl, rfl, rfl⟩ := hp2
      obtain ⟨_, es, clock, hw, hs, hr⟩ := hO
      exact ⟨es, hs, hr, .inr ⟨b, clock, rfl, hw⟩⟩
    · cases h
  · cases h

theorem run_getMap {w : World} {b : Nat} {es : Array MapEntry} {clock : Nat} (h : w.heap[b]? = some (.map es clock)) : (getObj b).run P w = .ok (.map es clock) w := by simp [getObj, Sem.run, h]

theorem op_lookup {kk : Nat} {z : AVal} {m k : Opd} {ok : Bool} (hm : mOp P c o (.lookup kk z m k ok) = true) (hx : lookupA kk z ok (ev tm m) (ev tm k) H = some v) (hT : TR c M ρ tm a.tmps) (hH : HR c w0 base M ρ H w) :
    Res c w0 base M ρ ((execOp a.eval o).run P w) v H := by
  cases hop : o.op <;> simp only [mOp, hop, Bool.false_eq_true, Bool.and_eq_true, beq_iff_eq] at hm
  rename_i t m' k' ok'
  obtain ⟨⟨⟨h1, h2⟩, h3⟩, rfl⟩ := hm
  split at h1
  case h_2 => cases h1
  rename_i kt et hu
  simp only [Bool.and_eq_true] at h1
  obtain ⟨hk, h1⟩ := h1
  split at h1
  case h_2 => cases h1
  rename_i i hi
  split at h1
  case h_2 => cases h1
  rename_i zv hz
  have hvm := ev_vr hT h2
  have hvk := ev_vr hT h3
  unfold lookupA at hx
  split at hx
  case h_2 => cases hx
  rename_i kv hkv
  split at hx
  case isFalse => cases hx
  rename_i hks
  simp only [keysOk, Bool.and_eq_true] at hks
  obtain ⟨es, hsz, hr, hmap⟩ := mapOf_spec hkv hH hvm
  obtain ⟨d, hd⟩ := cellKind_desc hk
  have hck := fun b => run_checkKey (P := P) hk hks.1 hvk b w
  have hzr := run_zeroValue hi hz w
  rcases find_spec hd hk hks.1 hvk kv es.toList 0 (by simpa using hsz) hks.2 (fun j p hp => by simpa using hr j p hp) with ⟨f1, f2, _, _⟩ | ⟨j, e, p, f1, f2, f3, f4, f5, f6, f7, _, _⟩
  · have hf := run_findKey (P := P) (kk := kk) hd f1 w
    rw [f2] at hx
    simp only [Option.some.injEq] at hx
    subst hx
    have hzv := mVal_vr c M ρ z zv h1
    have hrun : (execOp a.eval o).run P w = .ok (.value (if ok' then .tuple #[zv, .bool false] else zv)) w := by
      rcases hmap with ⟨hu', rfl⟩ | ⟨b, clock, hu', hw⟩
      · simp at hf
        simp [execOp, hop, Instr.lookup, run_underlying hu, hu', hck, hf, hzr]
      · simp [execOp, hop, Instr.lookup, run_underlying hu, hu', hck, hf, hzr, run_getMap hw]
    refine .val hrun ?_ hH
    cases ok' with
    | false => exact hzv
    | true => exact .tup _ _ rfl (fun j x u hx hu => by
        match j with
        | 0 => simp at hx hu; subst hx; subst hu; exact hzv
        | 1 => simp at hx hu; subst hx; subst hu; exact .bool _
        | j + 2 => simp at hx)
  · have hf := run_findKey (P := P) (kk := kk) hd f1 w
    rw [f4] at hx
    simp only [Option.some.injEq] at hx
    subst hx
    have hrun : (execOp a.eval o).run P w = .ok (.value (if ok' then .tuple #[e.val, .bool true] else e.val)) w := by
      rcases hmap with ⟨hu', rfl⟩ | ⟨b, clock, hu', hw⟩
      · simp at f2
      · simp [execOp, hop, Instr.lookup, run_underlying hu, hu', hck, hf, hzr, run_getMap hw]
    refine .val hrun ?_ hH
    cases ok' with
    | false => exact f6
    | true => exact .tup _ _ rfl (fun j x u hx hu => by
        match j with
        | 0 => simp at hx hu; subst hx; subst hu; exact f6
        | 1 => simp at hx hu; subst hx; subst hu; exact .bool _
        | j + 2 => simp at hx)

theorem run_setMap {w : World} {b : Nat} {es : Array MapEntry} {clock : Nat} (h : w.heap[b]? = some (.map es clock)) (o : Obj) : ∃ w', (setObj b o).run P w = .ok () w' ∧ w'.heap[b]? = some o ∧ w'.heap.size = w.heap.size ∧
    (∀ k, k ≠ b → w'.heap[k]? = w.heap[k]?) ∧ w'.os = w.os ∧ w'.tape = w.tape ∧ w'.output = w.output := by
  have hb : b < w.heap.size := (Array.getElem?_eq_some_iff.1 h).1
  refine ⟨{ w with heap := w.heap.setIfInBounds b o }, by simp [setObj, Sem.run, h], by simp [hb], by simp, fun k hk => by simp [Array.getElem?_setIfInBounds_ne (Ne.symm hk)], rfl, rfl, rfl⟩

/-- A map turns. -/
theorem HR.turnMap (hH : HR c w0 base M ρ H w) {id b sz tot : Nat} {kv kv' : List (AVal × AVal)} {es es' : Array MapEntry} {clock clock' : Nat} (hget : H.get id = some (.map kv)) (hp : ρ id = some (b, sz, tot)) (hw : w.heap[b]? = some (.map es clock))
    (hs : es'.size = kv'.length) (hr : ∀ (j : Nat) (p : AVal × AVal), kv'[j]? = some p → ∃ e, es'[j]? = some e ∧ VR c M ρ p.1 e.key ∧ VR c M ρ p.2 e.val) :
    ∃ w', (setObj b (.map es' clock')).run P w = .ok () w' ∧ HR c w0 base M ρ (H.set id (.map kv')) w' := by
  obtain ⟨w', h1, h2, h3, h4, h5, h6, h7⟩ := run_setMap (P := P) hw (.map es' clock')
  obtain ⟨b2, sz2, tot2, hp2, hb1, hb2, hO⟩ := hH.obj _ _ hget
  rw [hp] at hp2
  simp only [Option.some.injEq, Prod.mk.injEq] at hp2
  obtain ⟨rfl, rfl, rfl⟩ := hp2
  refine ⟨w', h1, hH.turn hget hp _ hb1 (hH.below.trans ⟨h5, h6, h7, by rw [h3]; exact Nat.le_refl _, fun k hk => h4 k (by omega)⟩) h3 h4 ⟨hO.1, es', clock', h2, hs, hr⟩ fun q u hu => ?_⟩
  rw [hO.1 q] at hu; cases hu

theorem op_mapUpdate {kk id : Nat} {m k x : Opd} {kv : List (AVal × AVal)} (hm : mOp P c o (.mapUpdate kk m k x) = true) (hev : ev tm m = .mp id) (hget : H.get id = some (.map kv)) (hks : keysOk kk kv (ev tm k) = true)
    (hT : TR c M ρ tm a.tmps) (hH : HR c w0 base M ρ H w) : Res c w0 base M ρ ((execOp a.eval o).run P w) undefA (H.set id (.map (kvSet kv (ev tm k) (ev tm x)))) := by
  have main : ∀ t m' k' x', (execOp a.eval o = do Instr.mapUpdate t (a.eval m') (a.eval k') (a.eval x'); pure .skip) → (match P.underlying t with | some (.map kt _) => cellKind P kt kk | _ => false) = true → mOpd c m' m = true → mOpd c k' k = true → mOpd c x' x = true →
      Res c w0 base M ρ ((execOp a.eval o).run P w) undefA (H.set id (.map (kvSet kv (ev tm k) (ev tm x)))) := by
    intro t m' k' x' hrun h1 h2 h3 h4
    split at h1
    case h_2 => cases h1
    rename_i kt et hu
    simp only [keysOk, Bool.and_eq_true] at hks
    obtain ⟨b, sz, tot, hp, hmv⟩ := map_inv (hev ▸ ev_vr hT h2)
    have hvk := ev_vr hT h3
    have hvx := ev_vr hT h4
    obtain ⟨b2, sz2, tot2, hp2, hb1, hb2, hO⟩ := hH.obj _ _ hget
    rw [hp] at hp2
    simp only [Option.some.injEq, Prod.mk.injEq] at hp2
    obtain ⟨rfl, rfl, rfl⟩ := hp2
    obtain ⟨_, es, clock, hw, hsz, hr⟩ := hO
    obtain ⟨d, hd⟩ := cellKind_desc h1
    have hck := run_checkKey (P := P) h1 hks.1 hvk false w
    rcases find_spec hd h1 hks.1 hvk kv es.toList 0 (by simpa using hsz) hks.2 (fun j p hp => by simpa using hr j p hp) with ⟨f1, f2, f3, _⟩ | ⟨j, e, p, f1, f2, f3, f4, f5, f6, f7, f8, _⟩
    · have hf := run_findKey (P := P) (kk := kk) hd f1 w
      rw [f3]
      obtain ⟨w', g1, g2⟩ := hH.turnMap (P := P) (clock' := clock + 1) (es' := es.push { key := a.eval k', val := a.eval x', born := clock }) (kv' := kv ++ [(ev tm k, ev tm x)]) hget hp hw (by simp [hsz]) (fun j p hp => by
        by_cases hj : j < kv.length
        · rw [List.getElem?_append_left hj] at hp
          obtain ⟨e, he, r⟩ := hr j p hp
          exact ⟨e, by rw [Array.getElem?_push, if_neg (by omega)]; exact he, r⟩
        · rw [List.getElem?_append_right (by omega)] at hp
          have hj0 : j - kv.length = 0 := by
            rcases Nat.eq_zero_or_pos (j - kv.length) with h | h
            · exact h
            · obtain ⟨q, hq⟩ : ∃ q, j - kv.length = q + 1 := ⟨j - kv.length - 1, by omega⟩
              rw [hq] at hp; simp at hp
          rw [hj0] at hp
          simp at hp
          subst hp
          exact ⟨_, by rw [Array.getElem?_push, if_pos (by omega)], hvk, hvx⟩)
      refine .skip (w' := w') ?_ g2
      rw [hrun]
      simp [Instr.mapUpdate, run_underlying hu, hmv, run_getMap hw, hck, hf, g1]
    · have hf := run_findKey (P := P) (kk := kk) hd f1 w
      have f2' : es[j]? = some e := by simpa using f2
      rw [f8]
      obtain ⟨w', g1, g2⟩ := hH.turnMap (P := P) (clock' := clock) (es' := es.modify j fun e => { e with key := a.eval k', val := a.eval x' }) (kv' := kv.set j (ev tm k, ev tm x)) hget hp hw (by simp [hsz]) (fun q p hp => by
        by_cases hj : j = q
        · subst hj
          rw [List.getElem?_set_self (by have := (List.getElem?_eq_some_iff.1 f3).1; exact this)] at hp
          cases hp
          exact ⟨_, by rw [Array.getElem?_modify, if_pos rfl, f2']; rfl, hvk, hvx⟩
        · rw [List.getElem?_set_ne hj] at hp
          obtain ⟨e, he, r⟩ := hr q p hp
          exact ⟨e, by rw [Array.getElem?_modify, if_neg hj]; exact he, r⟩)
      refine .skip (w' := w') ?_ g2
      rw [hrun]
      have hks2 : (Instr.keyThatStays e.key (a.eval k')).run P w = .ok (a.eval k') w := by simp [Instr.keyThatStays, f7]
      simp only [Nat.zero_add] at hf
      simp [Instr.mapUpdate, run_underlying hu, hmv, run_getMap hw, hck, hf, f2', hks2, g1]
  cases hop : o.op <;> simp only [mOp, hop, Bool.false_eq_true, Bool.and_eq_true] at hm
  · rename_i t m' k' x'
    exact main t m' k' x' (by simp [execOp, hop]) hm.1.1.1 hm.1.1.2 hm.1.2 hm.2
  · rename_i t m' k' x'
    exact main t m' k' x' (by simp [execOp, hop]) hm.1.1.1 hm.1.1.2 hm.1.2 hm.2
end
end Go.Abx
