/- Single operations (9: append, copy). -/
import Derived.Test.YtmnbafbicjgjgaaDoorAbxK
namespace Go.Abx
open Go.RowKit
set_option linter.unusedVariables false
set_option linter.unusedSimpArgs false

section
variable {P : Program} {c : Cx} {w0 : World} {base : Nat} {M : Mem} {ρ : Pl} {H H' : Heap} {w w' : World} {tm : Tm} {a : Act} {o : Oper} {env : Env} {v : AVal}

theorem Src.all {sz : Nat} {u : Value} {es : List AVal} {us : List Value} (h : Src P c M ρ w sz u es us) (w1 : World) (hw : ∀ ad, w1.cell? ad = w.cell? ad) :
    (Builtin.firstCells sz es.length u).run P w1 = .ok us.toArray w1 := by
  have := h.first es.length (Nat.le_refl _) w1 hw
  rw [← h.flat.1, List.take_length] at this
  exact this

theorem Src.go {sz : Nat} {u : Value} {es : List AVal} {us : List Value} (h : Src P c M ρ w sz u es us) (hsz : 0 < sz) {t : TypeId} (ht : srcIs P t = true) : Go.Src P sz t u es.length us w where
  kind := by
    unfold srcIs at ht
    split at ht
    · exact .inl ⟨_, by assumption⟩
    · exact .inr (by assumption)
    · cases ht
  len := h.len
  cells := h.all w fun _ => rfl
  cellsD := h.all w.drew fun ad => by simp
  newsLen := h.flat.1
  one := h.flat.one hsz

/-- A new row, of what there was and what is put behind it. -/
theorem append_grow {sz bytes : Nat} {t t2 e ty : TypeId} {i : TypeInfo} {z : Value} (he : P.underlying t = some (.slice e)) (hi : P.info? e = some i) (hz : i.zero = some z) (hs : i.size = sz) (hb : i.bytes = bytes) (hzs : z.cells.size = sz)
    (hsz : 0 < sz) (ht2 : srcIs P t2 = true) {ad : Option Addr} {sCap : Nat} {es new : List AVal} {us ns : List Value} {x : Value} (hS : Src P c M ρ w sz (.slice ad es.length sCap) es us) (hX : Src P c M ρ w sz x new ns)
    (hg : sCap < es.length + new.length) (hbb : (es.length + new.length) * bytes ≤ 140737488355328) (h63 : es.length + new.length ≤ maxLen) (hH : HR c w0 base M ρ H w) {r : Result Next}
    (hr : ∀ u w', (Builtin.append_ #[t, t2] ty #[.slice ad es.length sCap, x]).run P w = .ok u w' → r = .ok (.value u) w') (fr : Nat) (hfr : fr ≤ es.length) :
    Res c w0 base M ρ r (.hs H.next 0 (es.length + new.length) none) (H.new (.arr (es ++ new) sz none fr)) := by
  subst hs
  subst hb
  have h := run_append_grow_src (P := P) w t t2 ty e i z he hi hz ad es.length sCap us (hS.all w.drew fun ad => by simp) x new.length ns (hX.go hsz ht2) hg (by simp [maxLen] at h63; omega) (growslice_fits hg hbb)
  have hr' := hr _ _ h
  have hge := grownCap_ge w (es.length + new.length) sCap e
  have hF := hS.flat.app hX.flat
  have hl := hF.1
  simp only [List.length_append] at hl
  have hr'' : r = .ok (.value (.slice (some ⟨w.drew.heap.size, 0, none⟩) (es ++ new).length (grownCap w (es.length + new.length) sCap e)))
      (w.drew.alloc (.cells ((us ++ ns).toArray ++ Builtin.zeroCells z.cells (grownCap w (es.length + new.length) sCap e - (es.length + new.length))) e)) := by
    rw [List.length_append]; exact hr'
  have := res_newSliceF (lim := none) fr (by simp; omega) hr'' hH.drew hF hsz (by rw [List.length_append]; exact hge) (cap := none) (by simp) (by simp)
    (by rw [Array.size_append, size_zeroCells, hzs]; simp only [List.size_toArray, List.length_append, hl]; rw [← Nat.add_mul]; congr 1; omega) (.inl rfl) (fun j u' hj => by
      have hj' := (List.getElem?_eq_some_iff.1 hj).1
      rw [Array.getElem?_append_left (by simpa using hj')]
      simpa using hj)
  rw [List.length_append] at this
  exact this

theorem app_inv {sz bytes : Nat} {s x : Opd} (hm : mOp P c o (.append sz bytes s x) = true) : ∃ s' x' t u e i z, o.op = .call { callee := .builtin .append, args := #[s', x'], argTypes := #[t, u] } ∧ P.underlying t = some (.slice e) ∧ P.info? e = some i ∧
    i.zero = some z ∧ i.size = sz ∧ i.bytes = bytes ∧ z.cells.size = sz ∧ 0 < sz ∧ 0 < bytes ∧ srcIs P u = true ∧ mOpd c s' s = true ∧ mOpd c x' x = true := by
  simp only [mOp] at hm
  split at hm
  case h_2 => cases hm
  rename_i s' x' t u hbc
  have hop := bcall_inv hbc
  simp only [Bool.and_eq_true] at hm
  obtain ⟨⟨⟨h1, h2⟩, h3⟩, h4⟩ := hm
  obtain ⟨e, he, h1⟩ := elem_inv h1
  simp only [Bool.and_eq_true, decide_eq_true_eq] at h1
  obtain ⟨⟨⟨⟨g1, g2⟩, g3⟩, g5⟩, g4⟩ := h1
  obtain ⟨i, gi, gs⟩ := sz_inv g1
  obtain ⟨i', gi', gb⟩ := by_inv g3
  rw [gi] at gi' g4
  cases gi'
  simp only at g4
  split at g4
  · rename_i z hz
    exact ⟨s', x', t, u, e, i, z, hop, he, gi, hz, gs, gb, by simpa using g4, g2, g5, h2, h3, h4⟩
  · cases g4

theorem src_len {sz : Nat} {ad : Option Addr} {n k : Nat} {es : List AVal} {us : List Value} (h : Src P c M ρ w sz (.slice ad n k) es us) : n = es.length := by
  have := h.len w
  simpa [Builtin.lenOf] using this

/-- Behind all that is known of a row: in its room, or in a new one. -/
theorem append_mine {sz bytes : Nat} {t t2 e ty : TypeId} {i : TypeInfo} {z : Value} (he : P.underlying t = some (.slice e)) (hi : P.info? e = some i) (hz : i.zero = some z) (hs : i.size = sz) (hb : i.bytes = bytes) (hzs : z.cells.size = sz)
    (hsz : 0 < sz) (ht2 : srcIs P t2 = true) {b id tot fr : Nat} {cap : Option Nat} {es new : List AVal} {us ns : List Value} {s x : Value} (hsv : s = .slice (some ⟨b, 0 * sz, none⟩) es.length tot) (hget : H.get id = some (.arr es sz cap fr)) (hp : ρ id = some (b, sz, tot))
    (hb1 : base ≤ b) (hb2 : b < w.heap.size) (hO : OR c M ρ w b sz tot (.arr es sz cap fr)) (hS : Src P c M ρ w sz (.slice (some ⟨b, 0 * sz, none⟩) es.length tot) es us) (hX : Src P c M ρ w sz x new ns)
    (hbb : (es.length + new.length) * bytes ≤ 140737488355328) (h63 : es.length + new.length ≤ maxLen) (hH : HR c w0 base M ρ H w) {r : Result Next}
    (hr : ∀ u w', (Builtin.append_ #[t, t2] ty #[s, x]).run P w = .ok u w' → r = .ok (.value u) w') :
    Res c w0 base M ρ r (.hs H.next 0 (es.length + new.length) none) ((H.drop id).new (.arr (es ++ new) sz none fr)) := by
  subst hsv
  have hD := hH.drop id
  rcases Nat.lt_or_ge tot (es.length + new.length) with hroom | hroom
  · exact append_grow (r := r) (H := H.drop id) he hi hz hs hb hzs hsz ht2 hS hX hroom hbb h63 hD hr fr hO.2.2.2.1
  · obtain ⟨hz1, hsz', hle', hfr, hcap, hMn, cs, E, fz, hw, hcs, hfz, hels, hvv⟩ := hO
    have hF := hS.flat.app hX.flat
    have hnl := hX.flat.1
    have hle2 : es.length * sz + ns.length ≤ cs.size := by rw [hcs, hnl, ← Nat.add_mul]; exact Nat.mul_le_mul_right _ hroom
    obtain ⟨w', cs', hst, hW, hcs'⟩ := run_storeCells P b (es.length * sz) E fz ns 0 w cs hw (by simpa using hle2) (fun q hq => fz_ok hfz q (by rw [← hcs]; exact hq)) (hX.flat.one hsz)
    have hcells : (Builtin.firstCells sz new.length x).run P w = .ok ns.toArray w := hX.all w fun _ => rfl
    have hk := (hX.go hsz ht2).kind
    have hrun : (Builtin.append_ #[t, t2] ty #[.slice (some ⟨b, 0 * sz, none⟩) es.length tot, x]).run P w = .ok (.slice (some ⟨b, 0 * sz, none⟩) (es.length + new.length) tot) w' := by
      rcases hk with ⟨e', hk⟩ | hk <;> simp only [Nat.zero_mul] <;> simp [Builtin.append_, run_underlying he, run_underlying hk, sizeOf, typeInfo, hi, hX.len, hroom, hcells, addr_add, hs, hst]
    have hno : ∀ j o s' t', (H.drop id).get j = some o → ρ j ≠ some (b, s', t') := fun j o s' t' hj hq => by
      by_cases hi' : id = j
      · subst hi'; rw [Heap.get_drop] at hj; cases hj
      · rw [Heap.get_drop_ne H id j hi'] at hj
        exact hi' (hH.dist id j _ _ b sz tot s' t' hget hj hp hq)
    have hW1 : HR c w0 base M ρ (H.drop id) w' := hD.scribble hno (hW.below hH.below hb1) hW.size hW.others (fun q u' hu' => by
      have hlt : q < fr * sz := by
        rcases Nat.lt_or_ge q (fr * sz) with h | h
        · exact h
        · rw [hMn q h] at hu'; cases hu'
      have hfl : fr * sz ≤ es.length * sz := Nat.mul_le_mul_right _ hfr
      have := hH.mem b q u' hu'
      have hcell : (w'.cell? ⟨b, q, none⟩) = cs'[q]? := by simp [World.cell?, hW.heap]
      have hcell0 : (w.cell? ⟨b, q, none⟩) = cs[q]? := by simp [World.cell?, hw]
      rw [hcell0] at this
      rw [hcell, hcs', if_neg (by omega)]
      exact this)
    have hg := hW1.lay_grows (b, sz, tot)
    refine ⟨_, _, .inl (hr _ _ hrun), M, _, hg, ?_, hW1.lay _ b sz tot hb1 (by rw [hW.size]; exact hb2) ?_ hno⟩
    · have := VR.hs (c := c) (M := M) (ρ := plNew ρ (H.drop id).next (b, sz, tot)) (id := (H.drop id).next) (b := b) (sz := sz) (tot := tot) 0 (es.length + new.length) tot none (by simp [plNew]) (fun _ => by simp) (by simp) hroom (by omega)
      exact this
    · have hF' := hF.mono hg.m hg.p
      refine ⟨rfl, hsz, by simpa using hroom, by simp; omega, by simp, hMn, cs', E, fz, hW.heap, by rw [hW.len, hcs], hfz, hF'.2.1, fun j e' he' i' y hy => ?_⟩
      have hil : i' < sz := by rw [← (hF'.2.1 j e' he').1]; exact (List.getElem?_eq_some_iff.1 hy).1
      have hul := hS.flat.1
      by_cases hj : j < es.length
      · rw [List.getElem?_append_left hj] at he'
        obtain ⟨u', hu', hv'⟩ := hvv j e' he' i' y hy
        refine ⟨u', ?_, hv'.grow hg⟩
        have := row_lt hj hil
        rw [hcs', if_neg (by omega)]
        exact hu'
      · obtain ⟨u', hu', hv'⟩ := hF'.2.2 j e' he' i' y hy
        refine ⟨u', ?_, hv'⟩
        have : es.length * sz ≤ j * sz := Nat.mul_le_mul_right _ (by omega)
        rw [List.getElem?_append_right (by omega)] at hu'
        have hl2 := (List.getElem?_eq_some_iff.1 hu').1
        rw [hcs', if_pos (by omega), Nat.add_zero, ← hul]
        exact hu'

theorem op_append {sz bytes : Nat} {s x : Opd} (hm : mOp P c o (.append sz bytes s x) = true) (hs1 : stride H sz (ev tm s) = true) (hs2 : stride H sz (ev tm x) = true)
    (hx : appendA sz bytes (ev tm s) (ev tm x) H = some (v, H')) (hT : TR c M ρ tm a.tmps) (hH : HR c w0 base M ρ H w) :
    Res c w0 base M ρ ((execOp a.eval o).run P w) v H' := by
  obtain ⟨s', x', t, u, e, i, z, hop, he, hi, hz, hs, hb, hzs, hsz, hbp, hu, hms, hmx⟩ := app_inv hm
  have hvs := ev_vr hT hms
  have hvx := ev_vr hT hmx
  unfold appendA at hx
  split at hx
  case h_1 => cases hx
  rename_i new hnew
  obtain ⟨ns, hX⟩ := src_spec (P := P) hH hvx hs2 hsz hnew
  have run : ∀ u' w', (Builtin.append_ #[t, u] o.type #[a.eval s', a.eval x']).run P w = .ok u' w' → (execOp a.eval o).run P w = .ok (.value u') w' := fun u' w' h => by
    simp [execOp, hop, resolve, invoke, builtin, h]
  split at hx
  · -- nothing is put behind it
    rename_i hne
    have hnil : new = [] := by simpa using hne
    subst hnil
    have hns : ns = [] := by have := hX.flat.1; simpa using this
    subst hns
    have hs0 : (Builtin.firstCells i.size 0 (a.eval x')).run P w = .ok #[] w := by rw [hs]; exact hX.all w fun _ => rfl
    have hl0 : (Builtin.lenOf (a.eval x')).run P w = .ok 0 w := hX.len w
    have hk : (∃ e', P.underlying u = some (.slice e')) ∨ P.underlying u = some .string := (hX.go hsz hu).kind
    have fin : ∀ ad n k, a.eval s' = .slice ad n k → n ≤ k → (Builtin.append_ #[t, u] o.type #[a.eval s', a.eval x']).run P w = .ok (a.eval s') w := fun ad n k h hnk => by
      rw [h]
      cases ad <;> rcases hk with ⟨e', hk⟩ | hk <;> simp [Builtin.append_, run_underlying he, run_underlying hk, sizeOf, typeInfo, hi, hl0, hnk, hs0, storeCells]
    split at hx
    · rename_i ev1
      cases hx
      rw [ev1] at hvs
      exact .val (run _ _ (fin _ _ _ (nilsl_inv hvs) (Nat.le_refl _))) (by rw [ev1]; exact hvs) hH
    · rename_i ev1
      cases hx
      rw [ev1] at hvs
      obtain ⟨ad, cap', hu', hle, _⟩ := vs_inv hvs
      exact .val (run _ _ (fin _ _ _ hu' hle)) (by rw [ev1]; exact hvs) hH
    · rename_i ev1
      cases hx
      rw [ev1] at hvs
      obtain ⟨b, sz', tot, cap', _, hu', _, _, hle, _⟩ := hs_inv hvs
      exact .val (run _ _ (fin _ _ _ hu' hle)) (by rw [ev1]; exact hvs) hH
    · cases hx
  · rename_i hne
    have hpos : 0 < new.length := by
      cases new with
      | nil => simp at hne
      | cons _ _ => simp
    have h63' : ∀ n : Nat, n * bytes ≤ 140737488355328 → n ≤ maxLen := fun n h => by
      have : n * 1 ≤ n * bytes := Nat.mul_le_mul_left _ hbp
      simp [maxLen]; omega
    split at hx
    · -- nil
      rename_i ev1
      split at hx
      case isFalse => cases hx
      rename_i hbb
      cases hx
      have hu' := nilsl_inv (ev1 ▸ hvs)
      obtain ⟨us, hS⟩ := src_spec (P := P) (x := .nilsl) (es := []) hH .nilsl rfl hsz (by rfl)
      have hus : us = [] := by have := hS.flat.1; simpa using this
      have := append_grow (r := (execOp a.eval o).run P w) (ty := o.type) (es := []) (ad := none) (sCap := 0) he hi hz hs hb hzs hsz hu hS hX (by simp only [List.length_nil]; omega) (by simp only [List.length_nil, Nat.zero_add]; exact hbb) (h63' _ (by simp only [List.length_nil, Nat.zero_add]; exact hbb)) hH (fun u' w' h => run u' w' (by rw [hu']; exact h)) 0 (Nat.zero_le _)
      simpa using this
    · -- a frozen slice without room
      rename_i es z' cap ev1
      split at hx
      case isFalse => cases hx
      rename_i hcond
      obtain ⟨hcap, hbb⟩ := hcond
      cases hx
      obtain ⟨ad, cap', hu', hle, hc, _⟩ := vs_inv (ev1 ▸ hvs)
      have hcap' := hc _ hcap
      obtain ⟨us, hS⟩ := src_spec (P := P) (es := es) hH (hu' ▸ hvs) hs1 hsz (by rw [ev1]; rfl)
      exact append_grow (ty := o.type) he hi hz hs hb hzs hsz hu hS hX (by omega) hbb (h63' _ hbb) hH (fun u' w' h => run u' w' (by rw [hu']; exact h)) 0 (Nat.zero_le _)
    · rename_i id st n lim ev1
      split at hx
      case h_2 => cases hx
      rename_i es z' cap fr hget
      split at hx
      case isFalse => cases hx
      rename_i hcond
      obtain ⟨hbb, hle⟩ := hcond
      obtain ⟨b, sz', tot, cap', hp, hu', h0, h1, hncap, htot⟩ := hs_inv (ev1 ▸ hvs)
      obtain ⟨b2, sz2, tot2, hp2, hb1, hb2, hO⟩ := hH.obj _ _ hget
      rw [hp] at hp2
      simp only [Option.some.injEq, Prod.mk.injEq] at hp2
      obtain ⟨rfl, rfl, rfl⟩ := hp2
      have hel : srcEls sz H (ev tm s) = some ((es.drop st).take n) := by simp [ev1, srcEls, elems, hget, hle]
      obtain ⟨us, hS⟩ := src_spec (P := P) hH hvs hs1 hsz hel
      have hn := src_len (hu' ▸ hS)
      obtain rfl : sz' = sz := hs_stride hH (ev1 ▸ hs1) hp
      obtain rfl : z' = sz' := hO.1
      by_cases hlim : lim = some n
      · -- no room is known behind it
        rw [if_pos hlim] at hx
        cases hx
        have hc' := h1 _ hlim
        have := append_grow (r := (execOp a.eval o).run P w) (ty := o.type) (es := (es.drop st).take n) (ad := some ⟨b, st * z', none⟩) (sCap := cap') he hi hz hs hb hzs hsz hu (by rw [← hn]; rw [hu'] at hS; exact hS) hX (by omega) (by rw [← hn]; exact hbb)
          (by rw [← hn]; exact h63' _ hbb) hH (fun u' w' h => run u' w' (by rw [hu', hn]; exact h)) 0 (Nat.zero_le _)
        rw [← hn] at this
        exact this
      · rw [if_neg hlim] at hx
        by_cases hcond : lim = none ∧ st = 0 ∧ n = es.length
        case neg => rw [if_neg hcond] at hx; cases hx
        rw [if_pos hcond] at hx
        obtain ⟨hl0, hst, hnl⟩ := hcond
        subst hst
        subst hnl
        cases hx
        have hel' : (es.drop 0).take es.length = es := by simp
        rw [hel'] at hS
        have hcapt := h0 hl0
        simp only [Nat.sub_zero] at hcapt
        subst hcapt
        exact append_mine he hi hz hs hb hzs hsz hu hu' hget hp hb1 hb2 hO (hu' ▸ hS) hX hbb (h63' _ hbb) hH run
    · cases hx
end
end Go.Abx
