/- Single operations (6: parts of slices and strings). -/
import Derived.Test.YtmnbafbicjgjgaaDoorAbxG
namespace Go.Abx
open Go.RowKit
set_option linter.unusedVariables false
set_option linter.unusedSimpArgs false

section
variable {P : Program} {c : Cx} {w0 : World} {base : Nat} {M : Mem} {ρ : Pl} {H H' : Heap} {w w' : World} {tm : Tm} {a : Act} {o : Oper} {env : Env} {v : AVal}

theorem bnd_spec {x : AVal} {u : Value} {top k : Nat} (h : bnd x top = some k) (hv : VR c M ρ x u) (code : BoundsCode) : (Instr.sliceBound u top code).run P w = .ok k w ∧ k ≤ top := by
  unfold bnd at h
  split at h
  · rename_i kd i
    split at h
    · rename_i hb
      cases h
      cases int_inv hv
      exact ⟨by simp [Instr.sliceBound, asIntOf, hb], by omega⟩
    · cases h
  · cases h

/-- Optional operands. -/
theorem opt_vr (hT : TR c M ρ tm a.tmps) {x : Option Operand} {x' : Option Opd} (h : mOpt c x x' = true) : (x = none ∧ x' = none) ∨ ∃ y y', x = some y ∧ x' = some y' ∧ VR c M ρ (ev tm y') (a.eval y) := by
  cases x <;> cases x' <;> simp [mOpt] at h
  · exact .inl ⟨rfl, rfl⟩
  · exact .inr ⟨_, _, rfl, rfl, ev_vr hT h⟩

theorem optBnd_spec (hT : TR c M ρ tm a.tmps) {x : Option Operand} {x' : Option Opd} (hm : mOpt c x x' = true) {d top k : Nat} (hd : d ≤ top) (h : optBnd d (x'.map (ev tm)) top = some k) (code : BoundsCode) (w : World) :
    (match x.map a.eval with | some v => Instr.sliceBound v top code | none => (pure d : Sem Nat)).run P w = .ok k w ∧ k ≤ top := by
  rcases opt_vr hT hm with ⟨rfl, rfl⟩ | ⟨y, y', rfl, rfl, hv⟩
  · simp [optBnd] at h; subst h; exact ⟨rfl, hd⟩
  · exact bnd_spec h hv code

/-- The bounds of a slice: low, high, and no maximum. -/
theorem run_bounds2 (hT : TR c M ρ tm a.tmps) {lo hi : Option Operand} {lo' hi' : Option Opd} (hl : mOpt c lo lo' = true) (hh : mOpt c hi hi' = true) {isS : Bool} {len cap l h : Nat} (hlc : len ≤ cap)
    (h1 : optBnd len (hi'.map (ev tm)) cap = some h) (h2 : optBnd 0 (lo'.map (ev tm)) h = some l) (w : World) :
    (Instr.sliceBounds isS len cap (lo.map a.eval) (hi.map a.eval) none).run P w = .ok (l, h, cap) w ∧ l ≤ h ∧ h ≤ cap := by
  obtain ⟨e1, e2⟩ := optBnd_spec (P := P) hT hh hlc h1 (if isS then .sliceAcap else .sliceAlen) w
  obtain ⟨e3, e4⟩ := optBnd_spec (P := P) hT hl (Nat.zero_le h) h2 .sliceB w
  refine ⟨?_, e4, e2⟩
  rcases opt_vr hT hh with ⟨rfl, rfl⟩ | ⟨y, y', rfl, rfl, hv⟩ <;> rcases opt_vr hT hl with ⟨rfl, rfl⟩ | ⟨z, z', rfl, rfl, hv'⟩ <;>
    simp_all [Instr.sliceBounds]

theorem optBnd_le {d top top' k : Nat} {x : Option AVal} (h : optBnd d x top = some k) (ht : top ≤ top') : optBnd d x top' = some k := by
  cases x with
  | none => exact h
  | some v =>
    simp only [optBnd, bnd] at h ⊢
    split at h
    · split at h
      · rename_i hb; rw [if_pos ⟨hb.1, by omega⟩]; exact h
      · cases h
    · cases h
theorem bnd_le {top top' k : Nat} {x : AVal} (h : bnd x top = some k) (ht : top ≤ top') : bnd x top' = some k := optBnd_le (d := 0) (x := some x) h ht

theorem run_bounds3 (hT : TR c M ρ tm a.tmps) {lo hi mx : Option Operand} {lo' : Option Opd} {hi' mx' : Opd} (hl : mOpt c lo lo' = true) (hh : mOpt c hi (some hi') = true) (hmx : mOpt c mx (some mx') = true) {isS : Bool} {len cap l h m : Nat}
    (h0 : bnd (ev tm mx') cap = some m) (h1 : bnd (ev tm hi') m = some h) (h2 : optBnd 0 (lo'.map (ev tm)) h = some l) (w : World) :
    (Instr.sliceBounds isS len cap (lo.map a.eval) (hi.map a.eval) (mx.map a.eval)).run P w = .ok (l, h, m) w ∧ l ≤ h ∧ h ≤ m ∧ m ≤ cap := by
  rcases opt_vr hT hmx with ⟨rfl, e⟩ | ⟨y, y', rfl, e, hv⟩
  · cases e
  cases e
  rcases opt_vr hT hh with ⟨rfl, e⟩ | ⟨z, z', rfl, e, hv'⟩
  · cases e
  cases e
  obtain ⟨e1, e2⟩ := bnd_spec (P := P) (w := w) h0 hv (if isS then .slice3Acap else .slice3Alen)
  obtain ⟨e3, e4⟩ := bnd_spec (P := P) (w := w) h1 hv' .slice3B
  obtain ⟨e5, e6⟩ := optBnd_spec (P := P) hT hl (Nat.zero_le h) h2 .slice3C w
  refine ⟨?_, e6, e4, e2⟩
  rcases opt_vr hT hl with ⟨rfl, rfl⟩ | ⟨z, z', rfl, rfl, hv'⟩ <;> simp_all [Instr.sliceBounds]

/-- A part of what is told of a slice's memory. -/
theorem vs_part {es : List AVal} {sz : Nat} {cap cap2 : Option Nat} {ad : Addr} {cap' l h m : Nat} (hv : VR c M ρ (.vs es sz cap) (.slice (some ad) es.length cap')) (hlh : l ≤ h) (hhl : h ≤ es.length) (hm : h ≤ m)
    (hc2 : ∀ k, cap2 = some k → k = m - l) : VR c M ρ (.vs ((es.drop l).take (h - l)) sz cap2) (.slice (some (if m = l then ad else ad.add (l * sz))) (h - l) (m - l)) := by
  obtain ⟨ad', cap'', he, hle, hcap, hsz, hne⟩ := vs_inv hv
  simp only [Value.slice.injEq, Option.some.injEq] at he
  obtain ⟨rfl, _, rfl⟩ := he
  have hlen : ((es.drop l).take (h - l)).length = h - l := by simp; omega
  have hg : ∀ (j : Nat) (e : AVal), ((es.drop l).take (h - l))[j]? = some e → es[l + j]? = some e := fun j e he => by
    rw [List.getElem?_take] at he
    split at he
    · rw [List.getElem?_drop] at he; exact he
    · cases he
  by_cases hemp : h = l
  · subst hemp
    have e0 : (es.drop h).take (h - h) = [] := by simp
    rw [e0]
    have := VR.vs (c := c) (M := M) (ρ := ρ) [] sz cap2 (some (if m = h then ad else ad.add (h * sz))) (m - h) 0 0 (fun _ _ => undef) (fun hq => absurd rfl hq) rfl (fun k hk => (hc2 k hk)) (Nat.zero_le _)
      (fun j e he => by simp at he) (fun j e he => by simp at he) (fun j e he => by simp at he)
    simpa using this
  · obtain ⟨hsp, hmm⟩ := hne (by rintro rfl; simp at hhl; omega)
    obtain ⟨b, q, spot⟩ := ad
    simp only at hsp
    subst hsp
    rw [if_neg (by omega), addr_add, ← hlen]
    have := VR.vs (c := c) (M := M) (ρ := ρ) ((es.drop l).take (h - l)) sz cap2 (some ⟨b, q + l * sz, none⟩) (m - l) b (q + l * sz) (fun j i => (M b (q + l * sz + j * sz + i)).getD undef) (fun _ => rfl) rfl (fun k hk => (hc2 k hk)) (by rw [hlen]; omega)
      (fun j e he => hsz _ e (hg j e he))
      (fun j e he i x hx => by
        obtain ⟨y, hy, _⟩ := hmm _ e (hg j e he) i x hx
        simp only [Nat.add_mul] at hy
        rw [show q + l * sz + j * sz + i = q + (l * sz + j * sz) + i by omega, hy]; rfl)
      (fun j e he i x hx => by
        obtain ⟨y, hy, hvy⟩ := hmm _ e (hg j e he) i x hx
        simp only [Nat.add_mul] at hy
        rw [show q + l * sz + j * sz + i = q + (l * sz + j * sz) + i by omega, hy]; exact hvy)
    rw [hlen] at this ⊢
    exact this

theorem byteInts_extract (s : ByteArray) (l h : Nat) : byteInts (s.extract l h) = ((byteInts s).drop l).take (h - l) := by
  obtain ⟨⟨d⟩⟩ := s
  have e : ByteArray.mk ⟨d⟩ = ByteArray.mk d.toArray := rfl
  rw [e, ByteArray.extract_mk]
  simp [byteInts, List.map_drop, List.map_take]

/-- The executor's bounds are Go's, at whatever capacity. -/
theorem bounds_spec (hT : TR c M ρ tm a.tmps) {lo hi mx : Option Operand} {lo' hi' mx' : Option Opd} (h1 : mOpt c lo lo' = true) (h2 : mOpt c hi hi' = true) (h3 : mOpt c mx mx' = true) {len cap l h : Nat} {k : Option Nat}
    (hlc : len ≤ cap) (hb : bounds len (lo'.map (ev tm)) (hi'.map (ev tm)) (mx'.map (ev tm)) = some (l, h, k)) (isS : Bool) (w : World) :
    ∃ m, (Instr.sliceBounds isS len cap (lo.map a.eval) (hi.map a.eval) (mx.map a.eval)).run P w = .ok (l, h, m) w ∧ l ≤ h ∧ h ≤ len ∧ h ≤ m ∧ m ≤ cap ∧ (k = none → m = cap) ∧ (∀ q, k = some q → q = m - l) := by
  unfold bounds at hb
  cases mx' with
  | none =>
    simp only [Option.map_none] at hb
    split at hb
    case h_2 => cases hb
    rename_i h' hh
    split at hb
    case h_2 => cases hb
    rename_i l' hl
    cases hb
    have hmx : mx = none := by cases mx <;> simp_all [mOpt]
    subst hmx
    obtain ⟨e1, e2, e3⟩ := run_bounds2 (P := P) hT h1 h2 (isS := isS) hlc (optBnd_le hh hlc) hl w
    have hle : h ≤ len := (optBnd_spec (P := P) hT h2 (Nat.le_refl len) hh .sliceAlen w).2
    exact ⟨cap, e1, e2, hle, e3, Nat.le_refl _, fun _ => rfl, (fun q hq => by cases hq)⟩
  | some mv =>
    simp only [Option.map_some] at hb
    cases hi' with
    | none => simp at hb
    | some hv =>
      simp only [Option.map_some] at hb
      split at hb
      case h_2 => cases hb
      rename_i m hm
      split at hb
      case h_2 => cases hb
      rename_i h' hh
      split at hb
      case h_2 => cases hb
      rename_i l' hl
      cases hb
      obtain ⟨e1, e2, e3, e4⟩ := run_bounds3 (P := P) hT h1 h2 h3 (isS := isS) (len := len) (bnd_le hm hlc) hh hl w
      have hml : m ≤ len := by
        unfold bnd at hm
        split at hm
        · split at hm
          · cases hm; omega
          · cases hm
        · cases hm
      exact ⟨m, e1, e2, by omega, e3, e4, (fun hq => by cases hq), (fun q hq => by cases hq; rfl)⟩

theorem op_slice {str : Bool} {sz : Nat} {x : Opd} {lo hi mx : Option Opd} (hm : mOp P c o (.slice str sz x lo hi mx) = true) (hs : stride H sz (ev tm x) = true)
    (hx : sliceA str sz (ev tm x) (lo.map (ev tm)) (hi.map (ev tm)) (mx.map (ev tm)) = some v) (hT : TR c M ρ tm a.tmps) (hH : HR c w0 base M ρ H w) : Res c w0 base M ρ ((execOp a.eval o).run P w) v H := by
  cases hop : o.op <;> simp only [mOp, hop, Bool.false_eq_true, Bool.and_eq_true] at hm
  rename_i t x' lo' hi' mx'
  obtain ⟨⟨⟨⟨hk, h1⟩, h2⟩, h3⟩, h4⟩ := hm
  have hv := ev_vr hT h1
  have fin : ∀ u, (Instr.sliceAt t (a.eval x') (lo'.map a.eval) (hi'.map a.eval) (mx'.map a.eval)).run P w = .ok u w → VR c M ρ v u → Res c w0 base M ρ ((execOp a.eval o).run P w) v H :=
    fun u hu hvu => .val (u := u) (by simp [execOp, hop, hu]) hvu hH
  cases str with
  | true =>
    split at hk
    case h_1 hh _ => cases hh
    case h_3 => cases hk
    rename_i hu
    cases hev : ev tm x <;> rw [hev] at hx hv hs <;> simp only [sliceA, reduceCtorEq, if_true] at hx
    rename_i s
    unfold sliceStr at hx
    split at hx
    · cases hx
    rename_i hmx
    have hmx' : mx' = none := by
      rcases opt_vr hT h4 with ⟨e, e'⟩ | ⟨y, y', e, e', _⟩
      · exact e
      · rw [e'] at hmx; simp at hmx
    subst hmx'
    obtain ⟨S, he, rfl⟩ := str_inv hv
    split at hx
    case h_2 => cases hx
    rename_i h hh
    split at hx
    case h_2 => cases hx
    rename_i l hl
    cases hx
    obtain ⟨e1, e2, e3⟩ := run_bounds2 (P := P) hT h2 h3 (isS := false) (Nat.le_refl S.size) (by rw [← byteInts_len]; exact hh) hl w
    refine fin (.string (S.extract l h)) ?_ (by rw [← byteInts_extract]; exact .str _)
    rw [he]
    simp [Instr.sliceAt, Instr.slice, run_underlying hu, e1]
  | false =>
    split at hk
    case h_2 hh _ => cases hh
    case h_3 => cases hk
    rename_i e hu
    obtain ⟨info, hinfo, hisz⟩ := sz_inv hk
    -- Go's run, from its bounds
    have go : ∀ {ad : Option Addr} {len cap l h m : Nat}, a.eval x' = .slice ad len cap → (Instr.sliceBounds true len cap (lo'.map a.eval) (hi'.map a.eval) (mx'.map a.eval)).run P w = .ok (l, h, m) w →
        (Instr.sliceAt t (a.eval x') (lo'.map a.eval) (hi'.map a.eval) (mx'.map a.eval)).run P w = .ok (.slice (if m = l then ad else ad.map (·.add (l * sz))) (h - l) (m - l)) w := fun he hb => by
      rw [he]
      simp [Instr.sliceAt, Instr.slice, run_underlying hu, hb, run_sizeOf hinfo, hisz]
    cases hev : ev tm x <;> rw [hev] at hx hv hs <;> simp only [sliceA, reduceCtorEq, Bool.false_eq_true, if_false] at hx
    · -- nil
      split at hx
      case h_2 => cases hx
      rename_i p hb
      obtain ⟨l, h, k⟩ := p
      cases hx
      have he := nilsl_inv hv
      obtain ⟨m, e1, e2, e3, e4, e5, _⟩ := bounds_spec (P := P) hT h2 h3 h4 (Nat.le_refl 0) hb true w
      have hm0 : m = 0 := by omega
      have hl0 : l = 0 := by omega
      have hh0 : h = 0 := by omega
      subst hm0; subst hl0; subst hh0
      have := go he e1
      exact fin _ this .nilsl
    · -- what is frozen
      rename_i es z cap
      cases vs_stride hs
      obtain ⟨ad, cap', he, hle, hcap, hsz, hne⟩ := vs_inv hv
      split at hx
      case h_3 => cases hx
      · rename_i l h hb
        cases hx
        obtain ⟨m, e1, e2, e3, e4, e5, e6, e7⟩ := bounds_spec (P := P) hT h2 h3 h4 hle hb true w
        have hr := go he e1
        refine fin _ hr ?_
        have := vs_part (cap2 := cap.map (· - l)) (m := m) (by rw [← he]; exact hv) e2 e3 e4 (fun q hq => by
          simp only [Option.map_eq_some_iff] at hq
          obtain ⟨k0, hk0, rfl⟩ := hq
          rw [hcap k0 hk0, e6 rfl])
        split
        · rename_i hml; rw [if_pos hml] at this; exact this
        · rename_i hml; rw [if_neg hml] at this; exact this
      · rename_i l h k hb
        cases hx
        obtain ⟨m, e1, e2, e3, e4, e5, e6, e7⟩ := bounds_spec (P := P) hT h2 h3 h4 hle hb true w
        have hr := go he e1
        refine fin _ hr ?_
        have := vs_part (cap2 := some k) (m := m) (by rw [← he]; exact hv) e2 e3 e4 (fun q hq => by cases hq; exact e7 _ rfl)
        split
        · rename_i hml; rw [if_pos hml] at this; exact this
        · rename_i hml; rw [if_neg hml] at this; exact this
    · -- an object's
      rename_i id s n lim
      obtain ⟨b, z, tot, cap', hp, he, g0, g1, g2, g3⟩ := hs_inv hv
      cases hs_stride hH hs hp
      have empty : ∀ (l m : Nat) (cap2 : Option Nat), (∀ k, cap2 = some k → k = m - l) →
          VR c M ρ (.vs [] sz cap2) (.slice (if m = l then some ⟨b, s * sz, none⟩ else (some ⟨b, s * sz, none⟩ : Option Addr).map (·.add (l * sz))) 0 (m - l)) := fun l m cap2 hc =>
        VR.vs [] sz cap2 _ (m - l) 0 0 (fun _ _ => undef) (fun hq => absurd rfl hq) (by split <;> rfl) hc (Nat.zero_le _) (fun j e he => by simp at he) (fun j e he => by simp at he) (fun j e he => by simp at he)
      split at hx
      case h_3 => cases hx
      · rename_i l h hb
        obtain ⟨m, e1, e2, e3, e4, e5, e6, e7⟩ := bounds_spec (P := P) hT h2 h3 h4 g2 hb true w
        have hr := go he e1
        have hm := e6 rfl
        subst hm
        split at hx
        · rename_i hcond
          cases hx
          have hh : h = l := hcond.1
          subst hh
          rw [Nat.sub_self] at hr
          exact fin _ hr (empty h m none (fun k hk => by cases hk))
        · rename_i hcond
          cases hx
          refine fin _ hr ?_
          have hadr : (if m = l then some (⟨b, s * sz, none⟩ : Addr) else (some ⟨b, s * sz, none⟩ : Option Addr).map (·.add (l * sz))) = some ⟨b, (s + l) * sz, none⟩ := by
            split
            · rename_i hml
              by_cases hl : l = 0
              · subst hl; simp
              · exact absurd ⟨by omega, fun hq => hl hq.1⟩ hcond
            · simp [addr_add, Nat.add_mul]
          rw [hadr]
          refine .hs (s + l) (h - l) (m - l) _ hp (fun hq => ?_) (fun k hk => ?_) (by omega) (by omega)
          · have hln : lim = none := by
              cases lim with
              | none => rfl
              | some k => cases hq
            have := g0 hln
            omega
          · simp only [Option.map_eq_some_iff] at hk
            obtain ⟨k0, hk0, rfl⟩ := hk
            rw [g1 k0 hk0]
      · rename_i l h k hb
        obtain ⟨m, e1, e2, e3, e4, e5, e6, e7⟩ := bounds_spec (P := P) hT h2 h3 h4 g2 hb true w
        have hr := go he e1
        have hk := e7 k rfl
        split at hx
        · rename_i hcond
          cases hx
          subst hcond
          rw [Nat.sub_self] at hr
          exact fin _ hr (empty h m (some k) (fun q hq => by cases hq; exact hk))
        · rename_i hcond
          cases hx
          refine fin _ hr ?_
          rw [if_neg (by omega)]
          simp only [Option.map_some, addr_add, ← Nat.add_mul]
          exact .hs (s + l) (h - l) (m - l) _ hp (fun hq => by cases hq) (fun q hq => by cases hq; exact hk) (by omega) (by omega)
end
end Go.Abx
