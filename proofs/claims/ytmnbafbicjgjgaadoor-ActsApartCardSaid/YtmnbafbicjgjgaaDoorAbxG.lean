/- Single operations (5: addresses of elements, slices, new slices and maps). -/
import Derived.Test.YtmnbafbicjgjgaaDoorAbxF
import Derived.Lib.ConvBytes
import Derived.Laws.MakeOwn
namespace Go.Abx
open Go.RowKit
set_option linter.unusedVariables false
set_option linter.unusedSimpArgs false

section
variable {P : Program} {c : Cx} {w0 : World} {base : Nat} {M : Mem} {ρ : Pl} {H H' : Heap} {w w' : World} {tm : Tm} {a : Act} {o : Oper} {env : Env} {v : AVal}

theorem stride_hs {sz id s n : Nat} {lim : Option Nat} (h : stride H sz (.hs id s n lim) = true) : ∃ es cap fr, H.get id = some (.arr es sz cap fr) := by
  simp only [stride] at h
  split at h
  · rename_i es z cap fr hg
    cases Nat.eq_of_beq_eq_true h
    exact ⟨es, cap, fr, hg⟩
  · cases h
theorem hs_stride (hH : HR c w0 base M ρ H w) {sz id s n : Nat} {lim : Option Nat} (h : stride H sz (.hs id s n lim) = true) {b sz' tot : Nat} (hp : ρ id = some (b, sz', tot)) : sz' = sz := by
  obtain ⟨es, cap, fr, hg⟩ := stride_hs h
  obtain ⟨b', s', t', hp', _, _, hO⟩ := hH.obj _ _ hg
  rw [hp] at hp'
  simp only [Option.some.injEq, Prod.mk.injEq] at hp'
  rw [hp'.2.1]; exact hO.1.symm
theorem vs_stride {sz z : Nat} {es : List AVal} {cap : Option Nat} (h : stride H sz (.vs es z cap) = true) : z = sz := Nat.eq_of_beq_eq_true h

theorem op_indexAddr {arr : Option Nat} {sz : Nat} {x i : Opd} (hm : mOp P c o (.indexAddr arr sz x i) = true) (hs : stride H sz (ev tm x) = true) (hx : indexAddrA arr sz (ev tm x) (ev tm i) = some v)
    (hT : TR c M ρ tm a.tmps) (hH : HR c w0 base M ρ H w) : Res c w0 base M ρ ((execOp a.eval o).run P w) v H := by
  cases hop : o.op <;> simp only [mOp, hop, Bool.false_eq_true, Bool.and_eq_true] at hm
  rename_i t x' i'
  obtain ⟨⟨hk, h1⟩, h2⟩ := hm
  have hv := ev_vr hT h1
  unfold indexAddrA at hx
  cases hi : ev tm i <;> rw [hi] at hx <;> simp only [reduceCtorEq] at hx
  rename_i k n
  have hiv := int_inv (hi ▸ ev_vr hT h2)
  cases arr with
  | some m =>
    split at hk
    case h_1 hh => cases hh
    case h_3 => cases hk
    rename_i m' e hu hh
    cases hh
    simp only [Bool.and_eq_true, beq_iff_eq] at hk
    obtain ⟨rfl, hsz⟩ := hk
    obtain ⟨info, hinfo, hisz⟩ := sz_inv hsz
    cases hev : ev tm x <;> rw [hev] at hx hv <;> simp only [reduceCtorEq] at hx
    · rename_i id j q
      split at hx
      case isFalse => cases hx
      rename_i hb
      cases hx
      cases he : a.eval x' <;> rw [he] at hv <;> cases hv
      rename_i b z tot hp
      refine .val (u := .pointer (some ⟨b, j * z + (q + n.toNat * sz), none⟩)) ?_ (.ptr _ _ hp) hH
      simp [execOp, hop, he, hiv, Instr.indexAt, asIntOf, run_underlying hu, Instr.sureAddr, hb, run_sizeOf hinfo, hisz, addr_add, Nat.add_assoc]
    · rename_i cs q
      split at hx
      case isFalse => cases hx
      rename_i hb
      cases hx
      cases he : a.eval x' <;> rw [he] at hv <;> cases hv
      rename_i b z u hf hmm hvv
      refine .val (u := .pointer (some ⟨b, z + (q + n.toNat * sz), none⟩)) ?_ (.pimm _ _ _ _ u hf hmm hvv) hH
      simp [execOp, hop, he, hiv, Instr.indexAt, asIntOf, run_underlying hu, Instr.sureAddr, hb, run_sizeOf hinfo, hisz, addr_add, Nat.add_assoc]
  | none =>
    split at hk
    case h_2 hh => cases hh
    case h_3 => cases hk
    rename_i e hu hh
    obtain ⟨info, hinfo, hisz⟩ := sz_inv hk
    cases hev : ev tm x <;> rw [hev] at hx hv hs <;> simp only [reduceCtorEq] at hx
    · rename_i es z cap
      cases vs_stride hs
      split at hx
      case isFalse => cases hx
      rename_i hn
      simp only [Option.map_eq_some_iff] at hx
      obtain ⟨el, hel, rfl⟩ := hx
      have hlt : n.toNat < es.length := (List.getElem?_eq_some_iff.1 hel).1
      obtain ⟨ad, cap', he, hle, hcap, hsz, hne⟩ := vs_inv hv
      obtain ⟨hsp, hm⟩ := hne (by rintro rfl; simp at hlt)
      obtain ⟨b, q, spot⟩ := ad
      simp only at hsp
      subst hsp
      refine .val (u := .pointer (some ⟨b, q + n.toNat * sz, none⟩)) ?_ ?_ hH
      · have hb : 0 ≤ n ∧ n < (es.length : Int) := ⟨hn, by omega⟩
        simp [execOp, hop, he, hiv, Instr.indexAt, asIntOf, run_underlying hu, hb, run_sizeOf hinfo, hisz, addr_add]
      · have h5 := hm _ el hel
        have := VR.pimm (c := c) (M := M) (ρ := ρ) el.cells b (q + n.toNat * sz) 0 (fun i => (M b (q + n.toNat * sz + i)).getD undef) (hsz _ el hel).2
          (fun i x hx => by obtain ⟨y, hy, _⟩ := h5 i x hx; rw [hy]; rfl) (fun i x hx => by obtain ⟨y, hy, hvy⟩ := h5 i x hx; rw [hy]; exact hvy)
        simpa using this
    · rename_i id s m lim
      split at hx
      case isFalse => cases hx
      rename_i hb
      cases hx
      obtain ⟨b, z, tot, cap', hp, he, h0, h1', hn', ht⟩ := hs_inv hv
      cases hs_stride hH hs hp
      refine .val (u := .pointer (some ⟨b, (s + n.toNat) * sz + 0, none⟩)) ?_ (.ptr _ _ hp) hH
      simp [execOp, hop, he, hiv, Instr.indexAt, asIntOf, run_underlying hu, hb, run_sizeOf hinfo, hisz, addr_add, Nat.add_mul]

theorem op_index {arr : Option (Nat × Nat × Bool)} {x i : Opd} (hm : mOp P c o (.index arr x i) = true) (hx : indexA arr (ev tm x) (ev tm i) = some v) (hT : TR c M ρ tm a.tmps) (hH : HR c w0 base M ρ H w) :
    Res c w0 base M ρ ((execOp a.eval o).run P w) v H := by
  cases hop : o.op <;> simp only [mOp, hop, Bool.false_eq_true, Bool.and_eq_true] at hm
  rename_i t x' i'
  obtain ⟨⟨hk, h1⟩, h2⟩ := hm
  have hv := ev_vr hT h1
  unfold indexA at hx
  cases hi : ev tm i <;> rw [hi] at hx <;> simp only [reduceCtorEq] at hx
  rename_i k n
  have hiv := int_inv (hi ▸ ev_vr hT h2)
  cases arr with
  | none =>
    split at hk
    case h_2 hh => cases hh
    case h_3 => cases hk
    rename_i hu hh
    cases hev : ev tm x <;> rw [hev] at hx hv <;> simp only [reduceCtorEq] at hx
    rename_i s
    split at hx
    case isFalse => cases hx
    rename_i hn
    simp only [Option.map_eq_some_iff] at hx
    obtain ⟨r, hr, rfl⟩ := hx
    obtain ⟨S, he, rfl⟩ := str_inv hv
    have hlt : n.toNat < S.size := by rw [← byteInts_len]; exact (List.getElem?_eq_some_iff.1 hr).1
    have hb : r = ((S[n.toNat]'hlt).toNat : Int) := by
      simp only [byteInts, List.getElem?_map, Option.map_eq_some_iff] at hr
      obtain ⟨y, hy, rfl⟩ := hr
      have : S.data.toList[n.toNat]? = some (S[n.toNat]'hlt) := by
        have h3 : n.toNat < S.data.size := hlt
        rw [Array.getElem?_toList]
        exact Array.getElem?_eq_getElem h3
      rw [this] at hy
      cases hy
      rfl
    refine .val (u := .int .u8 r) ?_ (.int _ _) hH
    rw [hb]
    simp [execOp, hop, he, hiv, Instr.index, asIntOf, run_underlying hu, hn, ByteArray.getElem?_lt' S n.toNat hlt]
  | some p =>
    obtain ⟨m, sz, agg⟩ := p
    split at hk
    case h_1 hh => cases hh
    case h_3 => cases hk
    rename_i m' e _ _ _ hu hh
    cases hh
    simp only [Bool.and_eq_true, Bool.or_eq_true, beq_iff_eq] at hk
    obtain ⟨⟨⟨rfl, hsz⟩, hagg⟩, h1'⟩ := hk
    obtain ⟨info, hinfo, hisz⟩ := sz_inv hsz
    cases hev : ev tm x <;> rw [hev] at hx hv <;> simp only [reduceCtorEq] at hx
    rename_i cs
    split at hx
    case isFalse => cases hx
    rename_i hb
    obtain ⟨ar, he, hC⟩ := agg_inv hv
    obtain ⟨u, hu', hvu⟩ := run_part (v := v) hagg hsz h1' hC hx w
    refine .val (u := u) ?_ hvu hH
    simp [execOp, hop, he, hiv, Instr.index, asIntOf, run_underlying hu, hb, run_sizeOf hinfo, hisz, hu']
end
end Go.Abx
