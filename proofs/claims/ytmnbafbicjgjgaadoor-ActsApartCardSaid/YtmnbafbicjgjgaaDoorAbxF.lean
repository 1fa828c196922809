/- Single operations (4: conversions, lengths, indexes, slices). -/
import Derived.Test.YtmnbafbicjgjgaaDoorAbxE
import Derived.Laws.Slices
import Derived.Laws.BytesArg
namespace Go.Abx
open Go.RowKit
set_option linter.unusedVariables false
set_option linter.unusedSimpArgs false

section
variable {P : Program} {c : Cx} {w0 : World} {base : Nat} {M : Mem} {ρ : Pl} {H H' : Heap} {w w' : World} {tm : Tm} {a : Act} {o : Oper} {env : Env} {v : AVal}

/-! ### What a slice holds -/
/-- The cells behind a slice, told. -/
theorem elems_spec {x : AVal} {es : List AVal} {u : Value} (hH : HR c w0 base M ρ H w) (hv : VR c M ρ x u) (h : elems H x = some es) :
    (es = [] ∧ ∃ ad n k, u = .slice ad n k ∧ n = 0) ∨ ∃ (b q sz cap' : Nat), u = .slice (some ⟨b, q, none⟩) es.length cap' ∧
      (∀ (j : Nat) (e : AVal), es[j]? = some e → e.cells.length = sz ∧ flats e.cells = true) ∧
      (∀ (j : Nat) (e : AVal), es[j]? = some e → ∀ (i : Nat) (x : AVal), e.cells[i]? = some x → ∃ y, w.cell? ⟨b, q + j * sz + i, none⟩ = some y ∧ VR c M ρ x y) := by
  unfold elems at h
  split at h
  · cases h; cases nilsl_inv hv; exact .inl ⟨rfl, _, _, _, rfl, rfl⟩
  · cases h
    obtain ⟨ad, cap', rfl, hle, hcap, hsz, hne⟩ := vs_inv hv
    rename_i sz cap
    by_cases he : es = []
    · subst he; exact .inl ⟨rfl, _, _, _, rfl, rfl⟩
    · obtain ⟨hs, hm⟩ := hne he
      obtain ⟨b, q, spot⟩ := ad
      simp only at hs
      subst hs
      exact .inr ⟨b, q, sz, cap', rfl, hsz, fun j e he i x hx => (hm j e he i x hx).imp fun y hy => ⟨hH.mem _ _ _ hy.1, hy.2⟩⟩
  · rename_i id s n lim
    split at h
    · rename_i es' sz cap fr hget
      split at h
      · rename_i hle
        cases h
        obtain ⟨b, sz', tot, cap', hp, rfl, h0, h1, hn, ht⟩ := hs_inv hv
        obtain ⟨b', sz'', tot', hp', hb, hb2, hO⟩ := hH.obj id _ hget
        obtain ⟨rfl, hsz, hle', hfr, hcap, hMn, cs, E, fz, hw, hcs, hfz, hels, hvs⟩ := hO
        rw [hp] at hp'
        simp only [Option.some.injEq, Prod.mk.injEq] at hp'
        obtain ⟨rfl, rfl, rfl⟩ := hp'
        have hg : ∀ (j : Nat) (e : AVal), ((es'.drop s).take n)[j]? = some e → es'[s + j]? = some e := fun j e he => by
          rw [List.getElem?_take] at he
          split at he
          · rw [List.getElem?_drop] at he; exact he
          · cases he
        refine .inr ⟨b, s * sz', sz', cap', by congr 1; simp; omega, fun j e he => hels _ e (hg j e he), fun j e he i x hx => ?_⟩
        obtain ⟨y, hy, hvy⟩ := hvs _ e (hg j e he) i x hx
        refine ⟨y, ?_, hvy⟩
        rw [show s * sz' + j * sz' + i = (s + j) * sz' + i by rw [Nat.add_mul]]
        simp [World.cell?, hw, hy]
      · cases h
    · cases h
  · cases h

theorem bytesOf_spec : ∀ {es : List AVal} {l : List Int}, bytesOf? es = some l → es = ofBytes l ∧ ∀ n ∈ l, 0 ≤ n ∧ n < 256
  | [], l, h => by simp [bytesOf?] at h; subst h; simp [ofBytes]
  | e :: es, l, h => by
    simp only [bytesOf?] at h
    split at h
    · rename_i n r h1 h2
      cases h
      obtain ⟨h3, h4⟩ := bytesOf_spec h2
      unfold byteOf? at h1
      split at h1
      · split at h1
        · rename_i n' hn
          cases h1
          exact ⟨by simp [ofBytes, h3], fun m hm => by
            rcases List.mem_cons.1 hm with rfl | hm
            · exact hn
            · exact h4 m hm⟩
        · cases h1
      · cases h1
    · cases h

theorem strOf_ints {l : List Int} (h : ∀ n ∈ l, 0 ≤ n ∧ n < 256) : byteInts (strOfNums l) = l := by
  show (strOfNums l).data.toList.map _ = l
  rw [strOfNums_data, List.map_map]
  conv => rhs; rw [← List.map_id l]
  refine List.map_congr_left fun n hn => ?_
  obtain ⟨h0, h1⟩ := h n hn
  show ((UInt8.ofNat n.toNat).toNat : Int) = n
  have : (UInt8.ofNat n.toNat).toNat = n.toNat % 256 := rfl
  rw [this]
  omega

theorem op_convInt {k : IntKind} {x : Opd} {l : IntKind} {n : Int} (hm : mOp P c o (.conv (.int k) x) = true) (hev : ev tm x = .int l n) (hT : TR c M ρ tm a.tmps) (hH : HR c w0 base M ρ H w) :
    Res c w0 base M ρ ((execOp a.eval o).run P w) (.int k (wrapF k n)) H := by
  cases hop : o.op <;> simp only [mOp, hop, Bool.false_eq_true, Bool.and_eq_true] at hm
  rename_i s d x'
  obtain ⟨h1, h2⟩ := hm
  simp only [mConv, Bool.and_eq_true] at h1
  obtain ⟨h3, h4⟩ := h1
  split at h4
  case h_2 => cases h4
  rename_i l' hd
  simp only [beq_iff_eq] at h4
  subst h4
  split at h3
  case h_2 => cases h3
  rename_i l2 hs
  have e := int_inv (hev ▸ ev_vr hT h2)
  rw [wrapF_eq]
  exact .val (u := .int k (k.wrap n)) (by simp [execOp, hop, e, convert, run_underlying hs, run_underlying hd, Conv.intToInt]) (.int _ _) hH

theorem op_convSame {x : Opd} {s : List Int} (hm : mOp P c o (.conv .same x) = true) (hev : ev tm x = .str s) (hT : TR c M ρ tm a.tmps) (hH : HR c w0 base M ρ H w) :
    Res c w0 base M ρ ((execOp a.eval o).run P w) (.str s) H := by
  cases hop : o.op <;> simp only [mOp, hop, Bool.false_eq_true, Bool.and_eq_true] at hm
  rename_i s' d x'
  obtain ⟨h1, h2⟩ := hm
  simp only [mConv, Bool.and_eq_true] at h1
  obtain ⟨h3, h4⟩ := h1
  split at h4
  case h_2 => cases h4
  rename_i hd
  split at h3
  case h_2 => cases h3
  rename_i hs
  obtain ⟨S, e, rfl⟩ := str_inv (hev ▸ ev_vr hT h2)
  exact .val (u := .string S) (by simp [execOp, hop, e, convert, run_underlying hs, run_underlying hd]) (.str _) hH

theorem op_bytesStr {x : Opd} {es : List AVal} {l : List Int} (hm : mOp P c o (.conv .bytesStr x) = true) (hes : elems H (ev tm x) = some es) (hl : bytesOf? es = some l) (hT : TR c M ρ tm a.tmps) (hH : HR c w0 base M ρ H w) :
    Res c w0 base M ρ ((execOp a.eval o).run P w) (.str l) H := by
  cases hop : o.op <;> simp only [mOp, hop, Bool.false_eq_true, Bool.and_eq_true] at hm
  rename_i s d x'
  obtain ⟨h1, h2⟩ := hm
  simp only [mConv, Bool.and_eq_true] at h1
  obtain ⟨h3, h4⟩ := h1
  split at h4
  case h_2 => cases h4
  rename_i hd
  obtain ⟨e, hse, he8⟩ := elem_inv h3
  have he8 : P.underlying e = some (.int .u8) := by
    unfold isU8 at he8
    split at he8
    · assumption
    · cases he8
  have hv := ev_vr hT h2
  obtain ⟨rfl, hr⟩ := bytesOf_spec hl
  refine .val (u := .string (strOfNums l)) ?_ (by have := VR.str (c := c) (M := M) (ρ := ρ) (strOfNums l); rw [strOf_ints hr] at this; exact this) hH
  have hconv : (convert s d (a.eval x')).run P w = .ok (.string (strOfNums l)) w := by
    rcases elems_spec hH hv hes with ⟨hnil, ad, n, k, hu, rfl⟩ | ⟨b, q, sz, cap', hu, hsz, hcell⟩
    · have : l = [] := by simpa [ofBytes] using hnil
      subst this
      rw [hu]
      cases ad with
      | none => exact run_convert_bytes_nil w s e hse he8 0 k d hd
      | some ad =>
        simp [convert, run_underlying hse, run_underlying hd, run_underlying he8, Conv.bytesToString, loadCells, loadCellsFrom]
        rfl
    · rw [hu]
      have hlen : (ofBytes l).length = l.length := by simp [ofBytes]
      have hsz1 : l ≠ [] → sz = 1 := fun hne => by
        cases l with
        | nil => exact absurd rfl hne
        | cons n r => exact ((hsz 0 (.int .u8 n) rfl).1).symm
      refine run_convert_bytes_arg w s e hse he8 b q (ofBytes l).length cap' l hlen.symm (fun i hi => ?_) d hd
      have hi' : i < l.length := by omega
      have hne : l ≠ [] := by rintro rfl; simp at hi'
      obtain ⟨y, hy, hvy⟩ := hcell i (.int .u8 l[i]) (by simp [ofBytes, hi']) 0 (.int .u8 l[i]) rfl
      rw [hsz1 hne, Nat.mul_one, Nat.add_zero] at hy
      rw [hy, int_inv hvy]
      simp [hi', List.getD_eq_getElem?_getD]
  simp [execOp, hop, hconv]

/-! ### Lengths -/
theorem op_len {k : BKind} {x : Opd} {n : Nat} (hm : mOp P c o (.len k x) = true) (hx : lenA H k (ev tm x) = some n) (hT : TR c M ρ tm a.tmps) (hH : HR c w0 base M ρ H w) :
    Res c w0 base M ρ ((execOp a.eval o).run P w) (.int .i64 n) H := by
  simp only [mOp] at hm
  split at hm
  case h_2 => cases hm
  rename_i x' t hbc
  have hop := bcall_inv hbc
  simp only [Bool.and_eq_true] at hm
  obtain ⟨hk, h2⟩ := hm
  have hv := ev_vr hT h2
  have fin : (Builtin.len_ #[t] o.type #[a.eval x']).run P w = .ok (.int .i64 n) w → Res c w0 base M ρ ((execOp a.eval o).run P w) (.int .i64 n) H := fun h =>
    .val (u := .int .i64 n) (by simp [execOp, hop, resolve, invoke, builtin, h]) (.int _ _) hH
  apply fin
  unfold lenA at hx
  split at hx
  · rename_i e; cases hx
    rw [e] at hv
    simp only [kindIs] at hk; split at hk
    · rename_i hu; rw [nilsl_inv hv]; simp [Builtin.len_, run_underlying hu, goInt]
    · cases hk
  · rename_i e; cases hx
    rw [e] at hv
    obtain ⟨ad, cap', hu', _⟩ := vs_inv hv
    simp only [kindIs] at hk; split at hk
    · rename_i hu; rw [hu']; simp [Builtin.len_, run_underlying hu, goInt]
    · cases hk
  · rename_i e; cases hx
    rw [e] at hv
    obtain ⟨b, sz, tot, cap', _, hu', _⟩ := hs_inv hv
    simp only [kindIs] at hk; split at hk
    · rename_i hu; rw [hu']; simp [Builtin.len_, run_underlying hu, goInt]
    · cases hk
  · rename_i e; cases hx
    rw [e] at hv
    obtain ⟨s, hu', rfl⟩ := str_inv hv
    simp only [kindIs] at hk; split at hk
    · rename_i hu; rw [hu', byteInts_len]; simp [Builtin.len_, run_underlying hu, goInt]
    · cases hk
  · rename_i id e
    rw [e] at hv
    split at hx
    · rename_i kv hget
      cases hx
      simp only [kindIs] at hk; split at hk
      case h_2 => cases hk
      rename_i hu
      cases he : a.eval x' <;> rw [he] at hv <;> cases hv
      rename_i b sz tot hp
      obtain ⟨b', sz', tot', hp', hb, hb2, hO⟩ := hH.obj _ _ hget
      obtain ⟨hMn, es, clock, hw, hsz, _⟩ := hO
      rw [hp] at hp'
      simp only [Option.some.injEq, Prod.mk.injEq] at hp'
      obtain ⟨rfl, rfl, rfl⟩ := hp'
      simp [Builtin.len_, run_underlying hu, goInt, getObj, Sem.run, hw, hsz]
    · cases hx
  · rename_i e; cases hx
    rw [e] at hv
    simp only [kindIs] at hk; split at hk
    case h_2 => cases hk
    rename_i hu
    cases he : a.eval x' <;> rw [he] at hv <;> cases hv
    simp [Builtin.len_, run_underlying hu, goInt]
  · cases hx

theorem op_cap {x : Opd} {n : Nat} (hm : mOp P c o (.cap x) = true) (hx : capA H (ev tm x) = some n) (hT : TR c M ρ tm a.tmps) (hH : HR c w0 base M ρ H w) :
    Res c w0 base M ρ ((execOp a.eval o).run P w) (.int .i64 n) H := by
  simp only [mOp] at hm
  split at hm
  case h_2 => cases hm
  rename_i x' t hbc
  have hop := bcall_inv hbc
  simp only [Bool.and_eq_true] at hm
  obtain ⟨hk, h2⟩ := hm
  have hv := ev_vr hT h2
  split at hk
  case h_2 => cases hk
  rename_i e hu
  have fin : (∃ ad m, a.eval x' = .slice ad m n) → Res c w0 base M ρ ((execOp a.eval o).run P w) (.int .i64 n) H := fun ⟨ad, m, h⟩ =>
    .val (u := .int .i64 n) (by simp [execOp, hop, resolve, invoke, builtin, h, Builtin.cap_, run_underlying hu, goInt]) (.int _ _) hH
  apply fin
  unfold capA at hx
  split at hx
  · rename_i e; cases hx; rw [e] at hv; exact ⟨_, _, nilsl_inv hv⟩
  · rename_i e
    rw [e] at hv
    obtain ⟨ad, cap', hu', _, hc, _⟩ := vs_inv hv
    exact ⟨_, _, by rw [hu', hc n hx]⟩
  · rename_i e
    cases hx
    rw [e] at hv
    obtain ⟨b, sz, tot, cap', _, hu', _, h1, _⟩ := hs_inv hv
    exact ⟨_, _, by rw [hu', h1 n rfl]⟩
  · rename_i id s m e
    rw [e] at hv
    obtain ⟨b, sz, tot, cap', hp, hu', h0, h1, _⟩ := hs_inv hv
    split at hx
    · rename_i es sz' cap fr hget
      obtain ⟨b', sz'', tot', hp', hb, hb2, hO⟩ := hH.obj _ _ hget
      obtain ⟨rfl, hsz, hle', hfr, hcap, _⟩ := hO
      rw [hp] at hp'
      simp only [Option.some.injEq, Prod.mk.injEq] at hp'
      obtain ⟨rfl, rfl, rfl⟩ := hp'
      simp only [Option.map_eq_some_iff] at hx
      obtain ⟨k, hk1, rfl⟩ := hx
      exact ⟨_, _, by rw [hu', h0 rfl, hcap k hk1]⟩
    · cases hx
  · cases hx

theorem op_max {x y : Opd} {k l : IntKind} {n m : Int} (hm : mOp P c o (.max x y) = true) (h1 : ev tm x = .int k n) (h2 : ev tm y = .int l m) (hT : TR c M ρ tm a.tmps) (hH : HR c w0 base M ρ H w) :
    Res c w0 base M ρ ((execOp a.eval o).run P w) (.int k (if m > n then m else n)) H := by
  simp only [mOp] at hm
  split at hm
  case h_2 => cases hm
  rename_i x' y' ts hbc
  have hop := bcall_inv hbc
  simp only [Bool.and_eq_true] at hm
  exact .val (u := .int k (if m > n then m else n)) (by simp [execOp, hop, resolve, invoke, builtin, int_inv (h1 ▸ ev_vr hT hm.1), int_inv (h2 ▸ ev_vr hT hm.2), Builtin.max_, Builtin.max2]) (.int _ _) hH

theorem op_min {x y : Opd} {k l : IntKind} {n m : Int} (hm : mOp P c o (.min x y) = true) (h1 : ev tm x = .int k n) (h2 : ev tm y = .int l m) (hT : TR c M ρ tm a.tmps) (hH : HR c w0 base M ρ H w) :
    Res c w0 base M ρ ((execOp a.eval o).run P w) (.int k (if m < n then m else n)) H := by
  simp only [mOp] at hm
  split at hm
  case h_2 => cases hm
  rename_i x' y' ts hbc
  have hop := bcall_inv hbc
  simp only [Bool.and_eq_true] at hm
  exact .val (u := .int k (if m < n then m else n)) (by simp [execOp, hop, resolve, invoke, builtin, int_inv (h1 ▸ ev_vr hT hm.1), int_inv (h2 ▸ ev_vr hT hm.2), Builtin.min_, Builtin.min2]) (.int _ _) hH
end
end Go.Abx
