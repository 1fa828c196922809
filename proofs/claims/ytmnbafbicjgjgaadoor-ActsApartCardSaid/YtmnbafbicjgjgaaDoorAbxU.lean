/- Operations that may be taken first: what they yield hangs on nothing but what is frozen. -/
import Derived.Test.YtmnbafbicjgjgaaDoorAbxQ
namespace Go.Abx
open Go.RowKit
set_option linter.unusedVariables false
set_option linter.unusedSimpArgs false

section
variable {P : Program} {c : Cx} {w0 : World} {base : Nat} {M : Mem} {ρ : Pl} {H H' : Heap} {w w' : World} {tm : Tm} {a : Act} {o : Oper} {env : Env} {v : AVal}

theorem opP_bin {op : BinOp} {k : BKind} {x y : Opd} (hm : mOp P c o (.bin op k x y) = true) (hx : binA op k (isC x || isC y) (ev tm x) (ev tm y) = some v) (hT : TR c M ρ tm a.tmps) (hH : HR c w0 base M ρ H w) :
    ∃ u, (execOp a.eval o).run P w = .ok (.value u) w ∧ VR c M ρ v u := by
  cases hop : o.op <;> simp only [mOp, hop, Bool.false_eq_true, Bool.and_eq_true, beq_iff_eq] at hm
  rename_i op' t x' y' yt
  obtain ⟨⟨⟨rfl, hk⟩, h1⟩, h2⟩ := hm
  obtain ⟨r, g1, g2, g3⟩ := binA_spec hk (ev_vr hT h1) (ev_vr hT h2) w x' y' (fun hl e1 e2 => by
    simp only [Bool.or_eq_true] at hl
    rcases hl with hl | hl
    · left
      cases x with
      | t n => simp [isC] at hl
      | c cc =>
        have e1 : cc = .nilif := e1
        subst e1
        cases x' <;> simp [mOpd] at h1
        exact ⟨_, rfl⟩
    · right
      cases y with
      | t n => simp [isC] at hl
      | c cc =>
        have e2 : cc = .nilif := e2
        subst e2
        cases y' <;> simp [mOpd] at h2
        exact ⟨_, rfl⟩) hx
  exact ⟨r, by simp [execOp, hop, g1, g2], g3⟩

theorem opP_bytesStr {x : Opd} {es : List AVal} {l : List Int} (hm : mOp P c o (.conv .bytesStr x) = true) (hes : elems H (ev tm x) = some es) (hl : bytesOf? es = some l) (hT : TR c M ρ tm a.tmps) (hH : HR c w0 base M ρ H w) :
    ∃ u, (execOp a.eval o).run P w = .ok (.value u) w ∧ VR c M ρ (.str l) u := by
  cases hop : o.op <;> simp only [mOp, hop, Bool.false_eq_true, Bool.and_eq_true] at hm
  rename_i s d x'
  obtain ⟨h1, h2⟩ := hm
  simp only [mConv, Bool.and_eq_true] at h1
  obtain ⟨h3, h4⟩ := h1
  split at h4
  case h_2 => cases h4
  rename_i hd
  obtain ⟨e, hse, he8⟩ := elem_inv h3
  have he8 : P.underlying e = some (.int .u8) := by
    unfold isU8 at he8
    split at he8
    · assumption
    · cases he8
  have hv := ev_vr hT h2
  obtain ⟨rfl, hr⟩ := bytesOf_spec hl
  refine ⟨.string (strOfNums l), ?_, by have := VR.str (c := c) (M := M) (ρ := ρ) (strOfNums l); rw [strOf_ints hr] at this; exact this⟩
  have hconv : (convert s d (a.eval x')).run P w = .ok (.string (strOfNums l)) w := by
    rcases elems_spec hH hv hes with ⟨hnil, ad, n, k, hu, rfl⟩ | ⟨b, q, sz, cap', hu, hsz, hcell⟩
    · have : l = [] := by simpa [ofBytes] using hnil
      subst this
      rw [hu]
      cases ad with
      | none => exact run_convert_bytes_nil w s e hse he8 0 k d hd
      | some ad =>
        simp [convert, run_underlying hse, run_underlying hd, run_underlying he8, Conv.bytesToString, loadCells, loadCellsFrom]
        rfl
    · rw [hu]
      have hlen : (ofBytes l).length = l.length := by simp [ofBytes]
      have hsz1 : l ≠ [] → sz = 1 := fun hne => by
        cases l with
        | nil => exact absurd rfl hne
        | cons n r => exact ((hsz 0 (.int .u8 n) rfl).1).symm
      refine run_convert_bytes_arg w s e hse he8 b q (ofBytes l).length cap' l hlen.symm (fun i hi => ?_) d hd
      have hi' : i < l.length := by omega
      have hne : l ≠ [] := by rintro rfl; simp at hi'
      obtain ⟨y, hy, hvy⟩ := hcell i (.int .u8 l[i]) (by simp [ofBytes, hi']) 0 (.int .u8 l[i]) rfl
      rw [hsz1 hne, Nat.mul_one, Nat.add_zero] at hy
      rw [hy, int_inv hvy]
      simp [hi', List.getD_eq_getElem?_getD]
  simp [execOp, hop, hconv]

theorem opP_max {x y : Opd} {k l : IntKind} {n m : Int} (hm : mOp P c o (.max x y) = true) (h1 : ev tm x = .int k n) (h2 : ev tm y = .int l m) (hT : TR c M ρ tm a.tmps) (hH : HR c w0 base M ρ H w) :
    ∃ u, (execOp a.eval o).run P w = .ok (.value u) w ∧ VR c M ρ (.int k (if m > n then m else n)) u := by
  simp only [mOp] at hm
  split at hm
  case h_2 => cases hm
  rename_i x' y' ts hbc
  have hop := bcall_inv hbc
  simp only [Bool.and_eq_true] at hm
  exact ⟨.int k (if m > n then m else n), by simp [execOp, hop, resolve, invoke, builtin, int_inv (h1 ▸ ev_vr hT hm.1), int_inv (h2 ▸ ev_vr hT hm.2), Builtin.max_, Builtin.max2], .int _ _⟩

theorem opP_min {x y : Opd} {k l : IntKind} {n m : Int} (hm : mOp P c o (.min x y) = true) (h1 : ev tm x = .int k n) (h2 : ev tm y = .int l m) (hT : TR c M ρ tm a.tmps) (hH : HR c w0 base M ρ H w) :
    ∃ u, (execOp a.eval o).run P w = .ok (.value u) w ∧ VR c M ρ (.int k (if m < n then m else n)) u := by
  simp only [mOp] at hm
  split at hm
  case h_2 => cases hm
  rename_i x' y' ts hbc
  have hop := bcall_inv hbc
  simp only [Bool.and_eq_true] at hm
  exact ⟨.int k (if m < n then m else n), by simp [execOp, hop, resolve, invoke, builtin, int_inv (h1 ▸ ev_vr hT hm.1), int_inv (h2 ▸ ev_vr hT hm.2), Builtin.min_, Builtin.min2], .int _ _⟩

theorem opU_fieldAddr {off : Nat} {x : Opd} (hm : mOp P c o (.fieldAddr off x) = true) (hx : (match ev tm x with | .ptr id i k => some (AVal.ptr id i (k + off)) | .pimm cs k => some (.pimm cs (k + off)) | _ => none) = some v)
    (hT : TR c M ρ tm a.tmps) : ∃ u, VR c M ρ v u ∧ ∀ w, SM M w → (execOp a.eval o).run P w = .ok (.value u) w := by
  cases hop : o.op <;> simp only [mOp, hop, Bool.false_eq_true, Bool.and_eq_true] at hm
  rename_i t x' f
  obtain ⟨fs, fd, h1, h2, h3⟩ := field_inv hm.1
  simp only [Bool.and_eq_true, beq_iff_eq] at h3
  obtain ⟨h3, h4⟩ := h3
  split at h4
  case h_2 => cases h4
  rename_i i hi
  have hpos : ¬ i.size = 0 := by simp at h4; omega
  have hv := ev_vr hT hm.2
  cases hev : ev tm x <;> rw [hev] at hx hv <;> simp only [reduceCtorEq, Option.some.injEq] at hx
  · subst hx
    cases he : a.eval x' <;> rw [he] at hv <;> cases hv
    rename_i id j k b sz tot hp
    refine ⟨.pointer (some ⟨b, j * sz + (k + off), none⟩), (.ptr _ _ hp), fun w hw => ?_⟩
    simp [execOp, hop, he, Instr.fieldAt, Instr.sureAddr, run_underlying h1, h2, fieldPlace, run_sizeOf hi, hpos, addr_add, h3, Nat.add_assoc]
  · subst hx
    cases he : a.eval x' <;> rw [he] at hv <;> cases hv
    rename_i cs k b q u hf hmm hvv
    refine ⟨.pointer (some ⟨b, q + (k + off), none⟩), (.pimm _ _ _ _ u hf hmm hvv), fun w hw => ?_⟩
    simp [execOp, hop, he, Instr.fieldAt, Instr.sureAddr, run_underlying h1, h2, fieldPlace, run_sizeOf hi, hpos, addr_add, h3, Nat.add_assoc]

theorem opU_indexAddr {arr : Option Nat} {sz : Nat} {x i : Opd} (hm : mOp P c o (.indexAddr arr sz x i) = true) (hs : stride Heap.empty sz (ev tm x) = true) (hx : indexAddrA arr sz (ev tm x) (ev tm i) = some v)
    (hT : TR c M ρ tm a.tmps) : ∃ u, VR c M ρ v u ∧ ∀ w, SM M w → (execOp a.eval o).run P w = .ok (.value u) w := by
  cases hop : o.op <;> simp only [mOp, hop, Bool.false_eq_true, Bool.and_eq_true] at hm
  rename_i t x' i'
  obtain ⟨⟨hk, h1⟩, h2⟩ := hm
  have hv := ev_vr hT h1
  unfold indexAddrA at hx
  cases hi : ev tm i <;> rw [hi] at hx <;> simp only [reduceCtorEq] at hx
  rename_i k n
  have hiv := int_inv (hi ▸ ev_vr hT h2)
  cases arr with
  | some m =>
    split at hk
    case h_1 hh => cases hh
    case h_3 => cases hk
    rename_i m' e hu hh
    cases hh
    simp only [Bool.and_eq_true, beq_iff_eq] at hk
    obtain ⟨rfl, hsz⟩ := hk
    obtain ⟨info, hinfo, hisz⟩ := sz_inv hsz
    cases hev : ev tm x <;> rw [hev] at hx hv <;> simp only [reduceCtorEq] at hx
    · rename_i id j q
      split at hx
      case isFalse => cases hx
      rename_i hb
      cases hx
      cases he : a.eval x' <;> rw [he] at hv <;> cases hv
      rename_i b z tot hp
      refine ⟨.pointer (some ⟨b, j * z + (q + n.toNat * sz), none⟩), (.ptr _ _ hp), fun w hw => ?_⟩
      simp [execOp, hop, he, hiv, Instr.indexAt, asIntOf, run_underlying hu, Instr.sureAddr, hb, run_sizeOf hinfo, hisz, addr_add, Nat.add_assoc]
    · rename_i cs q
      split at hx
      case isFalse => cases hx
      rename_i hb
      cases hx
      cases he : a.eval x' <;> rw [he] at hv <;> cases hv
      rename_i b z u hf hmm hvv
      refine ⟨.pointer (some ⟨b, z + (q + n.toNat * sz), none⟩), (.pimm _ _ _ _ u hf hmm hvv), fun w hw => ?_⟩
      simp [execOp, hop, he, hiv, Instr.indexAt, asIntOf, run_underlying hu, Instr.sureAddr, hb, run_sizeOf hinfo, hisz, addr_add, Nat.add_assoc]
  | none =>
    split at hk
    case h_2 hh => cases hh
    case h_3 => cases hk
    rename_i e hu hh
    obtain ⟨info, hinfo, hisz⟩ := sz_inv hk
    cases hev : ev tm x <;> rw [hev] at hx hv hs <;> simp only [reduceCtorEq] at hx
    · rename_i es z cap
      cases vs_stride hs
      split at hx
      case isFalse => cases hx
      rename_i hn
      simp only [Option.map_eq_some_iff] at hx
      obtain ⟨el, hel, rfl⟩ := hx
      have hlt : n.toNat < es.length := (List.getElem?_eq_some_iff.1 hel).1
      obtain ⟨ad, cap', he, hle, hcap, hsz, hne⟩ := vs_inv hv
      obtain ⟨hsp, hm⟩ := hne (by rintro rfl; simp at hlt)
      obtain ⟨b, q, spot⟩ := ad
      simp only at hsp
      subst hsp
      refine ⟨.pointer (some ⟨b, q + n.toNat * sz, none⟩), And.symm ⟨fun w hw => ?_, ?_⟩⟩
      · have hb : 0 ≤ n ∧ n < (es.length : Int) := ⟨hn, by omega⟩
        simp [execOp, hop, he, hiv, Instr.indexAt, asIntOf, run_underlying hu, hb, run_sizeOf hinfo, hisz, addr_add]
      · have h5 := hm _ el hel
        have := VR.pimm (c := c) (M := M) (ρ := ρ) el.cells b (q + n.toNat * sz) 0 (fun i => (M b (q + n.toNat * sz + i)).getD undef) (hsz _ el hel).2
          (fun i x hx => by obtain ⟨y, hy, _⟩ := h5 i x hx; rw [hy]; rfl) (fun i x hx => by obtain ⟨y, hy, hvy⟩ := h5 i x hx; rw [hy]; exact hvy)
        simpa using this
    · simp [stride, Heap.get, Heap.empty, look] at hs

theorem opU_load {agg : Bool} {n : Nat} {x : Opd} {cs : List AVal} {k0 : Nat} (hm : mOp P c o (.load agg n x) = true) (hev : ev tm x = .pimm cs k0) (hp : takeA agg n cs k0 = some v) (hT : TR c M ρ tm a.tmps) :
    ∃ u, VR c M ρ v u ∧ ∀ w, SM M w → (execOp a.eval o).run P w = .ok (.value u) w := by
  cases hop : o.op <;> simp only [mOp, hop, Bool.false_eq_true, Bool.and_eq_true, Bool.or_eq_true, beq_iff_eq] at hm
  rename_i t x'
  obtain ⟨⟨⟨h1, h2⟩, h3⟩, h4⟩ := hm
  have hv := ev_vr hT h3
  rw [hev] at hv
  cases he : a.eval x' <;> rw [he] at hv <;> cases hv
  rename_i b k u hf hmm hvv
  have hlen : k0 + n ≤ cs.length := by
    unfold takeA at hp
    cases agg with
    | true =>
      simp only [if_true] at hp
      split at hp
      · assumption
      · cases hp
    | false =>
      have : n = 1 := by simpa using h4
      subst this
      simp only [Bool.false_eq_true, if_false] at hp
      have := (List.getElem?_eq_some_iff.1 hp).1
      omega
  let us : List Value := (List.range n).map fun j => u (k0 + j)
  have hus : ∀ (j : Nat) (z : Value), us[j]? = some z → z = u (k0 + j) ∧ k0 + j < cs.length := by
    intro j z hz
    have hj : j < n := by have := (List.getElem?_eq_some_iff.1 hz).1; simpa [us] using this
    have hz' : u (k0 + j) = z := by simpa [us, hj] using hz
    exact ⟨hz'.symm, by omega⟩
  refine ⟨if agg then .agg us.toArray else us.getD 0 undef, VR.part agg hf h4 (by simp [us]) (fun j y z hy hz => by rw [(hus j z hz).1]; exact hvv _ y hy) hp, fun w hw => ?_⟩
  simp [execOp, hop, he, Instr.loadAt, Instr.sureAddr, run_loadVar h1 h2 h4 w b (k + k0) us (by simp [us]) (fun j z hz => by
    obtain ⟨rfl, hlt⟩ := hus j z hz
    rw [Nat.add_assoc]
    exact hw _ _ _ (hmm (k0 + j) cs[k0 + j] (by simp)))]

/-- Values that are told by one value of Go's alone. -/
def scalar : AVal → Bool
  | .bool _ | .int .. | .str _ => true
  | _ => false
theorem scalar_one {u u' : Value} (h : scalar v = true) (hu : VR c M ρ v u) (hu' : VR c M ρ v u') : u = u' := by
  cases v <;> simp only [scalar, Bool.false_eq_true] at h
  · rw [bool_inv hu, bool_inv hu']
  · rw [int_inv hu, int_inv hu']
  · obtain ⟨s, rfl, h1⟩ := str_inv hu
    obtain ⟨s', rfl, h2⟩ := str_inv hu'
    rw [byteInts_inj (h1.trans h2.symm)]

theorem HR.blank {n : Nat} (hρ : ∀ i p, ρ i = some p → i < n) (hl : MLe c.m0 M) (w : World) (h : SM M w) : HR c w w.heap.size M ρ ⟨n, []⟩ w where
  below := .refl _ _
  low := Nat.le_refl _
  tab := hl
  mem := h
  fresh := hρ
  obj := fun i o hi => by simp [Heap.get, look] at hi
  dist := fun i j o p b s t s' t' hi => by simp [Heap.get, look] at hi

theorem bin_scalar {op : BinOp} {k : BKind} {lit : Bool} {x y : AVal} (h : binA op k lit x y = some v) : scalar v = true := by
  have eqs : ∀ (o : Option AVal), o = some v → (∀ v', o = some v' → scalar v' = true) → scalar v = true := fun o h1 h2 => h2 v h1
  have harm : ∀ x y, eqArm op k x y = some v → scalar v = true := fun x y h => by
    unfold eqArm at h
    split at h
    · obtain ⟨b, _, rfl⟩ := Option.map_eq_some_iff.1 h; rfl
    · obtain ⟨b, _, rfl⟩ := Option.map_eq_some_iff.1 h; rfl
    · cases h
  unfold binA at h
  split at h
  · unfold intBin at h
    repeat' (split at h)
    all_goals first | (cases h; rfl) | cases h
  · unfold strBin at h
    repeat' (split at h)
    all_goals first | (cases h; rfl) | cases h
  · repeat' (split at h)
    all_goals first | (cases h; rfl) | cases h
  · exact harm _ _ h

theorem quiet_ok {op : IOp} {H1 : Heap} {n : Nat} (hq : quiet op = true) (hm : mOp P c o op = true) (hx : exOp env tm Heap.empty op = some (v, H1)) (hT : TR c M ρ tm a.tmps) (hρ : ∀ i p, ρ i = some p → i < n) (hl0 : MLe c.m0 M) (w : World) (hw : SM M w) :
    ∃ u, VR c M ρ v u ∧ ∀ w, SM M w → (execOp a.eval o).run P w = .ok (.value u) w := by
  have sc : scalar v = true → (∀ w, SM M w → ∃ u, (execOp a.eval o).run P w = .ok (.value u) w ∧ VR c M ρ v u) → ∃ u, VR c M ρ v u ∧ ∀ w, SM M w → (execOp a.eval o).run P w = .ok (.value u) w := fun hs h => by
    obtain ⟨u, h1, h2⟩ := h w hw
    refine ⟨u, h2, fun w' hw' => ?_⟩
    obtain ⟨u', h3, h4⟩ := h w' hw'
    rw [h3, scalar_one hs h2 h4]
  cases op <;> simp only [quiet, Bool.false_eq_true] at hq
  case mv x =>
    simp only [exOp, Option.some.injEq, Prod.mk.injEq] at hx
    obtain ⟨rfl, _⟩ := hx
    cases hop : o.op <;> simp only [mOp, hop, Bool.false_eq_true] at hm
    · exact ⟨_, ev_vr hT hm, fun w _ => by simp [execOp, hop]⟩
    · exact ⟨_, ev_vr hT hm, fun w _ => by simp [execOp, hop]⟩
  case pick p x y =>
    simp only [exOp] at hx
    split at hx
    case h_2 => cases hx
    rename_i t hp
    simp only [Option.some.injEq, Prod.mk.injEq] at hx
    obtain ⟨rfl, _⟩ := hx
    cases hop : o.op <;> simp only [mOp, hop, Bool.false_eq_true, Bool.and_eq_true] at hm
    rename_i p' x' y'
    have e := bool_inv (hp ▸ ev_vr hT hm.1.1)
    refine ⟨if t then a.eval x' else a.eval y', ?_, fun w _ => by simp [execOp, hop, e, asBool]⟩
    cases t
    · exact ev_vr hT hm.2
    · exact ev_vr hT hm.1.2
  case load agg n x =>
    obtain ⟨h, _⟩ := val_inv hx
    unfold loadA at h
    split at h
    · rename_i cs k0 hev
      exact opU_load hm hev h hT
    · simp [Heap.get, Heap.empty, look] at h
    · cases h
  case bin op k x y =>
    obtain ⟨h, _⟩ := val_inv hx
    exact sc (bin_scalar h) fun w hw => opP_bin hm h hT (HR.blank hρ hl0 w hw)
  case fieldAddr off x =>
    simp only [exOp] at hx
    have h : (match ev tm x with | .ptr id i k => some (AVal.ptr id i (k + off)) | .pimm cs k => some (.pimm cs (k + off)) | _ => none) = some v := by
      cases hq : ev tm x <;> rw [hq] at hx <;> simp at hx <;> simp [hx]
    exact opU_fieldAddr hm h hT
  case indexAddr arr sz x i =>
    simp only [exOp] at hx
    cases hs : stride Heap.empty sz (ev tm x) with
    | false => rw [hs] at hx; cases hx
    | true =>
      rw [hs] at hx
      exact opU_indexAddr hm hs (val_inv hx).1 hT
  case max x y =>
    simp only [exOp] at hx
    split at hx
    · rename_i h1 h2
      simp only [Option.some.injEq, Prod.mk.injEq] at hx
      obtain ⟨rfl, rfl⟩ := hx
      exact sc rfl fun w hw => opP_max hm h1 h2 hT (HR.blank hρ hl0 w hw)
    · cases hx
  case min x y =>
    simp only [exOp] at hx
    split at hx
    · rename_i h1 h2
      simp only [Option.some.injEq, Prod.mk.injEq] at hx
      obtain ⟨rfl, rfl⟩ := hx
      exact sc rfl fun w hw => opP_min hm h1 h2 hT (HR.blank hρ hl0 w hw)
    · cases hx
  case conv k x =>
    split at hq
    case h_2 => cases hq
    simp only [exOp, convA] at hx
    split at hx
    case h_2 => cases hx
    rename_i es hes
    split at hx
    case h_2 => cases hx
    rename_i l hl
    simp only [Option.some.injEq, Prod.mk.injEq] at hx
    obtain ⟨rfl, rfl⟩ := hx
    refine sc rfl fun w hw => opP_bytesStr (H := ⟨n, []⟩) hm ?_ hl hT (HR.blank hρ hl0 w hw)
    rw [← hes]
    cases ev tm x <;> rfl
end
end Go.Abx
