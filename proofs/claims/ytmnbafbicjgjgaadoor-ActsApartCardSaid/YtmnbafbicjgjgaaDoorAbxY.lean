/- Functions (2): calls whose memory is their own. -/
import Derived.Test.YtmnbafbicjgjgaaDoorAbxX
namespace Go.Abx
open Go.RowKit
set_option linter.unusedVariables false
set_option linter.unusedSimpArgs false

section
variable {P : Program} {c : Cx} {w0 : World} {base N : Nat} {M : Mem} {ρ : Pl} {H H' : Heap} {w w' : World} {tm tm' : Tm} {env : Env} {v : AVal}

theorem HR.dropAll (h : HR c w0 base M ρ H w) : HR c w0 base M (fun _ => none) Heap.empty w where
  below := h.below
  low := h.low
  tab := h.tab
  mem := h.mem
  fresh := fun i p hp => by cases hp
  obj := fun i o hi => by simp [Heap.get, Heap.empty, look] at hi
  dist := fun i j o p b s t s' t' hi => by simp [Heap.get, Heap.empty, look] at hi

theorem pack_pure {l : List AVal} (h : AVal.pures l = true) : (pack l).pure = true := by
  match l with
  | [] => rfl
  | [x] => simpa [AVal.pures, pack] using h
  | x :: y :: r => simpa [pack, AVal.pure] using h

theorem VRs.free {l : List AVal} {us : List Value} {ρ' : Pl} (h : VRs c M ρ l us) (hp : AVal.pures l = true) : VRs c M ρ' l us := ⟨h.1, fun j x u hx hu => (h.2 j x u hx hu).free (pures_at hp hx)⟩

theorem pure_ok {f : FuncId} {fn : IFun} {k : Nat} (he : EnvOk P c env) (hm : mFun P c f fn k = true) : EntOk P c f (.pure false (runPure env fn)) := by
  intro args r hx
  unfold runPure at hx
  split at hx
  case isFalse => cases hx
  rename_i hpa
  split at hx
  case h_2 => cases hx
  rename_i l H1 hb
  split at hx
  case h_2 => cases hx
  rename_i l' H2 hz
  split at hx
  case isFalse => cases hx
  rename_i hpl
  cases hx
  refine ⟨pack_pure hpl, fun M ρ us w hl hw ha => ⟨?_, fun h => by cases h⟩⟩
  have hH : HR c w w.heap.size M (fun _ => none) Heap.empty w := HR.blank (n := 0) (fun i p hp => by cases hp) hl w hw
  refine (body_ok he hm hb hH (ha.free hpa)).mono fun u w' ⟨M', ρ', vs, h1, h2, h3, h4⟩ => ?_
  obtain ⟨_, M2, g1, g2, g3, g4⟩ := frzAll_ok hz h2
  subst h4
  have hv : VRs c M2 ρ' l' vs := ⟨g3.trans h3.1, fun j x u hx hu => by
    have hj : j < l.length := by rw [← g3]; exact (List.getElem?_eq_some_iff.1 hx).1
    exact g4 j l[j] x (by simp [hj]) hx u (h3.2 j _ u (by simp [hj]) hu)⟩
  exact ⟨M2, fun _ => none, h1.m.trans g1.m, fun b o hb => (g1.old b o hb).trans (h1.old b o hb), g2.dropAll, (pack_vr hv).free (pack_pure hpl)⟩

theorem frzList_pure (k : Nat) : ∀ (l : List AVal) (H : Heap), AVal.pures l = true → frzList (frzVal (k + 1)) l H = some (l, H)
  | [], H, h => rfl
  | x :: r, H, h => by
    simp only [AVal.pures, Bool.and_eq_true] at h
    have h1 : frzVal (k + 1) x H = some (x, H) := by simp [frzVal, h.1]
    simp only [frzList, h1, frzList_pure k r H h.2]

theorem importA_pack {x : AVal} {rest : List AVal} (hx : ∀ l, x ≠ .tup l) (H : Heap) : importA (pack (x :: rest)) H = (pack ((importV x H).1 :: rest), (importV x H).2) := by
  cases rest with
  | nil =>
    simp only [pack]
    unfold importA
    split
    · exact absurd rfl (hx _)
    · rfl
  | cons y r => rfl

/-- The result's row, told as a value and told as an object. -/
theorem own_head {l l' : List AVal} {vs : List Value} (hh : ownHead H l = some l') (hH : HR c w0 base M ρ H w) (hv : VRs c M ρ l vs) : (pack l').pure = true ∧
    (∃ M', Grows base M ρ M' ρ ∧ HR c w0 base M' (fun _ => none) Heap.empty w ∧ VR c M' (fun _ => none) (pack l') (packV vs)) ∧
    (∃ M' ρ', Grows base M ρ M' ρ ∧ HR c w0 base M' ρ' (importA (pack l') Heap.empty).2 w ∧ VR c M' ρ' (importA (pack l') Heap.empty).1 (packV vs)) := by
  have plain : ∀ x rest, l = x :: rest → l' = l → x.pure = true → AVal.pures rest = true → (∀ l, x ≠ .tup l) → (importV x Heap.empty = (x, Heap.empty)) → (pack l').pure = true ∧
      (∃ M', Grows base M ρ M' ρ ∧ HR c w0 base M' (fun _ => none) Heap.empty w ∧ VR c M' (fun _ => none) (pack l') (packV vs)) ∧
      (∃ M' ρ', Grows base M ρ M' ρ ∧ HR c w0 base M' ρ' (importA (pack l') Heap.empty).2 w ∧ VR c M' ρ' (importA (pack l') Heap.empty).1 (packV vs)) := by
    rintro x rest rfl rfl hp1 hp2 hnt hi
    have hp : AVal.pures (x :: rest) = true := by simp [AVal.pures, hp1, hp2]
    have hvr := (pack_vr hv).free (ρ' := fun _ => none) (pack_pure hp)
    refine ⟨pack_pure hp, ⟨M, .refl _ _ _, hH.dropAll, hvr⟩, M, fun _ => none, .refl _ _ _, ?_, ?_⟩
    · rw [importA_pack hnt, hi]; exact hH.dropAll
    · rw [importA_pack hnt, hi]; exact hvr
  unfold ownHead at hh
  split at hh
  · rename_i id n lim rest
    split at hh
    case h_2 => cases hh
    rename_i es sz cap hget
    split at hh
    case isFalse => cases hh
    rename_i hcond
    obtain ⟨rfl, hpe, hpr⟩ := hcond
    cases hh
    obtain ⟨hv1, hv2⟩ := hv
    cases vs with
    | nil => simp at hv1
    | cons u0 us =>
    have hp : AVal.pures (.vs es sz lim :: rest) = true := by simp [AVal.pures, AVal.pure, hpe, hpr]
    have hhs := hv2 0 _ u0 rfl rfl
    have hf : frzVal 2 (.hs id 0 es.length lim) H = some (.vs es sz lim, H.set id (.arr es sz cap es.length)) := by
      have h1 := frzList_pure 0 es H hpe
      simp [frzVal, AVal.pure, hget] at h1 ⊢
      simp [h1]
    obtain ⟨_, M2, g1, g2, g3⟩ := frzVal_ok 2 _ _ _ _ hf M hH
    have hv' : VRs c M2 (fun _ => none) (.vs es sz lim :: rest) (u0 :: us) := (VRs.free (ρ := ρ) ⟨hv1, fun j x u hx hu => by
      cases j with
      | zero => simp at hx hu; subst hx; subst hu; exact g3 _ hhs
      | succ j => exact (hv2 (j + 1) x u (by simpa using hx) hu).grow g1⟩ hp)
    refine ⟨pack_pure hp, ⟨M2, g1, g2.dropAll, pack_vr hv'⟩, ?_⟩
    rw [importA_pack (by simp)]
    by_cases hne : es.isEmpty = true
    · refine ⟨M2, fun _ => none, g1, ?_, ?_⟩
      · simp only [importV, hne, if_true]; exact g2.dropAll
      · simp only [importV, hne, if_true]; exact pack_vr hv'
    · have hi : importV (.vs es sz lim) Heap.empty = (.hs 0 0 es.length lim, Heap.empty.new (.arr es sz none 0)) := by simp only [importV, if_neg hne]; rfl
      rw [hi]
      obtain ⟨b, sz', tot, hp1, hb1, hb2, hO⟩ := hH.obj _ _ hget
      obtain ⟨b2, sz2, tot2, cap', hp2, hu, h0, h1, h2, h3⟩ := hs_inv hhs
      rw [hp1] at hp2
      simp only [Option.some.injEq, Prod.mk.injEq] at hp2
      obtain ⟨rfl, rfl, rfl⟩ := hp2
      have hO' : OR c M (plNew (fun _ => none) Heap.empty.next (b, sz', tot)) w b sz' tot (.arr es sz none 0) := by
        obtain ⟨q1, q2, q3, q4, q5, q6, r⟩ := hO.free (ρ' := plNew (fun _ => none) Heap.empty.next (b, sz', tot)) hpe
        exact ⟨q1, q2, q3, q4, by simp, q6, r⟩
      refine ⟨M, _, .refl _ _ _, hH.dropAll.lay (.arr es sz none 0) b sz' tot hb1 hb2 hO' (fun i p s t hi => by simp [Heap.get, Heap.empty, look] at hi), ?_⟩
      refine pack_vr ⟨by simpa using hv1, fun j x u hx huj => ?_⟩
      cases j with
      | zero =>
        simp only [List.getElem?_cons_zero, Option.some.injEq] at hx huj
        subst hx; subst huj; subst hu
        exact .hs (b := b) (sz := sz') (tot := tot) 0 es.length cap' lim (by simp [plNew, Heap.empty]) h0 h1 h2 h3
      | succ j => exact (hv2 (j + 1) x u (by simpa using hx) huj).free (pures_at hpr (by simpa using hx))
  · rename_i sz cap rest
    split at hh
    case isFalse => cases hh
    rename_i hpr
    cases hh
    exact plain _ rest rfl rfl rfl hpr (by simp) rfl
  · rename_i rest
    split at hh
    case isFalse => cases hh
    rename_i hpr
    cases hh
    exact plain _ rest rfl rfl rfl hpr (by simp) rfl
  · cases hh

theorem own_ok {f : FuncId} {fn : IFun} {k : Nat} (he : EnvOk P c env) (hm : mFun P c f fn k = true) : EntOk P c f (.pure true (runOwn env fn)) := by
  intro args r hx
  unfold runOwn at hx
  split at hx
  case isFalse => cases hx
  rename_i hpa
  split at hx
  case h_2 => cases hx
  rename_i l H1 hb
  split at hx
  case h_2 => cases hx
  rename_i l' hh
  cases hx
  have hpure : (pack l').pure = true := by
    unfold ownHead at hh
    split at hh
    · split at hh
      · split at hh
        · rename_i hc
          cases hh
          exact pack_pure (by simp [AVal.pures, AVal.pure, hc.2.1, hc.2.2])
        · cases hh
      · cases hh
    · split at hh
      · rename_i hc
        cases hh
        exact pack_pure (by simp [AVal.pures, AVal.pure, hc])
      · cases hh
    · split at hh
      · rename_i hc
        cases hh
        exact pack_pure (by simp [AVal.pures, AVal.pure, hc])
      · cases hh
    · cases hh
  refine ⟨hpure, fun M ρ us w hl hw ha => ?_⟩
  have hH : HR c w w.heap.size M (fun _ => none) Heap.empty w := HR.blank (n := 0) (fun i p hp => by cases hp) hl w hw
  have hbody := body_ok he hm hb hH (ha.free hpa)
  refine ⟨hbody.mono fun u w' ⟨M', ρ', vs, h1, h2, h3, h4⟩ => ?_, fun _ => hbody.mono fun u w' ⟨M', ρ', vs, h1, h2, h3, h4⟩ => ?_⟩
  · subst h4
    obtain ⟨_, ⟨M2, g1, g2, g3⟩, _⟩ := own_head hh h2 h3
    exact ⟨M2, _, h1.m.trans g1.m, fun b o hb => (g1.old b o hb).trans (h1.old b o hb), g2, g3⟩
  · subst h4
    obtain ⟨_, _, M2, ρ2, g1, g2, g3⟩ := own_head hh h2 h3
    exact ⟨M2, _, h1.m.trans g1.m, fun b o hb => (g1.old b o hb).trans (h1.old b o hb), g2, g3⟩

theorem env_nil : EnvOk P c [] := fun g e h => by simp [envGet] at h
theorem env_cons {g : Nat} {e : FEnt} {f : FuncId} {r : Env} (hf : c.fn g = some f) (he : EntOk P c f e) (h : EnvOk P c r) : EnvOk P c ((g, e) :: r) := fun i e' hi => by
  simp only [envGet] at hi
  split at hi
  · rename_i hg
    subst hg
    cases hi
    exact ⟨f, hf, he⟩
  · exact h i e' hi
end
end Go.Abx
