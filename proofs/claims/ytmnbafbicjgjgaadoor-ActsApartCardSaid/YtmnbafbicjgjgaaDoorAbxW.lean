/- Code: what the executor does, Go does. -/
import Derived.Test.YtmnbafbicjgjgaaDoorAbxV
namespace Go.Abx
open Go.RowKit
set_option linter.unusedVariables false
set_option linter.unusedSimpArgs false

def exitOf : Ex → Exit
  | .normal => .normal
  | .exit id => .exit id
  | .ret => .ret

def Post (c : Cx) (w0 : World) (base N : Nat) (M : Mem) (ρ : Pl) (fin : Ex × Tm × Heap) : Exit → Act → World → Prop := fun e a w =>
  e = exitOf fin.1 ∧ ∃ M' ρ', Grows base M ρ M' ρ' ∧ St c w0 base N M' ρ' fin.2.1 fin.2.2 a w

section
variable {P : Program} {c : Cx} {w0 : World} {base N : Nat} {env : Env}

theorem Post.grow {M M1 : Mem} {ρ ρ1 : Pl} {fin : Ex × Tm × Heap} {e : Exit} {a : Act} {w : World} (hg : Grows base M ρ M1 ρ1) (h : Post c w0 base N M1 ρ1 fin e a w) : Post c w0 base N M ρ fin e a w := by
  obtain ⟨h1, M', ρ', h2, h3⟩ := h
  exact ⟨h1, M', ρ', hg.trans h2, h3⟩

theorem exists_least {J : Nat → Prop} (h : ∃ n, J n) : ∃ n, J n ∧ ∀ m, J m → n ≤ m := by
  obtain ⟨n, hn⟩ := h
  induction n using Nat.strongRecOn with
  | _ n ih =>
    by_cases hl : ∃ m, m < n ∧ J m
    · obtain ⟨m, hm, hJ⟩ := hl
      exact ih m hm hJ
    · exact ⟨n, hn, fun m hm => by
        rcases Nat.lt_or_ge m n with h | h
        · exact absurd ⟨m, h, hm⟩ hl
        · exact h⟩

open Classical in
noncomputable def leastOf (J : Nat → Prop) : Nat := if h : ∃ n, J n then (exists_least h).choose else 0
theorem leastOf_is {J : Nat → Prop} (h : ∃ n, J n) : J (leastOf J) := by unfold leastOf; rw [dif_pos h]; exact (exists_least h).choose_spec.1
theorem leastOf_le {J : Nat → Prop} {n : Nat} (h : J n) : leastOf J ≤ n := by unfold leastOf; rw [dif_pos ⟨n, h⟩]; exact (exists_least ⟨n, h⟩).choose_spec.2 n h

theorem code_ok (he : EnvOk P c env) : ∀ (ic : ICode) (code : Code) (tm : Tm) (H : Heap) (a : Act) (w : World) (M : Mem) (ρ : Pl) (fin : Ex × Tm × Heap), mCode P c N code ic = true → ex env ic tm H = some fin → St c w0 base N M ρ tm H a w →
    code.wp P (Post c w0 base N M ρ fin) a w := by
  intro ic
  induction ic with
  | skip =>
    intro code tm H a w M ρ fin hm hx hS
    cases code <;> simp only [mCode, Bool.false_eq_true] at hm
    simp only [ex, Option.some.injEq] at hx
    subst hx
    exact wp_skip ⟨rfl, M, ρ, .refl _ _ _, hS⟩
  | ops l =>
    intro code tm H a w M ρ fin hm hx hS
    cases code <;> try simp only [mCode, Bool.false_eq_true] at hm
    rename_i id ops d
    cases d <;> try simp only [mCode, Bool.false_eq_true] at hm
    simp only [ex] at hx
    split at hx
    case h_2 => cases hx
    rename_i tm' H' hs
    simp only [Option.some.injEq] at hx
    subst hx
    refine wp_region ?_
    rw [List.range_eq_range', ← Array.length_toList]
    exact steps_ok he l ops.toList 0 tm H a w M ρ rfl hm hs hS fun a' w' M' ρ' h1 h2 => ⟨rfl, M', ρ', h1, h2⟩
  | draw l =>
    intro code tm H a w M ρ fin hm hx hS
    cases code <;> try simp only [mCode, Bool.false_eq_true] at hm
    rename_i id ops d
    cases d <;> try simp only [mCode, Bool.false_eq_true, Bool.and_eq_true] at hm
    obtain ⟨⟨hm1, hm2⟩, hm3⟩ := hm
    simp only [ex] at hx
    split at hx
    case h_2 => cases hx
    rename_i tm' H' hs
    simp only [Option.some.injEq] at hx
    subst hx
    have hl := (draw_at _ _ hm1).1
    rw [Array.length_toList] at hl
    refine wp_region_held (S := SM M) hm3 ?_
    have hS' : St c w0 base N M ρ tm H a w.drew := ⟨hS.t, hS.h.drew, hS.n, hS.d⟩
    exact draw_ok he (fun ch a w h => by cases h.1) hm2 hm1 ops.size _ tm H a w.drew M ρ (tm', H') (by rw [Array.toList_replicate, hl]; exact hs) hS' fun a' w' M' ρ' h1 h2 => ⟨rfl, M', ρ', h1, h2⟩
  | seq x y ihx ihy =>
    intro code tm H a w M ρ fin hm hx hS
    cases code <;> simp only [mCode, Bool.false_eq_true, Bool.and_eq_true] at hm
    simp only [ex] at hx
    refine wp_seq ?_
    split at hx
    · rename_i tm1 H1 h1
      refine wp_mono (ihx _ tm H a w M ρ _ hm.1 h1 hS) fun e a' w' h => ?_
      obtain ⟨rfl, M', ρ', hg, hS'⟩ := h
      exact wp_mono (ihy _ tm1 H1 a' w' M' ρ' _ hm.2 hx hS') fun e a2 w2 h => h.grow hg
    · rename_i hne
      refine wp_mono (ihx _ tm H a w M ρ _ hm.1 hx hS) fun e a' w' h => ?_
      obtain ⟨e1, t1, h1⟩ := fin
      obtain ⟨rfl, r⟩ := h
      cases e1 with
      | normal => exact absurd hx (hne _ _)
      | exit id => exact ⟨rfl, r⟩
      | ret => exact ⟨rfl, r⟩
  | cond cc x y ihx ihy =>
    intro code tm H a w M ρ fin hm hx hS
    cases code <;> simp only [mCode, Bool.false_eq_true, Bool.and_eq_true] at hm
    obtain ⟨⟨m1, m2⟩, m3⟩ := hm
    simp only [ex] at hx
    split at hx
    case h_2 => cases hx
    rename_i t ht
    have hc := bool_inv (ht ▸ ev_vr hS.t m1)
    refine wp_cond hc ?_
    cases t with
    | true => exact ihx _ tm H a w M ρ fin m2 hx hS
    | false => exact ihy _ tm H a w M ρ fin m3 hx hS
  | block id x ih =>
    intro code tm H a w M ρ fin hm hx hS
    cases code <;> simp only [mCode, Bool.false_eq_true, Bool.and_eq_true, beq_iff_eq] at hm
    obtain ⟨rfl, hm⟩ := hm
    simp only [ex] at hx
    refine wp_block ?_
    split at hx
    · rename_i j tm1 H1 h1
      refine wp_mono (ih _ tm H a w M ρ _ hm h1 hS) fun e a' w' h => ?_
      obtain ⟨rfl, r⟩ := h
      split at hx
      · rename_i hj
        subst hj
        cases hx
        simp only [exitOf, Exit.inBlock, if_true]
        exact ⟨rfl, r⟩
      · rename_i hj
        cases hx
        simp only [exitOf, Exit.inBlock, if_neg hj]
        exact ⟨rfl, r⟩
    · rename_i hne
      refine wp_mono (ih _ tm H a w M ρ _ hm hx hS) fun e a' w' h => ?_
      obtain ⟨e1, t1, h1⟩ := fin
      obtain ⟨rfl, r⟩ := h
      cases e1 with
      | normal => exact ⟨rfl, r⟩
      | exit id => exact absurd hx (hne _ _ _)
      | ret => exact ⟨rfl, r⟩
  | loop x ih =>
    intro code tm H a w M ρ fin hm hx hS
    cases code <;> simp only [mCode, Bool.false_eq_true] at hm
    rename_i body
    simp only [ex] at hx
    let J : Act → World → Nat → Prop := fun a w n => ∃ tm1 H1 M1 ρ1, rounds (ex env x) n tm1 H1 = some fin ∧ Grows base M ρ M1 ρ1 ∧ St c w0 base N M1 ρ1 tm1 H1 a w
    refine wp_loop (fun a w => ∃ n, J a w n) (fun a w => leastOf (J a w)) ⟨many, tm, H, M, ρ, hx, .refl _ _ _, hS⟩ fun a1 w1 hI => ?_
    have hJ := leastOf_is hI
    generalize hn : leastOf (J a1 w1) = n at hJ
    obtain ⟨tm1, H1, M1, ρ1, hr, hg, hS1⟩ := hJ
    cases n with
    | zero => simp [rounds] at hr
    | succ k =>
      simp only [rounds] at hr
      split at hr
      · rename_i tm2 H2 h2
        refine wp_mono (ih _ tm1 H1 a1 w1 M1 ρ1 _ hm h2 hS1) fun e a' w' h => ?_
        obtain ⟨rfl, M2, ρ2, hg2, hS2⟩ := h
        have hk : J a' w' k := ⟨tm2, H2, M2, ρ2, hr, hg.trans hg2, hS2⟩
        exact ⟨⟨k, hk⟩, Nat.lt_of_le_of_lt (leastOf_le hk) (by omega)⟩
      · rename_i hne
        refine wp_mono (ih _ tm1 H1 a1 w1 M1 ρ1 _ hm hr hS1) fun e a' w' h => ?_
        obtain ⟨e1, t1, h1⟩ := fin
        have h' := h.grow hg
        obtain ⟨rfl, r⟩ := h'
        cases e1 with
        | normal => exact absurd hr (hne _ _)
        | exit id => exact ⟨rfl, r⟩
        | ret => exact ⟨rfl, r⟩
  | exit id =>
    intro code tm H a w M ρ fin hm hx hS
    cases code <;> simp only [mCode, Bool.false_eq_true, beq_iff_eq] at hm
    subst hm
    simp only [ex, Option.some.injEq] at hx
    subst hx
    exact wp_exit ⟨rfl, M, ρ, .refl _ _ _, hS⟩
  | ret =>
    intro code tm H a w M ρ fin hm hx hS
    cases code <;> simp only [mCode, Bool.false_eq_true] at hm
    simp only [ex, Option.some.injEq] at hx
    subst hx
    exact wp_ret ⟨rfl, M, ρ, .refl _ _ _, hS⟩
end
end Go.Abx
