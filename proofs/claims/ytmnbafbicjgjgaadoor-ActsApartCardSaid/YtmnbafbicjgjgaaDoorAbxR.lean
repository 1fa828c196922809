/- Guards, ghost steps, rows of steps, code. -/
import Derived.Test.YtmnbafbicjgjgaaDoorAbxU
namespace Go.Abx
open Go.RowKit
set_option linter.unusedVariables false
set_option linter.unusedSimpArgs false

section
variable {P : Program} {c : Cx} {w0 : World} {base N : Nat} {M : Mem} {ρ : Pl} {H H' : Heap} {w w' : World} {tm tm' : Tm} {a : Act} {o : Oper} {env : Env} {v : AVal} {ops : Array Oper}

theorem getD_bool {ts : Array Value} {t : Nat} {b : Bool} (h : ts.getD t undef = .bool b) : ts[t]? = some (.bool b) := by
  rw [Array.getD_eq_getD_getElem?] at h
  cases hq : ts[t]? with
  | none => rw [hq] at h; cases h
  | some x => rw [hq] at h; simp only [Option.getD_some] at h; rw [h]

theorem wanted_ok {g : Option (Nat × Bool)} {b : Bool} (hm : mGuard ops o g = true) (h : wantedA tm g = some b) (hT : TR c M ρ tm a.tmps) : Region.wanted o (yielded ops a.tmps) = b := by
  cases hg : o.guard with
  | none =>
    cases g with
    | some p => simp [mGuard, hg] at hm
    | none =>
      simp only [wantedA, Option.some.injEq] at h
      simp [Region.wanted, hg, h]
  | some q =>
    obtain ⟨j, wt⟩ := q
    cases g with
    | none => simp [mGuard, hg] at hm
    | some p =>
    obtain ⟨t, wt'⟩ := p
    simp only [mGuard, hg, Bool.and_eq_true, beq_iff_eq] at hm
    obtain ⟨hd, rfl⟩ := hm
    have hv := hT.at_ t
    simp only [wantedA] at h
    split at h
    · rename_i x hx
      simp only [Option.some.injEq] at h
      subst h
      rw [hx] at hv
      have := getD_bool (bool_inv hv)
      simp only [Region.wanted, hg, yielded, hd, Option.bind_some, this]
      cases x <;> cases wt <;> rfl
    · rename_i hx
      simp only [Option.some.injEq] at h
      subst h
      rw [hx] at hv
      have hn : ∀ x, a.tmps[t]? ≠ some (.bool x) := fun x hq => by
        rw [Array.getD_eq_getD_getElem?, hq] at hv
        cases hv
      simp only [Region.wanted, hg, yielded, hd, Option.bind_some]
      cases hq : a.tmps[t]? with
      | none => rfl
      | some y => cases y <;> first | rfl | exact absurd hq (hn _)
    · cases h

theorem St.put (h : St c w0 base N M ρ tm H a w) {dst : Option Nat} (hd : dst.all (· < N) = true) {M' : Mem} {ρ' : Pl} (hg : Grows base M ρ M' ρ') (hH : HR c w0 base M' ρ' H' w') {u : Value} (hv : VR c M' ρ' v u) :
    St c w0 base N M' ρ' (putT tm dst v) H' (a.put dst u) w' where
  t := (h.t.grow hg).put dst (fun d hd' => by subst hd'; simp at hd; exact Nat.lt_of_lt_of_le hd h.n) hv
  h := hH
  n := by cases dst <;> simpa [Act.put] using h.n
  d := by cases dst <;> simpa [Act.put] using h.d

/-- One step that is an operation. -/
theorem step_ok {i : Nat} {g : Option (Nat × Bool)} {dst : Option Nat} {io : IOp} {K : Act → World → Prop} {Q : Exit → Act → World → Prop} (he : EnvOk P c env) (ho : ops[i]? = some o) (hg : mGuard ops o g = true) (hd : o.dst = dst) (hN : dst.all (· < N) = true)
    (hm : mOp P c o io = true) (hx : exStep env (.op g dst io) tm H = some (tm', H')) (hS : St c w0 base N M ρ tm H a w)
    (hK : ∀ a' w' M' ρ', Grows base M ρ M' ρ' → St c w0 base N M' ρ' tm' H' a' w' → K a' w') : wpOp P ops Q i K a w := by
  unfold wpOp
  rw [ho]
  simp only
  subst hd
  simp only [exStep] at hx
  split at hx
  · rename_i hw
    rw [wanted_ok hg hw hS.t, if_pos rfl]
    split at hx
    case h_2 => cases hx
    rename_i v H1 hop
    simp only [Option.some.injEq, Prod.mk.injEq] at hx
    obtain ⟨rfl, rfl⟩ := hx
    exact .inl (op_all he hm hop hS.t hS.h fun u w' M' ρ' h1 h2 h3 => hK _ _ M' ρ' h1 (hS.put hN h1 h2 h3))
  · rename_i hw
    rw [wanted_ok hg hw hS.t]
    simp only [Option.some.injEq, Prod.mk.injEq] at hx
    obtain ⟨rfl, rfl⟩ := hx
    simp only [Bool.false_eq_true, if_false]
    exact hK _ _ M ρ (.refl _ _ _) (hS.put hN (.refl _ _ _) hS.h (undef_vr _ _ _))
  · cases hx

/-- A ghost step. -/
theorem ghost_ok {s : IStep} (hs : ∀ g d io, s ≠ .op g d io) (hx : exStep env s tm H = some (tm', H')) (hS : St c w0 base N M ρ tm H a w) : ∃ M', Grows base M ρ M' ρ ∧ St c w0 base N M' ρ tm' H' a w := by
  cases s with
  | op g d io => exact absurd rfl (hs g d io)
  | frz t =>
    simp only [exStep] at hx
    split at hx
    case h_2 => cases hx
    rename_i v H1 hf
    simp only [Option.some.injEq, Prod.mk.injEq] at hx
    obtain ⟨rfl, rfl⟩ := hx
    obtain ⟨_, M', hg, hH, hv⟩ := frzVal_ok _ _ _ _ _ hf M hS.h
    exact ⟨M', hg, (hS.t.grow hg).retell t (hv _ (hS.t.at_ t)), hH, hS.n, hS.d⟩
  | drop t =>
    simp only [exStep] at hx
    have key : ∀ id, some (tm, H.drop id) = some (tm', H') → ∃ M', Grows base M ρ M' ρ ∧ St c w0 base N M' ρ tm' H' a w := fun id h => by
      simp only [Option.some.injEq, Prod.mk.injEq] at h
      obtain ⟨rfl, rfl⟩ := h
      exact ⟨M, .refl _ _ _, hS.t, hS.h.drop id, hS.n, hS.d⟩
    split at hx
    · exact key _ hx
    · exact key _ hx
    · exact key _ hx
    · simp only [Option.some.injEq, Prod.mk.injEq] at hx
      obtain ⟨rfl, rfl⟩ := hx
      exact ⟨M, .refl _ _ _, hS⟩
  | trunc t =>
    simp only [exStep] at hx
    split at hx
    · rename_i id n hev
      split at hx
      case h_2 => cases hx
      rename_i es sz cap fr hget
      split at hx
      case isFalse => cases hx
      rename_i hcond
      obtain ⟨hfr', hn'⟩ := hcond
      simp only [Option.some.injEq, Prod.mk.injEq] at hx
      obtain ⟨rfl, rfl⟩ := hx
      obtain ⟨b, sz', tot, hp, hb, hb2, hO⟩ := hS.h.obj id _ hget
      obtain ⟨rfl, hsz, hle, hfr, hcap, hMn, cs, E, fz, hw, hcs, hfz, hels, hvs⟩ := hO
      have hat : ∀ (j : Nat) (e : AVal), (es.take n)[j]? = some e → es[j]? = some e := fun j e he => by
        rw [List.getElem?_take] at he
        split at he
        · exact he
        · cases he
      refine ⟨M, .refl _ _ _, hS.t, hS.h.turn hget hp _ hb hS.h.below rfl (fun _ _ => rfl) ⟨rfl, hsz, by rw [List.length_take]; omega, by rw [List.length_take]; omega, hcap, hMn, cs, E, fz, hw, hcs, hfz, fun j e he => hels j e (hat j e he), fun j e he => hvs j e (hat j e he)⟩ (fun q u hu => hS.h.mem _ _ _ hu), hS.n, hS.d⟩
    · simp only [Option.some.injEq, Prod.mk.injEq] at hx
      obtain ⟨rfl, rfl⟩ := hx
      exact ⟨M, .refl _ _ _, hS⟩

theorem steps_ok {Q : Exit → Act → World → Prop} (he : EnvOk P c env) : ∀ (s : List IStep) (l : List Oper) (i : Nat) (tm : Tm) (H : Heap) (a : Act) (w : World) (M : Mem) (ρ : Pl), ops.toList.drop i = l → mSteps P c N ops l s = true → exSteps env s tm H = some (tm', H') → St c w0 base N M ρ tm H a w →
    (∀ a' w' M' ρ', Grows base M ρ M' ρ' → St c w0 base N M' ρ' tm' H' a' w' → Q .normal a' w') → wpOps P ops Q (List.range' i l.length) a w
  | [], l, i, tm, H, a, w, M, ρ, hl, hm, hx, hS, hQ => by
    cases l with
    | nil =>
      simp only [exSteps, Option.some.injEq, Prod.mk.injEq] at hx
      obtain ⟨rfl, rfl⟩ := hx
      exact hQ a w M ρ (.refl _ _ _) hS
    | cons o r => simp [mSteps] at hm
  | s :: rs, l, i, tm, H, a, w, M, ρ, hl, hm, hx, hS, hQ => by
    simp only [exSteps] at hx
    split at hx
    case h_2 => cases hx
    rename_i tm1 H1 h1
    have ghost : (∀ g d io, s ≠ .op g d io) → mSteps P c N ops l rs = true → wpOps P ops Q (List.range' i l.length) a w := fun hs hm' => by
      obtain ⟨M', hg, hS'⟩ := ghost_ok hs h1 hS
      exact steps_ok he rs l i tm1 H1 a w M' ρ hl hm' hx hS' fun a' w' M2 ρ2 h2 h3 => hQ a' w' M2 ρ2 (hg.trans h2) h3
    cases s with
    | frz t => exact ghost (by simp) (by simpa [mSteps] using hm)
    | drop t => exact ghost (by simp) (by simpa [mSteps] using hm)
    | trunc t => exact ghost (by simp) (by simpa [mSteps] using hm)
    | op g dst io =>
      cases l with
      | nil => simp [mSteps] at hm
      | cons o r =>
        simp only [mSteps, Bool.and_eq_true, beq_iff_eq] at hm
        obtain ⟨⟨⟨⟨m1, m2⟩, m3⟩, m4⟩, m5⟩ := hm
        have ho : ops[i]? = some o := by
          have : (ops.toList.drop i)[0]? = some o := by rw [hl]; rfl
          rw [List.getElem?_drop] at this
          simpa using this
        have hl' : ops.toList.drop (i + 1) = r := by
          rw [← List.drop_drop, hl]; rfl
        rw [List.length_cons, List.range'_succ, wpOps_cons]
        exact step_ok he ho m1 m2 m3 m4 h1 hS fun a' w' M' ρ' h2 h3 => steps_ok he rs r (i + 1) tm1 H1 a' w' M' ρ' hl' m5 hx h3 fun a2 w2 M2 ρ2 h4 h5 => hQ a2 w2 M2 ρ2 (h2.trans h4) h5
end
end Go.Abx
