/- Calls. -/
import Derived.Test.YtmnbafbicjgjgaaDoorAbxO
import Derived.OrdersHeld
namespace Go.Abx
open Go.RowKit
set_option linter.unusedVariables false
set_option linter.unusedSimpArgs false

def SM (M : Mem) (w : World) : Prop := ∀ b o u, M b o = some u → w.cell? ⟨b, o, none⟩ = some u
def VRs (c : Cx) (M : Mem) (ρ : Pl) (l : List AVal) (us : List Value) : Prop := l.length = us.length ∧ ∀ (j : Nat) (x : AVal) (u : Value), l[j]? = some x → us[j]? = some u → VR c M ρ x u

/-- What a call of a function comes to: whatever it leads to (a body, or a function of the model's own). -/
def CallTo (P : Program) (f : FuncId) (us : List Value) (w : World) (R : Value → World → Prop) : Prop :=
  ∀ (o : Oper) (a : Act) (K : Act → World → Prop) (Q : Exit → Act → World → Prop), (∀ u w', R u w' → K (a.put o.dst u) w') → o.upon P a K Q ((callFunc f us.toArray).run P w)

theorem CallTo.mono {P : Program} {f : FuncId} {us : List Value} {w : World} {R R' : Value → World → Prop} (h : CallTo P f us w R) (hr : ∀ u w', R u w' → R' u w') : CallTo P f us w R' :=
  fun o a K Q hK => h o a K Q fun u w' hu => hK u w' (hr u w' hu)

/-- What a call leaves that was begun with an empty heap of its own. -/
def Out (c : Cx) (M : Mem) (w : World) (r : AVal × Heap) (u : Value) (w' : World) : Prop :=
  ∃ M' ρ', MLe M M' ∧ (∀ b o, b < w.heap.size → M' b o = M b o) ∧ HR c w w.heap.size M' ρ' r.2 w' ∧ VR c M' ρ' r.1 u

def EntOk (P : Program) (c : Cx) (f : FuncId) : FEnt → Prop
  | .pure own F => ∀ args r, F args = some r → r.pure = true ∧ ∀ M ρ us w, MLe c.m0 M → SM M w → VRs c M ρ args us → CallTo P f us w (Out c M w (r, Heap.empty)) ∧ (own = true → CallTo P f us w (Out c M w (importA r Heap.empty)))
  | .raw F => ∀ args H r H', F args H = some (r, H') → ∀ w0 base M ρ us w, HR c w0 base M ρ H w → VRs c M ρ args us →
      CallTo P f us w fun u w' => ∃ M' ρ', Grows base M ρ M' ρ' ∧ HR c w0 base M' ρ' H' w' ∧ VR c M' ρ' r u

def EnvOk (P : Program) (c : Cx) (env : Env) : Prop := ∀ g e, envGet env g = some e → ∃ f, c.fn g = some f ∧ EntOk P c f e

section
variable {P : Program} {c : Cx} {w0 : World} {base : Nat} {M : Mem} {ρ : Pl} {H H' : Heap} {w w' : World} {tm : Tm} {a : Act} {o : Oper} {env : Env} {v : AVal}

theorem HR.called (h : HR c w0 base M ρ H w) {M' : Mem} (hB : Below w.heap.size w w') (hM : MLe M M') (hA : ∀ b o, b < w.heap.size → M' b o = M b o) (hm : SM M' w') : HR c w0 base M' ρ H w' where
  below := h.below.trans (hB.mono h.low)
  low := Nat.le_trans h.low hB.size
  tab := fun b o u hu => hM b o u (h.tab b o u hu)
  mem := hm
  fresh := h.fresh
  obj := fun i o hi => by
    obtain ⟨b, sz, tot, h1, h2, h3, h4⟩ := h.obj i o hi
    exact ⟨b, sz, tot, h1, h2, Nat.lt_of_lt_of_le h3 hB.size, h4.mono hM (.refl _) (hB.block b h3) (fun q hq => by rw [hA b q h3]; exact hq)⟩
  dist := h.dist

theorem OR.free {M : Mem} {ρ ρ' : Pl} {b sz tot : Nat} {es : List AVal} {z : Nat} {cap : Option Nat} {fr : Nat} (h : OR c M ρ w b sz tot (.arr es z cap fr)) (hp : AVal.pures es = true) : OR c M ρ' w b sz tot (.arr es z cap fr) := by
  obtain ⟨h1, h2, h3, h4, h5, h6, cs, E, fz, h7, h8, h9, h10, h11⟩ := h
  exact ⟨h1, h2, h3, h4, h5, h6, cs, E, fz, h7, h8, h9, h10, fun j e he i x hx => (h11 j e he i x hx).imp fun u hu => ⟨hu.1, hu.2.free (pures_at (pure_cells (pures_at hp he)) hx)⟩⟩

theorem importV_ok {r : AVal} {u : Value} (hH : HR c w0 base M ρ H w) {M' : Mem} {ρ' : Pl} (hA : ∀ b o, b < w.heap.size → M' b o = M b o) (hM : MLe M M') (hO : HR c w w.heap.size M' ρ' (importV r Heap.empty).2 w') (hv : VR c M' ρ' (importV r Heap.empty).1 u) (hp : r.pure = true) :
    ∃ ρ2, Grows base M ρ M' ρ2 ∧ HR c w0 base M' ρ2 (importV r H).2 w' ∧ VR c M' ρ2 (importV r H).1 u := by
  have hg : Grows base M ρ M' ρ := ⟨hM, .refl _, fun b o hb => hA b o (Nat.lt_of_lt_of_le hb hH.low)⟩
  have hC : HR c w0 base M' ρ H w' := hH.called hO.below hM hA hO.mem
  have plain : (∀ H0, importV r H0 = (r, H0)) → ∃ ρ2, Grows base M ρ M' ρ2 ∧ HR c w0 base M' ρ2 (importV r H).2 w' ∧ VR c M' ρ2 (importV r H).1 u := fun h => by
    rw [h] at hv ⊢
    exact ⟨ρ, hg, hC, hv.free hp⟩
  by_cases hcase : ∃ es sz cap, r = .vs es sz cap ∧ es.isEmpty = false
  · obtain ⟨es, sz, cap, rfl, hne⟩ := hcase
    simp only [importV, hne, Bool.false_eq_true, if_false] at hO hv ⊢
    have hpe : AVal.pures es = true := by simpa [AVal.pure] using hp
    obtain ⟨b, sz', tot, h1, h2, h3, h4⟩ := hO.obj _ _ (Heap.get_new _ _)
    obtain ⟨b2, sz2, tot2, cap', h5, rfl, h6, h7, h8, h9⟩ := hs_inv hv
    rw [h1] at h5
    simp only [Option.some.injEq, Prod.mk.injEq] at h5
    obtain ⟨rfl, rfl, rfl⟩ := h5
    refine ⟨plNew ρ H.next (b, sz', tot), hg.trans (hC.lay_grows _), hC.lay _ b sz' tot (Nat.le_trans hH.low h2) h3 (h4.free hpe) (fun i p s t hi hq => ?_), ?_⟩
    · obtain ⟨b', s', t', k1, k2, k3, k4⟩ := hH.obj i p hi
      rw [k1] at hq
      simp only [Option.some.injEq, Prod.mk.injEq] at hq
      omega
    · exact .hs 0 es.length cap' cap (by simp [plNew]) h6 h7 h8 h9
  · refine plain fun H0 => ?_
    unfold importV
    split
    · rename_i es sz cap
      split
      · rfl
      · rename_i hne
        exact absurd ⟨es, sz, cap, rfl, by simpa using hne⟩ hcase
    · rfl

theorem importA_ok {r : AVal} {u : Value} (hH : HR c w0 base M ρ H w) {M' : Mem} {ρ' : Pl} (hA : ∀ b o, b < w.heap.size → M' b o = M b o) (hM : MLe M M') (hO : HR c w w.heap.size M' ρ' (importA r Heap.empty).2 w') (hv : VR c M' ρ' (importA r Heap.empty).1 u) (hp : r.pure = true) :
    ∃ ρ2, Grows base M ρ M' ρ2 ∧ HR c w0 base M' ρ2 (importA r H).2 w' ∧ VR c M' ρ2 (importA r H).1 u := by
  by_cases ht : ∃ x l, r = .tup (x :: l)
  · obtain ⟨x, l, rfl⟩ := ht
    simp only [importA] at hO hv ⊢
    have hp' : x.pure = true ∧ AVal.pures l = true := by simpa [AVal.pure, AVal.pures] using hp
    obtain ⟨arr, rfl, h1, h2⟩ := tup_inv hv
    have h0 : 0 < arr.size := by rw [← h1]; simp
    obtain ⟨ρ2, g, k1, k2⟩ := importV_ok (u := arr[0]) hH hA hM hO (h2 0 _ _ rfl (by simp [h0])) hp'.1
    refine ⟨ρ2, g, k1, .tup _ _ (by simpa using h1) fun j y z hy hz => ?_⟩
    cases j with
    | zero =>
      simp at hy; subst hy
      have : arr[0] = z := by simpa [h0] using hz
      exact this ▸ k2
    | succ j => exact (h2 (j + 1) y z (by simpa using hy) hz).free (pures_at hp'.2 (by simpa using hy))
  · have e : ∀ H0, importA r H0 = importV r H0 := fun H0 => by
      unfold importA
      split
      · exact absurd ⟨_, _, rfl⟩ ht
      · rfl
    rw [e] at hO hv ⊢
    exact importV_ok hH hA hM hO hv hp

theorem exCall_ok {g : Nat} {mode : CMode} {args : List AVal} {r : AVal} {f : FuncId} {us : List Value} (he : EnvOk P c env) (hx : exCall env g mode args H = some (r, H')) (hf : c.fn g = some f) (hH : HR c w0 base M ρ H w) (ha : VRs c M ρ args us) :
    CallTo P f us w fun u w' => ∃ M' ρ', Grows base M ρ M' ρ' ∧ HR c w0 base M' ρ' H' w' ∧ VR c M' ρ' r u := by
  unfold exCall at hx
  split at hx
  · rename_i own F hg
    split at hx
    case h_2 => cases hx
    rename_i args' H1 hz
    split at hx
    case h_2 => cases hx
    rename_i r' hF
    simp only [Option.some.injEq, Prod.mk.injEq] at hx
    obtain ⟨rfl, rfl⟩ := hx
    obtain ⟨f', hf', hE⟩ := he _ _ hg
    rw [hf] at hf'
    cases hf'
    obtain ⟨_, M1, g1, hH1, k1, k2⟩ := frzAll_ok hz hH
    obtain ⟨hp, hc⟩ := hE args' _ hF
    refine ((hc M1 ρ us w hH1.tab hH1.mem ⟨k1.trans ha.1, fun j x u hx hu => ?_⟩).1).mono fun u w' ⟨M', ρ', h1, h2, h3, h4⟩ => ?_
    · have hj : j < args.length := by rw [← k1]; exact (List.getElem?_eq_some_iff.1 hx).1
      exact k2 j args[j] x (by simp [hj]) hx u (ha.2 j _ u (by simp [hj]) hu)
    · exact ⟨M', ρ, g1.trans ⟨h1, .refl _, fun b o hb => h2 b o (Nat.lt_of_lt_of_le hb hH1.low)⟩, hH1.called h3.below h1 h2 h3.mem, h4.free hp⟩
  · rename_i F hg
    split at hx
    case h_2 => cases hx
    rename_i args' H1 hz
    split at hx
    case h_2 => cases hx
    rename_i r' hF
    simp only [Option.some.injEq] at hx
    obtain ⟨f', hf', hE⟩ := he _ _ hg
    rw [hf] at hf'
    cases hf'
    obtain ⟨_, M1, g1, hH1, k1, k2⟩ := frzAll_ok hz hH
    obtain ⟨hp, hc⟩ := hE args' _ hF
    refine ((hc M1 ρ us w hH1.tab hH1.mem ⟨k1.trans ha.1, fun j x u hx hu => ?_⟩).2 rfl).mono fun u w' ⟨M', ρ', h1, h2, h3, h4⟩ => ?_
    · have hj : j < args.length := by rw [← k1]; exact (List.getElem?_eq_some_iff.1 hx).1
      exact k2 j args[j] x (by simp [hj]) hx u (ha.2 j _ u (by simp [hj]) hu)
    · obtain ⟨ρ2, q1, q2, q3⟩ := importA_ok hH1 h2 h1 h3 h4 hp
      rw [hx] at q2 q3
      exact ⟨M', ρ2, g1.trans q1, q2, q3⟩
  · rename_i F hg
    obtain ⟨f', hf', hE⟩ := he _ _ hg
    rw [hf] at hf'
    cases hf'
    exact hE _ _ _ _ hx w0 base M ρ us w hH ha
  · cases hx

theorem args_vr {l : List Operand} {l' : List Opd} (hT : TR c M ρ tm a.tmps) (h : mOpds c l l' = true) : VRs c M ρ (l'.map (ev tm)) (l.map a.eval) := by
  obtain ⟨h1, h2⟩ := opds_vr hT l l' h
  exact ⟨by simpa using h1, h2⟩

/-- A call of a function. -/
theorem op_call {g : Nat} {mode : CMode} {args : List Opd} {K : Act → World → Prop} {Q : Exit → Act → World → Prop} (he : EnvOk P c env) (hm : mOp P c o (.call g mode args) = true) (hx : exCall env g mode (args.map (ev tm)) H = some (v, H')) (hT : TR c M ρ tm a.tmps) (hH : HR c w0 base M ρ H w)
    (hK : ∀ u w' M' ρ', Grows base M ρ M' ρ' → HR c w0 base M' ρ' H' w' → VR c M' ρ' v u → K (a.put o.dst u) w') : o.wp P a w K Q := by
  simp only [mOp] at hm
  split at hm
  case h_2 => cases hm
  rename_i f l hfc
  simp only [Bool.and_eq_true, beq_iff_eq] at hm
  obtain ⟨ts, hop⟩ := fcall_inv hfc
  have hc := exCall_ok he hx hm.1 hH (args_vr hT hm.2)
  have hrun : (execOp a.eval o).run P w = (callFunc f (l.map a.eval).toArray).run P w := by
    simp [execOp, hop, resolve, Deferred.ofValue, Act.eval, invoke]
  unfold Oper.wp
  rw [hrun]
  exact hc o a K Q fun u w' ⟨M', ρ', h1, h2, h3⟩ => hK u w' M' ρ' h1 h2 h3

theorem op_callv {g : Nat} {mode : CMode} {x : Opd} {caps : List AVal} {args : List Opd} {K : Act → World → Prop} {Q : Exit → Act → World → Prop} (he : EnvOk P c env) (hm : mOp P c o (.callv x mode args) = true) (hev : ev tm x = .fn g caps) (hx : exCall env g mode (args.map (ev tm) ++ caps) H = some (v, H')) (hT : TR c M ρ tm a.tmps) (hH : HR c w0 base M ρ H w)
    (hK : ∀ u w' M' ρ', Grows base M ρ M' ρ' → HR c w0 base M' ρ' H' w' → VR c M' ρ' v u → K (a.put o.dst u) w') : o.wp P a w K Q := by
  simp only [mOp] at hm
  split at hm
  case h_2 => cases hm
  rename_i f l hfc
  simp only [Bool.and_eq_true] at hm
  obtain ⟨ts, hop⟩ := fcall_inv hfc
  have hv := ev_vr hT hm.1
  rw [hev] at hv
  have key : ∀ u, a.eval f = u → VR c M ρ (.fn g caps) u → o.wp P a w K Q := by
    intro u hu hv
    cases hv with
    | fn _ arr h1 h2 h3 =>
    rename_i f'
    obtain ⟨k1, k2⟩ := args_vr hT hm.2
    have ha : VRs c M ρ (args.map (ev tm) ++ caps) (l.map a.eval ++ arr.toList) := by
      refine ⟨by simp only [List.length_append, k1, h2, Array.length_toList], fun j y z hy hz => ?_⟩
      by_cases hj : j < (args.map (ev tm)).length
      · rw [List.getElem?_append_left hj] at hy
        rw [List.getElem?_append_left (by rw [← k1]; exact hj)] at hz
        exact k2 j y z hy hz
      · rw [List.getElem?_append_right (by omega)] at hy
        rw [List.getElem?_append_right (by rw [← k1]; omega), ← k1] at hz
        exact h3 _ y z hy (by simpa using hz)
    have hc := exCall_ok he hx h1 hH ha
    have hrun : (execOp a.eval o).run P w = (callFunc f' (l.map a.eval ++ arr.toList).toArray).run P w := by
      rw [show (l.map a.eval ++ arr.toList).toArray = (l.map a.eval).toArray ++ arr from by apply Array.ext'; simp]
      simp [execOp, hop, resolve, Deferred.ofValue, hu, invoke]
    unfold Oper.wp
    rw [hrun]
    exact hc o a K Q fun u w' ⟨M', ρ', h1, h2, h3⟩ => hK u w' M' ρ' h1 h2 h3
  exact key _ rfl hv
end
end Go.Abx
