/- Functions: what the executor makes of a body, a call comes to. -/
import Derived.Test.YtmnbafbicjgjgaaDoorAbxW
namespace Go.Abx
open Go.RowKit
set_option linter.unusedVariables false
set_option linter.unusedSimpArgs false

section
variable {P : Program} {c : Cx} {w0 : World} {base N : Nat} {M : Mem} {ρ : Pl} {H H' : Heap} {w w' : World} {tm tm' : Tm} {env : Env} {v : AVal}

theorem load_val {t : TypeId} {agg : Bool} {n : Nat} {x : AVal} {u0 : Value} (h1 : aggIs P t agg = true) (h2 : szIs P t n = true) (h4 : agg = true ∨ n = 1) (hv : VR c M ρ x u0) (hx : loadA agg n x H = some v) (hH : HR c w0 base M ρ H w) :
    ∃ b0 o0 r, u0 = .pointer (some ⟨b0, o0, none⟩) ∧ (loadVar t ⟨b0, o0, none⟩).run P w = .ok r w ∧ VR c M ρ v r := by
  -- the cells, and what they hold
  have key : ∀ (b k : Nat) (cs : List AVal) (k0 : Nat), u0 = .pointer (some ⟨b, k + k0, none⟩) → flats cs = true →
      (∀ (j : Nat) (y : AVal), cs[j]? = some y → ∃ u, w.cell? ⟨b, k + j, none⟩ = some u ∧ VR c M ρ y u) →
      takeA agg n cs k0 = some v → ∃ b0 o0 r, u0 = .pointer (some ⟨b0, o0, none⟩) ∧ (loadVar t ⟨b0, o0, none⟩).run P w = .ok r w ∧ VR c M ρ v r := by
    intro b k cs k0 he hf hc hp
    have hlen : k0 + n ≤ cs.length := by
      unfold takeA at hp
      cases agg with
      | true =>
        simp only [if_true] at hp
        split at hp
        · assumption
        · cases hp
      | false =>
        have : n = 1 := by simpa using h4
        subst this
        simp only [Bool.false_eq_true, if_false] at hp
        have := (List.getElem?_eq_some_iff.1 hp).1
        omega
    let us : List Value := (List.range n).map fun j => (w.cell? ⟨b, k + (k0 + j), none⟩).getD undef
    have hus : ∀ j u, us[j]? = some u → w.cell? ⟨b, k + k0 + j, none⟩ = some u ∧ ∀ y, cs[k0 + j]? = some y → VR c M ρ y u := by
      intro j u hu
      have hj : j < n := by have := (List.getElem?_eq_some_iff.1 hu).1; simpa [us] using this
      have hu' : (w.cell? ⟨b, k + (k0 + j), none⟩).getD undef = u := by simpa [us, hj] using hu
      obtain ⟨u1, h5, h6⟩ := hc (k0 + j) cs[k0 + j] (by simp)
      rw [h5] at hu'
      simp only [Option.getD_some] at hu'
      subst hu'
      rw [Nat.add_assoc]
      refine ⟨h5, fun y hy => ?_⟩
      have : cs[k0 + j] = y := by simpa [show k0 + j < cs.length by omega] using hy
      exact this ▸ h6
    exact ⟨b, k + k0, _, he, run_loadVar h1 h2 h4 w b (k + k0) us (by simp [us]) (fun j u hu => (hus j u hu).1), VR.part agg hf h4 (by simp [us]) (fun j y u hy hu => (hus j u hu).2 y hy) hp⟩
  unfold loadA at hx
  cases x <;> simp only [reduceCtorEq] at hx
  case pimm cs k0 =>
    cases he : u0 <;> rw [he] at hv <;> cases hv
    rename_i b k u hf hmm hvv
    rw [← he]
    exact key b k cs k0 he hf (fun j y hy => ⟨u j, hH.mem _ _ _ (hmm j y hy), hvv j y hy⟩) hx
  case ptr id i k0 =>
    split at hx
    · rename_i es sz cap fr hget
      split at hx
      · rename_i e hei
        obtain ⟨b, sz', tot, hp, hb, hb2, hO⟩ := hH.obj id _ hget
        obtain ⟨rfl, hsz, hle, hfr, hcap, hMn, cs, E, fz, hw, hcs, hfz, hels, hvs⟩ := hO
        cases he : u0 <;> rw [he] at hv <;> cases hv
        rename_i b' sz'' tot' hp'
        rw [hp] at hp'
        simp only [Option.some.injEq, Prod.mk.injEq] at hp'
        obtain ⟨rfl, rfl, rfl⟩ := hp'
        rw [← he]
        refine key b (i * sz) e.cells k0 he (hels i e hei).2 (fun j y hy => ?_) hx
        obtain ⟨u, hu, hvu⟩ := hvs i e hei j y hy
        exact ⟨u, by simp [World.cell?, hw, hu], hvu⟩
      · cases hx
    · cases hx

theorem depth_ok (n : Nat) : n + 1 ≤ 2 ^ depthOf n := by
  have key : ∀ (k : Nat) (x y : Nat), (n < k → n + 1 ≤ 2 ^ x) → (¬ n < k → n + 1 ≤ 2 ^ y) → n + 1 ≤ 2 ^ (bif Nat.blt n k then x else y) := fun k x y h1 h2 => by
    cases hb : Nat.blt n k with
    | true => exact h1 (Nat.le_of_ble_eq_true hb)
    | false => exact h2 (fun h => by rw [show Nat.blt n k = true from Nat.ble_eq_true_of_le h] at hb; cases hb)
  unfold depthOf
  refine key _ _ _ (fun h => by omega) fun _ => key _ _ _ (fun h => by omega) fun _ => key _ _ _ (fun h => by omega) fun _ => key _ _ _ (fun h => by omega) fun _ => key _ _ _ (fun h => by omega) fun _ => key _ _ _ (fun h => by omega) fun _ => Nat.lt_two_pow_self

theorem setAll_get : ∀ (l : List AVal) (t : Tm) (k d : Nat), t.full d → k + l.length + 1 ≤ 2 ^ d → (t.setAll k l).full d ∧ ∀ n, (t.setAll k l).get n = if k ≤ n ∧ n < k + l.length then (l[n - k]?).getD undefA else t.get n
  | [], t, k, d, hf, hl => ⟨hf, fun n => by rw [if_neg (by simp only [List.length_nil]; omega)]; rfl⟩
  | v :: r, t, k, d, hf, hl => by
    simp only [List.length_cons] at hl
    obtain ⟨h1, h2⟩ := setAll_get r (t.set k v) (k + 1) d (t.full_set d k v hf) (by omega)
    refine ⟨h1, fun n => ?_⟩
    simp only [Tm.setAll]
    rw [h2]
    simp only [List.length_cons]
    by_cases hn : n = k
    · subst hn
      rw [if_neg (by omega), if_pos (by omega), Tm.get_set_same t d n v hf (by omega)]
      simp
    · rw [Tm.get_set_ne t k n v (Ne.symm hn)]
      by_cases hin : k + 1 ≤ n ∧ n < k + 1 + r.length
      · rw [if_pos hin, if_pos (by omega)]
        obtain ⟨q, rfl⟩ : ∃ q, n = k + 1 + q := ⟨n - (k + 1), by omega⟩
        rw [show k + 1 + q - (k + 1) = q by omega, show k + 1 + q - k = q + 1 by omega]
        rfl
      · rw [if_neg hin, if_neg (by omega)]

theorem start_ok {args : List AVal} {us : List Value} {nt : Nat} (ha : VRs c M ρ args us) : TR c M ρ ((Tm.mk (depthOf (nt + args.length))).setAll 0 args) (us.toArray ++ Array.replicate (nt - us.toArray.size) undef) := by
  have hd := depth_ok (nt + args.length)
  obtain ⟨h1, h2⟩ := setAll_get args (Tm.mk (depthOf (nt + args.length))) 0 _ (Tm.full_mk _) (by omega)
  have hlen := ha.1
  refine ⟨⟨_, h1, by simp; omega⟩, fun n => ?_⟩
  rw [h2, Array.getD_eq_getD_getElem?]
  by_cases hn : n < args.length
  · rw [if_pos (by omega), Nat.sub_zero, Array.getElem?_append_left (by simp; omega)]
    have h3 : us[n]? = some us[n] := List.getElem?_eq_getElem (by omega)
    have := ha.2 n args[n] us[n] (by simp) h3
    simp only [List.getElem?_toArray, h3, Option.getD_some, List.getElem?_eq_getElem hn]
    exact this
  · rw [if_neg (by omega), Tm.get_mk, Array.getElem?_append_right (by simp; omega)]
    have : ((Array.replicate (nt - us.toArray.size) undef)[n - us.toArray.size]?).getD undef = undef := by
      rw [Array.getElem?_replicate]; split <;> rfl
    rw [this]
    exact undef_vr _ _ _

def packV (us : List Value) : Value := if h : us.toArray.size = 1 then us.toArray[0] else .tuple us.toArray

theorem pack_vr {l : List AVal} {us : List Value} (h : VRs c M ρ l us) : VR c M ρ (pack l) (packV us) := by
  obtain ⟨h1, h2⟩ := h
  match l, us, h1 with
  | [], [], _ => exact .tup [] #[] rfl (by simp)
  | [x], [u], _ => exact h2 0 x u rfl rfl
  | x :: y :: r, u :: z :: s, h1 =>
    have : packV (u :: z :: s) = .tuple (u :: z :: s).toArray := by unfold packV; rw [dif_neg (by simp)]
    rw [this]
    exact .tup _ _ (by simpa using h1) fun j x' u' hx hu => h2 j x' u' hx (by simpa using hu)

def resStep (ts : Array Value) (r : ResultVar) : Sem Value := match r with
  | .tmp t => pure (ts.getD t undef)
  | .cell a t => do loadVar t (← asAddr (ts.getD a undef))

theorem res_ok : ∀ (rs : List ResultVar) (rs' : List IRes) (l : List AVal) (ts : Array Value), mRes P rs rs' = true → resA tm H rs' = some l → TR c M ρ tm ts → HR c w0 base M ρ H w →
    ∃ us, (rs.mapM (resStep ts)).run P w = .ok us w ∧ VRs c M ρ l us
  | [], rs', l, ts, hm, hx, hT, hH => by
    cases rs' with
    | nil => simp only [resA, Option.some.injEq] at hx; subst hx; exact ⟨[], by simp, rfl, fun j x u hx => by simp at hx⟩
    | cons r s => simp [mRes] at hm
  | .tmp t :: rs, rs', l, ts, hm, hx, hT, hH => by
    cases rs' with
    | nil => simp [mRes] at hm
    | cons r s =>
      cases r with
      | cell a agg n => simp [mRes] at hm
      | tmp t' =>
        simp only [mRes, Bool.and_eq_true, beq_iff_eq] at hm
        obtain ⟨rfl, hm⟩ := hm
        simp only [resA] at hx
        split at hx
        case h_2 => cases hx
        rename_i l' hl
        simp only [Option.some.injEq] at hx
        subst hx
        obtain ⟨us, h1, h2, h3⟩ := res_ok rs s l' ts hm hl hT hH
        refine ⟨ts.getD t undef :: us, ?_, by simp [h2], fun j x u hx hu => ?_⟩
        · simp only [List.mapM_cons, Sem.run_bind, resStep, Sem.run_pure, Result.andThen, h1]
        · cases j with
          | zero => simp only [List.getElem?_cons_zero, Option.some.injEq] at hx hu; subst hx; subst hu; exact hT.at_ t
          | succ j => exact h3 j x u (by simpa using hx) (by simpa using hu)
  | .cell a t :: rs, rs', l, ts, hm, hx, hT, hH => by
    cases rs' with
    | nil => simp [mRes] at hm
    | cons r s =>
      cases r with
      | tmp t' => simp [mRes] at hm
      | cell a' agg n =>
        simp only [mRes, Bool.and_eq_true, beq_iff_eq, Bool.or_eq_true] at hm
        obtain ⟨⟨⟨⟨rfl, m1⟩, m2⟩, m3⟩, hm⟩ := hm
        simp only [resA] at hx
        split at hx
        case h_2 => cases hx
        rename_i v l' hv hl
        simp only [Option.some.injEq] at hx
        subst hx
        obtain ⟨us, h1, h2, h3⟩ := res_ok rs s l' ts hm hl hT hH
        obtain ⟨b0, o0, r, e1, e2, e3⟩ := load_val m1 m2 m3 (hT.at_ a) hv hH
        refine ⟨r :: us, ?_, by simp [h2], fun j x u hx hu => ?_⟩
        · simp only [List.mapM_cons, Sem.run_bind, resStep, Sem.run_pure, Result.andThen, e1, asAddr, e2, h1]
        · cases j with
          | zero => simp only [List.getElem?_cons_zero, Option.some.injEq] at hx hu; subst hx; subst hu; exact e3
          | succ j => exact h3 j x u (by simpa using hx) (by simpa using hu)

theorem mFun_inv {f : FuncId} {fn : IFun} {k : Nat} (h : mFun P c f fn k = true) : ∃ F b, P.funcs[f]? = some F ∧ F.body = some b ∧ mCode P c fn.ntmps b fn.body = true ∧ F.ntmps = fn.ntmps ∧ mRes P F.results.toList fn.results = true ∧ (F.name == "runtime.NumGoroutine") = false := by
  unfold mFun at h
  split at h
  · rename_i F hF
    simp only [Bool.and_eq_true, beq_iff_eq, bne_iff_ne, ne_eq] at h
    obtain ⟨⟨⟨h1, h2⟩, h3⟩, h4⟩ := h
    split at h1
    · rename_i b hb
      exact ⟨F, b, hF, hb, h1, h2, h3, by simpa using h4⟩
    · cases h1
  · cases h

theorem body_ok {f : FuncId} {fn : IFun} {k : Nat} {args l : List AVal} {us : List Value} (he : EnvOk P c env) (hm : mFun P c f fn k = true) (hx : bodyA env fn args H = some (l, H')) (hH : HR c w0 base M ρ H w) (ha : VRs c M ρ args us) :
    CallTo P f us w fun u w' => ∃ M' ρ' vs, Grows base M ρ M' ρ' ∧ HR c w0 base M' ρ' H' w' ∧ VRs c M' ρ' l vs ∧ u = packV vs := by
  obtain ⟨F, b, hF, hb, m1, m2, m3, m4⟩ := mFun_inv hm
  intro o a K Q hK
  have hrun : (callFunc f us.toArray).run P w = .ok (.enter f us.toArray) w := by
    have m4' : ¬ F.name = "runtime.NumGoroutine" := by simpa using m4
    have hb' : ¬ F.body = none := by rw [hb]; simp
    simp [callFunc, hF, m4', hb']
  rw [hrun, Oper.upon_enter]
  unfold bodyA at hx
  have hS : St c w0 base fn.ntmps M ρ ((Tm.mk (depthOf (fn.ntmps + args.length))).setAll 0 args) H { tmps := us.toArray ++ Array.replicate (F.ntmps - us.toArray.size) undef, defers := [] } w :=
    ⟨m2 ▸ start_ok ha, hH, by simp; omega, rfl⟩
  have main : ∀ fin, ex env fn.body ((Tm.mk (depthOf (fn.ntmps + args.length))).setAll 0 args) H = some fin → (∀ id, fin.1 ≠ .exit id) → ∀ l', resA fin.2.1 fin.2.2 fn.results = some l' → l' = l → fin.2.2 = H' →
      Calls P f us.toArray w fun | .returned v, w'' => K (a.put o.dst v) w'' | .panicked chain, w'' => Q (.panic chain) a w'' | .outgrown, _ => LetsOut Q := by
    intro fin hex hne l' hr hll hH'
    subst hll
    subst hH'
    refine calls_of_wp hF hb (wp_mono (code_ok he fn.body b _ H _ w M ρ fin m1 hex hS) fun e a' w' h => ?_)
    obtain ⟨rfl, M', ρ', hg, hS'⟩ := h
    obtain ⟨vs, g1, g2⟩ := res_ok F.results.toList fn.results l' a'.tmps m3 hr hS'.t hS'.h
    have hres : (results F a'.tmps).run P w' = .ok (packV vs) w' := by
      show (do let vs ← F.results.mapM (resStep a'.tmps); pure (if h : vs.size = 1 then vs[0] else .tuple vs) : Sem Value).run P w' = _
      rw [Array.mapM_eq_mapM_toList]
      simp [g1, packV]
    have fin2 : a'.defers = [] ∧ ∃ v, (results F a'.tmps).run P w' = .ok v w' ∧ K (a.put o.dst v) w' := ⟨hS'.d, packV vs, hres, hK _ _ ⟨M', ρ', vs, hg, hS'.h, g2, rfl⟩⟩
    cases hf : fin.1 with
    | normal => exact fin2
    | ret => exact fin2
    | exit id => exact absurd hf (hne id)
  split at hx
  · cases hx
  · rename_i e1 tm1 H1 hne hex
    split at hx
    · rename_i l' hl
      simp only [Option.some.injEq, Prod.mk.injEq] at hx
      exact main _ hex (fun id h => by simp only at h; subst h; exact hne _ rfl) l' hl hx.1 hx.2
    · cases hx
  · cases hx

theorem raw_ok {f : FuncId} {fn : IFun} {k : Nat} (he : EnvOk P c env) (hm : mFun P c f fn k = true) : EntOk P c f (.raw (runRaw env fn)) := by
  intro args H r H' hx w0 base M ρ us w hH ha
  unfold runRaw at hx
  split at hx
  · rename_i l H1 hb
    simp only [Option.some.injEq, Prod.mk.injEq] at hx
    obtain ⟨rfl, rfl⟩ := hx
    refine (body_ok he hm hb hH ha).mono fun u w' ⟨M', ρ', vs, h1, h2, h3, h4⟩ => ⟨M', ρ', h1, h2, ?_⟩
    rw [h4]; exact pack_vr h3
  · cases hx
end
end Go.Abx
