/- Functions of Go's library, told. -/
import Derived.Test.YtmnbafbicjgjgaaDoorAbxY
import Derived.Test.YtmnbafbicjgjgaaDoorAbxS
import Derived.Lib.MakeNoZero
namespace Go.Abx
open Go.RowKit
set_option linter.unusedVariables false
set_option linter.unusedSimpArgs false

section
variable {P : Program} {c : Cx} {w0 : World} {base N : Nat} {M : Mem} {ρ : Pl} {H H' : Heap} {w w' : World} {env : Env} {v : AVal}

theorem digits_at : ∀ (n t : Nat) (acc : Array Value), (∀ j, j < acc.size → ∃ k, acc[j]? = some (.int .u8 k)) → ∀ j, j < acc.size + n → ∃ k, (Extern.BytealgMakeNoZero.digits n t acc)[j]? = some (.int .u8 k)
  | 0, t, acc, h, j, hj => h j hj
  | n + 1, t, acc, h, j, hj => by
    rw [Extern.BytealgMakeNoZero.digits]
    refine digits_at n _ _ (fun i hi => ?_) j (by simp; omega)
    by_cases hi' : i < acc.size
    · obtain ⟨k, hk⟩ := h i hi'
      exact ⟨k, by rw [Array.getElem?_push_lt hi']; rw [Array.getElem?_eq_getElem hi'] at hk; exact hk⟩
    · have : i = acc.size := by simp at hi; omega
      subst this
      exact ⟨Int.ofNat (t % 256), by simp⟩

/-- A function whose run is one step that lays a row of its own. -/
theorem own_of_res {f : FuncId} {us : List Value} {es : List AVal} {sz : Nat} (hpe : AVal.pures es = true) (h : Res c w w.heap.size M (fun _ => none) ((callFunc f us.toArray).run P w) (.hs 0 0 es.length none) (Heap.empty.new (.arr es sz none 0))) :
    CallTo P f us w (Out c M w (.vs es sz none, Heap.empty)) ∧ CallTo P f us w (Out c M w (importA (.vs es sz none) Heap.empty)) := by
  obtain ⟨u, w', hr, M', ρ', hg, hv, hH⟩ := h
  have hh : ownHead (Heap.empty.new (.arr es sz none 0)) [.hs 0 0 es.length none] = some [.vs es sz none] := by
    have : (Heap.empty.new (.arr es sz none 0)).get 0 = some (.arr es sz none 0) := Heap.get_new _ _
    simp [ownHead, this, hpe, AVal.pures]
  obtain ⟨_, ⟨M2, g1, g2, g3⟩, M3, ρ3, k1, k2, k3⟩ := own_head (vs := [u]) hh hH ⟨rfl, fun j x u' hx hu => by
    cases j with
    | zero => simp at hx hu; subst hx; subst hu; exact hv
    | succ j => simp at hx⟩
  have run : ∀ R : Value → World → Prop, R u w' → CallTo P f us w R := fun R hR o a K Q hK => by
    rcases hr with hr | ⟨hr, rfl⟩
    · rw [hr]; exact hK u w' hR
    · rw [hr]; exact hK undef w' hR
  exact ⟨run _ ⟨M2, _, hg.m.trans g1.m, fun b o hb => (g1.old b o hb).trans (hg.old b o hb), g2, g3⟩, run _ ⟨M3, _, hg.m.trans k1.m, fun b o hb => (k1.old b o hb).trans (hg.old b o hb), k2, k3⟩⟩

theorem replicate_pures (n : Nat) : AVal.pures (List.replicate n .anyb) = true := pures_of fun x hx => by rw [List.eq_of_mem_replicate hx]; rfl

/-- internal/bytealg.MakeNoZero: so many bytes, whichever, in a row of their own. -/
theorem makeNoZero_ok {f : FuncId} {fn : Func} {t e : TypeId} {ps : Array TypeId} (hf : P.funcs[f]? = some fn) (hname : (fn.name == "runtime.NumGoroutine") = false) (hb : fn.body.isNone = true) (hn : (Extern.findNext fn).isNone = true)
    (hfind : Extern.find fn = some (Extern.BytealgMakeNoZero.makeNoZero ps #[t])) (ht : P.underlying t = some (.slice e)) : EntOk P c f (.pure true makeNoZeroS) := by
  intro args r hx
  unfold makeNoZeroS at hx
  split at hx
  case h_2 => cases hx
  rename_i n
  split at hx
  case isFalse => cases hx
  rename_i hb2
  cases hx
  obtain ⟨m, rfl⟩ : ∃ m : Nat, n = m := ⟨n.toNat, by omega⟩
  simp only [Int.toNat_natCast]
  refine ⟨by simpa [AVal.pure] using replicate_pures m, fun M ρ us w hl hw ha => ?_⟩
  obtain ⟨ha1, ha2⟩ := ha
  obtain ⟨u0, rfl⟩ : ∃ u0, us = [u0] := by
    match us, ha1 with
    | [u0], _ => exact ⟨u0, rfl⟩
  obtain rfl := int_inv (ha2 0 _ u0 rfl rfl)
  have hH : HR c w w.heap.size M (fun _ => none) Heap.empty w := HR.blank (n := 0) (fun i p hp => by cases hp) hl w hw
  let cs := Extern.BytealgMakeNoZero.digits (grownCap w m 0 e) ((Question.extern "internal/bytealg.MakeNoZero.bytes" 0).cut (w.tape (w.drawn + 1) (.extern "internal/bytealg.MakeNoZero.bytes" 0))) #[]
  have hcs : cs.size = grownCap w m 0 e := by simp [cs, Lib.size_digits]
  have hge := grownCap_ge w m 0 e
  have hat : ∀ j, j < cs.size → ∃ k, cs[j]? = some (.int .u8 k) := fun j hj => digits_at _ _ _ (fun j hj => by simp at hj) j (by rw [hcs] at hj; simpa using hj)
  have hrun : (callFunc f [Value.int .i64 (m : Int)].toArray).run P w = .ok (.value (.slice (some ⟨w.drew.drew.heap.size, 0, none⟩) (List.replicate m AVal.anyb).length (grownCap w m 0 e))) (w.drew.drew.alloc (.cells cs e)) := by
    have hdef : Extern.BytealgMakeNoZero.makeNoZero ps #[t] #[.int .i64 m] =
      (do
        let .slice elem ← underlying t | stuck "bytealg.MakeNoZero: slice type expected"
        if (m : Int) < 0 || (m : Int) > 2 ^ 48 then runtimePanic (.error "makeslice: len out of range")
        let cap ← choose (.appendCap (m : Int).toNat 0 elem)
        askRoom cap
        let bytes ← choose (.extern "internal/bytealg.MakeNoZero.bytes" 0)
        let a ← newRow elem (Extern.BytealgMakeNoZero.digits cap bytes #[])
        pure (.slice (some a) (m : Int).toNat cap)) := rfl
    have h1 : ¬ (m : Int) < 0 := by omega
    have h2 : ¬ (281474976710656 : Int) < (m : Int) := by omega
    have hn' : Extern.findNext fn = none := by simpa using hn
    have hname' : ¬ fn.name = "runtime.NumGoroutine" := by simpa using hname
    have hb' : fn.body = none := by simpa using hb
    have hm : (Extern.BytealgMakeNoZero.makeNoZero ps #[t] #[.int .i64 m]).run P w = .ok (.slice (some ⟨w.heap.size, 0, none⟩) m (grownCap w m 0 e)) (w.drew.drew.alloc (.cells cs e)) := by
      rw [hdef]
      simp [run_underlying ht, h1, h2, Question.forced, newRow, grownCap, cs]
    simp [callFunc, hf, hname', hb', hn', hfind, hm]
  have hF : FlatR c M (fun _ => none) 1 (List.replicate m .anyb) (cs.toList.take m) := by
    have hlm : (cs.toList.take m).length = m := by rw [List.length_take, Array.length_toList, hcs]; exact Nat.min_eq_left hge
    have hel : ∀ (j : Nat) (x : AVal), (List.replicate m AVal.anyb)[j]? = some x → j < m ∧ x = .anyb := fun j x hx => by
      rw [List.getElem?_replicate] at hx
      split at hx
      · exact ⟨‹_›, by simpa using hx.symm⟩
      · cases hx
    refine ⟨by simp [hlm], fun j x hx => by rw [(hel j x hx).2]; exact ⟨rfl, rfl⟩, fun j x hx i y hy => ?_⟩
    obtain ⟨hj, rfl⟩ := hel j x hx
    cases i with
    | succ i => simp [AVal.cells] at hy
    | zero =>
      simp [AVal.cells] at hy
      subst hy
      obtain ⟨k, hk⟩ := hat j (by omega)
      exact ⟨_, by rw [Nat.mul_one, Nat.add_zero, List.getElem?_take, if_pos hj]; simpa using hk, .anyb k⟩
  have hres := res_newSlice (lim := none) hrun hH.drew.drew hF (by omega) (by simpa using hge) (cap := none) (by simp) (by simp) (by rw [hcs, Nat.mul_one]) (.inl rfl) (fun j u' hj => by
    rw [List.getElem?_take] at hj
    split at hj
    · simpa using hj
    · cases hj)
  have := own_of_res (P := P) (f := f) (us := [.int .i64 m]) (replicate_pures m) hres
  exact ⟨this.1, fun _ => this.2⟩

theorem call_enter {f : FuncId} {F : Func} (hF : P.funcs[f]? = some F) (hn : (F.name == "runtime.NumGoroutine") = false) (hb : F.body.isSome = true) (us : List Value) (w : World) : (callFunc f us.toArray).run P w = .ok (.enter f us.toArray) w := by
  have m4' : ¬ F.name = "runtime.NumGoroutine" := by simpa using hn
  have hb' : ¬ F.body = none := fun h => by rw [h] at hb; cases hb
  simp [callFunc, hF, m4', hb']

theorem byteInts_ofU (l : List UInt8) : byteInts ⟨l.toArray⟩ = ofU l := by simp [byteInts, ofU]

theorem decSmall_ok : ∀ m, m < 100 → ofU (Lib.decDigits m) = decSmall m := by
  intro m hm
  unfold decSmall
  by_cases h : m < 10
  · rw [if_pos h, Lib.decDigits, dif_pos h]
    simp [ofU]; omega
  · rw [if_neg h, Lib.decDigits, dif_neg h, Lib.decDigits, dif_pos (by omega)]
    simp [ofU]; omega

/-- strconv.Itoa, below a hundred. -/
theorem itoa_ok {f : FuncId} {F : Func} (hF : P.funcs[f]? = some F) (hn : (F.name == "runtime.NumGoroutine") = false) (hb : F.body.isSome = true)
    (h : ∀ (i : Nat), i < 100 → ∀ w, Calls P f #[.int .i64 i] w fun e w' => e = .returned (.string ⟨(Lib.decDigits i).toArray⟩) ∧ w' = w) : EntOk P c f (.pure false itoaS) := by
  intro args r hx
  unfold itoaS at hx
  split at hx
  case h_2 => cases hx
  rename_i n
  split at hx
  case isFalse => cases hx
  rename_i hb2
  cases hx
  obtain ⟨m, rfl⟩ : ∃ m : Nat, n = m := ⟨n.toNat, by omega⟩
  refine ⟨rfl, fun M ρ us w hl hw ha => ⟨?_, fun h => by cases h⟩⟩
  obtain ⟨ha1, ha2⟩ := ha
  obtain ⟨u0, rfl⟩ : ∃ u0, us = [u0] := by
    match us, ha1 with
    | [u0], _ => exact ⟨u0, rfl⟩
  obtain rfl := int_inv (ha2 0 _ u0 rfl rfl)
  intro o a K Q hK
  rw [call_enter hF hn hb, Oper.upon_enter]
  refine (h m (by omega) w).mono fun e w' ⟨he, hw'⟩ => ?_
  subst he; subst hw'
  refine hK _ _ ⟨M, fun _ => none, .refl _, fun _ _ _ => rfl, HR.blank (n := 0) (fun i p hp => by cases hp) hl _ hw, ?_⟩
  have := VR.str (c := c) (M := M) (ρ := fun _ => none) ⟨(Lib.decDigits m).toArray⟩
  rw [byteInts_ofU, decSmall_ok m (by omega)] at this
  simpa using this
end
end Go.Abx
