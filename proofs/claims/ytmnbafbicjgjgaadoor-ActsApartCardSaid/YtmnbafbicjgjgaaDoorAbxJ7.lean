/- Arguments that are slices, told as the executor's values. -/
import Derived.Test.YtmnbafbicjgjgaaDoorAbxZ2
import Derived.Test.YtmnbafbicjgjgaaDoorAbxA7
import Derived.ChangeSlices
import Derived.Deep.Matrix
import Derived.DataReads
namespace Go.Abx
open Go.RowKit Go.ChangeShapes Go.Deep
set_option linter.unusedSimpArgs false
set_option linter.unusedVariables false

/-- All that lies there. -/
def memOf (W : World) : Mem := fun b o => W.cell? ⟨b, o, none⟩

theorem vr_slice {c : Cx} {M : Mem} {ρ : Pl} {k : IntKind} {W : World} {a : Addr} {len cap : Nat} {zs : List Int} (hM : ∀ b o u, W.cell? ⟨b, o, none⟩ = some u → M b o = some u) (hl : len ≤ cap) (hz : zs.length = cap)
    (hcell : ∀ i, i < zs.length → W.cell? (a.add i) = some (.int k (zs.getD i 0))) : VR c M ρ (.vs ((zs.take len).map (.int k)) 1 (some cap)) (.slice (some a) len cap) := by
  have hlen : ((zs.take len).map (AVal.int k)).length = len := by simp; omega
  have hspot : 0 < len → a.spot = none := fun h => by
    have := World.cell?_spot (hcell 0 (by omega))
    simpa [Addr.add] using this
  have key := VR.vs (c := c) (M := M) (ρ := ρ) ((zs.take len).map (.int k)) 1 (some cap) (some a) cap a.block a.off (fun j _ => .int k (zs.getD j 0)) ?_ rfl (fun x h => by cases h; rfl) (by omega) ?_ ?_ ?_
  · rw [hlen] at key; exact key
  · intro hne
    have h0 : 0 < len := by
      rcases Nat.eq_zero_or_pos len with h | h
      · subst h; simp at hne
      · exact h
    have := hspot h0
    cases a; simp_all
  · intro j e he
    obtain ⟨n, _, rfl⟩ := List.mem_map.1 (List.mem_of_getElem? he)
    exact ⟨rfl, rfl⟩
  · intro j e he i x hx
    rw [List.getElem?_map, Option.map_eq_some_iff] at he
    obtain ⟨n, hn, rfl⟩ := he
    cases i with
    | succ i => simp [AVal.cells] at hx
    | zero =>
      have hj : j < len ∧ zs[j]? = some n := by
        rw [List.getElem?_take] at hn
        split at hn
        · exact ⟨by assumption, hn⟩
        · cases hn
      have hjz : j < zs.length := by omega
      have hc := hcell j hjz
      have hs := hspot (by omega)
      apply hM
      have : a.add j = ⟨a.block, a.off + j * 1 + 0, none⟩ := by
        unfold Addr.add
        split
        · rename_i h; subst h; cases a; simp_all
        · simp
      rw [← this]; exact hc
  · intro j e he i x hx
    rw [List.getElem?_map, Option.map_eq_some_iff] at he
    obtain ⟨n, hn, rfl⟩ := he
    cases i with
    | succ i => simp [AVal.cells] at hx
    | zero =>
      have hjz : zs[j]? = some n := by
        rw [List.getElem?_take] at hn
        split at hn
        · exact hn
        · cases hn
      simp [AVal.cells] at hx
      subst hx
      have : zs.getD j 0 = n := by simp [List.getD, hjz]
      rw [this]; exact .int k n

theorem arg_ints {H : Type} {enc : TypeId × Value → H} {P : Program} {W : World} {c : Cx} {t e : TypeId} {a : Option Addr} {len cap : Nat} {d : DataW H} {ps : List MemPlace} (ht : P.underlying t = some (.slice e)) (he : P.underlying e = some (.int .i64)) (hc : P.cellsOf e = 1)
    (h : DataW.Trod enc P W 0 (fun _ => true) true t (.slice a len cap) d ps) : ∃ av zs, isInts av zs ∧ VR c (memOf W) (fun _ => none) av (.slice a len cap) := by
  obtain ⟨fuel, hf⟩ := h
  rcases open_ints ht he hc hf with ⟨hcs, _⟩ | ⟨a', len', cap', zs, hcs, _, hl, hm, hz, _, hcell, _⟩
  · simp [Value.cells] at hcs
    obtain ⟨rfl, rfl, rfl⟩ := hcs
    exact ⟨.nilsl, [], .inl ⟨rfl, rfl⟩, .nilsl⟩
  · simp [Value.cells] at hcs
    obtain ⟨rfl, rfl, rfl⟩ := hcs
    exact ⟨_, zs.take len, .inr ⟨_, rfl⟩, vr_slice (fun _ _ _ h => h) hl (by simpa using hz) hcell⟩

/-- Bytes: each of them a byte. -/
def byteL (b : List Int) : Prop := ∀ x ∈ b, 0 ≤ x ∧ x < 256
theorem arg_bytes {H : Type} {enc : TypeId × Value → H} {P : Program} {W : World} {c : Cx} {t e : TypeId} {a : Option Addr} {len cap : Nat} {d : DataW H} {ps : List MemPlace} (ht : P.underlying t = some (.slice e)) (he : P.underlying e = some (.int .u8)) (hc : P.cellsOf e = 1)
    (h : DataW.Trod enc P W 0 (fun _ => true) true t (.slice a len cap) d ps) : ∃ av b, isBs av b ∧ byteL b ∧ VR c (memOf W) (fun _ => none) av (.slice a len cap) := by
  obtain ⟨fuel, hf⟩ := h
  rcases open_ints ht he hc hf with ⟨hcs, _⟩ | ⟨a', len', cap', zs, hcs, _, hl, hm, hz, _, hcell, hw⟩
  · simp [Value.cells] at hcs
    obtain ⟨rfl, rfl, rfl⟩ := hcs
    exact ⟨.nilsl, [], .inl ⟨rfl, rfl⟩, fun x hx => by simp at hx, .nilsl⟩
  · simp [Value.cells] at hcs
    obtain ⟨rfl, rfl, rfl⟩ := hcs
    refine ⟨_, zs.take len, .inr ⟨_, rfl⟩, fun x hx => ?_, vr_slice (fun _ _ _ h => h) hl (by simpa using hz) hcell⟩
    have := hw x (List.mem_of_mem_take hx)
    simp [Lit.wf, IntKind.has, IntKind.min, IntKind.max, IntKind.signed, IntKind.bits] at this
    omega

theorem arg_rows {H : Type} {enc : TypeId × Value → H} {P : Program} {W : World} {c : Cx} {t e q : TypeId} {a : Option Addr} {len cap : Nat} {d : DataW H} {ps : List MemPlace} (ht : P.underlying t = some (.slice e)) (he : P.underlying e = some (.slice q)) (hq : P.underlying q = some (.int .u8)) (ce : P.cellsOf e = 1) (cq : P.cellsOf q = 1)
    (h : DataW.Trod enc P W 0 (fun _ => true) true t (.slice a len cap) d ps) : ∃ av rs, isRows av rs ∧ (∀ r ∈ rs, byteL r.2) ∧ VR c (memOf W) (fun _ => none) av (.slice a len cap) := by
  obtain ⟨fuel, hf⟩ := h
  rcases open_int_rows ht he hq ce cq hf with ⟨hcs, _⟩ | ⟨a', len', cap', A, L, C, Z, hcs, _, hl, hm, _, hr⟩
  · simp [Value.cells] at hcs
    obtain ⟨rfl, rfl, rfl⟩ := hcs
    exact ⟨.nilsl, [], ⟨.inl ⟨rfl, rfl⟩, by simp⟩, by simp, .nilsl⟩
  · simp [Value.cells] at hcs
    obtain ⟨rfl, rfl, rfl⟩ := hcs
    let rv : Nat → AVal × List Int := fun r => match A r with
      | none => (.nilsl, [])
      | some _ => (.vs (((Z r).take (L r)).map (.int .u8)) 1 (some (C r)), (Z r).take (L r))
    have hrow : ∀ r, r < cap → isBs (rv r).1 (rv r).2 ∧ byteL (rv r).2 ∧ VR c (memOf W) (fun _ => none) (rv r).1 (.slice (A r) (L r) (C r)) := by
      intro r hrc
      obtain ⟨h1, h2, h3, h4, h5, h6, h7⟩ := hr r hrc
      simp only [rv]
      cases hA : A r with
      | none =>
        have hC := h6 hA
        have hL : L r = 0 := by omega
        rw [hL, hC]
        exact ⟨.inl ⟨rfl, rfl⟩, fun x hx => by simp at hx, .nilsl⟩
      | some a' =>
        refine ⟨.inr ⟨_, rfl⟩, fun x hx => ?_, vr_slice (W := W) (fun _ _ _ h => h) h2 h4 fun i hi => (h7 a' hA).2 i (by omega)⟩
        have := h5 x (List.mem_of_mem_take hx)
        simp [Lit.wf, IntKind.has, IntKind.min, IntKind.max, IntKind.signed, IntKind.bits] at this
        omega
    have hspot : 0 < len → a'.spot = none := fun h => by
      have := World.cell?_spot (hr 0 (by omega)).1
      simpa [Addr.add] using this
    refine ⟨.vs (((List.range len).map rv).map (·.1)) 1 (some cap), (List.range len).map rv, ⟨.inr ⟨_, rfl⟩, fun p hp => ?_⟩, fun p hp => ?_, ?_⟩
    · obtain ⟨r, hr', rfl⟩ := List.mem_map.1 hp
      exact (hrow r (by have := List.mem_range.1 hr'; omega)).1
    · obtain ⟨r, hr', rfl⟩ := List.mem_map.1 hp
      exact (hrow r (by have := List.mem_range.1 hr'; omega)).2.1
    · have hat : ∀ (j : Nat) (e : AVal), (((List.range len).map rv).map (·.1))[j]? = some e → j < len ∧ e = (rv j).1 := by
        intro j e he
        simp only [List.map_map, List.getElem?_map, Option.map_eq_some_iff, Function.comp] at he
        obtain ⟨r, hr', rfl⟩ := he
        rw [List.getElem?_eq_some_iff] at hr'
        obtain ⟨h1, h2⟩ := hr'
        simp at h1 h2
        subst h2
        exact ⟨h1, rfl⟩
      have hcellone : ∀ j, j < len → (rv j).1.cells = [(rv j).1] := fun j hj => (hrow j (by omega)).1.cells
      have key := VR.vs (c := c) (M := memOf W) (ρ := fun _ => none) (((List.range len).map rv).map (·.1)) 1 (some cap) (some a') cap a'.block a'.off (fun j _ => .slice (A j) (L j) (C j)) ?_ rfl (fun x h => by cases h; rfl) (by simpa using hl) ?_ ?_ ?_
      · have : (((List.range len).map rv).map (·.1)).length = len := by simp
        rw [this] at key; exact key
      · intro hne
        have h0 : 0 < len := by
          rcases Nat.eq_zero_or_pos len with h | h
          · subst h; simp at hne
          · exact h
        have := hspot h0
        cases a'; simp_all
      · intro j e he
        obtain ⟨hj, rfl⟩ := hat j e he
        have hb := (hrow j (by omega)).1
        rw [hb.cells]
        exact ⟨rfl, by simp [flats, hb.flat]⟩
      · intro j e he i x hx
        obtain ⟨hj, rfl⟩ := hat j e he
        rw [hcellone j hj] at hx
        cases i with
        | succ i => simp at hx
        | zero =>
          have hc := (hr j (by omega)).1
          have hs := hspot (by omega)
          have : a'.add j = ⟨a'.block, a'.off + j * 1 + 0, none⟩ := by
            unfold Addr.add
            split
            · rename_i h; subst h; cases a'; simp_all
            · simp
          show W.cell? _ = _
          rw [← this]; exact hc
      · intro j e he i x hx
        obtain ⟨hj, rfl⟩ := hat j e he
        rw [hcellone j hj] at hx
        cases i with
        | succ i => simp at hx
        | zero =>
          simp at hx
          subst hx
          exact (hrow j (by omega)).2.2

/-- A law: it returns true, and of what was there nothing has turned. -/
theorem law_callsM {P : Program} {c : Cx} {f : FuncId} {F : Func} {G : List AVal → Option AVal} {args : List AVal} {us : List Value} {w : World} {b : Bool} (hm0 : c.m0 = fun _ _ => none) (hF : P.funcs[f]? = some F) (hn : (F.name == "runtime.NumGoroutine") = false) (hb : F.body.isSome = true)
    (he : EntOk P c f (.pure b G)) (hr : G args = some (.bool true)) (ha : VRs c (memOf w) (fun _ => none) args us) :
    Calls P f us.toArray w fun e w' => e = .returned (.bool true) ∧ Below w.heap.size w w' := by
  have h := ((he args _ hr).2 (memOf w) (fun _ => none) us w (by rw [hm0]; exact fun _ _ _ h => by cases h) (fun _ _ _ h => h) ha).1
  refine (calls_of_to (call_enter hF hn hb us w) h).mono fun e w' he => ?_
  cases e with
  | returned v =>
    obtain ⟨M', ρ', _, _, h1, h2⟩ := he
    exact ⟨by rw [bool_inv h2], h1.below⟩
  | panicked ch => exact he.elim
  | outgrown => exact he.elim
theorem vrs_nil {c : Cx} {M : Mem} {ρ : Pl} : VRs c M ρ [] [] := ⟨rfl, fun j x u hx => by simp at hx⟩
theorem vrs_cons {c : Cx} {M : Mem} {ρ : Pl} {a : AVal} {u : Value} {l : List AVal} {us : List Value} (h : VR c M ρ a u) (t : VRs c M ρ l us) : VRs c M ρ (a :: l) (u :: us) := by
  refine ⟨by simp [t.1], fun j x v hx hv => ?_⟩
  cases j with
  | zero => simp at hx hv; subst hx; subst hv; exact h
  | succ j => exact t.2 j x v (by simpa using hx) (by simpa using hv)
end Go.Abx
