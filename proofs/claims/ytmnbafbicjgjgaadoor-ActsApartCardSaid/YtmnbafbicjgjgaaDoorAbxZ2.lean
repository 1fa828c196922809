/- From what a call comes to, to the kit's word for a call. -/
import Derived.Test.YtmnbafbicjgjgaaDoorAbxZ
namespace Go.Abx
open Go.RowKit
set_option linter.unusedVariables false

theorem calls_of_to {P : Program} {f : FuncId} {us : List Value} {w : World} {R : Value → World → Prop} (hrun : (callFunc f us.toArray).run P w = .ok (.enter f us.toArray) w) (h : CallTo P f us w R) :
    Calls P f us.toArray w fun | .returned v, w' => R v w' | _, _ => False := by
  let o : Oper := { (default : Oper) with dst := some 0 }
  have := h o { tmps := #[undef], defers := [] } (fun a' w' => R (a'.tmps.getD 0 undef) w') (fun _ _ _ => False) (fun u w' hu => by simpa [Act.put, o] using hu)
  rw [hrun, Oper.upon_enter] at this
  refine this.mono fun e w' he => ?_
  cases e with
  | returned v => simpa [Act.put, o] using he
  | panicked ch => exact he
  | outgrown => obtain ⟨a, w, h⟩ := he; exact h

/-- A law: it returns true, and of what was there nothing has turned. -/
theorem law_calls {P : Program} {c : Cx} {f : FuncId} {F : Func} {G : List AVal → Option AVal} {args : List AVal} {us : List Value} {w : World} {b : Bool} (hm0 : c.m0 = fun _ _ => none) (hF : P.funcs[f]? = some F) (hn : (F.name == "runtime.NumGoroutine") = false) (hb : F.body.isSome = true)
    (he : EntOk P c f (.pure b G)) (hr : G args = some (.bool true)) (ha : VRs c (fun _ _ => none) (fun _ => none) args us) :
    Calls P f us.toArray w fun e w' => e = .returned (.bool true) ∧ Below w.heap.size w w' := by
  have h := ((he args _ hr).2 (fun _ _ => none) (fun _ => none) us w (by rw [hm0]; exact .refl _) (fun _ _ _ h => by cases h) ha).1
  refine (calls_of_to (call_enter hF hn hb us w) h).mono fun e w' he => ?_
  cases e with
  | returned v =>
    obtain ⟨M', ρ', _, _, h1, h2⟩ := he
    exact ⟨by rw [bool_inv h2], h1.below⟩
  | panicked ch => exact he.elim
  | outgrown => exact he.elim
end Go.Abx
