/- ActsGrow: the row and the card. -/
import Derived.Test.YtmnbafbicjgjgaaDoorAbxG7
import Derived.Test.YtmnbafbicjgjgaaDoorAbxX7
import Derived.Test.YtmnbafbicjgjgaaDoorAbxZ2
import Derived.Test.YtmnbafbicjgjgaaDoorAbxW6
import Derived.Test.YtmnbafbicjgjgaaDoorCards
import Derived.Test.YtmnbafbicjgjgaaDoorTie
import Derived.ChangeSame
import Derived.JoinedOf
import Derived.RowKitTokens
import Derived.OpenShut
import Derived.Stop.Joined
import Derived.SevenTiedAt
namespace Go.Proofs.YtmnbafbicjgjgaaDoor.actsGrow
open Go.ChangeShapes Go.WideShapes Go.ChangeAt Go.RowKit
set_option linter.unusedVariables false

theorem own : ownKnob Tryd.prog.godebug = none := by kernel_rfl

theorem walk (a0 a1 : Int) (w : World) : Calls Tryd.prog 6 #[.int .i64 a0, .int .i64 a1] w fun e w' => e = .returned (.bool true) ∧ Below w.heap.size w w' := by
  have he : Abx.EntOk Tryd.prog Abx.cx 6 (.pure false (Abx.runPure Abx.v2Forms Abx.i_fettlelaw6_ActsGrow)) :=
    Abx.pure_ok (k := 0) (Abx.env_cons (f := 11) (by rfl) Abx.ok_acts_Run (Abx.env_cons (f := 10) (by rfl) Abx.ok_awakeT Abx.env_nil)) Abx.m_fettlelaw6_ActsGrow
  exact Abx.law_calls (us := [.int .i64 a0, .int .i64 a1]) rfl Tryd.func6 (by kernel_rfl) (by kernel_rfl) he (Abx.grow_run a0 a1) ⟨rfl, fun j x u hx hu => by
    cases j with
    | zero => simp at hx hu; subst hx; subst hu; exact .int _ _
    | succ j =>
      cases j with
      | zero => simp at hx hu; subst hx; subst hu; exact .int _ _
      | succ j => simp at hx⟩

set_option maxRecDepth 1000000 in
theorem laid_metG (os : Os) (args : Array Value) : laidMet Tryd.prog Rows.actsGrowRow.laid ((laidWorld os).forCall (fun _ _ => 0) ⟨#[], args, []⟩).memory :=
  laidMet_of_run' 10 (by kernel_rfl) (by kernel_rfl)
set_option maxRecDepth 100000 in
theorem lifted (os : Os) (started : os.Started) (H : Type) (enc : TypeId × Value → H) :
    ReturnsInHanded {} Tryd.checked os 6 .any (fun w args => (Rows.actsGrowSpec.pre enc Tryd.prog Tryd.f6 [] false w args ∧ laidMetH Tryd.prog Rows.actsGrowRow.laid w) ∧ sizedMet enc Tryd.prog Tryd.f6 (OpenSpec.ofChange Rows.actsGrowSpec) false w args)
      (Rows.actsGrowSpec.post enc Tryd.prog Tryd.f6 false true false false) := by
  refine returnsInHanded_of_change_and (C := Tryd.checked) (X := fun w _ => laidMetH Tryd.prog Rows.actsGrowRow.laid w) (fun _ _ _ hh h => h.of_heap hh) own started (by kernel_rfl) Tryd.func6
    (ChangeSpec.witness_at (enc := enc) (C := Tryd.checked) (os := os) (X := fun w _ => laidMetH Tryd.prog Rows.actsGrowRow.laid w) false (laidWorld os) #[.int .i64 0, .int .i64 0] 8 rfl (by kernel_rfl) (by kernel_rfl) (by kernel_rfl) (by kernel_rfl) (by kernel_rfl) (laid_metG os _)) ?_
  intro W base args ds gs before hval0 hW _ _ hL _
  have hval : ∀ (j : Nat) t v, Tryd.f6.params[j]? = some t → args[j]? = some v → Value.okWide Tryd.prog W .any base t v := hval0
  have hW' := hW
  obtain ⟨p, q, hA0, hV, rfl, hfz, hnd⟩ := hW
  have hA : DataW.TrodAll enc Tryd.prog W 0 (fun _ => true) true Tryd.f6.params.toList args.toList ds p := hA0
  rw [Tryd.params6] at hA hval
  obtain ⟨v0, vs0, d0, ds0, p0, q0, hargs, rfl, rfl, h0, r0⟩ := trodAll_cons hA
  obtain ⟨v1, vs1, d1, ds1, p1, q1, rfl, rfl, rfl, h1, r1⟩ := trodAll_cons r0
  obtain ⟨rfl, rfl, rfl⟩ := trodAll_nil r1
  obtain rfl : args = #[v0, v1] := by cases args; simp_all
  obtain ⟨rfl, rfl⟩ := trodVars_none hV
  obtain ⟨a0, rfl, rfl, rfl, w0⟩ := open_int Tryd.underlying3 (hval 0 3 v0 rfl rfl) h0
  obtain ⟨a1, rfl, rfl, rfl, w1⟩ := open_int Tryd.underlying3 (hval 1 3 v1 rfl rfl) h1
  clear hA0 hval0
  simp only [List.append_nil] at hW'
  refine (walk a0 a1 W).mono fun e W' ⟨he, hg⟩ => ?_
  subst he
  refine ⟨_, rfl, _, _, _, [], [], [], hW', ?_, ?_, ?_, hg.frame _, fun h => by cases h⟩
  · exact trodAll_cons_mk (shut_bool Tryd.underlying4 _) trodAll_mk0
  · exact trodAll_cons_mk (shut_int Tryd.underlying3 w0) (trodAll_cons_mk (shut_int Tryd.underlying3 w1) trodAll_mk0)
  · rfl

theorem over : Rows.ActsGrowSaid :=
  OpenClaim.holds_of_wide 6 Tryd.f6 rfl rfl rfl rfl rfl rfl rfl ⟨rfl, rfl, rfl, rfl, rfl⟩ rfl rfl rfl rfl rfl (by kernel_rfl) Tryd.func6 (by kernel_rfl)
    (of_decide_eq_true (by kernel_rfl)) (by unfold Func.isWrapper; first | (rw [if_pos (by decide +kernel)]; kernel_rfl) | (rw [if_neg (by decide +kernel)]; exact ⟨rfl, rfl⟩))
    (fun os started H enc _ => lifted os started H enc)
#print axioms over
end Go.Proofs.YtmnbafbicjgjgaaDoor.actsGrow

namespace Go.Proofs.YtmnbafbicjgjgaaDoor
open Go
/-- The tied card of ActsGrow. -/
theorem actsGrow_card_holds : Rows.ActsGrowCardSaid :=
  Claim7.holds_tied_plain_at .later [] [.data, .data, .data, .sentinel, .sentinel] true (true, "ab3164ecd6fadeb103c97ef7eb8785a248312215375a7a34054d4719d171db7a") true
    actsGrow.over (fun _ h => by cases h) (by kernel_rfl) (fun _ h => by cases h) actsGrow_row_tie rfl ⟨rfl, rfl⟩ (by kernel_rfl) rfl
    (fun f fn hf hfn => by
      obtain rfl : f = 6 := Option.some.inj ((show Tryd.prog.funcNamed "fettle/fettlelaw6.ActsGrow" = some 6 by kernel_rfl).symm.trans hf) |>.symm
      obtain rfl : fn = Tryd.f6 := (Option.some.inj (Tryd.func6.symm.trans hfn)).symm
      exact ⟨by kernel_rfl, fun j t ht => by
        rw [Tryd.params6] at ht
        have hm : t ∈ [3, 3] := by simpa using Array.mem_of_getElem? ht
        have hall : ([3, 3].all fun u => !Tryd.prog.wantsStandIn u) = true := by kernel_rfl
        exact (show Tryd.prog.wantsStandIn t = false by simpa using List.all_eq_true.1 hall t hm)⟩)
    (by kernel_rfl)
#print axioms actsGrow_card_holds
end Go.Proofs.YtmnbafbicjgjgaaDoor
