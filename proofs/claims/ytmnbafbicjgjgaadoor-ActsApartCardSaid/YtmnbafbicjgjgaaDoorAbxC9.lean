/- ActsApart: the row and the card. -/
import Derived.Test.YtmnbafbicjgjgaaDoorAbxD7
import Derived.Test.YtmnbafbicjgjgaaDoorAbxJ7
import Derived.Test.YtmnbafbicjgjgaaDoorAbxX7
import Derived.Test.YtmnbafbicjgjgaaDoorAbxW6
import Derived.Test.YtmnbafbicjgjgaaDoorCards
import Derived.Test.YtmnbafbicjgjgaaDoorTie
import Derived.ChangeSame
import Derived.JoinedOf
import Derived.RowKitTokens
import Derived.OpenShut
import Derived.Stop.Joined
import Derived.SevenTiedAt
import Derived.Carry
namespace Go.Proofs.YtmnbafbicjgjgaaDoor.actsApart
open Go.ChangeShapes Go.WideShapes Go.ChangeAt Go.RowKit
set_option linter.unusedVariables false

theorem own : ownKnob Tryd.prog.godebug = none := by kernel_rfl
theorem laidOut' : laidOutB Tryd.prog = true := by kernel_rfl

theorem walk {H : Type} {enc : TypeId × Value → H} (a0 : Option Addr) (l0 c0 : Nat) (a1 : Option Addr) (l1 c1 : Nat) (a2 : Int) (a3 : Bool) (W : World) {d0 : DataW H} {p0 : List MemPlace} (h0 : DataW.Trod enc Tryd.prog W 0 (fun _ => true) true 22 (.slice a0 l0 c0) d0 p0) {d1 : DataW H} {p1 : List MemPlace} (h1 : DataW.Trod enc Tryd.prog W 0 (fun _ => true) true 22 (.slice a1 l1 c1) d1 p1) : Calls Tryd.prog 3 #[.slice a0 l0 c0, .slice a1 l1 c1, .int .i64 a2, .bool a3] W fun e w' => e = .returned (.bool true) ∧ Below W.heap.size W w' := by
  obtain ⟨av0, zs0, i0, r0⟩ := Abx.arg_ints (c := Abx.cx) Tryd.underlying22 Tryd.underlying3 (by kernel_rfl) h0
  obtain ⟨av1, zs1, i1, r1⟩ := Abx.arg_ints (c := Abx.cx) Tryd.underlying22 Tryd.underlying3 (by kernel_rfl) h1
  have he : Abx.EntOk Tryd.prog Abx.cx 3 (.pure false (Abx.runPure Abx.vApart Abx.i_fettlelaw6_ActsApart)) := Abx.pure_ok (k := 0) (Abx.env_cons (f := 8) (by rfl) Abx.ok_acts_Bytes (Abx.env_cons (f := 7) (by rfl) Abx.ok_fettlelaw6_Act (Abx.env_cons (f := 10) (by rfl) Abx.ok_awakeT (Abx.env_cons (f := 9) (by rfl) Abx.ok_fettleref4_SameAct Abx.env_nil)))) Abx.m_fettlelaw6_ActsApart
  exact Abx.law_callsM (us := [.slice a0 l0 c0, .slice a1 l1 c1, .int .i64 a2, .bool a3]) rfl Tryd.func3 (by kernel_rfl) (by kernel_rfl) he (Abx.apart_run a2 a3 i0 i1) (Abx.vrs_cons r0 (Abx.vrs_cons r1 (Abx.vrs_cons (.int _ _) (Abx.vrs_cons (.bool _) Abx.vrs_nil))))

set_option maxRecDepth 1000000 in
theorem laid_met2 (os : Os) (args : Array Value) : laidMet Tryd.prog Rows.actsApartRow.laid ((laidWorld os).forCall (fun _ _ => 0) ⟨#[], args, []⟩).memory :=
  laidMet_of_run' 10 (by kernel_rfl) (by kernel_rfl)

set_option maxRecDepth 100000 in
theorem lifted (os : Os) (started : os.Started) (H : Type) (enc : TypeId × Value → H) :
    ReturnsInHanded {} Tryd.checked os 3 .any (fun w args => (Rows.actsApartSpec.pre enc Tryd.prog Tryd.f3 [] false w args ∧ laidMetH Tryd.prog Rows.actsApartRow.laid w) ∧ sizedMet enc Tryd.prog Tryd.f3 (OpenSpec.ofChange Rows.actsApartSpec) false w args)
      (Rows.actsApartSpec.post enc Tryd.prog Tryd.f3 false true false false) := by
  refine returnsInHanded_of_change_and (C := Tryd.checked) (X := fun w _ => laidMetH Tryd.prog Rows.actsApartRow.laid w) (fun _ _ _ hh h => h.of_heap hh) own started (by kernel_rfl) Tryd.func3
    (ChangeSpec.witness_at (enc := enc) (C := Tryd.checked) (os := os) (X := fun w _ => laidMetH Tryd.prog Rows.actsApartRow.laid w) false (laidWorld os) #[.slice none 0 0, .slice none 0 0, .int .i64 0, .bool false] 8 rfl (by kernel_rfl) (by kernel_rfl) (by kernel_rfl) (by kernel_rfl) (by kernel_rfl) (laid_met2 os _)) ?_
  intro W base args ds gs before hval0 hW _ _ hL _
  have hval : ∀ (j : Nat) t v, Tryd.f3.params[j]? = some t → args[j]? = some v → Value.okWide Tryd.prog W .any base t v := hval0
  have hW' := hW
  obtain ⟨p, q, hA0, hV, rfl, hfz, hnd⟩ := hW
  have hA : DataW.TrodAll enc Tryd.prog W 0 (fun _ => true) true Tryd.f3.params.toList args.toList ds p := hA0
  rw [Tryd.params3] at hA hval
  obtain ⟨v0, vs0, d0, ds0, p0, q0, hargs, rfl, rfl, h0, r0⟩ := trodAll_cons hA
  obtain ⟨v1, vs1, d1, ds1, p1, q1, rfl, rfl, rfl, h1, r1⟩ := trodAll_cons r0
  obtain ⟨v2, vs2, d2, ds2, p2, q2, rfl, rfl, rfl, h2, r2⟩ := trodAll_cons r1
  obtain ⟨v3, vs3, d3, ds3, p3, q3, rfl, rfl, rfl, h3, r3⟩ := trodAll_cons r2
  obtain ⟨rfl, rfl, rfl⟩ := trodAll_nil r3
  obtain rfl : args = #[v0, v1, v2, v3] := by cases args; simp_all
  obtain ⟨rfl, rfl⟩ := trodVars_none hV
  obtain ⟨a0, l0, c0, rfl⟩ := okWide_slice Tryd.underlying22 (hval 0 22 v0 rfl rfl)
  obtain ⟨a1, l1, c1, rfl⟩ := okWide_slice Tryd.underlying22 (hval 1 22 v1 rfl rfl)
  obtain ⟨a2, rfl, rfl, rfl, w2⟩ := open_int Tryd.underlying3 (hval 2 3 v2 rfl rfl) h2
  obtain ⟨a3, rfl, rfl, rfl⟩ := open_bool Tryd.underlying4 (hval 3 4 v3 rfl rfl) h3
  clear hA0 hval0
  simp only [List.append_nil] at hW'
  have hlt0 : ∀ x ∈ p0, x.block < W.heap.size := fun x hx => hW'.lt x (by simp [hx])
  have hlt1 : ∀ x ∈ p1, x.block < W.heap.size := fun x hx => hW'.lt x (by simp [hx])
  refine (walk (enc := enc) a0 l0 c0 a1 l1 c1 a2 a3 W h0 h1).mono fun e W' ⟨he, hg⟩ => ?_
  subst he
  refine ⟨_, rfl, _, _, _, [], p0 ++ (p1 ++ ([] ++ ([] ++ []))), [], hW', ?_, ?_, ?_, hg.frame _, fun h => by cases h⟩
  · exact trodAll_cons_mk (shut_bool Tryd.underlying4 _) trodAll_mk0
  · exact (trodAll_cons_mk (Below.trod laidOut' (by kernel_rfl) (of_decide_eq_true (by kernel_rfl)) h0 hg hlt0) (trodAll_cons_mk (Below.trod laidOut' (by kernel_rfl) (of_decide_eq_true (by kernel_rfl)) h1 hg hlt1) (trodAll_cons_mk (shut_int Tryd.underlying3 w2) (trodAll_cons_mk (shut_bool Tryd.underlying4 _) trodAll_mk0))))
  · rfl

theorem over : Rows.ActsApartSaid :=
  OpenClaim.holds_of_wide 3 Tryd.f3 rfl rfl rfl rfl rfl rfl rfl ⟨rfl, rfl, rfl, rfl, rfl⟩ rfl rfl rfl rfl rfl (by kernel_rfl) Tryd.func3 (by kernel_rfl)
    (of_decide_eq_true (by kernel_rfl)) (by unfold Func.isWrapper; first | (rw [if_pos (by decide +kernel)]; kernel_rfl) | (rw [if_neg (by decide +kernel)]; exact ⟨rfl, rfl⟩))
    (fun os started H enc _ => lifted os started H enc)
end Go.Proofs.YtmnbafbicjgjgaaDoor.actsApart

namespace Go.Proofs.YtmnbafbicjgjgaaDoor
open Go
/-- The tied card of ActsApart. -/
theorem actsApart_card_holds : Rows.ActsApartCardSaid :=
  Claim7.holds_tied_plain_at .later [] [.data, .data, .data, .sentinel, .sentinel] true (true, "ab3164ecd6fadeb103c97ef7eb8785a248312215375a7a34054d4719d171db7a") true
    actsApart.over (fun _ h => by cases h) (by kernel_rfl) (fun _ h => by cases h) actsApart_row_tie rfl ⟨rfl, rfl⟩ (by kernel_rfl) rfl
    (fun f fn hf hfn => by
      obtain rfl : f = 3 := Option.some.inj ((show Tryd.prog.funcNamed "fettle/fettlelaw6.ActsApart" = some 3 by kernel_rfl).symm.trans hf) |>.symm
      obtain rfl : fn = Tryd.f3 := (Option.some.inj (Tryd.func3.symm.trans hfn)).symm
      exact ⟨by kernel_rfl, fun j t ht => by
        rw [Tryd.params3] at ht
        have hm : t ∈ [22, 22, 3, 4] := by simpa using Array.mem_of_getElem? ht
        have hall : ([22, 22, 3, 4].all fun u => !Tryd.prog.wantsStandIn u) = true := by kernel_rfl
        exact (show Tryd.prog.wantsStandIn t = false by simpa using List.all_eq_true.1 hall t hm)⟩)
    (by kernel_rfl)
#print axioms actsApart_card_holds
end Go.Proofs.YtmnbafbicjgjgaaDoor
