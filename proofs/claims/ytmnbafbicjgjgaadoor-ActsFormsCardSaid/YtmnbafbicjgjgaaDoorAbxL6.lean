/- ActsForms: the plain law. -/
import Derived.Test.YtmnbafbicjgjgaaDoorAbxV6
import Derived.Test.YtmnbafbicjgjgaaDoorAbxG1
import Derived.Test.YtmnbafbicjgjgaaDoorAbxX6
namespace Go.Abx
set_option maxRecDepth 1000000

theorem ok_awakeS : EntOk Go.Proofs.Tryd.prog cx 10 (.pure false awakeS) := EntOk.weaken ok_fettlelaw6_awake fun args r h => by
  unfold awakeS at h
  split at h
  · rw [← h]; exact awake_run
  · cases h

/-! ### ActsForms -/
def fA : List IStep := match i_fettlelaw6_ActsForms.body with | .seq (.ops a) _ => a | _ => []
def fB : List IStep := match i_fettlelaw6_ActsForms.body with | .seq _ (.seq (.ops b) _) => b | _ => []
def fC : List IStep := match i_fettlelaw6_ActsForms.body with | .seq _ (.seq _ (.seq (.ops c) _)) => c | _ => []
def fR : ICode := match i_fettlelaw6_ActsForms.body with | .seq _ (.seq _ (.seq _ r)) => r | _ => .skip
theorem f_body : i_fettlelaw6_ActsForms.body = .seq (.ops fA) (.seq (.ops fB) (.seq (.ops fC) fR)) := by rfl
def fPre : List IStep := fA ++ fB ++ fC.take 5
def fPost : List IStep := fC.drop 6
def fS : IStep := .op none (some 85) (.bin .rem .int (.t 82) (.t 84))
def fS' (y : Int) : IStep := .op none (some 85) (.mv (.c (.int .i64 y)))
theorem f_all : fA ++ fB ++ fC = fPre ++ fS :: fPost := by rfl
def bandN (n m : Int) : Int := ((BitVec.ofInt 64 n &&& BitVec.ofInt 64 m).toNat : Nat)
def fIdx (n : Int) : Int := wrapN (bandN n 255)
where wrapN (x : Int) : Int := Int.tmod (IntKind.i64.wrap x) 21
def fT (n : Int) : Tm := (Tm.mk (depthOf (i_fettlelaw6_ActsForms.ntmps + 1))).setAll 0 [.int .i64 n]
theorem f_at (n : Int) : (match exSteps v2Forms fPre (fT n) Heap.empty with | some (t1, _) => (t1.get 82, t1.get 84) | none => (undefA, undefA)) = (AVal.int .i64 (IntKind.i64.wrap (bandN n 255)), AVal.int .i64 21) := by kernel_rfl

theorem band_lt (n : Int) : 0 ≤ bandN n 255 ∧ bandN n 255 ≤ 255 := by
  unfold bandN
  have : (BitVec.ofInt 64 n &&& BitVec.ofInt 64 255).toNat ≤ 255 := by
    rw [BitVec.toNat_and]
    exact Nat.le_trans Nat.and_le_right (by decide)
  omega

theorem f_swap (n : Int) : runPure v2Forms i_fettlelaw6_ActsForms [.int .i64 n] = runPure v2Forms { i_fettlelaw6_ActsForms with body := .seq (.ops (fPre ++ fS' (fIdx n) :: fPost)) fR } [.int .i64 n] := by
  apply runPure_congr
  rw [f_body, ex_seq_ops2, ex_seq_ops2, f_all]
  refine ex_swap v2Forms fPre fPost fS (fS' (fIdx n)) fR _ _ fun t1 h1 h => ?_
  have hat := f_at n
  have hT : fT n = (Tm.mk (depthOf (i_fettlelaw6_ActsForms.ntmps + [AVal.int .i64 n].length))).setAll 0 [.int .i64 n] := rfl
  rw [hT, h] at hat
  simp only [Prod.mk.injEq] at hat
  have hw : IntKind.i64.wrap (bandN n 255) = bandN n 255 := by have := band_lt n; rw [IntKind.wrap_i64]; omega
  have hr : intBin .rem .i64 (IntKind.i64.wrap (bandN n 255)) .i64 21 = some (.int .i64 (fIdx n)) := by
    simp [intBin, fIdx, fIdx.wrapN]
  simp only [fS, fS', exStep, wantedA, exOp, ev, hat.1, hat.2, binA, hr, val]

def fRun (n y : Int) : Option AVal := runPure v2Forms { i_fettlelaw6_ActsForms with body := .seq (.ops (fPre ++ fS' y :: fPost)) fR } [.int .i64 n]
theorem f_case0 (n : Int) : fRun n (.ofNat 0) = some (.bool true) := by kernel_rfl
theorem f_case1 (n : Int) : fRun n (.ofNat 1) = some (.bool true) := by kernel_rfl
theorem f_case2 (n : Int) : fRun n (.ofNat 2) = some (.bool true) := by kernel_rfl
theorem f_case3 (n : Int) : fRun n (.ofNat 3) = some (.bool true) := by kernel_rfl
theorem f_case4 (n : Int) : fRun n (.ofNat 4) = some (.bool true) := by kernel_rfl
theorem f_case5 (n : Int) : fRun n (.ofNat 5) = some (.bool true) := by kernel_rfl
theorem f_case6 (n : Int) : fRun n (.ofNat 6) = some (.bool true) := by kernel_rfl
theorem f_case7 (n : Int) : fRun n (.ofNat 7) = some (.bool true) := by kernel_rfl
theorem f_case8 (n : Int) : fRun n (.ofNat 8) = some (.bool true) := by kernel_rfl
theorem f_case9 (n : Int) : fRun n (.ofNat 9) = some (.bool true) := by kernel_rfl
theorem f_case10 (n : Int) : fRun n (.ofNat 10) = some (.bool true) := by kernel_rfl
theorem f_case11 (n : Int) : fRun n (.ofNat 11) = some (.bool true) := by kernel_rfl
theorem f_case12 (n : Int) : fRun n (.ofNat 12) = some (.bool true) := by kernel_rfl
theorem f_case13 (n : Int) : fRun n (.ofNat 13) = some (.bool true) := by kernel_rfl
theorem f_case14 (n : Int) : fRun n (.ofNat 14) = some (.bool true) := by kernel_rfl
theorem f_case15 (n : Int) : fRun n (.ofNat 15) = some (.bool true) := by kernel_rfl
theorem f_case16 (n : Int) : fRun n (.ofNat 16) = some (.bool true) := by kernel_rfl
theorem f_case17 (n : Int) : fRun n (.ofNat 17) = some (.bool true) := by kernel_rfl
theorem f_case18 (n : Int) : fRun n (.ofNat 18) = some (.bool true) := by kernel_rfl
theorem f_case19 (n : Int) : fRun n (.ofNat 19) = some (.bool true) := by kernel_rfl
theorem f_case20 (n : Int) : fRun n (.ofNat 20) = some (.bool true) := by kernel_rfl

theorem forms_run (n : Int) : runPure v2Forms i_fettlelaw6_ActsForms [.int .i64 n] = some (.bool true) := by
  rw [f_swap]
  show fRun n (fIdx n) = _
  have hb := band_lt n
  have hw : IntKind.i64.wrap (bandN n 255) = bandN n 255 := by rw [IntKind.wrap_i64]; omega
  obtain ⟨k, hk, hk2⟩ : ∃ k : Nat, fIdx n = .ofNat k ∧ k < 21 := by
    refine ⟨(fIdx n).toNat, ?_, ?_⟩ <;> simp only [fIdx, fIdx.wrapN, hw, Int.ofNat_eq_natCast] <;> rw [Int.tmod_eq_emod_of_nonneg hb.1] <;> omega
  rw [hk]
  have : k = 0 ∨ k = 1 ∨ k = 2 ∨ k = 3 ∨ k = 4 ∨ k = 5 ∨ k = 6 ∨ k = 7 ∨ k = 8 ∨ k = 9 ∨ k = 10 ∨ k = 11 ∨ k = 12 ∨ k = 13 ∨ k = 14 ∨ k = 15 ∨ k = 16 ∨ k = 17 ∨ k = 18 ∨ k = 19 ∨ k = 20 := by omega
  rcases this with rfl | rfl | rfl | rfl | rfl | rfl | rfl | rfl | rfl | rfl | rfl | rfl | rfl | rfl | rfl | rfl | rfl | rfl | rfl | rfl | rfl
  · exact f_case0 n
  · exact f_case1 n
  · exact f_case2 n
  · exact f_case3 n
  · exact f_case4 n
  · exact f_case5 n
  · exact f_case6 n
  · exact f_case7 n
  · exact f_case8 n
  · exact f_case9 n
  · exact f_case10 n
  · exact f_case11 n
  · exact f_case12 n
  · exact f_case13 n
  · exact f_case14 n
  · exact f_case15 n
  · exact f_case16 n
  · exact f_case17 n
  · exact f_case18 n
  · exact f_case19 n
  · exact f_case20 n
end Go.Abx
