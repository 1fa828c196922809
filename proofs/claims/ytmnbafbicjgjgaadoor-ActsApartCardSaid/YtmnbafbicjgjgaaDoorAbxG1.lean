/- Runs of the executor: how a step is told by another one; shorter contracts. -/
import Derived.Test.YtmnbafbicjgjgaaDoorAbxY
namespace Go.Abx
set_option linter.unusedVariables false

theorem exSteps_app (env : Env) : ∀ (l m : List IStep) (tm : Tm) (H : Heap), exSteps env (l ++ m) tm H = match exSteps env l tm H with | some (t, h) => exSteps env m t h | none => none
  | [], m, tm, H => rfl
  | s :: l, m, tm, H => by
    simp only [List.cons_append, exSteps]
    cases exStep env s tm H with
    | none => rfl
    | some p => exact exSteps_app env l m p.1 p.2

theorem ex_seq_ops (env : Env) (l : List IStep) (r : ICode) (tm : Tm) (H : Heap) : ex env (.seq (.ops l) r) tm H = match exSteps env l tm H with | some (t, h) => ex env r t h | none => none := by
  simp only [ex]
  cases exSteps env l tm H <;> rfl

theorem ex_seq_ops2 (env : Env) (l m : List IStep) (r : ICode) (tm : Tm) (H : Heap) : ex env (.seq (.ops l) (.seq (.ops m) r)) tm H = ex env (.seq (.ops (l ++ m)) r) tm H := by
  rw [ex_seq_ops, ex_seq_ops, exSteps_app]
  cases exSteps env l tm H with
  | none => rfl
  | some p => simp only [ex_seq_ops]

/-- One step of a row told by another that does the same there. -/
theorem ex_swap (env : Env) (pre post : List IStep) (s s' : IStep) (r : ICode) (tm : Tm) (H : Heap) (h : ∀ t1 h1, exSteps env pre tm H = some (t1, h1) → exStep env s t1 h1 = exStep env s' t1 h1) :
    ex env (.seq (.ops (pre ++ s :: post)) r) tm H = ex env (.seq (.ops (pre ++ s' :: post)) r) tm H := by
  rw [ex_seq_ops, ex_seq_ops, exSteps_app, exSteps_app]
  cases hp : exSteps env pre tm H with
  | none => rfl
  | some p =>
    simp only [exSteps]
    rw [h p.1 p.2 hp]

theorem runPure_congr {env : Env} {fn : IFun} {b : ICode} {args : List AVal} (hb : ex env fn.body ((Tm.mk (depthOf (fn.ntmps + args.length))).setAll 0 args) Heap.empty = ex env b ((Tm.mk (depthOf (fn.ntmps + args.length))).setAll 0 args) Heap.empty) :
    runPure env fn args = runPure env { fn with body := b } args := by
  simp only [runPure, bodyA, hb]

theorem EntOk.weaken {P : Program} {c : Cx} {f : FuncId} {F F' : List AVal → Option AVal} (h : EntOk P c f (.pure false F)) (hF : ∀ args r, F' args = some r → F args = some r) : EntOk P c f (.pure false F') :=
  fun args r hr => h args r (hF args r hr)

/-- A mask of low bits. -/
theorem band_eq (n : Int) (m : Nat) (hm : m < 2 ^ 63) : intBin .and .i64 n .i64 (m : Int) = some (.int .i64 (((BitVec.ofInt 64 n &&& BitVec.ofInt 64 (m : Int)).toNat : Nat) : Int)) := by
  have hle : (BitVec.ofInt 64 n &&& BitVec.ofInt 64 (m : Int)).toNat ≤ m := by
    rw [BitVec.toNat_and]
    refine Nat.le_trans Nat.and_le_right ?_
    rw [BitVec.ofInt_natCast, BitVec.toNat_ofNat]
    exact Nat.mod_le _ _
  have hw : IntKind.i64.wrap (((BitVec.ofInt 64 n &&& BitVec.ofInt 64 (m : Int)).toNat : Nat) : Int) = (((BitVec.ofInt 64 n &&& BitVec.ofInt 64 (m : Int)).toNat : Nat) : Int) := by
    rw [IntKind.wrap_i64]; omega
  exact congrArg (fun z => some (AVal.int .i64 z)) hw
end Go.Abx
