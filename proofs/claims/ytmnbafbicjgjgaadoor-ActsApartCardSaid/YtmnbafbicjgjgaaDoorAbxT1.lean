/- Symbolic runs of the executor: a weakest precondition over temporaries told as a function. -/
import Derived.Test.YtmnbafbicjgjgaaDoorAbxY
namespace Go.Abx
set_option linter.unusedVariables false
set_option linter.unusedSimpArgs false

abbrev Sig := Nat → AVal
def upd (σ : Sig) (n : Nat) (v : AVal) : Sig := fun m => if m = n then v else σ m
theorem upd_same (σ : Sig) (n : Nat) (v : AVal) : upd σ n v n = v := by simp [upd]
theorem upd_ne (σ : Sig) (n m : Nat) (v : AVal) (h : m ≠ n) : upd σ n v m = σ m := by simp [upd, h]

def evS (σ : Sig) : Opd → AVal
  | .t n => σ n
  | .c v => v

def exOpS (env : Env) (σ : Sig) (H : Heap) : IOp → Option (AVal × Heap)
  | .mv x => some (evS σ x, H)
  | .pick c a b => match evS σ c with
    | .bool t => some (if t then evS σ a else evS σ b, H)
    | _ => none
  | .alloc z sz => some (.ptr H.next 0 0, H.new (.arr [z] sz (some 1) 0))
  | .box sz x => let v := evS σ x; if v.cells.length = sz ∧ flats v.cells then some (.ptr H.next 0 0, H.new (.arr [v] sz (some 1) 0)) else none
  | .build z parts => match fillA z (parts.map fun p => (p.1, p.2.1, evS σ p.2.2)) with
    | some cs => some (.agg cs, H)
    | none => none
  | .buildSlice z sz len parts => match fillEls (List.replicate len z) sz (parts.map fun p => (p.1, evS σ p.2)) with
    | some es => if len = 0 then some (.vs [] sz (some 0), H) else some (.hs H.next 0 len (some len), H.new (.arr es sz (some len) 0))
    | none => none
  | .load agg n x => val H (loadA agg n (evS σ x) H)
  | .store n a x => unit (storeA n (evS σ a) (evS σ x) H)
  | .nilCheck x => match evS σ x with
    | .ptr a b c => some (.ptr a b c, H)
    | .pimm a b => some (.pimm a b, H)
    | .fn f c => some (.fn f c, H)
    | _ => none
  | .bin op k x y => val H (binA op k (isC x || isC y) (evS σ x) (evS σ y))
  | .un op x => val H (unA op (evS σ x))
  | .conv k x => convA k (evS σ x) H
  | .mkIface t x => some (.iface t (evS σ x), H)
  | .mkFunc f caps => some (.fn f (caps.map (evS σ)), H)
  | .mkMap => some (.mp H.next, H.new (.map []))
  | .mkSlice z sz bytes l c => match evS σ l, evS σ c with
    | .int .i64 l, .int .i64 c =>
      if 0 ≤ l ∧ l ≤ c ∧ c * bytes ≤ 140737488355328 ∧ 0 < bytes then
        some (.hs H.next 0 l.toNat none, H.new (.arr (List.replicate l.toNat z) sz (some c.toNat) 0))
      else none
    | _, _ => none
  | .slice str sz x lo hi mx => bif stride H sz (evS σ x) then val H (sliceA str sz (evS σ x) (lo.map (evS σ)) (hi.map (evS σ)) (mx.map (evS σ))) else none
  | .fieldAddr off x => match evS σ x with
    | .ptr id i c => some (.ptr id i (c + off), H)
    | .pimm cs c => some (.pimm cs (c + off), H)
    | _ => none
  | .field off agg n x => match evS σ x with
    | .agg cs => val H (takeA agg n cs off)
    | _ => none
  | .indexAddr arr sz x i => bif stride H sz (evS σ x) then val H (indexAddrA arr sz (evS σ x) (evS σ i)) else none
  | .index arr x i => val H (indexA arr (evS σ x) (evS σ i))
  | .lookup kk z m k ok => val H (lookupA kk z ok (evS σ m) (evS σ k) H)
  | .mapUpdate kk m k v => match evS σ m with
    | .mp id => match H.get id with
      | some (.map kv) => if keysOk kk kv (evS σ k) then some (undefA, H.set id (.map (kvSet kv (evS σ k) (evS σ v)))) else none
      | _ => none
    | _ => none
  | .extract x i => match evS σ x with
    | .tup l => val H l[i]?
    | _ => none
  | .call g mode args => exCall env g mode (args.map (evS σ)) H
  | .callv f mode args => match evS σ f with
    | .fn g caps => exCall env g mode (args.map (evS σ) ++ caps) H
    | _ => none
  | .len k x => match lenA H k (evS σ x) with
    | some n => some (.int .i64 n, H)
    | none => none
  | .cap x => match capA H (evS σ x) with
    | some n => some (.int .i64 n, H)
    | none => none
  | .appendZ z sz bytes s n => appendZA z sz bytes (evS σ s) (evS σ n) H
  | .max x y => match evS σ x, evS σ y with
    | .int k a, .int l b => some (.int k (if b > a then b else a), H)
    | _, _ => none
  | .min x y => match evS σ x, evS σ y with
    | .int k a, .int l b => some (.int k (if b < a then b else a), H)
    | _, _ => none
  | .append sz bytes s x => bif stride H sz (evS σ s) && stride H sz (evS σ x) then appendA sz bytes (evS σ s) (evS σ x) H else none
  | .copy sz d x => bif stride H sz (evS σ d) && stride H sz (evS σ x) then copyA sz (evS σ d) (evS σ x) H else none
  | .stop => none
  | .delete kk m k => none

theorem ev_S (tm : Tm) : ev tm = evS tm.get := by funext x; cases x <;> rfl

theorem exOp_S (env : Env) (tm : Tm) (H : Heap) (op : IOp) : exOp env tm H op = exOpS env tm.get H op := by
  cases op
  case delete kk m k =>
    simp only [exOp, exOpS]
    split
    · split <;> rfl
    · rfl
  case len k x => simp only [exOp, exOpS, ev_S]; cases lenA H k (evS tm.get x) <;> rfl
  case cap x => simp only [exOp, exOpS, ev_S]; cases capA H (evS tm.get x) <;> rfl
  all_goals simp only [exOp, exOpS, ev_S] <;> rfl

def wantedS (σ : Sig) : Option (Nat × Bool) → Option Bool
  | none => some true
  | some (t, want) => match σ t with
    | .bool b => some (b == want)
    | .tup [] => some false
    | _ => none

def putS (σ : Sig) (dst : Option Nat) (v : AVal) : Sig :=
  match dst with
  | some d => upd σ d v
  | none => σ

def exStepS (env : Env) (s : IStep) (σ : Sig) (H : Heap) : Option (Sig × Heap) :=
  match s with
  | .op g dst op => match wantedS σ g with
    | some true => match exOpS env σ H op with
      | some (v, H') => some (putS σ dst v, H')
      | none => none
    | some false => some (putS σ dst undefA, H)
    | none => none
  | .frz t => match frzVal frzDepth (σ t) H with
    | some (v, H') => some (upd σ t v, H')
    | none => none
  | .drop t => match σ t with
    | .hs id _ _ _ => some (σ, H.drop id)
    | .ptr id _ _ => some (σ, H.drop id)
    | .mp id => some (σ, H.drop id)
    | _ => some (σ, H)
  | .trunc t => match σ t with
    | .hs id 0 n none => match H.get id with
      | some (.arr es sz cap fr) => if fr ≤ n ∧ n ≤ es.length then some (σ, H.set id (.arr (es.take n) sz cap fr)) else none
      | _ => none
    | _ => some (σ, H)

/-- All temporaries that are written lie within the tree. -/
def dstOk (d : Nat) : IStep → Bool
  | .op _ (some n) _ => Nat.blt (n + 1) (2 ^ d)
  | .frz t => Nat.blt (t + 1) (2 ^ d)
  | _ => true

def codeOk (d : Nat) : ICode → Bool
  | .ops l => l.all (dstOk d)
  | .draw l => l.all fun p => dstOk d p.2
  | .seq a b => codeOk d a && codeOk d b
  | .cond _ a b => codeOk d a && codeOk d b
  | .block _ a => codeOk d a
  | .loop a => codeOk d a
  | _ => true

theorem get_upd {tm : Tm} {d : Nat} (hf : tm.full d) {n : Nat} (hn : n + 1 < 2 ^ d) (v : AVal) : (tm.set n v).get = upd tm.get n v := by
  funext m
  by_cases h : m = n
  · subst h; rw [upd_same, Tm.get_set_same tm d m v hf hn]
  · rw [upd_ne _ _ _ _ h, Tm.get_set_ne tm n m v (fun h' => h h'.symm)]

theorem wanted_S (tm : Tm) (g : Option (Nat × Bool)) : wantedA tm g = wantedS tm.get g := by
  cases g with
  | none => rfl
  | some p => obtain ⟨t, w⟩ := p; rfl

theorem step_S {env : Env} {s : IStep} {tm : Tm} {H : Heap} {d : Nat} (hf : tm.full d) (hd : dstOk d s = true) {σ' : Sig} {H' : Heap} (h : exStepS env s tm.get H = some (σ', H')) :
    ∃ tm', exStep env s tm H = some (tm', H') ∧ tm'.full d ∧ tm'.get = σ' := by
  have put : ∀ (dst : Option Nat) (v : AVal), (∀ n, dst = some n → n + 1 < 2 ^ d) → (putT tm dst v).full d ∧ (putT tm dst v).get = putS tm.get dst v := by
    intro dst v hn
    cases dst with
    | none => exact ⟨hf, rfl⟩
    | some n => exact ⟨tm.full_set d n v hf, get_upd hf (hn n rfl) v⟩
  cases s with
  | op g dst op =>
    have hn : ∀ n, dst = some n → n + 1 < 2 ^ d := fun n e => by subst e; simpa [dstOk] using hd
    simp only [exStepS, exStep, wanted_S, exOp_S] at h ⊢
    split at h
    · rename_i h1
      rw [h1]
      split at h
      · rename_i v H1 h2
        simp only [Option.some.injEq, Prod.mk.injEq] at h
        obtain ⟨rfl, rfl⟩ := h
        simp only [h2]
        exact ⟨_, rfl, (put dst v hn).1, (put dst v hn).2⟩
      · cases h
    · rename_i h1
      rw [h1]
      simp only [Option.some.injEq, Prod.mk.injEq] at h
      obtain ⟨rfl, rfl⟩ := h
      exact ⟨_, rfl, (put dst undefA hn).1, (put dst undefA hn).2⟩
    · cases h
  | frz t =>
    simp only [exStepS, exStep] at h ⊢
    split at h
    · rename_i v H1 h2
      simp only [Option.some.injEq, Prod.mk.injEq] at h
      obtain ⟨rfl, rfl⟩ := h
      rw [h2]
      have ht : t + 1 < 2 ^ d := by simpa [dstOk] using hd
      exact ⟨_, rfl, tm.full_set d t v hf, get_upd hf ht v⟩
    · cases h
  | drop t =>
    simp only [exStepS, exStep] at h ⊢
    cases ht : tm.get t <;> simp only [ht, Option.some.injEq, Prod.mk.injEq] at h <;> obtain ⟨rfl, rfl⟩ := h <;> exact ⟨tm, by simp, hf, rfl⟩
  | trunc t =>
    simp only [exStepS, exStep] at h ⊢
    split at h
    · rename_i h1
      rw [h1]
      split at h
      · rename_i h2
        simp only [h2]
        split at h
        · rename_i h3
          simp only [Option.some.injEq, Prod.mk.injEq] at h
          obtain ⟨rfl, rfl⟩ := h
          exact ⟨tm, by rw [if_pos h3], hf, rfl⟩
        · cases h
      · cases h
    · simp only [Option.some.injEq, Prod.mk.injEq] at h
      obtain ⟨rfl, rfl⟩ := h
      refine ⟨tm, ?_, hf, rfl⟩
      split <;> simp_all

theorem step_full {env : Env} {s : IStep} {tm tm1 : Tm} {H H1 : Heap} {d : Nat} (hf : tm.full d) (h : exStep env s tm H = some (tm1, H1)) : tm1.full d := by
  have put : ∀ (dst : Option Nat) (v : AVal), (putT tm dst v).full d := fun dst v => by
    cases dst with
    | none => exact hf
    | some n => exact tm.full_set d n v hf
  cases s with
  | op g dst op =>
    simp only [exStep] at h
    split at h
    · split at h
      · simp only [Option.some.injEq, Prod.mk.injEq] at h; rw [← h.1]; exact put _ _
      · cases h
    · simp only [Option.some.injEq, Prod.mk.injEq] at h; rw [← h.1]; exact put _ _
    · cases h
  | frz t =>
    simp only [exStep] at h
    split at h
    · simp only [Option.some.injEq, Prod.mk.injEq] at h; rw [← h.1]; exact tm.full_set d t _ hf
    · cases h
  | drop t =>
    simp only [exStep] at h
    split at h <;> simp only [Option.some.injEq, Prod.mk.injEq] at h <;> exact h.1 ▸ hf
  | trunc t =>
    simp only [exStep] at h
    split at h
    · split at h
      · split at h
        · simp only [Option.some.injEq, Prod.mk.injEq] at h; exact h.1 ▸ hf
        · cases h
      · cases h
    · simp only [Option.some.injEq, Prod.mk.injEq] at h; exact h.1 ▸ hf

/-! ### The weakest precondition -/
def wpS (env : Env) : List IStep → Sig → Heap → (Sig → Heap → Prop) → Prop
  | [], σ, H, K => K σ H
  | s :: r, σ, H, K => match exStepS env s σ H with
    | some (σ', H') => wpS env r σ' H' K
    | none => False

/-- A region that draws its order: to be shown by AbxT3's theorem. -/
def drawW (env : Env) (l : List (List Nat × IStep)) (σ : Sig) (H : Heap) (K : Sig → Heap → Prop) : Prop :=
  ∀ (d : Nat) (tm : Tm), tm.full d → (l.all fun p => dstOk d p.2) = true → tm.get = σ → ∃ tm' H', exDraw env l l.length (List.replicate l.length false) tm H = some (tm', H') ∧ tm'.full d ∧ K tm'.get H'

def wp (env : Env) : ICode → Sig → Heap → (Ex → Sig → Heap → Prop) → Prop
  | .skip, σ, H, K => K .normal σ H
  | .ops l, σ, H, K => wpS env l σ H (K .normal)
  | .draw l, σ, H, K => drawW env l σ H (K .normal)
  | .seq a b, σ, H, K => wp env a σ H fun e σ H => match e with
    | .normal => wp env b σ H K
    | e => K e σ H
  | .cond c a b, σ, H, K => match evS σ c with
    | .bool t => (t = true → wp env a σ H K) ∧ (t = false → wp env b σ H K)
    | _ => False
  | .block id a, σ, H, K => wp env a σ H fun e σ H => match e with
    | .exit j => if j = id then K .normal σ H else K (.exit j) σ H
    | e => K e σ H
  | .loop a, σ, H, K => ∃ I : Nat → Sig → Heap → Prop, (∃ n, n < many ∧ I n σ H) ∧ ∀ n σ H, I n σ H → wp env a σ H fun e σ H => match e with
    | .normal => ∃ m, m < n ∧ I m σ H
    | e => K e σ H
  | .exit id, σ, H, K => K (.exit id) σ H
  | .ret, σ, H, K => K .ret σ H

theorem wpS_S {env : Env} {d : Nat} : ∀ {l : List IStep} {tm : Tm} {H : Heap} {K : Sig → Heap → Prop}, tm.full d → l.all (dstOk d) = true → wpS env l tm.get H K →
    ∃ tm' H', exSteps env l tm H = some (tm', H') ∧ tm'.full d ∧ K tm'.get H'
  | [], tm, H, K, hf, _, h => ⟨tm, H, rfl, hf, h⟩
  | s :: r, tm, H, K, hf, hd, h => by
    simp only [List.all_cons, Bool.and_eq_true] at hd
    simp only [wpS] at h
    split at h
    · rename_i σ' H1 h1
      obtain ⟨tm1, e1, f1, rfl⟩ := step_S hf hd.1 h1
      obtain ⟨tm2, H2, e2, f2, k2⟩ := wpS_S f1 hd.2 h
      exact ⟨tm2, H2, by simp only [exSteps, e1, e2], f2, k2⟩
    · exact h.elim

theorem rounds_S {f : Tm → Heap → Option (Ex × Tm × Heap)} {d : Nat} {I : Nat → Sig → Heap → Prop} {K : Ex → Sig → Heap → Prop}
    (hstep : ∀ n tm H, tm.full d → I n tm.get H → ∃ e tm' H', f tm H = some (e, tm', H') ∧ tm'.full d ∧ (match e with | .normal => ∃ m, m < n ∧ I m tm'.get H' | e => K e tm'.get H')) :
    ∀ (fuel n : Nat) (tm : Tm) (H : Heap), n < fuel → tm.full d → I n tm.get H → ∃ e tm' H', rounds f fuel tm H = some (e, tm', H') ∧ tm'.full d ∧ K e tm'.get H'
  | 0, n, tm, H, hn, _, _ => by omega
  | fuel + 1, n, tm, H, hn, hf, hi => by
    obtain ⟨e, tm1, H1, e1, f1, h1⟩ := hstep n tm H hf hi
    simp only [rounds, e1]
    cases e with
    | normal =>
      obtain ⟨m, hm, hi'⟩ := h1
      exact rounds_S hstep fuel m tm1 H1 (by omega) f1 hi'
    | exit j => exact ⟨_, _, _, rfl, f1, h1⟩
    | ret => exact ⟨_, _, _, rfl, f1, h1⟩

theorem wp_sound {env : Env} {d : Nat} : ∀ (code : ICode) {tm : Tm} {H : Heap} {K : Ex → Sig → Heap → Prop}, tm.full d → codeOk d code = true → wp env code tm.get H K →
    ∃ e tm' H', ex env code tm H = some (e, tm', H') ∧ tm'.full d ∧ K e tm'.get H'
  | .skip, tm, H, K, hf, _, h => ⟨_, _, _, rfl, hf, h⟩
  | .ops l, tm, H, K, hf, hc, h => by
    obtain ⟨tm', H', e, f, k⟩ := wpS_S hf (by simpa [codeOk] using hc) h
    exact ⟨.normal, tm', H', by simp only [ex, e], f, k⟩
  | .draw l, tm, H, K, hf, hc, h => by
    obtain ⟨tm', H', e, f, k⟩ := h d tm hf (by simpa only [codeOk] using hc) rfl
    exact ⟨.normal, tm', H', by simp only [ex, e], f, k⟩
  | .seq a b, tm, H, K, hf, hc, h => by
    simp only [codeOk, Bool.and_eq_true] at hc
    obtain ⟨e, tm1, H1, e1, f1, k1⟩ := wp_sound a hf hc.1 h
    simp only [ex, e1]
    cases e with
    | normal => exact wp_sound b f1 hc.2 k1
    | exit j => exact ⟨_, _, _, rfl, f1, k1⟩
    | ret => exact ⟨_, _, _, rfl, f1, k1⟩
  | .cond c a b, tm, H, K, hf, hc, h => by
    simp only [codeOk, Bool.and_eq_true] at hc
    simp only [wp] at h
    simp only [ex, ev_S]
    split at h
    · rename_i t ht
      rw [ht]
      cases t with
      | true => exact wp_sound a hf hc.1 (h.1 rfl)
      | false => exact wp_sound b hf hc.2 (h.2 rfl)
    · exact h.elim
  | .block id a, tm, H, K, hf, hc, h => by
    simp only [codeOk] at hc
    obtain ⟨e, tm1, H1, e1, f1, k1⟩ := wp_sound a hf hc h
    simp only [ex, e1]
    cases e with
    | normal => exact ⟨_, _, _, rfl, f1, k1⟩
    | exit j =>
      by_cases hj : j = id
      · simp only [hj, if_true] at k1 ⊢
        exact ⟨_, _, _, rfl, f1, k1⟩
      · simp only [hj, if_false] at k1 ⊢
        exact ⟨_, _, _, rfl, f1, k1⟩
    | ret => exact ⟨_, _, _, rfl, f1, k1⟩
  | .loop a, tm, H, K, hf, hc, h => by
    simp only [codeOk] at hc
    obtain ⟨I, ⟨n, hn, hi⟩, hs⟩ := h
    exact rounds_S (fun n tm H hf hi => wp_sound a hf hc (hs n tm.get H hi)) many n tm H hn hf hi
  | .exit id, tm, H, K, hf, _, h => ⟨_, _, _, rfl, hf, h⟩
  | .ret, tm, H, K, hf, _, h => ⟨_, _, _, rfl, hf, h⟩

/-- The loop's rule. -/
theorem wp_loop {env : Env} {a : ICode} {σ : Sig} {H : Heap} {K : Ex → Sig → Heap → Prop} (I : Nat → Sig → Heap → Prop) (n : Nat) (hn : n < many) (h0 : I n σ H)
    (hs : ∀ n σ H, I n σ H → wp env a σ H fun e σ H => match e with | .normal => ∃ m, m < n ∧ I m σ H | e => K e σ H) : wp env (.loop a) σ H K := ⟨I, ⟨n, hn, h0⟩, hs⟩

theorem wpS_mono {env : Env} : ∀ {l : List IStep} {σ : Sig} {H : Heap} {K K' : Sig → Heap → Prop}, (∀ σ H, K σ H → K' σ H) → wpS env l σ H K → wpS env l σ H K'
  | [], σ, H, K, K', hk, h => hk _ _ h
  | s :: r, σ, H, K, K', hk, h => by
    simp only [wpS] at h ⊢
    split at h
    · exact wpS_mono hk h
    · exact h.elim

theorem wp_mono {env : Env} : ∀ (code : ICode) {σ : Sig} {H : Heap} {K K' : Ex → Sig → Heap → Prop}, (∀ e σ H, K e σ H → K' e σ H) → wp env code σ H K → wp env code σ H K'
  | .skip, σ, H, K, K', hk, h => hk _ _ _ h
  | .ops l, σ, H, K, K', hk, h => wpS_mono (fun σ H => hk .normal σ H) h
  | .draw l, σ, H, K, K', hk, h => fun d tm hf hc hs => by
    obtain ⟨tm', H', e, f, k⟩ := h d tm hf hc hs
    exact ⟨tm', H', e, f, hk _ _ _ k⟩
  | .seq a b, σ, H, K, K', hk, h => by
    refine wp_mono a (fun e σ H h => ?_) h
    cases e with
    | normal => exact wp_mono b hk h
    | exit j => exact hk _ _ _ h
    | ret => exact hk _ _ _ h
  | .cond c a b, σ, H, K, K', hk, h => by
    simp only [wp] at h ⊢
    split at h
    · exact ⟨fun ht => wp_mono a hk (h.1 ht), fun ht => wp_mono b hk (h.2 ht)⟩
    · exact h.elim
  | .block id a, σ, H, K, K', hk, h => by
    refine wp_mono a (fun e σ H h => ?_) h
    cases e with
    | normal => exact hk _ _ _ h
    | exit j =>
      simp only at h ⊢
      split
      · rename_i hj; rw [if_pos hj] at h; exact hk _ _ _ h
      · rename_i hj; rw [if_neg hj] at h; exact hk _ _ _ h
    | ret => exact hk _ _ _ h
  | .loop a, σ, H, K, K', hk, h => by
    obtain ⟨I, h0, hs⟩ := h
    refine ⟨I, h0, fun n σ H hi => wp_mono a (fun e σ H h => ?_) (hs n σ H hi)⟩
    cases e with
    | normal => exact h
    | exit j => exact hk _ _ _ h
    | ret => exact hk _ _ _ h
  | .exit id, σ, H, K, K', hk, h => hk _ _ _ h
  | .ret, σ, H, K, K', hk, h => hk _ _ _ h

/-! ### From the precondition to runs of functions -/
def argSt : List AVal → Sig
  | [], _ => undefA
  | v :: r, n => if n = 0 then v else argSt r (n - 1)

theorem argSt_eq : ∀ (args : List AVal) (n : Nat), argSt args n = (args[n]?).getD undefA
  | [], n => by simp [argSt]
  | v :: r, n => by
    simp only [argSt]
    cases n with
    | zero => simp
    | succ n => simp [argSt_eq r n]

theorem setAll_getS : ∀ (args : List AVal) (tm : Tm) (d k : Nat), tm.full d → k + args.length + 1 ≤ 2 ^ d → ∀ m, ((tm.setAll k args).full d) ∧ (tm.setAll k args).get m = if m < k then tm.get m else (match args[m - k]? with | some v => v | none => tm.get m)
  | [], tm, d, k, hf, hk, m => by simp [Tm.setAll, hf]
  | v :: r, tm, d, k, hf, hk, m => by
    simp only [List.length_cons] at hk
    obtain ⟨h1, h2⟩ := setAll_getS r (tm.set k v) d (k + 1) (tm.full_set d k v hf) (by omega) m
    refine ⟨h1, ?_⟩
    simp only [Tm.setAll]
    rw [h2]
    by_cases hm : m < k
    · rw [if_pos (by omega), if_pos hm, Tm.get_set_ne _ _ _ _ (by omega)]
    · by_cases hm2 : m = k
      · subst hm2
        rw [if_pos (by omega), if_neg (by omega), Tm.get_set_same _ d _ _ hf (by omega)]
        simp
      · rw [if_neg (by omega), if_neg hm]
        have : m - k = (m - (k + 1)) + 1 := by omega
        rw [this, List.getElem?_cons_succ]
        cases r[m - (k + 1)]? with
        | some x => rfl
        | none => simp only; rw [Tm.get_set_ne _ _ _ _ (by omega)]

theorem start_S (d : Nat) (args : List AVal) (h : args.length + 1 ≤ 2 ^ d) : ((Tm.mk d).setAll 0 args).full d ∧ ((Tm.mk d).setAll 0 args).get = argSt args := by
  refine ⟨(setAll_getS args (Tm.mk d) d 0 (Tm.full_mk d) (by omega) 0).1, ?_⟩
  funext m
  rw [(setAll_getS args (Tm.mk d) d 0 (Tm.full_mk d) (by omega) m).2]
  simp only [Nat.not_lt_zero, if_false, Nat.sub_zero, argSt_eq, Tm.get_mk]
  cases args[m]? <;> rfl

def resS (σ : Sig) (H : Heap) : List IRes → Option (List AVal)
  | [] => some []
  | .tmp t :: r => match resS σ H r with
    | some l => some (σ t :: l)
    | none => none
  | .cell a agg n :: r => match loadA agg n (σ a) H, resS σ H r with
    | some v, some l => some (v :: l)
    | _, _ => none

theorem res_S (tm : Tm) (H : Heap) : ∀ r, resA tm H r = resS tm.get H r
  | [] => rfl
  | .tmp t :: r => by simp only [resA, resS, res_S tm H r] <;> rfl
  | .cell a agg n :: r => by simp only [resA, resS, res_S tm H r] <;> rfl

/-- The body's precondition. -/
def bodyW (env : Env) (fn : IFun) (args : List AVal) (H : Heap) (K : List AVal → Heap → Prop) : Prop :=
  wp env fn.body (argSt args) H fun e σ H' => match e with
    | .exit _ => False
    | _ => match resS σ H' fn.results with
      | some l => K l H'
      | none => False

theorem bodyA_of {env : Env} {fn : IFun} {args : List AVal} {H : Heap} {K : List AVal → Heap → Prop} (hd : codeOk (depthOf (fn.ntmps + args.length)) fn.body = true) (hl : args.length + 1 ≤ 2 ^ depthOf (fn.ntmps + args.length)) (h : bodyW env fn args H K) :
    ∃ l H', bodyA env fn args H = some (l, H') ∧ K l H' := by
  obtain ⟨hf, hg⟩ := start_S (depthOf (fn.ntmps + args.length)) args hl
  unfold bodyW at h
  rw [← hg] at h
  obtain ⟨e, tm', H', e1, f1, k1⟩ := wp_sound fn.body hf hd h
  unfold bodyA
  rw [e1]
  cases e with
  | exit j => exact k1.elim
  | normal =>
    simp only [res_S] at k1 ⊢
    split at k1
    · rename_i l hl; rw [hl]; exact ⟨l, H', rfl, k1⟩
    · exact k1.elim
  | ret =>
    simp only [res_S] at k1 ⊢
    split at k1
    · rename_i l hl; rw [hl]; exact ⟨l, H', rfl, k1⟩
    · exact k1.elim

/-- How deep the tree is where a function is called with so many arguments. -/
theorem runRaw_of {env : Env} {fn : IFun} {args : List AVal} {H : Heap} {r : AVal} {H' : Heap} (hd : codeOk (depthOf (fn.ntmps + args.length)) fn.body = true) (hl : args.length + 1 ≤ 2 ^ depthOf (fn.ntmps + args.length))
    (h : bodyW env fn args H fun l H1 => pack l = r ∧ H1 = H') : runRaw env fn args H = some (r, H') := by
  obtain ⟨l, H1, e, rfl, rfl⟩ := bodyA_of hd hl h
  simp only [runRaw, e]

theorem runPure_of {env : Env} {fn : IFun} {args : List AVal} {r : AVal} (hd : codeOk (depthOf (fn.ntmps + args.length)) fn.body = true) (hl : args.length + 1 ≤ 2 ^ depthOf (fn.ntmps + args.length)) (hp : AVal.pures args = true)
    (h : bodyW env fn args Heap.empty fun l H1 => match frzAll l H1 with | some (l', _) => AVal.pures l' = true ∧ pack l' = r | none => False) : runPure env fn args = some r := by
  obtain ⟨l, H1, e, k⟩ := bodyA_of hd hl h
  simp only [runPure, hp, if_true, e]
  split at k
  · rename_i l' _ hz
    simp only [hz, k.1, if_true, k.2]
  · exact k.elim

theorem runOwn_of {env : Env} {fn : IFun} {args : List AVal} {r : AVal} (hd : codeOk (depthOf (fn.ntmps + args.length)) fn.body = true) (hl : args.length + 1 ≤ 2 ^ depthOf (fn.ntmps + args.length)) (hp : AVal.pures args = true)
    (h : bodyW env fn args Heap.empty fun l H1 => match ownHead H1 l with | some l' => pack l' = r | none => False) : runOwn env fn args = some r := by
  obtain ⟨l, H1, e, k⟩ := bodyA_of hd hl h
  simp only [runOwn, hp, if_true, e]
  split at k
  · rename_i l' hz
    simp only [hz, k]
  · exact k.elim
end Go.Abx
