/- Regions that draw their order: what one order comes to all come to. -/
import Derived.Test.YtmnbafbicjgjgaaDoorAbxT2
namespace Go.Abx
set_option linter.unusedVariables false
set_option linter.unusedSimpArgs false

theorem beq_self (a : AVal) : a.beq a = true := by
  induction a using AVal.rec (motive_2 := fun l => AVal.beqs l l = true) <;> simp_all [AVal.beq, AVal.beqs]
theorem beqs_self : ∀ l : List AVal, AVal.beqs l l = true
  | [] => rfl
  | x :: r => by simp only [AVal.beqs, beq_self, beqs_self r, Bool.and_self]
theorem tmBeq_self : ∀ t : Tm, t.beq t = true
  | .leaf => rfl
  | .node v l r => by simp only [Tm.beq, beq_self, tmBeq_self l, tmBeq_self r, Bool.and_self]
theorem objBeq_self (o : AObj) : objBeq o o = true := by cases o <;> simp [objBeq, beqs_self]
theorem objsBeq_self : ∀ l : List (Nat × AObj), objsBeq l l = true
  | [] => rfl
  | (i, o) :: r => by simp [objsBeq, objBeq_self, objsBeq_self r]
theorem stBeq_self (x : Tm × Heap) : stBeq x x = true := by simp [stBeq, tmBeq_self, objsBeq_self]

theorem tm_ext : ∀ (d : Nat) (t t' : Tm), t.full d → t'.full d → t.get = t'.get → t = t'
  | 0, t, t', h, h', _ => by
    cases t with
    | leaf => cases t' with
      | leaf => rfl
      | node v l r => obtain ⟨e, he, _⟩ := h'; cases he
    | node v l r => obtain ⟨e, he, _⟩ := h; cases he
  | d + 1, t, t', h, h', hg => by
    cases t with
    | leaf => cases (show d + 1 = 0 from h)
    | node v l r =>
      cases t' with
      | leaf => cases (show d + 1 = 0 from h')
      | node v' l' r' =>
        obtain ⟨e, he, hl, hr⟩ := h
        obtain ⟨e', he', hl', hr'⟩ := h'
        have h1 : e = d := by omega
        have h2 : e' = d := by omega
        subst h1; subst h2
        have g0 : v = v' := by simpa [Tm.get] using congrFun hg 0
        have gl : l.get = l'.get := by
          funext k
          have := congrFun hg (2 * k + 1)
          have a1 : Nat.beq (2 * k + 1) 0 = false := rfl
          have a2 : Nat.mod (2 * k + 1) 2 = 1 := by show (2 * k + 1) % 2 = 1; omega
          have a3 : Nat.div (2 * k + 1) 2 = k := by show (2 * k + 1) / 2 = k; omega
          simpa [Tm.get, a1, a2, a3] using this
        have gr : r.get = r'.get := by
          funext k
          have := congrFun hg (2 * k + 2)
          have a1 : Nat.beq (2 * k + 2) 0 = false := rfl
          have a2 : Nat.mod (2 * k + 2) 2 = 0 := by show (2 * k + 2) % 2 = 0; omega
          have a3 : Nat.div (2 * k + 2) 2 = k + 1 := by show (2 * k + 2) / 2 = k + 1; omega
          have b0 : Nat.beq 0 1 = false := rfl
          simpa [Tm.get, a1, a2, a3, b0] using this
        rw [g0, tm_ext _ l l' hl hl' gl, tm_ext _ r r' hr hr' gr]

/-! ### What a step reads -/
def rdO : Opd → List Nat
  | .t n => [n]
  | .c _ => []
def rdOpt : Option Opd → List Nat
  | some x => rdO x
  | none => []
def readsOp : IOp → List Nat
  | .mv x => rdO x
  | .pick c a b => rdO c ++ rdO a ++ rdO b
  | .box sz x => rdO x
  | .load agg n x => rdO x
  | .store n a x => rdO a ++ rdO x
  | .nilCheck x => rdO x
  | .bin op k x y => rdO x ++ rdO y
  | .un op x => rdO x
  | .conv k x => rdO x
  | .mkIface t x => rdO x
  | .mkSlice z sz bytes l c => rdO l ++ rdO c
  | .fieldAddr off x => rdO x
  | .field off agg n x => rdO x
  | .indexAddr arr sz x i => rdO x ++ rdO i
  | .index arr x i => rdO x ++ rdO i
  | .lookup kk z m k ok => rdO m ++ rdO k
  | .mapUpdate kk m k v => rdO m ++ rdO k ++ rdO v
  | .extract x i => rdO x
  | .len k x => rdO x
  | .cap x => rdO x
  | .appendZ z sz bytes s n => rdO s ++ rdO n
  | .max x y => rdO x ++ rdO y
  | .min x y => rdO x ++ rdO y
  | .append sz bytes s x => rdO s ++ rdO x
  | .copy sz d x => rdO d ++ rdO x
  | .build _ ps => ps.flatMap fun p => rdO p.2.2
  | .buildSlice _ _ _ ps => ps.flatMap fun p => rdO p.2
  | .mkFunc _ l => l.flatMap rdO
  | .slice _ _ x lo hi mx => rdO x ++ (rdOpt lo ++ (rdOpt hi ++ rdOpt mx))
  | .call _ _ args => args.flatMap rdO
  | .callv f _ args => rdO f ++ args.flatMap rdO
  | _ => []

theorem evS_agree {σ σ' : Sig} (x : Opd) (h : ∀ n ∈ rdO x, σ n = σ' n) : evS σ x = evS σ' x := by
  cases x with
  | t n => exact h n (List.mem_singleton.2 rfl)
  | c v => rfl

theorem exOpS_agree {env : Env} {σ σ' : Sig} {H : Heap} : ∀ (op : IOp), (∀ n ∈ readsOp op, σ n = σ' n) → exOpS env σ H op = exOpS env σ' H op :=
  have E : ∀ x, (∀ n ∈ rdO x, σ n = σ' n) → evS σ x = evS σ' x := fun x h => evS_agree x h
  fun
  | .mv x, h => by simp only [exOpS, E x (fun n hn => h n (by simp only [readsOp, List.mem_append]; simp only [hn, true_or, or_true]))]
  | .pick c a b, h => by simp only [exOpS, E c (fun n hn => h n (by simp only [readsOp, List.mem_append]; simp only [hn, true_or, or_true])), E a (fun n hn => h n (by simp only [readsOp, List.mem_append]; simp only [hn, true_or, or_true])), E b (fun n hn => h n (by simp only [readsOp, List.mem_append]; simp only [hn, true_or, or_true]))]
  | .box sz x, h => by simp only [exOpS, E x (fun n hn => h n (by simp only [readsOp, List.mem_append]; simp only [hn, true_or, or_true]))]
  | .load agg n x, h => by simp only [exOpS, E x (fun n hn => h n (by simp only [readsOp, List.mem_append]; simp only [hn, true_or, or_true]))]
  | .store n a x, h => by simp only [exOpS, E a (fun n hn => h n (by simp only [readsOp, List.mem_append]; simp only [hn, true_or, or_true])), E x (fun n hn => h n (by simp only [readsOp, List.mem_append]; simp only [hn, true_or, or_true]))]
  | .nilCheck x, h => by simp only [exOpS, E x (fun n hn => h n (by simp only [readsOp, List.mem_append]; simp only [hn, true_or, or_true]))]
  | .bin op k x y, h => by simp only [exOpS, E x (fun n hn => h n (by simp only [readsOp, List.mem_append]; simp only [hn, true_or, or_true])), E y (fun n hn => h n (by simp only [readsOp, List.mem_append]; simp only [hn, true_or, or_true]))]
  | .un op x, h => by simp only [exOpS, E x (fun n hn => h n (by simp only [readsOp, List.mem_append]; simp only [hn, true_or, or_true]))]
  | .conv k x, h => by simp only [exOpS, E x (fun n hn => h n (by simp only [readsOp, List.mem_append]; simp only [hn, true_or, or_true]))]
  | .mkIface t x, h => by simp only [exOpS, E x (fun n hn => h n (by simp only [readsOp, List.mem_append]; simp only [hn, true_or, or_true]))]
  | .mkSlice z sz bytes l c, h => by simp only [exOpS, E l (fun n hn => h n (by simp only [readsOp, List.mem_append]; simp only [hn, true_or, or_true])), E c (fun n hn => h n (by simp only [readsOp, List.mem_append]; simp only [hn, true_or, or_true]))]
  | .fieldAddr off x, h => by simp only [exOpS, E x (fun n hn => h n (by simp only [readsOp, List.mem_append]; simp only [hn, true_or, or_true]))]
  | .field off agg n x, h => by simp only [exOpS, E x (fun n hn => h n (by simp only [readsOp, List.mem_append]; simp only [hn, true_or, or_true]))]
  | .indexAddr arr sz x i, h => by simp only [exOpS, E x (fun n hn => h n (by simp only [readsOp, List.mem_append]; simp only [hn, true_or, or_true])), E i (fun n hn => h n (by simp only [readsOp, List.mem_append]; simp only [hn, true_or, or_true]))]
  | .index arr x i, h => by simp only [exOpS, E x (fun n hn => h n (by simp only [readsOp, List.mem_append]; simp only [hn, true_or, or_true])), E i (fun n hn => h n (by simp only [readsOp, List.mem_append]; simp only [hn, true_or, or_true]))]
  | .lookup kk z m k ok, h => by simp only [exOpS, E m (fun n hn => h n (by simp only [readsOp, List.mem_append]; simp only [hn, true_or, or_true])), E k (fun n hn => h n (by simp only [readsOp, List.mem_append]; simp only [hn, true_or, or_true]))]
  | .mapUpdate kk m k v, h => by simp only [exOpS, E m (fun n hn => h n (by simp only [readsOp, List.mem_append]; simp only [hn, true_or, or_true])), E k (fun n hn => h n (by simp only [readsOp, List.mem_append]; simp only [hn, true_or, or_true])), E v (fun n hn => h n (by simp only [readsOp, List.mem_append]; simp only [hn, true_or, or_true]))]
  | .extract x i, h => by simp only [exOpS, E x (fun n hn => h n (by simp only [readsOp, List.mem_append]; simp only [hn, true_or, or_true]))]
  | .len k x, h => by simp only [exOpS, E x (fun n hn => h n (by simp only [readsOp, List.mem_append]; simp only [hn, true_or, or_true]))]
  | .cap x, h => by simp only [exOpS, E x (fun n hn => h n (by simp only [readsOp, List.mem_append]; simp only [hn, true_or, or_true]))]
  | .appendZ z sz bytes s n, h => by simp only [exOpS, E s (fun n hn => h n (by simp only [readsOp, List.mem_append]; simp only [hn, true_or, or_true])), E n (fun n hn => h n (by simp only [readsOp, List.mem_append]; simp only [hn, true_or, or_true]))]
  | .max x y, h => by simp only [exOpS, E x (fun n hn => h n (by simp only [readsOp, List.mem_append]; simp only [hn, true_or, or_true])), E y (fun n hn => h n (by simp only [readsOp, List.mem_append]; simp only [hn, true_or, or_true]))]
  | .min x y, h => by simp only [exOpS, E x (fun n hn => h n (by simp only [readsOp, List.mem_append]; simp only [hn, true_or, or_true])), E y (fun n hn => h n (by simp only [readsOp, List.mem_append]; simp only [hn, true_or, or_true]))]
  | .append sz bytes s x, h => by simp only [exOpS, E s (fun n hn => h n (by simp only [readsOp, List.mem_append]; simp only [hn, true_or, or_true])), E x (fun n hn => h n (by simp only [readsOp, List.mem_append]; simp only [hn, true_or, or_true]))]
  | .copy sz d x, h => by simp only [exOpS, E d (fun n hn => h n (by simp only [readsOp, List.mem_append]; simp only [hn, true_or, or_true])), E x (fun n hn => h n (by simp only [readsOp, List.mem_append]; simp only [hn, true_or, or_true]))]
  | .build z ps, h => by
    have : (ps.map fun p => (p.1, p.2.1, evS σ p.2.2)) = ps.map fun p => (p.1, p.2.1, evS σ' p.2.2) := List.map_congr_left fun p hp => by
      rw [E p.2.2 fun n hn => h n (List.mem_flatMap.2 ⟨p, hp, hn⟩)]
    simp only [exOpS, this]
  | .buildSlice z sz len ps, h => by
    have : (ps.map fun p => (p.1, evS σ p.2)) = ps.map fun p => (p.1, evS σ' p.2) := List.map_congr_left fun p hp => by
      rw [E p.2 fun n hn => h n (List.mem_flatMap.2 ⟨p, hp, hn⟩)]
    simp only [exOpS, this]
  | .mkFunc f l, h => by
    have : l.map (evS σ) = l.map (evS σ') := List.map_congr_left fun p hp => E p fun n hn => h n (List.mem_flatMap.2 ⟨p, hp, hn⟩)
    simp only [exOpS, this]
  | .call g m l, h => by
    have : l.map (evS σ) = l.map (evS σ') := List.map_congr_left fun p hp => E p fun n hn => h n (List.mem_flatMap.2 ⟨p, hp, hn⟩)
    simp only [exOpS, this]
  | .callv f m l, h => by
    have : l.map (evS σ) = l.map (evS σ') := List.map_congr_left fun p hp => E p fun n hn => h n (List.mem_append.2 (.inr (List.mem_flatMap.2 ⟨p, hp, hn⟩)))
    simp only [exOpS, this, E f fun n hn => h n (List.mem_append.2 (.inl hn))]
  | .slice str sz x lo hi mx, h => by
    have O : ∀ o, (∀ n ∈ rdOpt o, σ n = σ' n) → Option.map (evS σ) o = Option.map (evS σ') o := fun o ho => by
      cases o with
      | none => rfl
      | some y => exact congrArg some (E y ho)
    simp only [exOpS, E x (fun n hn => h n (by simp only [readsOp, List.mem_append, hn, true_or])), O lo (fun n hn => h n (by simp only [readsOp, List.mem_append, hn, true_or, or_true])), O hi (fun n hn => h n (by simp only [readsOp, List.mem_append, hn, true_or, or_true])), O mx (fun n hn => h n (by simp only [readsOp, List.mem_append, hn, or_true]))]
  | .alloc .., h => rfl
  | .mkMap, h => rfl
  | .stop, h => rfl
  | .delete .., h => rfl

def readsStep : IStep → List Nat
  | .op (some g) _ op => g.1 :: readsOp op
  | .op none _ op => readsOp op
  | _ => []
def isOp : IStep → Bool
  | .op .. => true
  | _ => false
def dstS : IStep → Option Nat
  | .op _ d _ => d
  | _ => none
def valS (env : Env) (s : IStep) (σ : Sig) (H : Heap) : Option (AVal × Heap) :=
  match s with
  | .op g _ op => match wantedS σ g with
    | some true => exOpS env σ H op
    | some false => some (undefA, H)
    | none => none
  | _ => none

theorem step_val {env : Env} {s : IStep} {σ : Sig} {H H' : Heap} {v : AVal} (h : valS env s σ H = some (v, H')) : exStepS env s σ H = some (putS σ (dstS s) v, H') := by
  cases s with
  | op g d op =>
    simp only [valS, exStepS, dstS] at h ⊢
    split at h
    · rename_i h1; simp only [h1, h]
    · rename_i h1
      simp only [Option.some.injEq, Prod.mk.injEq] at h
      obtain ⟨rfl, rfl⟩ := h
      simp only [h1]
    · cases h
  | _ => simp [valS] at h

theorem valS_agree {env : Env} {s : IStep} {σ σ' : Sig} {H : Heap} (h : ∀ n ∈ readsStep s, σ n = σ' n) : valS env s σ H = valS env s σ' H := by
  cases s with
  | op g d op =>
    cases g with
    | none => simp only [valS, wantedS]; exact exOpS_agree op h
    | some g =>
      obtain ⟨t, w⟩ := g
      have ht : σ t = σ' t := h t (List.mem_cons_self ..)
      simp only [valS, wantedS, ht, exOpS_agree (env := env) (H := H) op fun n hn => h n (List.mem_cons_of_mem _ hn)]
  | _ => rfl

/-- A quiet step taken with an empty heap is what it is with any. -/
theorem quiet_any {env : Env} {σ : Sig} {op : IOp} {v : AVal} {H1 : Heap} (hq : quiet op = true) (h : exOpS env σ Heap.empty op = some (v, H1)) (H : Heap) : exOpS env σ H op = some (v, H) := by
  have he : ∀ i, Heap.empty.get i = none := fun i => rfl
  have hs : ∀ sz x, stride Heap.empty sz x = true → stride H sz x = true := fun sz x hx => by
    cases x <;> simp_all [stride]
  have vl : ∀ {o : Option AVal}, val Heap.empty o = some (v, H1) → val H o = some (v, H) := fun {o} ho => by
    cases o with
    | none => cases ho
    | some x => simp only [val, Option.some.injEq, Prod.mk.injEq] at ho ⊢; exact ⟨ho.1, trivial⟩
  cases op <;> simp only [quiet, Bool.false_eq_true] at hq
  case mv x => simp only [exOpS, Option.some.injEq, Prod.mk.injEq] at h ⊢; exact ⟨h.1, trivial⟩
  case pick c a b =>
    simp only [exOpS] at h ⊢
    split at h
    · simp only [Option.some.injEq, Prod.mk.injEq] at h ⊢; exact ⟨h.1, trivial⟩
    · cases h
  case load agg n x =>
    simp only [exOpS] at h ⊢
    refine vl (o := loadA agg n (evS σ x) H) ?_
    rw [← h]
    cases hx : evS σ x
    case ptr id i c =>
      rw [hx] at h
      simp [loadA, he, val] at h
    all_goals rfl
  case bin o k x y => exact vl h
  case conv k x =>
    cases k <;> simp only [Bool.false_eq_true] at hq
    simp only [exOpS, convA] at h ⊢
    have hel : elems Heap.empty (evS σ x) = elems H (evS σ x) := by
      cases hx : evS σ x
      case hs id a b c => rw [hx] at h; simp [elems, he] at h
      all_goals rfl
    rw [hel] at h
    split at h
    · split at h
      · rename_i hb
        simp only [Option.some.injEq, Prod.mk.injEq] at h
        simp only [Option.some.injEq, Prod.mk.injEq]
        exact ⟨h.1, trivial⟩
      · cases h
    · cases h
  case fieldAddr off x =>
    simp only [exOpS] at h ⊢
    split at h
    · simp only [Option.some.injEq, Prod.mk.injEq] at h ⊢; exact ⟨h.1, trivial⟩
    · simp only [Option.some.injEq, Prod.mk.injEq] at h ⊢; exact ⟨h.1, trivial⟩
    · cases h
  case indexAddr arr sz x i =>
    simp only [exOpS] at h ⊢
    cases hst : stride Heap.empty sz (evS σ x) with
    | false => simp [hst] at h
    | true =>
      rw [hst] at h
      rw [hs _ _ hst]
      exact vl h
  case max x y =>
    simp only [exOpS] at h ⊢
    split at h
    · simp only [Option.some.injEq, Prod.mk.injEq] at h ⊢; exact ⟨h.1, trivial⟩
    · cases h
  case min x y =>
    simp only [exOpS] at h ⊢
    split at h
    · simp only [Option.some.injEq, Prod.mk.injEq] at h ⊢; exact ⟨h.1, trivial⟩
    · cases h

/-! ### The region -/
def depsAt (l : List (List Nat × IStep)) (i : Nat) : List Nat := ((l[i]?).map (·.1)).getD []

/-- One step is behind another one, by way of few. -/
def reach (l : List (List Nat × IStep)) : Nat → Nat → Nat → Bool
  | 0, i, j => (depsAt l j).contains i
  | f + 1, i, j => (depsAt l j).contains i || (depsAt l j).any fun k => reach l f i k

/-- Flags: 0 does not look at the heap, 1 looks at it, 2 turns it. -/
def regionOk (l : List (List Nat × IStep)) (fl : List Nat) : Bool :=
  (List.range l.length).all fun i =>
    isOp (stepAt l i) && ((depsAt l i).all fun j => Nat.blt j i) &&
    ((List.range l.length).all fun j => Nat.beq i j ||
      ((match dstS (stepAt l j) with
        | none => true
        | some m => (!(readsStep (stepAt l i)).contains m || (depsAt l i).contains j || reach l 3 i j) && (match dstS (stepAt l i) with | none => true | some k => !Nat.beq k m)) &&
       (!Nat.blt i j || Nat.beq (fl.getD i 0) 0 || Nat.beq (fl.getD j 0) 0 || (Nat.ble (fl.getD i 0) 1 && Nat.ble (fl.getD j 0) 1) || reach l 3 i j))) &&
    (match dstS (stepAt l i) with | none => true | some m => !(readsStep (stepAt l i)).contains m)

/-- The steps one behind the other. -/
def wpC (env : Env) (l : List (List Nat × IStep)) (fl : List Nat) : Nat → Nat → Sig → Heap → (Sig → Heap → Prop) → Prop
  | 0, _, σ, H, K => K σ H
  | m + 1, i, σ, H, K => match fl.getD i 0 with
    | 0 => ∃ v, (∀ H', valS env (stepAt l i) σ H' = some (v, H')) ∧ wpC env l fl m (i + 1) (putS σ (dstS (stepAt l i)) v) H K
    | 1 => ∃ v, valS env (stepAt l i) σ H = some (v, H) ∧ wpC env l fl m (i + 1) (putS σ (dstS (stepAt l i)) v) H K
    | _ => ∃ v H', valS env (stepAt l i) σ H = some (v, H') ∧ wpC env l fl m (i + 1) (putS σ (dstS (stepAt l i)) v) H' K

section
variable {env : Env} {l : List (List Nat × IStep)} {fl : List Nat} {d : Nat}

/-- One step of the row. -/
def Rel (env : Env) (l : List (List Nat × IStep)) (fl : List Nat) (S : Nat → Sig) (G : Nat → Heap) (V : Nat → AVal) (j : Nat) : Prop :=
  S (j + 1) = putS (S j) (dstS (stepAt l j)) (V j) ∧ (fl.getD j 0 ≤ 1 → G (j + 1) = G j) ∧ (fl.getD j 0 = 0 → ∀ H', valS env (stepAt l j) (S j) H' = some (V j, H')) ∧ valS env (stepAt l j) (S j) (G j) = some (V j, G (j + 1))

theorem wpC_seq : ∀ (m i : Nat) {σ : Sig} {H : Heap} {K : Sig → Heap → Prop}, wpC env l fl m i σ H K →
    ∃ (S : Nat → Sig) (G : Nat → Heap) (V : Nat → AVal), S i = σ ∧ G i = H ∧ (∀ j, i ≤ j → j < i + m → Rel env l fl S G V j) ∧ K (S (i + m)) (G (i + m))
  | 0, i, σ, H, K, h => ⟨fun _ => σ, fun _ => H, fun _ => undefA, rfl, rfl, fun j h1 h2 => by omega, h⟩
  | m + 1, i, σ, H, K, h => by
    have go : ∀ (v : AVal) (H1 : Heap), (fl.getD i 0 ≤ 1 → H1 = H) → (fl.getD i 0 = 0 → ∀ H', valS env (stepAt l i) σ H' = some (v, H')) → valS env (stepAt l i) σ H = some (v, H1) → wpC env l fl m (i + 1) (putS σ (dstS (stepAt l i)) v) H1 K →
        ∃ (S : Nat → Sig) (G : Nat → Heap) (V : Nat → AVal), S i = σ ∧ G i = H ∧ (∀ j, i ≤ j → j < i + (m + 1) → Rel env l fl S G V j) ∧ K (S (i + (m + 1))) (G (i + (m + 1))) := by
      intro v H1 h1 h2 h3 h4
      obtain ⟨S, G, V, e1, e2, e3, e4⟩ := wpC_seq m (i + 1) h4
      refine ⟨fun j => if j = i then σ else S j, fun j => if j = i then H else G j, fun j => if j = i then v else V j, by simp, by simp, fun j hj hj2 => ?_, ?_⟩
      · by_cases hji : j = i
        · subst hji
          have n1 : j + 1 ≠ j := by omega
          refine ⟨?_, ?_, ?_, ?_⟩ <;> simp only [n1, if_false, if_true, e1, e2]
          · exact fun hf => h1 hf
          · exact fun hf => h2 hf
          · exact h3
        · have n1 : j + 1 ≠ i := by omega
          have := e3 j (by omega) (by omega)
          unfold Rel at this ⊢
          simp only [hji, n1, if_false]
          exact this
      · have n1 : i + (m + 1) ≠ i := by omega
        simp only [n1, if_false]
        have : i + 1 + m = i + (m + 1) := by omega
        rw [← this]; exact e4
    simp only [wpC] at h
    split at h
    · rename_i hf
      obtain ⟨v, h1, h2⟩ := h
      exact go v H (fun _ => rfl) (fun _ => h1) (h1 H) h2
    · rename_i hf
      obtain ⟨v, h1, h2⟩ := h
      exact go v H (fun _ => rfl) (fun h => by omega) h1 h2
    · rename_i hf0 hf1
      obtain ⟨v, H1, h1, h2⟩ := h
      exact go v H1 (fun h => by
        have a0 : ¬ fl.getD i 0 = 0 := hf0
        have a1 : ¬ fl.getD i 0 = 1 := hf1
        omega) (fun h => (hf0 h).elim) h1 h2

structure Checks (l : List (List Nat × IStep)) (fl : List Nat) : Prop where
  op : ∀ i, i < l.length → isOp (stepAt l i) = true
  before : ∀ i j, i < l.length → j ∈ depsAt l i → j < i
  own : ∀ i m, i < l.length → dstS (stepAt l i) = some m → m ∉ readsStep (stepAt l i)
  read : ∀ i j m, i < l.length → j < l.length → i ≠ j → dstS (stepAt l j) = some m → m ∈ readsStep (stepAt l i) → j ∈ depsAt l i ∨ reach l 3 i j = true
  dist : ∀ i j m, i < l.length → j < l.length → i ≠ j → dstS (stepAt l j) = some m → dstS (stepAt l i) ≠ some m
  heap : ∀ i j, i < j → j < l.length → 1 ≤ fl.getD i 0 → 1 ≤ fl.getD j 0 → (2 ≤ fl.getD i 0 ∨ 2 ≤ fl.getD j 0) → reach l 3 i j = true

theorem checks_of (h : regionOk l fl = true) : Checks l fl := by
  have at_ : ∀ i, i < l.length → _ := fun i hi => List.all_eq_true.1 h i (List.mem_range.2 hi)
  simp only [Bool.and_eq_true] at at_
  have pair : ∀ i j, i < l.length → j < l.length → i ≠ j → _ := fun i j hi hj hne => List.all_eq_true.1 (at_ i hi).1.2 j (List.mem_range.2 hj)
  simp only [Bool.or_eq_true, Bool.and_eq_true] at pair
  refine ⟨fun i hi => (at_ i hi).1.1.1, fun i j hi hj => ?_, fun i m hi hm hr => ?_, fun i j m hi hj hne hm hr => ?_, fun i j m hi hj hne hm hk => ?_, fun i j hij hj h1 h2 h3 => ?_⟩
  · have := List.all_eq_true.1 (at_ i hi).1.1.2 j hj
    exact Nat.le_of_ble_eq_true this
  · have := (at_ i hi).2
    rw [hm] at this
    simp only [Bool.not_eq_true', List.contains_iff_mem] at this
    simp [hr] at this
  · rcases pair i j hi hj hne with h0 | ⟨h0, _⟩
    · exact absurd (Nat.eq_of_beq_eq_true h0) hne
    · rw [hm] at h0
      simp only [Bool.and_eq_true, Bool.or_eq_true] at h0
      rcases h0.1 with (h4 | h4) | h4
      · simp [hr] at h4
      · exact .inl (by simpa using h4)
      · exact .inr h4
  · rcases pair i j hi hj hne with h0 | ⟨h0, _⟩
    · exact absurd (Nat.eq_of_beq_eq_true h0) hne
    · rw [hm, hk] at h0
      simp at h0
  · have hi : i < l.length := by omega
    rcases pair i j hi hj (by omega) with h0 | ⟨_, h0⟩
    · have := Nat.eq_of_beq_eq_true h0; omega
    · rcases h0 with (((h0 | h0) | h0) | h0) | h0
      · simp at h0; have : Nat.blt i j = true := by simpa using hij
        simp [this] at h0
      · have := Nat.eq_of_beq_eq_true h0; omega
      · have := Nat.eq_of_beq_eq_true h0; omega
      · have a := Nat.le_of_ble_eq_true h0.1
        have b := Nat.le_of_ble_eq_true h0.2
        omega
      · exact h0
end

section
variable {env : Env} {l : List (List Nat × IStep)} {fl : List Nat} {d : Nat} {S : Nat → Sig} {G : Nat → Heap} {V : Nat → AVal} {listed : List Bool} {tm : Tm} {H : Heap}

structure Inv (l : List (List Nat × IStep)) (fl : List Nat) (d : Nat) (S : Nat → Sig) (G : Nat → Heap) (V : Nat → AVal) (listed : List Bool) (tm : Tm) (H : Heap) : Prop where
  full : tm.full d
  len : listed.length = l.length
  closed : ∀ i j, i < l.length → listed.getD i false = true → j ∈ depsAt l i → listed.getD j false = true
  old : ∀ m, (∀ i, i < l.length → listed.getD i false = true → dstS (stepAt l i) ≠ some m) → tm.get m = S 0 m
  new : ∀ i m, i < l.length → listed.getD i false = true → dstS (stepAt l i) = some m → tm.get m = V i
  heap : ∀ k, k ≤ l.length → (∀ i, i < l.length → 2 ≤ fl.getD i 0 → (listed.getD i false = true ↔ i < k)) → H = G k

theorem reach_listed (hc : Checks l fl) (hcl : ∀ i j, i < l.length → listed.getD i false = true → j ∈ depsAt l i → listed.getD j false = true) : ∀ (f i j : Nat), j < l.length → reach l f i j = true → (∀ k, k ∈ depsAt l j → listed.getD k false = true) → listed.getD i false = true
  | 0, i, j, hj, h, hd => hd i (by simpa [reach] using h)
  | f + 1, i, j, hj, h, hd => by
    simp only [reach, Bool.or_eq_true, List.any_eq_true] at h
    rcases h with h | ⟨k, hk, h⟩
    · exact hd i (by simpa using h)
    · have hkj := hc.before j k hj hk
      exact reach_listed hc hcl f i k (by omega) h fun m hm => hcl k m (by omega) (hd k hk) hm

theorem val_old (hR : ∀ j, j < l.length → Rel env l fl S G V j) : ∀ k, k ≤ l.length → ∀ m, (∀ i, i < k → dstS (stepAt l i) ≠ some m) → S k m = S 0 m
  | 0, _, m, _ => rfl
  | k + 1, hk, m, h => by
    rw [(hR k (by omega)).1, ← val_old hR k (by omega) m fun i hi => h i (by omega)]
    have := h k (by omega)
    cases hd : dstS (stepAt l k) with
    | none => rfl
    | some n => rw [hd] at this; exact upd_ne _ _ _ _ fun e => this (by rw [e])

theorem val_new (hc : Checks l fl) (hR : ∀ j, j < l.length → Rel env l fl S G V j) : ∀ k, k ≤ l.length → ∀ i m, i < k → dstS (stepAt l i) = some m → S k m = V i
  | 0, _, i, m, hi, _ => by omega
  | k + 1, hk, i, m, hi, hd => by
    rw [(hR k (by omega)).1]
    by_cases hik : i = k
    · subst hik; rw [hd]; exact upd_same _ _ _
    · rw [← val_new hc hR k (by omega) i m (by omega) hd]
      have := hc.dist k i m (by omega) (by omega) (fun e => hik e.symm) hd
      cases hdk : dstS (stepAt l k) with
      | none => rfl
      | some n => rw [hdk] at this; exact upd_ne _ _ _ _ fun e => this (by rw [e])

theorem heap_const (hR : ∀ j, j < l.length → Rel env l fl S G V j) : ∀ (n a : Nat), a + n ≤ l.length → (∀ j, a ≤ j → j < a + n → fl.getD j 0 ≤ 1) → G (a + n) = G a
  | 0, a, _, _ => rfl
  | n + 1, a, hn, h => by
    have := (hR (a + n) (by omega)).2.1 (h (a + n) (by omega) (by omega))
    rw [show a + (n + 1) = a + n + 1 by omega, this, heap_const hR n a (by omega) fun j h1 h2 => h j h1 (by omega)]

theorem reach_lt (hc : Checks l fl) : ∀ (f i j : Nat), j < l.length → reach l f i j = true → i < j
  | 0, i, j, hj, h => hc.before j i hj (by simpa [reach] using h)
  | f + 1, i, j, hj, h => by
    simp only [reach, Bool.or_eq_true, List.any_eq_true] at h
    rcases h with h | ⟨k, hk, h⟩
    · exact hc.before j i hj (by simpa using h)
    · have h1 := hc.before j k hj hk
      have h2 := reach_lt hc f i k (by omega) h
      omega

theorem Inv.agree (hc : Checks l fl) (hR : ∀ j, j < l.length → Rel env l fl S G V j) (hI : Inv l fl d S G V listed tm H) {i : Nat} (hi : i < l.length) (hu : listed.getD i false = false) (hd : ∀ j, j ∈ depsAt l i → listed.getD j false = true) :
    ∀ m ∈ readsStep (stepAt l i), tm.get m = S i m := by
  intro m hm
  by_cases hex : ∃ j, j < l.length ∧ dstS (stepAt l j) = some m
  · obtain ⟨j, hj, hdj⟩ := hex
    have hne : i ≠ j := fun e => by subst e; exact hc.own i m hi hdj hm
    rcases hc.read i j m hi hj hne hdj hm with hdep | hre
    · rw [hI.new j m hj (hd j hdep) hdj, val_new hc hR i (by omega) j m (hc.before i j hi hdep) hdj]
    · have hij := reach_lt hc 3 i j hj hre
      have only : ∀ a, a < l.length → dstS (stepAt l a) = some m → a = j := fun a ha hda => Decidable.byContradiction fun hne2 => hc.dist a j m ha hj hne2 hdj hda
      have e1 : tm.get m = S 0 m := hI.old m fun a ha hla hda => by
        have haj := only a ha hda
        rw [haj] at hla
        have := reach_listed hc hI.closed 3 i j hj hre fun k hk => hI.closed j k hj hla hk
        rw [hu] at this
        cases this
      have e2 : S i m = S 0 m := val_old hR i (by omega) m fun a ha hda => by
        have := only a (by omega) hda
        omega
      rw [e1, e2]
  · rw [hI.old m fun j hj _ hdj => hex ⟨j, hj, hdj⟩, val_old hR i (by omega) m fun j hj hdj => hex ⟨j, by omega, hdj⟩]

theorem stepAt_ok {l : List (List Nat × IStep)} {d : Nat} (h : (l.all fun p => dstOk d p.2) = true) (i : Nat) : dstOk d (stepAt l i) = true := by
  unfold stepAt
  cases hi : l[i]? with
  | none => rfl
  | some p => exact List.all_eq_true.1 h p (List.mem_of_getElem? hi)

theorem getD_set (i j : Nat) (hi : i < listed.length) : (listed.set i true).getD j false = if j = i then true else listed.getD j false := by
  by_cases h : j = i
  · subst h; simp [hi]
  · simp [List.getD, List.getElem?_set_ne (fun e => h e.symm), h]

theorem Inv.exec (hc : Checks l fl) (hR : ∀ j, j < l.length → Rel env l fl S G V j) (hd : (l.all fun p => dstOk d p.2) = true) (hI : Inv l fl d S G V listed tm H) {i : Nat} (hi : i < l.length) (hu : listed.getD i false = false)
    (hr : ∀ j, j ∈ depsAt l i → listed.getD j false = true) : ∃ tm' H', exStep env (stepAt l i) tm H = some (tm', H') ∧ Inv l fl d S G V (listed.set i true) tm' H' := by
  have hag := hI.agree hc hR hi hu hr
  have hlen : i < listed.length := by rw [hI.len]; exact hi
  have hwr : ∀ j, j < l.length → 2 ≤ fl.getD j 0 → 1 ≤ fl.getD i 0 → j ≠ i → (listed.getD j false = true ↔ j < i) := by
    intro j hj h2 h1 hne
    constructor
    · intro hl
      apply Decidable.byContradiction
      intro hlt
      have := reach_listed hc hI.closed 3 i j hj (hc.heap i j (by omega) hj h1 (by omega) (.inr h2)) fun k hk => hI.closed j k hj hl hk
      rw [hu] at this; cases this
    · intro hlt
      exact reach_listed hc hI.closed 3 j i hi (hc.heap j i hlt hi (by omega) h1 (.inl h2)) hr
  have hGi : 1 ≤ fl.getD i 0 → H = G i := fun h1 => hI.heap i (by omega) fun j hj h2 => by
    by_cases hne : j = i
    · subst hne; rw [hu]; simp
    · exact hwr j hj h2 h1 hne
  obtain ⟨H', hv, hH⟩ : ∃ H', valS env (stepAt l i) tm.get H = some (V i, H') ∧ ((fl.getD i 0 ≤ 1 ∧ H' = H) ∨ (2 ≤ fl.getD i 0 ∧ H' = G (i + 1))) := by
    obtain ⟨r1, r2, r3, r4⟩ := hR i hi
    rw [valS_agree hag]
    by_cases h0 : fl.getD i 0 = 0
    · exact ⟨H, r3 h0 H, .inl ⟨by omega, rfl⟩⟩
    · rw [hGi (by omega)]
      by_cases h1 : fl.getD i 0 ≤ 1
      · exact ⟨G i, by rw [r4, r2 h1], .inl ⟨h1, rfl⟩⟩
      · exact ⟨G (i + 1), r4, .inr ⟨by omega, rfl⟩⟩
  obtain ⟨tm', e1, f1, g1⟩ := step_S hI.full (stepAt_ok hd i) (step_val hv)
  refine ⟨tm', H', e1, f1, by rw [List.length_set]; exact hI.len, fun a b ha hla hb => ?_, fun m hm => ?_, fun a m ha hla hda => ?_, fun k hk hw => ?_⟩
  · rw [getD_set i b hlen]
    rw [getD_set i a hlen] at hla
    by_cases hb2 : b = i
    · rw [if_pos hb2]
    · rw [if_neg hb2]
      by_cases ha2 : a = i
      · subst ha2; exact hr b hb
      · rw [if_neg ha2] at hla; exact hI.closed a b ha hla hb
  · rw [g1]
    have h1 : dstS (stepAt l i) ≠ some m := hm i hi (by rw [getD_set i i hlen, if_pos rfl])
    have h2 : tm.get m = S 0 m := hI.old m fun a ha hla => hm a ha (by
      rw [getD_set i a hlen]
      by_cases e : a = i
      · rw [if_pos e]
      · rw [if_neg e]; exact hla)
    cases hdi : dstS (stepAt l i) with
    | none => exact h2
    | some n => rw [hdi] at h1; show upd tm.get n (V i) m = _; rw [upd_ne _ _ _ _ fun e => h1 (by rw [e])]; exact h2
  · rw [g1]
    by_cases hai : a = i
    · subst hai; rw [hda]; exact upd_same _ _ _
    · rw [getD_set i a hlen, if_neg hai] at hla
      have h1 := hc.dist i a m hi ha (fun e => hai e.symm) hda
      have h2 := hI.new a m ha hla hda
      cases hdi : dstS (stepAt l i) with
      | none => exact h2
      | some n => rw [hdi] at h1; show upd tm.get n (V i) m = _; rw [upd_ne _ _ _ _ fun e => h1 (by rw [e])]; exact h2
  · rcases hH with ⟨h1, rfl⟩ | ⟨h2, rfl⟩
    · refine hI.heap k hk fun a ha h2 => ?_
      have hai : a ≠ i := fun e => by subst e; omega
      have := hw a ha h2
      rw [getD_set i a hlen, if_neg hai] at this
      exact this
    · have hik : i < k := (hw i hi h2).1 (by rw [getD_set i i hlen, if_pos rfl])
      have := heap_const hR (k - (i + 1)) (i + 1) (by omega) fun j h3 h4 => by
        apply Decidable.byContradiction
        intro h5
        have hji : j ≠ i := by omega
        have h6 := (hw j (by omega) (by omega)).2 (by omega)
        rw [getD_set i j hlen, if_neg hji] at h6
        have := (hwr j (by omega) (by omega) (by omega) hji).1 h6
        omega
      rw [show i + 1 + (k - (i + 1)) = k by omega] at this
      exact this.symm

theorem quietV_step {s : IStep} {tm tm' : Tm} {H : Heap} (h : quietV env s tm = some tm') : exStep env s tm H = some (tm', H) := by
  cases s with
  | op g dst op =>
    simp only [quietV, exStep] at h ⊢
    split at h
    · rename_i hw
      split at h
      · rename_i hq
        split at h
        · rename_i v H1 he
          rw [exOp_S] at he
          have := quiet_any hq he H
          simp only [hw, exOp_S, this]
          simpa using h
        · cases h
      · cases h
    · simpa using h
    · cases h
  | _ => simp [quietV] at h

theorem mem_ready {i : Nat} : i ∈ readyA l listed ↔ i < l.length ∧ listed.getD i true = false ∧ ∀ j ∈ depsAt l i, listed.getD j false = true := by
  simp only [readyA, List.mem_filter, List.mem_range, Bool.and_eq_true, Bool.not_eq_true', depsAt]
  constructor
  · rintro ⟨h1, h2, h3⟩
    refine ⟨h1, h2, ?_⟩
    have : l[i]? = some l[i] := List.getElem?_eq_getElem h1
    rw [this] at h3 ⊢
    simpa using h3
  · rintro ⟨h1, h2, h3⟩
    refine ⟨h1, h2, ?_⟩
    have : l[i]? = some l[i] := List.getElem?_eq_getElem h1
    rw [this] at h3 ⊢
    simpa using h3

theorem getD_tf {i : Nat} (hi : i < listed.length) : listed.getD i true = listed.getD i false := by simp [List.getD, hi]

theorem count_set {i : Nat} (hi : i < listed.length) (hu : listed.getD i false = false) : (listed.set i true).count false + 1 = listed.count false := by
  induction listed generalizing i with
  | nil => simp at hi
  | cons b r ih =>
    cases i with
    | zero =>
      have : b = false := by simpa [List.getD] using hu
      subst this
      simp
    | succ i =>
      have := ih (i := i) (by simpa using hi) (by simpa [List.getD] using hu)
      simp only [List.set_cons_succ, List.count_cons]
      omega

theorem all_listed : ∀ (L : List Bool), L.count false = 0 → ∀ i, i < L.length → L.getD i false = true
  | b :: r, h, i, hi => by
    simp only [List.count_cons] at h
    cases i with
    | zero => cases b <;> simp_all
    | succ i =>
      have := all_listed r (by omega) i (by simpa using hi)
      simpa [List.getD] using this

theorem exists_unlisted : ∀ (L : List Bool), L.count false ≠ 0 → ∃ i, i < L.length ∧ L.getD i false = false ∧ ∀ j, j < i → L.getD j false = true
  | [], h => by simp at h
  | false :: r, h => ⟨0, by simp, by simp, fun j hj => by omega⟩
  | true :: r, h => by
    obtain ⟨i, h1, h2, h3⟩ := exists_unlisted r (by simpa using h)
    refine ⟨i + 1, by simpa using h1, by simpa [List.getD] using h2, fun j hj => ?_⟩
    cases j with
    | zero => simp
    | succ j => have := h3 j (by omega); simpa [List.getD] using this

theorem draw_main (hc : Checks l fl) (hR : ∀ j, j < l.length → Rel env l fl S G V j) (hd : (l.all fun p => dstOk d p.2) = true) : ∀ (fuel : Nat) (listed : List Bool) (tm : Tm) (H : Heap), Inv l fl d S G V listed tm H → listed.count false = fuel →
    ∃ tm', exDraw env l fuel listed tm H = some (tm', G l.length) ∧ tm'.full d ∧ tm'.get = S l.length
  | 0, listed, tm, H, hI, hn => by
    have hall := all_listed listed hn
    have hemp : readyA l listed = [] := List.eq_nil_iff_forall_not_mem.2 fun i hi => by
      obtain ⟨h1, h2, _⟩ := mem_ready.1 hi
      rw [getD_tf (by rw [hI.len]; exact h1), hall i (by rw [hI.len]; exact h1)] at h2
      cases h2
    have hH : H = G l.length := hI.heap _ (Nat.le_refl _) fun i hi _ => ⟨fun _ => hi, fun _ => hall i (by rw [hI.len]; exact hi)⟩
    subst hH
    refine ⟨tm, by simp [exDraw, hemp], hI.full, ?_⟩
    funext m
    by_cases hex : ∃ j, j < l.length ∧ dstS (stepAt l j) = some m
    · obtain ⟨j, hj, hdj⟩ := hex
      rw [hI.new j m hj (hall j (by rw [hI.len]; exact hj)) hdj, val_new hc hR _ (Nat.le_refl _) j m hj hdj]
    · rw [hI.old m fun j hj _ hdj => hex ⟨j, hj, hdj⟩, val_old hR _ (Nat.le_refl _) m fun j hj hdj => hex ⟨j, hj, hdj⟩]
  | fuel + 1, listed, tm, H, hI, hn => by
    have ready : ∀ j, j ∈ readyA l listed → j < l.length ∧ listed.getD j false = false ∧ ∀ a ∈ depsAt l j, listed.getD a false = true := fun j hj => by
      obtain ⟨h1, h2, h3⟩ := mem_ready.1 hj
      exact ⟨h1, by rw [← getD_tf (by rw [hI.len]; exact h1)]; exact h2, h3⟩
    have cnt : ∀ j, j ∈ readyA l listed → (listed.set j true).count false = fuel := fun j hj => by
      obtain ⟨h1, h2, _⟩ := ready j hj
      have := count_set (listed := listed) (by rw [hI.len]; exact h1) h2
      omega
    obtain ⟨i0, h1, h2, h3⟩ := exists_unlisted listed (by omega)
    have hi0 : i0 ∈ readyA l listed := mem_ready.2 ⟨by rw [← hI.len]; exact h1, by rw [getD_tf h1]; exact h2, fun j hj => h3 j (hc.before i0 j (by rw [← hI.len]; exact h1) hj)⟩
    simp only [exDraw]
    cases hrd : readyA l listed with
    | nil => rw [hrd] at hi0; cases hi0
    | cons i r =>
      simp only
      rw [hrd] at ready cnt
      cases hq : firstQuiet env l tm (i :: r) with
      | some p =>
        obtain ⟨j, tm'⟩ := p
        obtain ⟨hj, hqv⟩ := firstQuiet_mem (i :: r) hq
        obtain ⟨r1, r2, r3⟩ := ready j hj
        obtain ⟨tm2, H2, e2, I2⟩ := hI.exec hc hR hd r1 r2 r3
        rw [quietV_step (H := H) hqv] at e2
        simp only [Option.some.injEq, Prod.mk.injEq] at e2
        obtain ⟨rfl, rfl⟩ := e2
        exact draw_main hc hR hd fuel _ _ _ I2 (cnt j hj)
      | none =>
        simp only
        have one : ∀ j, j ∈ i :: r → ∃ tm2 H2 tm3, exStep env (stepAt l j) tm H = some (tm2, H2) ∧ exDraw env l fuel (listed.set j true) tm2 H2 = some (tm3, G l.length) ∧ tm3.full d ∧ tm3.get = S l.length := fun j hj => by
          obtain ⟨r1, r2, r3⟩ := ready j hj
          obtain ⟨tm2, H2, e2, I2⟩ := hI.exec hc hR hd r1 r2 r3
          obtain ⟨tm3, e3, f3, g3⟩ := draw_main hc hR hd fuel _ _ _ I2 (cnt j hj)
          exact ⟨tm2, H2, tm3, e2, e3, f3, g3⟩
        obtain ⟨tm2, H2, tm3, e2, e3, f3, g3⟩ := one i (List.mem_cons_self ..)
        simp only [e2, e3]
        have hall : (r.all fun j => match exStep env (stepAt l j) tm H with
            | some (tm', H') => (match exDraw env l fuel (listed.set j true) tm' H' with | some f => stBeq f (tm3, G l.length) | none => false)
            | none => false) = true := List.all_eq_true.2 fun j hj => by
          obtain ⟨tm4, H4, tm5, e4, e5, f5, g5⟩ := one j (List.mem_cons_of_mem _ hj)
          have : tm5 = tm3 := tm_ext d _ _ f5 f3 (by rw [g5, g3])
          subst this
          simp only [e4, e5, stBeq_self]
        refine ⟨tm3, ?_, f3, g3⟩
        split
        · rfl
        · rename_i hneg; exact absurd hall hneg

theorem draw_C (fl : List Nat) {σ : Sig} {K : Sig → Heap → Prop} (hok : regionOk l fl = true) (h : wpC env l fl l.length 0 σ H K) : drawW env l σ H K := by
  intro d tm hf hd hs
  obtain ⟨S, G, V, e1, e2, e3, e4⟩ := wpC_seq l.length 0 h
  have hc := checks_of hok
  have hR : ∀ j, j < l.length → Rel env l fl S G V j := fun j hj => e3 j (by omega) (by omega)
  have hl : ∀ i, (List.replicate l.length false).getD i false = false := fun i => by
    simp only [List.getD, List.getElem?_replicate]
    split <;> rfl
  have hI : Inv l fl d S G V (List.replicate l.length false) tm H := by
    refine ⟨hf, by simp, fun i j hi hli => ?_, fun m _ => by rw [hs, e1], fun i m hi hli => ?_, fun k hk hw => ?_⟩
    · rw [hl] at hli; cases hli
    · rw [hl] at hli; cases hli
    · have := heap_const hR k 0 (by omega) fun j h1 h2 => by
        apply Decidable.byContradiction
        intro h3
        have := (hw j (by omega) (by omega)).2 (by omega)
        rw [hl] at this; cases this
      rw [Nat.zero_add] at this
      rw [this, e2]
  obtain ⟨tm', e, f, g⟩ := draw_main hc hR hd l.length _ tm H hI (by simp)
  rw [Nat.zero_add] at e4
  exact ⟨tm', _, e, f, by rw [g]; exact e4⟩
end
end Go.Abx
