/- Steps of the abstract heap beside Go's memory. -/
import Derived.Test.YtmnbafbicjgjgaaDoorAbxM
namespace Go.Abx
open Go.RowKit
set_option linter.unusedVariables false
set_option linter.unusedSimpArgs false

theorem look_repl_same : ∀ (l : List (Nat × AObj)) (i : Nat) (o p : AObj), look l i = some p → look (repl l i o) i = some o
  | [], _, _, _, h => by cases h
  | (j, q) :: r, i, o, p, h => by
    simp only [repl]
    by_cases hj : j = i
    · simp [hj, look]
    · simp only [hj, if_false, look] at h ⊢; exact look_repl_same r i o p h
theorem look_repl_ne : ∀ (l : List (Nat × AObj)) (i k : Nat) (o : AObj), i ≠ k → look (repl l i o) k = look l k
  | [], _, _, _, _ => rfl
  | (j, q) :: r, i, k, o, h => by
    simp only [repl]
    by_cases hj : j = i
    · subst hj; simp only [if_true, look, if_neg h]; exact look_repl_ne r j k o h
    · simp only [hj, if_false, look]; split
      · rfl
      · exact look_repl_ne r i k o h
theorem look_erase_same : ∀ (l : List (Nat × AObj)) (i : Nat), look (erase l i) i = none
  | [], _ => rfl
  | (j, q) :: r, i => by
    simp only [erase]
    by_cases hj : j = i
    · simp [hj, look_erase_same r i]
    · simp [hj, look, look_erase_same r i]
theorem look_erase_ne : ∀ (l : List (Nat × AObj)) (i k : Nat), i ≠ k → look (erase l i) k = look l k
  | [], _, _, _ => rfl
  | (j, q) :: r, i, k, h => by
    simp only [erase]
    by_cases hj : j = i
    · subst hj; simp only [if_true, look, if_neg h]; exact look_erase_ne r j k h
    · simp only [hj, if_false, look]; split
      · rfl
      · exact look_erase_ne r i k h

theorem Heap.get_new (H : Heap) (o : AObj) : (H.new o).get H.next = some o := by simp [Heap.new, Heap.get, look]
theorem Heap.get_new_ne (H : Heap) (o : AObj) (i : Nat) (h : i ≠ H.next) : (H.new o).get i = H.get i := by simp [Heap.new, Heap.get, look, Ne.symm h]
theorem Heap.get_set (H : Heap) (i : Nat) (o p : AObj) (h : H.get i = some p) : (H.set i o).get i = some o := look_repl_same _ _ _ _ h
theorem Heap.get_set_ne (H : Heap) (i k : Nat) (o : AObj) (h : i ≠ k) : (H.set i o).get k = H.get k := look_repl_ne _ _ _ _ h
theorem Heap.get_drop (H : Heap) (i : Nat) : (H.drop i).get i = none := look_erase_same _ _
theorem Heap.get_drop_ne (H : Heap) (i k : Nat) (h : i ≠ k) : (H.drop i).get k = H.get k := look_erase_ne _ _ _ h

section
variable {c : Cx} {w0 : World} {base : Nat} {M : Mem} {ρ : Pl} {H : Heap} {w : World}

theorem HR.mem_lt (h : HR c w0 base M ρ H w) {b o : Nat} {u : Value} (hm : M b o = some u) : b < w.heap.size := by
  have := World.block_lt_of_cell? w _ (h.mem b o u hm)
  simpa using this
theorem HR.mem_none (h : HR c w0 base M ρ H w) {b : Nat} (hb : w.heap.size ≤ b) (o : Nat) : M b o = none := by
  cases hm : M b o with
  | none => rfl
  | some u => have := h.mem_lt hm; omega

/-- Nothing that is told has turned: the world has only grown, or drawn. -/
theorem HR.world (h : HR c w0 base M ρ H w) {w' : World} (hB : Below base w0 w') (hs : w.heap.size ≤ w'.heap.size) (hk : ∀ b, b < w.heap.size → w'.heap[b]? = w.heap[b]?) : HR c w0 base M ρ H w' where
  below := hB
  low := Nat.le_trans h.low hs
  tab := h.tab
  mem := fun b o u hm => (World.cell?_of_block (a := ⟨b, o, none⟩) (hk b (h.mem_lt hm))).trans (h.mem b o u hm)
  fresh := h.fresh
  obj := fun i o hi => by
    obtain ⟨b, sz, tot, h1, h2, h3, h4⟩ := h.obj i o hi
    exact ⟨b, sz, tot, h1, h2, Nat.lt_of_lt_of_le h3 hs, h4.mono (.refl _) (.refl _) (hk b h3) (fun _ hn => hn)⟩
  dist := h.dist

theorem HR.drew (h : HR c w0 base M ρ H w) : HR c w0 base M ρ H w.drew := h.world h.below.drew (Nat.le_refl _) fun _ _ => rfl
theorem HR.alloc (h : HR c w0 base M ρ H w) (o : Obj) : HR c w0 base M ρ H (w.alloc o) :=
  h.world (h.below.alloc h.low o) (by simp) fun b hb => heap_alloc_old w o b hb

theorem HR.drop (h : HR c w0 base M ρ H w) (i : Nat) : HR c w0 base M ρ (H.drop i) w where
  below := h.below
  low := h.low
  tab := h.tab
  mem := h.mem
  fresh := h.fresh
  obj := fun k o hk => by
    by_cases hi : i = k
    · subst hi; rw [Heap.get_drop] at hk; cases hk
    · rw [Heap.get_drop_ne H i k hi] at hk; exact h.obj k o hk
  dist := fun k j o p b s t s' t' hk hj h1 h2 => by
    by_cases hi : i = k
    · subst hi; rw [Heap.get_drop] at hk; cases hk
    · by_cases hi' : i = j
      · subst hi'; rw [Heap.get_drop] at hj; cases hj
      · rw [Heap.get_drop_ne H i k hi] at hk
        rw [Heap.get_drop_ne H i j hi'] at hj
        exact h.dist k j o p b s t s' t' hk hj h1 h2

/-- Of the abstract heap only what it tells counts. -/
theorem HR.ext (h : HR c w0 base M ρ H w) {H' : Heap} (hn : H'.next = H.next) (hg : ∀ k, H'.get k = H.get k) : HR c w0 base M ρ H' w where
  below := h.below
  low := h.low
  tab := h.tab
  mem := h.mem
  fresh := fun i p hp => by rw [hn]; exact h.fresh i p hp
  obj := fun i o hi => h.obj i o (by rw [← hg]; exact hi)
  dist := fun i j o p b s t s' t' hi hj h1 h2 => h.dist i j o p b s t s' t' (by rw [← hg]; exact hi) (by rw [← hg]; exact hj) h1 h2

/-- The places with one more. -/
def plNew (ρ : Pl) (n : Nat) (p : Nat × Nat × Nat) : Pl := fun i => if i = n then some p else ρ i
theorem plNew_le {ρ : Pl} {n : Nat} {p : Nat × Nat × Nat} (h : ρ n = none) : PLe ρ (plNew ρ n p) := fun i q hq => by
  unfold plNew
  split
  · rename_i e; subst e; rw [h] at hq; cases hq
  · exact hq
theorem HR.next_none (h : HR c w0 base M ρ H w) : ρ H.next = none := by
  cases hq : ρ H.next with
  | none => rfl
  | some p => have := h.fresh _ _ hq; omega

/-- An object is laid at a block (new, or of an object that has been dropped). -/
theorem HR.lay (h : HR c w0 base M ρ H w) (o : AObj) (b sz tot : Nat) (hb : base ≤ b) (hb2 : b < w.heap.size) (hO : OR c M (plNew ρ H.next (b, sz, tot)) w b sz tot o)
    (hd : ∀ i p s t, H.get i = some p → ρ i ≠ some (b, s, t)) : HR c w0 base M (plNew ρ H.next (b, sz, tot)) (H.new o) w where
  below := h.below
  low := h.low
  tab := h.tab
  mem := h.mem
  fresh := fun i p hp => by
    unfold plNew at hp
    split at hp
    · rename_i e; subst e; simp [Heap.new]
    · have := h.fresh i p hp; simp only [Heap.new]; omega
  obj := fun i p hp => by
    by_cases hi : i = H.next
    · subst hi
      rw [Heap.get_new] at hp
      cases hp
      exact ⟨b, sz, tot, by simp [plNew], hb, hb2, hO⟩
    · rw [Heap.get_new_ne H o i hi] at hp
      obtain ⟨b', s', t', h1, h2, h3, h4⟩ := h.obj i p hp
      exact ⟨b', s', t', by simp [plNew, hi, h1], h2, h3, h4.mono (.refl _) (plNew_le h.next_none) rfl (fun _ hn => hn)⟩
  dist := fun i j p q b' s t s' t' hi hj h1 h2 => by
    by_cases ei : i = H.next
    · by_cases ej : j = H.next
      · rw [ei, ej]
      · subst ei
        rw [Heap.get_new_ne H o j ej] at hj
        simp only [plNew, if_true, Option.some.injEq, Prod.mk.injEq] at h1
        simp only [plNew, if_neg ej] at h2
        exact absurd (h1.1 ▸ h2) (hd j q s' t' hj)
    · by_cases ej : j = H.next
      · subst ej
        rw [Heap.get_new_ne H o i ei] at hi
        simp only [plNew, if_true, Option.some.injEq, Prod.mk.injEq] at h2
        simp only [plNew, if_neg ei] at h1
        exact absurd (h2.1 ▸ h1) (hd i p s t hi)
      · rw [Heap.get_new_ne H o i ei] at hi
        rw [Heap.get_new_ne H o j ej] at hj
        simp only [plNew, if_neg ei] at h1
        simp only [plNew, if_neg ej] at h2
        exact h.dist i j p q b' s t s' t' hi hj h1 h2

theorem HR.lay_grows (h : HR c w0 base M ρ H w) (p : Nat × Nat × Nat) : Grows base M ρ M (plNew ρ H.next p) := ⟨.refl _, plNew_le h.next_none, fun _ _ _ => rfl⟩

/-- A new block, and a new object there. -/
theorem HR.new (h : HR c w0 base M ρ H w) (o : AObj) (x : Obj) (sz tot : Nat) (hO : OR c M (plNew ρ H.next (w.heap.size, sz, tot)) (w.alloc x) w.heap.size sz tot o) :
    HR c w0 base M (plNew ρ H.next (w.heap.size, sz, tot)) (H.new o) (w.alloc x) := by
  refine (h.alloc x).lay o w.heap.size sz tot h.low (by simp) hO fun i p s t hi hp => ?_
  obtain ⟨b, s', t', h1, h2, h3, h4⟩ := h.obj i p hi
  rw [h1] at hp
  simp only [Option.some.injEq, Prod.mk.injEq] at hp
  omega

/-- A block that no object has any more is written. -/
theorem HR.scribble (h : HR c w0 base M ρ H w) {b : Nat} (hno : ∀ i o s t, H.get i = some o → ρ i ≠ some (b, s, t)) {w' : World} (hB : Below base w0 w') (hs : w'.heap.size = w.heap.size) (hk : ∀ k, k ≠ b → w'.heap[k]? = w.heap[k]?)
    (hm : ∀ o u, M b o = some u → w'.cell? ⟨b, o, none⟩ = some u) : HR c w0 base M ρ H w' where
  below := hB
  low := by rw [hs]; exact h.low
  tab := h.tab
  mem := fun b' o' u hu => by
    by_cases e : b' = b
    · subst e; exact hm o' u hu
    · exact (World.cell?_of_block (a := ⟨b', o', none⟩) (hk b' e)).trans (h.mem b' o' u hu)
  fresh := h.fresh
  obj := fun j q hj => by
    obtain ⟨b', s', t', h1, h2, h3, h4⟩ := h.obj j q hj
    exact ⟨b', s', t', h1, h2, by rw [hs]; exact h3, h4.mono (.refl _) (.refl _) (hk b' fun eb => by subst eb; exact hno j q s' t' hj h1) (fun _ hn => hn)⟩
  dist := h.dist

/-- An object turns, and its block with it; nothing else. -/
theorem HR.turn (h : HR c w0 base M ρ H w) {i : Nat} {p : AObj} (hi : H.get i = some p) {b sz tot : Nat} (hp : ρ i = some (b, sz, tot)) (o : AObj) {w' : World} (hb : base ≤ b)
    (hB : Below base w0 w') (hs : w'.heap.size = w.heap.size) (hk : ∀ k, k ≠ b → w'.heap[k]? = w.heap[k]?) (hO : OR c M ρ w' b sz tot o) (hm : ∀ o u, M b o = some u → w'.cell? ⟨b, o, none⟩ = some u) :
    HR c w0 base M ρ (H.set i o) w' where
  below := hB
  low := by rw [hs]; exact h.low
  tab := h.tab
  mem := fun b' o' u hu => by
    by_cases e : b' = b
    · subst e; exact hm o' u hu
    · exact (World.cell?_of_block (a := ⟨b', o', none⟩) (hk b' e)).trans (h.mem b' o' u hu)
  fresh := h.fresh
  obj := fun j q hj => by
    by_cases e : i = j
    · subst e
      rw [Heap.get_set H i o p hi] at hj
      cases hj
      obtain ⟨b', s', t', h1, h2, h3, h4⟩ := h.obj i p hi
      rw [h1] at hp
      simp only [Option.some.injEq, Prod.mk.injEq] at hp
      obtain ⟨rfl, rfl, rfl⟩ := hp
      exact ⟨_, _, _, h1, h2, by rw [hs]; exact h3, hO⟩
    · rw [Heap.get_set_ne H i j o e] at hj
      obtain ⟨b', s', t', h1, h2, h3, h4⟩ := h.obj j q hj
      refine ⟨b', s', t', h1, h2, by rw [hs]; exact h3, h4.mono (.refl _) (.refl _) (hk b' fun eb => ?_) (fun _ hn => hn)⟩
      subst eb
      exact e (h.dist i j p q b' sz tot s' t' hi hj hp h1)
  dist := fun j k q r b' s t s' t' hj hk' h1 h2 => by
    have key : ∀ j q, (H.set i o).get j = some q → ∃ q', H.get j = some q' := fun j q hj => by
      by_cases e : i = j
      · subst e; exact ⟨p, hi⟩
      · rw [Heap.get_set_ne H i j o e] at hj; exact ⟨q, hj⟩
    obtain ⟨q', hq⟩ := key j q hj
    obtain ⟨r', hr⟩ := key k r hk'
    exact h.dist j k q' r' b' s t s' t' hq hr h1 h2
end

/-! ### Operands -/
theorem mVal_vr (c : Cx) (M : Mem) (ρ : Pl) : (∀ (a : AVal) (v : Value), mVal a v = true → VR c M ρ a v) := by
  intro a
  induction a using AVal.rec
    (motive_2 := fun l => ∀ vs, mVals l vs = true → l.length = vs.length ∧ ∀ (j : Nat) (x : AVal) (u : Value), l[j]? = some x → vs[j]? = some u → VR c M ρ x u) with
  | bool b => intro v h; cases v <;> simp [mVal] at h; subst h; exact .bool _
  | int k n => intro v h; cases v <;> simp [mVal] at h; obtain ⟨rfl, rfl⟩ := h; exact .int _ _
  | str l => intro v h; cases v <;> simp [mVal] at h; subst h; exact .str _
  | nilptr =>
    intro v h
    cases v with
    | pointer a => cases a with
      | none => exact .nilptr
      | some a => simp [mVal] at h
    | _ => simp [mVal] at h
  | nilsl =>
    intro v h
    cases v with
    | slice a n k => cases a with
      | none =>
        cases n with
        | zero => cases k with
          | zero => exact .nilsl
          | succ k => simp [mVal] at h
        | succ n => simp [mVal] at h
      | some a => simp [mVal] at h
    | _ => simp [mVal] at h
  | nilmap =>
    intro v h
    cases v with
    | map a => cases a with
      | none => exact .nilmap
      | some a => simp [mVal] at h
    | _ => simp [mVal] at h
  | nilfn =>
    intro v h
    cases v with
    | nilFunc => exact .nilfn
    | _ => simp [mVal] at h
  | nilif =>
    intro v h
    cases v with
    | nilIface => exact .nilif
    | _ => simp [mVal] at h
  | agg cs ih =>
    intro v h
    cases v <;> simp [mVal] at h
    rename_i arr
    obtain ⟨h1, h2⟩ := ih _ h.2
    exact .agg cs arr h.1 (by simpa using h1) (fun j x u hx hu => h2 j x u hx (by simpa using hu))
  | nil => rename_i vs h; cases vs <;> simp [mVals] at h; simp
  | cons a r iha ihr =>
    rename_i vs h
    cases vs <;> simp [mVals] at h
    obtain ⟨h1, h2⟩ := ihr _ h.2
    refine ⟨by simp [h1], fun j x u hx hu => ?_⟩
    cases j with
    | zero => simp at hx hu; subst hx; subst hu; exact iha _ h.1
    | succ j => exact h2 j x u (by simpa using hx) (by simpa using hu)
  | _ => intro v h; cases v <;> simp [mVal] at h

theorem ev_vr {c : Cx} {M : Mem} {ρ : Pl} {tm : Tm} {a : Act} (h : TR c M ρ tm a.tmps) {x : Operand} {x' : Opd} (hm : mOpd c x x' = true) : VR c M ρ (ev tm x') (a.eval x) := by
  cases x with
  | tmp t =>
    cases x' with
    | t n => simp [mOpd] at hm; subst hm; exact h.at_ t
    | c v => simp [mOpd] at hm
  | const v =>
    cases x' with
    | t n => simp [mOpd] at hm
    | c v' => exact mVal_vr c M ρ v' v (by simpa [mOpd] using hm)
  | func f =>
    cases x' with
    | t n => simp [mOpd] at hm
    | c v' =>
      cases v' <;> simp [mOpd] at hm
      rename_i g cs
      cases cs with
      | nil => simp [mOpd] at hm; exact .fn [] #[] hm rfl (by simp)
      | cons a r => simp [mOpd] at hm
  | global g => cases x' <;> simp [mOpd] at hm

end Go.Abx
