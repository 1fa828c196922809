/- Regions that draw their order. -/
import Derived.Test.YtmnbafbicjgjgaaDoorAbxR
namespace Go.Abx
open Go.RowKit
set_option linter.unusedVariables false
set_option linter.unusedSimpArgs false

theorem beq_eq : ∀ (a b : AVal), a.beq b = true → a = b := by
  intro a
  induction a using AVal.rec (motive_2 := fun l => ∀ m, AVal.beqs l m = true → l = m) with
  | nil => rename_i m h; cases m <;> simp [AVal.beqs] at h; rfl
  | cons a r iha ihr =>
    rename_i m h
    cases m <;> simp [AVal.beqs] at h
    rw [iha _ h.1, ihr _ h.2]
  | pimm cs off ih => intro b h; cases b <;> simp [AVal.beq] at h; rw [ih _ h.2, h.1]
  | vs es sz cap ih => intro b h; cases b <;> simp [AVal.beq] at h; rw [ih _ h.2, h.1.1, h.1.2]
  | fn f cs ih => intro b h; cases b <;> simp [AVal.beq] at h; rw [ih _ h.2, h.1]
  | iface t v ih => intro b h; cases b <;> simp [AVal.beq] at h; rw [ih _ h.2, h.1]
  | agg cs ih => intro b h; cases b <;> simp [AVal.beq] at h; rw [ih _ h]
  | tup cs ih => intro b h; cases b <;> simp [AVal.beq] at h; rw [ih _ h]
  | _ => intro b h; cases b <;> simp_all [AVal.beq]

theorem beqs_eq : ∀ (a b : List AVal), AVal.beqs a b = true → a = b
  | [], b, h => by cases b <;> simp [AVal.beqs] at h; rfl
  | x :: a, b, h => by
    cases b <;> simp [AVal.beqs] at h
    rw [beq_eq _ _ h.1, beqs_eq a _ h.2]

theorem tmBeq_eq : ∀ (a b : Tm), a.beq b = true → a = b := by
  intro a
  induction a with
  | leaf => intro b h; cases b <;> simp [Tm.beq] at h; rfl
  | node v l r ihl ihr =>
    intro b h
    cases b <;> simp [Tm.beq] at h
    rw [beq_eq _ _ h.1, ihl _ h.2.1, ihr _ h.2.2]

theorem zip_eq : ∀ (a b : List (AVal × AVal)), a.map (·.1) = b.map (·.1) → a.map (·.2) = b.map (·.2) → a = b
  | [], b, h, _ => by cases b <;> simp at h; rfl
  | x :: a, b, h, k => by
    cases b <;> simp at h k
    rw [zip_eq a _ h.2 k.2]
    rw [Prod.ext h.1 k.1]

theorem objBeq_eq {a b : AObj} (h : objBeq a b = true) : a = b := by
  cases a <;> cases b <;> simp [objBeq] at h
  · obtain ⟨⟨⟨rfl, rfl⟩, rfl⟩, h4⟩ := h
    rw [beqs_eq _ _ h4]
  · rw [zip_eq _ _ (beqs_eq _ _ h.1) (beqs_eq _ _ h.2)]

theorem objsBeq_eq : ∀ (a b : List (Nat × AObj)), objsBeq a b = true → a = b
  | [], b, h => by cases b <;> simp [objsBeq] at h; rfl
  | (i, x) :: a, b, h => by
    cases b with
    | nil => simp [objsBeq] at h
    | cons y b =>
      obtain ⟨j, y⟩ := y
      simp [objsBeq] at h
      rw [objsBeq_eq a b h.2, objBeq_eq h.1.2, h.1.1]

theorem stBeq_eq {x y : Tm × Heap} (h : stBeq x y = true) : x = y := by
  obtain ⟨t, n, l⟩ := x
  obtain ⟨t', n', l'⟩ := y
  simp [stBeq] at h
  rw [tmBeq_eq _ _ h.1.1, h.1.2, objsBeq_eq _ _ h.2]

section
variable {P : Program} {c : Cx} {w0 : World} {base N : Nat} {env : Env} {ops : Array Oper} {l : List (List Nat × IStep)} {Q : Exit → Act → World → Prop}

theorem wpAnyH_weaken {md : Region.Mode} {S S' : World → Prop} (hs : ∀ w, S' w → S w) : ∀ (fuel : Nat) (listed : Array Bool) (a : Act) (w : World), wpAnyH P md ops Q S' fuel listed a w → wpAnyH P md ops Q S fuel listed a w
  | 0, _, _, _, h => h
  | fuel + 1, _, _, _, h => ⟨h.1, fun i hi => wpOp_mono (fun a' w' h' => ⟨hs _ h'.1, wpAnyH_weaken hs fuel _ a' w' h'.2⟩) (h.2 i hi)⟩

theorem draw_at : ∀ (L : List Oper) (l : List (List Nat × IStep)), mDraw P c N ops L l = true → L.length = l.length ∧ ∀ (i : Nat) (o : Oper), L[i]? = some o → ∃ pre g dst io, l[i]? = some (pre, .op g dst io) ∧ mGuard ops o g = true ∧ o.dst = dst ∧ dst.all (· < N) = true ∧ mOp P c o io = true ∧
    (∀ j, j ∈ binding o ↔ j ∈ pre)
  | [], l, h => by
    cases l with
    | nil => exact ⟨rfl, fun i o ho => by simp at ho⟩
    | cons p r => simp [mDraw] at h
  | o :: L, l, h => by
    cases l with
    | nil => simp [mDraw] at h
    | cons p r =>
      obtain ⟨pre, s⟩ := p
      cases s with
      | op g dst io =>
        simp only [mDraw, Bool.and_eq_true, beq_iff_eq] at h
        obtain ⟨⟨⟨⟨⟨⟨m1, m2⟩, m3⟩, m4⟩, m5⟩, m6⟩, m7⟩ := h
        obtain ⟨k1, k2⟩ := draw_at L r m7
        refine ⟨by simp [k1], fun i o' ho => ?_⟩
        cases i with
        | zero =>
          simp at ho; subst ho
          refine ⟨pre, g, dst, io, rfl, m1, m2, m3, m4, fun j => ⟨fun hj => ?_, fun hj => ?_⟩⟩
          · simpa using List.all_eq_true.1 m5 j hj
          · simpa using List.all_eq_true.1 m6 j hj
        | succ i => exact k2 i o' (by simpa using ho)
      | _ => simp [mDraw] at h

theorem mem_binding {o : Oper} {j : Nat} : j ∈ binding o ↔ ∃ e ∈ o.after, Region.binds .any e = true ∧ e.on = j := by
  simp [binding, and_assoc]

theorem getD_list (L : Array Bool) (i : Nat) (d : Bool) : L.getD i d = L.toList.getD i d := by
  simp [Array.getD_eq_getD_getElem?, List.getD_eq_getElem?_getD]

theorem ready_eq (hd : mDraw P c N ops ops.toList l = true) (L : Array Bool) : Region.ready .any ops L = readyA l L.toList := by
  obtain ⟨h1, h2⟩ := draw_at _ _ hd
  unfold Region.ready readyA
  rw [← h1, Array.length_toList]
  apply List.filter_congr
  intro i hi
  have hlt : i < ops.size := by simpa using hi
  obtain ⟨pre, g, dst, io, k1, _, _, _, _, k2⟩ := h2 i ops[i] (by simp [hlt])
  rw [k1, getD_list]
  simp only [Array.getElem?_eq_getElem hlt, Option.map_some, Option.getD_some]
  congr 1
  rw [Bool.eq_iff_iff, Array.all_eq_true_iff_forall_mem, List.all_eq_true]
  constructor
  · intro h j hj
    obtain ⟨e, he, hb, rfl⟩ := mem_binding.1 ((k2 j).2 hj)
    have := h e he
    rw [hb] at this
    simpa [getD_list] using this
  · intro h e he
    cases hb : Region.binds .any e with
    | false => rfl
    | true =>
      have := h e.on ((k2 _).1 (mem_binding.2 ⟨e, he, hb, rfl⟩))
      simpa [getD_list] using this

theorem firstQuiet_mem {tm tm' : Tm} {j : Nat} : ∀ (r : List Nat), firstQuiet env l tm r = some (j, tm') → j ∈ r ∧ quietV env (stepAt l j) tm = some tm'
  | [], h => by simp [firstQuiet] at h
  | i :: r, h => by
    simp only [firstQuiet] at h
    split at h
    · rename_i t ht
      simp only [Option.some.injEq, Prod.mk.injEq] at h
      obtain ⟨rfl, rfl⟩ := h
      exact ⟨List.mem_cons_self .., ht⟩
    · obtain ⟨h1, h2⟩ := firstQuiet_mem r h
      exact ⟨List.mem_cons_of_mem _ h1, h2⟩

theorem apart_at (hap : apartAll ops = true) {i j : Nat} {x y : Oper} (hx : ops[i]? = some x) (hy : ops[j]? = some y) :
    (∀ cs b, x.op ≠ .select cs b) ∧ (i = j ∨ i ∈ binding y ∨ j ∈ binding x ∨ x.apart ops y = true) := by
  unfold apartAll at hap
  have h1 := List.all_eq_true.1 hap (x, i) (by rw [List.mem_zipIdx_iff_getElem?]; simpa using hx)
  simp only [Bool.and_eq_true] at h1
  have h2 := List.all_eq_true.1 h1.2 (y, j) (by rw [List.mem_zipIdx_iff_getElem?]; simpa using hy)
  simp only [Bool.or_eq_true, beq_iff_eq, List.contains_iff_mem] at h2
  refine ⟨fun cs b he => ?_, ?_⟩
  · have := h1.1; rw [he] at this; simp at this
  · rcases h2 with ((h | h) | h) | h
    · exact .inl h
    · exact .inr (.inl h)
    · exact .inr (.inr (.inl h))
    · exact .inr (.inr (.inr h))

theorem draw_ok (he : EnvOk P c env) (hQp : ∀ ch a w, ¬ Q (.panic ch) a w) (hap : apartAll ops = true) (hd : mDraw P c N ops ops.toList l = true) : ∀ (fuel : Nat) (L : Array Bool) (tm : Tm) (H : Heap) (a : Act) (w : World) (M : Mem) (ρ : Pl) (fin : Tm × Heap),
    exDraw env l fuel L.toList tm H = some fin → St c w0 base N M ρ tm H a w → (∀ a' w' M' ρ', Grows base M ρ M' ρ' → St c w0 base N M' ρ' fin.1 fin.2 a' w' → Q .normal a' w') → wpAnyH P .any ops Q (SM M) fuel L a w
  | 0, L, tm, H, a, w, M, ρ, fin, hx, hS, hQ => by
    simp only [exDraw] at hx
    split at hx
    case isFalse => cases hx
    rename_i hr
    cases hx
    exact ⟨by rw [ready_eq hd]; simpa using hr, hQ a w M ρ (.refl _ _ _) hS⟩
  | fuel + 1, L, tm, H, a, w, M, ρ, fin, hx, hS, hQ => by
    obtain ⟨hlen, hat⟩ := draw_at _ _ hd
    have hre := ready_eq hd L
    simp only [exDraw] at hx
    split at hx
    · rename_i hr
      cases hx
      exact wpAnyH_done (by rw [hre, hr]) (hQ a w M ρ (.refl _ _ _) hS) _
    · rename_i i r hr
      have hmem : ∀ j, j ∈ i :: r → j ∈ Region.ready .any ops L := fun j hj => by rw [hre, hr]; exact hj
      have hset : ∀ j, (L.setIfInBounds j true).toList = L.toList.set j true := fun j => by simp
      split at hx
      · -- one that may be taken first
        rename_i j tm1 hfq
        obtain ⟨hj, hqv⟩ := firstQuiet_mem _ hfq
        have hrj := hmem j hj
        obtain ⟨hjun, oj, hoj, hall⟩ := mem_ready.1 hrj
        obtain ⟨pre, g, dst, io, k1, k2, k3, k4, k5, k6⟩ := hat j oj (by simpa using hoj)
        have hst : stepAt l j = .op g dst io := by simp [stepAt, k1]
        rw [hst] at hqv
        have main : ∃ u v, tm1 = putT tm oj.dst v ∧ VR c M ρ v u ∧ YieldsIf P ops (SM M) oj u a := by
          simp only [quietV] at hqv
          split at hqv
          · rename_i hw
            split at hqv
            case isFalse => cases hqv
            rename_i hq
            split at hqv
            case h_2 => cases hqv
            rename_i v H1 hop
            cases hqv
            obtain ⟨u, h1, h2⟩ := quiet_ok hq k5 hop hS.t hS.h.fresh hS.h.tab w hS.h.mem
            exact ⟨u, v, by rw [k3], h1, .inl ⟨wanted_ok k2 hw hS.t, h2⟩⟩
          · rename_i hw
            cases hqv
            exact ⟨undef, undefA, by rw [k3], undef_vr _ _ _, .inr ⟨wanted_ok k2 hw hS.t, rfl⟩⟩
          · cases hqv
        obtain ⟨u, v, rfl, hv, hy⟩ := main
        refine wpAnyH_first hoj (fun i' o' cs b ho' => (apart_at hap ho' ho').1 cs b) (fun ch a w h => absurd h (hQp ch _ w)) fuel L a w (fun i' oi' hoi' hne hun hno => ?_) hrj hy hS.h.mem ?_
        · rcases (apart_at hap hoj hoi').2 with h | h | h | h
          · exact absurd h.symm hne
          · obtain ⟨e, he', hb, hon⟩ := mem_binding.1 h
            exact absurd hon (hno e he' hb)
          · obtain ⟨e, he', hb, rfl⟩ := mem_binding.1 h
            have h1 := hall e he' hb
            rw [Array.getD_eq_getD_getElem?] at h1 hun
            cases hq : L[e.on]? with
            | none => rw [hq] at hun; cases hun
            | some z => rw [hq] at h1 hun; simp only [Option.getD_some] at h1 hun; rw [h1] at hun; cases hun
          · exact h
        · exact draw_ok he hQp hap hd fuel _ _ H _ w M ρ fin (by rw [hset]; exact hx) (hS.put (k3 ▸ k4) (.refl _ _ _) hS.h hv) hQ
      · -- whichever comes up
        split at hx
        case h_2 => cases hx
        rename_i tm1 H1 h1
        split at hx
        case h_2 => cases hx
        rename_i fin1 h2
        split at hx
        case isFalse => cases hx
        rename_i hrest
        cases hx
        have one : ∀ j, j ∈ i :: r → ∃ tmj Hj, exStep env (stepAt l j) tm H = some (tmj, Hj) ∧ exDraw env l fuel (L.toList.set j true) tmj Hj = some fin := by
          intro j hj
          rcases List.mem_cons.1 hj with rfl | hj
          · exact ⟨tm1, H1, h1, h2⟩
          · have := List.all_eq_true.1 hrest j hj
            split at this
            case h_2 => cases this
            rename_i tmj Hj hs
            split at this
            case h_2 => cases this
            rename_i f hf
            exact ⟨tmj, Hj, hs, by rw [hf, stBeq_eq this]⟩
        refine wpAnyH_all (hre.trans hr) (by simp) fun j hj => ?_
        obtain ⟨tmj, Hj, hs, hf⟩ := one j hj
        obtain ⟨_, oj, hoj, _⟩ := mem_ready.1 (hmem j hj)
        obtain ⟨pre, g, dst, io, k1, k2, k3, k4, k5, k6⟩ := hat j oj (by simpa using hoj)
        have hst : stepAt l j = .op g dst io := by simp [stepAt, k1]
        rw [hst] at hs
        refine step_ok he hoj k2 k3 k4 k5 hs hS fun a' w' M' ρ' hg hS' => ⟨fun b o u hu => hS'.h.mem b o u (hg.m b o u hu), ?_⟩
        refine wpAnyH_weaken (S' := SM M') (fun w hw b o u hu => hw b o u (hg.m b o u hu)) fuel _ a' w' ?_
        exact draw_ok he hQp hap hd fuel _ _ Hj a' w' M' ρ' fin (by rw [hset]; exact hf) hS' fun a2 w2 M2 ρ2 h3 h4 => hQ a2 w2 M2 ρ2 (hg.trans h3) h4
end
end Go.Abx
