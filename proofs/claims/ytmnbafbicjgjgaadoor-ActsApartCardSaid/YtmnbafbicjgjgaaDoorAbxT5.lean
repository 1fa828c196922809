/- Equations on slices, their objects, and calls. -/
import Derived.Test.YtmnbafbicjgjgaaDoorAbxT4
namespace Go.Abx
set_option linter.unusedVariables false
set_option linter.unusedSimpArgs false
section
variable {env : Env} {σ : Sig} {H : Heap} {l : Bool} {sz z bytes : Nat} {es : List AVal} {cap lim : Option Nat}

theorem cast0 : ((0 : Nat) : Int) = 0 := rfl
theorem cast1 : ((1 : Nat) : Int) = 1 := rfl
theorem ofBytes_pure (b : List Int) : AVal.pures (ofBytes b) = true := pures_of fun x hx => by
  obtain ⟨n, _, rfl⟩ := List.mem_map.1 hx; rfl
theorem ofBytes_length (b : List Int) : (ofBytes b).length = b.length := List.length_map _
theorem ofBytes_nil : ofBytes [] = [] := rfl
theorem ofBytes_cons (x : Int) (r : List Int) : ofBytes (x :: r) = .int .u8 x :: ofBytes r := rfl
theorem ofBytes_app (a b : List Int) : ofBytes (a ++ b) = ofBytes a ++ ofBytes b := List.map_append
theorem ofBytes_ne {b : List Int} (h : b ≠ []) : ofBytes b ≠ [] := by cases b <;> simp_all [ofBytes]
theorem ofBytes_at {b : List Int} {i : Nat} {c : Int} (h : b[i]? = some c) : (ofBytes b)[i]? = some (.int .u8 c) := by simp [ofBytes, h]

/-- Bytes in a value: none, or a slice. -/
def isBs (v : AVal) (b : List Int) : Prop := (v = .nilsl ∧ b = []) ∨ ∃ cap, v = .vs (ofBytes b) 1 cap
theorem isBs.pure {v : AVal} {b : List Int} (h : isBs v b) : v.pure = true := by
  rcases h with ⟨rfl, _⟩ | ⟨cap, rfl⟩
  · rfl
  · simp [AVal.pure, ofBytes_pure]
theorem isBs.cells {v : AVal} {b : List Int} (h : isBs v b) : v.cells = [v] := by
  rcases h with ⟨rfl, _⟩ | ⟨cap, rfl⟩ <;> rfl
theorem isBs.flat {v : AVal} {b : List Int} (h : isBs v b) : Abx.flat v = true := by
  rcases h with ⟨rfl, _⟩ | ⟨cap, rfl⟩ <;> rfl
theorem isBs.len {v : AVal} {b : List Int} (h : isBs v b) (H : Heap) : lenA H .slice v = some b.length := by
  rcases h with ⟨rfl, rfl⟩ | ⟨cap, rfl⟩
  · rfl
  · simp [lenA, ofBytes_length]
theorem isBs.elems {v : AVal} {b : List Int} (h : isBs v b) (H : Heap) : elems H v = some (ofBytes b) := by
  rcases h with ⟨rfl, rfl⟩ | ⟨cap, rfl⟩ <;> rfl
theorem isBs.stride {v : AVal} {b : List Int} (h : isBs v b) (H : Heap) : stride H 1 v = true := by
  rcases h with ⟨rfl, rfl⟩ | ⟨cap, rfl⟩ <;> rfl

theorem sl_nil_nil : binA .eql .slice l .nilsl .nilsl = some (.bool true) := rfl
theorem sl_vs_nil : binA .eql .slice l (.vs es sz cap) .nilsl = some (.bool false) := rfl
theorem sl_hs_nil {i s n : Nat} : binA .eql .slice l (.hs i s n lim) .nilsl = some (.bool false) := rfl

theorem import_ne (h : es ≠ []) : importA (.vs es sz cap) H = (.hs H.next 0 es.length cap, H.new (.arr es sz none 0)) := by
  cases es with
  | nil => exact absurd rfl h
  | cons x r => rfl
theorem import_tup_ne {rest : List AVal} (h : es ≠ []) : importA (.tup (.vs es sz cap :: rest)) H = (.tup (.hs H.next 0 es.length cap :: rest), H.new (.arr es sz none 0)) := by
  cases es with
  | nil => exact absurd rfl h
  | cons x r => rfl
theorem import_nil : importA (.vs [] sz cap) H = (.vs [] sz cap, H) := rfl
theorem import_nilsl : importA .nilsl H = (.nilsl, H) := rfl

/-! append -/
theorem app_empty {x : AVal} (hx : srcEls sz H x = some []) : appendA sz bytes (.vs es z cap) x H = some (.vs es z cap, H) := by simp [appendA, hx]
theorem app_empty_hs {i s n : Nat} {x : AVal} (hx : srcEls sz H x = some []) : appendA sz bytes (.hs i s n lim) x H = some (.hs i s n lim, H) := by simp [appendA, hx]
theorem app_empty_nil {x : AVal} (hx : srcEls sz H x = some []) : appendA sz bytes .nilsl x H = some (.nilsl, H) := by simp [appendA, hx]
theorem app_vs0 {x : AVal} {new : List AVal} (hx : srcEls sz H x = some new) (hne : new ≠ []) (hl : new.length * bytes ≤ 140737488355328) :
    appendA sz bytes (.vs [] z (some 0)) x H = some (.hs H.next 0 new.length none, H.new (.arr new sz none 0)) := by
  cases new with
  | nil => exact absurd rfl hne
  | cons y r => simp only [appendA, hx, List.isEmpty_cons, Bool.false_eq_true, if_false, List.length_nil, Nat.zero_add, true_and, List.nil_append]; rw [if_pos hl]
theorem app_nil {x : AVal} {new : List AVal} (hx : srcEls sz H x = some new) (hne : new ≠ []) (hl : new.length * bytes ≤ 140737488355328) :
    appendA sz bytes .nilsl x H = some (.hs H.next 0 new.length none, H.new (.arr new sz none 0)) := by
  cases new with
  | nil => exact absurd rfl hne
  | cons y r => simp only [appendA, hx, List.isEmpty_cons, Bool.false_eq_true, if_false]; rw [if_pos hl]
theorem app_hs {id fr : Nat} {x : AVal} {new : List AVal} {c0 : Option Nat} {z0 : Nat} (hx : srcEls sz H x = some new) (hne : new ≠ []) (hg : H.get id = some (.arr es z0 c0 fr)) (hl : (es.length + new.length) * bytes ≤ 140737488355328) :
    appendA sz bytes (.hs id 0 es.length none) x H = some (.hs H.next 0 (es.length + new.length) none, (H.drop id).new (.arr (es ++ new) sz none fr)) := by
  cases new with
  | nil => exact absurd rfl hne
  | cons y r =>
    simp only [appendA, hx, List.isEmpty_cons, Bool.false_eq_true, if_false, hg]
    rw [if_pos ⟨hl, by omega⟩, if_neg (by simp), if_pos ⟨trivial, trivial, trivial⟩]
/-- Behind a slice whose capacity is its length. -/
theorem app_full {id s n fr : Nat} {x : AVal} {new : List AVal} {c0 : Option Nat} {z0 : Nat} (hx : srcEls sz H x = some new) (hne : new ≠ []) (hg : H.get id = some (.arr es z0 c0 fr)) (hn : s + n ≤ es.length) (hl : (n + new.length) * bytes ≤ 140737488355328) :
    appendA sz bytes (.hs id s n (some n)) x H = some (.hs H.next 0 (n + new.length) none, H.new (.arr ((es.drop s).take n ++ new) sz none 0)) := by
  cases new with
  | nil => exact absurd rfl hne
  | cons y r =>
    simp only [appendA, hx, List.isEmpty_cons, Bool.false_eq_true, if_false, hg]
    rw [if_pos ⟨hl, hn⟩, if_pos trivial]
theorem src_str {s : List Int} : srcEls 1 H (.str s) = some (ofBytes s) := rfl
theorem src_bs {v : AVal} {b : List Int} (h : isBs v b) : srcEls 1 H v = some (ofBytes b) := by
  rcases h with ⟨rfl, rfl⟩ | ⟨cap, rfl⟩ <;> rfl
theorem src_vs : srcEls sz H (.vs es z cap) = some es := rfl
theorem src_nil : srcEls sz H .nilsl = some [] := rfl
theorem src_hs {id s n fr : Nat} {c0 : Option Nat} {z0 : Nat} (hg : H.get id = some (.arr es z0 c0 fr)) (hn : s + n ≤ es.length) : srcEls sz H (.hs id s n lim) = some ((es.drop s).take n) := by
  simp [srcEls, elems, hg, hn]

/-! The end of a function whose first result is its own -/
def ownG (r : AVal) (n : Nat) (lim : Option Nat) (rest : List AVal) : Option AObj → Prop
  | some (.arr es sz cap 0) => n = es.length ∧ AVal.pures es = true ∧ AVal.pures rest = true ∧ pack (.vs es sz lim :: rest) = r
  | _ => False
theorem ownK_hs {r : AVal} {id n : Nat} {rest : List AVal} : ownG r n lim rest (H.get id) → ownK r (.hs id 0 n lim :: rest) H := fun h => by
  unfold ownG at h
  split at h
  · rename_i es sz cap hg
    simp only [ownK, ownHead, hg, if_pos (show n = es.length ∧ AVal.pures es = true ∧ AVal.pures rest = true from ⟨h.1, h.2.1, h.2.2.1⟩)]
    exact h.2.2.2
  · exact h.elim
theorem ownK_nil {r : AVal} {rest : List AVal} (hp : AVal.pures rest = true) (h : pack (.nilsl :: rest) = r) : ownK r (.nilsl :: rest) H := by
  simp only [ownK, ownHead, hp, if_true, h]
theorem ownK_vs {r : AVal} {rest : List AVal} (hp : AVal.pures rest = true) (h : pack (.vs [] sz cap :: rest) = r) : ownK r (.vs [] sz cap :: rest) H := by
  simp only [ownK, ownHead, hp, if_true, h]
end

/-! Calls with a slice of one's own, which is frozen -/
theorem frz_hs {H : Heap} {id n sz fr : Nat} {lim cap : Option Nat} {es : List AVal} (hg : H.get id = some (.arr es sz cap fr)) (hn : n ≤ es.length) (hp : AVal.pures es = true) :
    frzVal frzDepth (.hs id 0 n lim) H = some (.vs (es.take n) sz lim, H.set id (.arr es sz cap es.length)) := by
  have h1 : frzList (frzVal 11) es H = some (es, H) := frzList_pure 10 _ _ hp
  have h3 : (AVal.hs id 0 n lim).pure = false := rfl
  rw [frzDepth, frzVal]
  simp only [h3, Bool.false_eq_true, if_false, hg]
  rw [if_pos (by omega), h1]
  simp
theorem frzAll_hs {H : Heap} {id n sz fr : Nat} {lim cap : Option Nat} {es rest : List AVal} (hg : H.get id = some (.arr es sz cap fr)) (hn : n ≤ es.length) (hp : AVal.pures es = true) (hr : AVal.pures rest = true) :
    frzAll (.hs id 0 n lim :: rest) H = some (.vs (es.take n) sz lim :: rest, H.set id (.arr es sz cap es.length)) := by
  have h0 : AVal.pures (.hs id 0 n lim :: rest) = false := by simp [AVal.pures, AVal.pure]
  simp only [frzAll, h0, Bool.false_eq_true, if_false, frzList, frz_hs hg hn hp]
  rw [frzDepth, frzList_pure 11 _ _ hr]
theorem exCall_own_hs {env : Env} {H : Heap} {g id n sz fr : Nat} {lim cap : Option Nat} {es rest : List AVal} {F : List AVal → Option AVal} {r : AVal} (he : envGet env g = some (.pure true F)) (hg : H.get id = some (.arr es sz cap fr)) (hn : n ≤ es.length) (hp : AVal.pures es = true) (hr : AVal.pures rest = true)
    (h : F (.vs (es.take n) sz lim :: rest) = some r) : exCall env g .own (.hs id 0 n lim :: rest) H = some (importA r (H.set id (.arr es sz cap es.length))) := by
  simp only [exCall, he, frzAll_hs hg hn hp hr, h]
theorem exCall_pure_hs {env : Env} {H : Heap} {g id n sz fr : Nat} {lim cap : Option Nat} {es rest : List AVal} {own : Bool} {F : List AVal → Option AVal} {r : AVal} (he : envGet env g = some (.pure own F)) (hg : H.get id = some (.arr es sz cap fr)) (hn : n ≤ es.length) (hp : AVal.pures es = true) (hr : AVal.pures rest = true)
    (h : F (.vs (es.take n) sz lim :: rest) = some r) : exCall env g .pure (.hs id 0 n lim :: rest) H = some (r, H.set id (.arr es sz cap es.length)) := by
  simp only [exCall, he, frzAll_hs hg hn hp hr, h]

/-! Runs whose result is told by what holds of it -/
def ownQ (Q : AVal → Prop) : List AVal → Heap → Prop := fun l H1 => ∃ l', ownHead H1 l = some l' ∧ Q (pack l')
def pureQ (Q : AVal → Prop) : List AVal → Heap → Prop := fun l H1 => ∃ l' H2, frzAll l H1 = some (l', H2) ∧ AVal.pures l' = true ∧ Q (pack l')
section
variable {env : Env} {fn : IFun} {args : List AVal} {H : Heap} {Q : AVal → Prop}
theorem runOwn_Q (hd : codeOk (depthOf (fn.ntmps + args.length)) fn.body = true) (hl : Nat.ble (args.length + 1) (2 ^ depthOf (fn.ntmps + args.length)) = true) (hp : AVal.pures args = true)
    (h : wp env fn.body (argSt args) Heap.empty (endK fn.results (ownQ Q))) : ∃ r, runOwn env fn args = some r ∧ Q r := by
  obtain ⟨l, H1, e, l', h1, h2⟩ := bodyA_of (K := ownQ Q) hd (Nat.le_of_ble_eq_true hl) h
  exact ⟨pack l', by simp only [runOwn, hp, if_true, e, h1], h2⟩
theorem runPure_Q (hd : codeOk (depthOf (fn.ntmps + args.length)) fn.body = true) (hl : Nat.ble (args.length + 1) (2 ^ depthOf (fn.ntmps + args.length)) = true) (hp : AVal.pures args = true)
    (h : wp env fn.body (argSt args) Heap.empty (endK fn.results (pureQ Q))) : ∃ r, runPure env fn args = some r ∧ Q r := by
  obtain ⟨l, H1, e, l', H2, h1, h2, h3⟩ := bodyA_of (K := pureQ Q) hd (Nat.le_of_ble_eq_true hl) h
  exact ⟨pack l', by simp only [runPure, hp, if_true, e, h1, h2], h3⟩
theorem runRaw_Q {K : List AVal → Heap → Prop} (hd : codeOk (depthOf (fn.ntmps + args.length)) fn.body = true) (hl : Nat.ble (args.length + 1) (2 ^ depthOf (fn.ntmps + args.length)) = true)
    (h : wp env fn.body (argSt args) H (endK fn.results K)) : ∃ l H1, runRaw env fn args H = some (pack l, H1) ∧ K l H1 := by
  obtain ⟨l, H1, e, k⟩ := bodyA_of (K := K) hd (Nat.le_of_ble_eq_true hl) h
  exact ⟨l, H1, by simp only [runRaw, e], k⟩
theorem ownQ_hs {id n fr sz : Nat} {lim cap : Option Nat} {es rest : List AVal} (hg : H.get id = some (.arr es sz cap 0)) (hn : n = es.length) (hp : AVal.pures es = true) (hr : AVal.pures rest = true) (h : Q (pack (.vs es sz lim :: rest))) : ownQ Q (.hs id 0 n lim :: rest) H :=
  ⟨_, by simp only [ownHead, hg, if_pos (show n = es.length ∧ AVal.pures es = true ∧ AVal.pures rest = true from ⟨hn, hp, hr⟩)], h⟩
theorem ownQ_nil {rest : List AVal} (hr : AVal.pures rest = true) (h : Q (pack (.nilsl :: rest))) : ownQ Q (.nilsl :: rest) H := ⟨_, by simp only [ownHead, hr, if_true], h⟩
theorem ownQ_vs {sz : Nat} {cap : Option Nat} {rest : List AVal} (hr : AVal.pures rest = true) (h : Q (pack (.vs [] sz cap :: rest))) : ownQ Q (.vs [] sz cap :: rest) H := ⟨_, by simp only [ownHead, hr, if_true], h⟩
theorem pureQ_pure {l : List AVal} (hp : AVal.pures l = true) (h : Q (pack l)) : pureQ Q l H := ⟨l, H, frz_pure hp, hp, h⟩
/-- A slice of one's own, frozen at the end. -/
theorem pureQ_hs {id n sz : Nat} {fr : Nat} {lim cap : Option Nat} {es rest : List AVal} (hg : H.get id = some (.arr es sz cap fr)) (hn : n ≤ es.length) (hp : AVal.pures es = true) (hr : AVal.pures rest = true) (h : Q (pack (.vs (es.take n) sz lim :: rest))) : pureQ Q (.hs id 0 n lim :: rest) H := by
  refine ⟨.vs (es.take n) sz lim :: rest, H.set id (.arr es sz cap es.length), ?_, ?_, h⟩
  · have h0 : AVal.pures (.hs id 0 n lim :: rest) = false := by simp [AVal.pures, AVal.pure]
    have h1 : frzList (frzVal 11) es H = some (es, H) := frzList_pure 10 _ _ hp
    have h3 : (AVal.hs id 0 n lim).pure = false := rfl
    have h2 : frzVal frzDepth (.hs id 0 n lim) H = some (.vs (es.take n) sz lim, H.set id (.arr es sz cap es.length)) := by
      rw [frzDepth, frzVal]
      simp only [h3, Bool.false_eq_true, if_false, hg]
      rw [if_pos (by omega), h1]
      simp
    simp only [frzAll, h0, Bool.false_eq_true, if_false, frzList, h2]
    rw [frzDepth, frzList_pure 11 _ _ hr]
  · simp only [AVal.pures, AVal.pure, hr, Bool.and_true]
    exact pures_take n hp
end

/-! A slice that is appended to -/
def AccE (sz : Nat) (v : AVal) (H : Heap) (es : List AVal) : Prop := (v = .nilsl ∧ es = []) ∨ ∃ id, v = .hs id 0 es.length none ∧ H.get id = some (.arr es sz none 0) ∧ id < H.next
theorem AccE.app {sz bytes : Nat} {v x : AVal} {H : Heap} {es new : List AVal} (h : AccE sz v H es) (hx : srcEls sz H x = some new) (hne : new ≠ []) (hl : (es.length + new.length) * bytes ≤ 140737488355328) :
    ∃ v' H', appendA sz bytes v x H = some (v', H') ∧ AccE sz v' H' (es ++ new) ∧ (∀ j, j < H.next → (∀ n l, v ≠ .hs j 0 n l) → H'.get j = H.get j) ∧ H'.next = H.next + 1 ∧ v' = .hs H.next 0 (es ++ new).length none := by
  rcases h with ⟨rfl, rfl⟩ | ⟨id, rfl, hg, hi⟩
  · refine ⟨_, _, app_nil hx hne (by simpa using hl), .inr ⟨H.next, rfl, ?_, ?_⟩, fun j hj _ => get_new_lt hj, next_new _, rfl⟩
    · rw [Heap.get_new]; rfl
    · rw [next_new]; omega
  · have ha := app_hs (sz := sz) (bytes := bytes) hx hne hg hl
    refine ⟨_, _, ha, .inr ⟨H.next, ?_, ?_, ?_⟩, fun j hj hne => ?_, by rw [next_new, next_drop], ?_⟩
    · simp
    · have := Heap.get_new (H.drop id) (.arr (es ++ new) sz none 0)
      rw [next_drop] at this
      rw [this]
    · rw [next_new, next_drop]; omega
    · rw [get_new_lt (by rw [next_drop]; exact hj), get_drop_other]
      intro e; subst e; exact hne _ _ rfl
    · simp
theorem AccE.mono {sz : Nat} {v : AVal} {H H' : Heap} {es : List AVal} (h : AccE sz v H es) (hg : ∀ j, j < H.next → H'.get j = H.get j) (hn : H.next ≤ H'.next) : AccE sz v H' es := by
  rcases h with ⟨rfl, rfl⟩ | ⟨id, rfl, h1, h2⟩
  · exact .inl ⟨rfl, rfl⟩
  · exact .inr ⟨id, rfl, by rw [hg id h2]; exact h1, by omega⟩
theorem AccE.stride {sz : Nat} {v : AVal} {H : Heap} {es : List AVal} (h : AccE sz v H es) : stride H sz v = true := by
  rcases h with ⟨rfl, rfl⟩ | ⟨id, rfl, hg, hi⟩
  · rfl
  · exact stride_at hg
theorem AccE.len {sz : Nat} {v : AVal} {H : Heap} {es : List AVal} (h : AccE sz v H es) : lenA H .slice v = some es.length := by
  rcases h with ⟨rfl, rfl⟩ | ⟨id, rfl, hg, hi⟩ <;> rfl
/-- An object that is read: what it holds, whatever else. -/
def Rd (H : Heap) (id : Nat) (es : List AVal) (sz : Nat) : Prop := ∃ cap fr, H.get id = some (.arr es sz cap fr)
theorem AccE.addr {sz z : Nat} {v : AVal} {H : Heap} {es : List AVal} (h : AccE sz v H es) {i : Nat} (hi : i < es.length) : ∃ id, indexAddrA none z v (.int .i64 (i : Int)) = some (.ptr id i 0) ∧ Rd H id es sz ∧ v = .hs id 0 es.length none := by
  rcases h with ⟨rfl, rfl⟩ | ⟨id, rfl, hg, _⟩
  · simp at hi
  · refine ⟨id, ?_, ⟨_, _, hg⟩, rfl⟩
    rw [addr_hs (by omega) (by omega)]; simp
theorem bytesOf_ofBytes {b : List Int} (h : ∀ x ∈ b, 0 ≤ x ∧ x < 256) : bytesOf? (ofBytes b) = some b := by
  induction b with
  | nil => rfl
  | cons x r ih =>
    have hx := h x (by simp)
    simp only [ofBytes_cons, bytesOf?, byteOf?, if_pos hx, ih fun y hy => h y (by simp [hy])]
end Go.Abx
