/- coeff.Get's walk over the table. -/
import Derived.Test.YtdhehfgmhkgbpaaDoorHGetA
namespace Go.Proofs.YtdhehfgmhkgbpaaDoorH
open Go.RowKit Go.Shelf Go.Proofs.YtdhehfgmhkgbpaaDoorW.PrintWords
attribute [local go_sem] Oper.semAt_some

theorem wpIn_world {F : Fence} {n : Nat} {P : Program} {Q : Exit → Act → World → Prop} {c : Code} {a : Act} {w : World} (h : ∀ W, W = w → c.wpIn F n P Q a W) : c.wpIn F n P Q a w := h w rfl

theorem wpIn_tmps {F : Fence} {n : Nat} {P : Program} {Q : Exit → Act → World → Prop} {c : Code} {tm : Array Value} {d : List Deferred} {w : World} (h : ∀ T, T = tm → c.wpIn F n P Q { tmps := T, defers := d } w) : c.wpIn F n P Q { tmps := tm, defers := d } w := h tm rfl

/-- What holds between two rounds. -/
structure Inv (w : World) (M : Nat) (s : List UInt8) (m0 : Bool) (pre : List GItem) (W : World) : Prop where
  res : Res w W
  cs : W.heap[M]? = some (.cells #[.string ⟨s.toArray⟩] 9 (0, 0))
  cm : W.heap[M + 1]? = some (.cells #[.bool (m0 || pre.any (nearB s))] 4 (0, 0))
  nohit : ∀ x ∈ pre, hitB s x = false
/-- What holds where a round has returned. -/
structure Out (w : World) (s : List UInt8) (pre : List GItem) (W : World) : Prop where
  hit : ∃ p' x, pre = p' ++ [x] ∧ hitB s x = true ∧ (∀ y ∈ p', hitB s y = false) ∧
    W.heap[w.heap.size]? = some (.cells #[.int .i64 x.1.1, .int .i64 (if s.getD x.1.2.2.length 0 == 49 then -x.1.2.1 else x.1.2.1)] 26 (0, 0)) ∧
    W.heap[w.heap.size + 1]? = some (.cells #[.bool false] 4 (0, 0)) ∧
    W.heap[w.heap.size + 1 + 1]? = some (.cells #[.int .i64 ((x.1.2.2.length : Int) + 1)] 3 (0, 0)) ∧
    W.heap[w.heap.size + 1 + 1 + 1]? = some (.cells #[.int .i64 0] 27 (0, 0))
  bel : Below w.heap.size w W

theorem cells_grown {W W' : World} {row : Option Nat} {k : Nat} {c : Array Value} {t : TypeId} {f : Nat × Nat} (h : W.heap[k]? = some (.cells c t f)) (hg : W.grownBy W' row)
    (hr : ∀ r, row = some r → ∃ o : Obj, W.heap[r]? = some o ∧ o.isCells = false) : W'.heap[k]? = some (.cells c t f) := by
  rw [hg.block k (Array.getElem?_eq_some_iff.1 h).1 (fun e => by
    obtain ⟨o, ho, hc⟩ := hr k e.symm
    rw [h] at ho
    cases ho
    simp [Obj.isCells] at hc)]
  exact h
theorem Res.grown {w W W' : World} {row : Option Nat} (h : Res w W) (hg : W.grownBy W' row) (hr : ∀ r, row = some r → w.heap.size ≤ r ∧ ∃ o : Obj, W.heap[r]? = some o ∧ o.isCells = false) : Res w W' :=
  ⟨cells_grown h.b6 hg (fun r e => (hr r e).2), cells_grown h.b7 hg (fun r e => (hr r e).2), cells_grown h.b8 hg (fun r e => (hr r e).2), cells_grown h.b9 hg (fun r e => (hr r e).2),
   Nat.le_trans h.big hg.size, h.bel.grown hg (by have := h.big; omega) (fun k e => (hr k e).1)⟩
theorem Inv.own (w : World) (M : Nat) (s : List UInt8) (m0 : Bool) (B : Nat) (hB : w.heap.size ≤ B) : OwnFrom B (Inv w M s m0) :=
  fun _ _ _ _ h hg hr => ⟨h.res.grown hg (fun r e => ⟨by have := (hr r e).1; omega, (hr r e).2⟩), cells_grown h.cs hg (fun r e => (hr r e).2), cells_grown h.cm hg (fun r e => (hr r e).2), h.nohit⟩
theorem Inv.alloc {w : World} {M : Nat} {s : List UInt8} {m0 : Bool} {pre : List GItem} {W : World} (h : Inv w M s m0 pre W) (o : Obj) : Inv w M s m0 pre (W.alloc o) :=
  (Inv.own w M s m0 w.heap.size (Nat.le_refl _)) pre W _ none h (World.grownBy_alloc W o none) (fun r e => by cases e)
theorem Out.own (w : World) (s : List UInt8) (B : Nat) (hB : w.heap.size ≤ B) : OwnFrom B (Out w s) :=
  fun _ _ _ _ h hg hr => by
    obtain ⟨⟨p', x, e, hx, hp, h6, h7, h8, h9⟩, hb⟩ := h
    exact ⟨⟨p', x, e, hx, hp, cells_grown h6 hg (fun r e => (hr r e).2), cells_grown h7 hg (fun r e => (hr r e).2), cells_grown h8 hg (fun r e => (hr r e).2), cells_grown h9 hg (fun r e => (hr r e).2)⟩,
      hb.grown hg hb.size (fun k e => by have := (hr k e).1; omega)⟩

theorem good_of (x : GItem) : 0 ≤ x.1.1 ∧ x.1.1 ≤ 63 ∧ 1 ≤ x.1.2.1 ∧ x.1.2.1 ≤ 127 ∧ 1 ≤ x.1.2.2.length ∧ x.1.2.2.length ≤ 13 := by
  have := x.2
  simp only [goodB, Bool.and_eq_true, decide_eq_true_eq] at this
  obtain ⟨⟨⟨⟨⟨h1, h2⟩, h3⟩, h4⟩, h5⟩, h6⟩ := this
  exact ⟨h1, h2, h3, h4, h5, h6⟩
theorem Inv.miss {w : World} {M : Nat} {s : List UInt8} {m0 : Bool} {pre : List GItem} {W : World} (h : Inv w M s m0 pre W) (x : GItem) (hx : sameL s x.1.2.2 = false) (n : Nat) : Inv w M s m0 (pre ++ [x]) (W.drewN n) := by
  have h1 : hitB s x = false := by simp [hitB, hx]
  have h2 : nearB s x = false := by simp [nearB, hx]
  refine ⟨h.res.drewN n, h.cs, ?_, ?_⟩
  · have := h.cm
    simpa [h2] using this
  · intro y hy
    rcases List.mem_append.1 hy with hy | hy
    · exact h.nohit y hy
    · rw [List.mem_singleton.1 hy]; exact h1
theorem Inv.near {w : World} {M : Nat} {s : List UInt8} {m0 : Bool} {pre : List GItem} {W : World} (h : Inv w M s m0 pre W) (hM : w.heap.size + 4 ≤ M) (x : GItem) (hx : sameL s x.1.2.2 = true) (hl : s.length ≤ x.1.2.2.length) (n : Nat) :
    Inv w M s m0 (pre ++ [x]) ((W.drewN n).setCell ⟨M + 1, 0, none⟩ (.bool true)) := by
  have h1 : hitB s x = false := by simp [hitB]; omega
  have h2 : nearB s x = true := by simp [nearB, hx, hl]
  have o : ∀ k, k ≠ M + 1 → ((W.drewN n).setCell ⟨M + 1, 0, none⟩ (.bool true)).heap[k]? = W.heap[k]? := fun k hk => Below.heap_setCell _ _ _ _ hk
  refine ⟨⟨?_, ?_, ?_, ?_, ?_, ?_⟩, ?_, ?_, ?_⟩
  · rw [o _ (by omega)]; exact h.res.b6
  · rw [o _ (by omega)]; exact h.res.b7
  · rw [o _ (by omega)]; exact h.res.b8
  · rw [o _ (by omega)]; exact h.res.b9
  · have := h.res.big; simpa using this
  · exact Below.setCell (pw_below_drewN h.res.bel n) (by simp; omega) _
  · rw [o _ (by omega)]; exact h.cs
  · have := h.cm
    simp [World.setCell, Array.getElem?_modify, this, h2]
  · intro y hy
    rcases List.mem_append.1 hy with hy | hy
    · exact h.nohit y hy
    · rw [List.mem_singleton.1 hy]; exact h1

theorem Res.set5 {w W : World} (h : Res w W) (a b d : Int) (c : Bool) (e : Int) (W' : World)
    (hW : W' = ((((W.setCell ⟨w.heap.size, 0, none⟩ (.int .i64 a)).setCell ⟨w.heap.size, 1, none⟩ (.int .i64 b)).setCell ⟨w.heap.size + 1, 0, none⟩ (.bool c)).setCell ⟨w.heap.size + 1 + 1, 0, none⟩ (.int .i64 d)).setCell ⟨w.heap.size + 1 + 1 + 1, 0, none⟩ (.int .i64 e)) :
    W'.heap[w.heap.size]? = some (.cells #[.int .i64 a, .int .i64 b] 26 (0, 0)) ∧ W'.heap[w.heap.size + 1]? = some (.cells #[.bool c] 4 (0, 0)) ∧
    W'.heap[w.heap.size + 1 + 1]? = some (.cells #[.int .i64 d] 3 (0, 0)) ∧ W'.heap[w.heap.size + 1 + 1 + 1]? = some (.cells #[.int .i64 e] 27 (0, 0)) ∧ Below w.heap.size w W' ∧ KeepsOthers W W' := by
  subst hW
  have o : ∀ (W : World) (b o k : Nat) (v : Value), k ≠ b → (W.setCell ⟨b, o, none⟩ v).heap[k]? = W.heap[k]? := fun _ _ _ _ _ hk => Below.heap_setCell _ _ _ _ hk
  have s : ∀ (W : World) (b o : Nat) (v : Value) (c : Array Value) (t : TypeId) (f : Nat × Nat), W.heap[b]? = some (.cells c t f) → (W.setCell ⟨b, o, none⟩ v).heap[b]? = some (.cells (c.setIfInBounds o v) t f) := fun W b o v c t f hk => by
    simp [World.setCell, Array.getElem?_modify, hk]
  refine ⟨?_, ?_, ?_, ?_, ?_, ?_⟩
  · rw [o _ _ _ _ _ (by omega), o _ _ _ _ _ (by omega), o _ _ _ _ _ (by omega)]
    exact s _ _ _ _ _ _ _ (s _ _ _ _ _ _ _ h.b6)
  · rw [o _ _ _ _ _ (by omega), o _ _ _ _ _ (by omega)]
    refine s _ _ _ _ _ _ _ (?_ : _ = some (Obj.cells #[.bool false] 4 (0, 0)))
    rw [o _ _ _ _ _ (by omega), o _ _ _ _ _ (by omega)]; exact h.b7
  · rw [o _ _ _ _ _ (by omega)]
    refine s _ _ _ _ _ _ _ (?_ : _ = some (Obj.cells #[.int .i64 0] 3 (0, 0)))
    rw [o _ _ _ _ _ (by omega), o _ _ _ _ _ (by omega), o _ _ _ _ _ (by omega)]; exact h.b8
  · refine s _ _ _ _ _ _ _ (?_ : _ = some (Obj.cells #[.int .i64 0] 27 (0, 0)))
    rw [o _ _ _ _ _ (by omega), o _ _ _ _ _ (by omega), o _ _ _ _ _ (by omega), o _ _ _ _ _ (by omega)]; exact h.b9
  · (repeat refine Below.setCell ?_ (by simp <;> omega) _)
    exact h.bel
  · exact ((((KeepsOthers.setCell _ _ _).trans (KeepsOthers.setCell _ _ _)).trans (KeepsOthers.setCell _ _ _)).trans (KeepsOthers.setCell _ _ _)).trans (KeepsOthers.setCell _ _ _)
theorem Res.far {w W : World} (h : Res w W) (b o : Nat) (v : Value) (hb : w.heap.size + 4 ≤ b) : Res w (W.setCell ⟨b, o, none⟩ v) := by
  have o : ∀ k, k ≠ b → (W.setCell ⟨b, o, none⟩ v).heap[k]? = W.heap[k]? := fun k hk => Below.heap_setCell _ _ _ _ hk
  refine ⟨?_, ?_, ?_, ?_, ?_, ?_⟩
  · rw [o _ (by omega)]; exact h.b6
  · rw [o _ (by omega)]; exact h.b7
  · rw [o _ (by omega)]; exact h.b8
  · rw [o _ (by omega)]; exact h.b9
  · have := h.big; simpa using this
  · exact Below.setCell h.bel (by simp; omega) _

theorem ko_set {A B : World} {p : Addr} {v : Value} (h : KeepsOthers A B) : KeepsOthers A (B.setCell p v) := h.trans (KeepsOthers.setCell _ _ _)
theorem ko_drewN (W : World) (n : Nat) : KeepsOthers W (W.drewN n) := ⟨Nat.le_refl _, fun _ _ h _ => h⟩
theorem put_keeps {W : World} {D k : Nat} {o o' : Obj} {c : Array Value} {t : TypeId} {f : Nat × Nat} (hD : W.heap[D]? = some o) (ho : o.isCells = false) (h : W.heap[k]? = some (.cells c t f)) : (W.putObj D o').heap[k]? = some (.cells c t f) :=
  cells_grown h (grownBy_putObj' W D o') (fun r e => by cases e; exact ⟨o, hD, ho⟩)

/-- What holds behind the assignment to the loop's variables. -/
def AxG (TM : Array Value) (M : Nat) (x : GItem) (a' : Act) (W : World) : Prop :=
  ∃ Bx, M + 1 < Bx ∧ W.heap[Bx]? = some (.cells #[.int .i64 x.1.1, .int .i64 x.1.2.1] 26 (0, 0)) ∧
    a' = { tmps := ((((TM.setIfInBounds 66 (.agg #[.int .i64 x.1.1, .int .i64 x.1.2.1])).setIfInBounds 67 (.string ⟨x.1.2.2.toArray⟩)).setIfInBounds 13 (.pointer (some ⟨Bx, 0, none⟩))).setIfInBounds 14 (.string ⟨x.1.2.2.toArray⟩)), defers := [] }
theorem AxG.own (TM : Array Value) (M : Nat) (x : GItem) (a' : Act) (B : Nat) : OwnFrom B (fun (_ : Unit) W => AxG TM M x a' W) :=
  fun _ _ _ _ h hg hr => by
    obtain ⟨Bx, h1, h2, h3⟩ := h
    exact ⟨Bx, h1, cells_grown h2 hg (fun r e => (hr r e).2), h3⟩

set_option maxHeartbeats 4000000 in
set_option maxRecDepth 100000 in
theorem get_tab (A : Option Addr) (c : Nat) (l : List Int) (p : Nat) (first : Bool) (n : Nat) (hn : 1 ≤ n) (w : World) (hr : (Kd.int .u8).C w A l.length l) (hb : ∀ x ∈ l, 0 ≤ x ∧ x ≤ 255) (hp : p ≤ 8 * l.length) (hl : l.length ≤ 100000000000000) (hT : LaidA w)
    (s : List UInt8) (hs : seenL l p (min 20 (8 * l.length - p)) = s) (hsl : s.length ≤ 20) (h1 : sameL s escL = false) (h2 : (!first && Lib.hasPrefix s [49, 48]) = false) :
    CallsIn Fence.wide n Tryd.prog 11 #[.slice A l.length c, .int .i64 p, .bool first] w fun e w' => e = retG (getT s first) ∧ Below w.heap.size w w' := by
  have HS := Lib.hid hs
  have H1 := Lib.hid h1
  have H2 := Lib.hid h2
  have HN := Lib.hid hn
  have HT := Lib.hid hT
  clear hs h1 h2 hn hT
  cases first with
  | true =>
    refine callsIn_of_wp_marks Tryd.func11 rfl trivial ?_ rfl
    simp only [Tryd.ntmps11, List.size_toArray, List.length_cons, List.length_nil, Nat.reduceAdd, Nat.reduceSub, Array.replicate_succ, Array.replicate_zero, List.push_toArray, List.append_toArray, List.nil_append, List.cons_append]
    gi_wp2_with (refine ⟨trivial, (fun h => by cases h), ?_⟩; gi_at_call 27; refine (callsIn_wide.2 (count_calls _ _ _ _ (by omega))).mono ?_; rintro e w' ⟨rfl, rfl⟩)
    refine ⟨trivial, (fun h => by cases h), ?_⟩
    refine (callsIn_wide.2 (seen_calls A c l p _ ?hC hb hp hl)).mono ?_
    case hC => exact Kd.C_below hr (Res.new w).bel
    rintro e w5 ⟨rfl, hB5⟩
    rw [HS.out]
    have HR := Lib.hid (((Res.new w).below hB5).alloc (.cells #[.string ⟨s.toArray⟩] 9))
    have hbig := ((Res.new w).below hB5).big
    clear hB5
    gi_wp2_with (refine ⟨trivial, (fun h => by cases h), ?_⟩; gi_at_call 29; refine (callsIn_wide.2 (same_mk s escL _ (by omega) (by decide))).mono ?_; rintro e w' ⟨rfl, nd, rfl⟩; rw [H1.out])
    refine ⟨trivial, ?_⟩
    gi_wp2
    refine ⟨trivial, ?_⟩
    gi_wp2_with (refine ⟨trivial, (fun h => by cases h), ?_⟩; gi_at_call 32; refine (callsIn_wide.2 (table_calls true _)).mono ?_; rintro e w' ⟨rfl, rfl⟩)
    refine wpIn_world ?_
    intro Wl hWl
    refine wpIn_tmps ?_
    intro TM hTM
    have hsz : Wl.heap.size = w5.heap.size + 1 + 1 + 1 := by rw [hWl]; simp
    have hRl : Res w Wl := by rw [hWl]; exact ((HR.out.drewN _).alloc _).alloc _
    have hc0 : (w5.alloc (.cells #[.string ⟨s.toArray⟩] 9)).heap[w5.heap.size]? = some (.cells #[.string ⟨s.toArray⟩] 9 (0, 0)) := World.alloc_heap_new w5 _
    have hc : Wl.heap[w5.heap.size]? = some (.cells #[.string ⟨s.toArray⟩] 9 (0, 0)) := by
      rw [hWl, Below.heap_alloc _ _ _ (by simp <;> omega), Below.heap_alloc _ _ _ (by simp <;> omega)]; exact hc0
    have hm : Wl.heap[w5.heap.size + 1]? = some (.cells #[.bool (false || ([] : List GItem).any (nearB s))] 4 (0, 0)) := by
      rw [hWl, Below.heap_alloc _ _ _ (by simp)]
      have := World.alloc_heap_new ((w5.alloc (.cells #[.string ⟨s.toArray⟩] 9)).drewN nd) (.cells #[.bool false] 4)
      simpa using this
    have hf : Wl.heap[w5.heap.size + 1 + 1]? = some (.cells #[.bool true] 4 (0, 0)) := by
      rw [hWl]
      have := World.alloc_heap_new (((w5.alloc (.cells #[.string ⟨s.toArray⟩] 9)).drewN nd).alloc (.cells #[.bool false] 4)) (.cells #[.bool true] 4)
      simpa using this
    have hTl : LaidA Wl := HT.out.below hRl.bel
    have hGa : 0 < w.heap.size := by obtain ⟨_, _, h⟩ := HT.out; exact (Array.getElem?_eq_some_iff.1 h).1
    have hI0 : Inv w w5.heap.size s false [] Wl := ⟨hRl, hc, hm, fun _ h => by cases h⟩
    clear hWl hc0 hc hm
    refine wpIn_rangeFunc_ownH (Kp := KeepC (fun i => i = w.heap.size ∨ i = w.heap.size + 1 ∨ i = w.heap.size + 1 + 1 ∨ i = w.heap.size + 1 + 1 + 1 ∨ i = w5.heap.size + 1)) rfl HN.out (gf := 50) (lb := #[.pointer (some ⟨w5.heap.size + 1 + 1, 0, none⟩)]) (by rw [hTM]; rfl) trivial (enters_of Tryd.func50 (by kernel_rfl) rfl)
      (table_stops (n - 1) (w5.heap.size + 1 + 1) 4 (0, 0) true _ Wl (fun i hi => by rcases hi with rfl | rfl | rfl | rfl | rfl <;> refine ⟨by omega, by omega, by omega⟩) hf hTl) (fun h k => h.trans k) (fun W l o o' _ h ho _ => KeepC.put W l o o' h ho) (Below.refl _ _) (fun _ => rfl)
      (Inv w w5.heap.size s false) (fun c pre W => c = .ret ∧ Out w s pre W) (Inv.own w _ s _ _ hRl.bel.size) (fun c s' A B row hs hg hr => ⟨hs.1, Out.own w s _ hRl.bel.size s' A B row hs.2 hg hr⟩) hI0 (AxG TM w5.heap.size) (fun x a' => AxG.own _ _ x a' _) ?assignT ?bodyT ?doneT ?stopT
    case assignT =>
      intro l pre x W K hI hK
      subst hTM
      dsimp only [encI]
      gi_wp2
      apply hK
      · exact (KeepsOthers.alloc _ _).from _
      · exact KeepC.below ((Below.refl _ W).alloc (Nat.le_refl _) _)
      · exact hI.alloc _
      · refine ⟨W.heap.size, ?_, World.alloc_heap_new W _, rfl⟩
        have := (Array.getElem?_eq_some_iff.1 hI.cm).1
        omega
    case bodyT =>
      intro l pre x a' W hl hlr hI hAx hlt
      obtain ⟨Bx, hBx, hX, ha⟩ := hAx
      subst hTM
      subst ha
      simp only [List.setIfInBounds_toArray, List.set_cons_succ, List.set_cons_zero]
      have HI := Lib.hid hI
      have HX := Lib.hid hX
      have k10 : W.cell? ⟨w5.heap.size, 0, none⟩ = some (.string ⟨s.toArray⟩) := by rw [Lib.cell_of_heap hI.cs]; rfl
      have k12 : ∃ b, W.cell? ⟨w5.heap.size + 1, 0, none⟩ = some (.bool b) := ⟨_, by rw [Lib.cell_of_heap hI.cm]; rfl⟩
      obtain ⟨b12, k12⟩ := k12
      have f12 : W.frozen? ⟨w5.heap.size + 1, 0, none⟩ = false := Lib.frozen_of_heap hI.cm 0
      obtain ⟨g1, g2, g3, g4, g5, g6⟩ := good_of x
      clear hI hX hlr
      cases hsm : sameL s x.1.2.2 with
      | false =>
        have H6 := Lib.hid hsm
        clear hsm
        gi_wp2_with (refine ⟨trivial, (fun h => by cases h), ?_⟩; gi_at_call 29; refine (CallsIn.inRound l (callsIn_wide.2 (same_mk s x.1.2.2 _ (by omega) (by omega)))).mono ?_; rintro e w' ⟨rfl, nd3, rfl⟩; rw [H6.out])
        exact ⟨⟨Nat.le_refl _, fun k o _ h _ => h⟩, KeepC.refl _ _, HI.out.miss x H6.out nd3⟩
      | true =>
        have H6 := Lib.hid hsm
        clear hsm
        by_cases hle : s.length ≤ x.1.2.2.length
        · gi_wp2_with (refine ⟨trivial, (fun h => by cases h), ?_⟩; gi_at_call 29; refine (CallsIn.inRound l (callsIn_wide.2 (same_mk s x.1.2.2 _ (by omega) (by omega)))).mono ?_; rintro e w' ⟨rfl, nd3, rfl⟩; rw [H6.out])
          exact ⟨⟨by simp, fun k o _ h hc => (KeepsOthers.setCell (W.drewN nd3) _ _).same k o h hc⟩, KeepC.setCell (W.drewN nd3) _ (.inr (.inr (.inr (.inr rfl)))) _ _, HI.out.near hbig x H6.out hle nd3⟩
        · have hle' : x.1.2.2.length < s.length := by omega
          have kx0 : W.cell? ⟨Bx, 0, none⟩ = some (.int .i64 x.1.1) := by rw [Lib.cell_of_heap HX.out]; rfl
          have kx1 : W.cell? ⟨Bx, 1, none⟩ = some (.int .i64 x.1.2.1) := by rw [Lib.cell_of_heap HX.out]; rfl
          have fx1 : W.frozen? ⟨Bx, 1, none⟩ = false := Lib.frozen_of_heap HX.out 1
          obtain ⟨c60, c61, c70, c80, c90, f6, f7, f8, f9⟩ := HI.out.res.cells
          have n1 : ¬ Bx = w.heap.size := by omega
          have n2 : ¬ Bx = w.heap.size + 1 := by omega
          have n3 : ¬ Bx = w.heap.size + 1 + 1 := by omega
          have n4 : ¬ Bx = w.heap.size + 1 + 1 + 1 := by omega
          have hsz1 := size_mk s
          obtain ⟨ch, hch⟩ : ∃ ch : UInt8, s.getD x.1.2.2.length 0 = ch := ⟨_, rfl⟩
          have hix : ∀ h, (⟨s.toArray⟩ : ByteArray)[x.1.2.2.length]'h = ch := fun h => by
            rw [← hch, List.getD_eq_getElem?_getD, List.getElem?_eq_getElem hle']
            rfl
          have Hch := Lib.hid hch
          clear hch
          by_cases h49 : ch = 49
          · have ht : ((ch.toNat : Int) == 49) = true := by rw [h49]; rfl
            have H49 := Lib.hid h49
            clear h49
            gi_wp2_with (refine ⟨trivial, (fun h => by cases h), ?_⟩; gi_at_call 29; refine (CallsIn.inRound l (callsIn_wide.2 (same_mk s x.1.2.2 _ (by omega) (by omega)))).mono ?_; rintro e w' ⟨rfl, nd3, rfl⟩; rw [H6.out])
            have hv : (if s.getD x.1.2.2.length 0 == 49 then -x.1.2.1 else x.1.2.1) = -x.1.2.1 := by rw [Hch.out, H49.out]; rfl
            obtain ⟨o6, o7, o8, o9, ob, ok⟩ := ((HI.out.res.drewN nd3).far Bx 1 (.int .i64 (-x.1.2.1)) (by omega)).set5 x.1.1 (-x.1.2.1) ((x.1.2.2.length : Int) + 1) false 0 _ rfl
            exact ⟨KeepsOthers.from ((ko_drewN W nd3).trans ((KeepsOthers.setCell _ _ _).trans ok)) _, rfl, ⟨pre, x, rfl, by simp [hitB, H6.out, hle'], HI.out.nohit, by rw [hv]; exact o6, o7, o8, o9⟩, ob⟩
          · have ht : ((ch.toNat : Int) == 49) = false := by
              rw [beq_eq_false_iff_ne]
              intro h
              exact h49 (UInt8.toNat_inj.1 (by rw [show (49 : UInt8).toNat = 49 from rfl]; omega))
            have H49 := Lib.hid h49
            clear h49
            gi_wp2_with (refine ⟨trivial, (fun h => by cases h), ?_⟩; gi_at_call 29; refine (CallsIn.inRound l (callsIn_wide.2 (same_mk s x.1.2.2 _ (by omega) (by omega)))).mono ?_; rintro e w' ⟨rfl, nd3, rfl⟩; rw [H6.out])
            have hv : (if s.getD x.1.2.2.length 0 == 49 then -x.1.2.1 else x.1.2.1) = x.1.2.1 := by rw [Hch.out]; simp [H49.out]
            obtain ⟨o6, o7, o8, o9, ob, ok⟩ := (HI.out.res.drewN nd3).set5 x.1.1 x.1.2.1 ((x.1.2.2.length : Int) + 1) false 0 _ rfl
            exact ⟨KeepsOthers.from ((ko_drewN W nd3).trans ok) _, rfl, ⟨pre, x, rfl, by simp [hitB, H6.out, hle'], HI.out.nohit, by rw [hv]; exact o6, o7, o8, o9⟩, ob⟩
    case doneT =>
      intro D xs W hD hS hI hK
      obtain rfl : xs = tabG true := hS
      subst hTM
      have k12 : W.cell? ⟨w5.heap.size + 1, 0, none⟩ = some (.bool (false || (tabG true).any (nearB s))) := by rw [Lib.cell_of_heap hI.cm]; rfl
      obtain ⟨c60, c61, c70, c80, c90, f6, f7, f8, f9⟩ := hI.res.cells
      have hDw : w.heap.size ≤ D := Nat.le_trans hRl.bel.size hD
      have hfind : (tabG true).find? (hitB s) = none := List.find?_eq_none.2 (fun x hx => by rw [hI.nohit x hx]; simp)
      have HG : Hid (getT s true = if (false || (tabG true).any (nearB s)) = true then (0, 0, false, 0, 5) else (0, 0, false, 0, 7)) := Lib.hid (by
        unfold getT
        rw [hfind]
        rfl)
      have HI := Lib.hid hI
      have HK := Lib.hid hK
      clear hI hK hfind
      generalize (false || (tabG true).any (nearB s)) = mm at k12 HG
      cases mm with
      | true =>
        gi_wp2
        obtain ⟨o6, o7, o8, o9, ob, ok⟩ := HI.out.res.set5 0 0 0 false 5 _ rfl
        have hKD := ok.same D _ HK.out rfl
        refine ⟨by simp, .inl ⟨_, _, rfl, run_takeDeferred hKD, ?_⟩⟩
        have p6 := put_keeps (o' := .deferred none) hKD rfl o6
        have p7 := put_keeps (o' := .deferred none) hKD rfl o7
        have p8 := put_keeps (o' := .deferred none) hKD rfl o8
        have p9 := put_keeps (o' := .deferred none) hKD rfl o9
        have ob2 := ob.grown (grownBy_putObj' _ D (.deferred none)) ob.size (fun k e => by cases e; omega)
        generalize World.putObj _ D _ = W9 at p6 p7 p8 p9 ob2 ⊢
        have q60 := Lib.cell_of_heap p6 0
        have q61 := Lib.cell_of_heap p6 1
        have q7 := Lib.cell_of_heap p7 0
        have q8 := Lib.cell_of_heap p8 0
        have q9 := Lib.cell_of_heap p9 0
        refine ⟨.tuple #[.agg #[.int .i64 0, .int .i64 0], .bool false, .int .i64 0, .int .i64 5], by simp [results, Tryd.results11, go_sem, q60, q61, q7, q8, q9], ?_, ob2⟩
        rw [HG.out]
        rfl
      | false =>
        gi_wp2
        obtain ⟨o6, o7, o8, o9, ob, ok⟩ := HI.out.res.set5 0 0 0 false 7 _ rfl
        have hKD := ok.same D _ HK.out rfl
        refine ⟨by simp, .inl ⟨_, _, rfl, run_takeDeferred hKD, ?_⟩⟩
        have p6 := put_keeps (o' := .deferred none) hKD rfl o6
        have p7 := put_keeps (o' := .deferred none) hKD rfl o7
        have p8 := put_keeps (o' := .deferred none) hKD rfl o8
        have p9 := put_keeps (o' := .deferred none) hKD rfl o9
        have ob2 := ob.grown (grownBy_putObj' _ D (.deferred none)) ob.size (fun k e => by cases e; omega)
        generalize World.putObj _ D _ = W9 at p6 p7 p8 p9 ob2 ⊢
        have q60 := Lib.cell_of_heap p6 0
        have q61 := Lib.cell_of_heap p6 1
        have q7 := Lib.cell_of_heap p7 0
        have q8 := Lib.cell_of_heap p8 0
        have q9 := Lib.cell_of_heap p9 0
        refine ⟨.tuple #[.agg #[.int .i64 0, .int .i64 0], .bool false, .int .i64 0, .int .i64 7], by simp [results, Tryd.results11, go_sem, q60, q61, q7, q8, q9], ?_, ob2⟩
        rw [HG.out]
        rfl
    case stopT =>
      intro D cd pre W hD hSp hO hK
      obtain ⟨rfl, hO⟩ := hO
      subst hTM
      have hDw : w.heap.size ≤ D := Nat.le_trans hRl.bel.size hD
      obtain ⟨⟨p', x, rfl, hx, hp', o6, o7, o8, o9⟩, ob⟩ := hO
      have hfind : (tabG true).find? (hitB s) = some x := by
        obtain ⟨tl, htl⟩ := hSp
        rw [← htl, List.append_assoc, List.find?_append, List.find?_eq_none.2 (fun y hy => by rw [hp' y hy]; simp)]
        simp [hx]
      have HG : Hid (getT s true = (x.1.1, if s.getD x.1.2.2.length 0 == 49 then -x.1.2.1 else x.1.2.1, false, (x.1.2.2.length : Int) + 1, 0)) := Lib.hid (by
        unfold getT
        rw [hfind])
      clear hfind hp' hx
      generalize (if s.getD x.1.2.2.length 0 == 49 then -x.1.2.1 else x.1.2.1) = lv at o6 HG
      have p6 := put_keeps (o' := .deferred none) hK rfl o6
      have p7 := put_keeps (o' := .deferred none) hK rfl o7
      have p8 := put_keeps (o' := .deferred none) hK rfl o8
      have p9 := put_keeps (o' := .deferred none) hK rfl o9
      have ob2 := ob.grown (grownBy_putObj' _ D (.deferred none)) ob.size (fun k e => by cases e; omega)
      have HK := Lib.hid hK
      clear hK
      gi_wp2
      refine ⟨by simp, .inl ⟨_, _, rfl, run_takeDeferred HK.out, ?_⟩⟩
      generalize World.putObj _ D _ = W9 at p6 p7 p8 p9 ob2 ⊢
      have q60 := Lib.cell_of_heap p6 0
      have q61 := Lib.cell_of_heap p6 1
      have q7 := Lib.cell_of_heap p7 0
      have q8 := Lib.cell_of_heap p8 0
      have q9 := Lib.cell_of_heap p9 0
      refine ⟨.tuple #[.agg #[.int .i64 x.1.1, .int .i64 lv], .bool false, .int .i64 ((x.1.2.2.length : Int) + 1), .int .i64 0], by simp [results, Tryd.results11, go_sem, q60, q61, q7, q8, q9], ?_, ob2⟩
      rw [HG.out]
      rfl
  | false =>
    have H3 : Hid (Lib.hasPrefix s [49, 48] = false) := Lib.hid H2.out
    refine callsIn_of_wp_marks Tryd.func11 rfl trivial ?_ rfl
    simp only [Tryd.ntmps11, List.size_toArray, List.length_cons, List.length_nil, Nat.reduceAdd, Nat.reduceSub, Array.replicate_succ, Array.replicate_zero, List.push_toArray, List.append_toArray, List.nil_append, List.cons_append]
    gi_wp2_with (refine ⟨trivial, (fun h => by cases h), ?_⟩; gi_at_call 27; refine (callsIn_wide.2 (count_calls _ _ _ _ (by omega))).mono ?_; rintro e w' ⟨rfl, rfl⟩)
    refine ⟨trivial, (fun h => by cases h), ?_⟩
    refine (callsIn_wide.2 (seen_calls A c l p _ ?hC hb hp hl)).mono ?_
    case hC => exact Kd.C_below hr (Res.new w).bel
    rintro e w5 ⟨rfl, hB5⟩
    rw [HS.out]
    have HR := Lib.hid (((Res.new w).below hB5).alloc (.cells #[.string ⟨s.toArray⟩] 9))
    have hbig := ((Res.new w).below hB5).big
    clear hB5
    gi_wp2_with (refine ⟨trivial, (fun h => by cases h), ?_⟩; gi_at_call 29; refine (callsIn_wide.2 (same_mk s escL _ (by omega) (by decide))).mono ?_; rintro e w' ⟨rfl, nd, rfl⟩; rw [H1.out])
    refine ⟨trivial, (fun h => by cases h), ?_⟩
    refine (callsIn_wide.2 (prefix_mk s [49, 48] _)).mono ?_
    rintro e w' ⟨rfl, rfl⟩
    rw [H3.out]
    gi_wp2_with (first | (refine ⟨trivial, (fun h => by cases h), ?_⟩; gi_at_call 29; refine (callsIn_wide.2 (same_mk s [49, 48] _ (by omega) (by decide))).mono ?_; rintro e w' ⟨rfl, nd2, rfl⟩) | (refine ⟨trivial, (fun h => by cases h), ?_⟩; gi_at_call 32; refine (callsIn_wide.2 (table_calls false _)).mono ?_; rintro e w' ⟨rfl, rfl⟩))
    refine wpIn_world ?_
    intro Wl hWl
    refine wpIn_tmps ?_
    intro TM hTM
    have hsz : Wl.heap.size = w5.heap.size + 1 + 1 + 1 := by rw [hWl]; simp
    have hRl : Res w Wl := by rw [hWl]; exact ((HR.out.drewN _).alloc _).alloc _
    have hc0 : (w5.alloc (.cells #[.string ⟨s.toArray⟩] 9)).heap[w5.heap.size]? = some (.cells #[.string ⟨s.toArray⟩] 9 (0, 0)) := World.alloc_heap_new w5 _
    have hc : Wl.heap[w5.heap.size]? = some (.cells #[.string ⟨s.toArray⟩] 9 (0, 0)) := by
      rw [hWl, Below.heap_alloc _ _ _ (by simp <;> omega), Below.heap_alloc _ _ _ (by simp <;> omega)]; exact hc0
    have hm : Wl.heap[w5.heap.size + 1]? = some (.cells #[.bool ((sameL s [49, 48]) || ([] : List GItem).any (nearB s))] 4 (0, 0)) := by
      rw [hWl, Below.heap_alloc _ _ _ (by simp)]
      have := World.alloc_heap_new ((w5.alloc (.cells #[.string ⟨s.toArray⟩] 9)).drewN (nd + nd2)) (.cells #[.bool (sameL s [49, 48])] 4)
      simpa using this
    have hf : Wl.heap[w5.heap.size + 1 + 1]? = some (.cells #[.bool false] 4 (0, 0)) := by
      rw [hWl]
      have := World.alloc_heap_new (((w5.alloc (.cells #[.string ⟨s.toArray⟩] 9)).drewN (nd + nd2)).alloc (.cells #[.bool (sameL s [49, 48])] 4)) (.cells #[.bool false] 4)
      simpa using this
    have hTl : LaidA Wl := HT.out.below hRl.bel
    have hGa : 0 < w.heap.size := by obtain ⟨_, _, h⟩ := HT.out; exact (Array.getElem?_eq_some_iff.1 h).1
    have hI0 : Inv w w5.heap.size s (sameL s [49, 48]) [] Wl := ⟨hRl, hc, hm, fun _ h => by cases h⟩
    clear hWl hc0 hc hm
    refine wpIn_rangeFunc_ownH (Kp := KeepC (fun i => i = w.heap.size ∨ i = w.heap.size + 1 ∨ i = w.heap.size + 1 + 1 ∨ i = w.heap.size + 1 + 1 + 1 ∨ i = w5.heap.size + 1)) rfl HN.out (gf := 50) (lb := #[.pointer (some ⟨w5.heap.size + 1 + 1, 0, none⟩)]) (by rw [hTM]; rfl) trivial (enters_of Tryd.func50 (by kernel_rfl) rfl)
      (table_stops (n - 1) (w5.heap.size + 1 + 1) 4 (0, 0) false _ Wl (fun i hi => by rcases hi with rfl | rfl | rfl | rfl | rfl <;> refine ⟨by omega, by omega, by omega⟩) hf hTl) (fun h k => h.trans k) (fun W l o o' _ h ho _ => KeepC.put W l o o' h ho) (Below.refl _ _) (fun _ => rfl)
      (Inv w w5.heap.size s (sameL s [49, 48])) (fun c pre W => c = .ret ∧ Out w s pre W) (Inv.own w _ s _ _ hRl.bel.size) (fun c s' A B row hs hg hr => ⟨hs.1, Out.own w s _ hRl.bel.size s' A B row hs.2 hg hr⟩) hI0 (AxG TM w5.heap.size) (fun x a' => AxG.own _ _ x a' _) ?assignF ?bodyF ?doneF ?stopF
    case assignF =>
      intro l pre x W K hI hK
      subst hTM
      dsimp only [encI]
      gi_wp2
      apply hK
      · exact (KeepsOthers.alloc _ _).from _
      · exact KeepC.below ((Below.refl _ W).alloc (Nat.le_refl _) _)
      · exact hI.alloc _
      · refine ⟨W.heap.size, ?_, World.alloc_heap_new W _, rfl⟩
        have := (Array.getElem?_eq_some_iff.1 hI.cm).1
        omega
    case bodyF =>
      intro l pre x a' W hl hlr hI hAx hlt
      obtain ⟨Bx, hBx, hX, ha⟩ := hAx
      subst hTM
      subst ha
      simp only [List.setIfInBounds_toArray, List.set_cons_succ, List.set_cons_zero]
      have HI := Lib.hid hI
      have HX := Lib.hid hX
      have k10 : W.cell? ⟨w5.heap.size, 0, none⟩ = some (.string ⟨s.toArray⟩) := by rw [Lib.cell_of_heap hI.cs]; rfl
      have k12 : ∃ b, W.cell? ⟨w5.heap.size + 1, 0, none⟩ = some (.bool b) := ⟨_, by rw [Lib.cell_of_heap hI.cm]; rfl⟩
      obtain ⟨b12, k12⟩ := k12
      have f12 : W.frozen? ⟨w5.heap.size + 1, 0, none⟩ = false := Lib.frozen_of_heap hI.cm 0
      obtain ⟨g1, g2, g3, g4, g5, g6⟩ := good_of x
      clear hI hX hlr
      cases hsm : sameL s x.1.2.2 with
      | false =>
        have H6 := Lib.hid hsm
        clear hsm
        gi_wp2_with (refine ⟨trivial, (fun h => by cases h), ?_⟩; gi_at_call 29; refine (CallsIn.inRound l (callsIn_wide.2 (same_mk s x.1.2.2 _ (by omega) (by omega)))).mono ?_; rintro e w' ⟨rfl, nd3, rfl⟩; rw [H6.out])
        exact ⟨⟨Nat.le_refl _, fun k o _ h _ => h⟩, KeepC.refl _ _, HI.out.miss x H6.out nd3⟩
      | true =>
        have H6 := Lib.hid hsm
        clear hsm
        by_cases hle : s.length ≤ x.1.2.2.length
        · gi_wp2_with (refine ⟨trivial, (fun h => by cases h), ?_⟩; gi_at_call 29; refine (CallsIn.inRound l (callsIn_wide.2 (same_mk s x.1.2.2 _ (by omega) (by omega)))).mono ?_; rintro e w' ⟨rfl, nd3, rfl⟩; rw [H6.out])
          exact ⟨⟨by simp, fun k o _ h hc => (KeepsOthers.setCell (W.drewN nd3) _ _).same k o h hc⟩, KeepC.setCell (W.drewN nd3) _ (.inr (.inr (.inr (.inr rfl)))) _ _, HI.out.near hbig x H6.out hle nd3⟩
        · have hle' : x.1.2.2.length < s.length := by omega
          have kx0 : W.cell? ⟨Bx, 0, none⟩ = some (.int .i64 x.1.1) := by rw [Lib.cell_of_heap HX.out]; rfl
          have kx1 : W.cell? ⟨Bx, 1, none⟩ = some (.int .i64 x.1.2.1) := by rw [Lib.cell_of_heap HX.out]; rfl
          have fx1 : W.frozen? ⟨Bx, 1, none⟩ = false := Lib.frozen_of_heap HX.out 1
          obtain ⟨c60, c61, c70, c80, c90, f6, f7, f8, f9⟩ := HI.out.res.cells
          have n1 : ¬ Bx = w.heap.size := by omega
          have n2 : ¬ Bx = w.heap.size + 1 := by omega
          have n3 : ¬ Bx = w.heap.size + 1 + 1 := by omega
          have n4 : ¬ Bx = w.heap.size + 1 + 1 + 1 := by omega
          have hsz1 := size_mk s
          obtain ⟨ch, hch⟩ : ∃ ch : UInt8, s.getD x.1.2.2.length 0 = ch := ⟨_, rfl⟩
          have hix : ∀ h, (⟨s.toArray⟩ : ByteArray)[x.1.2.2.length]'h = ch := fun h => by
            rw [← hch, List.getD_eq_getElem?_getD, List.getElem?_eq_getElem hle']
            rfl
          have Hch := Lib.hid hch
          clear hch
          by_cases h49 : ch = 49
          · have ht : ((ch.toNat : Int) == 49) = true := by rw [h49]; rfl
            have H49 := Lib.hid h49
            clear h49
            gi_wp2_with (refine ⟨trivial, (fun h => by cases h), ?_⟩; gi_at_call 29; refine (CallsIn.inRound l (callsIn_wide.2 (same_mk s x.1.2.2 _ (by omega) (by omega)))).mono ?_; rintro e w' ⟨rfl, nd3, rfl⟩; rw [H6.out])
            have hv : (if s.getD x.1.2.2.length 0 == 49 then -x.1.2.1 else x.1.2.1) = -x.1.2.1 := by rw [Hch.out, H49.out]; rfl
            obtain ⟨o6, o7, o8, o9, ob, ok⟩ := ((HI.out.res.drewN nd3).far Bx 1 (.int .i64 (-x.1.2.1)) (by omega)).set5 x.1.1 (-x.1.2.1) ((x.1.2.2.length : Int) + 1) false 0 _ rfl
            exact ⟨KeepsOthers.from ((ko_drewN W nd3).trans ((KeepsOthers.setCell _ _ _).trans ok)) _, rfl, ⟨pre, x, rfl, by simp [hitB, H6.out, hle'], HI.out.nohit, by rw [hv]; exact o6, o7, o8, o9⟩, ob⟩
          · have ht : ((ch.toNat : Int) == 49) = false := by
              rw [beq_eq_false_iff_ne]
              intro h
              exact h49 (UInt8.toNat_inj.1 (by rw [show (49 : UInt8).toNat = 49 from rfl]; omega))
            have H49 := Lib.hid h49
            clear h49
            gi_wp2_with (refine ⟨trivial, (fun h => by cases h), ?_⟩; gi_at_call 29; refine (CallsIn.inRound l (callsIn_wide.2 (same_mk s x.1.2.2 _ (by omega) (by omega)))).mono ?_; rintro e w' ⟨rfl, nd3, rfl⟩; rw [H6.out])
            have hv : (if s.getD x.1.2.2.length 0 == 49 then -x.1.2.1 else x.1.2.1) = x.1.2.1 := by rw [Hch.out]; simp [H49.out]
            obtain ⟨o6, o7, o8, o9, ob, ok⟩ := (HI.out.res.drewN nd3).set5 x.1.1 x.1.2.1 ((x.1.2.2.length : Int) + 1) false 0 _ rfl
            exact ⟨KeepsOthers.from ((ko_drewN W nd3).trans ok) _, rfl, ⟨pre, x, rfl, by simp [hitB, H6.out, hle'], HI.out.nohit, by rw [hv]; exact o6, o7, o8, o9⟩, ob⟩
    case doneF =>
      intro D xs W hD hS hI hK
      obtain rfl : xs = tabG false := hS
      subst hTM
      have k12 : W.cell? ⟨w5.heap.size + 1, 0, none⟩ = some (.bool ((sameL s [49, 48]) || (tabG false).any (nearB s))) := by rw [Lib.cell_of_heap hI.cm]; rfl
      obtain ⟨c60, c61, c70, c80, c90, f6, f7, f8, f9⟩ := hI.res.cells
      have hDw : w.heap.size ≤ D := Nat.le_trans hRl.bel.size hD
      have hfind : (tabG false).find? (hitB s) = none := List.find?_eq_none.2 (fun x hx => by rw [hI.nohit x hx]; simp)
      have HG : Hid (getT s false = if ((sameL s [49, 48]) || (tabG false).any (nearB s)) = true then (0, 0, false, 0, 5) else (0, 0, false, 0, 7)) := Lib.hid (by
        unfold getT
        rw [hfind]
        rfl)
      have HI := Lib.hid hI
      have HK := Lib.hid hK
      clear hI hK hfind
      generalize ((sameL s [49, 48]) || (tabG false).any (nearB s)) = mm at k12 HG
      cases mm with
      | true =>
        gi_wp2
        obtain ⟨o6, o7, o8, o9, ob, ok⟩ := HI.out.res.set5 0 0 0 false 5 _ rfl
        have hKD := ok.same D _ HK.out rfl
        refine ⟨by simp, .inl ⟨_, _, rfl, run_takeDeferred hKD, ?_⟩⟩
        have p6 := put_keeps (o' := .deferred none) hKD rfl o6
        have p7 := put_keeps (o' := .deferred none) hKD rfl o7
        have p8 := put_keeps (o' := .deferred none) hKD rfl o8
        have p9 := put_keeps (o' := .deferred none) hKD rfl o9
        have ob2 := ob.grown (grownBy_putObj' _ D (.deferred none)) ob.size (fun k e => by cases e; omega)
        generalize World.putObj _ D _ = W9 at p6 p7 p8 p9 ob2 ⊢
        have q60 := Lib.cell_of_heap p6 0
        have q61 := Lib.cell_of_heap p6 1
        have q7 := Lib.cell_of_heap p7 0
        have q8 := Lib.cell_of_heap p8 0
        have q9 := Lib.cell_of_heap p9 0
        refine ⟨.tuple #[.agg #[.int .i64 0, .int .i64 0], .bool false, .int .i64 0, .int .i64 5], by simp [results, Tryd.results11, go_sem, q60, q61, q7, q8, q9], ?_, ob2⟩
        rw [HG.out]
        rfl
      | false =>
        gi_wp2
        obtain ⟨o6, o7, o8, o9, ob, ok⟩ := HI.out.res.set5 0 0 0 false 7 _ rfl
        have hKD := ok.same D _ HK.out rfl
        refine ⟨by simp, .inl ⟨_, _, rfl, run_takeDeferred hKD, ?_⟩⟩
        have p6 := put_keeps (o' := .deferred none) hKD rfl o6
        have p7 := put_keeps (o' := .deferred none) hKD rfl o7
        have p8 := put_keeps (o' := .deferred none) hKD rfl o8
        have p9 := put_keeps (o' := .deferred none) hKD rfl o9
        have ob2 := ob.grown (grownBy_putObj' _ D (.deferred none)) ob.size (fun k e => by cases e; omega)
        generalize World.putObj _ D _ = W9 at p6 p7 p8 p9 ob2 ⊢
        have q60 := Lib.cell_of_heap p6 0
        have q61 := Lib.cell_of_heap p6 1
        have q7 := Lib.cell_of_heap p7 0
        have q8 := Lib.cell_of_heap p8 0
        have q9 := Lib.cell_of_heap p9 0
        refine ⟨.tuple #[.agg #[.int .i64 0, .int .i64 0], .bool false, .int .i64 0, .int .i64 7], by simp [results, Tryd.results11, go_sem, q60, q61, q7, q8, q9], ?_, ob2⟩
        rw [HG.out]
        rfl
    case stopF =>
      intro D cd pre W hD hSp hO hK
      obtain ⟨rfl, hO⟩ := hO
      subst hTM
      have hDw : w.heap.size ≤ D := Nat.le_trans hRl.bel.size hD
      obtain ⟨⟨p', x, rfl, hx, hp', o6, o7, o8, o9⟩, ob⟩ := hO
      have hfind : (tabG false).find? (hitB s) = some x := by
        obtain ⟨tl, htl⟩ := hSp
        rw [← htl, List.append_assoc, List.find?_append, List.find?_eq_none.2 (fun y hy => by rw [hp' y hy]; simp)]
        simp [hx]
      have HG : Hid (getT s false = (x.1.1, if s.getD x.1.2.2.length 0 == 49 then -x.1.2.1 else x.1.2.1, false, (x.1.2.2.length : Int) + 1, 0)) := Lib.hid (by
        unfold getT
        rw [hfind])
      clear hfind hp' hx
      generalize (if s.getD x.1.2.2.length 0 == 49 then -x.1.2.1 else x.1.2.1) = lv at o6 HG
      have p6 := put_keeps (o' := .deferred none) hK rfl o6
      have p7 := put_keeps (o' := .deferred none) hK rfl o7
      have p8 := put_keeps (o' := .deferred none) hK rfl o8
      have p9 := put_keeps (o' := .deferred none) hK rfl o9
      have ob2 := ob.grown (grownBy_putObj' _ D (.deferred none)) ob.size (fun k e => by cases e; omega)
      have HK := Lib.hid hK
      clear hK
      gi_wp2
      refine ⟨by simp, .inl ⟨_, _, rfl, run_takeDeferred HK.out, ?_⟩⟩
      generalize World.putObj _ D _ = W9 at p6 p7 p8 p9 ob2 ⊢
      have q60 := Lib.cell_of_heap p6 0
      have q61 := Lib.cell_of_heap p6 1
      have q7 := Lib.cell_of_heap p7 0
      have q8 := Lib.cell_of_heap p8 0
      have q9 := Lib.cell_of_heap p9 0
      refine ⟨.tuple #[.agg #[.int .i64 x.1.1, .int .i64 lv], .bool false, .int .i64 ((x.1.2.2.length : Int) + 1), .int .i64 0], by simp [results, Tryd.results11, go_sem, q60, q61, q7, q8, q9], ?_, ob2⟩
      rw [HG.out]
      rfl
end Go.Proofs.YtdhehfgmhkgbpaaDoorH
