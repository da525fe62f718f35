/- Contract of coeff.short: a pair's code without its sign. -/
import Derived.Test.YtdhehfgmhkgbpaaDoorHGetB
namespace Go.Proofs.YtdhehfgmhkgbpaaDoorH
open Go.RowKit Go.Shelf Go.Proofs.YtdhehfgmhkgbpaaDoorW.PrintWords
attribute [local go_sem] Oper.semAt_some

def hitP (run level : Int) (x : GItem) : Bool := x.1.1 == run && (x.1.2.1 == level || x.1.2.1 == wrap64 (-level))
def shortL (run level : Int) (first : Bool) : List UInt8 :=
  match (tabG first).find? (hitP run level) with
  | some x => x.1.2.2
  | none => []

structure InvS (w : World) (run level : Int) (pre : List GItem) (W : World) : Prop where
  b2 : W.heap[w.heap.size]? = some (.cells #[.int .i64 run, .int .i64 level] 26 (0, 0))
  b4 : W.heap[w.heap.size + 1]? = some (.cells #[.string ⟨#[]⟩] 9 (0, 0))
  bel : Below w.heap.size w W
  nohit : ∀ x ∈ pre, hitP run level x = false
structure OutS (w : World) (run level : Int) (pre : List GItem) (W : World) : Prop where
  hit : ∃ p' x, pre = p' ++ [x] ∧ hitP run level x = true ∧ (∀ y ∈ p', hitP run level y = false) ∧
    W.heap[w.heap.size + 1]? = some (.cells #[.string ⟨x.1.2.2.toArray⟩] 9 (0, 0))
  bel : Below w.heap.size w W
theorem InvS.own (w : World) (run level : Int) (B : Nat) (hB : w.heap.size ≤ B) : OwnFrom B (InvS w run level) :=
  fun _ _ _ _ h hg hr => ⟨cells_grown h.b2 hg (fun r e => (hr r e).2), cells_grown h.b4 hg (fun r e => (hr r e).2), h.bel.grown hg h.bel.size (fun k e => by have := (hr k e).1; omega), h.nohit⟩
theorem OutS.own (w : World) (run level : Int) (B : Nat) (hB : w.heap.size ≤ B) : OwnFrom B (OutS w run level) :=
  fun _ _ _ _ h hg hr => by
    obtain ⟨⟨p', x, e, hx, hp, h4⟩, hb⟩ := h
    exact ⟨⟨p', x, e, hx, hp, cells_grown h4 hg (fun r e => (hr r e).2)⟩, hb.grown hg hb.size (fun k e => by have := (hr k e).1; omega)⟩
theorem InvS.alloc {w : World} {run level : Int} {pre : List GItem} {W : World} (h : InvS w run level pre W) (o : Obj) : InvS w run level pre (W.alloc o) :=
  (InvS.own w run level w.heap.size (Nat.le_refl _)) pre W _ none h (World.grownBy_alloc W o none) (fun r e => by cases e)
theorem InvS.miss {w : World} {run level : Int} {pre : List GItem} {W : World} (h : InvS w run level pre W) (x : GItem) (hx : hitP run level x = false) : InvS w run level (pre ++ [x]) W := by
  refine ⟨h.b2, h.b4, h.bel, ?_⟩
  intro y hy
  rcases List.mem_append.1 hy with hy | hy
  · exact h.nohit y hy
  · rw [List.mem_singleton.1 hy]; exact hx
def AxS (TM : Array Value) (M : Nat) (x : GItem) (a' : Act) (W : World) : Prop :=
  ∃ Bx, M + 1 < Bx ∧ W.heap[Bx]? = some (.cells #[.int .i64 x.1.1, .int .i64 x.1.2.1] 26 (0, 0)) ∧
    a' = { tmps := ((((TM.setIfInBounds 9 (.agg #[.int .i64 x.1.1, .int .i64 x.1.2.1])).setIfInBounds 10 (.string ⟨x.1.2.2.toArray⟩)).setIfInBounds 5 (.pointer (some ⟨Bx, 0, none⟩))).setIfInBounds 6 (.string ⟨x.1.2.2.toArray⟩)), defers := [] }
theorem AxS.own (TM : Array Value) (M : Nat) (x : GItem) (a' : Act) (B : Nat) : OwnFrom B (fun (_ : Unit) W => AxS TM M x a' W) :=
  fun _ _ _ _ h hg hr => by
    obtain ⟨Bx, h1, h2, h3⟩ := h
    exact ⟨Bx, h1, cells_grown h2 hg (fun r e => (hr r e).2), h3⟩

set_option maxHeartbeats 4000000 in
set_option maxRecDepth 100000 in
theorem short_in (run level : Int) (first : Bool) (n : Nat) (hn : 1 ≤ n) (w : World) (hT : LaidA w) :
    CallsIn Fence.wide n Tryd.prog 38 #[.agg #[.int .i64 run, .int .i64 level], .bool first] w fun e w' => e = .returned (.string ⟨(shortL run level first).toArray⟩) ∧ Below w.heap.size w w' := by
  have HN := Lib.hid hn
  have HT := Lib.hid hT
  clear hn hT
  refine callsIn_of_wp_marks Tryd.func38 rfl trivial ?_ rfl
  simp only [Tryd.ntmps38, List.size_toArray, List.length_cons, List.length_nil, Nat.reduceAdd, Nat.reduceSub, Array.replicate_succ, Array.replicate_zero, List.push_toArray, List.append_toArray, List.nil_append, List.cons_append]
  gi_wp2_with (refine ⟨trivial, (fun h => by cases h), ?_⟩; gi_at_call 32; refine (callsIn_wide.2 (table_calls first _)).mono ?_; rintro e w' ⟨rfl, rfl⟩)
  refine wpIn_world ?_
  intro Wl hWl
  refine wpIn_tmps ?_
  intro TM hTM
  have hsz : Wl.heap.size = w.heap.size + 1 + 1 + 1 := by rw [hWl]; simp
  have hb2 : Wl.heap[w.heap.size]? = some (.cells #[.int .i64 run, .int .i64 level] 26 (0, 0)) := by
    rw [hWl, Below.heap_alloc _ _ _ (by simp <;> omega), Below.heap_alloc _ _ _ (by simp)]; exact World.alloc_heap_new w _
  have hb4 : Wl.heap[w.heap.size + 1]? = some (.cells #[.string ⟨#[]⟩] 9 (0, 0)) := by
    rw [hWl, Below.heap_alloc _ _ _ (by simp)]
    have := World.alloc_heap_new (w.alloc (.cells #[.int .i64 run, .int .i64 level] 26)) (.cells #[.string ⟨#[]⟩] 9)
    simpa using this
  have hf : Wl.heap[w.heap.size + 1 + 1]? = some (.cells #[.bool first] 4 (0, 0)) := by
    rw [hWl]
    have := World.alloc_heap_new ((w.alloc (.cells #[.int .i64 run, .int .i64 level] 26)).alloc (.cells #[.string ⟨#[]⟩] 9)) (.cells #[.bool first] 4)
    simpa using this
  have hbel : Below w.heap.size w Wl := by rw [hWl]; exact (((Below.refl _ w).alloc (Nat.le_refl _) _).alloc (by simp) _).alloc (by simp; omega) _
  have hTl : LaidA Wl := HT.out.below hbel
  have hGa : 0 < w.heap.size := by obtain ⟨_, _, h⟩ := HT.out; exact (Array.getElem?_eq_some_iff.1 h).1
  have hI0 : InvS w run level [] Wl := ⟨hb2, hb4, hbel, fun _ h => by cases h⟩
  clear hWl hb2 hb4
  refine wpIn_rangeFunc_ownH (Kp := KeepC (fun i => i = w.heap.size + 1)) rfl HN.out (gf := 50) (lb := #[.pointer (some ⟨w.heap.size + 1 + 1, 0, none⟩)]) (by rw [hTM]; rfl) trivial (enters_of Tryd.func50 (by kernel_rfl) rfl)
    (table_stops (n - 1) (w.heap.size + 1 + 1) 4 (0, 0) first _ Wl (fun i hi => by subst hi; refine ⟨by omega, by omega, by omega⟩) hf hTl) (fun h k => h.trans k) (fun W l o o' _ h ho _ => KeepC.put W l o o' h ho) (Below.refl _ _) (fun _ => rfl)
    (InvS w run level) (fun c pre W => c = .ret ∧ OutS w run level pre W) (InvS.own w _ _ _ hbel.size) (fun c s' A B row hs hg hr => ⟨hs.1, OutS.own w _ _ _ hbel.size s' A B row hs.2 hg hr⟩) hI0 (AxS TM w.heap.size) (fun x a' => AxS.own _ _ x a' _) ?assign ?body ?done ?stop
  case assign =>
    intro l pre x W K hI hK
    subst hTM
    dsimp only [encI]
    gi_wp2
    apply hK
    · exact (KeepsOthers.alloc _ _).from _
    · exact KeepC.below ((Below.refl _ W).alloc (Nat.le_refl _) _)
    · exact hI.alloc _
    · refine ⟨W.heap.size, ?_, World.alloc_heap_new W _, rfl⟩
      have := (Array.getElem?_eq_some_iff.1 hI.b4).1
      omega
  case body =>
    intro l pre x a' W hl hlr hI hAx hlt
    obtain ⟨Bx, hBx, hX, ha⟩ := hAx
    subst hTM
    subst ha
    simp only [List.setIfInBounds_toArray, List.set_cons_succ, List.set_cons_zero]
    have HI := Lib.hid hI
    have kx0 : W.cell? ⟨Bx, 0, none⟩ = some (.int .i64 x.1.1) := by rw [Lib.cell_of_heap hX]; rfl
    have kx1 : W.cell? ⟨Bx, 1, none⟩ = some (.int .i64 x.1.2.1) := by rw [Lib.cell_of_heap hX]; rfl
    have k20 : W.cell? ⟨w.heap.size, 0, none⟩ = some (.int .i64 run) := by rw [Lib.cell_of_heap hI.b2]; rfl
    have k21 : W.cell? ⟨w.heap.size, 1, none⟩ = some (.int .i64 level) := by rw [Lib.cell_of_heap hI.b2]; rfl
    have k4 : W.cell? ⟨w.heap.size + 1, 0, none⟩ = some (.string ⟨#[]⟩) := by rw [Lib.cell_of_heap hI.b4]; rfl
    have f4 : W.frozen? ⟨w.heap.size + 1, 0, none⟩ = false := Lib.frozen_of_heap hI.b4 0
    clear hI hX hlr
    cases h1 : (x.1.1 == run) with
    | false =>
      have hh : hitP run level x = false := by simp [hitP, h1]
      have HH := Lib.hid hh
      clear hh
      gi_wp2
      exact ⟨KeepsFrom.refl _ _, KeepC.refl _ _, HI.out.miss x HH.out⟩
    | true =>
      cases h2 : (x.1.2.1 == level) with
      | true =>
        have hh : hitP run level x = true := by simp [hitP, h1, h2]
        have HH := Lib.hid hh
        clear hh
        gi_wp2
        exact ⟨(KeepsOthers.setCell _ _ _).from _, rfl, ⟨pre, x, rfl, HH.out, HI.out.nohit, by simp [World.setCell, Array.getElem?_modify, HI.out.b4]⟩, Below.setCell HI.out.bel (by simp) _⟩
      | false =>
        cases h3 : (x.1.2.1 == wrap64 (-level)) with
        | true =>
          have hh : hitP run level x = true := by simp [hitP, h1, h2, h3]
          have HH := Lib.hid hh
          clear hh
          gi_wp2
          exact ⟨(KeepsOthers.setCell _ _ _).from _, rfl, ⟨pre, x, rfl, HH.out, HI.out.nohit, by simp [World.setCell, Array.getElem?_modify, HI.out.b4]⟩, Below.setCell HI.out.bel (by simp) _⟩
        | false =>
          have hh : hitP run level x = false := by simp [hitP, h2, h3]
          have HH := Lib.hid hh
          clear hh
          gi_wp2
          exact ⟨KeepsFrom.refl _ _, KeepC.refl _ _, HI.out.miss x HH.out⟩
  case done =>
    intro D xs W hD hS hI hK
    obtain rfl : xs = tabG first := hS
    subst hTM
    have hDw : w.heap.size ≤ D := Nat.le_trans hbel.size hD
    have hfind : (tabG first).find? (hitP run level) = none := List.find?_eq_none.2 (fun x hx => by rw [hI.nohit x hx]; simp)
    have HG : Hid (shortL run level first = []) := Lib.hid (by unfold shortL; rw [hfind])
    have k4 : W.cell? ⟨w.heap.size + 1, 0, none⟩ = some (.string ⟨#[]⟩) := by rw [Lib.cell_of_heap hI.b4]; rfl
    have f4 : W.frozen? ⟨w.heap.size + 1, 0, none⟩ = false := Lib.frozen_of_heap hI.b4 0
    have HI := Lib.hid hI
    have HK := Lib.hid hK
    clear hI hK hfind
    gi_wp2
    have o4 : (W.setCell ⟨w.heap.size + 1, 0, none⟩ (.string ⟨#[]⟩)).heap[w.heap.size + 1]? = some (.cells #[.string ⟨#[]⟩] 9 (0, 0)) := by simp [World.setCell, Array.getElem?_modify, HI.out.b4]
    have hKD := (KeepsOthers.setCell W ⟨w.heap.size + 1, 0, none⟩ (.string ⟨#[]⟩)).same D _ HK.out rfl
    have ob := Below.setCell (p := ⟨w.heap.size + 1, 0, none⟩) HI.out.bel (by simp) (.string ⟨#[]⟩)
    refine ⟨by simp, .inl ⟨_, _, rfl, run_takeDeferred hKD, ?_⟩⟩
    have p4 := put_keeps (o' := .deferred none) hKD rfl o4
    have ob2 := ob.grown (grownBy_putObj' _ D (.deferred none)) ob.size (fun k e => by cases e; omega)
    generalize World.putObj _ D _ = W9 at p4 ob2 ⊢
    have q4 := Lib.cell_of_heap p4 0
    refine ⟨.string ⟨#[]⟩, by simp [results, Tryd.results38, go_sem, q4], ?_, ob2⟩
    rw [HG.out]
  case stop =>
    intro D cd pre W hD hSp hO hK
    obtain ⟨rfl, hO⟩ := hO
    subst hTM
    have hDw : w.heap.size ≤ D := Nat.le_trans hbel.size hD
    obtain ⟨⟨p', x, rfl, hx, hp', o4⟩, ob⟩ := hO
    have hfind : (tabG first).find? (hitP run level) = some x := by
      obtain ⟨tl, htl⟩ := hSp
      rw [← htl, List.append_assoc, List.find?_append, List.find?_eq_none.2 (fun y hy => by rw [hp' y hy]; simp)]
      simp [hx]
    have HG : Hid (shortL run level first = x.1.2.2) := Lib.hid (by unfold shortL; rw [hfind])
    clear hfind hp' hx
    have p4 := put_keeps (o' := .deferred none) hK rfl o4
    have ob2 := ob.grown (grownBy_putObj' _ D (.deferred none)) ob.size (fun k e => by cases e; omega)
    have HK := Lib.hid hK
    clear hK
    gi_wp2
    refine ⟨by simp, .inl ⟨_, _, rfl, run_takeDeferred HK.out, ?_⟩⟩
    generalize World.putObj _ D _ = W9 at p4 ob2 ⊢
    have q4 := Lib.cell_of_heap p4 0
    refine ⟨.string ⟨x.1.2.2.toArray⟩, by simp [results, Tryd.results38, go_sem, q4], ?_, ob2⟩
    rw [HG.out]

theorem short_calls (run level : Int) (first : Bool) (w : World) (hT : LaidA w) :
    Calls Tryd.prog 38 #[.agg #[.int .i64 run, .int .i64 level], .bool first] w fun e w' => e = .returned (.string ⟨(shortL run level first).toArray⟩) ∧ Below w.heap.size w w' :=
  callsIn_wide.1 (short_in run level first 3 (by omega) w hT)
end Go.Proofs.YtdhehfgmhkgbpaaDoorH
