/- Contracts of coeff.rows, and of the iterator that coeff.table hands back. -/
import Derived.Test.YtdhehfgmhkgbpaaDoorHShelf
import Derived.Test.YtdhehfgmhkgbpaaDoorHBits
import Derived.RangeFuncNested
import Derived.RangeFuncBound
import Derived.RangeFuncCalls
import Derived.RangeFuncLeaves
import Derived.Shelf.Abstract
import Derived.Shelf.RegionOpen
import Derived.OwnWalkIn
import Derived.TacticsInMore
import Derived.LoopNIn
import Derived.LoopIn
namespace Go.Proofs.YtdhehfgmhkgbpaaDoorH
open Go.RowKit Go.Shelf Go.Proofs.YtdhehfgmhkgbpaaDoorW.PrintWords
attribute [local go_sem] Oper.semAt_some

/-- The table's rows, as the program has them. -/
def rowsL : List (List UInt8) := [
  [49, 49, 32, 48, 49, 48, 48, 32, 48, 48, 49, 48, 49, 32, 48, 48, 48, 48, 49, 49, 48, 32, 48, 48, 49, 48, 48, 49, 49, 48, 32, 48, 48, 49, 48, 48, 48, 48, 49, 32, 48, 48, 48, 48, 48, 48, 49, 48, 49, 48, 32, 48, 48, 48, 48, 48, 48, 48, 49, 49, 49, 48, 49, 32, 48, 48, 48, 48, 48, 48, 48, 49, 49, 48, 48, 48, 32, 48, 48, 48, 48, 48, 48, 48, 49, 48, 48, 49, 49, 32, 48, 48, 48, 48, 48, 48, 48, 49, 48, 48, 48, 48, 32, 48, 48, 48, 48, 48, 48, 48, 48, 49, 49, 48, 49, 48, 32, 48, 48, 48, 48, 48, 48, 48, 48, 49, 49, 48, 48, 49, 32, 48, 48, 48, 48, 48, 48, 48, 48, 49, 49, 48, 48, 48, 32, 48, 48, 48, 48, 48, 48, 48, 48, 49, 48, 49, 49, 49],
  [48, 49, 49, 32, 48, 48, 48, 49, 49, 48, 32, 48, 48, 49, 48, 48, 49, 48, 49, 32, 48, 48, 48, 48, 48, 48, 49, 49, 48, 48, 32, 48, 48, 48, 48, 48, 48, 48, 49, 49, 48, 49, 49, 32, 48, 48, 48, 48, 48, 48, 48, 48, 49, 48, 49, 49, 48, 32, 48, 48, 48, 48, 48, 48, 48, 48, 49, 48, 49, 48, 49],
  [48, 49, 48, 49, 32, 48, 48, 48, 48, 49, 48, 48, 32, 48, 48, 48, 48, 48, 48, 49, 48, 49, 49, 32, 48, 48, 48, 48, 48, 48, 48, 49, 48, 49, 48, 48, 32, 48, 48, 48, 48, 48, 48, 48, 48, 49, 48, 49, 48, 48],
  [48, 48, 49, 49, 49, 32, 48, 48, 49, 48, 48, 49, 48, 48, 32, 48, 48, 48, 48, 48, 48, 48, 49, 49, 49, 48, 48, 32, 48, 48, 48, 48, 48, 48, 48, 48, 49, 48, 48, 49, 49],
  [48, 48, 49, 49, 48, 32, 48, 48, 48, 48, 48, 48, 49, 49, 49, 49, 32, 48, 48, 48, 48, 48, 48, 48, 49, 48, 48, 49, 48],
  [48, 48, 48, 49, 49, 49, 32, 48, 48, 48, 48, 48, 48, 49, 48, 48, 49, 32, 48, 48, 48, 48, 48, 48, 48, 48, 49, 48, 48, 49, 48],
  [48, 48, 48, 49, 48, 49, 32, 48, 48, 48, 48, 48, 48, 48, 49, 49, 49, 49, 48],
  [48, 48, 48, 49, 48, 48, 32, 48, 48, 48, 48, 48, 48, 48, 49, 48, 49, 48, 49],
  [48, 48, 48, 48, 49, 49, 49, 32, 48, 48, 48, 48, 48, 48, 48, 49, 48, 48, 48, 49],
  [48, 48, 48, 48, 49, 48, 49, 32, 48, 48, 48, 48, 48, 48, 48, 48, 49, 48, 48, 48, 49],
  [48, 48, 49, 48, 48, 49, 49, 49, 32, 48, 48, 48, 48, 48, 48, 48, 48, 49, 48, 48, 48, 48],
  [48, 48, 49, 48, 48, 48, 49, 49],
  [48, 48, 49, 48, 48, 48, 49, 48],
  [48, 48, 49, 48, 48, 48, 48, 48],
  [48, 48, 48, 48, 48, 48, 49, 49, 49, 48],
  [48, 48, 48, 48, 48, 48, 49, 49, 48, 49],
  [48, 48, 48, 48, 48, 48, 49, 48, 48, 48],
  [48, 48, 48, 48, 48, 48, 48, 49, 49, 49, 49, 49],
  [48, 48, 48, 48, 48, 48, 48, 49, 49, 48, 49, 48],
  [48, 48, 48, 48, 48, 48, 48, 49, 49, 48, 48, 49],
  [48, 48, 48, 48, 48, 48, 48, 49, 48, 49, 49, 49],
  [48, 48, 48, 48, 48, 48, 48, 49, 48, 49, 49, 48],
  [48, 48, 48, 48, 48, 48, 48, 48, 49, 49, 49, 49, 49],
  [48, 48, 48, 48, 48, 48, 48, 48, 49, 49, 49, 49, 48],
  [48, 48, 48, 48, 48, 48, 48, 48, 49, 49, 49, 48, 49],
  [48, 48, 48, 48, 48, 48, 48, 48, 49, 49, 49, 48, 48],
  [48, 48, 48, 48, 48, 48, 48, 48, 49, 49, 48, 49, 49]]

theorem rows_calls (w : World) :
    Calls Tryd.prog 51 #[] w fun e w' => e = .returned (.slice (some ⟨w.heap.size, 0, none⟩) 27 27) ∧ w.alloc (.cells (rowsL.map fun l => Value.string ⟨l.toArray⟩).toArray 9) = w' := by
  go_enter Tryd.func51, Tryd.ntmps51
  go_wp2
  go_ret
  exact ⟨rfl, rfl⟩

/-- A pair above 0 and its code. -/
abbrev Item := Int × Int × List UInt8
def goodB (x : Item) : Bool := decide (0 ≤ x.1) && decide (x.1 ≤ 63) && decide (1 ≤ x.2.1) && decide (x.2.1 ≤ 127) && decide (1 ≤ x.2.2.length) && decide (x.2.2.length ≤ 13)
abbrev GItem := { x : Item // goodB x = true }
def encI (x : GItem) : Array Value := #[.agg #[.int .i64 x.1.1, .int .i64 x.1.2.1], .string ⟨x.1.2.2.toArray⟩]
def rowF (r : Nat) : List (List UInt8) := Lib.fields (rowsL.getD r [])
def nF (r : Nat) : Nat := (rowF r).length
def codeAt (first : Bool) (r i : Nat) : List UInt8 := if first && r == 0 && i == 0 then [49] else (rowF r).getD i []
def item (first : Bool) (r i : Nat) : Item := ((r : Int), (i : Int) + 1, codeAt first r i)
theorem item_good : ∀ first : Bool, ∀ r, r < 27 → ∀ i, i < nF r → goodB (item first r i) = true := by decide +kernel
def gitem (first : Bool) (r i : Nat) : GItem := if h : goodB (item first r i) = true then ⟨item first r i, h⟩ else ⟨(0, 1, [49]), by decide⟩
theorem gitem_val (first : Bool) (r i : Nat) (hr : r < 27) (hi : i < nF r) : gitem first r i = ⟨item first r i, item_good first r hr i hi⟩ := by
  unfold gitem
  rw [dif_pos (item_good first r hr i hi)]
def rowG (first : Bool) (r : Nat) : List GItem := (List.range (nF r)).map (gitem first r)
def preG (first : Bool) (r i : Nat) : List GItem := (List.range r).flatMap (rowG first) ++ (List.range i).map (gitem first r)
/-- All that the iterator hands on. -/
def tabG (first : Bool) : List GItem := preG first 27 0
theorem preG_succ (first : Bool) (r i : Nat) : preG first r (i + 1) = preG first r i ++ [gitem first r i] := by simp [preG, List.range_succ]
theorem preG_next (first : Bool) (r : Nat) : preG first r (nF r) = preG first (r + 1) 0 := by simp [preG, List.range_succ, rowG]
theorem preG_length (first : Bool) (r i : Nat) : (preG first r i).length = ((List.range r).map nF).sum + i := by simp [preG, rowG, List.length_flatMap]
theorem pre_small : ∀ r, r < 27 → ∀ i, i < nF r → ((List.range r).map nF).sum + i < 100 := by decide +kernel
theorem range_prefix {a b : Nat} (h : a ≤ b) : List.range a <+: List.range b := by
  obtain ⟨d, rfl⟩ := Nat.le.dest h
  exact ⟨(List.range d).map (a + ·), (List.range_add ..).symm⟩
theorem preG_prefix (first : Bool) (r i : Nat) (hr : r < 27) (hi : i < nF r) : preG first r (i + 1) <+: tabG first := by
  have h1 : preG first r (i + 1) <+: preG first (r + 1) 0 := by
    rw [← preG_next]
    unfold preG
    exact (List.prefix_append_right_inj _).2 ((range_prefix hi).map _)
  refine h1.trans ?_
  unfold tabG preG
  obtain ⟨d, hd⟩ := range_prefix (show r + 1 ≤ 27 by omega)
  rw [← hd, List.flatMap_append]
  simp
theorem rows_ascii : ∀ r, r < 27 → ∀ j, j < (rowsL.getD r []).length → ((rowsL.getD r []).getD j 0).toNat < 128 := by decide +kernel
theorem rows_short : ∀ r, r < 27 → (rowsL.getD r []).length ≤ 1000 := by decide +kernel
theorem nF_small : ∀ r, r < 27 → nF r ≤ 20 := by decide +kernel


/-- The library's table is as it was laid. -/
def LaidA (w : World) : Prop := ∃ t z, w.heap[0]? = some (.cells (Lib.asciiSpaceTab.map (Value.int .u8)).toArray t z)
theorem LaidA.tab {w : World} (h : LaidA w) : Lib.TabIs Tryd.prog w "strings.asciiSpace" .u8 Lib.asciiSpaceTab := by
  obtain ⟨t, z, h⟩ := h
  have hg : Tryd.prog.globalNamed "strings.asciiSpace" = some 0 := by kernel_rfl
  unfold Lib.TabIs World.var?
  rw [hg]
  simp only [Option.bind_some, h]
theorem LaidA.below {w W : World} (h : LaidA w) (hb : Below w.heap.size w W) : LaidA W := by
  obtain ⟨t, z, h⟩ := h
  exact ⟨t, z, by rw [hb.block _ (Array.getElem?_eq_some_iff.1 h).1]; exact h⟩

/-- All rows of cells stand, but those that S names. -/
def KeepC (S : Nat → Prop) (W W' : World) : Prop := W.heap.size ≤ W'.heap.size ∧ ∀ i c t f, ¬ S i → W.heap[i]? = some (.cells c t f) → W'.heap[i]? = some (.cells c t f)
theorem KeepC.refl (S : Nat → Prop) (W : World) : KeepC S W W := ⟨Nat.le_refl _, fun _ _ _ _ _ h => h⟩
theorem KeepC.trans {S : Nat → Prop} {A B C : World} (h : KeepC S A B) (k : KeepC S B C) : KeepC S A C :=
  ⟨Nat.le_trans h.1 k.1, fun i c t f hn hc => k.2 i c t f hn (h.2 i c t f hn hc)⟩
theorem KeepC.below {S : Nat → Prop} {W W' : World} (h : Below W.heap.size W W') : KeepC S W W' :=
  ⟨h.size, fun i c t f _ hc => by rw [h.block _ (Array.getElem?_eq_some_iff.1 hc).1]; exact hc⟩
theorem KeepC.put {S : Nat → Prop} (W : World) (l : Nat) (o o' : Obj) (h : W.heap[l]? = some o) (ho : o.isCells = false) : KeepC S W (W.putObj l o') :=
  ⟨by simp, fun i c t f _ hc => by
    have : i ≠ l := fun e => by subst e; rw [h] at hc; cases hc; simp [Obj.isCells] at ho
    rw [World.putObj_heap_other this]; exact hc⟩
theorem KeepC.setCell {S : Nat → Prop} (W : World) (b : Nat) (hb : S b) (o : Nat) (v : Value) : KeepC S W (W.setCell ⟨b, o, none⟩ v) :=
  ⟨by simp, fun i c t f hn hc => by rw [Below.heap_setCell _ _ _ _ (fun e => hn (by subst e; exact hb))]; exact hc⟩

theorem LaidA.keep {S : Nat → Prop} {w W : World} (h : LaidA w) (hk : KeepC S w W) (hS : ¬ S 0) : LaidA W := by
  obtain ⟨t, z, h⟩ := h
  exact ⟨t, z, hk.2 _ _ _ _ hS h⟩
theorem fields_row (r : Nat) (hr : r < 27) (w : World) (hT : LaidA w) :
    Calls Tryd.prog 52 #[.string ⟨(rowsL.getD r []).toArray⟩] w fun e w' => e = .returned (.slice (some ⟨w.heap.size, 0, none⟩) (nF r) (nF r)) ∧
      w.alloc (.cells ((rowF r).map fun l => Value.string ⟨l.toArray⟩).toArray 9) = w' := by
  have h := Tryd.strings_Fields ⟨(rowsL.getD r []).toArray⟩ w (by have := rows_short r hr; show (rowsL.getD r []).toArray.size < _; simp only [List.size_toArray]; omega)
    (fun j b hj => by
      have hj' : (rowsL.getD r [])[j]? = some b := hj
      obtain ⟨hl, hb⟩ := List.getElem?_eq_some_iff.1 hj'
      have := rows_ascii r hr j hl
      rw [List.getD_eq_getElem?_getD, hj'] at this
      exact this) hT.tab
  exact h.mono fun e w' ⟨he, hw⟩ => ⟨he, hw.symm⟩

set_option maxHeartbeats 1000000 in
theorem table1_in (n l Bc tc : Nat) (fc : Nat × Nat) (first : Bool) (S : Nat → Prop) (J Jx : List GItem → World → Prop) (W : World) (hJ : AbidesFrom W.heap.size J) (_hJx : AbidesFrom W.heap.size Jx)
    (hS : ∀ i, S i → i < W.heap.size ∧ i ≠ Bc ∧ i ≠ 0) (hBc : W.heap[Bc]? = some (.cells #[.bool first] tc fc)) (hT : LaidA W)
    (hY : ∀ pre x W1, J pre W1 → pre.length < 100 → YieldAt Fence.wide (n - 1) Tryd.prog l (encI x) W1 fun e W' =>
      (e = .returned (.bool true) ∧ J (pre ++ [x]) W' ∧ KeepC S W1 W') ∨ (e = .returned (.bool false) ∧ Jx (pre ++ [x]) W'))
    (h0 : J [] W) :
    CallsIn Fence.wide n Tryd.prog 50 #[.func (.yield l) #[] #[], .pointer (some ⟨Bc, 0, none⟩)] W fun e W' => (∃ v, e = .returned v) ∧
      ((∃ ys, ys = tabG first ∧ J ys W') ∨ (∃ pre, pre <+: tabG first ∧ Jx pre W')) := by
  refine callsIn_of_wp Tryd.func50 rfl trivial ?_ rfl
  simp only [Tryd.ntmps50, List.size_toArray, List.length_cons, List.length_nil, Nat.reduceAdd, Nat.reduceSub, Array.replicate_succ, Array.replicate_zero, List.push_toArray, List.append_toArray, List.nil_append, List.cons_append]
  gi_wp2_with (refine ⟨trivial, (fun h => by cases h), ?_⟩; gi_at_call 51; refine (callsIn_wide.2 (rows_calls _)).mono ?_; rintro e w' ⟨rfl, rfl⟩)
  obtain ⟨W0, hW0⟩ : ∃ W0, W.alloc (.cells (rowsL.map fun l => Value.string ⟨l.toArray⟩).toArray 9) = W0 := ⟨_, rfl⟩
  have hb0 : Below W.heap.size W W0 := by rw [← hW0]; exact (Below.refl _ W).alloc (Nat.le_refl _) _
  have hsz0 : W0.heap.size = W.heap.size + 1 := by rw [← hW0]; simp
  have hrow0 : W0.heap[W.heap.size]? = some (.cells (rowsL.map fun l => Value.string ⟨l.toArray⟩).toArray 9 (0, 0)) := by rw [← hW0]; exact World.alloc_heap_new W _
  have hJ0 : J (preG first 0 0) W0 := by rw [← hW0]; exact hJ _ _ _ none h0 (World.grownBy_alloc W _ none) (fun r e => by cases e)
  have hBc0 : W0.heap[Bc]? = some (.cells #[.bool first] tc fc) := by rw [hb0.block _ (Array.getElem?_eq_some_iff.1 hBc).1]; exact hBc
  have hT0 : LaidA W0 := hT.below hb0
  rw [hW0]
  have HJ0 := Lib.hid hJ0
  have Hrow0 := Lib.hid hrow0
  have HBc0 := Lib.hid hBc0
  have HT0 := Lib.hid hT0
  have HS := Lib.hid hS
  have HJ := Lib.hid hJ
  have HY := Lib.hid hY
  have HZ := Lib.hid hsz0
  clear hJ0 hrow0 hBc0 hT0 hS hW0 hBc hT h0 hJ hY hsz0 _hJx
  gi_loopw [9] (fun s9 wr => ∃ r : Nat, r ≤ 27 ∧ s9 = .int .i64 r ∧ Hid (J (preG first r 0) wr ∧ KeepC S W0 wr)) (fun s9 _ => 27 - (intOf s9).toNat)
  case atStart => exact ⟨0, by omega, rfl, Lib.hid ⟨HJ0.out, KeepC.refl _ _⟩⟩
  case round =>
    obtain ⟨r, hr, rfl, hh⟩ := hrel
    obtain ⟨wo, rfl⟩ : ∃ wo : World, wo = wr := ⟨_, rfl⟩
    by_cases hlt : r < 27
    · have hcell : wo.cell? ⟨W.heap.size, r, none⟩ = some (.string ⟨(rowsL.getD r []).toArray⟩) := by
        have h := hh.out.2.2 _ _ _ _ (fun hs => absurd (HS.out _ hs).1 (by omega)) Hrow0.out
        simp only [World.cell?, h]
        simp [List.getElem?_eq_getElem (show r < rowsL.length from hlt)]
      have hT2 : LaidA wo := HT0.out.keep hh.out.2 (fun hs => (HS.out _ hs).2.2 rfl)
      have HT2 := Lib.hid hT2
      clear hT2
      generalize hrowe : rowsL.getD r [] = row at hcell
      have HR := Lib.hid hrowe
      clear hrowe
      gi_wp2_with (refine ⟨trivial, (fun h => by cases h), ?_⟩; gi_at_call 52; rw [← HR.out]; refine (callsIn_wide.2 (fields_row r hlt _ HT2.out)).mono ?_; rintro e w' ⟨rfl, rfl⟩)
      obtain ⟨W2, hW2⟩ : ∃ W2, wo.alloc (.cells ((rowF r).map fun l => Value.string ⟨l.toArray⟩).toArray 9) = W2 := ⟨_, rfl⟩
      have hb2 : Below wo.heap.size wo W2 := by rw [← hW2]; exact (Below.refl _ wo).alloc (Nat.le_refl _) _
      have hK2 : KeepC S W0 W2 := hh.out.2.trans (KeepC.below hb2)
      have hrow2 : W2.heap[wo.heap.size]? = some (.cells ((rowF r).map fun l => Value.string ⟨l.toArray⟩).toArray 9 (0, 0)) := by rw [← hW2]; exact World.alloc_heap_new wo _
      have hge : W.heap.size < wo.heap.size := by have := hh.out.2.1; have := HZ.out; omega
      have hJ2 : J (preG first r 0) W2 := by rw [← hW2]; exact HJ.out _ _ _ none hh.out.1 (World.grownBy_alloc wo _ none) (fun r e => by cases e)
      rw [hW2]
      have HK2 := Lib.hid hK2
      have Hrow2 := Lib.hid hrow2
      have HJ2 := Lib.hid hJ2
      have hnF := nF_small r hlt
      clear hK2 hrow2 hJ2 hb2 hW2 hcell
      gi_loopw [17] (fun s17 wr2 => ∃ i : Nat, i ≤ nF r ∧ s17 = .int .i64 i ∧ Hid (J (preG first r i) wr2 ∧ KeepC S W2 wr2)) (fun s17 _ => nF r - (intOf s17).toNat)
      case atStart => exact ⟨0, by omega, rfl, Lib.hid ⟨HJ2.out, KeepC.refl _ _⟩⟩
      case round =>
        obtain ⟨i, hi, rfl, hh2⟩ := hrel
        by_cases hil : i < nF r
        · have hcell2 : wr.cell? ⟨wo.heap.size, i, none⟩ = some (.string ⟨((rowF r).getD i []).toArray⟩) := by
            have h := hh2.out.2.2 _ _ _ _ (fun hs => absurd (HS.out _ hs).1 (by omega)) Hrow2.out
            simp only [World.cell?, h]
            have hil' : i < (rowF r).length := hil
            simp [List.getElem?_eq_getElem hil', List.getD_eq_getElem?_getD]
          have hcellB : wr.cell? ⟨Bc, 0, none⟩ = some (.bool first) := by
            have h := hh2.out.2.2 _ _ _ _ (fun hs => (HS.out _ hs).2.1 rfl) (HK2.out.2 _ _ _ _ (fun hs => (HS.out _ hs).2.1 rfl) HBc0.out)
            simp only [World.cell?, h]
            rfl
          obtain ⟨fn, tmps, assign, body, hy, hR⟩ := HY.out (preG first r i) (gitem first r i) wr hh2.out.1 (by rw [preG_length]; exact pre_small r hlt i hil)
          rw [gitem_val first r i hlt hil] at hy
          have hy2 : (Instr.yield l #[.agg #[.int .i64 r, .int .i64 ((i : Int) + 1)], .string ⟨(codeAt first r i).toArray⟩]).run Tryd.prog wr = .ok (.round l fn tmps assign body) wr := hy
          have HRd := Lib.hid hR
          clear hy hR
          obtain ⟨cd, hcd⟩ : ∃ cd, (rowF r).getD i [] = cd := ⟨_, rfl⟩
          rw [hcd] at hcell2
          have hca : codeAt first r i = if first && r == 0 && i == 0 then [49] else cd := by unfold codeAt; rw [hcd]
          have HCA := Lib.hid hca
          clear hcd hca
          cases first with
          | false =>
            have hcc : codeAt false r i = cd := HCA.out
            rw [hcc] at hy2
            clear hcc
            gi_wp2
            refine ⟨fun h => (by cases h), HRd.out.mono ?_⟩
            clear HRd hy2
            rintro e W3 (⟨rfl, hJ3, hk3⟩ | ⟨rfl, hJx3⟩)
            · have H3 : Hid (J (preG false r (i + 1)) W3 ∧ KeepC S W2 W3) := Lib.hid ⟨by rw [preG_succ]; exact hJ3, hh2.out.2.trans hk3⟩
              clear hJ3 hk3
              gi_wp2
              go_roundw
              case rel => exact ⟨i + 1, by omega, by go_num, H3⟩
              case measure => simp [intOf]; omega
            · have H3 : Hid (Jx (preG false r (i + 1)) W3) := Lib.hid (by rw [preG_succ]; exact hJx3)
              clear hJx3
              gi_wp2
              refine bodyPost_ret (results_none rfl _ _ _) rfl ?_
              exact ⟨⟨_, rfl⟩, .inr ⟨preG false r (i + 1), preG_prefix false r i hlt hil, H3.out⟩⟩
          | true =>
            by_cases hr0 : r = 0
            · have hb1 : ((r : Int) == 0) = true := by simp [hr0]
              by_cases hi0 : i = 0
              · have hb2 : ((i : Int) == 0) = true := by simp [hi0]
                have hcc : codeAt true r i = [49] := by rw [HCA.out]; simp [hr0, hi0]
                rw [hcc] at hy2
                clear hcc hr0 hi0
                gi_wp2
                refine ⟨fun h => (by cases h), HRd.out.mono ?_⟩
                clear HRd hy2
                rintro e W3 (⟨rfl, hJ3, hk3⟩ | ⟨rfl, hJx3⟩)
                · have H3 : Hid (J (preG true r (i + 1)) W3 ∧ KeepC S W2 W3) := Lib.hid ⟨by rw [preG_succ]; exact hJ3, hh2.out.2.trans hk3⟩
                  clear hJ3 hk3
                  gi_wp2
                  go_roundw
                  case rel => exact ⟨i + 1, by omega, by go_num, H3⟩
                  case measure => simp [intOf]; omega
                · have H3 : Hid (Jx (preG true r (i + 1)) W3) := Lib.hid (by rw [preG_succ]; exact hJx3)
                  clear hJx3
                  gi_wp2
                  refine bodyPost_ret (results_none rfl _ _ _) rfl ?_
                  exact ⟨⟨_, rfl⟩, .inr ⟨preG true r (i + 1), preG_prefix true r i hlt hil, H3.out⟩⟩
              · have hb2 : ((i : Int) == 0) = false := by simp; omega
                have hcc : codeAt true r i = cd := by rw [HCA.out]; simp [hi0]
                rw [hcc] at hy2
                clear hcc hr0 hi0
                gi_wp2
                refine ⟨fun h => (by cases h), HRd.out.mono ?_⟩
                clear HRd hy2
                rintro e W3 (⟨rfl, hJ3, hk3⟩ | ⟨rfl, hJx3⟩)
                · have H3 : Hid (J (preG true r (i + 1)) W3 ∧ KeepC S W2 W3) := Lib.hid ⟨by rw [preG_succ]; exact hJ3, hh2.out.2.trans hk3⟩
                  clear hJ3 hk3
                  gi_wp2
                  go_roundw
                  case rel => exact ⟨i + 1, by omega, by go_num, H3⟩
                  case measure => simp [intOf]; omega
                · have H3 : Hid (Jx (preG true r (i + 1)) W3) := Lib.hid (by rw [preG_succ]; exact hJx3)
                  clear hJx3
                  gi_wp2
                  refine bodyPost_ret (results_none rfl _ _ _) rfl ?_
                  exact ⟨⟨_, rfl⟩, .inr ⟨preG true r (i + 1), preG_prefix true r i hlt hil, H3.out⟩⟩
            · have hb1 : ((r : Int) == 0) = false := by simp; omega
              have hcc : codeAt true r i = cd := by rw [HCA.out]; simp [hr0]
              rw [hcc] at hy2
              clear hcc hr0
              gi_wp2
              refine ⟨fun h => (by cases h), HRd.out.mono ?_⟩
              clear HRd hy2
              rintro e W3 (⟨rfl, hJ3, hk3⟩ | ⟨rfl, hJx3⟩)
              · have H3 : Hid (J (preG true r (i + 1)) W3 ∧ KeepC S W2 W3) := Lib.hid ⟨by rw [preG_succ]; exact hJ3, hh2.out.2.trans hk3⟩
                clear hJ3 hk3
                gi_wp2
                go_roundw
                case rel => exact ⟨i + 1, by omega, by go_num, H3⟩
                case measure => simp [intOf]; omega
              · have H3 : Hid (Jx (preG true r (i + 1)) W3) := Lib.hid (by rw [preG_succ]; exact hJx3)
                clear hJx3
                gi_wp2
                refine bodyPost_ret (results_none rfl _ _ _) rfl ?_
                exact ⟨⟨_, rfl⟩, .inr ⟨preG true r (i + 1), preG_prefix true r i hlt hil, H3.out⟩⟩
        · gi_wp2
          go_roundw
          case rel => 
            obtain rfl : i = nF r := by omega
            exact ⟨r + 1, by omega, by go_num, Lib.hid ⟨by rw [← preG_next]; exact hh2.out.1, HK2.out.trans hh2.out.2⟩⟩
          case measure => simp [intOf]; omega
    · gi_wp2
      go_end0
      obtain rfl : r = 27 := by omega
      exact ⟨⟨_, rfl⟩, .inl ⟨_, rfl, hh.out.1⟩⟩

/-- The iterator's contract, as the law of a range over a function asks it. -/
theorem table_stops (n Bc tc : Nat) (fc : Nat × Nat) (first : Bool) (S : Nat → Prop) (w : World)
    (hS : ∀ i, S i → i < w.heap.size ∧ i ≠ Bc ∧ i ≠ 0) (hBc : w.heap[Bc]? = some (.cells #[.bool first] tc fc)) (hT : LaidA w) :
    SeqStopsK Fence.wide n Tryd.prog 50 #[.pointer (some ⟨Bc, 0, none⟩)] encI (KeepC S) (· = tabG first) (· <+: tabG first) 100 w :=
  fun l J Jx W hb hJ hJx hY h0 => table1_in n l Bc tc fc first S J Jx W hJ hJx (fun i hi => ⟨Nat.lt_of_lt_of_le (hS i hi).1 hb.size, (hS i hi).2⟩)
    (by rw [hb.block _ (Array.getElem?_eq_some_iff.1 hBc).1]; exact hBc) (hT.below hb) hY h0

theorem table_calls (first : Bool) (w : World) :
    Calls Tryd.prog 32 #[.bool first] w fun e w' => e = .returned (.func (.func 50) #[] #[.pointer (some ⟨w.heap.size, 0, none⟩)]) ∧ w.alloc (.cells #[.bool first] 4) = w' := by
  go_enter Tryd.func32, Tryd.ntmps32
  go_wp2
  go_ret
  exact ⟨rfl, rfl⟩

end Go.Proofs.YtdhehfgmhkgbpaaDoorH
