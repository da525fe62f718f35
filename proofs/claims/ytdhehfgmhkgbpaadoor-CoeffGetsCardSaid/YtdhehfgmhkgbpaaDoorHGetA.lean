/- What coeff.Get tells, as a plain function; and its walk, but for the table. -/
import Derived.Test.YtdhehfgmhkgbpaaDoorHTable
import Derived.Test.YtdhehfgmhkgbpaaDoorHSeen
import Derived.Test.YtdhehfgmhkgbpaaDoorHNum
import Derived.Test.YtdhehfgmhkgbpaaDoorHSame
namespace Go.Proofs.YtdhehfgmhkgbpaaDoorH
open Go.RowKit Go.Proofs.YtdhehfgmhkgbpaaDoorW.PrintWords

/-- Are two texts the same as far as both go? -/
def sameL (a b : List UInt8) : Bool := a.take (min a.length b.length) == b.take (min a.length b.length)
theorem sameS_mk (a b : List UInt8) : sameS ⟨a.toArray⟩ ⟨b.toArray⟩ = sameL a b := by
  unfold sameS sameL
  have e : ∀ l : List UInt8, (⟨l.toArray⟩ : ByteArray).size = l.length := fun l => by simp [ByteArray.size]
  rw [e, e]
  have h : ∀ (l : List UInt8) (n : Nat), ((⟨l.toArray⟩ : ByteArray).extract 0 n).toList = l.take n := fun l n => by
    rw [ByteArray.toList_eq, Lib.extract_data]
    simp
  rw [h, h]
def escL : List UInt8 := [48, 48, 48, 48, 48, 49]
/-- The number as int8 tells it. -/
def i8 (n : Nat) : Int := if n % 256 < 128 then ((n % 256 : Nat) : Int) else ((n % 256 : Nat) : Int) - 256
def hitB (s : List UInt8) (x : GItem) : Bool := sameL s x.1.2.2 && decide (x.1.2.2.length < s.length)
def nearB (s : List UInt8) (x : GItem) : Bool := sameL s x.1.2.2 && decide (s.length ≤ x.1.2.2.length)
abbrev GetR := Int × Int × Bool × Int × Int
def getT (s : List UInt8) (first : Bool) : GetR :=
  match (tabG first).find? (hitB s) with
  | some x => (x.1.1, if s.getD x.1.2.2.length 0 == 49 then -x.1.2.1 else x.1.2.1, false, (x.1.2.2.length : Int) + 1, 0)
  | none => if (!first && sameL s [49, 48]) || (tabG first).any (nearB s) then (0, 0, false, 0, 5) else (0, 0, false, 0, 7)
def getS (s : List UInt8) (first : Bool) : GetR :=
  if sameL s escL then
    if s.length < 20 then (0, 0, false, 0, 5)
    else if i8 (numL (s.drop 12)) = 0 ∨ i8 (numL (s.drop 12)) = -128 then (0, 0, false, 0, 10)
    else ((numL ((s.drop 6).take 6) : Int), i8 (numL (s.drop 12)), false, 20, 0)
  else if !first && Lib.hasPrefix s [49, 48] then (0, 0, true, 2, 0)
  else getT s first
def getP (l : List Int) (p : Int) (first : Bool) : GetR :=
  if p < 0 then (0, 0, false, 0, 3)
  else if 8 * (l.length : Int) < p then (0, 0, false, 0, 5)
  else getS (seenL l p.toNat (min 20 (8 * l.length - p.toNat))) first
def retG (r : GetR) : Ending := .returned (.tuple #[.agg #[.int .i64 r.1, .int .i64 r.2.1], .bool r.2.2.1, .int .i64 r.2.2.2.1, .int .i64 r.2.2.2.2])

theorem get_neg (A : Option Addr) (c : Nat) (l : List Int) (p : Int) (first : Bool) (w : World) (hp : p < 0) :
    Calls Tryd.prog 11 #[.slice A l.length c, .int .i64 p, .bool first] w fun e w' => e = retG (0, 0, false, 0, 3) ∧ Below w.heap.size w w' := by
  go_enter Tryd.func11, Tryd.ntmps11
  go_wp2
  refine bodyPost_ret (v := .tuple #[.agg #[.int .i64 0, .int .i64 0], .bool false, .int .i64 0, .int .i64 3]) (by simp [results, Tryd.results11, go_sem]) rfl ⟨rfl, ?_⟩
  exact ((((Below.refl _ w).alloc (Nat.le_refl _) _).alloc (by simp) _).alloc (by simp; omega) _).alloc (by simp; omega) _

theorem get_over (A : Option Addr) (c : Nat) (l : List Int) (p : Int) (first : Bool) (w : World) (h0 : 0 ≤ p) (hp : 8 * (l.length : Int) < p) (hl : l.length ≤ 100000000000000) :
    Calls Tryd.prog 11 #[.slice A l.length c, .int .i64 p, .bool first] w fun e w' => e = retG (0, 0, false, 0, 5) ∧ Below w.heap.size w w' := by
  go_enter Tryd.func11, Tryd.ntmps11
  go_wp2_with (go_at_call 27; refine (count_calls _ _ _ _ (by omega)).mono ?_; rintro e w' ⟨rfl, rfl⟩)
  refine bodyPost_ret (v := .tuple #[.agg #[.int .i64 0, .int .i64 0], .bool false, .int .i64 0, .int .i64 5]) (by simp [results, Tryd.results11, go_sem]) rfl ⟨rfl, ?_⟩
  exact ((((Below.refl _ w).alloc (Nat.le_refl _) _).alloc (by simp) _).alloc (by simp; omega) _).alloc (by simp; omega) _

theorem size_mk (s : List UInt8) : (⟨s.toArray⟩ : ByteArray).size = s.length := by simp [ByteArray.size]
theorem same_mk (a b : List UInt8) (w : World) (ha : a.length ≤ 1000000000000) (hb : b.length ≤ 1000000000000) :
    Calls Tryd.prog 29 #[.string ⟨a.toArray⟩, .string ⟨b.toArray⟩] w fun e w' => e = .returned (.bool (sameL a b)) ∧ ∃ n, w' = w.drewN n := by
  have h := same_calls ⟨a.toArray⟩ ⟨b.toArray⟩ w (by rw [size_mk]; exact ha) (by rw [size_mk]; exact hb)
  rw [sameS_mk] at h
  exact h

/-- The four cells of the results, and what lies beside them. -/
abbrev w4 (w : World) : World := (((w.alloc (.cells #[.int .i64 0, .int .i64 0] 26)).alloc (.cells #[.bool false] 4)).alloc (.cells #[.int .i64 0] 3)).alloc (.cells #[.int .i64 0] 27)
structure Res (w W : World) : Prop where
  b6 : W.heap[w.heap.size]? = some (.cells #[.int .i64 0, .int .i64 0] 26 (0, 0))
  b7 : W.heap[w.heap.size + 1]? = some (.cells #[.bool false] 4 (0, 0))
  b8 : W.heap[w.heap.size + 1 + 1]? = some (.cells #[.int .i64 0] 3 (0, 0))
  b9 : W.heap[w.heap.size + 1 + 1 + 1]? = some (.cells #[.int .i64 0] 27 (0, 0))
  big : w.heap.size + 4 ≤ W.heap.size
  bel : Below w.heap.size w W
theorem Res.new (w : World) : Res w (w4 w) := by
  have o : ∀ (W : World) (x : Obj) (k : Nat), k < W.heap.size → (W.alloc x).heap[k]? = W.heap[k]? := fun W x k h => Below.heap_alloc W x k h
  have n : ∀ (W : World) (x : Obj), (W.alloc x).heap[W.heap.size]? = some x := fun W x => World.alloc_heap_new W x
  refine ⟨?_, ?_, ?_, ?_, by simp [w4], ?_⟩
  · rw [o _ _ _ (by simp <;> omega), o _ _ _ (by simp <;> omega), o _ _ _ (by simp)]; exact n _ _
  · rw [o _ _ _ (by simp <;> omega), o _ _ _ (by simp)]; simpa using n (w.alloc (.cells #[.int .i64 0, .int .i64 0] 26)) (.cells #[.bool false] 4)
  · rw [o _ _ _ (by simp)]; simpa using n ((w.alloc (.cells #[.int .i64 0, .int .i64 0] 26)).alloc (.cells #[.bool false] 4)) (.cells #[.int .i64 0] 3)
  · simpa using n (((w.alloc (.cells #[.int .i64 0, .int .i64 0] 26)).alloc (.cells #[.bool false] 4)).alloc (.cells #[.int .i64 0] 3)) (.cells #[.int .i64 0] 27)
  · exact ((((Below.refl _ w).alloc (Nat.le_refl _) _).alloc (by simp) _).alloc (by simp; omega) _).alloc (by simp; omega) _
theorem Res.alloc {w W : World} (h : Res w W) (x : Obj) : Res w (W.alloc x) := by
  have := h.big
  have o : ∀ k, k < W.heap.size → (W.alloc x).heap[k]? = W.heap[k]? := fun k h => Below.heap_alloc W x k h
  refine ⟨?_, ?_, ?_, ?_, by simp; omega, h.bel.alloc (by omega) _⟩
  · rw [o _ (by omega)]; exact h.b6
  · rw [o _ (by omega)]; exact h.b7
  · rw [o _ (by omega)]; exact h.b8
  · rw [o _ (by omega)]; exact h.b9
theorem Res.below {w W W' : World} (h : Res w W) (hb : Below W.heap.size W W') : Res w W' := by
  have := h.big
  refine ⟨?_, ?_, ?_, ?_, Nat.le_trans h.big hb.size, h.bel.trans (hb.mono (by omega))⟩
  · rw [hb.block _ (by omega)]; exact h.b6
  · rw [hb.block _ (by omega)]; exact h.b7
  · rw [hb.block _ (by omega)]; exact h.b8
  · rw [hb.block _ (by omega)]; exact h.b9
theorem Res.cells {w W : World} (h : Res w W) :
    W.cell? ⟨w.heap.size, 0, none⟩ = some (.int .i64 0) ∧ W.cell? ⟨w.heap.size, 1, none⟩ = some (.int .i64 0) ∧ W.cell? ⟨w.heap.size + 1, 0, none⟩ = some (.bool false) ∧
    W.cell? ⟨w.heap.size + 1 + 1, 0, none⟩ = some (.int .i64 0) ∧ W.cell? ⟨w.heap.size + 1 + 1 + 1, 0, none⟩ = some (.int .i64 0) ∧
    (∀ j, W.frozen? ⟨w.heap.size, j, none⟩ = false) ∧ (∀ j, W.frozen? ⟨w.heap.size + 1, j, none⟩ = false) ∧ (∀ j, W.frozen? ⟨w.heap.size + 1 + 1, j, none⟩ = false) ∧ (∀ j, W.frozen? ⟨w.heap.size + 1 + 1 + 1, j, none⟩ = false) :=
  ⟨by rw [Lib.cell_of_heap h.b6]; rfl, by rw [Lib.cell_of_heap h.b6]; rfl, by rw [Lib.cell_of_heap h.b7]; rfl, by rw [Lib.cell_of_heap h.b8]; rfl, by rw [Lib.cell_of_heap h.b9]; rfl,
   fun j => Lib.frozen_of_heap h.b6 j, fun j => Lib.frozen_of_heap h.b7 j, fun j => Lib.frozen_of_heap h.b8 j, fun j => Lib.frozen_of_heap h.b9 j⟩

theorem get_esc_more (A : Option Addr) (c : Nat) (l : List Int) (p : Nat) (first : Bool) (w : World) (hr : (Kd.int .u8).C w A l.length l) (hb : ∀ x ∈ l, 0 ≤ x ∧ x ≤ 255) (hp : p ≤ 8 * l.length) (hl : l.length ≤ 100000000000000)
    (s : List UInt8) (hs : seenL l p (min 20 (8 * l.length - p)) = s) (hsl : s.length ≤ 20) (h1 : sameL s escL = true) (h2 : s.length < 20) :
    Calls Tryd.prog 11 #[.slice A l.length c, .int .i64 p, .bool first] w fun e w' => e = retG (0, 0, false, 0, 5) ∧ Below w.heap.size w w' := by
  have HS := Lib.hid hs
  have H1 := Lib.hid h1
  have hsz := size_mk s
  clear hs h1
  go_enter Tryd.func11, Tryd.ntmps11
  go_wp2_with (go_at_call 27; refine (count_calls _ _ _ _ (by omega)).mono ?_; rintro e w' ⟨rfl, rfl⟩)
  refine (seen_calls A c l p _ ?hC hb hp hl).mono ?_
  case hC => exact Kd.C_below hr (Res.new w).bel
  rintro e w5 ⟨rfl, hB5⟩
  rw [HS.out]
  have HR := Lib.hid (((Res.new w).below hB5).alloc (.cells #[.string ⟨s.toArray⟩] 9))
  clear hB5
  obtain ⟨c60, c61, c70, c80, c90, f6, f7, f8, f9⟩ := HR.out.cells
  have hbig := HR.out.big
  go_wp2_with (go_at_call 29; refine (same_mk s escL _ (by omega) (by decide)).mono ?_; rintro e w' ⟨rfl, nd, rfl⟩; rw [H1.out])
  refine bodyPost_ret (v := .tuple #[.agg #[.int .i64 0, .int .i64 0], .bool false, .int .i64 0, .int .i64 5]) (by simp [results, Tryd.results11, go_sem, c60, c61, c70, c80, c90]) rfl ⟨rfl, ?_⟩
  (repeat refine Below.setCell ?_ (by simp <;> omega) _)
  exact pw_below_drewN HR.out.bel nd

theorem number_mk (s : List UInt8) (w : World) (h0 : 0 < s.length) (h1 : s.length ≤ 32) (hb : Bin s) :
    Calls Tryd.prog 30 #[.string ⟨s.toArray⟩] w fun e w' => e = .returned (.int .i64 (numL s)) ∧ Below w.heap.size w w' :=
  number_calls ⟨s.toArray⟩ w (by rw [size_mk]; exact h0) (by rw [size_mk]; exact h1) hb
theorem extract_mk (s : List UInt8) (a b : Nat) : (⟨s.toArray⟩ : ByteArray).extract a b = ⟨((s.drop a).take (b - a)).toArray⟩ := by
  rw [ByteArray.extract_mk]
theorem Res.drewN {w W : World} (h : Res w W) (n : Nat) : Res w (W.drewN n) := ⟨h.b6, h.b7, h.b8, h.b9, h.big, pw_below_drewN h.bel n⟩

theorem wrap_i8 (n : Int) : IntKind.i8.wrap n = if n % 256 ≥ 128 then n % 256 - 256 else n % 256 := by
  simp [IntKind.wrap, IntKind.bits, IntKind.signed]

theorem get_esc (A : Option Addr) (c : Nat) (l : List Int) (p : Nat) (first : Bool) (w : World) (hr : (Kd.int .u8).C w A l.length l) (hb : ∀ x ∈ l, 0 ≤ x ∧ x ≤ 255) (hp : p ≤ 8 * l.length) (hl : l.length ≤ 100000000000000)
    (s : List UInt8) (hs : seenL l p (min 20 (8 * l.length - p)) = s) (hbin : Bin s) (h1 : sameL s escL = true) (h2 : s.length = 20) (r : GetR)
    (hcase : (i8 (numL (s.drop 12)) = 0 ∧ r = (0, 0, false, 0, 10)) ∨ (i8 (numL (s.drop 12)) = -128 ∧ r = (0, 0, false, 0, 10)) ∨
      (i8 (numL (s.drop 12)) ≠ 0 ∧ i8 (numL (s.drop 12)) ≠ -128 ∧ r = ((numL ((s.drop 6).take 6) : Int), i8 (numL (s.drop 12)), false, 20, 0))) :
    Calls Tryd.prog 11 #[.slice A l.length c, .int .i64 p, .bool first] w fun e w' => e = retG r ∧ Below w.heap.size w w' := by
  have HS := Lib.hid hs
  have H1 := Lib.hid h1
  have hsz : (⟨s.toArray⟩ : ByteArray).size = 20 := (size_mk s).trans h2
  have e12 := extract_mk s 12 20
  have e6 := extract_mk s 6 12
  have hd12 : (s.drop 12).take (20 - 12) = s.drop 12 := List.take_of_length_le (by rw [List.length_drop]; omega)
  rw [hd12] at e12
  have n12 : numL (s.drop 12) < 256 := by have := numL_lt (s.drop 12) (fun x hx => hbin x (List.mem_of_mem_drop hx)); rw [List.length_drop, h2] at this; exact this
  have n6 : numL ((s.drop 6).take 6) < 64 := by
    have := numL_lt ((s.drop 6).take 6) (fun x hx => hbin x (List.mem_of_mem_drop (List.mem_of_mem_take hx))); rw [List.length_take, List.length_drop, h2] at this; exact this
  have C12 : Hid (∀ W, Calls Tryd.prog 30 #[.string ⟨(s.drop 12).toArray⟩] W fun e w' => e = .returned (.int .i64 (numL (s.drop 12))) ∧ Below W.heap.size W w') := Lib.hid fun W => number_mk (s.drop 12) W (by rw [List.length_drop]; omega) (by rw [List.length_drop]; omega) (fun x hx => hbin x (List.mem_of_mem_drop hx))
  have C6 : Hid (∀ W, Calls Tryd.prog 30 #[.string ⟨((s.drop 6).take 6).toArray⟩] W fun e w' => e = .returned (.int .i64 (numL ((s.drop 6).take 6))) ∧ Below W.heap.size W w') := Lib.hid fun W => number_mk ((s.drop 6).take 6) W (by rw [List.length_take, List.length_drop]; omega) (by rw [List.length_take, List.length_drop]; omega) (fun x hx => hbin x (List.mem_of_mem_drop (List.mem_of_mem_take hx)))
  have HB := Lib.hid hbin
  have H2 := Lib.hid h2
  have HC := Lib.hid hcase
  clear hcase
  generalize numL (s.drop 12) = a at n12 C12 HC
  generalize numL ((s.drop 6).take 6) = b at n6 C6 HC
  have e8 : wrap64 (IntKind.i8.wrap (a : Int)) = i8 a := by
    have h8 : IntKind.i8.wrap (a : Int) = i8 a := by
      rw [wrap_i8, i8, show (a % 256 : Nat) = a from Nat.mod_eq_of_lt n12, show (a : Int) % 256 = a from by omega]
      split <;> split <;> omega
    rw [h8]
    unfold i8 wrap64
    split <;> omega
  generalize i8 a = v at e8 HC
  generalize s.drop 12 = t12 at e12 C12
  generalize (s.drop 6).take (12 - 6) = t6 at e6 C6
  clear hs h1 hbin h2 hd12
  go_enter Tryd.func11, Tryd.ntmps11
  go_wp2_with (go_at_call 27; refine (count_calls _ _ _ _ (by omega)).mono ?_; rintro e w' ⟨rfl, rfl⟩)
  refine (seen_calls A c l p _ ?hC hb hp hl).mono ?_
  case hC => exact Kd.C_below hr (Res.new w).bel
  rintro e w5 ⟨rfl, hB5⟩
  rw [HS.out]
  have HR := Lib.hid (((Res.new w).below hB5).alloc (.cells #[.string ⟨s.toArray⟩] 9))
  clear hB5
  obtain ⟨c60, c61, c70, c80, c90, f6, f7, f8, f9⟩ := HR.out.cells
  have hbig := HR.out.big
  go_wp2_with (go_at_call 29; refine (same_mk s escL _ (by have := H2.out; omega) (by decide)).mono ?_; rintro e w' ⟨rfl, nd, rfl⟩; rw [H1.out])
  refine (C12.out _).mono ?_
  rintro e w7 ⟨rfl, hB7⟩
  have c10 : w7.cell? ⟨w5.heap.size, 0, none⟩ = some (.string ⟨s.toArray⟩) := by
    have h := hB7.cell (p := ⟨w5.heap.size, 0, none⟩) (by simp)
    rw [h]
    simp
  clear c60 c61 c70 c80 c90 f6 f7 f8 f9 hbig
  have HR7 := Lib.hid ((HR.out.drewN nd).below hB7)
  clear hB7
  obtain ⟨c60, c61, c70, c80, c90, f6, f7, f8, f9⟩ := HR7.out.cells
  have hbig := HR7.out.big
  rcases HC.out with ⟨rfl, rfl⟩ | ⟨rfl, rfl⟩ | ⟨hv0, hv1, rfl⟩
  · clear HC
    go_wp2
    refine bodyPost_ret (v := .tuple #[.agg #[.int .i64 0, .int .i64 0], .bool false, .int .i64 0, .int .i64 10]) (by simp [results, Tryd.results11, go_sem, c60, c61, c70, c80, c90]) rfl ⟨rfl, ?_⟩
    (repeat refine Below.setCell ?_ (by simp <;> omega) _)
    exact HR7.out.bel
  · clear HC
    go_wp2
    refine bodyPost_ret (v := .tuple #[.agg #[.int .i64 0, .int .i64 0], .bool false, .int .i64 0, .int .i64 10]) (by simp [results, Tryd.results11, go_sem, c60, c61, c70, c80, c90]) rfl ⟨rfl, ?_⟩
    (repeat refine Below.setCell ?_ (by simp <;> omega) _)
    exact HR7.out.bel
  · clear HC
    have g0 : (v == 0) = false := by simpa using hv0
    have g1 : (v == -128) = false := by simpa using hv1
    clear hv0 hv1
    go_wp2_with (go_at_call 30; refine (C6.out _).mono ?_)
    rintro e w8 ⟨rfl, hB8⟩
    clear c60 c61 c70 c80 c90 f6 f7 f8 f9 hbig c10
    have HR8 := Lib.hid (HR7.out.below hB8)
    clear hB8
    obtain ⟨c60, c61, c70, c80, c90, f6, f7, f8, f9⟩ := HR8.out.cells
    have hbig := HR8.out.big
    go_wp2
    refine bodyPost_ret (v := .tuple #[.agg #[.int .i64 b, .int .i64 v], .bool false, .int .i64 20, .int .i64 0]) (by simp [results, Tryd.results11, go_sem, c60, c61, c70, c80, c90]) rfl ⟨rfl, ?_⟩
    (repeat refine Below.setCell ?_ (by simp <;> omega) _)
    exact HR8.out.bel

theorem prefix_mk (s q : List UInt8) (w : World) :
    Calls Tryd.prog 31 #[.string ⟨s.toArray⟩, .string ⟨q.toArray⟩] w fun e w' => e = .returned (.bool (Lib.hasPrefix s q)) ∧ w = w' :=
  (Tryd.strings_HasPrefix ⟨s.toArray⟩ ⟨q.toArray⟩ w).mono fun e w' ⟨he, hw⟩ => ⟨he, hw.symm⟩

theorem get_end (A : Option Addr) (c : Nat) (l : List Int) (p : Nat) (w : World) (hr : (Kd.int .u8).C w A l.length l) (hb : ∀ x ∈ l, 0 ≤ x ∧ x ≤ 255) (hp : p ≤ 8 * l.length) (hl : l.length ≤ 100000000000000)
    (s : List UInt8) (hs : seenL l p (min 20 (8 * l.length - p)) = s) (hsl : s.length ≤ 20) (h1 : sameL s escL = false) (h2 : Lib.hasPrefix s [49, 48] = true) :
    Calls Tryd.prog 11 #[.slice A l.length c, .int .i64 p, .bool false] w fun e w' => e = retG (0, 0, true, 2, 0) ∧ Below w.heap.size w w' := by
  have HS := Lib.hid hs
  have H1 := Lib.hid h1
  have H2 := Lib.hid h2
  clear hs h1 h2
  go_enter Tryd.func11, Tryd.ntmps11
  go_wp2_with (go_at_call 27; refine (count_calls _ _ _ _ (by omega)).mono ?_; rintro e w' ⟨rfl, rfl⟩)
  refine (seen_calls A c l p _ ?hC hb hp hl).mono ?_
  case hC => exact Kd.C_below hr (Res.new w).bel
  rintro e w5 ⟨rfl, hB5⟩
  rw [HS.out]
  have HR := Lib.hid (((Res.new w).below hB5).alloc (.cells #[.string ⟨s.toArray⟩] 9))
  clear hB5
  obtain ⟨c60, c61, c70, c80, c90, f6, f7, f8, f9⟩ := HR.out.cells
  have hbig := HR.out.big
  go_wp2_with (first | (go_at_call 29; refine (same_mk s escL _ (by omega) (by decide)).mono ?_; rintro e w' ⟨rfl, nd, rfl⟩; rw [H1.out]) | (go_at_call 31; refine (prefix_mk s [49, 48] _).mono ?_; rintro e w' ⟨rfl, rfl⟩; rw [H2.out]))
  refine bodyPost_ret (v := .tuple #[.agg #[.int .i64 0, .int .i64 0], .bool true, .int .i64 2, .int .i64 0]) (by simp [results, Tryd.results11, go_sem, c60, c61, c70, c80, c90]) rfl ⟨rfl, ?_⟩
  (repeat refine Below.setCell ?_ (by simp <;> omega) _)
  exact pw_below_drewN HR.out.bel nd
end Go.Proofs.YtdhehfgmhkgbpaaDoorH
