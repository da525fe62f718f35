/- Contract of coeff.seen: the bits from a place on, at most 20, as a text. -/
import Derived.Test.YtdhehfgmhkgbpaaDoorHBuild
import Derived.Test.YtdhehfgmhkgbpaaDoorHShelf
namespace Go.Proofs.YtdhehfgmhkgbpaaDoorH
open Go.RowKit Go.Proofs.YtdhehfgmhkgbpaaDoorW.PrintWords

/-- n bits from a place on, as signs 0 and 1. -/
def seenL (l : List Int) (p : Nat) : Nat → List UInt8
  | 0 => []
  | n + 1 => seenL l p n ++ [UInt8.ofNat (48 + bitI l (p + n))]
theorem seenL_length (l : List Int) (p n : Nat) : (seenL l p n).length = n := by
  induction n with
  | zero => rfl
  | succ n ih => simp [seenL, ih]
theorem byteCells_snoc (l : List UInt8) (b : Nat) (hb : b < 2) : Lib.byteCells l ++ [.int .u8 (48 + (b : Int))] = Lib.byteCells (l ++ [UInt8.ofNat (48 + b)]) := by
  have : b = 0 ∨ b = 1 := by omega
  rcases this with rfl | rfl <;> simp [Lib.byteCells]
theorem byteCells_length (l : List UInt8) : (Lib.byteCells l).length = l.length := by simp [Lib.byteCells]

theorem read_one (A : Option Addr) (c : Nat) (l : List Int) (p : Nat) (w : World) (hr : (Kd.int .u8).C w A l.length l) (hb : ∀ x ∈ l, 0 ≤ x ∧ x ≤ 255) (hp : p < 8 * l.length) (hl : l.length ≤ 1000000000000000) :
    Calls Tryd.prog 45 #[.slice A l.length c, .int .i64 p, .int .i64 1] w fun e w' => e = .returned (.tuple #[.int .i64 (bitI l p), .int .i64 0]) ∧ w = w' := by
  have h := read_ok A c l p 1 w hr hb (by omega) (by omega) hl
  have e : bitsN l p 1 = bitI l p := by simp [bitsN]
  rw [e] at h
  exact h

theorem seen_calls (A : Option Addr) (c : Nat) (l : List Int) (p : Nat) (w : World) (hr : (Kd.int .u8).C w A l.length l) (hb : ∀ x ∈ l, 0 ≤ x ∧ x ≤ 255) (hp : p ≤ 8 * l.length) (hl : l.length ≤ 100000000000000) :
    Calls Tryd.prog 28 #[.slice A l.length c, .int .i64 p] w fun e w' => e = .returned (.string ⟨(seenL l p (min 20 (8 * l.length - p))).toArray⟩) ∧ Below w.heap.size w w' := by
  go_enter Tryd.func28, Tryd.ntmps28
  go_wp2_with fail
  go_loopw [9] (fun s9 wr => ∃ k : Nat, k ≤ min 20 (8 * l.length - p) ∧ s9 = .int .i64 k ∧ Lib.IsBuilderF 70 5 w.heap.size w.heap.size (Lib.byteCells (seenL l p k)) wr ∧ Below w.heap.size w wr) (fun s9 _ => 20 - (intOf s9).toNat)
  case atStart => exact ⟨0, by omega, rfl, Lib.IsBuilderF.of (Lib.fresh_isBuilder 70 5 w), (Below.refl _ w).alloc (Nat.le_refl _) _⟩
  case round =>
    obtain ⟨k, hk, rfl, hI, hB⟩ := hrel
    have HI := Lib.hid hI
    clear hI
    have hsz := hB.size
    by_cases h20 : k < 20
    · by_cases hlt : p + k < 8 * l.length
      · have hb1 := bitI_lt l (p + k)
        have hS := byteCells_snoc (seenL l p k) _ hb1
        have HS := Lib.hid hS
        clear hS
        go_wp2_with (go_at_call 45; refine (read_one A c l (p + k) _ (Kd.C_below hr hB) hb (by omega) (by omega)).mono ?_; rintro e w' ⟨rfl, rfl⟩)
        refine (writeByte_calls w.heap.size w.heap.size (Lib.byteCells (seenL l p k)) _ _ HI.out (by rw [byteCells_length, seenL_length]; omega) (by omega)).mono ?_
        rintro e w' ⟨rfl, hA, hB'⟩
        rw [HS.out] at hA
        have HA := Lib.hid hA
        clear hA
        have hB2 := hB.trans hB'
        clear hB'
        go_wp2
        go_roundw
        case rel => exact ⟨k + 1, by omega, by go_num, .inr HA.out, hB2⟩
        case measure => simp [intOf]; omega
      · go_wp2_with (first | (go_at_call 45; refine (read_more A c l (p + k) 1 _ (by omega) (by omega) (by omega) (by omega)).mono ?_; rintro e w' ⟨rfl, rfl⟩) | (go_at_call 47; refine (Tryd.Builder_String_any_k w.heap.size w.heap.size _ _ HI.out (by omega)).mono ?_; rintro e w' ⟨rfl, _, hB', _⟩))
        go_ret
        exact ⟨by rw [show min 20 (8 * l.length - p) = k by omega]; rfl, hB.trans hB'⟩
    · go_wp2_with (go_at_call 47; refine (Tryd.Builder_String_any_k w.heap.size w.heap.size _ _ HI.out (by omega)).mono ?_; rintro e w' ⟨rfl, _, hB', _⟩)
      go_ret
      exact ⟨by rw [show min 20 (8 * l.length - p) = k by omega]; rfl, hB.trans hB'⟩
end Go.Proofs.YtdhehfgmhkgbpaaDoorH
