/- Contracts of bits.Count, bits.bit and bits.Read over any bytes that are read. -/
import Derived.Test.YtdhehfgmhkgbpaaDoorProg
import Derived.Test.YtdhehfgmhkgbpaaDoorWWords
import Derived.WalkKit
import Derived.WalkSpells
import Derived.WalkLawsBesides
import Derived.Outline
import Derived.Deep.DeepFit
import Derived.Deep.QuietTactic
import Derived.BigQuiet
import Derived.Lib.Hide
namespace Go.Proofs.YtdhehfgmhkgbpaaDoorH
open Go.RowKit Go.Proofs.YtdhehfgmhkgbpaaDoorW.PrintWords

/-- The bit of a place, of bytes as whole numbers. -/
def bitI (l : List Int) (i : Nat) : Nat := ((l.getD (i / 8) 0).toNat / 2 ^ (7 - i % 8)) % 2
theorem bitI_lt (l : List Int) (i : Nat) : bitI l i < 2 := Nat.mod_lt _ (by decide)
/-- n bits from a place on, as a number. -/
def bitsN (l : List Int) (i : Nat) : Nat → Nat
  | 0 => 0
  | n + 1 => 2 * bitsN l i n + bitI l (i + n)
theorem bitsN_lt (l : List Int) (i n : Nat) : bitsN l i n < 2 ^ n := by
  induction n with
  | zero => simp [bitsN]
  | succ n ih => have := bitI_lt l (i + n); simp only [bitsN, Nat.pow_succ]; omega

theorem count_calls (A : Option Addr) (n c : Nat) (w : World) (h : n ≤ 1000000000000000) :
    Calls Tryd.prog 27 #[.slice A n c] w fun e w' => e = .returned (.int .i64 (8 * n)) ∧ w = w' := by
  go_enter Tryd.func27, Tryd.ntmps27
  go_wp2
  go_ret
  exact ⟨rfl, rfl⟩

theorem wraps_i64 (n : Int) (h0 : 0 ≤ n) (h1 : n < 2 ^ 63) : IntKind.i64.wrap n = n := by rw [IntKind.wrap_i64]; omega
theorem and7 (i : Int) (h0 : 0 ≤ i) (h : i < 9223372036854775808) : Go.bits .and .i64 i 7 = i % 8 := bits_mask .i64 63 (by decide) wraps_i64 3 (by decide) i h0 (by omega)
theorem and1 (i : Int) (h0 : 0 ≤ i) (h : i < 9223372036854775808) : Go.bits .and .i64 i 1 = i % 2 := bits_mask .i64 63 (by decide) wraps_i64 1 (by decide) i h0 (by omega)
theorem or1 (x y : Int) (hx : 0 ≤ x) (hx2 : x % 2 = 0) (hx3 : x < 9223372036854775808) (hy : 0 ≤ y) (hy2 : y < 2) : Go.bits .or .i64 x y = x + y :=
  bits_join .i64 63 (by decide) wraps_i64 1 x y hx (by omega) (by omega) hy (by omega) (by omega)

theorem bit_calls (A : Option Addr) (c : Nat) (l : List Int) (p : Nat) (w : World) (hr : (Kd.int .u8).C w A l.length l) (hb : ∀ x ∈ l, 0 ≤ x ∧ x ≤ 255) (hp : p < 8 * l.length) (hl : l.length ≤ 1000000000000000) :
    Calls Tryd.prog 59 #[.slice A l.length c, .int .i64 p] w fun e w' => e = .returned (.int .i64 (bitI l p)) ∧ w = w' := by
  obtain ⟨ad, rfl, hc⟩ := Kd.at_int hr (p / 8 : Nat) (by omega) (by omega)
  rw [Int.toNat_natCast] at hc
  have hx : 0 ≤ rd l (p / 8 : Nat) ∧ rd l (p / 8 : Nat) ≤ 255 := by
    unfold rd
    rw [Int.toNat_natCast, List.getD_eq_getElem?_getD, List.getElem?_eq_getElem (show p / 8 < l.length by omega)]
    exact hb _ (List.getElem_mem _)
  have hbit : (bitI l p : Int) = rd l (p / 8 : Nat) / 2 ^ (7 - p % 8) % 2 := by
    unfold bitI
    have e : rd l (p / 8 : Nat) = ((l.getD (p / 8) 0).toNat : Int) := by
      have h1 : rd l (p / 8 : Nat) = l.getD (p / 8) 0 := by unfold rd; rw [Int.toNat_natCast]
      rw [h1] at hx ⊢; omega
    rw [e]; simp
  have HB := Lib.hid hbit
  clear hbit
  generalize rd l (p / 8 : Nat) = x at hc hx HB
  have e1 : Go.bits .and .i64 (p : Int) 7 = ((p % 8 : Nat) : Int) := by rw [and7 _ (by omega) (by omega)]; omega
  have e2 : (7 : Int) - ((p % 8 : Nat) : Int) = ((7 - p % 8 : Nat) : Int) := by omega
  have e3 : wrap64 ((7 - p % 8 : Nat) : Int) = ((7 - p % 8 : Nat) : Int) := by unfold wrap64; omega
  have hq := Int.ediv_nonneg hx.1 (show (0 : Int) ≤ 2 ^ (7 - p % 8) from Int.le_of_lt (Int.pow_pos (by decide)))
  have hq2 : x / 2 ^ (7 - p % 8) ≤ 255 := Int.le_trans (Int.ediv_le_self _ hx.1) hx.2
  have e4 : min (7 - p % 8) 8 = 7 - p % 8 := by omega
  have e5 : Go.bits .and .i64 (x / 2 ^ (7 - p % 8)) 1 = x / 2 ^ (7 - p % 8) % 2 := and1 _ hq (by omega)
  go_enter Tryd.func59, Tryd.ntmps59
  go_wp2
  go_ret
  rw [HB.out]
  exact ⟨rfl, rfl⟩

/-- bits.Read, n bits at a place that may be. -/
theorem read_ok (A : Option Addr) (c : Nat) (l : List Int) (p n : Nat) (w : World) (hr : (Kd.int .u8).C w A l.length l) (hb : ∀ x ∈ l, 0 ≤ x ∧ x ≤ 255) (hp : p + n ≤ 8 * l.length) (hn : n ≤ 32) (hl : l.length ≤ 1000000000000000) :
    Calls Tryd.prog 45 #[.slice A l.length c, .int .i64 p, .int .i64 n] w fun e w' => e = .returned (.tuple #[.int .i64 (bitsN l p n), .int .i64 0]) ∧ w = w' := by
  go_enter Tryd.func45, Tryd.ntmps45
  go_wp2_with (go_at_call 27; refine (count_calls _ _ _ _ hl).mono ?_; rintro e w' ⟨rfl, rfl⟩)
  go_loop [1, 2, 8] (fun s1 s2 s8 => ∃ k m : Nat, k + m = n ∧ s1 = .int .i64 ((p + k : Nat) : Int) ∧ s2 = .int .i64 m ∧ s8 = .int .i64 (bitsN l p k)) (fun _ s2 _ => (intOf s2).toNat)
  case atStart => exact ⟨0, n, by omega, rfl, rfl, rfl⟩
  case round =>
    obtain ⟨k, m, hk, rfl, rfl, rfl⟩ := hrel
    have hbN := bitsN_lt l p k
    have hbN2 : 2 ^ k ≤ 2 ^ 32 := Nat.pow_le_pow_right (by decide) (by omega)
    cases m with
    | zero =>
      obtain rfl : k = n := by omega
      go_wp2
      go_ret2
      exact ⟨rfl, rfl⟩
    | succ m =>
      have hb1 := bitI_lt l (p + k)
      have e1 : IntKind.i64.wrap ((bitsN l p k : Int) * 2) = 2 * (bitsN l p k : Int) := by rw [IntKind.wrap_i64]; omega
      have e2 := or1 (2 * (bitsN l p k : Int)) (bitI l (p + k) : Int) (by omega) (by omega) (by omega) (by omega) (by omega)
      have HN : Hid ((bitsN l p (k + 1) : Int) = 2 * (bitsN l p k : Int) + bitI l (p + k)) := by
        have : bitsN l p (k + 1) = 2 * bitsN l p k + bitI l (p + k) := rfl
        exact Lib.hid (by omega)
      go_wp2_with (go_at_call 59; refine (bit_calls A c l (p + k) _ hr hb (by omega) hl).mono ?_; rintro e w' ⟨rfl, rfl⟩)
      go_round
      case rel => exact ⟨k + 1, m, by omega, by go_num, rfl, by rw [HN.out]⟩
      case measure => simp [intOf]

/-- bits.Read at a place that is over, or beyond what there is. -/
theorem read_more (A : Option Addr) (c : Nat) (l : List Int) (p n : Nat) (w : World) (hp : 8 * l.length < p + n) (hp2 : p ≤ 9000000000000000000) (hn : n ≤ 32) (hl : l.length ≤ 1000000000000000) :
    Calls Tryd.prog 45 #[.slice A l.length c, .int .i64 p, .int .i64 n] w fun e w' => e = .returned (.tuple #[.int .i64 0, .int .i64 5]) ∧ w = w' := by
  by_cases h : 8 * l.length < p
  · go_enter Tryd.func45, Tryd.ntmps45
    go_wp2_with (go_at_call 27; refine (count_calls _ _ _ _ hl).mono ?_; rintro e w' ⟨rfl, rfl⟩)
    go_ret2
    exact ⟨rfl, rfl⟩
  · go_enter Tryd.func45, Tryd.ntmps45
    go_wp2_with (go_at_call 27; refine (count_calls _ _ _ _ hl).mono ?_; rintro e w' ⟨rfl, rfl⟩)
    go_ret2
    exact ⟨rfl, rfl⟩

end Go.Proofs.YtdhehfgmhkgbpaaDoorH
