/- Contract of coeff.Escape's text: a number's bits (strconv.FormatInt in base 2). -/
import Derived.Test.YtdhehfgmhkgbpaaDoorHBits
import Derived.Lib.Strings
import Derived.Lib.Builder
namespace Go.Proofs.YtdhehfgmhkgbpaaDoorH
open Go.RowKit Go.Proofs.YtdhehfgmhkgbpaaDoorW.PrintWords

/-- The library's table of places, as it was laid: at 1 it says 1. -/
def LaidD (w : World) : Prop := ∃ c t z, w.heap[6]? = some (.cells c t z) ∧ c[1]? = some (.int .u8 1)
theorem LaidD.below {w W : World} (h : LaidD w) (hb : Below w.heap.size w W) : LaidD W := by
  obtain ⟨c, t, z, h, h1⟩ := h
  exact ⟨c, t, z, by rw [hb.block _ (Array.getElem?_eq_some_iff.1 h).1]; exact h, h1⟩

theorem tz64_two (w : World) (hT : LaidD w) :
    Calls Tryd.prog 91 #[.int .u64 2] w fun e w' => e = .returned (.int .i64 1) ∧ w = w' := by
  obtain ⟨c, t, z, h, h1⟩ := hT
  have k1 : w.cell? ⟨6, 1, none⟩ = some (.int .u8 1) := by simp only [World.cell?, h]; exact h1
  clear h h1
  go_enter Tryd.func91, Tryd.ntmps91
  have hx : IntKind.u64.wrap (Go.bits .and .u64 2 (IntKind.u64.wrap (-2)) * 285870213051353865) / 288230376151711744 = 1 := by decide +kernel
  go_wp2
  go_ret
  exact ⟨rfl, rfl⟩
theorem tz_two (w : World) (hT : LaidD w) :
    Calls Tryd.prog 82 #[.int .u64 2] w fun e w' => e = .returned (.int .i64 1) ∧ w = w' := by
  go_enter Tryd.func82, Tryd.ntmps82
  go_wp2_with (go_at_call 91; refine (tz64_two _ hT).mono ?_; rintro e w' ⟨rfl, rfl⟩)
  go_ret
  exact ⟨rfl, rfl⟩
theorem pow2_two (w : World) : Calls Tryd.prog 81 #[.int .i64 2] w fun e w' => e = .returned (.bool true) ∧ w = w' := by
  have hx : Go.bits .and .i64 2 1 = 0 := by decide +kernel
  go_enter Tryd.func81, Tryd.ntmps81
  go_wp2
  go_ret
  exact ⟨rfl, rfl⟩

/-- The last k bits of a number, as signs. -/
def binD (u : Nat) : Nat → List UInt8
  | 0 => []
  | k + 1 => binD (u / 2) k ++ [UInt8.ofNat (48 + u % 2)]
theorem binD_length (u k : Nat) : (binD u k).length = k := by
  induction k generalizing u with
  | zero => rfl
  | succ k ih => simp [binD, ih]

theorem binD_cons (u k : Nat) : binD u (k + 1) = UInt8.ofNat (48 + u / 2 ^ k % 2) :: binD u k := by
  induction k generalizing u with
  | zero => simp [binD]
  | succ k ih =>
    rw [binD, ih (u / 2), binD, Nat.div_div_eq_div_mul, show 2 * 2 ^ k = 2 ^ (k + 1) by rw [Nat.pow_succ]; omega]
    rfl
theorem and1_u64 (i : Nat) (h : i < 65536) : Go.bits .and .u64 (i : Int) 1 = ((i % 2 : Nat) : Int) := by
  have := u64_and_nat i 1 (by omega) (by decide)
  rw [nat_mask1] at this
  exact this
/-- Bytes, as the cells that hold them. -/
def bcells (l : List UInt8) : List Value := l.map fun c => .int .u8 c.toNat
theorem zeros117 : Tryd.zeroCells117.size = 65 := by decide +kernel

theorem dig_eq (q : Nat) : Value.int .u8 (48 + ((q % 2 : Nat) : Int)) = .int .u8 (UInt8.ofNat (48 + q % 2)).toNat := by
  have : q % 2 = 0 ∨ q % 2 = 1 := by omega
  rcases this with h | h <;> rw [h] <;> rfl
/-- What the array holds when j signs are written. -/
def FB (w : World) (L : List UInt8) (wr : World) : Prop :=
  ∃ arr : Array Value, wr.heap[w.heap.size]? = some (.cells arr 117 (0, 0)) ∧ arr.size = 65 ∧ arr.toList.drop (65 - L.length) = bcells L ∧ Below w.heap.size w wr
theorem FB.bel {w wr : World} {L : List UInt8} (h : FB w L wr) : Below w.heap.size w wr := by
  obtain ⟨_, _, _, _, h⟩ := h
  exact h
theorem FB.step {w wr : World} {L : List UInt8} (h : FB w L wr) (hj : L.length < 65) (v : Value) (c : UInt8) (hv : v = .int .u8 c.toNat) : FB w (c :: L) (wr.setCell ⟨w.heap.size, 65 - L.length - 1, none⟩ v) := by
  obtain ⟨arr, ha, hs, hl, hB⟩ := h
  subst hv
  refine ⟨arr.setIfInBounds (65 - L.length - 1) (.int .u8 c.toNat), by simp [World.setCell, Array.getElem?_modify, ha], by simpa using hs, ?_, Below.setCell hB (Nat.le_refl _) _⟩
  have e : 65 - (c :: L).length = 65 - L.length - 1 := by simp; omega
  have e2 : 65 - L.length = 65 - L.length - 1 + 1 := by omega
  rw [e, Array.toList_setIfInBounds, List.drop_eq_getElem_cons (by simp [hs]; omega)]
  rw [List.getElem_set_self, List.drop_set_of_lt (by omega), ← e2, hl]
  rfl

theorem slice117 (b l : Nat) (hl : l < 65) (W : World) :
    (Instr.sliceAt 117 (.pointer (some ⟨b, 0, none⟩)) (some (.int .i64 (l : Int))) none none).run Tryd.prog W = .ok (.slice (some ⟨b, l, none⟩) (65 - l) (65 - l)) W := by
  have ht : Tryd.prog.underlying 117 = some (.array (Tryd.prog.arrayLen 117) (Tryd.prog.elem 117)) := by kernel_rfl
  have hn : Tryd.prog.arrayLen 117 = 65 := by kernel_rfl
  have he : Tryd.prog.elem 117 = 5 := by kernel_rfl
  have hs : (sizeOf 5).run Tryd.prog W = .ok 1 W := by kernel_rfl
  rw [run_sliceAt_array_l W _ _ ht .i64 (l : Int) (by omega) (by rw [hn]; omega), hn, he, hs]
  have : (⟨b, 0, none⟩ : Addr).add l = ⟨b, l, none⟩ := by rw [add_plain]
  by_cases h0 : l = 0
  · subst h0; simp [slicedAt, Result.andThen, this]
  · simp [slicedAt, Result.andThen, this, show ¬ 65 = l by omega]
theorem FB.text {w W : World} {L : List UInt8} (h : FB w L W) :
    (convert 22 9 (.slice (some ⟨w.heap.size, 65 - L.length, none⟩) L.length L.length)).run Tryd.prog W = .ok (.string ⟨L.toArray⟩) W := by
  obtain ⟨arr, ha, hs, hd, _⟩ := h
  have hc := run_convert_bytes_arg (P := Tryd.prog) W 22 5 Tryd.underlying22 Tryd.underlying5 w.heap.size (65 - L.length) L.length L.length (L.map fun c => (c.toNat : Int)) (by simp) (fun i hi => by
    rw [Lib.cell_of_heap ha]
    have h1 : arr[65 - L.length + i]? = (arr.toList.drop (65 - L.length))[i]? := by simp
    rw [h1, hd]
    simp [bcells, hi]) 9 Tryd.underlying9
  have e : strOfNums (L.map fun c => (c.toNat : Int)) = ⟨L.toArray⟩ := by
    unfold strOfNums
    rw [List.map_map]
    have : (L.map ((fun n : Int => UInt8.ofNat n.toNat) ∘ fun c : UInt8 => (c.toNat : Int))) = L := by
      conv => rhs; rw [← List.map_id L]
      exact List.map_congr_left (fun c _ => by simp)
    rw [this]
  rw [hc, e]

set_option maxRecDepth 100000 in
theorem formatBits_two (u : Nat) (hu : u < 65536) (w : World) (hT : LaidD w) (d : Nat) (hd0 : 2 ^ d ≤ u) (hd1 : u < 2 ^ (d + 1)) :
    Calls Tryd.prog 70 #[.slice none 0 0, .int .u64 u, .int .i64 2, .bool false, .bool false] w fun e w' =>
      e = .returned (.tuple #[.slice none 0 0, .string ⟨(binD u (d + 1)).toArray⟩]) ∧ Below w.heap.size w w' := by
  have HT := Lib.hid hT
  clear hT
  go_enter Tryd.func70, Tryd.ntmps70
  go_wp2_with (first | (go_at_call 81; refine (pow2_two _).mono ?_; rintro e w' ⟨rfl, rfl⟩) | (go_at_call 82; refine (tz_two _ (HT.out.below ((Below.refl _ w).alloc (Nat.le_refl _) _))).mono ?_; rintro e w' ⟨rfl, rfl⟩))
  go_loopw [1, 13] (fun s1 s13 wr => ∃ j : Nat, j ≤ d ∧ s1 = .int .u64 ((u / 2 ^ j : Nat) : Int) ∧ s13 = .int .i64 ((65 - j : Nat) : Int) ∧
      Hid (FB w (binD u j) wr)) (fun s1 _ _ => (intOf s1).toNat)
  case atStart =>
    refine ⟨0, by omega, by simp, rfl, Lib.hid ⟨_, heap_alloc_new w _, zeros117, ?_, (Below.refl _ w).alloc (Nat.le_refl _) _⟩⟩
    simp [bcells, binD]
  case round =>
    obtain ⟨j, hj, rfl, rfl, hh⟩ := hrel
    have hd16 : d ≤ 15 := by
      rcases Nat.lt_or_ge d 16 with h | h
      · omega
      · have : 2 ^ 16 ≤ 2 ^ d := Nat.pow_le_pow_right (by decide) h
        omega
    have hq : u / 2 ^ j < 65536 := Nat.lt_of_le_of_lt (Nat.div_le_self _ _) hu
    obtain ⟨q, hqe⟩ : ∃ q, u / 2 ^ j = q := ⟨_, rfl⟩
    rw [hqe] at hq ⊢
    have hand := and1_u64 q hq
    obtain ⟨arr, ha, hs, _, _⟩ := hh.out
    have hv : ∃ v, wr.cell? ⟨w.heap.size, 65 - j - 1, none⟩ = some v := ⟨arr[65 - j - 1]'(by omega), by rw [Lib.cell_of_heap ha, Array.getElem?_eq_getElem (by omega)]⟩
    obtain ⟨v, hv⟩ := hv
    have hf : wr.frozen? ⟨w.heap.size, 65 - j - 1, none⟩ = false := Lib.frozen_of_heap ha _
    have HQ := Lib.hid hqe
    clear hqe ha hs
    have hstep : ∀ v : Value, v = .int .u8 (48 + ((q % 2 : Nat) : Int)) → FB w (binD u (j + 1)) (wr.setCell ⟨w.heap.size, 65 - j - 1, none⟩ v) := fun v hv => by
      have h := hh.out.step (by rw [binD_length]; omega) v (UInt8.ofNat (48 + q % 2)) (by rw [hv]; exact dig_eq q)
      rw [binD_length] at h
      rw [binD_cons, HQ.out]
      exact h
    have HST := Lib.hid hstep
    clear hstep
    have hnext : u / 2 ^ (j + 1) = q / 2 := by rw [← HQ.out, Nat.div_div_eq_div_mul, Nat.pow_succ]
    have HNX := Lib.hid hnext
    clear hnext
    by_cases hjd : j < d
    · have hq2 : 2 ≤ q := by
        rw [← HQ.out, Nat.le_div_iff_mul_le (Nat.two_pow_pos j)]
        have : 2 ^ (j + 1) ≤ 2 ^ d := Nat.pow_le_pow_right (by decide) hjd
        rw [Nat.pow_succ] at this
        omega
      have hbit : q % 2 = 0 ∨ q % 2 = 1 := by omega
      rcases hbit with hbit | hbit
      · rw [hbit] at hand
        have HBI := Lib.hid hbit
        clear hbit
        go_wp2
        go_roundw
        case rel => exact ⟨j + 1, by omega, by rw [HNX.out]; go_num, by go_num, Lib.hid (HST.out _ (by rw [HBI.out]; rfl))⟩
        case measure => simp [intOf]; omega
      · rw [hbit] at hand
        have HBI := Lib.hid hbit
        clear hbit
        go_wp2
        go_roundw
        case rel => exact ⟨j + 1, by omega, by rw [HNX.out]; go_num, by go_num, Lib.hid (HST.out _ (by rw [HBI.out]; rfl))⟩
        case measure => simp [intOf]; omega
    · obtain rfl : j = d := by omega
      have hq1 : q = 1 := by
        have h1 : 1 ≤ q := by rw [← HQ.out, Nat.le_div_iff_mul_le (Nat.two_pow_pos j)]; omega
        have h2 : q < 2 := by rw [← HQ.out, Nat.div_lt_iff_lt_mul (Nat.two_pow_pos j)]; rw [Nat.pow_succ] at hd1; omega
        omega
      have HST1 : Hid (∀ v : Value, v = .int .u8 49 → FB w (binD u (j + 1)) (wr.setCell ⟨w.heap.size, 65 - j - 1, none⟩ v)) := Lib.hid fun v hv => HST.out v (by rw [hv, hq1]; rfl)
      have hq1z : (q : Int) = 1 := by omega
      clear HST hq1 HQ HNX hand
      have hix : ((65 - j : Nat) : Int) - 1 = ((65 - j - 1 : Nat) : Int) := by omega
      have hsl := slice117 w.heap.size (65 - j - 1) (by omega)
      have hlen : 65 - (65 - j - 1) = j + 1 := by omega
      rw [hlen] at hsl
      clear hlen
      have hdig : ∀ h, (⟨#[48, 49, 50, 51, 52, 53, 54, 55, 56, 57, 97, 98, 99, 100, 101, 102, 103, 104, 105, 106, 107, 108, 109, 110, 111, 112, 113, 114, 115, 116, 117, 118, 119, 120, 121, 122]⟩ : ByteArray)[1]'h = 49 := fun _ => rfl
      have hcv := (HST1.out _ rfl).text
      rw [binD_length, show 65 - (j + 1) = 65 - j - 1 by omega] at hcv
      have hbel := (HST1.out _ rfl).bel
      have HBEL := Lib.hid hbel
      clear hbel
      go_wp2
      go_ret2
      exact ⟨rfl, HBEL.out⟩

theorem formatInt0_two (u : Nat) (hu : u < 65536) (w : World) (hT : LaidD w) (d : Nat) (hd0 : 2 ^ d ≤ u) (hd1 : u < 2 ^ (d + 1)) :
    Calls Tryd.prog 58 #[.int .i64 u, .int .i64 2] w fun e w' => e = .returned (.string ⟨(binD u (d + 1)).toArray⟩) ∧ Below w.heap.size w w' := by
  have HF := Lib.hid (formatBits_two u hu w hT d hd0 hd1)
  clear hd0 hd1 hT
  go_enter Tryd.func58, Tryd.ntmps58
  go_wp2_with (go_at_call 70; refine HF.out.mono ?_; rintro e w' ⟨rfl, hB⟩)
  go_ret
  exact ⟨rfl, hB⟩
theorem formatInt_two (u : Nat) (hu : u < 65536) (w : World) (hT : LaidD w) (d : Nat) (hd0 : 2 ^ d ≤ u) (hd1 : u < 2 ^ (d + 1)) :
    Calls Tryd.prog 40 #[.int .i64 u, .int .i64 2] w fun e w' => e = .returned (.string ⟨(binD u (d + 1)).toArray⟩) ∧ Below w.heap.size w w' := by
  have HF := Lib.hid (formatInt0_two u hu w hT d hd0 hd1)
  clear hd0 hd1 hT
  go_enter Tryd.func40, Tryd.ntmps40
  go_wp2_with (go_at_call 58; refine HF.out.mono ?_; rintro e w' ⟨rfl, hB⟩)
  go_ret
  exact ⟨rfl, hB⟩
theorem binD_drop (n k : Nat) (_h : n < 2 ^ k) : (binD (n + 2 ^ k) (k + 1)).drop 1 = binD n k := by
  rw [binD_cons, List.drop_succ_cons, List.drop_zero]
  have hg : ∀ (k a m : Nat), binD (a + 2 ^ k * m) k = binD a k := by
    intro k
    induction k with
    | zero => intro a m; rfl
    | succ k ih =>
      intro a m
      rw [binD, binD]
      have e1 : a + 2 ^ (k + 1) * m = a + 2 * (2 ^ k * m) := by rw [Nat.pow_succ, Nat.mul_comm (2 ^ k) 2, Nat.mul_assoc]
      rw [e1, Nat.add_mul_div_left _ _ (by decide), ih, Nat.add_mul_mod_self_left]
  have := hg k n 1
  rwa [Nat.mul_one] at this
set_option maxRecDepth 100000 in
theorem text_calls (n k : Nat) (hk : k ≤ 14) (hn : n < 2 ^ k) (w : World) (hT : LaidD w) :
    Calls Tryd.prog 39 #[.int .i64 n, .int .i64 k] w fun e w' => e = .returned (.string ⟨(binD n k).toArray⟩) ∧ Below w.heap.size w w' := by
  have hk2 : 2 ^ k ≤ 2 ^ 14 := Nat.pow_le_pow_right (by decide) hk
  have HF := Lib.hid (formatInt_two (n + 2 ^ k) (by omega) w hT k (by omega) (by rw [Nat.pow_succ]; omega))
  have hsh : wrap64 ((2 : Int) ^ k) = ((2 ^ k : Nat) : Int) := by
    have : ((2 : Int) ^ k) = ((2 ^ k : Nat) : Int) := by simp
    rw [this, wrap64]
    omega
  have hsz : (⟨(binD (n + 2 ^ k) (k + 1)).toArray⟩ : ByteArray).size = k + 1 := by simp [ByteArray.size, binD_length]
  have hex : (⟨(binD (n + 2 ^ k) (k + 1)).toArray⟩ : ByteArray).extract 1 (k + 1) = ⟨(binD n k).toArray⟩ := by
    rw [ByteArray.extract_mk]
    have := binD_drop n k hn
    rw [this, List.take_of_length_le (by rw [binD_length]; omega)]
  generalize (⟨(binD (n + 2 ^ k) (k + 1)).toArray⟩ : ByteArray) = st at HF hsz hex
  have hsum : wrap64 ((n : Int) + wrap64 ((2 : Int) ^ k)) = ((n + 2 ^ k : Nat) : Int) := by rw [hsh, wrap64]; omega
  have hm : n + 2 ^ k < 32768 := by omega
  generalize n + 2 ^ k = m at HF hsum hm
  clear hsh
  clear hn hk2 hT
  go_enter Tryd.func39, Tryd.ntmps39
  go_wp2_with (go_at_call 40; refine HF.out.mono ?_; rintro e w' ⟨rfl, hB⟩)
  go_ret
  exact ⟨rfl, hB⟩
end Go.Proofs.YtdhehfgmhkgbpaaDoorH
