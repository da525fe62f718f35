/- Contract of coeff.number: the number that signs 0 and 1 are (strconv.ParseInt in base 2). -/
import Derived.Test.YtdhehfgmhkgbpaaDoorHBits
import Derived.Lib.ConvBytes
import Derived.Lib.Strings
namespace Go.Proofs.YtdhehfgmhkgbpaaDoorH
open Go.RowKit Go.Proofs.YtdhehfgmhkgbpaaDoorW.PrintWords

/-- The number that signs 0 and 1 are. -/
def numL (l : List UInt8) : Nat := l.foldl (fun n c => 2 * n + (c.toNat - 48)) 0
def Bin (l : List UInt8) : Prop := ∀ c ∈ l, c = 48 ∨ c = 49
theorem numL_snoc (l : List UInt8) (c : UInt8) : numL (l ++ [c]) = 2 * numL l + (c.toNat - 48) := by simp [numL]
theorem numL_lt (l : List UInt8) (h : Bin l) : numL l < 2 ^ l.length := by
  suffices ∀ (l : List UInt8) (a k : Nat), Bin l → a < 2 ^ k → l.foldl (fun n c => 2 * n + (c.toNat - 48)) a < 2 ^ (k + l.length) by
    have := this l 0 0 h (by decide)
    simpa [numL] using this
  intro l
  induction l with
  | nil => intro a k _ h; simpa using h
  | cons c l ih =>
    intro a k h ha
    have hc := h c (by simp)
    have := ih (2 * a + (c.toNat - 48)) (k + 1) (fun x hx => h x (by simp [hx])) (by rw [Nat.pow_succ]; rcases hc with rfl | rfl <;> simp <;> omega)
    simp only [List.foldl_cons, List.length_cons]
    rw [show k + (l.length + 1) = k + 1 + l.length by omega]
    exact this

set_option maxRecDepth 100000 in
theorem parseUint_bin (s : ByteArray) (w : World) (h0 : 0 < s.size) (h1 : s.size ≤ 32) (hb : Bin s.data.toList) :
    Calls Tryd.prog 72 #[.string s, .int .i64 2, .int .i64 64] w fun e w' => e = .returned (.tuple #[.int .u64 (numL s.data.toList), .nilIface]) ∧ Below w.heap.size w w' := by
  have hne : s.toList.isEmpty = false := by
    rw [← decide_eq_emptyBytes]
    exact decide_eq_false (fun h => by rw [h] at h0; exact absurd h0 (by decide))
  have hcv := Lib.run_convert_string_bytes (P := Tryd.prog) w 9 22 5 s (u := .string) Tryd.underlying9 Tryd.underlying22 Tryd.underlying5
  have hB : ∀ j, j < s.size → (Lib.bytesWorld w 5 s).cell? ⟨w.heap.size, j, none⟩ = some (.int .u8 (s.data.toList.getD j 0).toNat) := fun j hj => Lib.bytesWorld_cell w 5 s j hj
  have hW2 : Below w.heap.size w (Lib.bytesWorld w 5 s) := ⟨rfl, rfl, rfl, by rw [Lib.bytesWorld_size]; omega, fun j hj => Lib.bytesWorld_at_old w 5 s j hj⟩
  obtain ⟨W1, hW1⟩ : ∃ W1, W1 = Lib.bytesWorld w 5 s := ⟨_, rfl⟩
  rw [← hW1] at hcv hB hW2
  clear hW1
  obtain ⟨bs, hL⟩ : ∃ bs, bs = s.data.toList := ⟨_, rfl⟩
  have hLn : bs.length = s.size := by rw [hL, Lib.size_eq]
  rw [← hL] at hB hb ⊢
  clear hL
  have HB := Lib.hid hB
  have HLn := Lib.hid hLn
  have Hb := Lib.hid hb
  clear hB hLn hb
  have hmv : IntKind.u64.wrap (IntKind.u64.wrap 18446744073709551616 - 1) = 18446744073709551615 := by
    rw [IntKind.wrap_u64, IntKind.wrap_u64]
    decide
  go_enter Tryd.func72, Tryd.ntmps72
  go_wp2
  go_loop [12, 13, 101] (fun vu vn vi => ∃ (k : Nat) (a : Int), vu = .bool false ∧ vn = .int .u64 a ∧ vi = .int .i64 k ∧ k ≤ s.size ∧ Hid (a = (numL (bs.take k) : Int)))
    (fun _ _ vi => s.size - (intOf vi).toNat)
  case atStart => exact ⟨0, 0, rfl, rfl, rfl, by omega, Lib.hid (by simp [numL])⟩
  case round =>
    obtain ⟨k, a, rfl, rfl, rfl, hk, hh⟩ := hrel
    have hlt := numL_lt (bs.take k) (fun x hx => Hb.out x (List.mem_of_mem_take hx))
    have hl2 : (bs.take k).length ≤ 32 := by rw [List.length_take]; omega
    have hp2 : 2 ^ (bs.take k).length ≤ 2 ^ 32 := Nat.pow_le_pow_right (by decide) hl2
    have a0 : 0 ≤ a := by have := hh.out; omega
    have a1 : a < 4294967296 := by have := hh.out; omega
    clear hlt hl2 hp2
    by_cases hkn : k < s.size
    · have hlk : k < bs.length := by rw [HLn.out]; exact hkn
      have hc := HB.out k hkn
      have hget : bs.getD k 0 = bs[k]'hlk := by simp [List.getD, List.getElem?_eq_getElem hlk]
      rw [hget] at hc
      have htk : bs.take (k + 1) = bs.take k ++ [bs[k]'hlk] := by rw [List.take_succ_eq_append_getElem hlk]
      have hd := Hb.out (bs[k]'hlk) (List.getElem_mem hlk)
      have HN : Hid (a * 2 + (((bs[k]'hlk).toNat : Int) - 48) = (numL (bs.take (k + 1)) : Int)) := Lib.hid (by rw [htk, numL_snoc, hh.out]; rcases hd with h | h <;> rw [h] <;> simp <;> omega)
      generalize bs[k]'hlk = c at hc hd HN
      clear hget htk hh
      have hd0 : 48 ≤ (c.toNat : Int) := by rcases hd with rfl | rfl <;> simp
      have hd1 : (c.toNat : Int) ≤ 49 := by rcases hd with rfl | rfl <;> simp
      clear hd
      go_wp2
      go_round
      case rel => exact ⟨k + 1, _, rfl, rfl, by go_num, by omega, HN⟩
      case measure => simp [intOf]; omega
    · go_wp2
      go_ret2
      have hk2 : k = s.size := by omega
      exact ⟨by rw [hh.out, List.take_of_length_le (by rw [HLn.out]; omega)]; rfl, hW2⟩

set_option maxRecDepth 100000 in
theorem parseInt0_bin (s : ByteArray) (w : World) (h0 : 0 < s.size) (h1 : s.size ≤ 32) (hb : Bin s.data.toList) :
    Calls Tryd.prog 61 #[.string s, .int .i64 2, .int .i64 64] w fun e w' => e = .returned (.tuple #[.int .i64 (numL s.data.toList), .nilIface]) ∧ Below w.heap.size w w' := by
  have hne : s.toList.isEmpty = false := by
    rw [← decide_eq_emptyBytes]
    exact decide_eq_false (fun h => by rw [h] at h0; exact absurd h0 (by decide))
  have hlt := numL_lt s.data.toList hb
  have hl2 : s.data.toList.length ≤ 32 := by rw [← Lib.size_eq]; exact h1
  have hp2 : 2 ^ s.data.toList.length ≤ 2 ^ 32 := Nat.pow_le_pow_right (by decide) hl2
  have hn : numL s.data.toList < 4294967296 := by omega
  have hu := parseUint_bin s w h0 h1 hb
  have hs0 : 0 < s.data.toList.length := by rw [← Lib.size_eq]; exact h0
  have hd := hb (s.data.toList[0]'hs0) (List.getElem_mem hs0)
  obtain ⟨c0, hc0⟩ : ∃ c0 : UInt8, s[0]'h0 = c0 := ⟨_, rfl⟩
  have hg : c0 = s.data.toList[0]'hs0 := hc0.symm
  have hn1 : (0 : Int) ≤ (numL s.data.toList : Int) := by omega
  have hn2 : (numL s.data.toList : Int) < 4294967296 := by omega
  clear hn
  generalize (numL s.data.toList : Int) = n at hu hn1 hn2 ⊢
  rw [← hg] at hd
  have hd0 : 48 ≤ (c0.toNat : Int) := by rcases hd with rfl | rfl <;> simp
  have hd1 : (c0.toNat : Int) ≤ 49 := by rcases hd with rfl | rfl <;> simp
  have HU := Lib.hid hu
  clear hu hd hg hlt hl2 hp2 hb
  go_enter Tryd.func61, Tryd.ntmps61
  go_wp2_with (go_at_call 72; refine HU.out.mono ?_; rintro e w' ⟨rfl, hB⟩)
  go_ret2
  exact ⟨rfl, hB⟩

theorem parseInt_bin (s : ByteArray) (w : World) (h0 : 0 < s.size) (h1 : s.size ≤ 32) (hb : Bin s.data.toList) :
    Calls Tryd.prog 48 #[.string s, .int .i64 2, .int .i64 64] w fun e w' => e = .returned (.tuple #[.int .i64 (numL s.data.toList), .nilIface]) ∧ Below w.heap.size w w' := by
  have HU := Lib.hid (parseInt0_bin s w h0 h1 hb)
  generalize (numL s.data.toList : Int) = n at HU ⊢
  go_enter Tryd.func48, Tryd.ntmps48
  go_wp2_with (go_at_call 61; refine HU.out.mono ?_; rintro e w' ⟨rfl, hB⟩)
  go_ret2
  exact ⟨rfl, hB⟩

theorem number_calls (s : ByteArray) (w : World) (h0 : 0 < s.size) (h1 : s.size ≤ 32) (hb : Bin s.data.toList) :
    Calls Tryd.prog 30 #[.string s] w fun e w' => e = .returned (.int .i64 (numL s.data.toList)) ∧ Below w.heap.size w w' := by
  have HU := Lib.hid (parseInt_bin s w h0 h1 hb)
  generalize (numL s.data.toList : Int) = n at HU ⊢
  go_enter Tryd.func30, Tryd.ntmps30
  go_wp2_with (go_at_call 48; refine HU.out.mono ?_; rintro e w' ⟨rfl, hB⟩)
  go_ret
  exact ⟨rfl, hB⟩
end Go.Proofs.YtdhehfgmhkgbpaaDoorH
