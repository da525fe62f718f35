/- Plain: what kit.Bits and the law's 'bytes' make, bit by bit, and what is seen of it. -/
import Derived.Test.YtdhehfgmhkgbpaaDoorPCx4
namespace Go.Proofs.YtdhehfgmhkgbpaaDoorH
open Go.RowKit Go.Proofs.YtdhehfgmhkgbpaaDoorW.PrintWords Go.Proofs.YtdhehfgmhkgbpaaDoorW.PrintLast Go.Proofs.YtdhehfgmhkgbpaaDoor.PC

theorem or_bit : ∀ x : Fin 256, ∀ j : Fin 8, (0 ≤ Go.bits .or .u8 ((x.val : Nat) : Int) (shr .u8 128 ((j.val : Nat) : Int)) ∧ Go.bits .or .u8 ((x.val : Nat) : Int) (shr .u8 128 ((j.val : Nat) : Int)) ≤ 255) ∧
    ∀ i : Fin 8, (Go.bits .or .u8 ((x.val : Nat) : Int) (shr .u8 128 ((j.val : Nat) : Int))).toNat / 2 ^ (7 - i.val) % 2 = if i.val = j.val then 1 else x.val / 2 ^ (7 - i.val) % 2 := by decide +kernel

/-- A list of any numbers, as signs. -/
def signs (D : List Int) : List UInt8 := D.map fun d => if d % 2 = 0 then 48 else 49
def Bytes (l : List Int) : Prop := ∀ x ∈ l, 0 ≤ x ∧ x ≤ 255
def bitOf (D : List Int) (n i : Nat) : Nat := if i < n ∧ (D.getD i 0) % 2 ≠ 0 then 1 else 0
structure Part (D : List Int) (n : Nat) (acc : List Int) : Prop where
  len : acc.length = (D.length + 7) / 8
  byt : Bytes acc
  bit : ∀ i, bitI acc i = bitOf D n i

theorem Part.next0 {D : List Int} {n : Nat} {acc : List Int} (h : Part D n acc) (he : (D.getD n 0) % 2 = 0) : Part D (n + 1) acc := by
  refine ⟨h.len, h.byt, fun i => ?_⟩
  rw [h.bit i]
  unfold bitOf
  by_cases hi : i = n
  · subst hi; rw [if_neg (by omega), if_neg (by omega)]
  · have : (i < n ∧ (D.getD i 0) % 2 ≠ 0) ↔ (i < n + 1 ∧ (D.getD i 0) % 2 ≠ 0) := by omega
    simp only [this]
theorem Part.next1 {D : List Int} {n : Nat} {acc : List Int} (h : Part D n acc) (hn : n < D.length) (he : (D.getD n 0) % 2 ≠ 0) :
    Part D (n + 1) (acc.set (n / 8) (Go.bits .or .u8 (acc.getD (n / 8) 0) (shr .u8 128 ((n % 8 : Nat) : Int)))) := by
  have hlt : n / 8 < acc.length := by rw [h.len]; omega
  have hx : 0 ≤ acc.getD (n / 8) 0 ∧ acc.getD (n / 8) 0 ≤ 255 := by
    rw [List.getD_eq_getElem?_getD, List.getElem?_eq_getElem hlt]
    exact h.byt _ (List.getElem_mem _)
  obtain ⟨x, hxe⟩ := Int.eq_ofNat_of_zero_le hx.1
  have hxl : x < 256 := by omega
  obtain ⟨hr, hb⟩ := or_bit ⟨x, hxl⟩ ⟨n % 8, Nat.mod_lt _ (by decide)⟩
  simp only at hr hb
  rw [hxe]
  generalize Go.bits .or .u8 (x : Int) (shr .u8 128 ((n % 8 : Nat) : Int)) = y at hr hb
  refine ⟨by rw [List.length_set]; exact h.len, ?_, fun i => ?_⟩
  · intro z hz
    rcases List.mem_or_eq_of_mem_set hz with hz | rfl
    · exact h.byt z hz
    · exact hr
  · have hi := h.bit i
    unfold bitI at hi ⊢
    unfold bitOf at hi ⊢
    by_cases hq : i / 8 = n / 8
    · have h8 := hb ⟨i % 8, Nat.mod_lt _ (by decide)⟩
      simp only at h8
      rw [hq] at hi
      rw [hq, List.getD_eq_getElem?_getD, List.getElem?_set_self hlt, Option.getD_some, h8]
      rw [hxe, Int.toNat_natCast] at hi
      by_cases hin : i = n
      · subst hin; rw [if_pos rfl, if_pos ⟨by omega, he⟩]
      · rw [if_neg (by omega), hi]
        have : (i < n ∧ (D.getD i 0) % 2 ≠ 0) ↔ (i < n + 1 ∧ (D.getD i 0) % 2 ≠ 0) := by omega
        simp only [this]
    · rw [List.getD_eq_getElem?_getD, List.getElem?_set_ne (by omega), ← List.getD_eq_getElem?_getD, hi]
      have : (i < n ∧ (D.getD i 0) % 2 ≠ 0) ↔ (i < n + 1 ∧ (D.getD i 0) % 2 ≠ 0) := by omega
      simp only [this]

theorem tmod2 (d : Int) : Int.tmod d 2 = 0 ↔ d % 2 = 0 := by
  rw [← Int.dvd_iff_emod_eq_zero, ← Int.dvd_iff_tmod_eq_zero]
theorem bits_l0 (D : List Int) (hD : D.length ≤ 1000000) : ∀ (d n k : Nat) (acc : List Int), D.length = n + d → d < k → Part D n acc → ∃ out, praxinoscopekit_Bits.l0 k D acc (n : Int) = some out ∧ Part D D.length out := by
  intro d
  induction d with
  | zero =>
    intro n k acc hn hk hp
    obtain ⟨k, rfl⟩ : ∃ m, k = m + 1 := ⟨k - 1, by omega⟩
    refine ⟨acc, ?_, by rw [hn]; exact hp⟩
    simp only [praxinoscopekit_Bits.l0]
    rw [if_neg (by omega)]
  | succ d ih =>
    intro n k acc hn hk hp
    obtain ⟨k, rfl⟩ : ∃ m, k = m + 1 := ⟨k - 1, by omega⟩
    simp only [praxinoscopekit_Bits.l0]
    rw [if_pos (by omega), if_pos (by omega)]
    have hw : wrap64 ((n : Int) + 1) = ((n + 1 : Nat) : Int) := by unfold wrap64; omega
    have hrd : rd D (n : Int) = D.getD n 0 := by unfold rd; rw [Int.toNat_natCast]
    rw [hrd, hw]
    by_cases he : (D.getD n 0) % 2 = 0
    · rw [if_pos ((tmod2 _).2 he)]
      exact ih (n + 1) k acc (by omega) (by omega) (hp.next0 he)
    · rw [if_neg (fun z => he ((tmod2 _).1 z))]
      have e1 : wrap64 (Int.tdiv (n : Int) 8) = ((n / 8 : Nat) : Int) := by
        rw [Int.tdiv_eq_ediv_of_nonneg (by omega)]; unfold wrap64; omega
      have e2 : IntKind.u64.wrap (Int.tmod (n : Int) 8) = ((n % 8 : Nat) : Int) := by
        rw [Int.tmod_eq_emod_of_nonneg (by omega), IntKind.wrap_u64]; omega
      have hlen := hp.len
      rw [e1, e2, if_pos (by omega), if_pos (by rw [hlen]; omega), if_pos (by omega)]
      have e3 : rd acc ((n / 8 : Nat) : Int) = acc.getD (n / 8) 0 := by unfold rd; rw [Int.toNat_natCast]
      rw [e3, Int.toNat_natCast]
      exact ih (n + 1) k _ (by omega) (by omega) (hp.next1 (by omega) he)
theorem bits_f (D : List Int) (hD : D.length ≤ 1000000) (k : Nat) (hk : D.length < k) : ∃ out, praxinoscopekit_Bits.f k D = some out ∧ Part D D.length out := by
  unfold praxinoscopekit_Bits.f
  have e : wrap64 (Int.tdiv (wrap64 ((D.length : Int) + 7)) 8) = (((D.length + 7) / 8 : Nat) : Int) := by
    have e1 : wrap64 ((D.length : Int) + 7) = ((D.length + 7 : Nat) : Int) := by unfold wrap64; omega
    rw [e1, Int.tdiv_eq_ediv_of_nonneg (by omega)]; unfold wrap64; omega
  rw [e, if_pos (by omega), if_pos (by omega), Int.toNat_natCast]
  refine bits_l0 D hD D.length 0 k _ (by omega) hk ⟨by simp, ?_, fun i => ?_⟩
  · intro x hx
    rw [List.eq_of_mem_replicate hx]; omega
  · unfold bitOf bitI
    rw [if_neg (by omega)]
    have : (List.replicate ((D.length + 7) / 8) (0 : Int)).getD (i / 8) 0 = 0 := by
      rw [List.getD_eq_getElem?_getD, List.getElem?_replicate]
      split <;> rfl
    rw [this]; simp
/-- What is seen of it: the signs, and noughts behind them. -/
theorem seen_part (D out : List Int) (h : Part D D.length out) (p n : Nat) (hpn : p + n ≤ 8 * out.length) : seenL out p n = ((signs D ++ List.replicate 7 48).drop p).take n := by
  induction n with
  | zero => simp [seenL]
  | succ n ih =>
    rw [seenL, ih (by omega)]
    have hl : p + n < (signs D ++ List.replicate 7 (48 : UInt8)).length := by
      have := h.len
      simp [signs]; omega
    rw [List.take_add_one, List.getElem?_drop, List.getElem?_eq_getElem hl, h.bit]
    congr 1
    unfold bitOf
    simp only [Option.toList_some, List.cons.injEq, and_true]
    by_cases hi : p + n < D.length
    · rw [List.getElem_append_left (by simpa [signs] using hi)]
      rw [List.getD_eq_getElem?_getD, List.getElem?_eq_getElem hi, Option.getD_some]
      simp only [signs, List.getElem_map]
      by_cases he : D[p + n] % 2 = 0
      · rw [if_neg (by omega), if_pos he]; rfl
      · rw [if_pos ⟨hi, he⟩, if_neg he]; rfl
    · rw [List.getElem_append_right (by simp [signs]; omega), if_neg (by omega), List.getElem_replicate]
      rfl

/-- The law's 'bytes'. -/
def digits (s : List UInt8) : List Int := s.map fun c => ((c.toNat : Int) - 48) % 256
theorem signs_digits (s : List UInt8) (h : Bin s) : signs (digits s) = s := by
  unfold signs digits
  rw [List.map_map]
  conv => rhs; rw [← List.map_id s]
  refine List.map_congr_left fun c hc => ?_
  rcases h c hc with rfl | rfl <;> rfl
theorem bytes_l0 (s : List UInt8) (B : List Int) (hs : s.length + B.length ≤ 1000000) : ∀ (d n k : Nat), s.length = n + d → d + (s.length + B.length) + 2 < k →
    ∃ out, praxinoscopelaw08_bytes.l0 k ⟨s.toArray⟩ B (digits (s.take n)) (n : Int) = some out ∧ Part (digits s ++ B) (digits s ++ B).length out := by
  have hsz : (⟨s.toArray⟩ : ByteArray).size = s.length := by simp [ByteArray.size]
  intro d
  induction d with
  | zero =>
    intro n k hn hk
    obtain ⟨k, rfl⟩ : ∃ m, k = m + 1 := ⟨k - 1, by omega⟩
    simp only [praxinoscopelaw08_bytes.l0]
    rw [hsz, if_neg (by omega), List.take_of_length_le (by omega)]
    have hl : (digits s).length = s.length := by simp [digits]
    rw [if_pos (by rw [hl]; omega)]
    obtain ⟨out, ho, hp⟩ := bits_f (digits s ++ B) (by simp [hl]; omega) k (by simp [hl]; omega)
    exact ⟨out, by rw [ho]; rfl, hp⟩
  | succ d ih =>
    intro n k hn hk
    obtain ⟨k, rfl⟩ : ∃ m, k = m + 1 := ⟨k - 1, by omega⟩
    simp only [praxinoscopelaw08_bytes.l0]
    have hl : (digits (s.take n)).length = n := by simp [digits]; omega
    have hw : wrap64 ((n : Int) + 1) = ((n + 1 : Nat) : Int) := by unfold wrap64; omega
    rw [hsz, if_pos (by omega), if_pos (by omega), if_pos (by rw [hl]; omega), hw]
    have hb : bt ⟨s.toArray⟩ (n : Int) = ((s[n]'(by omega)).toNat : Int) := by
      unfold bt
      rw [dif_pos (by rw [Int.toNat_natCast, hsz]; omega)]
      rfl
    have ht : digits (s.take n) ++ [(bt ⟨s.toArray⟩ (n : Int) - 48) % 256] = digits (s.take (n + 1)) := by
      rw [hb, List.take_add_one, List.getElem?_eq_getElem (by omega)]
      unfold digits
      rw [List.map_append]
      rfl
    rw [ht]
    exact ih (n + 1) k (by omega) (by omega)
theorem bytes_f (s : List UInt8) (B : List Int) (hs : s.length + B.length ≤ 1000000) (k : Nat) (hk : 2 * s.length + B.length + 2 < k) : ∃ out, praxinoscopelaw08_bytes.f k ⟨s.toArray⟩ B = some out ∧ Part (digits s ++ B) (digits s ++ B).length out :=
  bytes_l0 s B hs s.length 0 k (by omega) (by omega)
end Go.Proofs.YtdhehfgmhkgbpaaDoorH
