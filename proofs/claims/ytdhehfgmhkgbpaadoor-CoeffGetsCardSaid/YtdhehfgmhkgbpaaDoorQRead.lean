/- Plain: the document's Read tells the bits. -/
import Derived.Test.YtdhehfgmhkgbpaaDoorHSeen
import Derived.Test.YtdhehfgmhkgbpaaDoorPCx2
import Derived.Test.YtdhehfgmhkgbpaaDoorWMore
namespace Go.Proofs.YtdhehfgmhkgbpaaDoorH
open Go.RowKit Go.Proofs.YtdhehfgmhkgbpaaDoorW.PrintWords Go.Proofs.YtdhehfgmhkgbpaaDoorW.PrintLast Go.Proofs.YtdhehfgmhkgbpaaDoorW.PrintMore Go.Proofs.YtdhehfgmhkgbpaaDoor.PC

theorem ref_bit_f (l : List Int) (hb : ∀ x ∈ l, 0 ≤ x ∧ x ≤ 255) (p : Nat) (hp : p < 8 * l.length) (hl : l.length ≤ 100000000000000) : praxinoscoperef01_bit.f l (p : Int) = some (bitI l p : Int) := by
  have e1 : wrap64 (Int.tdiv (p : Int) 8) = ((p / 8 : Nat) : Int) := by rw [Int.tdiv_eq_ediv_of_nonneg (by omega)]; unfold wrap64; omega
  have e2 : IntKind.u64.wrap (wrap64 (7 - (Int.tmod (p : Int) 8))) = ((7 - p % 8 : Nat) : Int) := by
    rw [Int.tmod_eq_emod_of_nonneg (by omega), IntKind.wrap_u64]; unfold wrap64; omega
  have e3 : rd l ((p / 8 : Nat) : Int) = l.getD (p / 8) 0 := by unfold rd; rw [Int.toNat_natCast]
  have hx : 0 ≤ l.getD (p / 8) 0 ∧ l.getD (p / 8) 0 ≤ 255 := by
    rw [List.getD_eq_getElem?_getD, List.getElem?_eq_getElem (show p / 8 < l.length by omega)]
    exact hb _ (List.getElem_mem _)
  unfold praxinoscoperef01_bit.f
  rw [e1, e2, e3, if_pos (by omega), if_pos (by omega), if_pos (by omega)]
  unfold bitI
  generalize l.getD (p / 8) 0 = x at hx
  obtain ⟨y, rfl⟩ := Int.eq_ofNat_of_zero_le hx.1
  have e4 : shr .u8 (y : Int) ((7 - p % 8 : Nat) : Int) = ((y / 2 ^ (7 - p % 8) : Nat) : Int) := by
    unfold shr
    rw [Int.toNat_natCast, Nat.min_eq_left (show 7 - p % 8 ≤ IntKind.u8.bits from Nat.le_trans (by omega) (show 8 ≤ IntKind.u8.bits from by decide))]
    simp
  have hq : y / 2 ^ (7 - p % 8) ≤ y := Nat.div_le_self _ _
  rw [e4, Int.toNat_natCast]
  generalize y / 2 ^ (7 - p % 8) = q at hq
  rw [show wrap64 (q : Int) = (q : Int) by unfold wrap64; omega, Int.tmod_eq_emod_of_nonneg (by omega)]
  rfl
theorem bits_small (l : List Int) (p i : Nat) (hi : i ≤ 32) : bitsN l p i < 4294967296 := by
  have h := bitsN_lt l p i
  have h2 : 2 ^ i ≤ 2 ^ 32 := Nat.pow_le_pow_right (by decide) hi
  have h3 : 2 ^ 32 = 4294967296 := by decide
  rw [h3] at h2
  exact Nat.lt_of_lt_of_le h h2
theorem bits_step (a b : Nat) (ha : a < 4294967296) (hb : b < 2) : wrap64 ((wrap64 (2 * (a : Int))) + (b : Int)) = ((2 * a + b : Nat) : Int) := by
  unfold wrap64; omega
theorem ref_l0_f (l : List Int) (hb : ∀ x ∈ l, 0 ≤ x ∧ x ≤ 255) (p n : Nat) (hp : p + n ≤ 8 * l.length) (hn : n ≤ 32) (hl : l.length ≤ 100000000000000) :
    ∀ (d i k : Nat), n = i + d → d < k → praxinoscoperef01_Read.l0 k l (p : Int) (n : Int) (bitsN l p i : Int) (i : Int) = some ((bitsN l p n : Int), 0) := by
  intro d
  induction d with
  | zero =>
    intro i k hi hk
    obtain ⟨k, rfl⟩ : ∃ m, k = m + 1 := ⟨k - 1, by omega⟩
    obtain rfl : i = n := by omega
    rw [praxinoscoperef01_Read.l0, if_neg (by omega)]
  | succ d ih =>
    intro i k hi hk
    obtain ⟨k, rfl⟩ : ∃ m, k = m + 1 := ⟨k - 1, by omega⟩
    have e1 : wrap64 ((p : Int) + (i : Int)) = ((p + i : Nat) : Int) := by unfold wrap64; omega
    have h1 := bits_small l p i (by omega)
    have h3 := bitI_lt l (p + i)
    have e2 : wrap64 ((wrap64 (2 * (bitsN l p i : Int))) + (bitI l (p + i) : Int)) = (bitsN l p (i + 1) : Int) := by
      have : bitsN l p (i + 1) = 2 * bitsN l p i + bitI l (p + i) := rfl
      rw [this]; exact bits_step _ _ h1 h3
    have e3 : wrap64 ((i : Int) + 1) = ((i + 1 : Nat) : Int) := by unfold wrap64; omega
    rw [praxinoscoperef01_Read.l0, if_pos (by omega), e1, ref_bit_f l hb (p + i) (by omega) hl, Option.bind_some, e2, e3]
    exact ih (i + 1) k (by omega) (by omega)
theorem ref_read_f (l : List Int) (hb : ∀ x ∈ l, 0 ≤ x ∧ x ≤ 255) (p n : Nat) (hp : p + n ≤ 8 * l.length) (hn : n ≤ 32) (hl : l.length ≤ 100000000000000) (k : Nat) (hk : 50 ≤ k) : praxinoscoperef01_Read.f k l (p : Int) (n : Int) = some ((bitsN l p n : Int), 0) := by
  obtain ⟨k, rfl⟩ : ∃ m, k = m + 1 + 1 := ⟨k - 2, by omega⟩
  have ec : praxinoscoperef01_Count.f l = some (8 * (l.length : Int)) := by unfold praxinoscoperef01_Count.f; congr 1; unfold wrap64; omega
  unfold praxinoscoperef01_Read.f
  rw [if_neg (by omega), if_neg (by omega), decide_eq_false (by omega), praxinoscoperef01_Read.j0, if_neg (by decide), ec, Option.bind_some, if_neg (by omega), Option.bind_some, decide_eq_false (by unfold wrap64; omega), praxinoscoperef01_Read.j1, if_neg (by decide)]
  exact ref_l0_f l hb p n hp hn hl n 0 k (by omega) (by omega)
theorem ref_read_more (l : List Int) (p n : Nat) (hp : 8 * l.length < p + n) (hn : n ≤ 32) (hl : l.length ≤ 100000000000000) (hp2 : p ≤ 9223372036854775807) (k : Nat) (hk : 50 ≤ k) : praxinoscoperef01_Read.f k l (p : Int) (n : Int) = some (0, 5) := by
  obtain ⟨k, rfl⟩ : ∃ m, k = m + 1 + 1 := ⟨k - 2, by omega⟩
  have ec : praxinoscoperef01_Count.f l = some (8 * (l.length : Int)) := by unfold praxinoscoperef01_Count.f; congr 1; unfold wrap64; omega
  unfold praxinoscoperef01_Read.f
  rw [if_neg (by omega), if_neg (by omega), decide_eq_false (by omega), praxinoscoperef01_Read.j0, if_neg (by decide), ec, Option.bind_some]
  by_cases h : (p : Int) > 8 * (l.length : Int)
  · rw [if_pos h, praxinoscoperef01_Read.j1, if_pos rfl]
  · rw [if_neg h, Option.bind_some, decide_eq_true (by unfold wrap64; omega), praxinoscoperef01_Read.j1, if_pos rfl]
end Go.Proofs.YtdhehfgmhkgbpaaDoorH
