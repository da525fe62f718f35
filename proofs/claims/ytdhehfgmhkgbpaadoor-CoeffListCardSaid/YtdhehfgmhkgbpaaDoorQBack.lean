/- Plain: the printed functions' answers at codes: coeff.Put, Escape, Short, the law's 'of', 'code', 'gets'. -/
import Derived.Test.YtdhehfgmhkgbpaaDoorQBits
import Derived.Test.YtdhehfgmhkgbpaaDoorQCode
namespace Go.Proofs.YtdhehfgmhkgbpaaDoorH
open Go.RowKit Go.Proofs.YtdhehfgmhkgbpaaDoorW.PrintWords Go.Proofs.YtdhehfgmhkgbpaaDoorW.PrintLast Go.Proofs.YtdhehfgmhkgbpaaDoor.PC

def tx (l : List UInt8) : ByteArray := ⟨l.toArray⟩
theorem tx_size (l : List UInt8) : (tx l).size = l.length := by simp [tx, ByteArray.size]
theorem tx_toList (l : List UInt8) : (tx l).toList = l := by rw [ByteArray.toList_eq]; simp [tx]
theorem tx_append (a b : List UInt8) : tx a ++ tx b = tx (a ++ b) := by
  apply ByteArray.ext
  simp [tx]
theorem Pr.pairf {run level : Int} (h : Pr run level) : coeff_pair.f run level = some true := by
  obtain ⟨h1, h2, h3, h4, h5⟩ := h
  unfold coeff_pair.f
  rw [if_pos h1, if_pos h2, if_pos h3, if_pos h4]
  simp [h5]
theorem put_f (first : Bool) {run level : Int} (h : Pr run level) : coeff_Put.f run level first = some (tx (putT run level first), 0) := by
  unfold coeff_Put.f coeff_short.f coeff_Escape.f
  rw [h.pairf, Option.bind_some, if_pos rfl, Option.bind_some, escapeL_of h, Option.bind_some]
  have e : (⟨(shortL run level first).toArray⟩ : ByteArray).toList = shortL run level first := tx_toList _
  rw [e]
  unfold putT
  by_cases hs : shortL run level first = []
  · rw [if_pos hs, if_pos hs]; rfl
  · obtain ⟨x, _, ex, _⟩ := short_item first h hs
    have hl := item_len x
    have hz : (⟨(shortL run level first).toArray⟩ : ByteArray).size + 1 ≤ 9223372036854775807 := by
      have := tx_size (shortL run level first)
      unfold tx at this
      rw [this, ex]; omega
    rw [if_neg hs, if_neg hs]
    by_cases hn : level < 0
    · rw [if_pos hn, if_pos hz, if_pos hn, ← tx_append]; rfl
    · rw [if_neg hn, if_pos hz, if_neg hn, ← tx_append]; rfl
theorem escape_f {run level : Int} (h : Pr run level) : coeff_Escape.f run level = some (tx (escT run level), 0) := by
  unfold coeff_Escape.f
  rw [escapeL_of h]; rfl
def isShort (run level : Int) : Bool := shortL run level false != []
def rl (x : GItem) : Int × Int := (x.1.1, x.1.2.1)
theorem tab_same : (tabG true).map rl = (tabG false).map rl := by decide +kernel
theorem short_nil (first : Bool) (run level : Int) : shortL run level first = [] ↔ ∀ y ∈ (tabG first).map rl, ¬ (y.1 == run && (y.2 == level || y.2 == wrap64 (-level))) = true := by
  unfold shortL
  cases hf : (tabG first).find? (hitP run level) with
  | none =>
    refine ⟨fun _ y hy => ?_, fun _ => rfl⟩
    obtain ⟨x, hx, rfl⟩ := List.mem_map.1 hy
    exact List.find?_eq_none.1 hf x hx
  | some x =>
    have hl := item_len x
    refine ⟨fun h => ?_, fun h => ?_⟩
    · simp only at h; rw [h] at hl; simp at hl
    · exact absurd (List.find?_some hf) (h (rl x) (List.mem_map_of_mem (List.mem_of_find?_eq_some hf)))
theorem short_first (first : Bool) (run level : Int) : shortL run level first = [] ↔ isShort run level = false := by
  have e : isShort run level = false ↔ shortL run level false = [] := by unfold isShort; simp
  rw [e, short_nil, short_nil]
  cases first
  · rfl
  · rw [tab_same]

theorem pick_f (x n : Int) (hx : -9223372036854775808 ≤ x ∧ x ≤ 9223372036854775807) (hn : 0 < n ∧ n ≤ 1000) : ∃ r, praxinoscopekit_Pick.f x n = some r ∧ 0 ≤ r ∧ r < n := by
  unfold praxinoscopekit_Pick.f
  rw [if_neg (by omega), if_neg (by omega)]
  have h1 : Int.tmod x n < n := Int.tmod_lt_of_pos x hn.1
  have h2 : -n < Int.tmod x n := by
    have := Int.tmod_lt_of_pos (-x) hn.1
    rw [Int.neg_tmod] at this; omega
  by_cases h : Int.tmod x n < 0
  · rw [if_pos h]
    refine ⟨_, rfl, ?_⟩
    have : wrap64 (Int.tmod x n + n) = Int.tmod x n + n := by unfold wrap64; omega
    rw [this]; omega
  · rw [if_neg h]; exact ⟨_, rfl, by omega, h1⟩
theorem of_f (a b : Int) (ha : -9223372036854775808 ≤ a ∧ a ≤ 9223372036854775807) (hb : -9223372036854775808 ≤ b ∧ b ≤ 9223372036854775807) : ∃ run level, praxinoscopelaw08_of.f a b = some (run, level) ∧ Pr run level := by
  unfold praxinoscopelaw08_of.f
  obtain ⟨x, hx, hx0, hx1⟩ := pick_f b 254 hb (by omega)
  obtain ⟨y, hy, hy0, hy1⟩ := pick_f a 64 ha (by omega)
  have e : wrap64 (x - 127) = x - 127 := by unfold wrap64; omega
  have e2 : wrap64 (x - 127 + 1) = x - 127 + 1 := by unfold wrap64; omega
  rw [hx, Option.bind_some, hy, Option.bind_some, Option.bind_some, e, e2]
  unfold praxinoscopelaw08_pair.f
  by_cases h : x - 127 ≥ 0
  · rw [if_pos h]; exact ⟨y, x - 127 + 1, rfl, hy0, by omega, by omega, by omega, by omega⟩
  · rw [if_neg h]; exact ⟨y, x - 127, rfl, hy0, by omega, by omega, by omega, by omega⟩

theorem code_l0 (s : List UInt8) (most : Int) (hb : Bin s) (h1 : 1 ≤ s.length) (h2 : (s.length : Int) ≤ most) (hm : s.length ≤ 1000) : ∀ (d n k : Nat), s.length = n + d → d < k →
    praxinoscopelaw08_code.l0 k (tx s) most ((s.take (min n 9)).any (· == 49)) (n : Int) = some ((s.take 9).any (· == 49)) := by
  intro d
  induction d with
  | zero =>
    intro n k hn hk
    obtain ⟨k, rfl⟩ : ∃ m, k = m + 1 := ⟨k - 1, by omega⟩
    simp only [praxinoscopelaw08_code.l0, tx_size]
    rw [if_neg (by omega), if_pos (by omega), if_pos h2]
    congr 2
    by_cases h : n ≤ 9
    · rw [Nat.min_eq_left h, List.take_of_length_le (by omega), List.take_of_length_le (by omega)]
    · rw [Nat.min_eq_right (by omega)]
  | succ d ih =>
    intro n k hn hk
    obtain ⟨k, rfl⟩ : ∃ m, k = m + 1 := ⟨k - 1, by omega⟩
    have hw : wrap64 ((n : Int) + 1) = ((n + 1 : Nat) : Int) := by unfold wrap64; omega
    have hbt : bt (tx s) (n : Int) = ((s[n]'(by omega)).toNat : Int) := by
      unfold bt
      rw [dif_pos (by rw [Int.toNat_natCast, tx_size]; omega)]
      rfl
    have hnext := ih (n + 1) k (by omega) (by omega)
    have hstep : (s.take (min (n + 1) 9)).any (· == 49) = if (s.take (min n 9)).any (· == 49) = true then true else if (n : Int) < 9 then (s[n]'(by omega)) == 49 else false := by
      by_cases h : n < 9
      · rw [Nat.min_eq_left (by omega), Nat.min_eq_left (by omega), List.take_add_one, List.getElem?_eq_getElem (by omega), List.any_append, if_pos (show (n : Int) < 9 by omega)]
        cases (s.take n).any (· == 49) <;> simp
      · rw [Nat.min_eq_right (by omega), Nat.min_eq_right (by omega), if_neg (show ¬ (n : Int) < 9 by omega)]
        cases (s.take 9).any (· == 49) <;> simp
    rw [hstep] at hnext
    simp only [praxinoscopelaw08_code.l0, tx_size]
    rw [if_pos (by omega), if_pos (by omega), hw, hbt]
    have hbit := hb _ (List.getElem_mem (show n < s.length by omega))
    generalize s[n]'(by omega) = c at hbit hnext ⊢
    generalize (s.take (min n 9)).any (· == 49) = one at hnext ⊢
    rcases hbit with rfl | rfl
    · rw [if_pos (by decide)]
      cases one
      · by_cases h : (n : Int) < 9
        · simp only [h, if_true] at hnext ⊢; simpa using hnext
        · simp only [h, if_false] at hnext ⊢; simpa using hnext
      · simpa using hnext
    · rw [if_neg (by decide), if_pos (by decide)]
      cases one
      · by_cases h : (n : Int) < 9
        · simp only [h, if_true] at hnext ⊢; simpa using hnext
        · simp only [h, if_false] at hnext ⊢; simpa using hnext
      · simpa using hnext
theorem code_f (s : List UInt8) (most : Int) (hb : Bin s) (h9 : (s.take 9).any (· == 49) = true) (h1 : 1 ≤ s.length) (h2 : (s.length : Int) ≤ most) (hm : s.length ≤ 1000) : praxinoscopelaw08_code.f 1001 (tx s) most = some true := by
  have := code_l0 s most hb h1 h2 hm s.length 0 1001 (by omega) (by omega)
  rw [h9] at this
  simpa [praxinoscopelaw08_code.f] using this

/-- A text, and other numbers behind it, as bytes: what coeff.Get tells at a place. -/
theorem getP_part (s : List UInt8) (B out : List Int) (hb : Bin s) (h : Part (digits s ++ B) (digits s ++ B).length out) (p : Nat) (hp : p ≤ s.length) (first : Bool) :
    ∃ r, getP out (p : Int) first = getS ((s.drop p ++ r).take 20) first := by
  have hsig : signs (digits s ++ B) = s ++ signs B := by
    have := signs_digits s hb
    unfold signs at this ⊢
    rw [List.map_append, this]
  have hlen := h.len
  have hD : (digits s ++ B).length = s.length + B.length := by simp [digits]
  have hp8 : p ≤ 8 * out.length := by rw [hlen, hD]; omega
  refine ⟨(signs B ++ List.replicate 7 48).take (8 * out.length - s.length), ?_⟩
  unfold getP
  rw [if_neg (by omega), if_neg (by omega), Int.toNat_natCast, seen_part _ _ h _ _ (by omega), hsig, List.append_assoc, List.drop_append_of_le_length hp]
  congr 1
  rw [← List.take_take, List.take_append (l₁ := s.drop p), List.take_of_length_le (l := s.drop p) (by simp; rw [hlen, hD]; omega)]
  congr 3
  simp; omega
theorem gets_put (first : Bool) {run level : Int} (hp : Pr run level) (B out : List Int) (h : Part (digits (putT run level first) ++ B) (digits (putT run level first) ++ B).length out) (hl : out.length ≤ 1000) :
    praxinoscopelaw08_gets.f first run level ((putT run level first).length : Int) 0 out = some true := by
  obtain ⟨r, hr⟩ := getP_part (putT run level first) B out (putT_bin first hp).1 h 0 (Nat.zero_le _) first
  rw [List.drop_zero, getS_put first hp r] at hr
  unfold praxinoscopelaw08_gets.f coeff_Get.f
  rw [if_pos ⟨h.byt, by omega⟩]
  rw [show ((0 : Nat) : Int) = 0 from rfl] at hr
  rw [hr]
  simp
theorem gets_esc (first : Bool) {run level : Int} (hp : Pr run level) (B out : List Int) (h : Part (digits (escT run level) ++ B) (digits (escT run level) ++ B).length out) (hl : out.length ≤ 1000) :
    praxinoscopelaw08_gets.f first run level 20 0 out = some true := by
  obtain ⟨r, hr⟩ := getP_part (escT run level) B out (escT_bin run level).1 h 0 (Nat.zero_le _) first
  rw [List.drop_zero, List.take_append_of_le_length (by rw [escT_length]; omega), List.take_of_length_le (by rw [escT_length]; omega), getS_esc first hp] at hr
  unfold praxinoscopelaw08_gets.f coeff_Get.f
  rw [if_pos ⟨h.byt, by omega⟩]
  rw [show ((0 : Nat) : Int) = 0 from rfl] at hr
  rw [hr]
  simp
end Go.Proofs.YtdhehfgmhkgbpaaDoorH
