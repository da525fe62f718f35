/- Contract of coeff.Get. -/
import Derived.Test.YtdhehfgmhkgbpaaDoorHGetB
namespace Go.Proofs.YtdhehfgmhkgbpaaDoorH
open Go.RowKit Go.Proofs.YtdhehfgmhkgbpaaDoorW.PrintWords

theorem seenL_bin (l : List Int) (p n : Nat) : Bin (seenL l p n) := by
  induction n with
  | zero => intro c hc; cases hc
  | succ n ih =>
    intro c hc
    simp only [seenL, List.mem_append, List.mem_singleton] at hc
    rcases hc with hc | rfl
    · exact ih c hc
    · have := bitI_lt l (p + n)
      have : bitI l (p + n) = 0 ∨ bitI l (p + n) = 1 := by omega
      rcases this with h | h <;> rw [h] <;> simp

theorem get_calls (A : Option Addr) (c : Nat) (l : List Int) (p : Int) (first : Bool) (w : World) (hr : (Kd.int .u8).C w A l.length l) (hb : ∀ x ∈ l, 0 ≤ x ∧ x ≤ 255) (hl : l.length ≤ 100000000000000) (hT : LaidA w) :
    Calls Tryd.prog 11 #[.slice A l.length c, .int .i64 p, .bool first] w fun e w' => e = retG (getP l p first) ∧ Below w.heap.size w w' := by
  unfold getP
  by_cases h0 : p < 0
  · rw [if_pos h0]; exact get_neg A c l p first w h0
  · rw [if_neg h0]
    by_cases h1 : 8 * (l.length : Int) < p
    · rw [if_pos h1]; exact get_over A c l p first w (by omega) h1 hl
    · rw [if_neg h1]
      obtain ⟨q, rfl⟩ := Int.eq_ofNat_of_zero_le (show 0 ≤ p by omega)
      rw [Int.toNat_natCast]
      have hbin := seenL_bin l q (min 20 (8 * l.length - q))
      have hlen : (seenL l q (min 20 (8 * l.length - q))).length ≤ 20 := by rw [seenL_length]; omega
      obtain ⟨s, hs⟩ : ∃ s, seenL l q (min 20 (8 * l.length - q)) = s := ⟨_, rfl⟩
      rw [hs] at hbin hlen ⊢
      have hq : q ≤ 8 * l.length := by omega
      unfold getS
      cases he : sameL s escL with
      | true =>
        rw [if_pos rfl]
        by_cases h20 : s.length < 20
        · rw [if_pos h20]; exact get_esc_more A c l q first w hr hb hq hl s hs hlen he h20
        · rw [if_neg h20]
          refine get_esc A c l q first w hr hb hq hl s hs hbin he (by omega) _ ?_
          by_cases z0 : i8 (numL (s.drop 12)) = 0
          · exact .inl ⟨z0, by rw [if_pos (.inl z0)]⟩
          · by_cases z1 : i8 (numL (s.drop 12)) = -128
            · exact .inr (.inl ⟨z1, by rw [if_pos (.inr z1)]⟩)
            · exact .inr (.inr ⟨z0, z1, by rw [if_neg (by simp [z0, z1])]⟩)
      | false =>
        rw [if_neg (by simp)]
        cases hp2 : (!first && Lib.hasPrefix s [49, 48]) with
        | true =>
          rw [if_pos rfl]
          simp only [Bool.and_eq_true, Bool.not_eq_true'] at hp2
          obtain ⟨rfl, hp3⟩ := hp2
          exact get_end A c l q w hr hb hq hl s hs hlen he hp3
        | false =>
          rw [if_neg (by simp)]
          exact callsIn_wide.1 (get_tab A c l q first 3 (by omega) w hr hb hq hl hT s hs hlen he hp2)
end Go.Proofs.YtdhehfgmhkgbpaaDoorH
