/- Plain: no code begins another one's, nor an escape; none begins as the end does. -/
import Derived.Test.YtdhehfgmhkgbpaaDoorQBack
namespace Go.Proofs.YtdhehfgmhkgbpaaDoorH
open Go.RowKit Go.Proofs.YtdhehfgmhkgbpaaDoorW.PrintWords

theorem put_prefix (first : Bool) {r1 v1 r2 v2 : Int} (h1 : Pr r1 v1) (h2 : Pr r2 v2) (h : putT r1 v1 first <+: putT r2 v2 first) : r1 = r2 ∧ v1 = v2 := by
  obtain ⟨r, hr⟩ := h
  have g1 := getS_put first h1 r
  have g2 := getS_put first h2 []
  rw [List.append_nil, ← hr] at g2
  rw [g2] at g1
  simp only [Prod.mk.injEq] at g1
  exact ⟨g1.1.symm, g1.2.1.symm⟩
theorem put_same (first : Bool) {r1 v1 r2 v2 : Int} (h1 : Pr r1 v1) (h2 : Pr r2 v2) : sameL (putT r1 v1 first) (putT r2 v2 first) = (r1 == r2 && v1 == v2) := by
  rw [Bool.eq_iff_iff, sameL_iff, Bool.and_eq_true, beq_iff_eq, beq_iff_eq]
  refine ⟨fun h => h.elim (put_prefix first h1 h2) (fun z => ?_), ?_⟩
  · have := put_prefix first h2 h1 z
    exact ⟨this.1.symm, this.2.symm⟩
  · rintro ⟨rfl, rfl⟩
    exact .inl (List.prefix_refl _)
theorem put_esc (first : Bool) {r1 v1 r2 v2 : Int} (h1 : Pr r1 v1) (h2 : Pr r2 v2) (h : sameL (putT r1 v1 first) (escT r2 v2) = true) : putT r1 v1 first = escT r2 v2 := by
  have hl := putT_length first h1
  have he := escT_length r2 v2
  rw [sameL_iff] at h
  rcases h with h | h
  · obtain ⟨r, hr⟩ := h
    have g1 := getS_put first h1 r
    rw [hr, List.take_of_length_le (by omega), getS_esc first h2] at g1
    simp only [Prod.mk.injEq] at g1
    have hlen : (putT r1 v1 first).length = 20 := by omega
    exact List.IsPrefix.eq_of_length ⟨r, hr⟩ (by omega)
  · exact (h.eq_of_length_le (by omega)).symm
theorem put_end {r v : Int} (h : Pr r v) : (putT r v false).take 2 ≠ [49, 48] := by
  intro hc
  have hp : [49, 48] <+: putT r v false := by rw [← hc]; exact List.take_prefix _ _
  unfold putT at hp
  split at hp
  · obtain ⟨r, hr⟩ := hp
    have := congrArg (List.head? ·) hr
    simp [escT, escS] at this
  · rename_i hs
    obtain ⟨x, hx, e, _⟩ := short_item false h hs
    rw [e] at hp
    have hcx := List.all_eq_true.1 (tab_codes false) x hx
    simp only [codeB, Bool.and_eq_true, Bool.not_eq_true', Bool.or_eq_true] at hcx
    obtain ⟨⟨⟨_, h2⟩, _⟩, _⟩ := hcx
    have : sameL x.1.2.2 [49, 48] = true := by
      rw [sameL_iff]
      exact List.prefix_or_prefix_of_prefix (List.prefix_append x.1.2.2 _) hp
    rcases h2 with h2 | h2
    · cases h2
    · rw [this] at h2; cases h2
theorem tx_take (l : List UInt8) (n : Nat) : (tx l).extract 0 n = tx (l.take n) := by
  unfold tx
  apply ByteArray.ext
  apply Array.toList_inj.1
  rw [Lib.extract_data]
  simp
theorem sameL_take (a b : List UInt8) (n : Nat) (hn : n = min a.length b.length) : (((tx a).extract 0 n).toList == ((tx b).extract 0 n).toList) = sameL a b := by
  subst hn
  rw [tx_take, tx_take, tx_toList, tx_toList]
  rfl
end Go.Proofs.YtdhehfgmhkgbpaaDoorH
