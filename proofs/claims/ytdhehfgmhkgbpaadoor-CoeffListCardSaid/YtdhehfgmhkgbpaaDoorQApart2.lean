/- Plain: CoeffApart's statement on numbers and texts. -/
import Derived.Test.YtdhehfgmhkgbpaaDoorQApart
import Derived.Test.YtdhehfgmhkgbpaaDoorPCx4
namespace Go.Proofs.YtdhehfgmhkgbpaaDoorH
open Go.RowKit Go.Proofs.YtdhehfgmhkgbpaaDoorW.PrintWords Go.Proofs.YtdhehfgmhkgbpaaDoorW.PrintLast Go.Proofs.YtdhehfgmhkgbpaaDoorW.PrintMore Go.Proofs.YtdhehfgmhkgbpaaDoor.PC

theorem wfi {a : Int} (h : (Lit.int .i64 a).wf = true) : -9223372036854775808 ≤ a ∧ a ≤ 9223372036854775807 := by
  simp only [Lit.wf, Bool.and_eq_true, decide_eq_true_eq] at h
  exact h
theorem awake_f : praxinoscopelaw08_awake.f = some true := by decide +kernel
theorem tx_inj {a b : List UInt8} (h : (tx a).toList = (tx b).toList) : a = b := by rwa [tx_toList, tx_toList] at h
theorem apart_j (first : Bool) {r1 v1 r2 v2 : Int} (hp1 : Pr r1 v1) (hp2 : Pr r2 v2) (k : Nat) :
    praxinoscopelaw08_CoeffApart.j0 (k + 1) first true (tx (putT r1 v1 first)) (tx (putT r2 v2 first)) (tx (escT r2 v2)) false r1 v1 r2 v2 = some true := by
  have hl1 := putT_length first hp1
  have hl2 := putT_length first hp2
  have hl3 := escT_length r2 v2
  have hAB := put_same first hp1 hp2
  have hEX := put_esc first hp1 hp2
  have hEND : first = false → (putT r1 v1 first).take 2 ≠ [49, 48] := fun z => by rw [z]; exact put_end hp1
  generalize putT r1 v1 first = s at hl1 hAB hEX hEND
  generalize putT r2 v2 first = t at hl2 hAB
  generalize escT r2 v2 = x at hl3 hEX
  have e1 : mn (s.length : Int) (t.length : Int) = ((min s.length t.length : Nat) : Int) := by unfold mn; split <;> omega
  have e2 : mn (s.length : Int) 20 = (s.length : Int) := by unfold mn; split <;> omega
  have h4 := sameL_take s t (min s.length t.length) rfl
  have h5 := sameL_take s x s.length (by omega)
  have h6 : ((tx s).extract 0 s.length).toList = s := by rw [tx_take, List.take_of_length_le (Nat.le_refl _), tx_toList]
  have h7 : ((tx s).extract 0 2).toList = s.take 2 := by rw [tx_take, tx_toList]
  simp only [praxinoscopelaw08_CoeffApart.j0, tx_size]
  rw [e1, e2, Int.toNat_natCast, Int.toNat_natCast, h4, hAB, hl3, h7, tx_toList s, tx_toList x]
  rw [if_neg (by decide), if_pos (by omega), if_pos (by omega), if_pos (by omega), if_neg (by simp), if_pos (by omega), if_pos (by omega), if_pos (by omega)]
  have hfin : (if true = true then (if first = true then some true else if (s.length : Int) < 2 then some true else if (0 : Int) ≤ 2 then (if (2 : Int) ≤ (s.length : Int) then some (s.take 2 != [49, 48]) else none) else none) else none) = some true := by
    rw [if_pos rfl]
    cases first
    · rw [if_neg (by decide), if_neg (by omega), if_pos (by decide), if_pos (by omega)]
      congr 1
      rw [bne_iff_ne]
      exact hEND rfl
    · rfl
  by_cases hx : s = x
  · rw [if_pos (by rw [hx]), if_pos hx]
    exact hfin
  · rw [if_neg]
    · exact hfin
    · intro h
      rw [← beq_iff_eq] at h
      rw [h5] at h
      exact hx (hEX h)
theorem apart_pure : praxinoscopelaw08_CoeffApart.Pure := by
  intro a b c d first wa wb wc wd
  obtain ⟨r1, v1, hof1, hp1⟩ := of_f a b (wfi wa) (wfi wb)
  obtain ⟨r2, v2, hof2, hp2⟩ := of_f c d (wfi wc) (wfi wd)
  have hl1 := putT_length first hp1
  have hl2 := putT_length first hp2
  have hl3 := escT_length r2 v2
  have hb1 := putT_bin first hp1
  have hb2 := putT_bin first hp2
  have hc1 := code_f _ 20 hb1.1 hb1.2 (by omega) (by omega) (by omega)
  have hc2 := code_f _ 20 hb2.1 hb2.2 (by omega) (by omega) (by omega)
  have hs : (((tx (escT r2 v2)).size : Int) != 20) = false := by rw [tx_size, hl3]; rfl
  refine ⟨1001, ?_⟩
  unfold praxinoscopelaw08_CoeffApart.f
  simp only [awake_f, hof1, hof2, put_f first hp1, put_f first hp2, escape_f hp2, Option.bind_some, if_true, hc1, hc2, hs]
  exact apart_j first hp1 hp2 1000
end Go.Proofs.YtdhehfgmhkgbpaaDoorH
