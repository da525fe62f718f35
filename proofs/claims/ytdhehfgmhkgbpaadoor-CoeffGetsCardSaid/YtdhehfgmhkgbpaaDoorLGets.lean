/- The walk of CoeffGets. -/
import Derived.Test.YtdhehfgmhkgbpaaDoorHKept
import Derived.Test.YtdhehfgmhkgbpaaDoorQGets
import Derived.Test.YtdhehfgmhkgbpaaDoorPCx2
import Derived.Test.YtdhehfgmhkgbpaaDoorWEqStruct
import Derived.Deep.RegionHeld3
namespace Go.Proofs.YtdhehfgmhkgbpaaDoorH
open Go.RowKit Go.Proofs.YtdhehfgmhkgbpaaDoorW.PrintWords Go.Proofs.YtdhehfgmhkgbpaaDoorW.PrintLast Go.Proofs.YtdhehfgmhkgbpaaDoorW.PrintMore Go.Proofs.YtdhehfgmhkgbpaaDoor.PC

theorem eqPairG (d : Nat) (w : World) (x0 y0 : Int) (x1 y1 : Int) :
    (Op.equalIn (d + 2) 26 (.agg #[.int .i64 x0, .int .i64 x1]) (.agg #[.int .i64 y0, .int .i64 y1])).run Tryd.prog w = .ok (x0 == y0 && (x1 == y1)) w := by
  refine eqA_of Tryd.underlying26 (by kernel_rfl) ?_
  refine eqf_cons (by rfl) (by go_simp; rfl) (by go_simp; rfl) (by go_simp) ?_
  exact eqf_last (by rfl) (by go_simp; rfl) (by go_simp; rfl) (by go_simp)
attribute [local go_sem high] eqPairG

/-- Beside what the law carries: its two pairs in memory, and the bytes lent out. -/
@[reducible] def G4 (w : World) (B1 B2 : Nat) (r v : Int) (g cap : Nat) (l : List Int) (W : World) : Prop :=
  W.cell? ⟨B1, 0, none⟩ = some (.int .i64 r) ∧ W.cell? ⟨B1, 1, none⟩ = some (.int .i64 v) ∧ W.cell? ⟨B2, 0, none⟩ = some (.int .i64 r) ∧ W.cell? ⟨B2, 1, none⟩ = some (.int .i64 v) ∧
  (W.heap[B1]? = some (.cells #[.int .i64 r, .int .i64 v] 26 (0, 0)) ∧ W.heap[B2]? = some (.cells #[.int .i64 r, .int .i64 v] 26 (0, 0)) ∧ Lent g cap l W ∧ Below w.heap.size w W)
theorem G4.mk' {w : World} {B1 B2 : Nat} {r v : Int} {g cap : Nat} {l : List Int} {W : World} (h1 : W.heap[B1]? = some (.cells #[.int .i64 r, .int .i64 v] 26 (0, 0)))
    (h2 : W.heap[B2]? = some (.cells #[.int .i64 r, .int .i64 v] 26 (0, 0))) (hl : Lent g cap l W) (hb : Below w.heap.size w W) : G4 w B1 B2 r v g cap l W :=
  ⟨by rw [Lib.cell_of_heap h1]; rfl, by rw [Lib.cell_of_heap h1]; rfl, by rw [Lib.cell_of_heap h2]; rfl, by rw [Lib.cell_of_heap h2]; rfl, h1, h2, hl, hb⟩
theorem G4.call {w : World} {B1 B2 : Nat} {r v : Int} {g cap : Nat} {l : List Int} {W W' : World} (h : G4 w B1 B2 r v g cap l W) (hb : Below W.heap.size W W') : G4 w B1 B2 r v g cap l W' := by
  obtain ⟨_, _, _, _, h1, h2, hl, h4⟩ := h
  exact G4.mk' (by rw [hb.block _ (Array.getElem?_eq_some_iff.1 h1).1]; exact h1) (by rw [hb.block _ (Array.getElem?_eq_some_iff.1 h2).1]; exact h2) (hl.below hb) (h4.trans (hb.mono h4.size))
theorem G4.drew {w : World} {B1 B2 : Nat} {r v : Int} {g cap : Nat} {l : List Int} {W : World} (h : G4 w B1 B2 r v g cap l W) : G4 w B1 B2 r v g cap l W.drew := h.call (Below.drew (Below.refl _ _))

set_option maxHeartbeats 8000000 in
set_option maxRecDepth 100000 in
theorem gets_walk (A : Option Addr) (c : Nat) (l : List Int) (p : Int) (first : Bool) (w : World) (hL : Laid w) (hC : Kd.C (Kd.int .u8) w A l.length l) (hc : l.length ≤ c) (hb : ∀ x ∈ l, 0 ≤ x ∧ x ≤ 255) (hp : p ≤ 9223372036854775807) :
    Calls Tryd.prog 3 #[.slice A l.length c, .int .i64 p, .bool first] w fun e w' => e = .returned (.bool true) ∧ Below w.heap.size w w' := by
  have HL := Lib.hid hL
  have HC := Lib.hid hC
  have HCC := Lib.hid hc
  have haw : praxinoscopelaw08_awake.f = some true := by decide +kernel
  by_cases hlen : 100 < (l.length : Int)
  · clear hL hC hc hb
    go_enter Tryd.func3, Tryd.ntmps3
    go_wp2_with (go_at_call 9; with_reducible refine (praxinoscopelaw08_awake.calls true _ HL.out haw).mono ?_; rintro e w' ⟨rfl, hB⟩)
    go_ret
    exact ⟨rfl, hB⟩
  · have hl100 : l.length ≤ 1000 := by omega
    have hlb : l.length ≤ 100000000000000 := by omega
    obtain ⟨⟨r, v, en, n, er⟩, hG⟩ : ∃ R, getP l p first = R := ⟨_, rfl⟩
    have h1 : coeff_Get.f l p first = some (r, v, en, n, er) := by unfold coeff_Get.f; rw [if_pos ⟨hb, hlb⟩, hG]
    have h2 : praxinoscoperef08_Get.f 3000 l p first = some (r, v, en, n, er) := by rw [ref_get first l hb hlb p hp, hG]
    have H1 := Lib.hid h1
    have H2 := Lib.hid h2
    clear hL hC hc hb h1 h2 hG
    go_enter Tryd.func3, Tryd.ntmps3
    go_wp2_with (first
      | (go_at_call 10; with_reducible refine (lent_calls A c l _ HC.out hl100).mono ?_; rintro e w1 ⟨g, cap, rfl, hge, hlent, hB1⟩; have hcap : l.length ≤ cap := by obtain ⟨_, _, _, _, h, _⟩ := hlent.out; omega)
      | (go_at_call 11; with_reducible refine (coeff_Get.calls _ cap l p first r v en n er _ (HL.out.below hB1) hlent.reads hcap H1.out).mono ?_; rintro e w2 ⟨rfl, hB2⟩; have hlent2 := hlent.below (hB2.alloc hB2.size (.cells #[.int .i64 r, .int .i64 v] 26 (0, 0))); have hB3 := hB1.trans ((hB2.alloc hB2.size (.cells #[.int .i64 r, .int .i64 v] 26 (0, 0))).mono hB1.size); have hh1 := heap_alloc_new w2 (.cells #[.int .i64 r, .int .i64 v] 26 (0, 0)))
      | (go_at_call 12; with_reducible refine (praxinoscoperef08_Get.calls 3000 A c l p first r v en n er _ (Kd.C_below HC.out hB3) HCC.out H2.out).mono ?_; rintro e w3 ⟨rfl, hB4⟩; have hB5 := hB4.alloc hB4.size (.cells #[.int .i64 r, .int .i64 v] 26 (0, 0)); have hG4 : G4 w w2.heap.size w3.heap.size r v g cap l (w3.alloc (.cells #[.int .i64 r, .int .i64 v] 26 (0, 0))) := G4.mk' (by rw [hB5.block _ (Array.getElem?_eq_some_iff.1 hh1).1]; exact hh1) (heap_alloc_new w3 _) (hlent2.below hB5) (hB3.trans (hB5.mono hB3.size)); have k0 := hG4.1; have k1 := hG4.2.1; have k2 := hG4.2.2.1; have k3 := hG4.2.2.2.1)
      | (go_at_call 13; with_reducible refine (kept_calls g cap A c l _ hG4.2.2.2.2.2.2.1 (Kd.C_below HC.out hG4.2.2.2.2.2.2.2) hl100).mono ?_; rintro e w' ⟨rfl, hB6⟩; have hB7 := hG4.2.2.2.2.2.2.2.trans (hB6.mono hG4.2.2.2.2.2.2.2.size))
      | (go_at_call 9; with_reducible refine (praxinoscopelaw08_awake.calls true _ (HL.out.below hB7) haw).mono ?_; rintro e w4 ⟨rfl, hB8⟩))
    go_ret
    exact ⟨rfl, hB7.trans (hB8.mono hB7.size)⟩
theorem gets_law (A : Option Addr) (c : Nat) (l : List Int) (p : Int) (first : Bool) (w : World) (hL : Laid w) (hC : Kd.C (Kd.int .u8) w A l.length l) (hc : l.length ≤ c) (hw : ∀ x ∈ l, (Lit.int .u8 x).wf = true) (wp : (Lit.int .i64 p).wf = true) :
    Calls Tryd.prog 3 #[.slice A l.length c, .int .i64 p, .bool first] w fun e w' => e = .returned (.bool true) ∧ Below w.heap.size w w' :=
  gets_walk A c l p first w hL hC hc (fun x hx => by have := hw x hx; simp only [Lit.wf, Bool.and_eq_true, decide_eq_true_eq] at this; exact this) (by simp only [Lit.wf, Bool.and_eq_true, decide_eq_true_eq] at wp; exact wp.2)
end Go.Proofs.YtdhehfgmhkgbpaaDoorH
