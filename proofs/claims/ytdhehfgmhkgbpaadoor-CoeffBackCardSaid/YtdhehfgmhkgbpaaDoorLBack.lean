/- The walk of CoeffBack. -/
import Derived.Test.YtdhehfgmhkgbpaaDoorLKnown
import Derived.Test.YtdhehfgmhkgbpaaDoorQBack
import Derived.Deep.RegionHeld3
namespace Go.Proofs.YtdhehfgmhkgbpaaDoorH
open Go.RowKit Go.Proofs.YtdhehfgmhkgbpaaDoorW.PrintWords Go.Proofs.YtdhehfgmhkgbpaaDoor.PC

/-- Beside what a law carries: its pair in memory. -/
@[reducible] def S2 (w : World) (B : Nat) (run level : Int) (W : World) : Prop :=
  W.cell? ⟨B, 0, none⟩ = some (.int .i64 run) ∧ W.cell? ⟨B, 1, none⟩ = some (.int .i64 level) ∧
  (W.heap[B]? = some (.cells #[.int .i64 run, .int .i64 level] 26 (0, 0)) ∧ St w W)
theorem S2.mk' {w : World} {B : Nat} {run level : Int} {W : World} (h : W.heap[B]? = some (.cells #[.int .i64 run, .int .i64 level] 26 (0, 0))) (hb : St w W) : S2 w B run level W :=
  ⟨by rw [Lib.cell_of_heap h]; rfl, by rw [Lib.cell_of_heap h]; rfl, h, hb⟩
theorem S2.drew {w : World} {B : Nat} {run level : Int} {W : World} (h : S2 w B run level W) : S2 w B run level W.drew := S2.mk' h.2.2.1 h.2.2.2.drew
theorem S2.call {w : World} {B : Nat} {run level : Int} {W W' : World} (h : S2 w B run level W) (hb : Below W.heap.size W W') : S2 w B run level W' := by
  refine S2.mk' ?_ (h.2.2.2.call hb)
  rw [hb.block _ (Array.getElem?_eq_some_iff.1 h.2.2.1).1]; exact h.2.2.1
theorem S2.start {w W : World} (h : St w W) (run level : Int) : S2 w W.heap.size run level (W.alloc (.cells #[.int .i64 run, .int .i64 level] 26 (0, 0))) :=
  S2.mk' (heap_alloc_new W _) (h.alloc _)

theorem bytes_c (s : List UInt8) (B : List Int) (hs : s.length + B.length ≤ 100) (A : Option Addr) (c : Nat) (hc : B.length ≤ c) (W : World) (hC : Kd.C (Kd.int .i64) W A B.length B) :
    Calls Tryd.prog 18 #[.string (tx s), .slice A B.length c] W fun e W' => ∃ A1 c1 out, e = .returned (.slice A1 out.length c1) ∧ Below W.heap.size W W' ∧ out.length ≤ c1 ∧ Kd.C (Kd.int .u8) W' A1 out.length out ∧ Part (digits s ++ B) (digits s ++ B).length out := by
  obtain ⟨out, ho, hp⟩ := bytes_f s B (by omega) 1000 (by omega)
  refine (praxinoscopelaw08_bytes.calls 1000 (tx s) A c B out W hC hc ho).mono ?_
  rintro e W' ⟨v, rfl, hR, hb⟩
  obtain ⟨A1, c1, rfl, h1, h2⟩ := Kd.R_reads hR
  exact ⟨A1, c1, out, rfl, hb, h1, h2, hp⟩

set_option maxHeartbeats 8000000 in
set_option maxRecDepth 100000 in
theorem back_walk (a b : Int) (first : Bool) (A : Option Addr) (c : Nat) (l : List Int) (w : World) (hL : Laid w) (ha : -9223372036854775808 ≤ a ∧ a ≤ 9223372036854775807) (hb : -9223372036854775808 ≤ b ∧ b ≤ 9223372036854775807)
    (hC : Kd.C (Kd.int .i64) w A l.length l) (hc : l.length ≤ c) :
    Calls Tryd.prog 8 #[.int .i64 a, .int .i64 b, .bool first, .slice A l.length c] w fun e w' => e = .returned (.bool true) ∧ Below w.heap.size w w' := by
  obtain ⟨run, level, hof, hp⟩ := of_f a b ha hb
  have hS0 : St w w := St.refl hL
  have HP := Lib.hid hp
  have HOF := Lib.hid hof
  have HC := Lib.hid hC
  have HCC := Lib.hid hc
  clear hL ha hb hp hof hC hc
  by_cases hlen : 60 < (l.length : Int)
  · go_enter Tryd.func8, Tryd.ntmps8
    go_wp2_with (first
      | (go_at_call 7; with_reducible refine (known_walk _ hS0.laid).mono ?_; rintro e w' ⟨rfl, hB⟩; have hS1 := hS0.call hB)
      | (go_at_call 14; with_reducible refine (praxinoscopelaw08_of.calls _ _ run level _ HOF.out).mono ?_; rintro e w' ⟨rfl, hB⟩; have hS2 := hS1.call hB))
    go_ret
    exact ⟨rfl, (S2.start hS2 _ _).2.2.2.bel⟩
  · obtain ⟨s, hs⟩ : ∃ s, s = putT run level first := ⟨_, rfl⟩
    obtain ⟨t, ht⟩ : ∃ t, t = escT run level := ⟨_, rfl⟩
    have HS := Lib.hid hs
    have HT := Lib.hid ht
    have hput := put_f first HP.out
    have hesc := escape_f HP.out
    rw [← hs] at hput
    rw [← ht] at hesc
    have hlens := putT_length first HP.out
    rw [← hs] at hlens
    have hlent := escT_length run level
    rw [← ht] at hlent
    have hbs := putT_bin first HP.out
    rw [← hs] at hbs
    have hbt := escT_bin run level
    rw [← ht] at hbt
    have hct := code_f t 20 hbt.1 hbt.2 (by omega) (by omega) (by omega)
    have szs := tx_size s
    have szt := tx_size t
    rw [hlent] at szt
    have hlenN : l.length ≤ 60 := by omega
    have HGS : Hid (∀ out, Part (digits s ++ l) (digits s ++ l).length out → praxinoscopelaw08_gets.f first run level (s.length : Int) 0 out = some true) := Lib.hid fun out h => by
      have h1 := h.len
      have h2 : (digits s ++ l).length = s.length + l.length := by simp [digits]
      rw [hs] at h h1 h2 hlens ⊢
      exact gets_put first HP.out l out h (by omega)
    have HGT : Hid (∀ out, Part (digits t ++ l) (digits t ++ l).length out → praxinoscopelaw08_gets.f first run level 20 0 out = some true) := Lib.hid fun out h => by
      have h1 := h.len
      have h2 : (digits t ++ l).length = t.length + l.length := by simp [digits]
      rw [ht] at h h1 h2 hlent
      exact gets_esc first HP.out l out h (by omega)
    have HBS : Hid (∀ (W : World), Kd.C (Kd.int .i64) W A l.length l → Calls Tryd.prog 18 #[.string (tx s), .slice A l.length c] W fun e W' => ∃ A1 c1 out, e = .returned (.slice A1 out.length c1) ∧ Below W.heap.size W W' ∧ out.length ≤ c1 ∧ Kd.C (Kd.int .u8) W' A1 out.length out ∧ Part (digits s ++ l) (digits s ++ l).length out) :=
      Lib.hid fun W hW => bytes_c s l (by omega) A c HCC.out W hW
    have HBT : Hid (∀ (W : World), Kd.C (Kd.int .i64) W A l.length l → Calls Tryd.prog 18 #[.string (tx t), .slice A l.length c] W fun e W' => ∃ A1 c1 out, e = .returned (.slice A1 out.length c1) ∧ Below W.heap.size W W' ∧ out.length ≤ c1 ∧ Kd.C (Kd.int .u8) W' A1 out.length out ∧ Part (digits t ++ l) (digits t ++ l).length out) :=
      Lib.hid fun W hW => bytes_c t l (by omega) A c HCC.out W hW
    clear hlenN
    cases hsh : isShort run level with
    | true =>
      have h14 : (s.length : Int) ≤ 14 := by
        rw [hs]; unfold putT
        have hne : shortL run level first ≠ [] := fun z => by rw [short_first, hsh] at z; cases z
        obtain ⟨x, _, e, _⟩ := short_item first HP.out hne
        have := item_len x
        rw [if_neg hne, e]; simp; omega
      have hcs := code_f s 14 hbs.1 hbs.2 (by omega) h14 (by omega)
      have hshf := short_f run level
      rw [hsh] at hshf
      clear hs ht hbs hbt
      go_enter Tryd.func8, Tryd.ntmps8
      go_wp2_with (first
        | (go_at_call 7; with_reducible refine (known_walk _ hS0.laid).mono ?_; rintro e w' ⟨rfl, hB⟩; have hS1 := hS0.call hB)
        | (go_at_call 14; with_reducible refine (praxinoscopelaw08_of.calls _ _ run level _ HOF.out).mono ?_; rintro e wB ⟨rfl, hB⟩; have hS2 := S2.start (hS1.call hB) run level)
        | (go_at_call 15; with_reducible refine (coeff_Put.calls _ _ _ (tx s) 0 _ hS2.2.2.2.laid hput).mono ?_; rintro e w' ⟨rfl, hB⟩; have hS3 := hS2.call hB; have k0 := hS3.1; have k1 := hS3.2.1)
        | (go_at_call 16; with_reducible refine (coeff_Escape.calls _ _ (tx t) 0 _ hS3.2.2.2.laid hesc).mono ?_; rintro e w' ⟨rfl, hB⟩; have hS4 := hS3.call hB; have k0 := hS4.1; have k1 := hS4.2.1)
        | (go_at_call 21; with_reducible refine (coeff_Short.calls _ _ true _ hS4.2.2.2.laid hshf).mono ?_; rintro e w' ⟨rfl, hB⟩; have hS5 := hS4.call hB; have k0 := hS5.1; have k1 := hS5.2.1)
        | (go_at_call 17; with_reducible refine (praxinoscopelaw08_code.calls 1001 (tx s) 14 true _ hcs).mono ?_; rintro e w' ⟨rfl, hB⟩; have hS6 := hS5.call hB.below; have k0 := hS6.1; have k1 := hS6.2.1)
        | (go_at_call 17; with_reducible refine (praxinoscopelaw08_code.calls 1001 (tx t) 20 true _ hct).mono ?_; rintro e w' ⟨rfl, hB⟩; have hS7 := hS6.call hB.below; have k0 := hS7.1; have k1 := hS7.2.1))
      go_region_held3 (fun W => W.cell? ⟨wB.heap.size, 0, none⟩ = some (.int .i64 run) ∧ W.cell? ⟨wB.heap.size, 1, none⟩ = some (.int .i64 level) ∧ (W.heap[wB.heap.size]? = some (.cells #[.int .i64 run, .int .i64 level] 26 (0, 0)) ∧ St w W))
        (first | exact S2.drew (by assumption) | exact S2.call (by assumption) (by assumption))
        (first
          | (go_at_call 18; with_reducible refine (HBS.out _ (Kd.C_below HC.out (show S2 w wB.heap.size run level _ from by assumption).2.2.2.bel)).mono ?_; rintro e w' ⟨A1, c1, out1, rfl, hB1, hc1, hC1, hP1⟩)
          | (go_at_call 18; with_reducible refine (HBT.out _ (Kd.C_below HC.out (show S2 w wB.heap.size run level _ from by assumption).2.2.2.bel)).mono ?_; rintro e w' ⟨A2, c2, out2, rfl, hB2, hc2, hC2, hP2⟩)
          | (go_at_call 24; with_reducible refine (praxinoscopelaw08_gets.calls first run level (s.length : Int) 0 A1 c1 out1 true _ (St.laid (show S2 w wB.heap.size run level _ from by assumption).2.2.2) hC1 hc1 (HGS.out _ hP1)).mono ?_; rintro e w' ⟨rfl, hB3⟩)
          | (go_at_call 24; with_reducible refine (praxinoscopelaw08_gets.calls first run level 20 0 A2 c2 out2 true _ (St.laid (show S2 w wB.heap.size run level _ from by assumption).2.2.2) hC2 hc2 (HGT.out _ hP2)).mono ?_; rintro e w' ⟨rfl, hB4⟩))
      go_wp2
      go_ret
      exact ⟨rfl, (show S2 w wB.heap.size run level _ from by assumption).2.2.2.bel⟩
    | false =>
      have hst : s = t := by
        rw [hs, ht]; unfold putT
        rw [if_pos ((short_first first run level).2 hsh)]
      rw [hst] at hput
      have hshf := short_f run level
      rw [hsh] at hshf
      clear hs ht hbs hbt szs hlens HBS HGS
      go_enter Tryd.func8, Tryd.ntmps8
      go_wp2_with (first
        | (go_at_call 7; with_reducible refine (known_walk _ hS0.laid).mono ?_; rintro e w' ⟨rfl, hB⟩; have hS1 := hS0.call hB)
        | (go_at_call 14; with_reducible refine (praxinoscopelaw08_of.calls _ _ run level _ HOF.out).mono ?_; rintro e wB ⟨rfl, hB⟩; have hS2 := S2.start (hS1.call hB) run level)
        | (go_at_call 15; with_reducible refine (coeff_Put.calls _ _ _ (tx t) 0 _ hS2.2.2.2.laid hput).mono ?_; rintro e w' ⟨rfl, hB⟩; have hS3 := hS2.call hB; have k0 := hS3.1; have k1 := hS3.2.1)
        | (go_at_call 16; with_reducible refine (coeff_Escape.calls _ _ (tx t) 0 _ hS3.2.2.2.laid hesc).mono ?_; rintro e w' ⟨rfl, hB⟩; have hS4 := hS3.call hB; have k0 := hS4.1; have k1 := hS4.2.1)
        | (go_at_call 21; with_reducible refine (coeff_Short.calls _ _ false _ hS4.2.2.2.laid hshf).mono ?_; rintro e w' ⟨rfl, hB⟩; have hS5 := hS4.call hB; have k0 := hS5.1; have k1 := hS5.2.1)
        | (go_at_call 17; with_reducible refine (praxinoscopelaw08_code.calls 1001 (tx t) 20 true _ hct).mono ?_; rintro e w' ⟨rfl, hB⟩; have hS6 := hS5.call hB.below; have k0 := hS6.1; have k1 := hS6.2.1)
        | (go_at_call 17; with_reducible refine (praxinoscopelaw08_code.calls 1001 (tx t) 20 true _ hct).mono ?_; rintro e w' ⟨rfl, hB⟩; have hS7 := hS6.call hB.below; have k0 := hS7.1; have k1 := hS7.2.1))
      go_region_held3 (fun W => W.cell? ⟨wB.heap.size, 0, none⟩ = some (.int .i64 run) ∧ W.cell? ⟨wB.heap.size, 1, none⟩ = some (.int .i64 level) ∧ (W.heap[wB.heap.size]? = some (.cells #[.int .i64 run, .int .i64 level] 26 (0, 0)) ∧ St w W))
        (first | exact S2.drew (by assumption) | exact S2.call (by assumption) (by assumption))
        (first
          | (go_at_call 18; with_reducible refine (HBT.out _ (Kd.C_below HC.out (show S2 w wB.heap.size run level _ from by assumption).2.2.2.bel)).mono ?_; rintro e w' ⟨A2, c2, out2, rfl, hB2, hc2, hC2, hP2⟩)
          | (go_at_call 24; with_reducible refine (praxinoscopelaw08_gets.calls first run level 20 0 A2 c2 out2 true _ (St.laid (show S2 w wB.heap.size run level _ from by assumption).2.2.2) hC2 hc2 (HGT.out _ hP2)).mono ?_; rintro e w' ⟨rfl, hB4⟩))
      go_wp2
      go_ret
      exact ⟨rfl, (show S2 w wB.heap.size run level _ from by assumption).2.2.2.bel⟩
theorem wf_i64 {a : Int} (h : (Lit.int .i64 a).wf = true) : -9223372036854775808 ≤ a ∧ a ≤ 9223372036854775807 := by
  simp only [Lit.wf, Bool.and_eq_true, decide_eq_true_eq] at h
  exact h
theorem back_law (a b : Int) (first : Bool) (A : Option Addr) (c : Nat) (l : List Int) (w : World) (hL : Laid w) (wa : (Lit.int .i64 a).wf = true) (wb : (Lit.int .i64 b).wf = true)
    (hC : Kd.C (Kd.int .i64) w A l.length l) (hc : l.length ≤ c) (_hw : ∀ x ∈ l, (Lit.int .i64 x).wf = true) :
    Calls Tryd.prog 8 #[.int .i64 a, .int .i64 b, .bool first, .slice A l.length c] w fun e w' => e = .returned (.bool true) ∧ Below w.heap.size w w' :=
  back_walk a b first A c l w hL (wf_i64 wa) (wf_i64 wb) hC hc
end Go.Proofs.YtdhehfgmhkgbpaaDoorH
