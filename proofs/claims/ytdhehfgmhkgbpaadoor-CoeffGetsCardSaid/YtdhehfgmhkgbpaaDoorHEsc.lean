/- Contracts of coeff.pair and coeff.Escape. -/
import Derived.Test.YtdhehfgmhkgbpaaDoorHFmt
import Derived.Deep.RegionHeld3
namespace Go.Proofs.YtdhehfgmhkgbpaaDoorH
open Go.RowKit Go.Proofs.YtdhehfgmhkgbpaaDoorW.PrintWords

/-- What coeff.pair tells. -/
def pairL (run level : Int) : Bool := decide (run ≥ 0) && decide (run ≤ 63) && decide (level ≥ -127) && decide (level ≤ 127) && decide (level ≠ 0)
theorem pair_calls (run level : Int) (w : World) : Calls Tryd.prog 37 #[.agg #[.int .i64 run, .int .i64 level]] w fun e w' => e = .returned (.bool (pairL run level)) ∧ Below w.heap.size w w' := by
  have hcase : (run < 0) ∨ (run ≥ 0 ∧ 63 < run) ∨ (run ≥ 0 ∧ run ≤ 63 ∧ level < -127) ∨ (run ≥ 0 ∧ run ≤ 63 ∧ level ≥ -127 ∧ 127 < level) ∨ (run ≥ 0 ∧ run ≤ 63 ∧ level ≥ -127 ∧ level ≤ 127 ∧ level = 0) ∨ (run ≥ 0 ∧ run ≤ 63 ∧ level ≥ -127 ∧ level ≤ 127 ∧ level ≠ 0) := by omega
  rcases hcase with h1 | ⟨h1, h2⟩ | ⟨h1, h2, h3⟩ | ⟨h1, h2, h3, h4⟩ | ⟨h1, h2, h3, h4, h5⟩ | ⟨h1, h2, h3, h4, h5⟩
  · have HG : Hid (pairL run level = false) := Lib.hid (by simp [pairL]; omega)
    go_enter Tryd.func37, Tryd.ntmps37
    go_wp2
    go_ret
    refine ⟨?_, (Below.refl _ w).alloc (Nat.le_refl _) _⟩
    rw [HG.out]
    rfl
  · have HG : Hid (pairL run level = false) := Lib.hid (by simp [pairL]; omega)
    go_enter Tryd.func37, Tryd.ntmps37
    go_wp2
    go_ret
    refine ⟨?_, (Below.refl _ w).alloc (Nat.le_refl _) _⟩
    rw [HG.out]
    rfl
  · have HG : Hid (pairL run level = false) := Lib.hid (by simp [pairL]; omega)
    go_enter Tryd.func37, Tryd.ntmps37
    go_wp2
    go_ret
    refine ⟨?_, (Below.refl _ w).alloc (Nat.le_refl _) _⟩
    rw [HG.out]
    rfl
  · have HG : Hid (pairL run level = false) := Lib.hid (by simp [pairL]; omega)
    go_enter Tryd.func37, Tryd.ntmps37
    go_wp2
    go_ret
    refine ⟨?_, (Below.refl _ w).alloc (Nat.le_refl _) _⟩
    rw [HG.out]
    rfl
  · subst h5
    have HG : Hid (pairL run 0 = false) := Lib.hid (by simp [pairL])
    go_enter Tryd.func37, Tryd.ntmps37
    go_wp2
    go_ret
    refine ⟨?_, (Below.refl _ w).alloc (Nat.le_refl _) _⟩
    rw [HG.out]
    rfl
  · have HG : Hid (pairL run level = true) := Lib.hid (by simp [pairL]; omega)
    go_enter Tryd.func37, Tryd.ntmps37
    go_wp2
    go_ret
    refine ⟨?_, (Below.refl _ w).alloc (Nat.le_refl _) _⟩
    rw [HG.out]
    simp [h5]
/-- What coeff.Escape writes ahead of its numbers. -/
def escS : List UInt8 := [48, 48, 48, 48, 48, 49]
def escapeL (run level : Int) : List UInt8 × Int :=
  if pairL run level then (escS ++ binD run.toNat 6 ++ binD (level % 256).toNat 8, 0) else ([], 3)

theorem text_z (z : Int) (k : Nat) (hk : k ≤ 14) (h0 : 0 ≤ z) (h1 : z < 2 ^ k) (w : World) (hT : LaidD w) :
    Calls Tryd.prog 39 #[.int .i64 z, .int .i64 k] w fun e w' => e = .returned (.string ⟨(binD z.toNat k).toArray⟩) ∧ Below w.heap.size w w' := by
  obtain ⟨n, rfl⟩ := Int.eq_ofNat_of_zero_le h0
  exact text_calls n k hk (by have : ((2 : Int) ^ k) = ((2 ^ k : Nat) : Int) := by simp
                              rw [this] at h1; omega) w hT
@[reducible] def EscS (w : World) (run level : Int) (W : World) : Prop :=
  W.cell? ⟨w.heap.size, 0, none⟩ = some (.int .i64 run) ∧ W.cell? ⟨w.heap.size, 1, none⟩ = some (.int .i64 level) ∧
  (W.heap[w.heap.size]? = some (.cells #[.int .i64 run, .int .i64 level] 26 (0, 0)) ∧ Below w.heap.size w W)
theorem EscS.mk' {w : World} {run level : Int} {W : World} (h : W.heap[w.heap.size]? = some (.cells #[.int .i64 run, .int .i64 level] 26 (0, 0))) (hb : Below w.heap.size w W) : EscS w run level W :=
  ⟨by rw [Lib.cell_of_heap h]; rfl, by rw [Lib.cell_of_heap h]; rfl, h, hb⟩
theorem EscS.drew {w : World} {run level : Int} {W : World} (h : EscS w run level W) : EscS w run level W.drew := EscS.mk' h.2.2.1 h.2.2.2.drew
theorem EscS.call {w : World} {run level : Int} {W W' : World} (h : EscS w run level W) (hb : Below W.heap.size W W') : EscS w run level W' := by
  refine EscS.mk' ?_ (h.2.2.2.trans (hb.mono h.2.2.2.size))
  rw [hb.block _ (Array.getElem?_eq_some_iff.1 h.2.2.1).1]; exact h.2.2.1
theorem EscS.laid {w : World} {run level : Int} {W : World} (hT : LaidD w) (h : EscS w run level W) : LaidD W := hT.below h.2.2.2

theorem wrap_i8_mod (x : Int) : IntKind.i8.wrap x % 256 = x % 256 := by
  have : IntKind.i8.wrap x = (x + 128) % 256 - 128 := by
    have hb : IntKind.i8.wrap x = if (x % 256 ≥ 128) then x % 256 - 256 else x % 256 := by
      simp [IntKind.wrap, IntKind.bits, IntKind.signed]
    rw [hb]; split <;> omega
  omega
set_option maxRecDepth 100000 in
theorem escape_calls (run level : Int) (w : World) (hT : LaidD w) : Calls Tryd.prog 16 #[.agg #[.int .i64 run, .int .i64 level]] w fun e w' =>
    e = .returned (.tuple #[.string ⟨(escapeL run level).1.toArray⟩, .int .i64 (escapeL run level).2]) ∧ Below w.heap.size w w' := by
  have HT := Lib.hid hT
  clear hT
  have hS0 : ∀ w', Below (w.heap.size + 1) (w.alloc (.cells #[.int .i64 run, .int .i64 level] 26 (0, 0))) w' → EscS w run level w' := by
    intro w' hB
    refine EscS.mk' ?_ (((Below.refl _ w).alloc (Nat.le_refl _) _).trans (hB.mono (by omega)))
    rw [hB.block _ (by simp)]
    exact heap_alloc_new w _
  cases hp : pairL run level with
  | false =>
    have HG : Hid (escapeL run level = ([], 3)) := Lib.hid (by simp [escapeL, hp])
    go_enter Tryd.func16, Tryd.ntmps16
    go_wp2_with (go_at_call 37; refine (pair_calls run level _).mono ?_; rintro e w' ⟨rfl, hB⟩)
    go_ret2
    refine ⟨?_, ((Below.refl _ w).alloc (Nat.le_refl _) _).trans (hB.mono (by simp))⟩
    rw [HG.out]
    rfl
  | true =>
    have HG : Hid (escapeL run level = (escS ++ binD run.toNat 6 ++ binD (level % 256).toNat 8, 0)) := Lib.hid (by simp [escapeL, hp])
    have hR : 0 ≤ run ∧ run < 2 ^ 6 := by simp [pairL] at hp; omega
    obtain ⟨z, hz⟩ : ∃ z, z = level % 256 := ⟨_, rfl⟩
    rw [← hz] at HG
    have h0 : 0 ≤ z := by omega
    have h1 : z < 2 ^ 8 := by omega
    obtain ⟨t6, s6, e6⟩ : ∃ t : ByteArray, t.size = 6 ∧ t = ⟨(binD run.toNat 6).toArray⟩ := ⟨_, by simp [ByteArray.size, binD_length], rfl⟩
    obtain ⟨t8, s8, e8⟩ : ∃ t : ByteArray, t.size = 8 ∧ t = ⟨(binD z.toNat 8).toArray⟩ := ⟨_, by simp [ByteArray.size, binD_length], rfl⟩
    have HF6 : Hid (∀ W, LaidD W → Calls Tryd.prog 39 #[.int .i64 run, .int .i64 6] W fun e w' => e = .returned (.string t6) ∧ Below W.heap.size W w') := Lib.hid fun W hW => by
      rw [e6]; exact text_z run 6 (by omega) hR.1 hR.2 W hW
    have HF8 : Hid (∀ W, LaidD W → Calls Tryd.prog 39 #[.int .i64 (IntKind.i64.wrap (IntKind.u8.wrap (IntKind.i8.wrap level))), .int .i64 8] W fun e w' => e = .returned (.string t8) ∧ Below W.heap.size W w') := Lib.hid fun W hW => by
      rw [e8, show IntKind.i64.wrap (IntKind.u8.wrap (IntKind.i8.wrap level)) = z by rw [IntKind.wrap_i64, IntKind.wrap_u8, wrap_i8_mod]; omega]; exact text_z z 8 (by omega) h0 h1 W hW
    have HE : Hid (t6 = ⟨(binD run.toNat 6).toArray⟩ ∧ t8 = ⟨(binD z.toNat 8).toArray⟩) := Lib.hid ⟨e6, e8⟩
    have sE : (⟨#[48, 48, 48, 48, 48, 49]⟩ : ByteArray).size = 6 := rfl
    clear e6 e8 hR h0 h1
    go_enter Tryd.func16, Tryd.ntmps16
    go_wp2_with (go_at_call 37; refine (pair_calls run level _).mono ?_; rintro e w' ⟨rfl, hB⟩)
    have hS := hS0 _ (by simpa using hB)
    clear hS0 hB
    go_region_held3 (fun W => W.cell? ⟨w.heap.size, 0, none⟩ = some (.int .i64 run) ∧ W.cell? ⟨w.heap.size, 1, none⟩ = some (.int .i64 level) ∧ (W.heap[w.heap.size]? = some (.cells #[.int .i64 run, .int .i64 level] 26 (0, 0)) ∧ Below w.heap.size w W)) (first | exact EscS.drew (by assumption) | exact EscS.call (by assumption) (by assumption)) (first | (go_at_call 39; with_reducible refine (HF6.out _ (EscS.laid (run := run) (level := level) HT.out (by assumption))).mono ?_; rintro e w' ⟨rfl, hB⟩) | (go_at_call 39; with_reducible refine (HF8.out _ (EscS.laid (run := run) (level := level) HT.out (by assumption))).mono ?_; rintro e w' ⟨rfl, hB⟩) | (go_at_call 39; trace_state; fail))
    go_wp2
    go_ret2
    refine ⟨?_, by first | exact hHeld.2.2.2 | (rename_i h; exact h.2.2.2)⟩
    rw [HG.out, HE.out.1, HE.out.2]
    have : ((⟨#[48, 48, 48, 48, 48, 49]⟩ : ByteArray) ++ ⟨(binD run.toNat 6).toArray⟩ ++ ⟨(binD z.toNat 8).toArray⟩) = ⟨(escS ++ binD run.toNat 6 ++ binD z.toNat 8).toArray⟩ := by
      apply ByteArray.ext
      simp [escS]
    rw [← this]
    rfl
end Go.Proofs.YtdhehfgmhkgbpaaDoorH
