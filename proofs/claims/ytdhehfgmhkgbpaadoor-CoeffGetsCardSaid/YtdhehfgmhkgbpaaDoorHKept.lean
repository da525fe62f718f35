/- Contracts of the laws' LentBytes (bytes with room behind them) and KeptBytes (are they and that room as they were?). -/
import Derived.Test.YtdhehfgmhkgbpaaDoorHPrint
import Derived.Test.YtdhehfgmhkgbpaaDoorPCx2
import Derived.Test.YtdhehfgmhkgbpaaDoorWMore
import Derived.BigRegion
import Derived.Deep.MidRow
namespace Go.Proofs.YtdhehfgmhkgbpaaDoorH
open Go.RowKit Go.Proofs.YtdhehfgmhkgbpaaDoorW.PrintWords Go.Proofs.YtdhehfgmhkgbpaaDoorW.PrintLast Go.Proofs.YtdhehfgmhkgbpaaDoorW.PrintMore Go.Proofs.YtdhehfgmhkgbpaaDoor.PC

theorem infoU : (Tryd.prog.info? 5).map (fun i => (i.zero, i.size, i.bytes)) = some (some (.int .u8 0), 1, 1) := by kernel_rfl
def roomL : List Int := [201, 202, 203, 204]
/-- Bytes at the begin of a block of the call's own, with four known ones behind them. -/
structure Lent (g cap : Nat) (l : List Int) (W : World) : Prop where
  out : ∃ cur, W.heap[g]? = some (.cells cur 5 (0, 0)) ∧ cur.size = cap ∧ cap ≤ maxLen ∧ l.length + 4 ≤ cap ∧ cur.toList.take (l.length + 4) = (l ++ roomL).map (Value.int .u8)
theorem Lent.below {g cap : Nat} {l : List Int} {W W' : World} (h : Lent g cap l W) (hb : Below W.heap.size W W') : Lent g cap l W' := by
  obtain ⟨cur, h1, h2⟩ := h.out
  exact ⟨cur, by rw [hb.block _ (Array.getElem?_eq_some_iff.1 h1).1]; exact h1, h2⟩
theorem Lent.cell {g cap : Nat} {l : List Int} {W : World} (h : Lent g cap l W) (i : Nat) (hi : i < l.length + 4) : W.cell? ⟨g, i, none⟩ = some (.int .u8 ((l ++ roomL).getD i 0)) := by
  obtain ⟨cur, h1, h2, _, h3, h4⟩ := h.out
  rw [Lib.cell_of_heap h1]
  have e : cur[i]? = (cur.toList.take (l.length + 4))[i]? := by
    rw [List.getElem?_take_of_lt hi, Array.getElem?_toList]
  have hl : i < (l ++ roomL).length := by simp [roomL]; omega
  rw [e, h4, List.getElem?_map, List.getD_eq_getElem?_getD, List.getElem?_eq_getElem hl]
  rfl
theorem Lent.reads {g cap : Nat} {l : List Int} {W : World} (h : Lent g cap l W) : Kd.C (Kd.int .u8) W (some ⟨g, 0, none⟩) l.length l := by
  obtain ⟨cur, h1, h2, h3, h4, h5⟩ := h.out
  unfold maxLen at h3
  refine Kd.C_of_reads (d := (0 : Int)) ⟨rfl, by omega, fun _ => ⟨_, rfl, fun j hj => ?_⟩⟩
  rw [add_plain]
  have := h.cell j (by omega)
  rw [this, List.getD_eq_getElem?_getD, List.getElem?_append_left hj, ← List.getD_eq_getElem?_getD]
theorem Lent.room {g cap : Nat} {l : List Int} {W : World} (h : Lent g cap l W) : Kd.C (Kd.int .u8) W (some ⟨g, l.length, none⟩) 4 roomL := by
  refine Kd.C_of_reads (d := (0 : Int)) ⟨rfl, by decide, fun _ => ⟨_, rfl, fun j hj => ?_⟩⟩
  have hj4 : j < 4 := hj
  rw [Addr.add_mid, h.cell _ (by omega), List.getD_eq_getElem?_getD, List.getElem?_append_right (by omega), ← List.getD_eq_getElem?_getD, Nat.add_sub_cancel_left]
set_option maxHeartbeats 2000000 in
set_option maxRecDepth 100000 in
theorem lent_calls (A : Option Addr) (c : Nat) (l : List Int) (w : World) (hC : Kd.C (Kd.int .u8) w A l.length l) (hl : l.length ≤ 1000) :
    Calls Tryd.prog 10 #[.slice A l.length c] w fun e W => ∃ g cap, e = .returned (.slice (some ⟨g, 0, none⟩) l.length cap) ∧ w.heap.size ≤ g ∧ Lent g cap l W ∧ Below w.heap.size w W := by
  have HC := Lib.hid hC
  clear hC
  obtain ⟨xs, hxs⟩ : ∃ xs, l ++ roomL = xs := ⟨_, rfl⟩
  have hxl : xs.length = l.length + 4 := by rw [← hxs]; simp [roomL]
  have HX := Lib.hid hxs
  have HXL := Lib.hid hxl
  clear hxs hxl
  have hw : (Below w.heap.size w w) := Below.refl _ _
  go_enter Tryd.func10, Tryd.ntmps10
  go_wp2_with (first
    | ((with_reducible refine gate_dst (N := 4) rfl ?_); refine Kd.R_lit (Kd.int .u8) (w0 := w) w.heap.size 5 ?hg (N := 4) ?hd (xs := ([] : List Int)) (inner := []) (ok := fun _ => True) (okp := fun _ => True) ?hr ?hp (fun _ hk => hk) trivial (Below.refl _ _) (Nat.le_refl _) (by simp) ?_; (case hd => rfl); (case hg => rfl); (case hr => first | (go_simp; done) | (go_simp; rfl)); (case hp => exact (Reps.none _ _)); intro v1 w1 ho1 hb1 _ _)
    | ((with_reducible refine gate_builtin (b := .append) (xs := #[.tmp 4, .tmp 5]) rfl ?_); at_builtin; refine Kd.R_append_rows (Kd.int .u8) (w0 := w) w.heap.size rfl (.tmp 4) (.tmp 5) 22 5 (.int .u8 0) 1 rfl Tryd.underlying22 infoU rfl (by decide) (by omega) v1 [] l _ _ _ (fun _ => True) (fun _ => False) rfl rfl ?aO ?aR (fun _ _ h => h) (fun _ h => h.elim) ?aF ?aB ?aS ?aL ?_; (case aR => exact Kd.C_below HC.out hb1); (case aB => exact hb1); (case aF => exact (fun _ _ => trivial)); (case aO => exact ho1); (case aS => exact hb1.size); (case aL => simp only [List.length_nil]; omega); intro v2 w2 ho2 hb2 _ _; rw [List.nil_append] at ho2; clear ho1 hb1)
    | ((with_reducible refine gate_dst (N := 8) rfl ?_); refine Kd.R_lit (Kd.int .u8) _ 5 ?hg (N := 8) ?hd (xs := roomL) (inner := [.int .u8 201, .int .u8 202, .int .u8 203, .int .u8 204]) (ok := fun _ => True) (okp := fun _ => True) ?hr ?hp (fun _ hk => hk) trivial (Below.refl _ _) (Nat.le_refl _) (by decide) ?_; (case hd => rfl); (case hg => rfl); (case hr => first | (go_simp; done) | (go_simp; rfl)); (case hp => exact (Reps.one (show Kd.M (Kd.int .u8) _ _ _ 201 [.int .u8 201] from rfl) (Reps.one (show Kd.M (Kd.int .u8) _ _ _ 202 [.int .u8 202] from rfl) (Reps.one (show Kd.M (Kd.int .u8) _ _ _ 203 [.int .u8 203] from rfl) (Reps.one (show Kd.M (Kd.int .u8) _ _ _ 204 [.int .u8 204] from rfl) (Reps.none _ _)))))); intro v3 w3 ho3 hb3 _ _; have ho2' := Kd.R_below ho2 hb3; have hb3' := hb2.trans (hb3.mono hb2.size); obtain ⟨A3, c3, e3, _, hC3⟩ := Kd.R_reads ho3; subst e3; clear ho2 hb2 ho3 hb3)
    | ((with_reducible refine gate_builtin (b := .append) (xs := #[.tmp 7, .tmp 8]) rfl ?_); at_builtin; refine Kd.R_append_rows (Kd.int .u8) (w0 := w) w.heap.size rfl (.tmp 7) (.tmp 8) 22 5 (.int .u8 0) 1 rfl Tryd.underlying22 infoU rfl (by decide) (by omega) v2 l roomL _ _ _ (fun _ => True) (fun _ => False) rfl rfl ?aO ?aR (fun _ _ h => h) (fun _ h => h.elim) ?aF ?aB ?aS ?aL ?_; (case aR => exact hC3); (case aB => exact hb3'); (case aF => exact (fun _ _ => trivial)); (case aO => exact ho2'); (case aS => exact hb3'.size); (case aL => simp only [roomL, List.length_cons, List.length_nil]; omega); intro v4 w4 ho4 hb4 _ _; rw [HX.out] at ho4; obtain ⟨g, cap, e4, hge, _⟩ := Kd.R_form ho4 (by rw [HXL.out]; omega); rw [HXL.out] at e4; subst e4; have hcap := (Kd.R_reads' ho4).2.1; clear ho2' hb3' hC3))
  go_ret
  refine ⟨g, cap, rfl, hge, ⟨?_⟩, hb4⟩
  have ho := Kd.own_of_R ho4
  rcases ho.2 with ⟨h, _⟩ | ⟨g', cap', cur, h, _, h1, h2, h3, h4, h5⟩
  · cases h
  · simp only [Value.slice.injEq, Option.some.injEq, Addr.mk.injEq] at h
    obtain ⟨⟨rfl, _⟩, _, rfl⟩ := h
    rw [Nat.mul_one] at h4 h5
    exact ⟨cur, h1, h4, h3, by omega, by rw [HX.out, ← HXL.out]; exact h5⟩

theorem strOfNums_room : strOfNums roomL = strOfNums [201, 202, 203, 204] := rfl
set_option maxHeartbeats 4000000 in
set_option maxRecDepth 100000 in
theorem kept_calls (g cap : Nat) (A : Option Addr) (c : Nat) (l : List Int) (w : World) (hLent : Lent g cap l w) (hC : Kd.C (Kd.int .u8) w A l.length l) (hl : l.length ≤ 1000) :
    Calls Tryd.prog 13 #[.slice (some ⟨g, 0, none⟩) l.length cap, .slice A l.length c] w fun e W => e = .returned (.bool true) ∧ Below w.heap.size w W := by
  have hcap : l.length + 4 ≤ cap := by obtain ⟨_, _, _, _, h, _⟩ := hLent.out; exact h
  have hcm : cap ≤ 9223372036854775807 := by obtain ⟨_, _, _, h, _⟩ := hLent.out; exact h
  have HL := Lib.hid hLent
  have HC := Lib.hid hC
  clear hLent hC
  have hci : (l.length : Int) + 4 ≤ (cap : Int) := by omega
  have SK : ∀ W, Below w.heap.size w W → ((convert 22 9 (.slice (some ⟨g, 0, none⟩) l.length cap)).run Tryd.prog W = .ok (.string (strOfNums l)) W ∧ (convert 22 9 (.slice A l.length c)).run Tryd.prog W = .ok (.string (strOfNums l)) W ∧
      (convert 22 9 (.slice (some ⟨g, l.length, none⟩) 4 (cap - l.length))).run Tryd.prog W = .ok (.string (strOfNums roomL)) W ∧ Below w.heap.size w W) := fun W hW =>
    ⟨Kd.C_string Tryd.underlying22 Tryd.underlying5 Tryd.underlying9 (HL.out.below hW).reads, Kd.C_string Tryd.underlying22 Tryd.underlying5 Tryd.underlying9 (Kd.C_below HC.out hW),
     Kd.C_string Tryd.underlying22 Tryd.underlying5 Tryd.underlying9 (HL.out.below hW).room, hW⟩
  have HSK := Lib.hid SK
  obtain ⟨q1, q2, q3, _⟩ := SK w.drew (Below.drew (Below.refl _ _))
  have hBA : Below w.heap.size w (w.alloc (.cells #[.int .u8 201, .int .u8 202, .int .u8 203, .int .u8 204] 5)).drew := Below.drew (Below.alloc (Below.refl _ _) (Nat.le_refl _) _)
  obtain ⟨r1, r2, r3, _⟩ := SK _ hBA
  have r4 : (convert 22 9 (.slice (some ⟨w.heap.size, 0, none⟩) 4 4)).run Tryd.prog (w.alloc (.cells #[.int .u8 201, .int .u8 202, .int .u8 203, .int .u8 204] 5)).drew = .ok (.string (strOfNums roomL)) (w.alloc (.cells #[.int .u8 201, .int .u8 202, .int .u8 203, .int .u8 204] 5)).drew := by
    refine Kd.C_string Tryd.underlying22 Tryd.underlying5 Tryd.underlying9 (Kd.C_of_reads (d := (0 : Int)) ⟨rfl, by decide, fun _ => ⟨_, rfl, fun j hj => ?_⟩⟩)
    have hj4 : j < 4 := hj
    have hb : (w.alloc (.cells #[.int .u8 201, .int .u8 202, .int .u8 203, .int .u8 204] 5)).drew.heap[w.heap.size]? = some (.cells #[.int .u8 201, .int .u8 202, .int .u8 203, .int .u8 204] 5 (0, 0)) := World.alloc_heap_new w _
    rw [add_plain, Lib.cell_of_heap hb]
    match j, hj4 with
    | 0, _ => rfl
    | 1, _ => rfl
    | 2, _ => rfl
    | 3, _ => rfl
  have HBA := Lib.hid hBA
  clear SK hBA
  have hd1 : decide ((l.length : Int) + 4 ≤ (cap : Int)) = true := decide_eq_true hci
  have hd2 : decide (l.length + 4 ≤ cap) = true := decide_eq_true hcap
  have hci1 : (l.length : Int) ≤ (cap : Int) := by omega
  have hge : 0 ≤ (l.length : Int) + 4 := by omega
  have htn : ((l.length : Int) + 4).toNat = l.length + 4 := by omega
  have hwr : IntKind.i64.wrap ((l.length : Int) + 4) = (l.length : Int) + 4 := by rw [IntKind.wrap_i64]; omega
  go_enter Tryd.func13, Tryd.ntmps13
  go_wp2
  go_region
  all_goals (try go_wp2)
  all_goals go_ret
  all_goals exact ⟨rfl, HBA.out⟩
end Go.Proofs.YtdhehfgmhkgbpaaDoorH
