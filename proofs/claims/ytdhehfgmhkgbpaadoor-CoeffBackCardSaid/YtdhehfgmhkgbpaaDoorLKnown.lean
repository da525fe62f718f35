/- The walk of CoeffKnown. -/
import Derived.Test.YtdhehfgmhkgbpaaDoorHSt
namespace Go.Proofs.YtdhehfgmhkgbpaaDoorH
open Go.RowKit Go.Proofs.YtdhehfgmhkgbpaaDoorW.PrintWords Go.Proofs.YtdhehfgmhkgbpaaDoor.PC

set_option maxHeartbeats 4000000 in
set_option maxRecDepth 100000 in
theorem known_walk (w : World) (hL : Laid w) : Calls Tryd.prog 7 #[] w fun e w' => e = .returned (.bool true) ∧ Below w.heap.size w w' := by
  have hS0 : St w w := St.refl hL
  clear hL
  go_enter Tryd.func7, Tryd.ntmps7
  go_wp2_with (first
    | (go_at_call 25; with_reducible refine (pair_st (w := w) (by repeat (first | assumption | apply St.alloc | apply St.drew | (refine St.set ?_ (by first | exact St.size (by assumption) | exact St.size1 (by assumption) | exact St.size2 (by assumption)) _))) _ _).mono ?_; rintro e w' ⟨rfl, hS⟩)
    | (go_at_call 24; with_reducible refine (gets_st (w := w) (by repeat (first | assumption | apply St.alloc | apply St.drew | (refine St.set ?_ (by first | exact St.size (by assumption) | exact St.size1 (by assumption) | exact St.size2 (by assumption)) _))) _ _ _ _ _ _ _ _ (by decide +kernel) (by kernel_rfl) (by decide +kernel) (by kernel_rfl)).mono ?_; rintro e w' ⟨rfl, hS⟩)
    | (go_at_call 26; with_reducible refine (puts_st (w := w) (by repeat (first | assumption | apply St.alloc | apply St.drew | (refine St.set ?_ (by first | exact St.size (by assumption) | exact St.size1 (by assumption) | exact St.size2 (by assumption)) _))) _ _ _ _ (by decide +kernel)).mono ?_; rintro e w' ⟨rfl, hS⟩)
    | (go_at_call 9; with_reducible refine (awake_st (w := w) (by repeat (first | assumption | apply St.alloc | apply St.drew | (refine St.set ?_ (by first | exact St.size (by assumption) | exact St.size1 (by assumption) | exact St.size2 (by assumption)) _)))).mono ?_; rintro e w' ⟨rfl, hS⟩)
    | (go_at_call 11; with_reducible refine (get_st (w := w) (by repeat (first | assumption | apply St.alloc | apply St.drew | (refine St.set ?_ (by first | exact St.size (by assumption) | exact St.size1 (by assumption) | exact St.size2 (by assumption)) _))) _ _ _ _ _ 0 0 true 2 0 (by decide +kernel) (by kernel_rfl) (by decide +kernel) (by kernel_rfl)).mono ?_; rintro e w' ⟨rfl, hS⟩)
    | (go_at_call 16; with_reducible refine (escape_st (w := w) (by repeat (first | assumption | apply St.alloc | apply St.drew | (refine St.set ?_ (by first | exact St.size (by assumption) | exact St.size1 (by assumption) | exact St.size2 (by assumption)) _))) _ _ ⟨#[48, 48, 48, 48, 48, 49, 48, 48, 48, 48, 48, 48, 49, 49, 49, 49, 49, 49, 49, 49]⟩ 0 (by decide +kernel)).mono ?_; rintro e w' ⟨rfl, hS⟩)
    | (go_at_call 15; with_reducible refine (put_st (w := w) (by repeat (first | assumption | apply St.alloc | apply St.drew | (refine St.set ?_ (by first | exact St.size (by assumption) | exact St.size1 (by assumption) | exact St.size2 (by assumption)) _))) _ _ _ ⟨#[]⟩ 3 (by decide +kernel)).mono ?_; rintro e w' ⟨rfl, hS⟩)
    | (go_at_call 21; with_reducible refine (short_st (w := w) (by repeat (first | assumption | apply St.alloc | apply St.drew | (refine St.set ?_ (by first | exact St.size (by assumption) | exact St.size1 (by assumption) | exact St.size2 (by assumption)) _))) _ _ false (by decide +kernel)).mono ?_; rintro e w' ⟨rfl, hS⟩))
  go_ret
  exact ⟨rfl, St.bel (by repeat (first | assumption | apply St.alloc | apply St.drew | (refine St.set ?_ (by first | exact St.size (by assumption) | exact St.size1 (by assumption) | exact St.size2 (by assumption)) _)))⟩
end Go.Proofs.YtdhehfgmhkgbpaaDoorH
