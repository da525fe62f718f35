/- Contract of coeff.same: are two texts the same as far as both go? -/
import Derived.Test.YtdhehfgmhkgbpaaDoorHBits
import Derived.Lib.Strings
namespace Go.Proofs.YtdhehfgmhkgbpaaDoorH
open Go.RowKit Go.Proofs.YtdhehfgmhkgbpaaDoorW.PrintWords

def sameS (a b : ByteArray) : Bool := (a.extract 0 (min a.size b.size)).toList == (b.extract 0 (min a.size b.size)).toList
theorem same_calls (a b : ByteArray) (w : World) (_ha : a.size ≤ 1000000000000) (_hb : b.size ≤ 1000000000000) :
    Calls Tryd.prog 29 #[.string a, .string b] w fun e w' => e = .returned (.bool (sameS a b)) ∧ ∃ n, w' = w.drewN n := by
  by_cases h : a.size ≤ b.size
  · have HM : Hid (min a.size b.size = a.size) := Lib.hid (by omega)
    go_enter Tryd.func29, Tryd.ntmps29
    go_wp2
    all_goals
      go_quiet (fail)
      go_wp2
      go_ret
      exact ⟨by simp [sameS, HM.out], _, rfl⟩
  · have HM : Hid (min a.size b.size = b.size) := Lib.hid (by omega)
    go_enter Tryd.func29, Tryd.ntmps29
    go_wp2
    all_goals
      go_quiet (fail)
      go_wp2
      go_ret
      exact ⟨by simp [sameS, HM.out], _, rfl⟩
end Go.Proofs.YtdhehfgmhkgbpaaDoorH
