/- The hand contracts in the form in which the printed texts use them. -/
import Derived.Test.YtdhehfgmhkgbpaaDoorHGetC
import Derived.Test.YtdhehfgmhkgbpaaDoorHShort
import Derived.Test.YtdhehfgmhkgbpaaDoorHEsc
namespace Go.Proofs.YtdhehfgmhkgbpaaDoorH
open Go.RowKit Go.Proofs.YtdhehfgmhkgbpaaDoorW.PrintWords

/-- The laid variables that the code reads. -/
def Laid (w : World) : Prop := LaidA w ∧ LaidD w
theorem Laid.below {w W : World} (h : Laid w) (hb : Below w.heap.size w W) : Laid W := ⟨h.1.below hb, h.2.below hb⟩

/-- coeff.Get: bytes, and not too many of them. -/
def coeff_Get.f (l : List Int) (p : Int) (first : Bool) : Option (Int × Int × Bool × Int × Int) :=
  if (∀ x ∈ l, 0 ≤ x ∧ x ≤ 255) ∧ l.length ≤ 100000000000000 then some (getP l p first) else none
theorem coeff_Get.calls (A0 : Option Addr) (c0 : Nat) (l0 : List Int) (a1 : Int) (a2 : Bool) (r1 r2 : Int) (r3 : Bool) (r4 r5 : Int) (w : World) (hL : Laid w)
    (hr0 : Kd.C (Kd.int .u8) w A0 l0.length l0) (_hc0 : l0.length ≤ c0) (h : coeff_Get.f l0 a1 a2 = some (r1, r2, r3, r4, r5)) :
    Calls Tryd.prog 11 #[.slice A0 l0.length c0, .int .i64 a1, .bool a2] w fun e w' =>
      e = .returned (.tuple #[.agg #[.int .i64 r1, .int .i64 r2], .bool r3, .int .i64 r4, .int .i64 r5]) ∧ Below w.heap.size w w' := by
  unfold coeff_Get.f at h
  split at h
  case isFalse => cases h
  case isTrue hb =>
    have e := Option.some.inj h
    have := get_calls A0 c0 l0 a1 a2 w hr0 hb.1 hb.2 hL.1
    rw [e] at this
    exact this
def coeff_short.f (run level : Int) (first : Bool) : Option ByteArray := some ⟨(shortL run level first).toArray⟩
theorem coeff_short.calls (a0_0 a0_1 : Int) (a1 : Bool) (r : ByteArray) (w : World) (hL : Laid w) (h : coeff_short.f a0_0 a0_1 a1 = some r) :
    Calls Tryd.prog 38 #[.agg #[.int .i64 a0_0, .int .i64 a0_1], .bool a1] w fun e w' => e = .returned (.string r) ∧ Below w.heap.size w w' := by
  have e := Option.some.inj h
  have := short_calls a0_0 a0_1 a1 w hL.1
  rw [e] at this
  exact this
def coeff_Escape.f (run level : Int) : Option (ByteArray × Int) := some (⟨(escapeL run level).1.toArray⟩, (escapeL run level).2)
theorem coeff_Escape.calls (a0_0 a0_1 : Int) (r1 : ByteArray) (r2 : Int) (w : World) (hL : Laid w) (h : coeff_Escape.f a0_0 a0_1 = some (r1, r2)) :
    Calls Tryd.prog 16 #[.agg #[.int .i64 a0_0, .int .i64 a0_1]] w fun e w' => e = .returned (.tuple #[.string r1, .int .i64 r2]) ∧ Below w.heap.size w w' := by
  have e := Option.some.inj h
  injection e with h1 h2
  have := escape_calls a0_0 a0_1 w hL.2
  rw [h1, h2] at this
  exact this
end Go.Proofs.YtdhehfgmhkgbpaaDoorH
