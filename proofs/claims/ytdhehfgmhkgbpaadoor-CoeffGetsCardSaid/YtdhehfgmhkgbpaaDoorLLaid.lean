/- The row's listed variables: what they give, and a world that holds them. -/
import Derived.Test.YtdhehfgmhkgbpaaDoorCards
import Derived.Test.YtdhehfgmhkgbpaaDoorTie
import Derived.Test.YtdhehfgmhkgbpaaDoorHPrint
import Derived.WalkKit
import Derived.ProofKit
import Derived.OpenShut
import Derived.ShutString
import Derived.Deep.DeepHandedRow
import Derived.Deep.DeepWitnessRowRef
import Derived.Stop.LaidErr
import Derived.Lib.LaidTab
import Derived.Lib.LaidU8
namespace Go.Proofs.YtdhehfgmhkgbpaaDoor.Laws
open Go.ChangeShapes Go.WideShapes Go.ChangeAt Go.RowKit Go.Proofs.YtdhehfgmhkgbpaaDoorH

theorem own : ownKnob Tryd.prog.godebug = none := by kernel_rfl
def numsD : DataW Unit → List Int
  | .agg l => l.map fun | .lit (.int _ z) => z | _ => 0
  | _ => []
def db32 : List Int := numsD Rows.laid_math_bits_deBruijn32tab
def db64 : List Int := numsD Rows.laid_math_bits_deBruijn64tab
def pow10 : List Int := numsD Rows.laid_internal_strconv_uint64pow10
theorem laidA_of {W : World} (h : Lib.TabIs Tryd.prog W "strings.asciiSpace" .u8 Lib.asciiSpaceTab) : LaidA W := by
  have hg : Tryd.prog.globalNamed "strings.asciiSpace" = some 0 := by kernel_rfl
  unfold Lib.TabIs World.var? at h
  rw [hg, Option.bind_some] at h
  split at h
  case h_1 cs t z e => exact ⟨t, z, by rw [e, Option.some.inj h]⟩
  case h_2 => cases h
theorem laidD_of {W : World} (h : Lib.TabIs Tryd.prog W "math/bits.deBruijn64tab" .u8 db64) : LaidD W := by
  have hg : Tryd.prog.globalNamed "math/bits.deBruijn64tab" = some 6 := by kernel_rfl
  unfold Lib.TabIs World.var? at h
  rw [hg, Option.bind_some] at h
  split at h
  case h_1 cs t z e => exact ⟨cs, t, z, e, by rw [Option.some.inj h]; kernel_rfl⟩
  case h_2 => cases h

theorem laid_list : Rows.coeffKnownRow.laid = [("math/bits.deBruijn32tab", Lib.tabData .u8 db32), ("math/bits.deBruijn64tab", Lib.tabData .u8 db64), ("internal/strconv.uint64pow10", Rows.laid_internal_strconv_uint64pow10), ("strconv.ErrRange", Rows.laid_strconv_ErrRange),
    ("strconv.ErrSyntax", Rows.laid_strconv_ErrSyntax), ("unicode.White_Space", Rows.laid_unicode_White_Space), ("strings.asciiSpace", Lib.tabData .u8 Lib.asciiSpaceTab)] := by kernel_rfl
theorem laid_of {W : World} (h : laidMetH Tryd.prog Rows.coeffKnownRow.laid W) : Laid W := by
  have h0 : laidMet Tryd.prog Rows.coeffKnownRow.laid W := h
  rw [laid_list] at h0
  have h1 := laidMet.tail h0
  refine ⟨laidA_of ?_, laidD_of ?_⟩
  · have h6 := h1.tail.tail.tail.tail.tail
    exact Lib.tabIs_of_head (g := 0) (t := 87) (e := 5) (n := 256) (by kernel_rfl) (by kernel_rfl) (by kernel_rfl) (by kernel_rfl) (by kernel_rfl) (by kernel_rfl) h6
  · exact Lib.tabIs_of_head (g := 6) (t := 143) (e := 5) (n := 64) (by kernel_rfl) (by kernel_rfl) (by kernel_rfl) (by kernel_rfl) (by kernel_rfl) (by kernel_rfl) h1

def bytesA (l : List UInt8) : Value := .string ⟨l.toArray⟩
/-- The settled world with four blocks more: two errors' texts, unicode.White_Space's ranges, its RangeTable. -/
noncomputable def laidWorld (os : Os) : World :=
  let N := (World.settled Tryd.prog os).heap.size
  let w0 := World.holding Tryd.prog os ⟨#[.cells #[bytesA [118, 97, 108, 117, 101, 32, 111, 117, 116, 32, 111, 102, 32, 114, 97, 110, 103, 101]] 139, .cells #[bytesA [105, 110, 118, 97, 108, 105, 100, 32, 115, 121, 110, 116, 97, 120]] 139,
    .cells (Lib.whiteT.map fun (z : Nat) => Value.int .u16 (z : Int)).toArray 131, .cells #[.slice (some ⟨N + 2, 0, none⟩) 7 7, .slice none 0 0, .int .i64 2] 128], #[], []⟩
  let put (h : Array Obj) (g : Nat) (cs : Array Value) : Array Obj := h.modify g fun
    | .cells _ t frozen => .cells cs t frozen
    | o => o
  let h1 := put w0.heap 5 (db32.map fun z => Value.int .u8 z).toArray
  let h2 := put h1 6 (db64.map fun z => Value.int .u8 z).toArray
  let h3 := put h2 2 (pow10.map fun z => Value.int .u64 z).toArray
  let h4 := put h3 4 #[.iface 137 (.pointer (some ⟨N, 0, none⟩))]
  let h5 := put h4 3 #[.iface 137 (.pointer (some ⟨N + 1, 0, none⟩))]
  let h6 := put h5 1 #[.pointer (some ⟨N + 3, 0, none⟩)]
  let h7 := put h6 0 (Lib.asciiSpaceTab.map fun z => Value.int .u8 z).toArray
  { w0 with heap := h7 }
theorem laid_met (os : Os) (args : Array Value) : laidMet Tryd.prog Rows.coeffKnownRow.laid ((laidWorld os).forCall (fun _ _ => 0) ⟨#[], args, []⟩).memory :=
  laidMet_of_run' 12 (by kernel_rfl) (by kernel_rfl)
end Go.Proofs.YtdhehfgmhkgbpaaDoor.Laws
