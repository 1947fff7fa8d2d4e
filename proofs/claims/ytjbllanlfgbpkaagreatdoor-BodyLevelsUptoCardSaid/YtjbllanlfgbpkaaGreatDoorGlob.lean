/- The package variables that the rows list: what they give (G), and a world for a witness. -/
import Derived.Test.YtjbllanlfgbpkaaGreatDoorStrs
import Derived.Test.YtjbllanlfgbpkaaGreatDoorRows
import Derived.OpenShut
import Derived.ProofKit
import Derived.Deep.DeepHandedRow
import Derived.Deep.DeepWitnessRowRef
import Derived.Lib.LaidU8T
import Derived.Lib.LaidIn
import Derived.Shelf.Vars
namespace Go.Proofs.YtjbllanlfgbpkaaGreatDoor
open Go.RowKit Go.Shelf

theorem own : ownKnob Tryz.prog.godebug = none := by kernel_rfl
theorem laid_first : Rows.laid_unicode_utf8_first = Lib.firstData := by kernel_rfl
theorem laid_accept : (Rows.laid_unicode_utf8_acceptRanges : DataW Unit) = Lib.acceptData := by kernel_rfl

theorem glob_of {W : World} (hL : laidMet Tryz.prog Rows.bodyLevelsRow.laid W) (hsh : W.ShapedOpen Tryz.prog) : G W := by
  refine G.of ⟨?_, ?_⟩ ?_
  · exact cell_of_shapedOpen_int (g := 4) (t := 3) (zero := #[.int .i64 0]) hsh (by decide) (by kernel_rfl) rfl (by kernel_rfl) (by kernel_rfl) Tryz.underlying3
  · have h3 := Lib.laidMet.reads hL (n := "unicode/utf8.first") (d := Rows.laid_unicode_utf8_first) (by unfold Rows.bodyLevelsRow; simp)
    have h4 := Lib.laidMet.reads hL (n := "unicode/utf8.acceptRanges") (d := Rows.laid_unicode_utf8_acceptRanges) (by unfold Rows.bodyLevelsRow; simp)
    rw [laid_first] at h3
    rw [laid_accept] at h4
    exact utf8Tabs_of_readsT (ρ := Tryz.lays196_ren) (U8Types.of196 Tryz.lays196) ⟨by kernel_rfl, by kernel_rfl, by kernel_rfl, by kernel_rfl, by kernel_rfl, by kernel_rfl, by kernel_rfl⟩ h3 h4
  · obtain ⟨cs, hh, _⟩ := hsh.1 9 (Array.replicate 64 (.int .u8 0)) 292 (by decide) (by kernel_rfl)
    exact lt_of_block hh

/-! ### a world for the witness -/
def litCell : DataW Unit → Value
  | .lit (.int k z) => .int k z
  | _ => undef
def aggCells : DataW Unit → List Value
  | .agg l => l.flatMap fun
    | .agg m => m.map litCell
    | d => [litCell d]
  | _ => []
noncomputable abbrev N0 : Nat := (World.settled Tryz.prog default).heap.size
noncomputable def laidWorld (os : Os) : World :=
  let N := (World.settled Tryz.prog os).heap.size
  let w0 := World.holding Tryz.prog os ⟨#[
    .cells #[.string ⟨#[105, 110, 118, 97, 108, 105, 100, 32, 115, 121, 110, 116, 97, 120]⟩] 242, .cells #[.string ⟨#[118, 97, 108, 117, 101, 32, 111, 117, 116, 32, 111, 102, 32, 114, 97, 110, 103, 101]⟩] 242], #[], []⟩
  let put (h : Array Obj) (g : Nat) (cs : Array Value) : Array Obj := h.modify g fun
    | .cells _ t frozen => .cells cs t frozen
    | o => o
  let h0 := put (put w0.heap 5 #[.iface 240 (.pointer (some ⟨N, 0, none⟩))]) 6 #[.iface 240 (.pointer (some ⟨N + 1, 0, none⟩))]
  let h1 := put h0 0 (aggCells Rows.laid_unicode_utf8_first).toArray
  let h2 := put h1 1 (aggCells Rows.laid_unicode_utf8_acceptRanges).toArray
  let h3 := put h2 2 (aggCells Rows.laid_missive_digest_constants).toArray
  let h4 := put h3 3 (aggCells Rows.laid_missive_charset_windows).toArray
  let h5 := put h4 7 (aggCells Rows.laid_internal_strconv_uint64pow10).toArray
  let h6 := put h5 8 (aggCells Rows.laid_math_bits_deBruijn32tab).toArray
  let h7 := put h6 9 (aggCells Rows.laid_math_bits_deBruijn64tab).toArray
  { w0 with heap := h7 }
theorem laid_met (os : Os) (args : Array Value) : laidMet Tryz.prog Rows.bodyLevelsRow.laid ((laidWorld os).forCall (fun _ _ => 0) ⟨#[], args, []⟩).memory :=
  (LaidIn.of_run [8, 9, 7, 1, 6, N0 + 1, 5, N0, 2, 3, 0] 8 (by kernel_rfl) (by kernel_rfl) (by kernel_rfl) (by kernel_rfl)).met

end Go.Proofs.YtjbllanlfgbpkaaGreatDoor
