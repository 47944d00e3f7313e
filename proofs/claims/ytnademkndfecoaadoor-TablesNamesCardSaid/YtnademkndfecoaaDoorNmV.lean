/- What the row's listed variables give the walks, and one world in which they lie so. -/
import Derived.Test.YtnademkndfecoaaDoorNmL
import Derived.Test.YtnademkndfecoaaDoorRow
import Derived.Test.YtnademkndfecoaaDoorRows
import Derived.Test.YtnademkndfecoaaDoorCards
import Derived.Test.YtnademkndfecoaaDoorTie
import Derived.LaidLaws
import Derived.Stop.LaidErr
import Derived.Lib.LaidTab
import Derived.SevenTiedAt
import Derived.JoinedOf
import Derived.ChangeMaps5
namespace Go.Proofs.YtnademkndfecoaaDoor
open Go.ChangeShapes Go.WideShapes Go.ChangeAt Go.RowKit

def laidVars : List (String × DataW Unit) := [("math/bits.deBruijn32tab", Rows.laid_math_bits_deBruijn32tab), ("math/bits.deBruijn64tab", Rows.laid_math_bits_deBruijn64tab), ("internal/strconv.uint64pow10", Rows.laid_internal_strconv_uint64pow10), ("strconv.ErrRange", Rows.laid_strconv_ErrRange), ("strconv.ErrSyntax", Rows.laid_strconv_ErrSyntax)]

theorem Tryd.gPow : Tryd.prog.globalNamed "internal/strconv.uint64pow10" = some 2 := by kernel_rfl
theorem Tryd.gPowType : (Tryd.prog.globals[2]?).map (·.type) = some 73 := by kernel_rfl
theorem Tryd.gSyn : Tryd.prog.globalNamed "strconv.ErrSyntax" = some 0 := by kernel_rfl
theorem Tryd.gSynType : (Tryd.prog.globals[0]?).map (·.type) = some 31 := by kernel_rfl
theorem Tryd.gRng : Tryd.prog.globalNamed "strconv.ErrRange" = some 1 := by kernel_rfl
theorem Tryd.gRngType : (Tryd.prog.globals[1]?).map (·.type) = some 31 := by kernel_rfl
theorem Tryd.starES : "*" ++ "errors.errorString" = "*errors.errorString" := by decide
theorem Tryd.rowES (u : TypeId) (h : Tryd.prog.typeName? 3 u = some "*errors.errorString") : u = 80 :=
  typeName_ptr_named (nm := "errors.errorString") (by rw [Tryd.starES]; kernel_rfl) (by kernel_rfl) (by decide) u (by rw [Tryd.starES]; exact h)

theorem numVars_of_laid {w : World} (h : laidMet Tryd.prog laidVars w) : NumVars w := by
  have h2 := h.tail.tail
  have h3 := h2.tail
  have h4 := h3.tail
  obtain ⟨a1, _, v1, -, -, -⟩ := laid_sentinel h3 Tryd.gRng Tryd.gRngType Tryd.underlying31 Tryd.rowES Tryd.underlying80 Tryd.underlying82 rfl rfl Tryd.underlying9 (by kernel_rfl) (by kernel_rfl)
  obtain ⟨a0, _, v0, -, -, -⟩ := laid_sentinel h4 Tryd.gSyn Tryd.gSynType Tryd.underlying31 Tryd.rowES Tryd.underlying80 Tryd.underlying82 rfl rfl Tryd.underlying9 (by kernel_rfl) (by kernel_rfl)
  exact ⟨Lib.tabIs_of_head (k := .u64) (zs := Lib.pow10Tab) Tryd.gPow Tryd.gPowType Tryd.underlying73 Tryd.underlying22 (by kernel_rfl) (by kernel_rfl) h2, ⟨_, _, v0⟩, ⟨_, _, v1⟩⟩

/-- The cells of a table's datum. -/
def cellsOfTab : DataW Unit → Array Value
  | .agg l => (l.map fun d => match d with | .lit (.int k n) => Value.int k n | _ => .nilIface).toArray
  | _ => #[]
def putAt (g : Nat) (cs : Array Value) (h : Array Obj) : Array Obj := h.modify g fun
  | .cells _ t frozen => .cells cs t frozen
  | o => o
abbrev synS : ByteArray := { data := #[105, 110, 118, 97, 108, 105, 100, 32, 115, 121, 110, 116, 97, 120] }
abbrev rngS : ByteArray := { data := #[118, 97, 108, 117, 101, 32, 111, 117, 116, 32, 111, 102, 32, 114, 97, 110, 103, 101] }
/-- So many blocks has the settled world. -/
noncomputable def low : Nat := (World.holding Tryd.prog default ⟨#[], #[], []⟩).heap.size
/-- The settled world with two blocks more, the errors' texts; the listed variables hold what the text lays. -/
noncomputable def laidWorld (os : Os) : World :=
  let w0 := World.holding Tryd.prog os ⟨#[.cells #[.string rngS] 82, .cells #[.string synS] 82], #[], []⟩
  { w0 with heap := putAt 0 #[.iface 80 (.pointer (some ⟨low + 1, 0, none⟩))] (putAt 1 #[.iface 80 (.pointer (some ⟨low, 0, none⟩))]
      (putAt 2 (cellsOfTab Rows.laid_internal_strconv_uint64pow10) (putAt 4 (cellsOfTab Rows.laid_math_bits_deBruijn32tab) (putAt 5 (cellsOfTab Rows.laid_math_bits_deBruijn64tab) w0.heap)))) }
set_option maxRecDepth 100000 in
theorem laidWorld_met (os : Os) (args : Array Value) : laidMet Tryd.prog laidVars ((laidWorld os).forCall (fun _ _ => 0) ⟨#[], args, []⟩).memory :=
  laidMet_of_run' 8 (by kernel_rfl) (by kernel_rfl)
end Go.Proofs.YtnademkndfecoaaDoor
