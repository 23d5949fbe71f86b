/- JudgeNil: the witness: a world in which the listed variables are laid: the two sentinels by hand, the tables by the function. -/
import Derived.Test.YteoodndfkdfnaaaGreatDoorRows
import Derived.ProofKit
import Derived.LaidMore
import Derived.Lay
import Derived.Handed
import Derived.OpenShut
import Derived.SevenTiedAt
namespace Go.Proofs.YteoodndfkdfnaaaGreatDoor
open Go Go.ChangeShapes Go.WideShapes Go.ChangeAt Go.RowKit
noncomputable def w0 (os : Os) : World :=
  { World.holding Tryz.prog os ⟨#[], #[], []⟩ with
    heap := ((((World.holding Tryz.prog os ⟨#[], #[], []⟩).heap.push
      (.cells #[.string ⟨#[105, 110, 118, 97, 108, 105, 100, 32, 115, 121, 110, 116, 97, 120]⟩] 734)).push
      (.cells #[.string ⟨#[118, 97, 108, 117, 101, 32, 111, 117, 116, 32, 111, 102, 32, 114, 97, 110, 103, 101]⟩] 734)).setIfInBounds 4
      (.cells #[.iface 732 (.pointer (some ⟨14, 0, none⟩))] 652)).setIfInBounds 5
      (.cells #[.iface 732 (.pointer (some ⟨15, 0, none⟩))] 652) }
def great : List String := ["unicode/utf8.first", "unicode/utf8.acceptRanges", "internal/strconv.uint64pow10", "math/bits.deBruijn32tab", "math/bits.deBruijn64tab", "unicode.CaseRanges"]
noncomputable def ww (os : Os) : World := (w0 os).layVars Tryz.prog (Rows.judgeNilRow.laid.filter fun x => great.contains x.1)
noncomputable def wf (os : Os) : World := (ww os).forCall (fun _ _ => 0) ⟨#[], #[], []⟩
set_option maxRecDepth 1000000 in
theorem w_zip (os : Os) : (wf os).variablesZipB Tryz.prog = true := by kernel_rfl
set_option maxRecDepth 1000000 in
theorem w_rest (os : Os) : ((wf os).heap.toList.drop Tryz.prog.globals.size).take ((begin Tryz.prog (fun _ _ => 0) default).world.heap.size - Tryz.prog.globals.size) =
      (begin Tryz.prog (fun _ _ => 0) default).world.heap.toList.drop Tryz.prog.globals.size := by kernel_rfl
theorem w_shape (os : Os) : (wf os).Shaped Tryz.prog := World.shaped_of_ZipB (w_zip os) (w_rest os)
set_option maxRecDepth 1000000 in
theorem w_fits (os : Os) : (w0 os).layFits Tryz.prog (Rows.judgeNilRow.laid.filter fun x => great.contains x.1) [4, 5, 14, 15] = true := by kernel_rfl
set_option maxRecDepth 1000000 in
theorem w_ifaces (os : Os) : (w0 os).layIfaces Tryz.prog (Rows.judgeNilRow.laid.filter fun x => great.contains x.1) (wf os).memory = true := by kernel_rfl
set_option maxRecDepth 1000000 in
theorem w_s1 (os : Os) : (DataW.laidRun Tryz.prog (wf os).memory 8 ((Rows.judgeNilRow.laid.filter fun x => !great.contains x.1).map (·.1))).map (·.1) = some (Rows.judgeNilRow.laid.filter fun x => !great.contains x.1) := by kernel_rfl
set_option maxRecDepth 1000000 in
theorem w_s2 (os : Os) : (DataW.laidRun Tryz.prog (wf os).memory 8 ((Rows.judgeNilRow.laid.filter fun x => !great.contains x.1).map (·.1))).map (fun x => nodupB (x.2.map MemPlace.codeOf)) = some true := by kernel_rfl
set_option maxRecDepth 1000000 in
theorem w_s3 (os : Os) : (DataW.laidRun Tryz.prog (wf os).memory 8 ((Rows.judgeNilRow.laid.filter fun x => !great.contains x.1).map (·.1))).map (fun x => laidRowsB Tryz.prog (wf os).memory x.2) = some true := by kernel_rfl
set_option maxRecDepth 1000000 in
theorem w_s4 (os : Os) : (DataW.laidRun Tryz.prog (wf os).memory 8 ((Rows.judgeNilRow.laid.filter fun x => !great.contains x.1).map (·.1))).map (fun x => x.2.all fun p => [4, 5, 14, 15].contains p.block) = some true := by kernel_rfl
theorem no_handle : (Rows.judgeNilRow.laid.all fun x => x.2.handleName?.isNone) = true := by kernel_rfl
theorem w_met (os : Os) : laidMetH Tryz.prog Rows.judgeNilRow.laid (wf os).memory := by
  rw [MakeChecks.laidMetH_plain _ _ _ no_handle]
  exact laidMet_layVars (w0 := w0 os) great [4, 5, 14, 15] (by simp [wf, ww, World.memory, World.forCall, Input.heap]) (w_fits os) (w_ifaces os) (LaidIn.of_run [4, 5, 14, 15] 8 (w_s1 os) (w_s2 os) (w_s3 os) (w_s4 os))
section
variable {H : Type} (enc : TypeId × Value → H)
theorem w_args (os : Os) : Input.okWideB Tryz.prog (wf os) 3 ⟨#[], #[], []⟩ = true := by kernel_rfl
theorem w_pre (os : Os) : ChangeSpec.preB enc Tryz.prog Tryz.f3 Rows.judgeNilSpec [] false (wf os).memory #[] 8 = true := by kernel_rfl
theorem w_sized (os : Os) : ChangeSpec.sizedB enc Tryz.prog Tryz.f3 Rows.judgeNilSpec false (wf os).memory #[] 8 = true := by kernel_rfl
end
end Go.Proofs.YteoodndfkdfnaaaGreatDoor
