/- JudgeNil: the types are well laid out. -/
import Derived.Test.YteoodndfkdfnaaaGreatDoorClo
import Derived.JoinedOf
namespace Go.Proofs.YteoodndfkdfnaaaGreatDoor
open Go
theorem row0 : ((List.range 69).all fun i => rowFine Tryz.prog (0 * 69 + i)) = true := by kernel_rfl
theorem row1 : ((List.range 69).all fun i => rowFine Tryz.prog (1 * 69 + i)) = true := by kernel_rfl
theorem row2 : ((List.range 69).all fun i => rowFine Tryz.prog (2 * 69 + i)) = true := by kernel_rfl
theorem row3 : ((List.range 69).all fun i => rowFine Tryz.prog (3 * 69 + i)) = true := by kernel_rfl
theorem row4 : ((List.range 69).all fun i => rowFine Tryz.prog (4 * 69 + i)) = true := by kernel_rfl
theorem row5 : ((List.range 69).all fun i => rowFine Tryz.prog (5 * 69 + i)) = true := by kernel_rfl
theorem row6 : ((List.range 69).all fun i => rowFine Tryz.prog (6 * 69 + i)) = true := by kernel_rfl
theorem row7 : ((List.range 69).all fun i => rowFine Tryz.prog (7 * 69 + i)) = true := by kernel_rfl
theorem row8 : ((List.range 69).all fun i => rowFine Tryz.prog (8 * 69 + i)) = true := by kernel_rfl
theorem row9 : ((List.range 69).all fun i => rowFine Tryz.prog (9 * 69 + i)) = true := by kernel_rfl
theorem row10 : ((List.range 69).all fun i => rowFine Tryz.prog (10 * 69 + i)) = true := by kernel_rfl
theorem n_types : Tryz.prog.types.size = 759 := by kernel_rfl
theorem rows_fine : (List.range Tryz.prog.types.size).all (rowFine Tryz.prog) = true := by
  rw [n_types]
  refine Clo.all_of_chunks (rowFine Tryz.prog) 69 11 759 (by decide) (by decide) fun j hj => ?_
  match j, hj with
  | 0, _ => exact row0
  | 1, _ => exact row1
  | 2, _ => exact row2
  | 3, _ => exact row3
  | 4, _ => exact row4
  | 5, _ => exact row5
  | 6, _ => exact row6
  | 7, _ => exact row7
  | 8, _ => exact row8
  | 9, _ => exact row9
  | 10, _ => exact row10
theorem globals_fine : Tryz.prog.globals.all (fun g => decide (g.type < Tryz.prog.types.size)) = true := by
  rw [n_types]
  kernel_rfl
theorem funcs_fine : Tryz.prog.funcs.all (fun f => f.params.all fun t => decide (t < Tryz.prog.types.size)) = true := by
  rw [n_types]
  kernel_rfl
theorem k_laidOut : laidOutB Tryz.prog = true := by
  unfold laidOutB
  rw [rows_fine, globals_fine, funcs_fine]
  rfl
end Go.Proofs.YteoodndfkdfnaaaGreatDoor
