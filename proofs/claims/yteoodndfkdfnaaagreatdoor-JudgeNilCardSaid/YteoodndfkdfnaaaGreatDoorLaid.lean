/- The tie of what JudgeNil's row lists to the program's text, in parts, each of them small. -/
import Derived.Test.YteoodndfkdfnaaaGreatDoorRows
import Derived.LaidByTextLater
import Derived.SevenTiedAt
namespace Go.Proofs.YteoodndfkdfnaaaGreatDoor
open Go
theorem closure_one {P : Program} {f : FuncId} {fn : Func} (hf : P.funcs[f]? = some fn) (h : P.leadsTo fn = []) : P.closure f = [f] := by
  unfold Program.closure
  rw [Nat.add_comm]
  generalize (List.map (fun g => (P.leadsTo g).length + 1) P.funcs.toList).sum = X
  cases X with
  | zero => simp [Program.closureVia]
  | succ n => simp [Program.closureVia, hf, h]
theorem cl737 : Tryz.prog.closure 737 = [737] := closure_one Tryz.func737 (by kernel_rfl)
theorem new737 : Tryz.prog.newOrTypeOf 737 = true := by
  unfold Program.newOrTypeOf
  rw [Tryz.func737]
  kernel_rfl
theorem called_ok {ops : Array Oper} (h : calledIn ops = [737]) : (calledIn ops).all (fun f => (Tryz.prog.closure f).all Tryz.prog.newOrTypeOf) = true := by
  rw [h]
  simp [cl737, new737]
noncomputable def vc : Code := Tryz.f786.body.getD .skip
theorem vc_spec : Tryz.f786.body = some vc := rfl
theorem vc_body : (Tryz.prog.funcs[786]?).bind (·.body) = some vc := by rw [Tryz.func786]; exact vc_spec
theorem fit : vc.regionsFit Tryz.prog [] = true := by
  unfold vc Tryz.f786
  simp only [Option.getD_some]
  unfold Code.regionsFit
  rw [Bool.and_eq_true]
  refine ⟨by kernel_rfl, ?_⟩
  unfold Code.regionsFit
  rw [Bool.and_eq_true]
  refine ⟨by kernel_rfl, ?_⟩
  unfold Code.regionsFit
  rw [Bool.and_eq_true]
  refine ⟨by kernel_rfl, ?_⟩
  unfold Code.regionsFit
  rw [Bool.and_eq_true]
  refine ⟨by kernel_rfl, ?_⟩
  unfold Code.regionsFit
  rw [Bool.and_eq_true]
  refine ⟨?_, ?_⟩
  · unfold Code.regionsFit
    rw [show (calledIn _).all (fun f => (Tryz.prog.closure f).all Tryz.prog.newOrTypeOf) = true from called_ok rfl]
    kernel_rfl
  · unfold Code.regionsFit
    rw [show (calledIn _).all (fun f => (Tryz.prog.closure f).all Tryz.prog.newOrTypeOf) = true from called_ok rfl]
    kernel_rfl
def tl : List (String × DataW Unit) := [("unicode/utf8.acceptRanges", Rows.laid_unicode_utf8_acceptRanges), ("strconv.ErrSyntax", Rows.laid_strconv_ErrSyntax), ("strconv.ErrRange", Rows.laid_strconv_ErrRange), ("internal/strconv.uint64pow10", Rows.laid_internal_strconv_uint64pow10), ("math/bits.deBruijn32tab", Rows.laid_math_bits_deBruijn32tab), ("math/bits.deBruijn64tab", Rows.laid_math_bits_deBruijn64tab)]
theorem vid : varsId Tryz.prog = 786 := by kernel_rfl
theorem in_order : vc.laysInOrder [] = some [7, 8, 6, 3, 5, 4] := by kernel_rfl
theorem no_unfollowed : (vc.unfollowedBeside Tryz.prog) = false := by kernel_rfl
theorem temps : (vc.tempsApart 0).isSome = true := by kernel_rfl
theorem no_handles : vc.storedByHandle Tryz.prog = [] := by kernel_rfl
theorem alone : Tryz.prog.callsLaidAlone 786 vc = true := by
  unfold Program.callsLaidAlone
  rw [no_unfollowed, temps, fit, no_handles]
  rfl
theorem t_words : Tryz.prog.worded (varsWordLater true) = true := by kernel_rfl
theorem t_words' : Tryz.prog.worded (varsWordLater !true) = false := by kernel_rfl
theorem t_root : Tryz.prog.worded rootWordLater = true := by kernel_rfl
theorem t_kinds : tl.map (fun x => Tryz.prog.kindOfLater x.1) = ([.data, .sentinel, .sentinel, .data, .data, .data] : List LaidKind).map some := by kernel_rfl
theorem t_there : (Tryz.prog.funcNamed "gosem.cut.vars").isSome = true := by kernel_rfl
theorem t_named : varsNamedLaterB Tryz.prog (varsId Tryz.prog) tl = true := by
  rw [vid]
  unfold varsNamedLaterB
  simp only [vc_body, in_order, alone, no_handles]
  kernel_rfl
theorem t_done : ∀ os tape, varsDone Tryz.prog 400 (varsId Tryz.prog) os tape = true := (fun _ _ => by kernel_rfl)
theorem t_reads : ∀ os tape, (DataW.laidRun Tryz.prog (varsWorld Tryz.prog 400 (varsId Tryz.prog) os tape).memory 8 (tl.map (·.1))).map (·.1) = some tl := (fun _ _ => by kernel_rfl)
theorem t_apart : ∀ os tape, (DataW.laidRun Tryz.prog (varsWorld Tryz.prog 400 (varsId Tryz.prog) os tape).memory 8 (tl.map (·.1))).map (fun x => decide x.2.Nodup && laidRowsB Tryz.prog (varsWorld Tryz.prog 400 (varsId Tryz.prog) os tape).memory x.2) = some true := (fun _ _ => by kernel_rfl)
theorem t_plain : (tl.all fun x => x.2.handleName?.isNone) = true := by kernel_rfl
theorem tie : Tryz.prog.laidByTextLater tl [.data, .sentinel, .sentinel, .data, .data, .data] true :=
  Program.laidByTextLater_by_run 400 8 t_words t_words' t_root t_kinds t_there t_named t_done t_reads t_apart t_plain
theorem pin_first : Tryz.pinned.checked.prog.pinnedFits "unicode/utf8.first" = true := by kernel_rfl
theorem pin_case : Tryz.pinned.checked.prog.pinnedFits "unicode.CaseRanges" = true := by kernel_rfl
theorem no_own_unsafe : Tryz.pinned.checked.prog.headLifts.contains "ownunsafe" = false := by kernel_rfl
theorem listed_fits : Tryz.pinned.checked.prog.listedFits Rows.judgeNilRow.laid = true := by
  unfold Program.listedFits
  rw [no_own_unsafe]
  kernel_rfl
theorem row_tie : Rows.judgeNilRow.laidByTextAt .later Tryz.pinned [.pinned, .data, .sentinel, .sentinel, .data, .data, .data, .pinned] true :=
  OpenClaim.laidByTextAt_pinned rfl rfl tie rfl rfl rfl rfl (fun y hy _e => by
    simp only [Rows.judgeNilRow, List.zip_cons_cons, List.zip_nil_right, List.mem_cons, List.mem_nil_iff, or_false] at hy
    rcases hy with rfl | rfl | rfl | rfl | rfl | rfl | rfl | rfl
    · exact ⟨pin_first, by kernel_rfl⟩
    · cases _e
    · cases _e
    · cases _e
    · cases _e
    · cases _e
    · cases _e
    · exact ⟨pin_case, by kernel_rfl⟩) listed_fits
end Go.Proofs.YteoodndfkdfnaaaGreatDoor
