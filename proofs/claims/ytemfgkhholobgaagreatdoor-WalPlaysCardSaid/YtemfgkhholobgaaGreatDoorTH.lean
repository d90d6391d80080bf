/- WalPlays: the row's and the card's closed facts. -/
import Derived.Test.YtemfgkhholobgaaGreatDoorTie
import Derived.Test.YtemfgkhholobgaaGreatDoorCards
import Derived.ProofKit
import Derived.Stop.Joined
set_option maxRecDepth 100000
namespace Go.Proofs.YtemfgkhholobgaaGreatDoor
open Go
theorem c_vars : (Rows.walPlaysSpec.vars.all (Tryz.prog.varReadable ·)) = true := by kernel_rfl
theorem c_res : (Tryz.f3.resultTypes.all (fun t => Tryz.prog.readableRec t && decide (t < Tryz.prog.types.size))) = true := by kernel_rfl
theorem c_ifacesOut : (Rows.walPlaysRow.ifacesOut == Tryz.f3.resultTypes.toList.any (Tryz.prog.ifacesRec ·)) = true := by kernel_rfl
theorem c_loopsOut : (Rows.walPlaysRow.loopsOut == Tryz.f3.resultTypes.toList.any (Tryz.prog.loopsFrom ·)) = true := by kernel_rfl
theorem c_plain : (Rows.walPlaysRow.plainKeys == Tryz.prog.plainKeys) = true := by kernel_rfl
theorem c_heard : Tryz.prog.stopsHeard = true := by kernel_rfl
theorem c_enter : Tryz.prog.mayEnter = true := by kernel_rfl
theorem c_lifted : (Rows.walPlaysRow.lifted == Tryz.prog.liftsFinal) = true := by kernel_rfl
theorem c_make : (Tryz.prog.make == some Rows.walPlaysRow.make) = true := by kernel_rfl
theorem c_kinds : (Rows.walPlaysRow.kinds == (if Rows.walPlaysRow.domain.isEmpty then [] else Tryz.f3.params.toList.map fun t => match Tryz.prog.underlying t with | some (.int k) => some k | _ => none)) = true := by kernel_rfl
theorem c_pinned : (Rows.walPlaysRow.pinned == Rows.walPlaysRow.pinnedBy) = true := by kernel_rfl
theorem c_veiled : (Rows.walPlaysRow.veiled == (Tryz.f3.params.toList ++ Rows.walPlaysSpec.plain.varTypes Tryz.prog ++ Tryz.f3.resultTypes.toList).any (Tryz.prog.veiledRec ·)) = true := by kernel_rfl
theorem c_veiledFits : Rows.walPlaysRow.veiledFits Tryz.prog Tryz.f3.params.toList (Tryz.f3.params.toList ++ Rows.walPlaysSpec.plain.varTypes Tryz.prog ++ Tryz.f3.resultTypes.toList) = true := by kernel_rfl
theorem c_short : Rows.walPlaysRow.shortTexts.isNone = true := by kernel_rfl
theorem w_wf : Rows.walPlaysRow.wfByText (OpenSpec.ofChange Rows.walPlaysSpec) = true := by kernel_rfl
theorem w_main : Tryz.pinned.checked.prog.mainIs = some (true, "aa6b1040fae10dd5a25c2e20a21eae0a5ef01bfaf432c89b4b579e69ba400503".toList) := by kernel_rfl
theorem w_looks : true = Tryz.prog.looks [] := by kernel_rfl
theorem w_goes : false = Rows.walPlaysRow.goesBy Tryz.pinned.checked.prog := by kernel_rfl
theorem w_stand : ([3, 22].all fun u => !Tryz.prog.wantsStandIn u) = true := by kernel_rfl
theorem w_inst : Tryz.f3.isInstance Tryz.pinned.checked.prog Rows.walPlaysRow.origin Rows.walPlaysRow.targs := of_decide_eq_true (by kernel_rfl)
theorem w_wrap : Tryz.f3.isWrapper Tryz.pinned.checked.prog Rows.walPlaysRow.wrapper Rows.walPlaysRow.mainSum := by unfold Func.isWrapper; first | (rw [if_pos (by decide +kernel)]; kernel_rfl) | (rw [if_neg (by decide +kernel)]; exact ⟨rfl, rfl⟩)
end Go.Proofs.YtemfgkhholobgaaGreatDoor
