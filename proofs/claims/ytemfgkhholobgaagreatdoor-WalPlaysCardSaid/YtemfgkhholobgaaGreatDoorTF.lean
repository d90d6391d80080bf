/- WalPlays: the row's and the card's closed facts. -/
import Derived.Test.YtemfgkhholobgaaGreatDoorTie
import Derived.Test.YtemfgkhholobgaaGreatDoorCards
import Derived.ProofKit
import Derived.Stop.Joined
set_option maxRecDepth 100000
namespace Go.Proofs.YtemfgkhholobgaaGreatDoor
open Go
theorem wp_named : Tryz.pinned.checked.prog.funcNamed Rows.walPlaysRow.func = some 3 := by kernel_rfl
theorem c_wf : Rows.walPlaysRow.wf (OpenSpec.ofChange Rows.walPlaysSpec) = true := by kernel_rfl
theorem c_laidOut : laidOutB Tryz.prog = true := by kernel_rfl
theorem c_rowed : mapsRowed Tryz.prog = true := by kernel_rfl
theorem c_params : Tryz.f3.params.all (Tryz.prog.readableRec ·) = true := by kernel_rfl
theorem c_tie : namedTie Tryz.prog Rows.walPlaysRow.named Rows.walPlaysSpec.vars = true := by kernel_rfl
theorem c_stops : (Tryz.prog.stops == []) = true := by kernel_rfl
theorem c_knobs : (Tryz.prog.stopKnobs == []) = true := by kernel_rfl
theorem c_maps : (Rows.walPlaysRow.maps == (Tryz.f3.params.toList ++ Rows.walPlaysSpec.plain.varTypes Tryz.prog).any (Tryz.prog.mapsRec ·)) = true := by kernel_rfl
theorem c_ifaces : (Rows.walPlaysRow.ifaces == (Tryz.f3.params.toList ++ Rows.walPlaysSpec.plain.varTypes Tryz.prog).any (Tryz.prog.ifacesRec ·)) = true := by kernel_rfl
end Go.Proofs.YtemfgkhholobgaaGreatDoor
