/- WalPlays: the row's and the card's closed facts. -/
import Derived.Test.YtemfgkhholobgaaGreatDoorTie
import Derived.Test.YtemfgkhholobgaaGreatDoorCards
import Derived.ProofKit
import Derived.Stop.Joined
set_option maxRecDepth 100000
namespace Go.Proofs.YtemfgkhholobgaaGreatDoor
open Go
theorem c_inPlace : (Rows.walPlaysRow.inPlace == Tryz.prog.inPlace 3) = true := by kernel_rfl
theorem c_unfollowed : (Rows.walPlaysRow.unfollowed == Tryz.prog.unfollowed 3) = true := by kernel_rfl
theorem c_recurses : (Rows.walPlaysRow.recurses == Tryz.prog.recurses 3) = true := by kernel_rfl
theorem c_named : (Rows.walPlaysRow.named == Tryz.prog.varsNamed 3) = true := by kernel_rfl
theorem c_mapsOut : (Rows.walPlaysRow.mapsOut == Tryz.prog.mapsAmong Tryz.f3.resultTypes.toList) = true := by kernel_rfl
theorem c_loops : (Rows.walPlaysRow.loops == (Tryz.f3.params.toList ++ Rows.walPlaysSpec.plain.varTypes Tryz.prog).any (Tryz.prog.loopsFrom ·)) = true := by kernel_rfl
theorem c_wide : (Rows.walPlaysRow.wideKeys == (Tryz.f3.params.toList ++ Rows.walPlaysSpec.plain.varTypes Tryz.prog ++ Tryz.f3.resultTypes.toList).any (Tryz.prog.wideKeysFrom ·)) = true := by kernel_rfl
end Go.Proofs.YtemfgkhholobgaaGreatDoor
