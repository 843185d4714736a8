/-
LinkData's row: closed facts.
-/
import Derived.Test.YtgopfpmkbdhnnaaGreatDoorCards
import Derived.JoinedOf
import Derived.SevenTiedAt
namespace Go.Proofs.YtgopfpmkbdhnnaaGreatDoor
theorem linkData_fn : Tryz.prog.funcNamed "cloakroom/cloakroomlaw20.LinkData" = some 18 := by kernel_rfl
theorem linkData_wft : Rows.linkDataRow.wfByText (OpenSpec.ofChange Rows.linkDataSpec) = true := by kernel_rfl
theorem seat_main : Tryz.prog.mainIs = some (true, "12afc7047e4a5f1df9aa49a0419e5763da361efac127fc104caa78a70b46f246".toList) := by kernel_rfl
theorem linkData_goes : false = Rows.linkDataRow.goesBy Tryz.prog := by kernel_rfl
end Go.Proofs.YtgopfpmkbdhnnaaGreatDoor
