/-
The seat: closed facts of the program.
-/
import Derived.Test.YtgopfpmkbdhnnaaGreatDoorRows
import Derived.JoinedOf
namespace Go.Proofs.YtgopfpmkbdhnnaaGreatDoor
theorem seat_enter : Tryz.prog.mayEnter = true := by kernel_rfl
end Go.Proofs.YtgopfpmkbdhnnaaGreatDoor
