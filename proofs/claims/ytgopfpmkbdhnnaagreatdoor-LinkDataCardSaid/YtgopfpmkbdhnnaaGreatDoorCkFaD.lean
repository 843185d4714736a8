/-
The seat: closed facts of the program.
-/
import Derived.Test.YtgopfpmkbdhnnaaGreatDoorRows
import Derived.JoinedOf
namespace Go.Proofs.YtgopfpmkbdhnnaaGreatDoor
theorem seat_laid : laidOutB Tryz.prog = true := by kernel_rfl
theorem seat_maps : mapsRowed Tryz.prog = true := by kernel_rfl
theorem seat_stops : (Tryz.prog.stops == []) = true := by kernel_rfl
theorem seat_knobs : (Tryz.prog.stopKnobs == []) = true := by kernel_rfl
theorem seat_keys : (Rows.linkDataRow.plainKeys == Tryz.prog.plainKeys) = true := by kernel_rfl
theorem seat_heard : Tryz.prog.stopsHeard = true := by kernel_rfl
end Go.Proofs.YtgopfpmkbdhnnaaGreatDoor
