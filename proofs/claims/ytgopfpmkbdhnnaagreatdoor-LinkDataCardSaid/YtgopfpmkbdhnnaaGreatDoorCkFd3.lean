/-
LinkData's row: closed facts.
-/
import Derived.Test.YtgopfpmkbdhnnaaGreatDoorCards
import Derived.JoinedOf
import Derived.SevenTiedAt
namespace Go.Proofs.YtgopfpmkbdhnnaaGreatDoor
theorem seat_looks : false = Tryz.prog.looks [] := by kernel_rfl
theorem linkData_stands : ([22, 24, 5].all fun u => !Tryz.prog.wantsStandIn u) = true := by kernel_rfl
theorem linkData_inst : Tryz.f18.isInstance Tryz.prog Rows.linkDataRow.origin Rows.linkDataRow.targs := of_decide_eq_true (by kernel_rfl)
theorem linkData_wrap : Tryz.f18.isWrapper Tryz.prog Rows.linkDataRow.wrapper Rows.linkDataRow.mainSum := by
  unfold Func.isWrapper; first | (rw [if_pos (by decide +kernel)]; kernel_rfl) | (rw [if_neg (by decide +kernel)]; exact ⟨rfl, rfl⟩)
end Go.Proofs.YtgopfpmkbdhnnaaGreatDoor
