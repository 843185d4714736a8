/-
LinkData's row, said.
-/
import Derived.Test.YtgopfpmkbdhnnaaGreatDoorCkMd
import Derived.Test.YtgopfpmkbdhnnaaGreatDoorCkF18
import Derived.Test.YtgopfpmkbdhnnaaGreatDoorCkFaA
import Derived.Test.YtgopfpmkbdhnnaaGreatDoorCkFaB
import Derived.Test.YtgopfpmkbdhnnaaGreatDoorCkFaC
import Derived.Test.YtgopfpmkbdhnnaaGreatDoorCkFaD
import Derived.Test.YtgopfpmkbdhnnaaGreatDoorCkFd2
import Derived.Test.YtgopfpmkbdhnnaaGreatDoorCkFd3
namespace Go.Proofs.YtgopfpmkbdhnnaaGreatDoor
open Go.ChangeShapes Go.WideShapes Go.ChangeAt Go.RowKit

set_option maxRecDepth 100000 in
theorem linkData_joined : joinedFacts Tryz.prog 18 Tryz.f18 Rows.linkDataSpec Rows.linkDataRow = true :=
  joined_of linkData_wf seat_laid seat_maps linkData_rd linkData_nt linkData_st seat_stops linkData_kn seat_knobs linkData_ip linkData_uf linkData_rc linkData_nm linkData_mp linkData_ic linkData_mo
    linkData_lp linkData_wk linkData_vr linkData_rt linkData_io linkData_lo seat_keys linkData_sh seat_heard seat_enter seat_lifted seat_make linkData_ki linkData_pi linkData_ve linkData_vf

theorem linkData_said : Rows.LinkDataSaid :=
  OpenClaim.holds_of_wide 18 Tryz.f18 rfl rfl rfl rfl rfl rfl rfl ⟨rfl, rfl, rfl, rfl, rfl⟩ rfl rfl rfl rfl rfl linkData_fn Tryz.func18 linkData_joined
    linkData_inst linkData_wrap
    (fun os started H enc _ => linkData_lifted os started H enc)

end Go.Proofs.YtgopfpmkbdhnnaaGreatDoor

/-
LinkData: the tied card.
-/
namespace Go.Proofs.YtgopfpmkbdhnnaaGreatDoor
open Go.ChangeShapes Go.WideShapes Go.ChangeAt Go.RowKit

set_option maxRecDepth 100000 in
theorem linkData_holds : Rows.LinkDataCardSaid :=
  Claim7.holds_tied_plain_at .later [] [.data, .data] true (true, "12afc7047e4a5f1df9aa49a0419e5763da361efac127fc104caa78a70b46f246") false
    linkData_said (fun _ h => by cases h) linkData_wft (fun _ h => by cases h) linkData_row_tie rfl ⟨rfl, rfl⟩ seat_main rfl
    (fun f fn hf hfn => by
      obtain rfl : f = 18 := Option.some.inj (linkData_fn.symm.trans hf) |>.symm
      obtain rfl : fn = Tryz.f18 := (Option.some.inj (Tryz.func18.symm.trans hfn)).symm
      exact ⟨seat_looks, fun j t ht => by
        rw [Tryz.params18] at ht
        have hm : t ∈ [22, 24, 5] := by simpa using Array.mem_of_getElem? ht
        exact (show Tryz.prog.wantsStandIn t = false by simpa using List.all_eq_true.1 linkData_stands t hm)⟩)
    linkData_goes
#print axioms linkData_holds

end Go.Proofs.YtgopfpmkbdhnnaaGreatDoor
