/-
The row of linkData: closed facts.
-/
import Derived.Test.YtgopfpmkbdhnnaaGreatDoorRows
import Derived.JoinedOf
namespace Go.Proofs.YtgopfpmkbdhnnaaGreatDoor
theorem linkData_wf : (Rows.linkDataRow.wf (OpenSpec.ofChange Rows.linkDataSpec)) = true := by kernel_rfl
theorem linkData_rd : (Tryz.f18.params.all (Tryz.prog.readableRec ·)) = true := by kernel_rfl
theorem linkData_nt : (namedTie Tryz.prog Rows.linkDataRow.named Rows.linkDataSpec.vars) = true := by kernel_rfl
theorem linkData_st : (Rows.linkDataRow.stops == []) = true := by kernel_rfl
theorem linkData_kn : (Rows.linkDataRow.knobs == []) = true := by kernel_rfl
theorem linkData_ip : (Rows.linkDataRow.inPlace == Tryz.prog.inPlace 18) = true := by kernel_rfl
theorem linkData_uf : (Rows.linkDataRow.unfollowed == Tryz.prog.unfollowed 18) = true := by kernel_rfl
theorem linkData_rc : (Rows.linkDataRow.recurses == Tryz.prog.recurses 18) = true := by kernel_rfl
theorem linkData_nm : (Rows.linkDataRow.named == Tryz.prog.varsNamed 18) = true := by kernel_rfl
theorem linkData_mp : (Rows.linkDataRow.maps == (Tryz.f18.params.toList ++ Rows.linkDataSpec.plain.varTypes Tryz.prog).any (Tryz.prog.mapsRec ·)) = true := by kernel_rfl
theorem linkData_ic : (Rows.linkDataRow.ifaces == (Tryz.f18.params.toList ++ Rows.linkDataSpec.plain.varTypes Tryz.prog).any (Tryz.prog.ifacesRec ·)) = true := by kernel_rfl
theorem linkData_mo : (Rows.linkDataRow.mapsOut == Tryz.prog.mapsAmong Tryz.f18.resultTypes.toList) = true := by kernel_rfl
theorem linkData_lp : (Rows.linkDataRow.loops == (Tryz.f18.params.toList ++ Rows.linkDataSpec.plain.varTypes Tryz.prog).any (Tryz.prog.loopsFrom ·)) = true := by kernel_rfl
theorem linkData_wk : (Rows.linkDataRow.wideKeys == (Tryz.f18.params.toList ++ Rows.linkDataSpec.plain.varTypes Tryz.prog ++ Tryz.f18.resultTypes.toList).any (Tryz.prog.wideKeysFrom ·)) = true := by kernel_rfl
theorem linkData_vr : (Rows.linkDataSpec.vars.all (Tryz.prog.varReadable ·)) = true := by kernel_rfl
theorem linkData_rt : (Tryz.f18.resultTypes.all (fun t => Tryz.prog.readableRec t && decide (t < Tryz.prog.types.size))) = true := by kernel_rfl
theorem linkData_io : (Rows.linkDataRow.ifacesOut == Tryz.f18.resultTypes.toList.any (Tryz.prog.ifacesRec ·)) = true := by kernel_rfl
theorem linkData_lo : (Rows.linkDataRow.loopsOut == Tryz.f18.resultTypes.toList.any (Tryz.prog.loopsFrom ·)) = true := by kernel_rfl
theorem linkData_sh : (Rows.linkDataRow.shortTexts.isNone) = true := by kernel_rfl
theorem linkData_ki : (Rows.linkDataRow.kinds == (if Rows.linkDataRow.domain.isEmpty then [] else Tryz.f18.params.toList.map fun t => match Tryz.prog.underlying t with | some (.int k) => some k | _ => none)) = true := by kernel_rfl
theorem linkData_pi : (Rows.linkDataRow.pinned == Rows.linkDataRow.pinnedBy) = true := by kernel_rfl
theorem linkData_ve : (Rows.linkDataRow.veiled == (Tryz.f18.params.toList ++ Rows.linkDataSpec.plain.varTypes Tryz.prog ++ Tryz.f18.resultTypes.toList).any (Tryz.prog.veiledRec ·)) = true := by kernel_rfl
theorem linkData_vf : (Rows.linkDataRow.veiledFits Tryz.prog Tryz.f18.params.toList (Tryz.f18.params.toList ++ Rows.linkDataSpec.plain.varTypes Tryz.prog ++ Tryz.f18.resultTypes.toList)) = true := by kernel_rfl
end Go.Proofs.YtgopfpmkbdhnnaaGreatDoor
