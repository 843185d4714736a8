/-
  DERIVED. GIVEN WITH THE SEED: THE CARDS: each row of YtgopfpmkbdhnnaaGreatDoorRows.lean that lists a variable, with what it lists TIED to the program's text (the seventh form; the later family's looks); each row that meets fmt, with fmt's text TOLD by the authors' own Lean function (tested against real Go, not proved from fmt's source: count such statements apart). THE CARD IS WHAT COUNTS. Prove the row's statement (the work); the ties are given (YtgopfpmkbdhnnaaGreatDoorTie.lean); close each card by the builder's one call (the guide's Derived/Test/ToyasCard.lean, 'card_holds'). Laid BY PROGRAM, IN A SANDBOX (cutbox-door.mjs). By AI agents, Wed Nov 11 2026. No macro, syntax, notation, axiom, sorry.
-/
import Derived.Test.YtgopfpmkbdhnnaaGreatDoorRows
import GoSem.ClaimSeven
namespace Go.Proofs.YtgopfpmkbdhnnaaGreatDoor
namespace Rows

/-- THE TIED CARD OF 'cloakroomlaw18.StepNotes'. -/
def stepNotesCard : Claim7 := { stood := { row := stepNotesRow, standIns := [], harness := (true, "12afc7047e4a5f1df9aa49a0419e5763da361efac127fc104caa78a70b46f246"), looks := false }, kinds := [], alts := [], laidByText := true, laidKinds := [.data, .data], laidTests := true, laidLooks := .later }
def StepNotesCardSaid : Prop := Claim7.holds Tryz.pinned (.plain (OpenSpec.ofChange stepNotesSpec)) stepNotesCard

/-- THE TIED CARD OF 'cloakroomlaw19.SliceCuts'. -/
def sliceCutsCard : Claim7 := { stood := { row := sliceCutsRow, standIns := [], harness := (true, "12afc7047e4a5f1df9aa49a0419e5763da361efac127fc104caa78a70b46f246"), looks := false }, kinds := [], alts := [], laidByText := true, laidKinds := [.data, .data], laidTests := true, laidLooks := .later }
def SliceCutsCardSaid : Prop := Claim7.holds Tryz.pinned (.plain (OpenSpec.ofChange sliceCutsSpec)) sliceCutsCard

/-- THE TIED CARD OF 'cloakroomlaw19.SliceOnes'. -/
def sliceOnesCard : Claim7 := { stood := { row := sliceOnesRow, standIns := [], harness := (true, "12afc7047e4a5f1df9aa49a0419e5763da361efac127fc104caa78a70b46f246"), looks := false }, kinds := [], alts := [], laidByText := true, laidKinds := [.data, .data], laidTests := true, laidLooks := .later }
def SliceOnesCardSaid : Prop := Claim7.holds Tryz.pinned (.plain (OpenSpec.ofChange sliceOnesSpec)) sliceOnesCard

/-- THE TIED CARD OF 'cloakroomlaw19.SliceAll'. -/
def sliceAllCard : Claim7 := { stood := { row := sliceAllRow, standIns := [], harness := (true, "12afc7047e4a5f1df9aa49a0419e5763da361efac127fc104caa78a70b46f246"), looks := false }, kinds := [], alts := [], laidByText := true, laidKinds := [.data, .data], laidTests := true, laidLooks := .later }
def SliceAllCardSaid : Prop := Claim7.holds Tryz.pinned (.plain (OpenSpec.ofChange sliceAllSpec)) sliceAllCard

/-- THE TIED CARD OF 'cloakroomlaw19.SliceNone'. -/
def sliceNoneCard : Claim7 := { stood := { row := sliceNoneRow, standIns := [], harness := (true, "12afc7047e4a5f1df9aa49a0419e5763da361efac127fc104caa78a70b46f246"), looks := false }, kinds := [], alts := [], laidByText := true, laidKinds := [.data, .data], laidTests := true, laidLooks := .later }
def SliceNoneCardSaid : Prop := Claim7.holds Tryz.pinned (.plain (OpenSpec.ofChange sliceNoneSpec)) sliceNoneCard

/-- THE TIED CARD OF 'cloakroomlaw19.SliceBack'. -/
def sliceBackCard : Claim7 := { stood := { row := sliceBackRow, standIns := [], harness := (true, "12afc7047e4a5f1df9aa49a0419e5763da361efac127fc104caa78a70b46f246"), looks := false }, kinds := [], alts := [], laidByText := true, laidKinds := [.data, .data], laidTests := true, laidLooks := .later }
def SliceBackCardSaid : Prop := Claim7.holds Tryz.pinned (.plain (OpenSpec.ofChange sliceBackSpec)) sliceBackCard

/-- THE TIED CARD OF 'cloakroomlaw21.CallAll'. -/
def callAllCard : Claim7 := { stood := { row := callAllRow, standIns := [], harness := (true, "12afc7047e4a5f1df9aa49a0419e5763da361efac127fc104caa78a70b46f246"), looks := false }, kinds := [], alts := [], laidByText := true, laidKinds := [.data, .data], laidTests := true, laidLooks := .later }
def CallAllCardSaid : Prop := Claim7.holds Tryz.pinned (.plain (OpenSpec.ofChange callAllSpec)) callAllCard

/-- THE TIED CARD OF 'cloakroomlaw21.CallCuts'. -/
def callCutsCard : Claim7 := { stood := { row := callCutsRow, standIns := [], harness := (true, "12afc7047e4a5f1df9aa49a0419e5763da361efac127fc104caa78a70b46f246"), looks := false }, kinds := [], alts := [], laidByText := true, laidKinds := [.data, .data], laidTests := true, laidLooks := .later }
def CallCutsCardSaid : Prop := Claim7.holds Tryz.pinned (.plain (OpenSpec.ofChange callCutsSpec)) callCutsCard

/-- THE TIED CARD OF 'cloakroomlaw21.CallEnds'. -/
def callEndsCard : Claim7 := { stood := { row := callEndsRow, standIns := [], harness := (true, "12afc7047e4a5f1df9aa49a0419e5763da361efac127fc104caa78a70b46f246"), looks := false }, kinds := [], alts := [], laidByText := true, laidKinds := [.data, .data], laidTests := true, laidLooks := .later }
def CallEndsCardSaid : Prop := Claim7.holds Tryz.pinned (.plain (OpenSpec.ofChange callEndsSpec)) callEndsCard

/-- THE TIED CARD OF 'cloakroomlaw21.CallUndone'. -/
def callUndoneCard : Claim7 := { stood := { row := callUndoneRow, standIns := [], harness := (true, "12afc7047e4a5f1df9aa49a0419e5763da361efac127fc104caa78a70b46f246"), looks := false }, kinds := [], alts := [], laidByText := true, laidKinds := [.data, .data], laidTests := true, laidLooks := .later }
def CallUndoneCardSaid : Prop := Claim7.holds Tryz.pinned (.plain (OpenSpec.ofChange callUndoneSpec)) callUndoneCard

/-- THE TIED CARD OF 'cloakroomlaw21.CallCopies'. -/
def callCopiesCard : Claim7 := { stood := { row := callCopiesRow, standIns := [], harness := (true, "12afc7047e4a5f1df9aa49a0419e5763da361efac127fc104caa78a70b46f246"), looks := false }, kinds := [], alts := [], laidByText := true, laidKinds := [.data, .data], laidTests := true, laidLooks := .later }
def CallCopiesCardSaid : Prop := Claim7.holds Tryz.pinned (.plain (OpenSpec.ofChange callCopiesSpec)) callCopiesCard

/-- THE TIED CARD OF 'cloakroomlaw20.LinkMakes'. -/
def linkMakesCard : Claim7 := { stood := { row := linkMakesRow, standIns := [], harness := (true, "12afc7047e4a5f1df9aa49a0419e5763da361efac127fc104caa78a70b46f246"), looks := false }, kinds := [], alts := [], laidByText := true, laidKinds := [.data, .data], laidTests := true, laidLooks := .later }
def LinkMakesCardSaid : Prop := Claim7.holds Tryz.pinned (.plain (OpenSpec.ofChange linkMakesSpec)) linkMakesCard

/-- THE TIED CARD OF 'cloakroomlaw20.LinkSegs'. -/
def linkSegsCard : Claim7 := { stood := { row := linkSegsRow, standIns := [], harness := (true, "12afc7047e4a5f1df9aa49a0419e5763da361efac127fc104caa78a70b46f246"), looks := false }, kinds := [], alts := [], laidByText := true, laidKinds := [.data, .data], laidTests := true, laidLooks := .later }
def LinkSegsCardSaid : Prop := Claim7.holds Tryz.pinned (.plain (OpenSpec.ofChange linkSegsSpec)) linkSegsCard

/-- THE TIED CARD OF 'cloakroomlaw20.LinkStarts'. -/
def linkStartsCard : Claim7 := { stood := { row := linkStartsRow, standIns := [], harness := (true, "12afc7047e4a5f1df9aa49a0419e5763da361efac127fc104caa78a70b46f246"), looks := false }, kinds := [], alts := [], laidByText := true, laidKinds := [.data, .data], laidTests := true, laidLooks := .later }
def LinkStartsCardSaid : Prop := Claim7.holds Tryz.pinned (.plain (OpenSpec.ofChange linkStartsSpec)) linkStartsCard

/-- THE TIED CARD OF 'cloakroomlaw20.LinkApart'. -/
def linkApartCard : Claim7 := { stood := { row := linkApartRow, standIns := [], harness := (true, "12afc7047e4a5f1df9aa49a0419e5763da361efac127fc104caa78a70b46f246"), looks := false }, kinds := [], alts := [], laidByText := true, laidKinds := [.data, .data], laidTests := true, laidLooks := .later }
def LinkApartCardSaid : Prop := Claim7.holds Tryz.pinned (.plain (OpenSpec.ofChange linkApartSpec)) linkApartCard

/-- THE TIED CARD OF 'cloakroomlaw20.LinkData'. -/
def linkDataCard : Claim7 := { stood := { row := linkDataRow, standIns := [], harness := (true, "12afc7047e4a5f1df9aa49a0419e5763da361efac127fc104caa78a70b46f246"), looks := false }, kinds := [], alts := [], laidByText := true, laidKinds := [.data, .data], laidTests := true, laidLooks := .later }
def LinkDataCardSaid : Prop := Claim7.holds Tryz.pinned (.plain (OpenSpec.ofChange linkDataSpec)) linkDataCard

/-- THE SECOND FORM's CARD OF 'cloakroomlaw18.StepNotes'. -/
def stepNotesUptoCard : Claim7 := { stood := { row := stepNotesUptoRow, standIns := [], harness := (true, "12afc7047e4a5f1df9aa49a0419e5763da361efac127fc104caa78a70b46f246"), looks := false }, kinds := [], alts := [], laidByText := true, laidKinds := [.data, .data], laidTests := true, laidLooks := .later }
def StepNotesUptoCardSaid : Prop := Claim7.holds Tryz.pinned (.plain (OpenSpec.upto stepNotesSpec)) stepNotesUptoCard

/-- THE SECOND FORM's CARD OF 'cloakroomlaw19.SliceCuts'. -/
def sliceCutsUptoCard : Claim7 := { stood := { row := sliceCutsUptoRow, standIns := [], harness := (true, "12afc7047e4a5f1df9aa49a0419e5763da361efac127fc104caa78a70b46f246"), looks := false }, kinds := [], alts := [], laidByText := true, laidKinds := [.data, .data], laidTests := true, laidLooks := .later }
def SliceCutsUptoCardSaid : Prop := Claim7.holds Tryz.pinned (.plain (OpenSpec.upto sliceCutsSpec)) sliceCutsUptoCard

/-- THE SECOND FORM's CARD OF 'cloakroomlaw19.SliceOnes'. -/
def sliceOnesUptoCard : Claim7 := { stood := { row := sliceOnesUptoRow, standIns := [], harness := (true, "12afc7047e4a5f1df9aa49a0419e5763da361efac127fc104caa78a70b46f246"), looks := false }, kinds := [], alts := [], laidByText := true, laidKinds := [.data, .data], laidTests := true, laidLooks := .later }
def SliceOnesUptoCardSaid : Prop := Claim7.holds Tryz.pinned (.plain (OpenSpec.upto sliceOnesSpec)) sliceOnesUptoCard

/-- THE SECOND FORM's CARD OF 'cloakroomlaw19.SliceAll'. -/
def sliceAllUptoCard : Claim7 := { stood := { row := sliceAllUptoRow, standIns := [], harness := (true, "12afc7047e4a5f1df9aa49a0419e5763da361efac127fc104caa78a70b46f246"), looks := false }, kinds := [], alts := [], laidByText := true, laidKinds := [.data, .data], laidTests := true, laidLooks := .later }
def SliceAllUptoCardSaid : Prop := Claim7.holds Tryz.pinned (.plain (OpenSpec.upto sliceAllSpec)) sliceAllUptoCard

/-- THE SECOND FORM's CARD OF 'cloakroomlaw19.SliceNone'. -/
def sliceNoneUptoCard : Claim7 := { stood := { row := sliceNoneUptoRow, standIns := [], harness := (true, "12afc7047e4a5f1df9aa49a0419e5763da361efac127fc104caa78a70b46f246"), looks := false }, kinds := [], alts := [], laidByText := true, laidKinds := [.data, .data], laidTests := true, laidLooks := .later }
def SliceNoneUptoCardSaid : Prop := Claim7.holds Tryz.pinned (.plain (OpenSpec.upto sliceNoneSpec)) sliceNoneUptoCard

/-- THE SECOND FORM's CARD OF 'cloakroomlaw19.SliceBack'. -/
def sliceBackUptoCard : Claim7 := { stood := { row := sliceBackUptoRow, standIns := [], harness := (true, "12afc7047e4a5f1df9aa49a0419e5763da361efac127fc104caa78a70b46f246"), looks := false }, kinds := [], alts := [], laidByText := true, laidKinds := [.data, .data], laidTests := true, laidLooks := .later }
def SliceBackUptoCardSaid : Prop := Claim7.holds Tryz.pinned (.plain (OpenSpec.upto sliceBackSpec)) sliceBackUptoCard

/-- THE SECOND FORM's CARD OF 'cloakroomlaw21.CallAll'. -/
def callAllUptoCard : Claim7 := { stood := { row := callAllUptoRow, standIns := [], harness := (true, "12afc7047e4a5f1df9aa49a0419e5763da361efac127fc104caa78a70b46f246"), looks := false }, kinds := [], alts := [], laidByText := true, laidKinds := [.data, .data], laidTests := true, laidLooks := .later }
def CallAllUptoCardSaid : Prop := Claim7.holds Tryz.pinned (.plain (OpenSpec.upto callAllSpec)) callAllUptoCard

/-- THE SECOND FORM's CARD OF 'cloakroomlaw21.CallCuts'. -/
def callCutsUptoCard : Claim7 := { stood := { row := callCutsUptoRow, standIns := [], harness := (true, "12afc7047e4a5f1df9aa49a0419e5763da361efac127fc104caa78a70b46f246"), looks := false }, kinds := [], alts := [], laidByText := true, laidKinds := [.data, .data], laidTests := true, laidLooks := .later }
def CallCutsUptoCardSaid : Prop := Claim7.holds Tryz.pinned (.plain (OpenSpec.upto callCutsSpec)) callCutsUptoCard

/-- THE SECOND FORM's CARD OF 'cloakroomlaw21.CallEnds'. -/
def callEndsUptoCard : Claim7 := { stood := { row := callEndsUptoRow, standIns := [], harness := (true, "12afc7047e4a5f1df9aa49a0419e5763da361efac127fc104caa78a70b46f246"), looks := false }, kinds := [], alts := [], laidByText := true, laidKinds := [.data, .data], laidTests := true, laidLooks := .later }
def CallEndsUptoCardSaid : Prop := Claim7.holds Tryz.pinned (.plain (OpenSpec.upto callEndsSpec)) callEndsUptoCard

/-- THE SECOND FORM's CARD OF 'cloakroomlaw21.CallUndone'. -/
def callUndoneUptoCard : Claim7 := { stood := { row := callUndoneUptoRow, standIns := [], harness := (true, "12afc7047e4a5f1df9aa49a0419e5763da361efac127fc104caa78a70b46f246"), looks := false }, kinds := [], alts := [], laidByText := true, laidKinds := [.data, .data], laidTests := true, laidLooks := .later }
def CallUndoneUptoCardSaid : Prop := Claim7.holds Tryz.pinned (.plain (OpenSpec.upto callUndoneSpec)) callUndoneUptoCard

/-- THE SECOND FORM's CARD OF 'cloakroomlaw21.CallCopies'. -/
def callCopiesUptoCard : Claim7 := { stood := { row := callCopiesUptoRow, standIns := [], harness := (true, "12afc7047e4a5f1df9aa49a0419e5763da361efac127fc104caa78a70b46f246"), looks := false }, kinds := [], alts := [], laidByText := true, laidKinds := [.data, .data], laidTests := true, laidLooks := .later }
def CallCopiesUptoCardSaid : Prop := Claim7.holds Tryz.pinned (.plain (OpenSpec.upto callCopiesSpec)) callCopiesUptoCard

/-- THE SECOND FORM's CARD OF 'cloakroomlaw20.LinkMakes'. -/
def linkMakesUptoCard : Claim7 := { stood := { row := linkMakesUptoRow, standIns := [], harness := (true, "12afc7047e4a5f1df9aa49a0419e5763da361efac127fc104caa78a70b46f246"), looks := false }, kinds := [], alts := [], laidByText := true, laidKinds := [.data, .data], laidTests := true, laidLooks := .later }
def LinkMakesUptoCardSaid : Prop := Claim7.holds Tryz.pinned (.plain (OpenSpec.upto linkMakesSpec)) linkMakesUptoCard

/-- THE SECOND FORM's CARD OF 'cloakroomlaw20.LinkSegs'. -/
def linkSegsUptoCard : Claim7 := { stood := { row := linkSegsUptoRow, standIns := [], harness := (true, "12afc7047e4a5f1df9aa49a0419e5763da361efac127fc104caa78a70b46f246"), looks := false }, kinds := [], alts := [], laidByText := true, laidKinds := [.data, .data], laidTests := true, laidLooks := .later }
def LinkSegsUptoCardSaid : Prop := Claim7.holds Tryz.pinned (.plain (OpenSpec.upto linkSegsSpec)) linkSegsUptoCard

/-- THE SECOND FORM's CARD OF 'cloakroomlaw20.LinkStarts'. -/
def linkStartsUptoCard : Claim7 := { stood := { row := linkStartsUptoRow, standIns := [], harness := (true, "12afc7047e4a5f1df9aa49a0419e5763da361efac127fc104caa78a70b46f246"), looks := false }, kinds := [], alts := [], laidByText := true, laidKinds := [.data, .data], laidTests := true, laidLooks := .later }
def LinkStartsUptoCardSaid : Prop := Claim7.holds Tryz.pinned (.plain (OpenSpec.upto linkStartsSpec)) linkStartsUptoCard

/-- THE SECOND FORM's CARD OF 'cloakroomlaw20.LinkApart'. -/
def linkApartUptoCard : Claim7 := { stood := { row := linkApartUptoRow, standIns := [], harness := (true, "12afc7047e4a5f1df9aa49a0419e5763da361efac127fc104caa78a70b46f246"), looks := false }, kinds := [], alts := [], laidByText := true, laidKinds := [.data, .data], laidTests := true, laidLooks := .later }
def LinkApartUptoCardSaid : Prop := Claim7.holds Tryz.pinned (.plain (OpenSpec.upto linkApartSpec)) linkApartUptoCard

/-- THE SECOND FORM's CARD OF 'cloakroomlaw20.LinkData'. -/
def linkDataUptoCard : Claim7 := { stood := { row := linkDataUptoRow, standIns := [], harness := (true, "12afc7047e4a5f1df9aa49a0419e5763da361efac127fc104caa78a70b46f246"), looks := false }, kinds := [], alts := [], laidByText := true, laidKinds := [.data, .data], laidTests := true, laidLooks := .later }
def LinkDataUptoCardSaid : Prop := Claim7.holds Tryz.pinned (.plain (OpenSpec.upto linkDataSpec)) linkDataUptoCard
end Rows
end Go.Proofs.YtgopfpmkbdhnnaaGreatDoor
