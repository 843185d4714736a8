/-
The code of functions, as the machine runs it.
-/
import Derived.Test.YtgopfpmkbdhnnaaGreatDoorCkTbl
import Derived.Test.YtgopfpmkbdhnnaaGreatDoorCkS6
set_option maxRecDepth 100000
set_option linter.unusedVariables false
namespace Ck
open Go
/-- cloakroom/ctrl.Blocks -/
noncomputable def m219 (C : Oracle) (a0 : Value) (H : Heap) : Option (Value × Heap) :=
  (movV (.map none)).bind fun v0 =>
  (movV (.bool false)).bind fun v1 =>
  (movV a0).bind fun v2 =>
  (C 265 [v2] H).bind fun x3 =>
  (movV x3.1).bind fun v4 =>
  (extV v4 0).bind fun v5 =>
  (extV v4 1).bind fun v6 =>
  (movV v5).bind fun v7 =>
  (movV v6).bind fun v8 =>
  (movV v8).bind fun v9 =>
  (unV .not v9).bind fun v10 =>
  ifK v10 (
    (movV (.map none)).bind fun v11 =>
    (movV (.bool false)).bind fun v12 =>
    some (.tuple #[v11, v12], x3.2)) (
    (movV v7).bind fun v13 =>
    (nilchk v13).bind fun v14 =>
    (faddrV 2 v14).bind fun v15 =>
    (ldV false 1 v15 x3.2).bind fun v16 =>
    (movV v16).bind fun v17 =>
    (movV (.bool true)).bind fun v18 =>
    some (.tuple #[v17, v18], x3.2))

theorem c219 (a0 : Value) (H : Heap) : call tbl 219 [a0] H = m219 (call tbl) a0 H :=
  (call_eqM 219 _ H).trans (by kernel_rfl)

/-- cloakroom/ctrl.walk -/
noncomputable def m265 (C : Oracle) (a0 : Value) (H : Heap) : Option (Value × Heap) :=
  (movV (.pointer none)).bind fun v0 =>
  (movV (.bool false)).bind fun v1 =>
  (movV a0).bind fun v2 =>
  (newV (fun b => some (.map (some b), .map [])) H).bind fun x3 =>
  (buildV [(.slice none 0 0), (.slice none 0 0), (.map none), (.int .i64 0)] [(1, 1, v2), (2, 1, x3.1)]).bind fun v4 =>
  (newV (fun b => boxV 4 v4 b) x3.2).bind fun x5 =>
  (movV x5.1).bind fun v6 =>
  (movV a0).bind fun v7 =>
  (lenV v7).bind fun v8 =>
  (movV (.int .i64 0)).bind fun v9 =>
  bindL (loopL (fun e10 h11 =>
      (binV .lss (e10 15) (e10 14)).bind fun v12 =>
      ifK v12 (
        (movV (e10 15)).bind fun v13 =>
        (movV v13).bind fun v14 =>
        (movV (e10 4)).bind fun v15 =>
        (movV v14).bind fun v16 =>
        (C 282 [v15, v16] h11).bind fun x17 =>
        (unV .not x17.1).bind fun v18 =>
        ifK v18 (
          (movV (.pointer none)).bind fun v19 =>
          (movV (.bool false)).bind fun v20 =>
          some (.ret, (upd (upd (upd (upd (upd e10 16 v12) 5 v14) 21 v18) 2 v19) 3 v20), x17.2)) (
          (binV .add (e10 15) (.int .i64 1)).bind fun v21 =>
          (movV v21).bind fun v22 =>
          some (.normal, (upd (upd (upd (upd e10 16 v12) 5 v14) 21 v18) 15 v22), x17.2))) (
        some (.exit 0, (upd e10 16 v12), h11))) (upd (upd (upd (upd (upd (env0 [a0]) 2 v0) 3 v1) 4 v6) 14 v8) 15 v9) x5.2)
    (fun i23 e24 h25 =>
      if i23 = 0 then (
        (movV (e24 0)).bind fun v28 =>
        (lenV v28).bind fun v29 =>
        (binV .eql v29 (.int .i64 0)).bind fun v30 =>
        (movV v30).bind fun v31 =>
        (guardV (some (v31, false)) (movV (e24 4))).bind fun v32 =>
        (guardV (some (v31, false)) (nilchk v32)).bind fun v33 =>
        (guardV (some (v31, false)) (faddrV 0 v33)).bind fun v34 =>
        (guardV (some (v31, false)) (ldV false 1 v34 h25)).bind fun v35 =>
        (guardV (some (v31, false)) (lenV v35)).bind fun v36 =>
        (guardV (some (v31, false)) (binV .gtr v36 (.int .i64 0))).bind fun v37 =>
        (pickV v31 (.bool true) v37).bind fun v38 =>
        (movV v38).bind fun v39 =>
        (guardV (some (v39, false)) (movV (e24 0))).bind fun v40 =>
        (guardV (some (v39, false)) (movV (e24 0))).bind fun v41 =>
        (guardV (some (v39, false)) (lenV v41)).bind fun v42 =>
        (guardV (some (v39, false)) (binV .sub v42 (.int .i64 1))).bind fun v43 =>
        (guardV (some (v39, false)) (iaddrV 6 v40 v43)).bind fun v44 =>
        (guardV (some (v39, false)) (faddrV 0 v44)).bind fun v45 =>
        (guardV (some (v39, false)) (ldV false 1 v45 h25)).bind fun v46 =>
        (guardV (some (v39, false)) (binV .neq v46 (.int .i64 11))).bind fun v47 =>
        (pickV v39 (.bool true) v47).bind fun v48 =>
        ifK v48 (
          (movV (.pointer none)).bind fun v49 =>
          (movV (.bool false)).bind fun v50 =>
          some (.tuple #[v49, v50], h25)) (
          (movV (.int .i64 0)).bind fun v51 =>
          (movV (e24 0)).bind fun v52 =>
          (lenV v52).bind fun v53 =>
          (movV (.int .i64 0)).bind fun v54 =>
          bindL (loopL (fun e55 h56 =>
              (binV .lss (e55 46) (e55 45)).bind fun v57 =>
              ifK v57 (
                have j58 := fun (e59 : Env) (h60 : Heap) =>
                  (binV .add (e59 46) (.int .i64 1)).bind fun v61 =>
                  (movV v61).bind fun v62 =>
                  some (.normal, (upd e59 46 v62), h60)
                have j63 := fun (e64 : Env) (h65 : Heap) =>
                  j58 e64 h65
                (iaddrV 6 (e55 44) (e55 46)).bind fun v66 =>
                (ldV true 6 v66 h56).bind fun v67 =>
                (newV (fun b => some (ptrTo b, .cells 6 false [(.int .i64 0), (.int .u32 0), (.int .u32 0), (.int .u64 0), (.slice none 0 0), (.int .i64 0)])) h56).bind fun x68 =>
                (stX 6 x68.1 v67 x68.2).bind fun x69 =>
                (faddrV 0 x68.1).bind fun v70 =>
                (ldV false 1 v70 x69.2).bind fun v71 =>
                (binV .eql v71 (.int .i64 11)).bind fun v72 =>
                ifK v72 (
                  (movV (e55 6)).bind fun v73 =>
                  (binV .add v73 (.int .i64 1)).bind fun v74 =>
                  (movV v74).bind fun v75 =>
                  j63 (upd (upd (upd (upd e55 47 v57) 8 x68.1) 52 v72) 6 v75) x69.2) (
                  j63 (upd (upd (upd e55 47 v57) 8 x68.1) 52 v72) x69.2)) (
                some (.exit 2, (upd e55 47 v57), h56))) (upd (upd (upd (upd (upd e24 43 v48) 6 v51) 44 v52) 45 v53) 46 v54) h25)
            (fun i76 e77 h78 =>
              if i76 = 2 then (
                (movV (e77 4)).bind fun v81 =>
                (movV (e77 6)).bind fun v82 =>
                (movV (e77 4)).bind fun v83 =>
                (nilchk v83).bind fun v84 =>
                (faddrV 2 v84).bind fun v85 =>
                (ldV false 1 v85 h78).bind fun v86 =>
                (mlenV v86 h78).bind fun v87 =>
                (binV .add v87 (.int .i64 1)).bind fun v88 =>
                (binV .eql v82 v88).bind fun v89 =>
                (movV v81).bind fun v90 =>
                (movV v89).bind fun v91 =>
                some (.tuple #[v90, v91], h78)) else (
                none))
            (fun e79 h80 =>
              some (.tuple #[(e79 2), (e79 3)], h80)))) else (
        none))
    (fun e26 h27 =>
      some (.tuple #[(e26 2), (e26 3)], h27))

theorem c265 (a0 : Value) (H : Heap) : call tbl 265 [a0] H = m265 (call tbl) a0 H :=
  (call_eqM 265 _ H).trans (by kernel_rfl)

/-- (*cloakroom/ctrl.walker).one -/
noncomputable def m282 (C : Oracle) (a0 a1 : Value) (H : Heap) : Option (Value × Heap) :=
  (movV (.bool false)).bind fun v0 =>
  have j1 := fun (e2 : Env) (h3 : Heap) =>
    (movV (.bool true)).bind fun v4 =>
    some (v4, h3)
  (movV a0).bind fun v5 =>
  (nilchk v5).bind fun v6 =>
  (faddrV 1 v6).bind fun v7 =>
  (ldV false 1 v7 H).bind fun v8 =>
  (movV a1).bind fun v9 =>
  (iaddrV 6 v8 v9).bind fun v10 =>
  (faddrV 0 v10).bind fun v11 =>
  (ldV false 1 v11 H).bind fun v12 =>
  have j13 := fun (e14 : Env) (h15 : Heap) =>
    j1 e14 h15
  have j16 := fun (e17 : Env) (h18 : Heap) =>
    ifK (e17 13) (
      (movV (e17 0)).bind fun v19 =>
      (nilchk v19).bind fun v20 =>
      (faddrV 0 v20).bind fun v21 =>
      (movV (e17 1)).bind fun v22 =>
      (C 284 [v21, v22] h18).bind fun x23 =>
      (movV (e17 0)).bind fun v24 =>
      (nilchk v24).bind fun v25 =>
      (faddrV 2 v25).bind fun v26 =>
      (ldV false 1 v26 x23.2).bind fun v27 =>
      (movV (e17 1)).bind fun v28 =>
      (buildV [(.int .i64 0), (.int .i64 0)] [(0, 1, (.int .i64 (-1)))]).bind fun v29 =>
      (mapupdX .int v27 v28 v29 x23.2).bind fun x30 =>
      (movV (e17 0)).bind fun v31 =>
      (movV (e17 0)).bind fun v32 =>
      (nilchk v32).bind fun v33 =>
      (faddrV 3 v33).bind fun v34 =>
      (ldV false 1 v34 x30.2).bind fun v35 =>
      (movV (e17 0)).bind fun v36 =>
      (nilchk v36).bind fun v37 =>
      (faddrV 0 v37).bind fun v38 =>
      (ldV false 1 v38 x30.2).bind fun v39 =>
      (lenV v39).bind fun v40 =>
      (maxV v35 v40).bind fun v41 =>
      (nilchk v31).bind fun v42 =>
      (faddrV 3 v42).bind fun v43 =>
      (stX 1 v43 v41 x30.2).bind fun x44 =>
      j13 e17 x44.2) (
      (binV .eql (e17 12) (.int .i64 5)).bind fun v45 =>
      (movV v45).bind fun v46 =>
      ifK v46 (
        (movV (e17 0)).bind fun v47 =>
        (movV (e17 1)).bind fun v48 =>
        (C 285 [v47, v48] h18).bind fun x49 =>
        (movV x49.1).bind fun v50 =>
        some (v50, x49.2)) (
        (binV .eql (e17 12) (.int .i64 11)).bind fun v51 =>
        (movV v51).bind fun v52 =>
        ifK v52 (
          (movV (e17 0)).bind fun v53 =>
          (movV (e17 1)).bind fun v54 =>
          (C 286 [v53, v54] h18).bind fun x55 =>
          (movV x55.1).bind fun v56 =>
          some (v56, x55.2)) (
          j13 (upd (upd e17 41 v46) 46 v52) h18)))
  (binV .eql v12 (.int .i64 2)).bind fun v57 =>
  (movV v57).bind fun v58 =>
  ifK v58 (
    j16 (upd (upd (upd (env0 [a0, a1]) 4 v0) 12 v12) 13 v58) H) (
    (binV .eql v12 (.int .i64 3)).bind fun v59 =>
    (movV v59).bind fun v60 =>
    ifK v60 (
      j16 (upd (upd (upd (upd (env0 [a0, a1]) 4 v0) 12 v12) 13 v58) 13 v60) H) (
      (binV .eql v12 (.int .i64 4)).bind fun v61 =>
      (movV v61).bind fun v62 =>
      j16 (upd (upd (upd (upd (upd (env0 [a0, a1]) 4 v0) 12 v12) 13 v58) 13 v60) 13 v62) H))

theorem c282 (a0 a1 : Value) (H : Heap) : call tbl 282 [a0, a1] H = m282 (call tbl) a0 a1 H :=
  (call_eqM 282 _ H).trans (by kernel_rfl)

/-- (*cloakroom/ctrl.stack).push -/
noncomputable def m284 (C : Oracle) (a0 a1 : Value) (H : Heap) : Option (Value × Heap) :=
  (movV a0).bind fun v0 =>
  (movV a0).bind fun v1 =>
  (nilchk v1).bind fun v2 =>
  (ldV false 1 v2 H).bind fun v3 =>
  (movV a1).bind fun v4 =>
  (newV (fun b => bsliceV 1 1 [(.int .i64 0)] [(0, 1, v4)] b) H).bind fun x5 =>
  (appendV 1 8 v3 x5.1 x5.2).bind fun x6 =>
  (nilchk v0).bind fun v7 =>
  (stX 1 v7 x6.1 x6.2).bind fun x8 =>
  some (.tuple #[], x8.2)

theorem c284 (a0 a1 : Value) (H : Heap) : call tbl 284 [a0, a1] H = m284 (call tbl) a0 a1 H :=
  (call_eqM 284 _ H).trans (by kernel_rfl)

/-- (*cloakroom/ctrl.walker).half -/
noncomputable def m285 (C : Oracle) (a0 a1 : Value) (H : Heap) : Option (Value × Heap) :=
  (movV (.bool false)).bind fun v0 =>
  (movV a0).bind fun v1 =>
  (nilchk v1).bind fun v2 =>
  (faddrV 0 v2).bind fun v3 =>
  (C 287 [v3] H).bind fun x4 =>
  (movV x4.1).bind fun v5 =>
  (extV v5 0).bind fun v6 =>
  (extV v5 1).bind fun v7 =>
  (movV v6).bind fun v8 =>
  (movV v7).bind fun v9 =>
  (movV v9).bind fun v10 =>
  (unV .not v10).bind fun v11 =>
  (movV v11).bind fun v12 =>
  (guardV (some (v12, false)) (movV a0)).bind fun v13 =>
  (guardV (some (v12, false)) (nilchk v13)).bind fun v14 =>
  (guardV (some (v12, false)) (faddrV 1 v14)).bind fun v15 =>
  (guardV (some (v12, false)) (ldV false 1 v15 x4.2)).bind fun v16 =>
  (guardV (some (v12, false)) (movV v8)).bind fun v17 =>
  (guardV (some (v12, false)) (iaddrV 6 v16 v17)).bind fun v18 =>
  (guardV (some (v12, false)) (faddrV 0 v18)).bind fun v19 =>
  (guardV (some (v12, false)) (ldV false 1 v19 x4.2)).bind fun v20 =>
  (guardV (some (v12, false)) (binV .neq v20 (.int .i64 4))).bind fun v21 =>
  (pickV v12 (.bool true) v21).bind fun v22 =>
  (movV v22).bind fun v23 =>
  (guardV (some (v23, false)) (movV a0)).bind fun v24 =>
  (guardV (some (v23, false)) (nilchk v24)).bind fun v25 =>
  (guardV (some (v23, false)) (faddrV 2 v25)).bind fun v26 =>
  (guardV (some (v23, false)) (ldV false 1 v26 x4.2)).bind fun v27 =>
  (guardV (some (v23, false)) (movV v8)).bind fun v28 =>
  (guardV (some (v23, false)) (lookupV .int (.agg #[(.int .i64 0), (.int .i64 0)]) false v27 v28 x4.2)).bind fun v29 =>
  (guardV (some (v23, false)) (fieldV false 0 1 v29)).bind fun v30 =>
  (guardV (some (v23, false)) (binV .neq v30 (.int .i64 (-1)))).bind fun v31 =>
  (pickV v23 (.bool true) v31).bind fun v32 =>
  ifK v32 (
    (movV (.bool false)).bind fun v33 =>
    some (v33, x4.2)) (
    (movV a0).bind fun v34 =>
    (nilchk v34).bind fun v35 =>
    (faddrV 2 v35).bind fun v36 =>
    (ldV false 1 v36 x4.2).bind fun v37 =>
    (movV v8).bind fun v38 =>
    (movV a1).bind fun v39 =>
    (buildV [(.int .i64 0), (.int .i64 0)] [(0, 1, v39)]).bind fun v40 =>
    (mapupdX .int v37 v38 v40 x4.2).bind fun x41 =>
    (movV (.bool true)).bind fun v42 =>
    some (v42, x41.2))

theorem c285 (a0 a1 : Value) (H : Heap) : call tbl 285 [a0, a1] H = m285 (call tbl) a0 a1 H :=
  (call_eqM 285 _ H).trans (by kernel_rfl)

/-- (*cloakroom/ctrl.walker).closes -/
noncomputable def m286 (C : Oracle) (a0 a1 : Value) (H : Heap) : Option (Value × Heap) :=
  (movV (.bool false)).bind fun v0 =>
  (movV a0).bind fun v1 =>
  (nilchk v1).bind fun v2 =>
  (faddrV 0 v2).bind fun v3 =>
  (C 288 [v3] H).bind fun x4 =>
  (movV x4.1).bind fun v5 =>
  (extV v5 0).bind fun v6 =>
  (extV v5 1).bind fun v7 =>
  (movV v6).bind fun v8 =>
  (movV v7).bind fun v9 =>
  (movV v9).bind fun v10 =>
  (unV .not v10).bind fun v11 =>
  ifK v11 (
    (movV a1).bind fun v12 =>
    (movV a0).bind fun v13 =>
    (nilchk v13).bind fun v14 =>
    (faddrV 1 v14).bind fun v15 =>
    (ldV false 1 v15 x4.2).bind fun v16 =>
    (lenV v16).bind fun v17 =>
    (binV .sub v17 (.int .i64 1)).bind fun v18 =>
    (binV .eql v12 v18).bind fun v19 =>
    (movV v19).bind fun v20 =>
    some (v20, x4.2)) (
    (movV a0).bind fun v21 =>
    (nilchk v21).bind fun v22 =>
    (faddrV 2 v22).bind fun v23 =>
    (ldV false 1 v23 x4.2).bind fun v24 =>
    (movV v8).bind fun v25 =>
    (movV a0).bind fun v26 =>
    (nilchk v26).bind fun v27 =>
    (faddrV 2 v27).bind fun v28 =>
    (ldV false 1 v28 x4.2).bind fun v29 =>
    (movV v8).bind fun v30 =>
    (lookupV .int (.agg #[(.int .i64 0), (.int .i64 0)]) false v29 v30 x4.2).bind fun v31 =>
    (fieldV false 0 1 v31).bind fun v32 =>
    (movV a1).bind fun v33 =>
    (buildV [(.int .i64 0), (.int .i64 0)] [(0, 1, v32), (1, 1, v33)]).bind fun v34 =>
    (mapupdX .int v24 v25 v34 x4.2).bind fun x35 =>
    (movV (.bool true)).bind fun v36 =>
    some (v36, x35.2))

theorem c286 (a0 a1 : Value) (H : Heap) : call tbl 286 [a0, a1] H = m286 (call tbl) a0 a1 H :=
  (call_eqM 286 _ H).trans (by kernel_rfl)

/-- (*cloakroom/ctrl.stack).top -/
noncomputable def m287 (C : Oracle) (a0 : Value) (H : Heap) : Option (Value × Heap) :=
  (movV (.int .i64 0)).bind fun v0 =>
  (movV (.bool false)).bind fun v1 =>
  (movV a0).bind fun v2 =>
  (nilchk v2).bind fun v3 =>
  (ldV false 1 v3 H).bind fun v4 =>
  (lenV v4).bind fun v5 =>
  (binV .eql v5 (.int .i64 0)).bind fun v6 =>
  ifK v6 (
    (movV (.int .i64 0)).bind fun v7 =>
    (movV (.bool false)).bind fun v8 =>
    some (.tuple #[v7, v8], H)) (
    (movV a0).bind fun v9 =>
    (nilchk v9).bind fun v10 =>
    (ldV false 1 v10 H).bind fun v11 =>
    (movV a0).bind fun v12 =>
    (nilchk v12).bind fun v13 =>
    (ldV false 1 v13 H).bind fun v14 =>
    (lenV v14).bind fun v15 =>
    (binV .sub v15 (.int .i64 1)).bind fun v16 =>
    (iaddrV 1 v11 v16).bind fun v17 =>
    (ldV false 1 v17 H).bind fun v18 =>
    (movV v18).bind fun v19 =>
    (movV (.bool true)).bind fun v20 =>
    some (.tuple #[v19, v20], H))

theorem c287 (a0 : Value) (H : Heap) : call tbl 287 [a0] H = m287 (call tbl) a0 H :=
  (call_eqM 287 _ H).trans (by kernel_rfl)

/-- (*cloakroom/ctrl.stack).pop -/
noncomputable def m288 (C : Oracle) (a0 : Value) (H : Heap) : Option (Value × Heap) :=
  (movV (.int .i64 0)).bind fun v0 =>
  (movV (.bool false)).bind fun v1 =>
  (movV a0).bind fun v2 =>
  (nilchk v2).bind fun v3 =>
  (ldV false 1 v3 H).bind fun v4 =>
  (lenV v4).bind fun v5 =>
  (binV .sub v5 (.int .i64 1)).bind fun v6 =>
  (movV v6).bind fun v7 =>
  (movV v7).bind fun v8 =>
  (binV .lss v8 (.int .i64 0)).bind fun v9 =>
  ifK v9 (
    (movV (.int .i64 0)).bind fun v10 =>
    (movV (.bool false)).bind fun v11 =>
    some (.tuple #[v10, v11], H)) (
    (movV a0).bind fun v12 =>
    (nilchk v12).bind fun v13 =>
    (ldV false 1 v13 H).bind fun v14 =>
    (movV v7).bind fun v15 =>
    (iaddrV 1 v14 v15).bind fun v16 =>
    (ldV false 1 v16 H).bind fun v17 =>
    (movV v17).bind fun v18 =>
    (movV a0).bind fun v19 =>
    (movV a0).bind fun v20 =>
    (nilchk v20).bind fun v21 =>
    (ldV false 1 v21 H).bind fun v22 =>
    (movV v7).bind fun v23 =>
    (sliceV 1 v22 none (some v23) H).bind fun v24 =>
    (nilchk v19).bind fun v25 =>
    (stX 1 v25 v24 H).bind fun x26 =>
    (movV v18).bind fun v27 =>
    (movV v27).bind fun v28 =>
    (movV (.bool true)).bind fun v29 =>
    some (.tuple #[v28, v29], x26.2))

theorem c288 (a0 : Value) (H : Heap) : call tbl 288 [a0] H = m288 (call tbl) a0 H :=
  (call_eqM 288 _ H).trans (by kernel_rfl)

/-- cloakroom/inst.New -/
noncomputable def m90 (C : Oracle) (a0 : Value) (H : Heap) : Option (Value × Heap) :=
  (newV (fun b => boxV 13 a0 b) H).bind fun x0 =>
  (movV (.pointer none)).bind fun v1 =>
  (movV (.int .i64 0)).bind fun v2 =>
  (ldV true 13 x0.1 x0.2).bind fun v3 =>
  (faddrV 8 x0.1).bind fun v4 =>
  (ldV false 1 v4 x0.2).bind fun v5 =>
  (lenV v5).bind fun v6 =>
  (newV (fun b => mksliceV 1 1 [(.bool false)] v6 v6 b) x0.2).bind fun x7 =>
  (faddrV 12 x0.1).bind fun v8 =>
  (ldV false 1 v8 x7.2).bind fun v9 =>
  (lenV v9).bind fun v10 =>
  (newV (fun b => mksliceV 1 1 [(.bool false)] v10 v10 b) x7.2).bind fun x11 =>
  (buildV [(.slice none 0 0), (.slice none 0 0), (.slice none 0 0), (.slice none 0 0), (.slice none 0 0), (.slice none 0 0), (.bool false), (.int .u32 0), (.slice none 0 0), (.bool false), (.int .u32 0), (.slice none 0 0), (.slice none 0 0), (.slice none 0 0), (.slice none 0 0), (.slice none 0 0), (.slice none 0 0), (.slice none 0 0), (.slice none 0 0)] [(0, 13, v3), (17, 1, x7.1), (18, 1, x11.1)]).bind fun v12 =>
  (buildV [(.slice none 0 0), (.slice none 0 0), (.slice none 0 0), (.slice none 0 0), (.slice none 0 0), (.slice none 0 0), (.bool false), (.int .u32 0), (.slice none 0 0), (.bool false), (.int .u32 0), (.slice none 0 0), (.slice none 0 0), (.slice none 0 0), (.slice none 0 0), (.slice none 0 0), (.slice none 0 0), (.slice none 0 0), (.slice none 0 0), (.int .i64 0)] [(0, 19, v12)]).bind fun v13 =>
  (newV (fun b => boxV 20 v13 b) x11.2).bind fun x14 =>
  (movV x14.1).bind fun v15 =>
  (movV v15).bind fun v16 =>
  (C 157 [v16] x14.2).bind fun x17 =>
  (movV v15).bind fun v18 =>
  (C 158 [v18] x17.2).bind fun x19 =>
  (movV v15).bind fun v20 =>
  (nilchk v20).bind fun v21 =>
  (faddrV 19 v21).bind fun v22 =>
  (ldV false 1 v22 x19.2).bind fun v23 =>
  (binV .neq v23 (.int .i64 0)).bind fun v24 =>
  ifK v24 (
    (movV v15).bind fun v25 =>
    (nilchk v25).bind fun v26 =>
    (faddrV 19 v26).bind fun v27 =>
    (ldV false 1 v27 x19.2).bind fun v28 =>
    (movV (.pointer none)).bind fun v29 =>
    (movV v28).bind fun v30 =>
    some (.tuple #[v29, v30], x19.2)) (
    (faddrV 4 x0.1).bind fun v31 =>
    (ldV false 1 v31 x19.2).bind fun v32 =>
    (lenV v32).bind fun v33 =>
    (movV (.int .i64 0)).bind fun v34 =>
    bindL (loopL (fun e35 h36 =>
        (binV .lss (e35 35) (e35 34)).bind fun v37 =>
        ifK v37 (
          (iaddrV 3 (e35 33) (e35 35)).bind fun v38 =>
          (ldV true 3 v38 h36).bind fun v39 =>
          (newV (fun b => some (ptrTo b, .cells 3 false [(.int .u8 0), (.bool false), (.slice none 0 0)])) h36).bind fun x40 =>
          (stX 3 x40.1 v39 x40.2).bind fun x41 =>
          (movV (e35 4)).bind fun v42 =>
          (movV (e35 4)).bind fun v43 =>
          (nilchk v43).bind fun v44 =>
          (faddrV 0 v44).bind fun v45 =>
          (faddrV 16 v45).bind fun v46 =>
          (ldV false 1 v46 x41.2).bind fun v47 =>
          (faddrV 2 x40.1).bind fun v48 =>
          (ldV false 1 v48 x41.2).bind fun v49 =>
          (C 159 [v49] x41.2).bind fun x50 =>
          again (ldV false 1 v46 x50.2) v47 (
          (newV (fun b => bsliceV 1 1 [(.int .u64 0)] [(0, 1, x50.1)] b) x50.2).bind fun x51 =>
          (appendV 1 8 v47 x51.1 x51.2).bind fun x52 =>
          (nilchk v42).bind fun v53 =>
          (faddrV 0 v53).bind fun v54 =>
          (faddrV 16 v54).bind fun v55 =>
          (stX 1 v55 x52.1 x52.2).bind fun x56 =>
          (binV .add (e35 35) (.int .i64 1)).bind fun v57 =>
          (movV v57).bind fun v58 =>
          some (.normal, (upd (upd (upd e35 36 v37) 6 x40.1) 35 v58), x56.2))) (
          some (.exit 0, (upd e35 36 v37), h36))) (upd (upd (upd (upd (upd (upd (upd (upd (env0 [a0]) 1 x0.1) 2 v1) 3 v2) 4 v15) 27 v24) 33 v32) 34 v33) 35 v34) x19.2)
      (fun i59 e60 h61 =>
        if i59 = 0 then (
          (movV (e60 4)).bind fun v64 =>
          (nilchk v64).bind fun v65 =>
          (faddrV 0 v65).bind fun v66 =>
          (movV v66).bind fun v67 =>
          (movV (.int .i64 0)).bind fun v68 =>
          some (.tuple #[v67, v68], h61)) else (
          none))
      (fun e62 h63 =>
        some (.tuple #[(e62 2), (e62 3)], h63)))

theorem c90 (a0 : Value) (H : Heap) : call tbl 90 [a0] H = m90 (call tbl) a0 H :=
  (call_eqM 90 _ H).trans (by kernel_rfl)

/-- (*cloakroom/inst.maker).blocks -/
noncomputable def m158 (C : Oracle) (a0 : Value) (H : Heap) : Option (Value × Heap) :=
  (movV a0).bind fun v0 =>
  (nilchk v0).bind fun v1 =>
  (faddrV 0 v1).bind fun v2 =>
  (faddrV 0 v2).bind fun v3 =>
  (faddrV 11 v3).bind fun v4 =>
  (ldV false 1 v4 H).bind fun v5 =>
  (lenV v5).bind fun v6 =>
  (movV (.int .i64 0)).bind fun v7 =>
  bindL (loopL (fun e8 h9 =>
      (binV .lss (e8 13) (e8 12)).bind fun v10 =>
      ifK v10 (
        (iaddrV 2 (e8 11) (e8 13)).bind fun v11 =>
        (ldV true 2 v11 h9).bind fun v12 =>
        (newV (fun b => some (ptrTo b, .cells 2 false [(.slice none 0 0), (.slice none 0 0)])) h9).bind fun x13 =>
        (stX 2 x13.1 v12 x13.2).bind fun x14 =>
        (faddrV 1 x13.1).bind fun v15 =>
        (ldV false 1 v15 x14.2).bind fun v16 =>
        (C 219 [v16] x14.2).bind fun x17 =>
        (movV x17.1).bind fun v18 =>
        (extV v18 0).bind fun v19 =>
        (extV v18 1).bind fun v20 =>
        (movV v19).bind fun v21 =>
        (movV v20).bind fun v22 =>
        have j23 := fun (e24 : Env) (h25 : Heap) =>
          (movV (e24 0)).bind fun v26 =>
          (movV (e24 0)).bind fun v27 =>
          (nilchk v27).bind fun v28 =>
          (faddrV 0 v28).bind fun v29 =>
          (faddrV 13 v29).bind fun v30 =>
          (ldV false 1 v30 h25).bind fun v31 =>
          (movV (e24 4)).bind fun v32 =>
          (newV (fun b => bsliceV 1 1 [(.map none)] [(0, 1, v32)] b) h25).bind fun x33 =>
          (appendV 1 8 v31 x33.1 x33.2).bind fun x34 =>
          (nilchk v26).bind fun v35 =>
          (faddrV 0 v35).bind fun v36 =>
          (faddrV 13 v36).bind fun v37 =>
          (stX 1 v37 x34.1 x34.2).bind fun x38 =>
          (binV .add (e24 13) (.int .i64 1)).bind fun v39 =>
          (movV v39).bind fun v40 =>
          some (.normal, (upd e24 13 v40), x38.2)
        (movV v22).bind fun v41 =>
        (unV .not v41).bind fun v42 =>
        (movV v42).bind fun v43 =>
        (guardV (some (v43, true)) (movV (e8 0))).bind fun v44 =>
        (guardV (some (v43, true)) (nilchk v44)).bind fun v45 =>
        (guardV (some (v43, true)) (faddrV 19 v45)).bind fun v46 =>
        (guardV (some (v43, true)) (ldV false 1 v46 x17.2)).bind fun v47 =>
        (guardV (some (v43, true)) (binV .eql v47 (.int .i64 0))).bind fun v48 =>
        (pickV v43 v48 (.bool false)).bind fun v49 =>
        ifK v49 (
          (movV (e8 0)).bind fun v50 =>
          (nilchk v50).bind fun v51 =>
          (faddrV 19 v51).bind fun v52 =>
          (stX 1 v52 (.int .i64 2) x17.2).bind fun x53 =>
          j23 (upd (upd (upd (upd (upd e8 14 v10) 3 x13.1) 4 v21) 5 v22) 31 v49) x53.2) (
          j23 (upd (upd (upd (upd (upd e8 14 v10) 3 x13.1) 4 v21) 5 v22) 31 v49) x17.2)) (
        some (.exit 0, (upd e8 14 v10), h9))) (upd (upd (upd (env0 [a0]) 11 v5) 12 v6) 13 v7) H)
    (fun i54 e55 h56 =>
      if i54 = 0 then (
        some (.tuple #[], h56)) else (
        none))
    (fun e57 h58 =>
      some (.tuple #[], h58))

theorem c158 (a0 : Value) (H : Heap) : call tbl 158 [a0] H = m158 (call tbl) a0 H :=
  (call_eqM 158 _ H).trans (by kernel_rfl)

/-- cloakroom/inst.Value -/
noncomputable def m159 (C : Oracle) (a0 : Value) (H : Heap) : Option (Value × Heap) :=
  (movV (.int .u64 0)).bind fun v0 =>
  (movV a0).bind fun v1 =>
  (lenV v1).bind fun v2 =>
  (binV .eql v2 (.int .i64 0)).bind fun v3 =>
  ifK v3 (
    (movV (.int .u64 0)).bind fun v4 =>
    some (v4, H)) (
    (movV a0).bind fun v5 =>
    (iaddrV 6 v5 (.int .i64 0)).bind fun v6 =>
    (ldV true 6 v6 H).bind fun v7 =>
    (newV (fun b => some (ptrTo b, .cells 6 false [(.int .i64 0), (.int .u32 0), (.int .u32 0), (.int .u64 0), (.slice none 0 0), (.int .i64 0)])) H).bind fun x8 =>
    (stX 6 x8.1 v7 x8.2).bind fun x9 =>
    (faddrV 0 x8.1).bind fun v10 =>
    (ldV false 1 v10 x9.2).bind fun v11 =>
    have j12 := fun (e13 : Env) (h14 : Heap) =>
      ifK (e13 12) (
        (faddrV 3 (e13 3)).bind fun v15 =>
        (ldV false 1 v15 h14).bind fun v16 =>
        (movV v16).bind fun v17 =>
        some (v17, h14)) (
        (binV .eql (e13 11) (.int .i64 210)).bind fun v18 =>
        (movV v18).bind fun v19 =>
        ifK v19 (
          (faddrV 1 (e13 3)).bind fun v20 =>
          (ldV false 1 v20 h14).bind fun v21 =>
          (convV .u64 v21).bind fun v22 =>
          (binV .add v22 (.int .u64 1)).bind fun v23 =>
          (movV v23).bind fun v24 =>
          some (v24, h14)) (
          (movV (.int .u64 0)).bind fun v25 =>
          some (v25, h14)))
    (binV .eql v11 (.int .i64 65)).bind fun v26 =>
    (movV v26).bind fun v27 =>
    ifK v27 (
      j12 (upd (upd (upd (upd (upd (env0 [a0]) 2 v0) 6 v3) 3 x8.1) 11 v11) 12 v27) x9.2) (
      (binV .eql v11 (.int .i64 66)).bind fun v28 =>
      (movV v28).bind fun v29 =>
      j12 (upd (upd (upd (upd (upd (upd (env0 [a0]) 2 v0) 6 v3) 3 x8.1) 11 v11) 12 v27) 12 v29) x9.2))

theorem c159 (a0 : Value) (H : Heap) : call tbl 159 [a0] H = m159 (call tbl) a0 H :=
  (call_eqM 159 _ H).trans (by kernel_rfl)

/-- cloakroom/mem.Fits -/
noncomputable def m161 (C : Oracle) (a0 a1 a2 : Value) (H : Heap) : Option (Value × Heap) :=
  (movV (.bool false)).bind fun v0 =>
  (movV a0).bind fun v1 =>
  (binV .geq v1 (.int .i64 0)).bind fun v2 =>
  (movV v2).bind fun v3 =>
  (guardV (some (v3, true)) (movV a1)).bind fun v4 =>
  (guardV (some (v3, true)) (movV a0)).bind fun v5 =>
  (guardV (some (v3, true)) (convV .u64 v5)).bind fun v6 =>
  (guardV (some (v3, true)) (binV .leq v4 v6)).bind fun v7 =>
  (pickV v3 v7 (.bool false)).bind fun v8 =>
  (movV v8).bind fun v9 =>
  (guardV (some (v9, true)) (movV a2)).bind fun v10 =>
  (guardV (some (v9, true)) (movV a0)).bind fun v11 =>
  (guardV (some (v9, true)) (convV .u64 v11)).bind fun v12 =>
  (guardV (some (v9, true)) (movV a1)).bind fun v13 =>
  (guardV (some (v9, true)) (binV .sub v12 v13)).bind fun v14 =>
  (guardV (some (v9, true)) (binV .leq v10 v14)).bind fun v15 =>
  (pickV v9 v15 (.bool false)).bind fun v16 =>
  (movV v16).bind fun v17 =>
  some (v17, H)

theorem c161 (a0 a1 a2 : Value) (H : Heap) : call tbl 161 [a0, a1, a2] H = m161 (call tbl) a0 a1 a2 H :=
  (call_eqM 161 _ H).trans (by kernel_rfl)

/-- cloakroom/link.Make -/
noncomputable def m55 (C : Oracle) (a0 : Value) (H : Heap) : Option (Value × Heap) :=
  (newV (fun b => boxV 13 a0 b) H).bind fun x0 =>
  (movV (.pointer none)).bind fun v1 =>
  (movV (.int .i64 0)).bind fun v2 =>
  (ldV true 13 x0.1 x0.2).bind fun v3 =>
  (C 90 [v3] x0.2).bind fun x4 =>
  (movV x4.1).bind fun v5 =>
  (extV v5 0).bind fun v6 =>
  (extV v5 1).bind fun v7 =>
  (movV v6).bind fun v8 =>
  (movV v7).bind fun v9 =>
  (movV v9).bind fun v10 =>
  (binV .neq v10 (.int .i64 0)).bind fun v11 =>
  ifK v11 (
    (movV v9).bind fun v12 =>
    (movV (.pointer none)).bind fun v13 =>
    (movV v12).bind fun v14 =>
    some (.tuple #[v13, v14], x4.2)) (
    (movV v8).bind fun v15 =>
    (buildV [(.pointer none), (.int .i64 0)] [(0, 1, v15), (1, 1, (.int .i64 0))]).bind fun v16 =>
    (newV (fun b => boxV 2 v16 b) x4.2).bind fun x17 =>
    (movV x17.1).bind fun v18 =>
    (faddrV 8 x0.1).bind fun v19 =>
    (ldV false 1 v19 x17.2).bind fun v20 =>
    (lenV v20).bind fun v21 =>
    (movV (.int .i64 0)).bind fun v22 =>
    bindL (loopL (fun e23 h24 =>
        (binV .lss (e23 25) (e23 24)).bind fun v25 =>
        ifK v25 (
          (movV (e23 25)).bind fun v26 =>
          (iaddrV 5 (e23 23) (e23 25)).bind fun v27 =>
          (ldV true 5 v27 h24).bind fun v28 =>
          (newV (fun b => some (ptrTo b, .cells 5 false [(.int .u8 0), (.int .u8 0), (.int .u32 0), (.slice none 0 0), (.slice none 0 0)])) h24).bind fun x29 =>
          (movV v26).bind fun v30 =>
          (stX 5 x29.1 v28 x29.2).bind fun x31 =>
          (movV (e23 6)).bind fun v32 =>
          (movV v30).bind fun v33 =>
          (ldV true 5 x29.1 x31.2).bind fun v34 =>
          (C 91 [v32, v33, v34] x31.2).bind fun x35 =>
          (binV .add (e23 25) (.int .i64 1)).bind fun v36 =>
          (movV v36).bind fun v37 =>
          some (.normal, (upd (upd (upd (upd e23 26 v25) 8 x29.1) 7 v30) 25 v37), x35.2)) (
          some (.exit 0, (upd e23 26 v25), h24))) (upd (upd (upd (upd (upd (upd (upd (upd (upd (upd (env0 [a0]) 1 x0.1) 2 v1) 3 v2) 4 v8) 5 v9) 17 v11) 6 v18) 23 v20) 24 v21) 25 v22) x17.2)
      (fun i38 e39 h40 =>
        if i38 = 0 then (
          (faddrV 12 (e39 1)).bind fun v43 =>
          (ldV false 1 v43 h40).bind fun v44 =>
          (lenV v44).bind fun v45 =>
          (movV (.int .i64 0)).bind fun v46 =>
          bindL (loopL (fun e47 h48 =>
              (binV .lss (e47 38) (e47 37)).bind fun v49 =>
              ifK v49 (
                (movV (e47 38)).bind fun v50 =>
                (iaddrV 3 (e47 36) (e47 38)).bind fun v51 =>
                (ldV true 3 v51 h48).bind fun v52 =>
                (newV (fun b => some (ptrTo b, .cells 3 false [(.int .u8 0), (.slice none 0 0), (.slice none 0 0)])) h48).bind fun x53 =>
                (movV v50).bind fun v54 =>
                (stX 3 x53.1 v52 x53.2).bind fun x55 =>
                (movV (e47 6)).bind fun v56 =>
                (movV v54).bind fun v57 =>
                (ldV true 3 x53.1 x55.2).bind fun v58 =>
                (C 92 [v56, v57, v58] x55.2).bind fun x59 =>
                (binV .add (e47 38) (.int .i64 1)).bind fun v60 =>
                (movV v60).bind fun v61 =>
                some (.normal, (upd (upd (upd (upd e47 39 v49) 10 x53.1) 9 v54) 38 v61), x59.2)) (
                some (.exit 2, (upd e47 39 v49), h48))) (upd (upd (upd e39 36 v44) 37 v45) 38 v46) h40)
            (fun i62 e63 h64 =>
              if i62 = 2 then (
                (movV (e63 6)).bind fun v67 =>
                (C 93 [v67] h64).bind fun x68 =>
                (movV (e63 6)).bind fun v69 =>
                (nilchk v69).bind fun v70 =>
                (faddrV 1 v70).bind fun v71 =>
                (ldV false 1 v71 x68.2).bind fun v72 =>
                (binV .neq v72 (.int .i64 0)).bind fun v73 =>
                ifK v73 (
                  (movV (e63 6)).bind fun v74 =>
                  (nilchk v74).bind fun v75 =>
                  (faddrV 1 v75).bind fun v76 =>
                  (ldV false 1 v76 x68.2).bind fun v77 =>
                  (movV (.pointer none)).bind fun v78 =>
                  (movV v77).bind fun v79 =>
                  some (.tuple #[v78, v79], x68.2)) (
                  (movV (e63 4)).bind fun v80 =>
                  (movV v80).bind fun v81 =>
                  (movV (.int .i64 0)).bind fun v82 =>
                  some (.tuple #[v81, v82], x68.2))) else (
                none))
            (fun e65 h66 =>
              some (.tuple #[(e65 2), (e65 3)], h66))) else (
          none))
      (fun e41 h42 =>
        some (.tuple #[(e41 2), (e41 3)], h42)))

theorem c55 (a0 : Value) (H : Heap) : call tbl 55 [a0] H = m55 (call tbl) a0 H :=
  (call_eqM 55 _ H).trans (by kernel_rfl)

/-- (*cloakroom/link.maker).elem -/
noncomputable def m91 (C : Oracle) (a0 a1 a2 : Value) (H : Heap) : Option (Value × Heap) :=
  (newV (fun b => boxV 5 a2 b) H).bind fun x0 =>
  (movV a0).bind fun v1 =>
  (nilchk v1).bind fun v2 =>
  (faddrV 1 v2).bind fun v3 =>
  (ldV false 1 v3 x0.2).bind fun v4 =>
  (binV .neq v4 (.int .i64 0)).bind fun v5 =>
  (movV v5).bind fun v6 =>
  (guardV (some (v6, false)) (faddrV 0 x0.1)).bind fun v7 =>
  (guardV (some (v6, false)) (ldV false 1 v7 x0.2)).bind fun v8 =>
  (guardV (some (v6, false)) (binV .eql v8 (.int .u8 1))).bind fun v9 =>
  (pickV v6 (.bool true) v9).bind fun v10 =>
  ifK v10 (
    some (.tuple #[], x0.2)) (
    have j11 := fun (e12 : Env) (h13 : Heap) =>
      (movV (e12 0)).bind fun v14 =>
      (nilchk v14).bind fun v15 =>
      (faddrV 0 v15).bind fun v16 =>
      (ldV false 1 v16 h13).bind fun v17 =>
      (nilchk v17).bind fun v18 =>
      (faddrV 17 v18).bind fun v19 =>
      (ldV false 1 v19 h13).bind fun v20 =>
      (movV (e12 1)).bind fun v21 =>
      (iaddrV 1 v20 v21).bind fun v22 =>
      (stX 1 v22 (.bool true) h13).bind fun x23 =>
      some (.tuple #[], x23.2)
    (faddrV 0 x0.1).bind fun v24 =>
    (ldV false 1 v24 x0.2).bind fun v25 =>
    (binV .eql v25 (.int .u8 0)).bind fun v26 =>
    ifK v26 (
      (movV (.slice none 0 0)).bind fun v27 =>
      (faddrV 4 x0.1).bind fun v28 =>
      (ldV false 1 v28 x0.2).bind fun v29 =>
      (lenV v29).bind fun v30 =>
      (movV (.int .i64 0)).bind fun v31 =>
      bindL (loopL (fun e32 h33 =>
          (binV .lss (e32 26) (e32 25)).bind fun v34 =>
          ifK v34 (
            (iaddrV 1 (e32 24) (e32 26)).bind fun v35 =>
            (ldV false 1 v35 h33).bind fun v36 =>
            (movV v36).bind fun v37 =>
            (movV (e32 6)).bind fun v38 =>
            (movV v37).bind fun v39 =>
            (C 159 [v39] h33).bind fun x40 =>
            (newV (fun b => bsliceV 1 1 [(.int .u64 0)] [(0, 1, x40.1)] b) x40.2).bind fun x41 =>
            (appendV 1 8 v38 x41.1 x41.2).bind fun x42 =>
            (movV x42.1).bind fun v43 =>
            (binV .add (e32 26) (.int .i64 1)).bind fun v44 =>
            (movV v44).bind fun v45 =>
            some (.normal, (upd (upd (upd (upd e32 27 v34) 8 v37) 6 v43) 26 v45), x42.2)) (
            some (.exit 0, (upd e32 27 v34), h33))) (upd (upd (upd (upd (upd (upd (upd (env0 [a0, a1, a2]) 5 x0.1) 19 v10) 22 v26) 6 v27) 24 v29) 25 v30) 26 v31) x0.2)
        (fun i46 e47 h48 =>
          if i46 = 0 then (
            (movV (.slice none 0 0)).bind fun v51 =>
            have j52 := fun (e53 : Env) (h54 : Heap) =>
              (movV (e53 0)).bind fun v55 =>
              (movV (e53 9)).bind fun v56 =>
              (movV (e53 6)).bind fun v57 =>
              (faddrV 3 (e53 5)).bind fun v58 =>
              (ldV false 1 v58 h54).bind fun v59 =>
              (C 159 [v59] h54).bind fun x60 =>
              (movV (e53 6)).bind fun v61 =>
              (lenV v61).bind fun v62 =>
              (convV .u64 v62).bind fun v63 =>
              (C 160 [v56, v57, x60.1, (.int .u64 0), v63] x60.2).bind fun x64 =>
              (nilchk v55).bind fun v65 =>
              (faddrV 1 v65).bind fun v66 =>
              (stX 1 v66 x64.1 x64.2).bind fun x67 =>
              j11 e53 x67.2
            (faddrV 2 (e47 5)).bind fun v68 =>
            (ldV false 1 v68 h48).bind fun v69 =>
            (convV .u64 v69).bind fun v70 =>
            (movV (e47 0)).bind fun v71 =>
            (nilchk v71).bind fun v72 =>
            (faddrV 0 v72).bind fun v73 =>
            (ldV false 1 v73 h48).bind fun v74 =>
            (nilchk v74).bind fun v75 =>
            (faddrV 15 v75).bind fun v76 =>
            (ldV false 1 v76 h48).bind fun v77 =>
            (lenV v77).bind fun v78 =>
            (convV .u64 v78).bind fun v79 =>
            (binV .lss v70 v79).bind fun v80 =>
            ifK v80 (
              (movV (e47 0)).bind fun v81 =>
              (nilchk v81).bind fun v82 =>
              (faddrV 0 v82).bind fun v83 =>
              (ldV false 1 v83 h48).bind fun v84 =>
              (nilchk v84).bind fun v85 =>
              (faddrV 15 v85).bind fun v86 =>
              (ldV false 1 v86 h48).bind fun v87 =>
              (faddrV 2 (e47 5)).bind fun v88 =>
              (ldV false 1 v88 h48).bind fun v89 =>
              (iaddrV 1 v87 v89).bind fun v90 =>
              (ldV false 1 v90 h48).bind fun v91 =>
              (movV v91).bind fun v92 =>
              j52 (upd (upd (upd e47 9 v51) 48 v80) 9 v92) h48) (
              j52 (upd (upd e47 9 v51) 48 v80) h48)) else (
            none))
        (fun e49 h50 =>
          some (.tuple #[], h50))) (
      j11 (upd (upd (upd (env0 [a0, a1, a2]) 5 x0.1) 19 v10) 22 v26) x0.2))

theorem c91 (a0 a1 a2 : Value) (H : Heap) : call tbl 91 [a0, a1, a2] H = m91 (call tbl) a0 a1 a2 H :=
  (call_eqM 91 _ H).trans (by kernel_rfl)

/-- (*cloakroom/link.maker).data -/
noncomputable def m92 (C : Oracle) (a0 a1 a2 : Value) (H : Heap) : Option (Value × Heap) :=
  (newV (fun b => boxV 3 a2 b) H).bind fun x0 =>
  (movV a0).bind fun v1 =>
  (nilchk v1).bind fun v2 =>
  (faddrV 1 v2).bind fun v3 =>
  (ldV false 1 v3 x0.2).bind fun v4 =>
  (binV .neq v4 (.int .i64 0)).bind fun v5 =>
  (movV v5).bind fun v6 =>
  (guardV (some (v6, false)) (faddrV 0 x0.1)).bind fun v7 =>
  (guardV (some (v6, false)) (ldV false 1 v7 x0.2)).bind fun v8 =>
  (guardV (some (v6, false)) (binV .neq v8 (.int .u8 0))).bind fun v9 =>
  (pickV v6 (.bool true) v9).bind fun v10 =>
  ifK v10 (
    some (.tuple #[], x0.2)) (
    (faddrV 1 x0.1).bind fun v11 =>
    (ldV false 1 v11 x0.2).bind fun v12 =>
    (C 159 [v12] x0.2).bind fun x13 =>
    (convV .u32 x13.1).bind fun v14 =>
    (convV .u64 v14).bind fun v15 =>
    (movV v15).bind fun v16 =>
    (movV a0).bind fun v17 =>
    (nilchk v17).bind fun v18 =>
    (faddrV 0 v18).bind fun v19 =>
    (ldV false 1 v19 x13.2).bind fun v20 =>
    (nilchk v20).bind fun v21 =>
    (faddrV 14 v21).bind fun v22 =>
    (ldV false 1 v22 x13.2).bind fun v23 =>
    (lenV v23).bind fun v24 =>
    (movV v16).bind fun v25 =>
    (faddrV 2 x0.1).bind fun v26 =>
    (ldV false 1 v26 x13.2).bind fun v27 =>
    (lenV v27).bind fun v28 =>
    (convV .u64 v28).bind fun v29 =>
    (C 161 [v24, v25, v29] x13.2).bind fun x30 =>
    (unV .not x30.1).bind fun v31 =>
    ifK v31 (
      (movV a0).bind fun v32 =>
      (nilchk v32).bind fun v33 =>
      (faddrV 1 v33).bind fun v34 =>
      (stX 1 v34 (.int .i64 7) x30.2).bind fun x35 =>
      some (.tuple #[], x35.2)) (
      (movV a0).bind fun v36 =>
      (nilchk v36).bind fun v37 =>
      (faddrV 0 v37).bind fun v38 =>
      (ldV false 1 v38 x30.2).bind fun v39 =>
      (nilchk v39).bind fun v40 =>
      (faddrV 14 v40).bind fun v41 =>
      (ldV false 1 v41 x30.2).bind fun v42 =>
      (movV v16).bind fun v43 =>
      (sliceV 1 v42 (some v43) none x30.2).bind fun v44 =>
      (faddrV 2 x0.1).bind fun v45 =>
      (ldV false 1 v45 x30.2).bind fun v46 =>
      (copyV 1 v44 v46 x30.2).bind fun x47 =>
      (movV a0).bind fun v48 =>
      (nilchk v48).bind fun v49 =>
      (faddrV 0 v49).bind fun v50 =>
      (ldV false 1 v50 x47.2).bind fun v51 =>
      (nilchk v51).bind fun v52 =>
      (faddrV 18 v52).bind fun v53 =>
      (ldV false 1 v53 x47.2).bind fun v54 =>
      (movV a1).bind fun v55 =>
      (iaddrV 1 v54 v55).bind fun v56 =>
      (stX 1 v56 (.bool true) x47.2).bind fun x57 =>
      some (.tuple #[], x57.2)))

theorem c92 (a0 a1 a2 : Value) (H : Heap) : call tbl 92 [a0, a1, a2] H = m92 (call tbl) a0 a1 a2 H :=
  (call_eqM 92 _ H).trans (by kernel_rfl)

/-- (*cloakroom/link.maker).starts -/
noncomputable def m93 (C : Oracle) (a0 : Value) (H : Heap) : Option (Value × Heap) :=
  (movV a0).bind fun v0 =>
  (nilchk v0).bind fun v1 =>
  (faddrV 1 v1).bind fun v2 =>
  (ldV false 1 v2 H).bind fun v3 =>
  (binV .eql v3 (.int .i64 0)).bind fun v4 =>
  (movV v4).bind fun v5 =>
  (guardV (some (v5, true)) (movV a0)).bind fun v6 =>
  (guardV (some (v5, true)) (nilchk v6)).bind fun v7 =>
  (guardV (some (v5, true)) (faddrV 0 v7)).bind fun v8 =>
  (guardV (some (v5, true)) (ldV false 1 v8 H)).bind fun v9 =>
  (guardV (some (v5, true)) (nilchk v9)).bind fun v10 =>
  (guardV (some (v5, true)) (faddrV 0 v10)).bind fun v11 =>
  (guardV (some (v5, true)) (faddrV 6 v11)).bind fun v12 =>
  (guardV (some (v5, true)) (ldV false 1 v12 H)).bind fun v13 =>
  (pickV v5 v13 (.bool false)).bind fun v14 =>
  ifK v14 (
    (movV a0).bind fun v15 =>
    (movV a0).bind fun v16 =>
    (nilchk v16).bind fun v17 =>
    (faddrV 0 v17).bind fun v18 =>
    (ldV false 1 v18 H).bind fun v19 =>
    (movV a0).bind fun v20 =>
    (nilchk v20).bind fun v21 =>
    (faddrV 0 v21).bind fun v22 =>
    (ldV false 1 v22 H).bind fun v23 =>
    (nilchk v23).bind fun v24 =>
    (faddrV 0 v24).bind fun v25 =>
    (faddrV 7 v25).bind fun v26 =>
    (ldV false 1 v26 H).bind fun v27 =>
    (C 34 [v19, v27, (.int .i64 1000), (.slice none 0 0)] H).bind fun x28 =>
    (fieldV false 3 1 x28.1).bind fun v29 =>
    (nilchk v15).bind fun v30 =>
    (faddrV 1 v30).bind fun v31 =>
    (stX 1 v31 v29 x28.2).bind fun x32 =>
    some (.tuple #[], x32.2)) (
    some (.tuple #[], H))

theorem c93 (a0 : Value) (H : Heap) : call tbl 93 [a0] H = m93 (call tbl) a0 H :=
  (call_eqM 93 _ H).trans (by kernel_rfl)

/-- cloakroom/table.Copy -/
noncomputable def m160 (C : Oracle) (a0 a1 a2 a3 a4 : Value) (H : Heap) : Option (Value × Heap) :=
  (movV (.int .i64 0)).bind fun v0 =>
  (movV a2).bind fun v1 =>
  (binV .and v1 (.int .u64 4294967295)).bind fun v2 =>
  (movV a3).bind fun v3 =>
  (binV .and v3 (.int .u64 4294967295)).bind fun v4 =>
  (movV a4).bind fun v5 =>
  (binV .and v5 (.int .u64 4294967295)).bind fun v6 =>
  (movV v2).bind fun v7 =>
  (movV v4).bind fun v8 =>
  (movV v6).bind fun v9 =>
  (movV a0).bind fun v10 =>
  (movV v7).bind fun v11 =>
  (movV v9).bind fun v12 =>
  (C 172 [v10, v11, v12] H).bind fun x13 =>
  (unV .not x13.1).bind fun v14 =>
  (movV v14).bind fun v15 =>
  (guardV (some (v15, false)) (movV a1)).bind fun v16 =>
  (guardV (some (v15, false)) (movV v8)).bind fun v17 =>
  (guardV (some (v15, false)) (movV v9)).bind fun v18 =>
  (guardH (some (v15, false)) (C 172 [v16, v17, v18] x13.2) x13.2).bind fun x19 =>
  (guardV (some (v15, false)) (unV .not x19.1)).bind fun v20 =>
  (pickV v15 (.bool true) v20).bind fun v21 =>
  ifK v21 (
    (movV (.int .i64 7)).bind fun v22 =>
    some (v22, x19.2)) (
    (movV a0).bind fun v23 =>
    (movV v7).bind fun v24 =>
    (movV v7).bind fun v25 =>
    (movV v9).bind fun v26 =>
    (binV .add v25 v26).bind fun v27 =>
    (sliceV 1 v23 (some v24) (some v27) x19.2).bind fun v28 =>
    (movV a1).bind fun v29 =>
    (movV v8).bind fun v30 =>
    (movV v8).bind fun v31 =>
    (movV v9).bind fun v32 =>
    (binV .add v31 v32).bind fun v33 =>
    (sliceV 1 v29 (some v30) (some v33) x19.2).bind fun v34 =>
    (copyV 1 v28 v34 x19.2).bind fun x35 =>
    (movV (.int .i64 0)).bind fun v36 =>
    some (v36, x35.2))

theorem c160 (a0 a1 a2 a3 a4 : Value) (H : Heap) : call tbl 160 [a0, a1, a2, a3, a4] H = m160 (call tbl) a0 a1 a2 a3 a4 H :=
  (call_eqM 160 _ H).trans (by kernel_rfl)

/-- (cloakroom/table.row).fits -/
noncomputable def m172 (C : Oracle) (a0 a1 a2 : Value) (H : Heap) : Option (Value × Heap) :=
  (movV (.bool false)).bind fun v0 =>
  (movV a1).bind fun v1 =>
  (movV a0).bind fun v2 =>
  (lenV v2).bind fun v3 =>
  (convV .u64 v3).bind fun v4 =>
  (binV .leq v1 v4).bind fun v5 =>
  (movV v5).bind fun v6 =>
  (guardV (some (v6, true)) (movV a2)).bind fun v7 =>
  (guardV (some (v6, true)) (movV a0)).bind fun v8 =>
  (guardV (some (v6, true)) (lenV v8)).bind fun v9 =>
  (guardV (some (v6, true)) (convV .u64 v9)).bind fun v10 =>
  (guardV (some (v6, true)) (movV a1)).bind fun v11 =>
  (guardV (some (v6, true)) (binV .sub v10 v11)).bind fun v12 =>
  (guardV (some (v6, true)) (binV .leq v7 v12)).bind fun v13 =>
  (pickV v6 v13 (.bool false)).bind fun v14 =>
  (movV v14).bind fun v15 =>
  some (v15, H)

theorem c172 (a0 a1 a2 : Value) (H : Heap) : call tbl 172 [a0, a1, a2] H = m172 (call tbl) a0 a1 a2 H :=
  (call_eqM 172 _ H).trans (by kernel_rfl)

end Ck

/-
Where blocks end: the program's walk in memory.
-/
set_option linter.unusedSimpArgs false
set_option linter.unusedVariables false
namespace Ck
open Go

variable {H : Heap} {h0 : BF} {pw r : Nat} {l : List Ins} {w : Wk} {O : List Nat}

def PostW (H : Heap) (h0 : BF) (pw r : Nat) (l : List Ins) (O : List Nat) (w : Wk) (H' : Heap) : Prop :=
  ∃ O', WkH H' h0 pw r l w O' ∧ Up H O H' ∧ (∀ b, b ∈ O' → b ∈ O ∨ H.next ≤ b)

theorem bslice1 (e : Nat) (z c : List Value) (x : Value) (b : Nat) (hz : z.length = e) (hc : x.cells.toList = c) (hl : c.length = e) (hf : c.all flat = true) : bsliceV e 1 z [(0, e, x)] b = some (.slice (some ⟨b, 0, none⟩) 1 1, .cells e false c) := by
  have hs : x.cells.size = e := by rw [← hl, ← hc]; simp
  have hz1 : zerosV z 1 = z := by simp [zerosV]
  simp only [bsliceV, hz1, fillV]
  rw [if_pos ⟨hs, by omega⟩]
  simp only [splice, List.take_zero, List.nil_append, hc, Option.bind_some]
  rw [List.drop_eq_nil_of_le (by omega), List.append_nil, if_pos hf]

theorem WkH.le' (h : WkH H h0 pw r l w O) {H' : Heap} (hu : Up H O H') : BF.le h0 H'.blk := fun b x hb => by
  rw [hu.eq b (h.wi _ _ (h.le b x hb)) fun hh => by rw [h.hO b hh] at hb; simp at hb]
  exact h.le b x hb

theorem wpush_ok (h : WkH H h0 pw r l w O) (a : Int) (hb : w.st.length ≤ 2 ^ 30) : Wp (call tbl 284 [pt pw 0, i64 a] H) fun q => q.1 = .tuple #[] ∧ PostW H h0 pw r l O { w with st := w.st ++ [a] } q.2 := by
  refine Wp.via fun Q hQ => ?_
  have h' := h
  obtain ⟨⟨vs, vl, Os, h1, h2, h3, h4, rfl⟩, ho, hle, hO, hw⟩ := h
  have hnd := ho.1
  have hlt := ho.2
  simp only [List.nodup_cons, List.mem_cons, not_or] at hnd
  obtain ⟨H1, e0, e1, b3, u1, k1⟩ := newV_ok (H := H) (v := .slice (some ⟨H.next, 0, none⟩) 1 1) (f := fun b => bsliceV 1 1 [(.int .i64 0)] [(0, 1, i64 a)] b) (bslice1 1 _ [i64 a] _ _ rfl rfl rfl rfl)
  have hos : OSl H1.blk 1 vs (w.st.map i64) Os := h2.keep fun b hb => k1 b (hlt b (by simp [hb]))
  have hrow : Row H1.blk 1 (.slice (some ⟨H.next, 0, none⟩) 1 1) 1 [i64 a] := ⟨rfl, .inr ⟨H.next, 0, 1, false, _, rfl, b3, by simp, by simp⟩⟩
  obtain ⟨v', H', O', f1, f2, f3, f4, f5, -⟩ := hos.append (byt := 8) (n := w.st.length) (by decide) (by simp) hrow (by omega) (fun b hb => by have := hlt b (by simp [hb]); omega)
  have hpw : pw < H.next := hlt pw (by simp)
  have hr : r < H.next := hlt r (by simp)
  have c1 : H'.blk pw = some (.cells 4 false [vs, vl, .map (some r), i64 w.dep]) := by rw [f4.eq pw (by omega) hnd.1.2, k1 _ hpw]; exact h1
  have c2 : H'.blk r = some (.map (ent w.out)) := by rw [f4.eq r (by omega) hnd.2.1, k1 _ hr]; exact h3
  have u2 : Up H (pw :: r :: Os) H' := (u1.mono (by simp)).trans f4 fun b hb => by simp [hb]
  have hle' := h'.le' u2
  rw [c284]
  simp -implicitDefEqProofs [m284, ld_of h1, e0, f1, stX_val c1, f2.flat]
  apply hQ
  have hpO : ∀ b, b ∈ O' → b ≠ pw ∧ b ≠ r ∧ h0 b = none := fun b hb => by
    rcases f5 b hb with h | h
    · exact ⟨fun e => hnd.1.2 (e ▸ h), fun e => hnd.2.1 (e ▸ h), hO b (by simp [h])⟩
    · refine ⟨by omega, by omega, ?_⟩
      cases hx : h0 b with
      | none => rfl
      | some x => have := hw _ _ (hle b x hx); omega
  refine ⟨rfl, pw :: r :: O', ⟨⟨v', vl, O', set_same _ _ _, ?_, ?_, h4, rfl⟩, ⟨?_, ?_⟩, ?_, ?_, ?_⟩, ?_, ?_⟩
  · rw [List.map_append]
    exact f2.keep fun b hb => set_other (hpO b hb).1
  · rw [set_other (fun e => hnd.1.1 e.symm)]; exact c2
  · simp only [List.nodup_cons, List.mem_cons, not_or]
    exact ⟨⟨hnd.1.1, fun hh => (hpO pw hh).1 rfl⟩, fun hh => (hpO r hh).2.1 rfl, f3.1⟩
  · intro b hb
    simp only [List.mem_cons] at hb
    have := u2.le
    rcases hb with rfl | rfl | hb
    · simp; omega
    · simp; omega
    · exact f3.2 b hb
  · intro b x hb
    rw [set_other fun e => by subst e; rw [hO b (by simp)] at hb; simp at hb]
    exact hle' b x hb
  · intro b hb
    simp only [List.mem_cons] at hb
    rcases hb with rfl | rfl | hb
    · exact hO _ (by simp)
    · exact hO _ (by simp)
    · exact (hpO b hb).2.2
  · exact within_set (u2.wi hw) _ (by have := u2.le; omega)
  · exact u2.trans (up_set (O := [pw]) (by simp) (by have := u2.le; omega)) fun b hb => by simp at hb; simp [hb]
  · intro b hb
    simp only [List.mem_cons] at hb ⊢
    rcases hb with rfl | rfl | hb
    · simp
    · simp
    · rcases f5 b hb with h | h
      · simp [h]
      · omega

theorem Row.last {H : Heap} {v : Value} {n : Nat} {cs : List Value} (hr : Row H.blk 1 v (n + 1) cs) {m : Nat} : ∃ o, iaddrV 1 v (i64 (n : Int)) = some (pt (slB v) o) ∧ ldV false m (pt (slB v) o) H = cs[n]? := by
  refine ⟨slO v + n, ?_, hr.ld (by omega)⟩
  have := hr.iaddr (k := .i64) (i := (n : Int)) (by omega) (by omega)
  simpa using this

theorem wtop_ok (h : WkH H h0 pw r l w O) (hb : w.st.length ≤ 2 ^ 30) : call tbl 287 [pt pw 0] H = some (match w.st.getLast? with
      | none => .tuple #[i64 0, .bool false]
      | some k => .tuple #[i64 k, .bool true], H) := by
  obtain ⟨⟨vs, vl, Os, h1, h2, h3, h4, rfl⟩, ho, hle, hO, hw⟩ := h
  have hlen := h2.lenV (n := w.st.length) (by decide) (by simp)
  rw [c287]
  rcases List.eq_nil_or_concat w.st with hs | ⟨s, k, hs⟩
  · rw [hs] at hlen ⊢
    simp only [List.length_nil] at hlen
    have hlen : lenV vs = some (i64 0) := hlen
    simp -implicitDefEqProofs [m287, ld_of h1, hlen]
  · have hs' : w.st = s ++ [k] := by simpa using hs
    rw [hs'] at hlen h2 hb ⊢
    have hrow : Row H.blk 1 vs (s.length + 1) ((s ++ [k]).map i64) := by have := h2.toRow; simpa using this
    obtain ⟨o, q1, q2⟩ := hrow.last (m := 1)
    have hcs : ((s ++ [k]).map i64)[s.length]? = some (i64 k) := by simp
    rw [hcs] at q2
    have hlen : lenV vs = some (i64 ((s.length : Int) + 1)) := by simpa using hlen
    have hs1 : binV .sub (i64 ((s.length : Int) + 1)) (i64 1) = some (i64 s.length) := by rw [sub_i64 (by simp at hb; omega)]; congr 2; omega
    have hne : ¬ ((s.length : Int) + 1 = 0) := by omega
    simp only [pt, ldV_ptr] at q1 q2
    simp -implicitDefEqProofs [m287, ld_of h1, hlen, hs1, hne, q1, q2]

theorem wpop_ok (h : WkH H h0 pw r l w O) (hb : w.st.length ≤ 2 ^ 30) : Wp (call tbl 288 [pt pw 0] H) fun q => match w.st.getLast? with
      | none => q = (.tuple #[i64 0, .bool false], H)
      | some k => q.1 = .tuple #[i64 k, .bool true] ∧ PostW H h0 pw r l O { w with st := w.st.dropLast } q.2 := by
  refine Wp.via fun Q hQ => ?_
  have h' := h
  obtain ⟨⟨vs, vl, Os, h1, h2, h3, h4, rfl⟩, ho, hle, hO, hw⟩ := h
  have hnd := ho.1
  have hlt := ho.2
  simp only [List.nodup_cons, List.mem_cons, not_or] at hnd
  have hpw : pw < H.next := hlt pw (by simp)
  have hlen := h2.lenV (n := w.st.length) (by decide) (by simp)
  rw [c288]
  rcases List.eq_nil_or_concat w.st with hs | ⟨s, k, hs⟩
  · rw [hs] at hlen hQ
    simp only [List.length_nil] at hlen
    have hlen : lenV vs = some (i64 0) := hlen
    have hs1 : binV .sub (i64 0) (i64 1) = some (i64 (-1)) := by rw [sub_i64 (by omega)]; rfl
    simp -implicitDefEqProofs [m288, ld_of h1, hlen, hs1]
    exact hQ _ rfl
  · have hs' : w.st = s ++ [k] := by simpa using hs
    rw [hs'] at hlen h2 hb hQ
    have hrow : Row H.blk 1 vs (s.length + 1) ((s ++ [k]).map i64) := by have := h2.toRow; simpa using this
    obtain ⟨o, q1, q2⟩ := hrow.last (m := 1)
    have hcs : ((s ++ [k]).map i64)[s.length]? = some (i64 k) := by simp
    rw [hcs] at q2
    have hlen : lenV vs = some (i64 ((s.length : Int) + 1)) := by simpa using hlen
    have hs1 : binV .sub (i64 ((s.length : Int) + 1)) (i64 1) = some (i64 s.length) := by rw [sub_i64 (by simp at hb; omega)]; congr 2; omega
    have hne : ¬ ((s.length : Int) < 0) := by omega
    obtain ⟨v3, f1, f2⟩ := h2.take (k := s.length) (kk := .i64) (by decide) (by simp)
    have f2 : OSl H.blk 1 v3 (s.map i64) Os := by simpa using f2
    simp only [pt, ldV_ptr] at q1 q2
    simp -implicitDefEqProofs [m288, ld_of h1, hlen, hs1, hne, q1, q2, f1, stX_val h1, f2.flat]
    simp only [List.getLast?_concat, List.dropLast_concat] at hQ
    apply hQ
    refine ⟨rfl, pw :: r :: Os, ⟨⟨v3, vl, Os, set_same _ _ _, ?_, ?_, h4, rfl⟩, ⟨ho.1, ho.2⟩, ?_, hO, within_set hw _ hpw⟩, up_set (by simp) hpw, fun b hb => .inl hb⟩
    · exact f2.keep fun b hb => set_other fun e => hnd.1.2 (e ▸ hb)
    · rw [set_other (fun e => hnd.1.1 e.symm)]; exact h3
    · intro b x hb
      rw [set_other fun e => by subst e; rw [hO b (by simp)] at hb; simp at hb]
      exact hle b x hb

end Ck

/-
Where blocks end: an instruction's note.
-/
set_option linter.unusedSimpArgs false
set_option linter.unusedVariables false
namespace Ck
open Go

variable {H : Heap} {h0 : BF} {pw r : Nat} {l : List Ins} {w : Wk} {O : List Nat}

theorem lookup_ent {H : Heap} {r : Nat} {out : List (Int × Int × Int)} (h : H.blk r = some (.map (ent out))) (k : Int) :
    lookupV .int (.agg #[i64 0, i64 0]) false (.map (some r)) (i64 k) H = some (.agg #[i64 ((P.findB k out).getD (0, 0)).1, i64 ((P.findB k out).getD (0, 0)).2]) := by
  simp only [lookupV, findV, h, keyEq, if_true, Option.bind_some, find_ent, Option.map_some]
  cases P.findB k out <;> rfl

theorem lookup_ent2 {H : Heap} {r : Nat} {out : List (Int × Int × Int)} (h : H.blk r = some (.map (ent out))) (k : Int) :
    lookupV .int (.agg #[i64 0, i64 0]) true (.map (some r)) (i64 k) H = some (match P.findB k out with
      | none => .tuple #[.agg #[i64 0, i64 0], .bool false]
      | some b => .tuple #[.agg #[i64 b.1, i64 b.2], .bool true]) := by
  simp only [lookupV, findV, h, keyEq, if_true, Option.bind_some, find_ent, Option.map_some]
  cases P.findB k out <;> rfl

theorem mapupd_ent {H : Heap} {r : Nat} {out : List (Int × Int × Int)} (h : H.blk r = some (.map (ent out))) (k a b : Int) :
    mapupdX .int (.map (some r)) (i64 k) (.agg #[i64 a, i64 b]) H = some (undef, H.set r (some (.map (ent (P.putB k (a, b) out))))) := by
  simp only [mapupdX, mapupdV, h, keyEq, if_true, Option.bind_some, put_ent, Option.map_some]

theorem wput (h : WkH H h0 pw r l w O) (out : List (Int × Int × Int)) : PostW H h0 pw r l O { w with out := out } (H.set r (some (.map (ent out)))) := by
  obtain ⟨⟨vs, vl, Os, h1, h2, h3, h4, rfl⟩, ho, hle, hO, hw⟩ := h
  have hnd := ho.1
  simp only [List.nodup_cons, List.mem_cons, not_or] at hnd
  have hr : r < H.next := ho.2 r (by simp)
  refine ⟨pw :: r :: Os, ⟨⟨vs, vl, Os, ?_, ?_, set_same _ _ _, h4, rfl⟩, ⟨ho.1, ho.2⟩, ?_, hO, within_set hw _ hr⟩, up_set (by simp) hr, fun b hb => .inl hb⟩
  · rw [set_other hnd.1.1]; exact h1
  · exact h2.keep fun b hb => set_other fun e => hnd.2.1 (e ▸ hb)
  · intro b x hb
    rw [set_other fun e => by subst e; rw [hO b (by simp)] at hb; simp at hb]
    exact hle b x hb

theorem PostW.trans {H1 H2 : Heap} {O1 : List Nat} {w2 : Wk} (hu : Up H O H1) (hs : ∀ b, b ∈ O1 → b ∈ O ∨ H.next ≤ b) (h : PostW H1 h0 pw r l O1 w2 H2) : PostW H h0 pw r l O w2 H2 := by
  obtain ⟨O2, h1, h2, h3⟩ := h
  refine ⟨O2, h1, hu.trans h2 hs, fun b hb => ?_⟩
  rcases h3 b hb with h | h
  · exact hs b h
  · exact .inr (Nat.le_trans hu.le h)

theorem half_ok (h : WkH H h0 pw r l w O) (hb : w.st.length ≤ 2 ^ 30) (at_ : Int) (hst : ∀ k, k ∈ w.st → 0 ≤ k ∧ k < l.length) :
    Wp (call tbl 285 [pt pw 0, i64 at_] H) fun q => match w.st.getLast? with
      | none => q = (.bool false, H)
      | some k => match l[k.toNat]? with
        | none => False
        | some y => if y.op ≠ 4 ∨ ((P.findB k w.out).getD (0, 0)).1 ≠ -1 then q = (.bool false, H)
          else q.1 = .bool true ∧ PostW H h0 pw r l O { w with out := P.putB k (at_, 0) w.out } q.2 := by
  refine Wp.via fun Q hQ => ?_
  have h' := h
  obtain ⟨⟨vs, vl, Os, h1, h2, h3, h4, rfl⟩, ho, hle, hO, hw⟩ := h
  have htop := wtop_ok h' hb
  rw [c285]
  cases hs : w.st.getLast? with
  | none =>
    rw [hs] at hQ htop
    simp -implicitDefEqProofs [m285, htop]
    exact hQ _ rfl
  | some k =>
    rw [hs] at hQ htop
    obtain ⟨k0, k1⟩ := hst k (List.mem_of_getLast? hs)
    obtain ⟨y, hy⟩ := get_lt k0 k1
    obtain ⟨o, cs, a1, ⟨l', rfl, r3⟩, -, -, a5⟩ := h4.at_ (k := .i64) hle k0 hy (by decide)
    have a6 := a5 0 1 (by decide)
    simp only [List.getElem?_cons_zero, Nat.add_zero] at a6
    have hlk := lookup_ent h3 k
    have hup := mapupd_ent h3 k at_ 0
    simp only [hy] at hQ
    simp only [pt, ldV_ptr] at a1 a6
    by_cases c1 : y.op = 4
    · by_cases c2 : ((P.findB k w.out).getD (0, 0)).1 = -1
      · simp only [c1, c2, ne_eq, not_true_eq_false, or_self, if_false, not_false_eq_true, or_true, true_or, if_true, or_false, false_or] at hQ
        simp -implicitDefEqProofs [m285, htop, ld_of h1, a1, a6, c1, hlk, fieldV, c2, buildV, fillV, splice, hup]
        exact hQ _ ⟨rfl, wput h' _⟩
      · simp only [c2, ne_eq, not_true_eq_false, or_self, if_false, not_false_eq_true, or_true, true_or, if_true, or_false, false_or] at hQ
        simp -implicitDefEqProofs [m285, htop, ld_of h1, a1, a6, c1, hlk, fieldV, c2]
        exact hQ _ rfl
    · simp only [c1, ne_eq, not_true_eq_false, or_self, if_false, not_false_eq_true, or_true, true_or, if_true, or_false, false_or] at hQ
      simp -implicitDefEqProofs [m285, htop, ld_of h1, a1, a6, c1]
      exact hQ _ rfl

theorem wcloses_ok (h : WkH H h0 pw r l w O) (hb : w.st.length ≤ 2 ^ 30) (hl : l.length ≤ 2 ^ 30) (at_ : Nat) :
    Wp (call tbl 286 [pt pw 0, i64 at_] H) fun q => match w.st.getLast? with
      | none => q = (.bool (decide (at_ + 1 = l.length)), H)
      | some k => q.1 = .bool true ∧ PostW H h0 pw r l O { w with st := w.st.dropLast, out := P.putB k (((P.findB k w.out).getD (0, 0)).1, at_) w.out } q.2 := by
  refine Wp.via fun Q hQ => ?_
  have h' := h
  obtain ⟨⟨vs, vl, Os, h1, h2, h3, h4, rfl⟩, ho, hle, hO, hw⟩ := h
  rw [c286]
  simp -implicitDefEqProofs [m286]
  refine Wp.step (wpop_ok h' hb) ?_
  rintro ⟨v, H1⟩ hp
  cases hs : w.st.getLast? with
  | none =>
    rw [hs] at hQ hp
    simp only [Prod.mk.injEq] at hp
    obtain ⟨rfl, rfl⟩ := hp
    have hsub : binV .sub (i64 l.length) (i64 1) = some (i64 ((l.length : Int) - 1)) := sub_i64 (by omega)
    simp -implicitDefEqProofs [ld_of h1, h4.len, hsub]
    have : decide ((at_ : Int) = (l.length : Int) - 1) = decide (at_ + 1 = l.length) := by
      by_cases e : at_ + 1 = l.length
      · simp [e]; omega
      · simp [e]; omega
    rw [this]
    exact hQ _ rfl
  | some k =>
    rw [hs] at hQ hp
    obtain ⟨rfl, O1, g, u1, s1⟩ := hp
    have g' := g
    obtain ⟨⟨vs1, vl1, Os1, g1, g2, g3, g4, rfl⟩, go, gle, gO, gw⟩ := g
    simp only at g1 g2 g3 g4 g'
    have hlk := lookup_ent g3 k
    have hup := mapupd_ent g3 k ((P.findB k w.out).getD (0, 0)).1 at_
    simp -implicitDefEqProofs [ld_of g1, hlk, fieldV, buildV, fillV, splice, hup]
    exact hQ _ ⟨rfl, PostW.trans u1 s1 (wput g' _)⟩

end Ck
