/-
The code of functions, as the machine runs it.
-/
import Derived.Test.YtgopfpmkbdhnnaaGreatDoorCkTbl
import Derived.Test.YtgopfpmkbdhnnaaGreatDoorCkFix
import Derived.Test.YtgopfpmkbdhnnaaGreatDoorCkSeat
import Derived.Test.YtgopfpmkbdhnnaaGreatDoorCkLim
import Derived.Test.YtgopfpmkbdhnnaaGreatDoorCards
import Derived.SevenTiedAt
import Derived.JoinedOf
set_option maxRecDepth 100000
set_option linter.unusedVariables false
namespace Ck
open Go
/-- cloakroom/cloakroomlaw20.LinkData -/
noncomputable def m18 (C : Oracle) (a0 a1 a2 : Value) (H : Heap) : Option (Value × Heap) :=
  (movV (.bool false)).bind fun v0 =>
  (C 52 [] H).bind fun x1 =>
  (unV .not x1.1).bind fun v2 =>
  ifK v2 (
    (movV (.bool false)).bind fun v3 =>
    some (v3, x1.2)) (
    (movV a0).bind fun v4 =>
    (lenV v4).bind fun v5 =>
    (binV .gtr v5 (.int .i64 60)).bind fun v6 =>
    ifK v6 (
      (movV (.bool true)).bind fun v7 =>
      some (v7, x1.2)) (
      (movV a1).bind fun v8 =>
      (convV .i64 v8).bind fun v9 =>
      (movV a2).bind fun v10 =>
      (convV .i64 v10).bind fun v11 =>
      (binV .add v9 v11).bind fun v12 =>
      (movV v12).bind fun v13 =>
      (C 37 [] x1.2).bind fun x14 =>
      (newV (fun b => some (ptrTo b, .cells 13 false [(.slice none 0 0), (.slice none 0 0), (.slice none 0 0), (.slice none 0 0), (.slice none 0 0), (.slice none 0 0), (.bool false), (.int .u32 0), (.slice none 0 0), (.bool false), (.int .u32 0), (.slice none 0 0), (.slice none 0 0)])) x14.2).bind fun x15 =>
      (stX 13 x15.1 x14.1 x15.2).bind fun x16 =>
      (movV v13).bind fun v17 =>
      (convV .u64 v17).bind fun v18 =>
      (buildV [(.int .i64 0), (.int .u32 0), (.int .u32 0), (.int .u64 0), (.slice none 0 0), (.int .i64 0)] [(0, 1, (.int .i64 65)), (3, 1, v18)]).bind fun v19 =>
      (buildV [(.int .i64 0), (.int .u32 0), (.int .u32 0), (.int .u64 0), (.slice none 0 0), (.int .i64 0)] [(0, 1, (.int .i64 11))]).bind fun v20 =>
      (newV (fun b => bsliceV 6 2 [(.int .i64 0), (.int .u32 0), (.int .u32 0), (.int .u64 0), (.slice none 0 0), (.int .i64 0)] [(0, 6, v19), (6, 6, v20)] b) x16.2).bind fun x21 =>
      (movV a0).bind fun v22 =>
      (buildV [(.int .u8 0), (.slice none 0 0), (.slice none 0 0)] [(1, 1, x21.1), (2, 1, v22)]).bind fun v23 =>
      (newV (fun b => bsliceV 3 1 [(.int .u8 0), (.slice none 0 0), (.slice none 0 0)] [(0, 3, v23)] b) x21.2).bind fun x24 =>
      (faddrV 12 x15.1).bind fun v25 =>
      (stX 1 v25 x24.1 x24.2).bind fun x26 =>
      (ldV true 13 x15.1 x26.2).bind fun v27 =>
      (C 55 [v27] x26.2).bind fun x28 =>
      (movV x28.1).bind fun v29 =>
      (extV v29 0).bind fun v30 =>
      (extV v29 1).bind fun v31 =>
      (movV v30).bind fun v32 =>
      (movV v31).bind fun v33 =>
      (movV v13).bind fun v34 =>
      (movV a0).bind fun v35 =>
      (lenV v35).bind fun v36 =>
      (binV .add v34 v36).bind fun v37 =>
      (binV .gtr v37 (.int .i64 65536)).bind fun v38 =>
      ifK v38 (
        (movV v32).bind fun v39 =>
        (nilV .ptr false v39).bind fun v40 =>
        (movV v40).bind fun v41 =>
        (guardV (some (v41, true)) (movV v33)).bind fun v42 =>
        (guardV (some (v41, true)) (binV .eql v42 (.int .i64 7))).bind fun v43 =>
        (pickV v41 v43 (.bool false)).bind fun v44 =>
        (movV v44).bind fun v45 =>
        some (v45, x28.2)) (
        (movV v33).bind fun v46 =>
        (binV .neq v46 (.int .i64 0)).bind fun v47 =>
        (movV v47).bind fun v48 =>
        (guardV (some (v48, false)) (movV v32)).bind fun v49 =>
        (guardV (some (v48, false)) (nilV .ptr false v49)).bind fun v50 =>
        (pickV v48 (.bool true) v50).bind fun v51 =>
        (movV v51).bind fun v52 =>
        (guardV (some (v52, false)) (movV v32)).bind fun v53 =>
        (guardV (some (v52, false)) (nilchk v53)).bind fun v54 =>
        (guardV (some (v52, false)) (faddrV 14 v54)).bind fun v55 =>
        (guardV (some (v52, false)) (ldV false 1 v55 x28.2)).bind fun v56 =>
        (guardV (some (v52, false)) (lenV v56)).bind fun v57 =>
        (guardV (some (v52, false)) (binV .neq v57 (.int .i64 65536))).bind fun v58 =>
        (pickV v52 (.bool true) v58).bind fun v59 =>
        (movV v59).bind fun v60 =>
        (guardV (some (v60, false)) (movV v32)).bind fun v61 =>
        (guardV (some (v60, false)) (nilchk v61)).bind fun v62 =>
        (guardV (some (v60, false)) (faddrV 14 v62)).bind fun v63 =>
        (guardV (some (v60, false)) (ldV false 1 v63 x28.2)).bind fun v64 =>
        (guardV (some (v60, false)) (movV v13)).bind fun v65 =>
        (guardV (some (v60, false)) (movV v13)).bind fun v66 =>
        (guardV (some (v60, false)) (movV a0)).bind fun v67 =>
        (guardV (some (v60, false)) (lenV v67)).bind fun v68 =>
        (guardV (some (v60, false)) (binV .add v66 v68)).bind fun v69 =>
        (guardV (some (v60, false)) (sliceV 1 v64 (some v65) (some v69) x28.2)).bind fun v70 =>
        (guardV (some (v60, false)) (tostrV v70 x28.2)).bind fun v71 =>
        (guardV (some (v60, false)) (movV a0)).bind fun v72 =>
        (guardV (some (v60, false)) (tostrV v72 x28.2)).bind fun v73 =>
        (guardV (some (v60, false)) (binV .neq v71 v73)).bind fun v74 =>
        (pickV v60 (.bool true) v74).bind fun v75 =>
        ifK v75 (
          (movV (.bool false)).bind fun v76 =>
          some (v76, x28.2)) (
          (movV (.int .i64 0)).bind fun v77 =>
          bindL (loopL (fun e78 h79 =>
              (movV (e78 11)).bind fun v80 =>
              (movV (e78 9)).bind fun v81 =>
              (nilchk v81).bind fun v82 =>
              (faddrV 14 v82).bind fun v83 =>
              (ldV false 1 v83 h79).bind fun v84 =>
              (lenV v84).bind fun v85 =>
              (binV .lss v80 v85).bind fun v86 =>
              ifK v86 (
                (movV (e78 9)).bind fun v87 =>
                (nilchk v87).bind fun v88 =>
                (faddrV 14 v88).bind fun v89 =>
                (ldV false 1 v89 h79).bind fun v90 =>
                (movV (e78 11)).bind fun v91 =>
                (iaddrV 1 v90 v91).bind fun v92 =>
                (ldV false 1 v92 h79).bind fun v93 =>
                (binV .neq v93 (.int .u8 0)).bind fun v94 =>
                (movV v94).bind fun v95 =>
                (guardV (some (v95, true)) (movV (e78 11))).bind fun v96 =>
                (guardV (some (v95, true)) (movV (e78 7))).bind fun v97 =>
                (guardV (some (v95, true)) (binV .lss v96 v97)).bind fun v98 =>
                (guardV (some (v95, true)) (movV v98)).bind fun v99 =>
                (guardV (some (v99, false)) (movV (e78 11))).bind fun v100 =>
                (guardV (some (v99, false)) (movV (e78 7))).bind fun v101 =>
                (guardV (some (v99, false)) (movV (e78 0))).bind fun v102 =>
                (guardV (some (v99, false)) (lenV v102)).bind fun v103 =>
                (guardV (some (v99, false)) (binV .add v101 v103)).bind fun v104 =>
                (guardV (some (v99, false)) (binV .geq v100 v104)).bind fun v105 =>
                (guardV (some (v95, true)) (pickV v99 (.bool true) v105)).bind fun v106 =>
                (pickV v95 v106 (.bool false)).bind fun v107 =>
                ifK v107 (
                  (movV (.bool false)).bind fun v108 =>
                  some (.ret, (upd (upd (upd e78 84 v86) 107 v107) 6 v108), h79)) (
                  (movV (e78 11)).bind fun v109 =>
                  (binV .add v109 (.int .i64 1)).bind fun v110 =>
                  (movV v110).bind fun v111 =>
                  some (.normal, (upd (upd (upd e78 84 v86) 107 v107) 11 v111), h79))) (
                some (.exit 0, (upd e78 84 v86), h79))) (upd (upd (upd (upd (upd (upd (upd (upd (upd (upd (env0 [a0, a1, a2]) 6 v0) 13 v2) 16 v6) 7 v13) 8 x15.1) 9 v32) 10 v33) 41 v38) 77 v75) 11 v77) x28.2)
            (fun i112 e113 h114 =>
              if i112 = 0 then (
                (movV (e113 9)).bind fun v117 =>
                (nilchk v117).bind fun v118 =>
                (faddrV 18 v118).bind fun v119 =>
                (ldV false 1 v119 h114).bind fun v120 =>
                (lenV v120).bind fun v121 =>
                (binV .eql v121 (.int .i64 1)).bind fun v122 =>
                (movV v122).bind fun v123 =>
                (guardV (some (v123, true)) (movV (e113 9))).bind fun v124 =>
                (guardV (some (v123, true)) (nilchk v124)).bind fun v125 =>
                (guardV (some (v123, true)) (faddrV 18 v125)).bind fun v126 =>
                (guardV (some (v123, true)) (ldV false 1 v126 h114)).bind fun v127 =>
                (guardV (some (v123, true)) (iaddrV 1 v127 (.int .i64 0))).bind fun v128 =>
                (guardV (some (v123, true)) (ldV false 1 v128 h114)).bind fun v129 =>
                (pickV v123 v129 (.bool false)).bind fun v130 =>
                (movV v130).bind fun v131 =>
                some (v131, h114)) else (
                none))
            (fun e115 h116 =>
              some ((e115 6), h116))))))

theorem c18 (a0 a1 a2 : Value) (H : Heap) : call tbl 18 [a0, a1, a2] H = m18 (call tbl) a0 a1 a2 H :=
  (call_eqM 18 _ H).trans (by kernel_rfl)

end Ck

/-
LinkData: what the machine answers.
-/
set_option linter.unusedSimpArgs false
set_option linter.unusedVariables false
namespace Ck
open Go

/-- A row that came in, read alone. -/
def RoRow {α : Type} (f : α → Value) (h : BF) (v : Value) (xs : List α) : Prop := (xs = [] ∧ v = .slice none 0 0) ∨ ∃ b c full, v = .slice (some ⟨b, 0, none⟩) xs.length c ∧ h b = some (.cells 1 true full) ∧ xs.length ≤ full.length ∧ full.take xs.length = xs.map f

theorem RoRow.row {α : Type} {f : α → Value} {h : BF} {v : Value} {xs : List α} (hr : RoRow f h v xs) : RA f h v xs := by
  rcases hr with ⟨rfl, rfl⟩ | ⟨b, c, full, rfl, h1, h2, h3⟩
  · exact ⟨rfl, .inl ⟨rfl, rfl⟩⟩
  · exact ⟨by simp, .inr ⟨b, 0, c, true, _, rfl, h1, by omega, by simpa using h3⟩⟩
theorem RoRow.kept {α : Type} {f : α → Value} {H H' : Heap} {v : Value} {xs : List α} (hr : RoRow f H.blk v xs) (hw : Within H) (hk : Kept H H') : RoRow f H'.blk v xs := by
  rcases hr with ⟨rfl, rfl⟩ | ⟨b, c, full, rfl, h1, h2⟩
  · exact .inl ⟨rfl, rfl⟩
  · exact .inr ⟨b, c, full, rfl, (hk hw).2.2 _ _ _ h1, h2⟩

theorem bytesOf_u8 : ∀ xs : List Int, bytesOf (xs.map u8) = some (xs.map fun n => UInt8.ofNat n.toNat)
  | [] => rfl
  | x :: xs => by simp [bytesOf, bytesOf_u8 xs]

/-- A slice's bytes as a string. -/
theorem tostrV_ok {H : Heap} {v : Value} {xs : List Int} (hr : RA u8 H.blk v xs) : tostrV v H = some (.string ⟨(xs.map fun n => UInt8.ofNat n.toNat).toArray⟩) := by
  have hc := Row.cellsV hr (m := xs.length) (Nat.le_refl _)
  have ht : (xs.map u8).take (xs.length * 1) = xs.map u8 := List.take_of_length_le (by simp)
  rw [ht] at hc
  have hv := hr
  obtain ⟨_, ⟨h1, rfl⟩ | ⟨b, o, c, ro, full, rfl, -⟩⟩ := hv
  · have : xs = [] := List.eq_nil_of_length_eq_zero h1
    subst this
    simp [tostrV, Ck.cellsV, bytesOf]
  · simp only [tostrV, hc, Option.bind_some, bytesOf_u8, Option.map_some]

/-- The fixed module, with bytes that are to lie somewhere. -/
def FMd (to : Int) (bytes : List Int) : Mo := { FM with datas := [⟨0, [insN 65 to, ins 11], bytes⟩] }

theorem ins_W {op n : Int} (h : op = 65 ∨ op = 11 ∧ n = 0) (hn : 0 ≤ n ∧ n < 2 ^ 60) : InsW (insN op n) := by
  rcases h with rfl | ⟨rfl, rfl⟩ <;> exact ⟨by simp [insN], by simp [insN], by simp [insN], by simp only [insN]; omega, by simp [insN], by simp [insN], by simp [insN]⟩

theorem FMd_W (to : Int) (bytes : List Int) : MoW (FMd to bytes) := by
  refine ⟨by simp [FMd, FM], ?_, by simp [FMd, FM], by simp [FMd, FM], by simp [FMd, FM], by simp [FMd, FM], by simp [FMd], by simp [FMd, FM], ?_⟩
  · intro g hg x hx
    simp only [FMd, FM, List.mem_singleton] at hg
    subst hg
    simp only [List.mem_cons, List.not_mem_nil, or_false] at hx
    rcases hx with rfl | rfl
    · exact ins_W (n := 0) (.inl rfl) (by omega)
    · exact ins_W (n := 0) (.inr ⟨rfl, rfl⟩) (by omega)
  · have : FM.codes.all (fun c => decide (c.body.length ≤ 2 ^ 20)) = true := by kernel_rfl
    intro c hc
    have := List.all_eq_true.1 this c hc
    simpa using this

theorem FMd_err (to : Int) (bytes : List Int) : P.newErr (FMd to bytes) = 0 := by
  show P.newErr (FMd to bytes) = 0
  have : P.newErr FM = 0 := by kernel_rfl
  exact this


/-- So many noughts. -/
def zeros (n : Nat) : List Int := List.replicate n 0
theorem zeros_length (n : Nat) : (zeros n).length = n := List.length_replicate
theorem zeros_get {n i : Nat} (h : i < n) : (zeros n)[i]? = some 0 := by unfold zeros; rw [List.getElem?_replicate, if_pos h]

theorem FM_mem : P.memOf FM.mems = zeros 65536 := by
  show (if (1 : Int) < 1 then [] else List.replicate ((1 : Int) * 65536).toNat 0) = zeros 65536
  rw [if_neg (by omega)]
  have : ((1 : Int) * 65536).toNat = 65536 := by omega
  rw [this]
  rfl

theorem FMd_new (to : Int) (bytes : List Int) : P.newIn (FMd to bytes) = ⟨zeros 65536, [], [0], [], [false]⟩ := by
  unfold P.newIn
  rw [show (FMd to bytes).mems = FM.mems from rfl, FM_mem]
  rfl

theorem law18 (h0 : BF) (hw : Within ⟨3, h0⟩) {v : Value} {bytes : List Int} (hv : RoRow u8 h0 v bytes) {at_ more : Int} (ha : 0 ≤ at_ ∧ at_ < 65536) (hm : 0 ≤ more ∧ more < 256) :
    ∃ H', call tbl 18 [v, .int .u16 at_, .int .u8 more] ⟨3, h0⟩ = some (.bool true, H') := by
  suffices h : Wp (call tbl 18 [v, .int .u16 at_, .int .u8 more] ⟨3, h0⟩) fun r => r.1 = .bool true by
    obtain ⟨⟨x, H'⟩, h1, h2⟩ := h
    simp only at h2
    subst h2
    exact ⟨H', h1⟩
  refine Wp.via fun Q hQ => ?_
  obtain ⟨g, hb⟩ := begun20 h0
  have kb := kept_call hb
  have hv1 := RoRow.kept (H := ⟨3, h0⟩) hv hw kb
  have w1 := (kb hw).2.1
  have hlen := RA.len hv1.row
  have hw1 : IntKind.wrap .i64 at_ = at_ := wrap_i64 (by omega)
  have hw2 : IntKind.wrap .i64 more = more := wrap_i64 (by omega)
  have hadd : binV .add (i64 at_) (i64 more) = some (i64 (at_ + more)) := add_i64 (by omega)
  obtain ⟨fv, H1, hf, hrd⟩ := fixed_169 g
  have kf := kept_call hf
  have hv2 := hv1.kept w1 kf
  have w2 := (kf w1).2.1
  obtain ⟨ty, fu, ta, me, gl, ex, el, co, da, rfl, hM⟩ := rdMo_ok hrd
  obtain ⟨f1, f2, f3, f4, f5, f6, f7, f8, f9⟩ := hM.flats
  obtain ⟨H2, a0, a1, a2, a3, a4⟩ := newV_ok (H := H1) (v := pt H1.next 0) (f := fun b => some (ptrTo b, .cells 13 false [(.slice none 0 0), (.slice none 0 0), (.slice none 0 0), (.slice none 0 0), (.slice none 0 0), (.slice none 0 0), (.bool false), (.int .u32 0), (.slice none 0 0), (.bool false), (.int .u32 0), (.slice none 0 0), (.slice none 0 0)])) rfl
  rw [c18]
  by_cases c60 : 60 < bytes.length
  · have c60' : (60 : Int) < bytes.length := by omega
    simp -implicitDefEqProofs [m18, hb, hlen, c60']
    exact hQ _ rfl
  · have c60' : ¬ (60 : Int) < bytes.length := by omega
    have hu : IntKind.wrap .u64 (at_ + more) = at_ + more := wrap_u64 (by omega)
    -- the module's datas are laid
    obtain ⟨K2, hs2, k2b, k2u⟩ : ∃ K2, stX 13 (pt H1.next 0) (.agg #[ty, fu, ta, me, gl, ex, .bool FM.starts, u32 FM.start, el, .bool FM.counts, u32 FM.count, co, da]) H2 = some (undef, K2) ∧
        K2.blk H1.next = some (.cells 13 false [ty, fu, ta, me, gl, ex, .bool FM.starts, u32 FM.start, el, .bool FM.counts, u32 FM.count, co, da]) ∧ Up H1 [] K2 :=
      ⟨_, stX_agg a2 rfl (by simp [f1, f2, f3, f4, f5, f6, f7, f8, f9]) (by simp), by rw [set_same]; rfl, a3.trans (up_set (O := [H1.next]) (by simp) (by omega)) (by simp)⟩
    have k2n : H1.next < K2.next := by
      have := k2u.wi w2 _ _ k2b
      exact this
    obtain ⟨K3, b0, b1, b2, b3, b4⟩ := newV_ok (H := K2) (v := .slice (some ⟨K2.next, 0, none⟩) 2 2) (x := .cells 6 false [i64 65, u32 0, u32 0, u64 (at_ + more), .slice none 0 0, i64 0, i64 11, u32 0, u32 0, u64 0, .slice none 0 0, i64 0])
      (f := fun b => bsliceV 6 2 [.int .i64 0, .int .u32 0, .int .u32 0, .int .u64 0, .slice none 0 0, .int .i64 0] [(0, 6, .agg #[.int .i64 65, .int .u32 0, .int .u32 0, .int .u64 (at_ + more), .slice none 0 0, .int .i64 0]), (6, 6, .agg #[.int .i64 11, .int .u32 0, .int .u32 0, .int .u64 0, .slice none 0 0, .int .i64 0])] b)
      (by simp [bsliceV, zerosV, fillV, splice])
    have hcv : v.cells = #[v] := Row.cells hv1.row
    have hfv : Ck.flat v = true := RA.flat hv1.row
    obtain ⟨K4, d0, d1, d2, d3, d4⟩ := newV_ok (H := K3) (v := .slice (some ⟨K3.next, 0, none⟩) 1 1) (x := .cells 3 false [u8 0, .slice (some ⟨K2.next, 0, none⟩) 2 2, v])
      (f := fun b => bsliceV 3 1 [.int .u8 0, .slice none 0 0, .slice none 0 0] [(0, 3, .agg #[.int .u8 0, .slice (some ⟨K2.next, 0, none⟩) 2 2, v])] b) (bslice1 3 _ [u8 0, .slice (some ⟨K2.next, 0, none⟩) 2 2, v] _ _ rfl rfl rfl (by simp [hfv]))
    have k4b : K4.blk H1.next = some (.cells 13 false [ty, fu, ta, me, gl, ex, .bool FM.starts, u32 FM.start, el, .bool FM.counts, u32 FM.count, co, da]) := by rw [d4 _ (by omega), b4 _ (by omega)]; exact k2b
    obtain ⟨K5, hs5, k5b, k5u⟩ : ∃ K5, stX 1 (pt H1.next 12) (.slice (some ⟨K3.next, 0, none⟩) 1 1) K4 = some (undef, K5) ∧
        K5.blk H1.next = some (.cells 13 false [ty, fu, ta, me, gl, ex, .bool FM.starts, u32 FM.start, el, .bool FM.counts, u32 FM.count, co, .slice (some ⟨K3.next, 0, none⟩) 1 1]) ∧ Up K4 [H1.next] K5 :=
      ⟨_, stX_val k4b rfl (by simp), by rw [set_same]; rfl, up_set (by simp) (by omega)⟩
    have u15 : Up H1 [] K5 := ((k2u.trans b3 (by simp)).trans d3 (by simp)).trans k5u (by simp)
    have w5 : Within K5 := u15.wi w2
    have hle5 : BF.le H1.blk K5.blk := fun b x hx => by rw [u15.eq b (w2 _ _ hx) (by simp)]; exact hx
    have hM5 := hM.mono hle5
    have k3off : K5.blk K2.next = some (.cells 6 false [i64 65, u32 0, u32 0, u64 (at_ + more), .slice none 0 0, i64 0, i64 11, u32 0, u32 0, u64 0, .slice none 0 0, i64 0]) := by
      rw [k5u.eq _ (by omega) (by simp; omega), d4 _ (by omega)]; exact b2
    have k4d : K5.blk K3.next = some (.cells 3 false [u8 0, .slice (some ⟨K2.next, 0, none⟩) 2 2, v]) := by
      rw [k5u.eq _ (by omega) (by simp; omega)]; exact d2
    have hnil : RA u32 K5.blk (.slice none 0 0) [] := ⟨rfl, .inl ⟨rfl, rfl⟩⟩
    have hoff : RBody K5.blk (.slice (some ⟨K2.next, 0, none⟩) 2 2) [insN 65 (at_ + more), ins 11] :=
      ⟨_, ⟨rfl, .inr ⟨K2.next, 0, 2, false, _, rfl, k3off, by simp, rfl⟩⟩, ⟨_, rfl, hnil⟩, by simp, ⟨_, rfl, hnil⟩, by simp, rfl⟩
    have hv5 : RA u8 K5.blk v bytes := RA.mono hv2.row hle5
    have hMd : RMo K5.blk ty fu ta me gl ex el co (.slice (some ⟨K3.next, 0, none⟩) 1 1) (FMd (at_ + more) bytes) :=
      { hM5 with datas := ⟨_, ⟨rfl, .inr ⟨K3.next, 0, 1, false, _, rfl, k4d, by simp [FMd], rfl⟩⟩, ⟨_, _, rfl, hoff, hv5⟩, by simp [FMd], rfl⟩ }
    have hmake := make0_ok hMd (Fz.nil (BF.le.refl _) w5) (FMd_W _ _) rfl rfl (by
      intro x hx
      simp only [FMd, List.mem_singleton] at hx
      subst hx
      refine ⟨by simp only; omega, fun y hy => ?_⟩
      simp only [List.mem_cons, List.not_mem_nil, or_false] at hy
      rcases hy with rfl | rfl
      · exact ins_W (.inl rfl) (by omega)
      · exact ins_W (n := 0) (.inr ⟨rfl, rfl⟩) (by omega))
    have hadd2 : binV .add (i64 (at_ + more)) (i64 bytes.length) = some (i64 (at_ + more + bytes.length)) := add_i64 (by omega)
    simp -implicitDefEqProofs [m18, hb, hlen, c60', hw1, hw2, hadd, hf, a0, hs2, hu, buildV, fillV, splice, b0, hcv, d0, hs5, lds_of k5b]
    refine Wp.step hmake ?_
    rintro ⟨q, K6⟩ ⟨u6, hp⟩
    simp only at u6 hp
    rw [FMd_err] at hp
    simp only [ne_eq, not_true_eq_false, if_false] at hp
    have hl32 : l32 (P.worth [insN 65 (at_ + more), ins 11]) = at_ + more := by
      simp only [P.worth, insN, l32]
      simp
      omega
    have hDP : P.datasFrom 0 (FMd (at_ + more) bytes).datas (P.newIn (FMd (at_ + more) bytes)) 0 =
        if P.fits 65536 (at_ + more) bytes.length = false then (⟨zeros 65536, [], [0], [], [false]⟩, 7) else (⟨P.splice (zeros 65536) (at_ + more).toNat bytes, [], [0], [], [true]⟩, 0) := by
      rw [FMd_new]
      simp only [FMd, P.datasFrom, P.dataP, hl32, zeros_length]
      simp only [ne_eq, not_true_eq_false, or_self, if_false, List.set_cons_zero]
    rw [hDP] at hp
    by_cases hbig : 65536 < at_ + more + bytes.length
    · have hft : P.fits 65536 (at_ + more) bytes.length = false := by
        unfold P.fits
        simp only [Bool.and_eq_false_iff, decide_eq_false_iff_not]
        omega
      rw [if_pos hft] at hp
      simp only [ne_eq, show ¬ ((7 : Int) = 0) by omega, not_false_eq_true, if_true] at hp
      subst hp
      simp -implicitDefEqProofs [hlen, hadd2, hbig, nilV, isNil]
      exact hQ _ rfl
    · have hft : ¬ P.fits 65536 (at_ + more) bytes.length = false := by
        unfold P.fits
        simp only [Bool.and_eq_false_iff, decide_eq_false_iff_not]
        omega
      rw [if_neg hft] at hp
      simp only [ne_eq, not_true_eq_false, if_false] at hp
      obtain ⟨pi, O, hk, bks, rfl, p1, p2, p3, p4⟩ := hp
      obtain ⟨to, hto⟩ : ∃ to : Nat, at_ + more = to := ⟨(at_ + more).toNat, by omega⟩
      rw [hto] at p3 hadd2 hbig
      simp only [Int.toNat_natCast] at p3
      have hzl := zeros_length 65536
      have hsplen : (P.splice (zeros 65536) to bytes).length = 65536 := by simp only [P.splice, List.length_append, List.length_take, List.length_drop]; omega
      obtain ⟨vm, Xm, es, full, m1, m2, m3, m4, m5, -⟩ := p3.open_mem
      obtain ⟨vd, Xd, es', full', d1', d2', d3', d4', d5', -⟩ := p3.open_datas
      rw [m1] at d1'
      simp only [Option.some.injEq, Blk.cells.injEq, true_and] at d1'
      obtain ⟨-, rfl⟩ := d1'
      have hrm : RA u8 K6.blk vm (P.splice (zeros 65536) to bytes) := by
        have := m3.toRow
        rwa [List.length_map] at this
      have hlm : lenV vm = some (i64 65536) := by have := RA.len hrm; rwa [hsplen] at this
      have hv6 : RA u8 K6.blk v bytes := RA.mono hv5 fun b x hx => by rw [u6.eq b (w5 _ _ hx) (by simp)]; exact hx
      have hs1 := tostrV_ok hv6
      obtain ⟨vs, sl1, sl2⟩ := Row.slice hrm (l := to) (h := to + bytes.length) (lo := some (i64 (to : Int))) (hi := some (i64 ((to : Int) + bytes.length))) (by simp [natOf_nat]) (by simp only [Option.map_some, Option.getD_some]; rw [show (to : Int) + bytes.length = ((to + bytes.length : Nat) : Int) by omega, natOf_nat]) (by omega) (by rw [hsplen]; omega)
      have hcut : (((P.splice (zeros 65536) to bytes).map u8).drop (to * 1)).take ((to + bytes.length - to) * 1) = bytes.map u8 := by
        simp only [Nat.mul_one, Nat.add_sub_cancel_left, ← List.map_drop, ← List.map_take]
        congr 1
        unfold P.splice
        have h1 : (List.take to (zeros 65536)).length = to := by rw [List.length_take]; omega
        rw [List.append_assoc, List.drop_append_of_le_length (by omega), List.drop_eq_nil_of_le (by omega), List.nil_append, List.take_append_of_le_length (Nat.le_refl _), List.take_length]
      rw [hcut] at sl2
      have hrs : RA u8 K6.blk vs bytes := by
        have : to + bytes.length - to = bytes.length := by omega
        rw [this] at sl2; exact sl2
      have hs2 := tostrV_ok hrs
      have hstr : ∀ a : ByteArray, binV .neq (.string a) (.string a) = some (.bool false) := fun a => by simp [binV, strBin]
      simp -implicitDefEqProofs [hto, hlen, hadd2, hbig, nilV, isNil, ld_of m1, m2, hlm, sl1, hs1, hs2, hstr]
      have hrd' : Row K6.blk 1 vd 1 [.bool true] := by have := d3'.toRow; simpa using this
      have hld := hrd'.lenV
      have hia := hrd'.iaddr (k := .i64) (i := 0) (by omega) (by omega)
      have hlx := hrd'.ld (m := 1) (j := 0) (by omega)
      have hia : iaddrV 1 vd (.int .i64 0) = some (.pointer (some ⟨slB vd, slO vd, none⟩)) := by simpa using hia
      have hlx : K6.ld (slB vd) (slO vd) = some (.bool true) := by simpa using hlx
      have hld : lenV vd = some (i64 1) := hld
      refine loop_via (Q := Q) (fun n ev L => ∃ k : Nat, n = 65536 - k ∧ k ≤ 65536 ∧ ev 0 = v ∧ ev 7 = i64 to ∧ ev 9 = pt pi 0 ∧ ev 11 = i64 k ∧ L = K6) ?_ 65536 _ _ ?_
      · rintro J hJ n ev L ⟨k, rfl, hk1, t0, t7, t9, t11, rfl⟩
        by_cases hlt : k < 65536
        · obtain ⟨c, hc⟩ : ∃ c, (P.splice (zeros 65536) to bytes)[k]? = some c := ⟨_, List.getElem?_eq_getElem (by omega)⟩
          obtain ⟨o, z1, z2⟩ := RA.at_ hrm (BF.le.refl _) (k := .i64) (i := (k : Int)) (by omega) (by simpa using hc)
          have z2 := z2 1
          simp only [pt, ldV_ptr] at z1 z2
          have hadd3 : binV .add (i64 (k : Int)) (i64 1) = some (i64 ((k : Int) + 1)) := add_i64 (by omega)
          have hlt' : (k : Int) < 65536 := by omega
          have next : ∃ m, m < 65536 - k ∧ J m (upd (upd (upd ev 84 (.bool true)) 107 (.bool false)) 11 (i64 ((k : Int) + 1))) L :=
            ⟨65536 - (k + 1), by omega, hJ _ _ _ ⟨k + 1, rfl, by omega, by simp [t0], by simp [t7], by simp [t9], by simp, rfl⟩⟩
          by_cases hz : c = 0
          · subst hz
            simp -implicitDefEqProofs [t9, t11, ld_of m1, m2, hlm, hlt', z1, z2, hadd3]
            exact next
          · have hin : to ≤ k ∧ k < to + bytes.length := by
              unfold P.splice at hc
              have h1 : (List.take to (zeros 65536)).length = to := by rw [List.length_take]; omega
              by_cases q1 : k < to
              · rw [List.append_assoc, List.getElem?_append_left (by omega), List.getElem?_take, if_pos q1, zeros_get hlt] at hc
                exact absurd (Option.some.inj hc).symm hz
              · by_cases q2 : k < to + bytes.length
                · omega
                · rw [List.getElem?_append_right (by rw [List.length_append]; omega), List.getElem?_drop, zeros_get (by rw [List.length_append]; omega)] at hc
                  exact absurd (Option.some.inj hc).symm hz
            have q1 : ¬ (k : Int) < to := by omega
            have q2 : ¬ (to : Int) + bytes.length ≤ k := by omega
            have q1' : ¬ k < to := by omega
            simp -implicitDefEqProofs [t0, t7, t9, t11, ld_of m1, m2, hlm, hlt', z1, z2, hadd3, hz, q1, q1', hlen, hadd2, q2]
            exact next
        · have : k = 65536 := by omega
          subst this
          simp -implicitDefEqProofs [t9, t11, ld_of m1, m2, hlm, d2', hld, hia, hlx]
          exact hQ _ rfl
      · exact ⟨0, by omega, by omega, by simp, by simp, by simp, by simp, rfl⟩

end Ck

/-
What the seat's rows share.
-/
namespace Go.Proofs.YtgopfpmkbdhnnaaGreatDoor
open Go.ChangeShapes Go.WideShapes Go.ChangeAt Go.RowKit

/-- The door's own heap meets the condition on the tables. -/
theorem door_met (os : Os) (args : Array Value) : laidMetH Tryz.prog laidTabs ((World.doorLaid Tryz.prog 400 os).forCall (fun _ _ => 0) ⟨#[], args, []⟩).memory :=
  laidMetH_of_parts3 (fuel := 8) (laidMet_of_run' 8 (by kernel_rfl) (by kernel_rfl)) (by kernel_rfl) (by kernel_rfl)


/-- The rows that a call of the seat's finds: the two tables, and what came in. -/
abbrev rowsOf (l : List Ck.InRow) : List Ck.InRow := ⟨0, 0, tab32.map fun n => Value.int .u8 n⟩ :: ⟨1, 0, tab64.map fun n => Value.int .u8 n⟩ :: l

theorem rel_rows {W : World} {l : List Ck.InRow} (hL : laidMetH Tryz.prog laidTabs W) (hl : ∀ r ∈ l, r.ok W) : Ck.Rel Tryz.prog.globals.size W (Ck.injR (rowsOf l)) (Ck.heapR (rowsOf l)) W := by
  obtain ⟨h0, h1⟩ := of_laid hL
  refine Ck.relR ?_ ?_ (by rw [ng2]; simp)
  · intro r hr
    simp only [rowsOf, List.mem_cons] at hr
    rcases hr with rfl | rfl | hr
    · exact h0
    · exact h1
    · exact hl r hr
  · intro g hg
    rw [ng2] at hg
    rcases (show g = 0 ∨ g = 1 by omega) with rfl | rfl
    · exact ⟨_, rfl, rfl, rfl⟩
    · exact ⟨_, rfl, rfl, rfl⟩

theorem spot_none {W : World} {a : Addr} {v : Value} (h : W.cell? a = some v) : a.spot = none := by
  unfold World.cell? at h
  split at h
  · split at h
    · simp at h
    · rename_i hs; simpa using hs
  · simp at h

/-- A slice of integers that came in: a row of its own, and the value that the machine has of it. -/
theorem slice_in {W : World} {k : IntKind} {a : Addr} {len cap : Nat} {zs : List Int} (hz : zs.length = cap) (hl : len ≤ cap) (hL : laidMetH Tryz.prog laidTabs W)
    (hc : ∀ i, i < zs.length → W.cell? (a.add i) = some (.int k (zs.getD i 0))) :
    ∃ r : Ck.InRow, r.ok W ∧ ∀ (l1 : List Ck.InRow) b, (rowsOf l1)[b]? = some r → Ck.VRel (Ck.injR (rowsOf l1)) (.slice (some ⟨b, 0, none⟩) len (len + 1)) (.slice (some a) len cap) ∧ Ck.RoRow (Value.int k) (Ck.heapR (rowsOf l1)).blk (.slice (some ⟨b, 0, none⟩) len (len + 1)) (zs.take len) := by
  by_cases h0 : cap = 0
  · subst h0
    have hlen : len = 0 := by omega
    subst hlen
    obtain ⟨q, -⟩ := of_laid hL
    obtain ⟨c, t, fr, h1, -⟩ := q
    refine ⟨⟨0, 0, []⟩, ⟨c, t, fr, h1, by simp, by simp, rfl⟩, fun l1 b hb => ⟨.slice (i := ⟨0, 0, 0, 1⟩) (by simp [Ck.injR, hb]) (by omega) (by omega) (by omega), .inr ⟨b, 1, [], by simp, by simp [Ck.heapR, hb], by simp, by simp⟩⟩⟩
  · have hcell : ∀ i, i < cap → W.cell? ⟨a.block, a.off + i, none⟩ = some (.int k (zs.getD i 0)) := by
      have hs : a.spot = none := spot_none (by have := hc 0 (by omega); simpa [Addr.add] using this)
      intro i hi
      have := hc i (by omega)
      unfold Addr.add at this
      split at this
      · rename_i h; subst h; rw [← this]; congr 1; cases a; simp_all
      · exact this
    have hs : a = ⟨a.block, a.off, none⟩ := by
      have hs : a.spot = none := spot_none (by have := hc 0 (by omega); simpa [Addr.add] using this)
      cases a; simp_all
    have hb0 := hcell 0 (by omega)
    unfold World.cell? at hb0
    split at hb0
    · rename_i c t fr hb
      have hcc : ∀ i, i < cap → c[a.off + i]? = some (.int k (zs.getD i 0)) := fun i hi => by
        have := hcell i hi
        unfold World.cell? at this
        simp only [hb] at this
        simpa using this
      refine ⟨⟨a.block, a.off, zs.map fun n => Value.int k n⟩, ⟨c, t, fr, hb, ?_, ?_, ?_⟩, fun l1 b hbr => ⟨.slice (i := ⟨a.block, a.off, a.off + zs.length, 1⟩) (by simp [Ck.injR, hbr]) hl (by omega) (fun _ => ⟨by simpa using hs, by simp; omega⟩), .inr ⟨b, len + 1, zs.map fun n => Value.int k n, by simp; omega, by simp [Ck.heapR, hbr], by simp; omega, ?_⟩⟩⟩
      · have := hcc (cap - 1) (by omega)
        have hlt := (Array.getElem?_eq_some_iff.1 this).1
        simp; omega
      · intro i hi
        simp only [List.length_map] at hi
        rw [hcc i (by omega), List.getElem?_map, List.getElem?_eq_getElem hi]
        simp [List.getD_eq_getElem?_getD, List.getElem?_eq_getElem hi]
      · rw [List.all_map]
        simp [Ck.plainInt]
      · rw [List.map_take]
        simp
    · simp at hb0

theorem cell_old {ng : Nat} {W W' : World} {ψ : Ck.Inj} {K : Ck.Heap} (h : Ck.Rel ng W ψ K W') {a : Addr} {v : Value} (hc : W.cell? a = some v) : W'.cell? a = some v := by
  unfold World.cell? at hc ⊢
  split at hc
  · rename_i c t fr hb
    rw [h.old a.block (Array.getElem?_eq_some_iff.1 hb).1, hb]
    exact hc
  · simp at hc

theorem wf_u8 {n : Int} (h : (Lit.int .u8 n).wf = true) : 0 ≤ n ∧ n < 256 := by
  have e : (Lit.int .u8 n).wf = (decide ((0 : Int) ≤ n) && decide (n ≤ (255 : Int))) := rfl
  rw [e] at h
  simp only [Bool.and_eq_true, decide_eq_true_eq] at h
  omega
theorem wf_u16 {n : Int} (h : (Lit.int .u16 n).wf = true) : 0 ≤ n ∧ n < 65536 := by
  have e : (Lit.int .u16 n).wf = (decide ((0 : Int) ≤ n) && decide (n ≤ (65535 : Int))) := rfl
  rw [e] at h
  simp only [Bool.and_eq_true, decide_eq_true_eq] at h
  omega

end Go.Proofs.YtgopfpmkbdhnnaaGreatDoor

/-
LinkData: whatever the input, the call returns true, and each argument reads afterwards as it read before: the tied card, without a condition.
-/
namespace Go.Proofs.YtgopfpmkbdhnnaaGreatDoor
open Go.ChangeShapes Go.WideShapes Go.ChangeAt Go.RowKit

set_option maxRecDepth 100000 in
theorem linkData_lifted (os : Os) (started : os.Started) (H : Type) (enc : TypeId × Value → H) :
    ReturnsInHanded {} Tryz.checked os 18 .any (fun w args => (Rows.linkDataSpec.pre enc Tryz.prog Tryz.f18 [] false w args ∧ laidMetH Tryz.prog laidTabs w) ∧ sizedMet enc Tryz.prog Tryz.f18 (OpenSpec.ofChange Rows.linkDataSpec) false w args)
      (Rows.linkDataSpec.post enc Tryz.prog Tryz.f18 false true false false) := by
  refine returnsInHanded_of_change_and (C := Tryz.checked) (X := fun w _ => laidMetH Tryz.prog laidTabs w) (fun _ _ _ hh h => h.of_heap hh) own started (by kernel_rfl) Tryz.func18
    (ChangeSpec.witness_shaped (enc := enc) (C := Tryz.checked) (os := os) (X := fun w _ => laidMetH Tryz.prog laidTabs w) false (World.doorLaid Tryz.prog 400 os) #[.slice none 0 0, .int .u16 0, .int .u8 0] 8 rfl (World.shaped_of_RefB (by kernel_rfl) (by kernel_rfl)) (by kernel_rfl) (by kernel_rfl) (by kernel_rfl) (door_met os _)) ?_
  intro W base args ds gs before hval0 hW _ _ hL _
  have hval : ∀ (j : Nat) t v, Tryz.f18.params[j]? = some t → args[j]? = some v → Value.okWide Tryz.prog W .any base t v := hval0
  have hW' := hW
  obtain ⟨p, q, hA0, hV, rfl, hfz, hnd⟩ := hW
  have hA : DataW.TrodAll enc Tryz.prog W 0 (fun _ => true) true Tryz.f18.params.toList args.toList ds p := hA0
  rw [Tryz.params18] at hA hval
  obtain ⟨v0, v1, v2, d0, d1, d2, p0, p1, p2, rfl, rfl, rfl, h0, h1, h2⟩ := trodAll_three hA
  obtain ⟨rfl, rfl⟩ := trodVars_none hV
  obtain ⟨at_, rfl, rfl, rfl, wa⟩ := open_int Tryz.underlying24 (hval 1 24 v1 rfl rfl) h1
  obtain ⟨more, rfl, rfl, rfl, wm⟩ := open_int Tryz.underlying5 (hval 2 5 v2 rfl rfl) h2
  obtain ⟨oa, len, cap, rfl⟩ := okWide_slice Tryz.underlying22 (hval 0 22 v0 rfl rfl)
  have c5 : Tryz.prog.cellsOf 5 = 1 := by kernel_rfl
  simp only [List.append_nil] at hW'
  -- behind the machine's run: what was there before stands as it stood
  have fin : ∀ (W' : World) (ψ : Ck.Inj) (K : Ck.Heap), Ck.Rel Tryz.prog.globals.size W ψ K W' → (∀ sp : Nat → Bool, (∀ p ∈ p0 ++ [] ++ [], sp p.block = true) → DataW.Trod enc Tryz.prog W' 0 sp true 22 (.slice oa len cap) d0 p0) →
      Rows.linkDataSpec.post enc Tryz.prog Tryz.f18 false true false false W #[.slice oa len cap, .int .u16 at_, .int .u8 more] (.bool true) W' := by
    intro W' ψ K hR ht
    exact Ck.post_of_old (pa := p0 ++ ([] ++ [])) (pv := []) hW' (fun _ _ _ => trodAll_mk1 (shut_bool Tryz.underlying4 _)) (fun sp hsp => trodAll_mk3 (ht sp (by simpa using hsp)) (shut_int Tryz.underlying24 wa) (shut_int Tryz.underlying5 wm)) (fun _ _ => rfl) (by simp) (hR.kept _) (fun a ha => hR.frozenOld a ha) (ok_one (by kernel_rfl) rfl (okWide_bool_mk Tryz.underlying4 _))
  have ra := wf_u16 wa
  have rm := wf_u8 wm
  obtain ⟨fuel, hf⟩ := h0
  rcases open_ints Tryz.underlying22 Tryz.underlying5 c5 hf with ⟨hcs, hx⟩ | ⟨a, len', cap', zs, hcs, hb, hle, hmax, hz, hx, hcell, hwf⟩
  · simp [Value.cells] at hcs
    obtain ⟨rfl, rfl, rfl⟩ := hcs
    simp only [Prod.mk.injEq] at hx
    obtain ⟨rfl, rfl⟩ := hx
    obtain ⟨q, -⟩ := of_laid hL
    obtain ⟨c, t, fr, hq, -⟩ := q
    have hR := rel_rows (l := [⟨0, 0, []⟩]) hL (by
      intro r hr
      simp only [List.mem_singleton] at hr
      subst hr
      exact ⟨c, t, fr, hq, by simp, by simp, rfl⟩)
    obtain ⟨K, hK⟩ := Ck.law18 (Ck.heapR (rowsOf [⟨0, 0, []⟩])).blk (Ck.within_heapR _) (v := .slice none 0 0) (bytes := []) (.inl ⟨rfl, rfl⟩) ra rm
    refine (Ck.call_true (cargs := [.slice none 0 0, .int .u16 at_, .int .u8 more]) mixed hR (.cons .nilslice (.cons (.int _ _) (.cons (.int _ _) .nil))) hK).mono fun e W' ⟨he, ψ, hR'⟩ => ?_
    subst he
    exact ⟨_, rfl, fin W' ψ K hR' fun sp _ => shut_slice_nil Tryz.underlying22⟩
  · simp [Value.cells] at hcs
    obtain ⟨rfl, rfl, rfl⟩ := hcs
    simp only [Prod.mk.injEq] at hx
    obtain ⟨rfl, rfl⟩ := hx
    simp only [if_true] at hz
    obtain ⟨r, hr, hin⟩ := slice_in (k := .u8) hz hle hL hcell
    obtain ⟨hv, hro⟩ := hin [r] 2 rfl
    have hR := rel_rows (l := [r]) hL (by
      intro r' hr'
      simp only [List.mem_singleton] at hr'
      subst hr'
      exact hr)
    obtain ⟨K, hK⟩ := Ck.law18 (Ck.heapR (rowsOf [r])).blk (Ck.within_heapR _) hro ra rm
    refine (Ck.call_true (cargs := [.slice (some a) len cap, .int .u16 at_, .int .u8 more]) mixed hR (.cons hv (.cons (.int _ _) (.cons (.int _ _) .nil))) hK).mono fun e W' ⟨he, ψ, hR'⟩ => ?_
    subst he
    refine ⟨_, rfl, fin W' ψ K hR' fun sp hsp => ⟨_, shut_ints 0 Tryz.underlying22 Tryz.underlying5 c5 hb hle hmax ?_ (fun i hi => cell_old hR' (hcell i hi)) hwf⟩⟩
    by_cases h0 : zs.length = 0
    · have : cap = 0 := by omega
      have : len = 0 := by omega
      split <;> omega
    · have hm : MemPlace.cell a.block a.off ∈ MemPlace.row a zs.length := List.mem_map.2 ⟨0, List.mem_range.2 (by omega), rfl⟩
      have hs : sp a.block = true := hsp _ (List.mem_append_left _ (List.mem_append_left _ hm))
      rw [if_pos hs]; exact hz

end Go.Proofs.YtgopfpmkbdhnnaaGreatDoor

/-
The closed facts of a row, joined out of single ones.
-/
namespace Go.Proofs.YtgopfpmkbdhnnaaGreatDoor

theorem joined_of {P : Program} {f : FuncId} {fn : Func} {s : ChangeSpec} {c : OpenClaim}
    (wf : c.wf (OpenSpec.ofChange s) = true) (laid : laidOutB P = true) (maps : mapsRowed P = true) (rd : fn.params.all (P.readableRec ·) = true) (nt : namedTie P c.named s.vars = true)
    (st : (c.stops == []) = true) (stp : (P.stops == []) = true) (kn : (c.knobs == []) = true) (knp : (P.stopKnobs == []) = true)
    (ip : (c.inPlace == P.inPlace f) = true) (uf : (c.unfollowed == P.unfollowed f) = true) (rc : (c.recurses == P.recurses f) = true) (nm : (c.named == P.varsNamed f) = true)
    (mp : (c.maps == (fn.params.toList ++ s.plain.varTypes P).any (P.mapsRec ·)) = true) (ic : (c.ifaces == (fn.params.toList ++ s.plain.varTypes P).any (P.ifacesRec ·)) = true) (mo : (c.mapsOut == P.mapsAmong fn.resultTypes.toList) = true)
    (lp : (c.loops == (fn.params.toList ++ s.plain.varTypes P).any (P.loopsFrom ·)) = true) (wk : (c.wideKeys == (fn.params.toList ++ s.plain.varTypes P ++ fn.resultTypes.toList).any (P.wideKeysFrom ·)) = true)
    (vr : s.vars.all (P.varReadable ·) = true) (rt : fn.resultTypes.all (fun t => P.readableRec t && decide (t < P.types.size)) = true) (io : (c.ifacesOut == fn.resultTypes.toList.any (P.ifacesRec ·)) = true) (lo : (c.loopsOut == fn.resultTypes.toList.any (P.loopsFrom ·)) = true)
    (pk : (c.plainKeys == P.plainKeys) = true) (sh : c.shortTexts.isNone = true) (hd : P.stopsHeard = true) (me : P.mayEnter = true) (li : (c.lifted == P.liftsFinal) = true) (mk : (P.make == some c.make) = true)
    (ki : (c.kinds == (if c.domain.isEmpty then [] else fn.params.toList.map fun t => match P.underlying t with | some (.int k) => some k | _ => none)) = true) (pi : (c.pinned == c.pinnedBy) = true)
    (ve : (c.veiled == (fn.params.toList ++ s.plain.varTypes P ++ fn.resultTypes.toList).any (P.veiledRec ·)) = true) (vf : c.veiledFits P fn.params.toList (fn.params.toList ++ s.plain.varTypes P ++ fn.resultTypes.toList) = true) :
    joinedFacts P f fn s c = true := by
  unfold joinedFacts
  simp only [Bool.and_eq_true]
  exact ⟨⟨⟨⟨⟨⟨⟨⟨⟨⟨⟨⟨⟨⟨⟨⟨⟨⟨⟨⟨⟨⟨⟨⟨⟨⟨⟨⟨⟨⟨⟨wf, laid⟩, maps⟩, rd⟩, nt⟩, st⟩, stp⟩, kn⟩, knp⟩, ip⟩, uf⟩, rc⟩, nm⟩, mp⟩, ic⟩, mo⟩, lp⟩, wk⟩, vr⟩, rt⟩, io⟩, lo⟩, pk⟩, sh⟩, hd⟩, me⟩, li⟩, mk⟩, ki⟩, pi⟩, ve⟩, vf⟩

end Go.Proofs.YtgopfpmkbdhnnaaGreatDoor
