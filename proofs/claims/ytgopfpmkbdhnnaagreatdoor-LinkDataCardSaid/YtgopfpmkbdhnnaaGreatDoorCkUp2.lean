/-
Slices that are owned: cut, appended to, cloned.
-/
import Derived.Test.YtgopfpmkbdhnnaaGreatDoorCkSeat
import Derived.Test.YtgopfpmkbdhnnaaGreatDoorCkTbl
set_option linter.unusedSimpArgs false
set_option linter.unusedVariables false
namespace Ck
open Go

theorem OSl.lenV {h : BF} {e n : Nat} {v : Value} {cs : List Value} {O : List Nat} (hs : OSl h e v cs O) (he : 0 < e) (hn : cs.length = n * e) : lenV v = some (.int .i64 n) := by
  obtain ⟨m, h1, h2⟩ := hs.row he
  have : m = n := Nat.eq_of_mul_eq_mul_right he (by omega)
  rw [← this]; exact h2.lenV

/-- A slice's first so many elements. -/
theorem OSl.take {H : Heap} {e : Nat} {v : Value} {cs : List Value} {O : List Nat} (hs : OSl H.blk e v cs O) {k : Nat} {kk : IntKind} (he : 0 < e) (hk : k * e ≤ cs.length) :
    ∃ v', sliceV e v none (some (.int kk (k : Int))) H = some v' ∧ OSl H.blk e v' (cs.take (k * e)) O := by
  rcases hs with ⟨rfl, rfl, rfl⟩ | ⟨b, n, c, full, rfl, h1, h2, h3, h4, rfl⟩
  · have : k = 0 := by
      rcases Nat.mul_eq_zero.1 (Nat.le_zero.1 hk) with h | h
      · exact h
      · omega
    subst this
    exact ⟨.slice none 0 0, by simp [sliceV, natOf], .inl ⟨by simp, rfl, rfl⟩⟩
  · have hkn : k ≤ n := Nat.le_of_mul_le_mul_right (by omega) he
    refine ⟨_, by simp only [sliceV, natOf_nat, Option.map_some, Option.map_none, Option.getD_some, Option.getD_none, Option.bind_some]; rw [if_pos ⟨Nat.zero_le _, hkn⟩]; simp only [h2, if_true]; simp only [Nat.zero_mul, Nat.add_zero, Nat.sub_zero, Nat.zero_add]; rfl, .inr ⟨b, k, _, full, rfl, ?_, h2, ?_, ?_, rfl⟩⟩
    · simp; omega
    · rw [List.length_take, Nat.min_eq_left hk, ← h3, List.take_take, Nat.min_eq_left hk]
    · simp; omega

/-- A row's part. -/
theorem Row.slice {H : Heap} {e n : Nat} {v : Value} {cs : List Value} (hr : Row H.blk e v n cs) {l h : Nat} {lo hi : Option Value} (hl : (lo.map natOf).getD (some 0) = some l) (hh : (hi.map natOf).getD (some n) = some h) (h1 : l ≤ h) (h2 : h ≤ n) :
    ∃ v', sliceV e v lo hi H = some v' ∧ Row H.blk e v' (h - l) ((cs.drop (l * e)).take ((h - l) * e)) := by
  obtain ⟨h3, ⟨rfl, rfl⟩ | ⟨b, o, c, ro, full, rfl, h4, h5, h6⟩⟩ := hr
  · obtain rfl : h = 0 := by omega
    obtain rfl : l = 0 := by omega
    have : cs = [] := by simpa using h3
    subst this
    exact ⟨.slice none 0 0, by simp [sliceV, hl, hh], by simp, .inl ⟨rfl, rfl⟩⟩
  · have hm : (h - l) * e + l * e = h * e := by rw [← Nat.add_mul]; congr 1; omega
    have hle : h * e ≤ n * e := Nat.mul_le_mul_right e h2
    refine ⟨_, by simp only [sliceV, hl, hh, Option.bind_some]; rw [if_pos ⟨h1, h2⟩]; simp only [h4, if_true]; rfl, ?_, .inr ⟨b, _, _, ro, full, rfl, h4, ?_, ?_⟩⟩
    · simp only [List.length_take, List.length_drop, h3]; omega
    · omega
    · rw [drop_take_lds h6 (by omega) h5]

theorem cellsV_some (e m b o n c : Nat) (H : Heap) : Ck.cellsV e m (.slice (some ⟨b, o, none⟩) n c) H = if m = 0 then some [] else if m ≤ n then H.lds b o (m * e) else none := rfl

theorem Row.cellsV {H : Heap} {e n m : Nat} {v : Value} {cs : List Value} (hr : Row H.blk e v n cs) (hm : m ≤ n) : Ck.cellsV e m v H = some (cs.take (m * e)) := by
  obtain ⟨h3, ⟨rfl, rfl⟩ | ⟨b, o, c, ro, full, rfl, h4, h5, h6⟩⟩ := hr
  · obtain rfl : m = 0 := by omega
    simp [Ck.cellsV]
  · have hle : m * e ≤ n * e := Nat.mul_le_mul_right e hm
    rw [cellsV_some]
    by_cases h0 : m = 0
    · subst h0; simp
    · rw [if_neg h0, if_pos hm]
      simp only [Heap.lds, h4]
      rw [if_pos (by omega), ← h6, List.take_take, Nat.min_eq_left hle]

theorem Own.one {H : Heap} {b : Nat} (h : b < H.next) : Own H [b] := ⟨by simp, by simpa using h⟩
theorem Own.nil (H : Heap) : Own H [] := ⟨by simp, by simp⟩

/-- Behind an append the slice is owned as before, or new. -/
theorem OSl.append {H : Heap} {e byt n m : Nat} {v x : Value} {cs new : List Value} {O : List Nat} (hs : OSl H.blk e v cs O) (he : 0 < e) (hn : cs.length = n * e) (hx : Row H.blk e x m new)
    (hb : (n + m) * (byt + 1) ≤ 2 ^ 40) (hO : ∀ b, b ∈ O → b < H.next) :
    ∃ v' H' O', appendV e byt v x H = some (v', H') ∧ OSl H'.blk e v' (cs ++ new) O' ∧ Own H' O' ∧ Up H O H' ∧ (∀ b, b ∈ O' → b ∈ O ∨ H.next ≤ b) ∧ (m ≠ 0 → O' = [H.next] ∧ H'.next = H.next + 1 ∧ ∃ c, v' = .slice (some ⟨H.next, 0, none⟩) (n + m) c) := by
  have hlen := hx.length
  have hnew : Ck.cellsV e m x H = some new := by rw [hx.cellsV (Nat.le_refl _), ← hlen, List.take_length]
  simp only [appendV, hx.lenN, hnew, Option.bind_some]
  by_cases h0 : m = 0
  · subst h0
    have : new = [] := by simpa using hlen
    subst this
    have hown : Own H O := by
      rcases hs with ⟨rfl, rfl, rfl⟩ | ⟨b, n', c, full, rfl, h1, h2, h3, h4, rfl⟩
      · exact Own.nil _
      · exact Own.one (hO b (by simp))
    refine ⟨v, H, O, ?_, by simpa using hs, hown, Up.refl _ _, fun b hb => .inl hb, fun h => absurd rfl h⟩
    rcases hs with ⟨rfl, rfl, rfl⟩ | ⟨b, n', c, full, rfl, h1, h2, h3, h4, rfl⟩ <;> simp [pushV]
  · rcases hs with ⟨rfl, rfl, rfl⟩ | ⟨b, n', c, full, rfl, h1, h2, h3, h4, rfl⟩
    · have hn0 : n = 0 := by
        rcases Nat.mul_eq_zero.1 (hn.symm) with h | h
        · exact h
        · omega
      subst hn0
      refine ⟨_, _, [H.next], by simp only [pushV, if_neg h0]; rw [if_pos hb]; simp only [Ck.cellsV, if_true, Option.bind_some, Heap.retire]; rfl, ?_, Own.one (by simp), up_new _ _ _, by simp, fun _ => ⟨rfl, rfl, _, rfl⟩⟩
      exact .inr ⟨H.next, 0 + m, _, _, rfl, by simp [hlen], new_same _ _, by simp, by simp, rfl⟩
    · have : n' = n := Nat.eq_of_mul_eq_mul_right he (by omega)
      subst this
      have hold : Ck.cellsV e n' (.slice (some ⟨b, 0, none⟩) n' c) H = some cs := by
        rw [cellsV_some]
        by_cases hz : n' = 0
        · subst hz
          have : cs = [] := by simpa using hn
          simp [this]
        · rw [if_neg hz, if_pos (Nat.le_refl _)]
          simp only [Heap.lds, h2, Nat.zero_add, List.drop_zero]
          rw [← h1, if_pos h4, h3]
      have key : ∀ H1 : Heap, H1.next = H.next → (Within H → Within H1) → (∀ c, c ≠ b → H1.blk c = H.blk c) → H.retire e (some ⟨b, 0, none⟩) n' c = some H1 →
          ∃ v' H' O', pushV e byt (.slice (some ⟨b, 0, none⟩) n' c) m new H = some (v', H') ∧ OSl H'.blk e v' (cs ++ new) O' ∧ Own H' O' ∧ Up H [b] H' ∧ (∀ c, c ∈ O' → c ∈ [b] ∨ H.next ≤ c) ∧ (m ≠ 0 → O' = [H.next] ∧ H'.next = H.next + 1 ∧ ∃ c, v' = .slice (some ⟨H.next, 0, none⟩) (n' + m) c) := by
        intro H1 hnx hwi hbl hre
        refine ⟨_, _, [H1.next], by simp only [pushV, if_neg h0]; rw [if_pos hb]; simp only [hold, hre, Option.bind_some]; rfl, ?_, Own.one (by simp), ?_, by simp [hnx], fun _ => ⟨by rw [hnx], by simp [hnx], _, by rw [hnx]⟩⟩
        · exact .inr ⟨H1.next, n' + m, _, _, rfl, by simp [hlen, h1, Nat.add_mul], new_same _ _, by rw [List.take_length], Nat.le_refl _, rfl⟩
        · refine ⟨by simp [hnx], fun c hc hn => ?_, fun w => within_new (hwi w) _⟩
          rw [new_other (by omega)]
          exact hbl c (by simpa using hn)
      by_cases hc : c = n'
      · exact key H rfl id (fun _ _ => rfl) (by simp [Heap.retire, hc])
      · exact key (H.set b none) rfl (fun w => within_none w b) (fun c hc => set_other hc) (by simp [Heap.retire, hc, h2])

/-- A new block. -/
theorem newV_ok {H : Heap} {f : Nat → Option (Value × Blk)} {v : Value} {x : Blk} (hf : f H.next = some (v, x)) :
    ∃ H1, newV f H = some (v, H1) ∧ H1.next = H.next + 1 ∧ H1.blk H.next = some x ∧ Up H [] H1 ∧ ∀ b, b < H.next → H1.blk b = H.blk b :=
  ⟨H.new x, by simp [hf, newV_eq], rfl, new_same _ _, up_new _ _ _, fun b hb => new_other hb⟩

end Ck

/-
The code of functions, as the machine runs it.
-/
set_option maxRecDepth 100000
set_option linter.unusedVariables false
namespace Ck
open Go
/-- (*cloakroom/step.machine).ends -/
noncomputable def m68 (C : Oracle) (a0 a1 : Value) (H : Heap) : Option (Value × Heap) :=
  (movV a0).bind fun v0 =>
  (nilchk v0).bind fun v1 =>
  (faddrV 0 v1).bind fun v2 =>
  (ldV false 1 v2 H).bind fun v3 =>
  (movV a1).bind fun v4 =>
  (buildV [(.slice none 0 0), (.slice none 0 0), (.bool false), (.int .i64 0), (.slice none 0 0)] [(2, 1, (.bool true)), (3, 1, v4)]).bind fun v5 =>
  (nilchk v3).bind fun v6 =>
  (stX 5 v6 v5 H).bind fun x7 =>
  some (.tuple #[], x7.2)

theorem c68 (a0 a1 : Value) (H : Heap) : call tbl 68 [a0, a1] H = m68 (call tbl) a0 a1 H :=
  (call_eqM 68 _ H).trans (by kernel_rfl)

/-- (*cloakroom/step.machine).stuck -/
noncomputable def m58 (C : Oracle) (a0 a1 : Value) (H : Heap) : Option (Value × Heap) :=
  (movV (.bool false)).bind fun v0 =>
  have j1 := fun (e2 : Env) (h3 : Heap) =>
    (movV (e2 1)).bind fun v4 =>
    (movV v4).bind fun v5 =>
    some (v5, h3)
  (movV a1).bind fun v6 =>
  ifK v6 (
    (movV a0).bind fun v7 =>
    (C 68 [v7, (.int .i64 17)] H).bind fun x8 =>
    j1 (upd (upd (env0 [a0, a1]) 4 v0) 5 v6) x8.2) (
    j1 (upd (upd (env0 [a0, a1]) 4 v0) 5 v6) H)

theorem c58 (a0 a1 : Value) (H : Heap) : call tbl 58 [a0, a1] H = m58 (call tbl) a0 a1 H :=
  (call_eqM 58 _ H).trans (by kernel_rfl)

/-- slices.Clone[[]uint64,uint64] -/
noncomputable def m83 (C : Oracle) (a0 : Value) (H : Heap) : Option (Value × Heap) :=
  (movV (.slice none 0 0)).bind fun v0 =>
  (movV a0).bind fun v1 =>
  (nilV .slice false v1).bind fun v2 =>
  ifK v2 (
    (movV (.slice none 0 0)).bind fun v3 =>
    some (v3, H)) (
    (newV (fun b => bsliceV 1 0 [(.int .u64 0)] [] b) H).bind fun x4 =>
    (movV a0).bind fun v5 =>
    (appendV 1 8 x4.1 v5 x4.2).bind fun x6 =>
    (movV x6.1).bind fun v7 =>
    some (v7, x6.2))

theorem c83 (a0 : Value) (H : Heap) : call tbl 83 [a0] H = m83 (call tbl) a0 H :=
  (call_eqM 83 _ H).trans (by kernel_rfl)

/-- (*cloakroom/step.machine).pops -/
noncomputable def m104 (C : Oracle) (a0 a1 : Value) (H : Heap) : Option (Value × Heap) :=
  (movV (.slice none 0 0)).bind fun v0 =>
  (movV (.bool false)).bind fun v1 =>
  (movV a0).bind fun v2 =>
  (nilchk v2).bind fun v3 =>
  (faddrV 0 v3).bind fun v4 =>
  (ldV false 1 v4 H).bind fun v5 =>
  (nilchk v5).bind fun v6 =>
  (faddrV 1 v6).bind fun v7 =>
  (ldV false 1 v7 H).bind fun v8 =>
  (lenV v8).bind fun v9 =>
  (movV a1).bind fun v10 =>
  (binV .sub v9 v10).bind fun v11 =>
  (movV v11).bind fun v12 =>
  (movV a1).bind fun v13 =>
  (binV .lss v13 (.int .i64 0)).bind fun v14 =>
  (movV v14).bind fun v15 =>
  (guardV (some (v15, false)) (movV v12)).bind fun v16 =>
  (guardV (some (v15, false)) (binV .lss v16 (.int .i64 0))).bind fun v17 =>
  (pickV v15 (.bool true) v17).bind fun v18 =>
  ifK v18 (
    (movV a0).bind fun v19 =>
    (C 68 [v19, (.int .i64 17)] H).bind fun x20 =>
    (movV (.slice none 0 0)).bind fun v21 =>
    (movV (.bool false)).bind fun v22 =>
    some (.tuple #[v21, v22], x20.2)) (
    (movV a0).bind fun v23 =>
    (nilchk v23).bind fun v24 =>
    (faddrV 0 v24).bind fun v25 =>
    (ldV false 1 v25 H).bind fun v26 =>
    (nilchk v26).bind fun v27 =>
    (faddrV 1 v27).bind fun v28 =>
    (ldV false 1 v28 H).bind fun v29 =>
    (movV v12).bind fun v30 =>
    (sliceV 1 v29 (some v30) none H).bind fun v31 =>
    (C 83 [v31] H).bind fun x32 =>
    (movV x32.1).bind fun v33 =>
    (movV a0).bind fun v34 =>
    (nilchk v34).bind fun v35 =>
    (faddrV 0 v35).bind fun v36 =>
    (ldV false 1 v36 x32.2).bind fun v37 =>
    (movV a0).bind fun v38 =>
    (nilchk v38).bind fun v39 =>
    (faddrV 0 v39).bind fun v40 =>
    (ldV false 1 v40 x32.2).bind fun v41 =>
    (nilchk v41).bind fun v42 =>
    (faddrV 1 v42).bind fun v43 =>
    (ldV false 1 v43 x32.2).bind fun v44 =>
    (movV v12).bind fun v45 =>
    (sliceV 1 v44 none (some v45) x32.2).bind fun v46 =>
    (nilchk v37).bind fun v47 =>
    (faddrV 1 v47).bind fun v48 =>
    (stX 1 v48 v46 x32.2).bind fun x49 =>
    (movV v33).bind fun v50 =>
    (movV v50).bind fun v51 =>
    (movV (.bool true)).bind fun v52 =>
    some (.tuple #[v51, v52], x49.2))

theorem c104 (a0 a1 : Value) (H : Heap) : call tbl 104 [a0, a1] H = m104 (call tbl) a0 a1 H :=
  (call_eqM 104 _ H).trans (by kernel_rfl)

/-- (*cloakroom/step.machine).push -/
noncomputable def m108 (C : Oracle) (a0 a1 : Value) (H : Heap) : Option (Value × Heap) :=
  (movV a0).bind fun v0 =>
  (nilchk v0).bind fun v1 =>
  (faddrV 0 v1).bind fun v2 =>
  (ldV false 1 v2 H).bind fun v3 =>
  (movV a0).bind fun v4 =>
  (nilchk v4).bind fun v5 =>
  (faddrV 0 v5).bind fun v6 =>
  (ldV false 1 v6 H).bind fun v7 =>
  (nilchk v7).bind fun v8 =>
  (faddrV 1 v8).bind fun v9 =>
  (ldV false 1 v9 H).bind fun v10 =>
  (movV a1).bind fun v11 =>
  (appendV 1 8 v10 v11 H).bind fun x12 =>
  again (ldV false 1 v2 x12.2) v3 (
  (nilchk v3).bind fun v13 =>
  (faddrV 1 v13).bind fun v14 =>
  (stX 1 v14 x12.1 x12.2).bind fun x15 =>
  some (.tuple #[], x15.2))

theorem c108 (a0 a1 : Value) (H : Heap) : call tbl 108 [a0, a1] H = m108 (call tbl) a0 a1 H :=
  (call_eqM 108 _ H).trans (by kernel_rfl)

/-- (*cloakroom/step.machine).lands -/
noncomputable def m168 (C : Oracle) (a0 a1 a2 : Value) (H : Heap) : Option (Value × Heap) :=
  (movV (.bool false)).bind fun v0 =>
  (movV a0).bind fun v1 =>
  (movV a1).bind fun v2 =>
  (C 104 [v1, v2] H).bind fun x3 =>
  (movV x3.1).bind fun v4 =>
  (extV v4 0).bind fun v5 =>
  (extV v4 1).bind fun v6 =>
  (movV v5).bind fun v7 =>
  (movV v6).bind fun v8 =>
  (movV v8).bind fun v9 =>
  (unV .not v9).bind fun v10 =>
  (movV v10).bind fun v11 =>
  (guardV (some (v11, false)) (movV a0)).bind fun v12 =>
  (guardV (some (v11, false)) (movV a2)).bind fun v13 =>
  (guardV (some (v11, false)) (binV .lss v13 (.int .i64 0))).bind fun v14 =>
  (guardV (some (v11, false)) (movV v14)).bind fun v15 =>
  (guardV (some (v15, false)) (movV a2)).bind fun v16 =>
  (guardV (some (v15, false)) (movV a0)).bind fun v17 =>
  (guardV (some (v15, false)) (nilchk v17)).bind fun v18 =>
  (guardV (some (v15, false)) (faddrV 0 v18)).bind fun v19 =>
  (guardV (some (v15, false)) (ldV false 1 v19 x3.2)).bind fun v20 =>
  (guardV (some (v15, false)) (nilchk v20)).bind fun v21 =>
  (guardV (some (v15, false)) (faddrV 1 v21)).bind fun v22 =>
  (guardV (some (v15, false)) (ldV false 1 v22 x3.2)).bind fun v23 =>
  (guardV (some (v15, false)) (lenV v23)).bind fun v24 =>
  (guardV (some (v15, false)) (binV .gtr v16 v24)).bind fun v25 =>
  (guardV (some (v11, false)) (pickV v15 (.bool true) v25)).bind fun v26 =>
  (guardH (some (v11, false)) (C 58 [v12, v26] x3.2) x3.2).bind fun x27 =>
  (pickV v11 (.bool true) x27.1).bind fun v28 =>
  ifK v28 (
    (movV (.bool false)).bind fun v29 =>
    some (v29, x27.2)) (
    (movV a0).bind fun v30 =>
    (nilchk v30).bind fun v31 =>
    (faddrV 0 v31).bind fun v32 =>
    (ldV false 1 v32 x27.2).bind fun v33 =>
    (movV a0).bind fun v34 =>
    (nilchk v34).bind fun v35 =>
    (faddrV 0 v35).bind fun v36 =>
    (ldV false 1 v36 x27.2).bind fun v37 =>
    (nilchk v37).bind fun v38 =>
    (faddrV 1 v38).bind fun v39 =>
    (ldV false 1 v39 x27.2).bind fun v40 =>
    (movV a2).bind fun v41 =>
    (sliceV 1 v40 none (some v41) x27.2).bind fun v42 =>
    (movV v7).bind fun v43 =>
    (appendV 1 8 v42 v43 x27.2).bind fun x44 =>
    again (ldV false 1 v32 x44.2) v33 (
    (nilchk v33).bind fun v45 =>
    (faddrV 1 v45).bind fun v46 =>
    (stX 1 v46 x44.1 x44.2).bind fun x47 =>
    (movV (.bool true)).bind fun v48 =>
    some (v48, x47.2)))

theorem c168 (a0 a1 a2 : Value) (H : Heap) : call tbl 168 [a0, a1, a2] H = m168 (call tbl) a0 a1 a2 H :=
  (call_eqM 168 _ H).trans (by kernel_rfl)

/-- (*cloakroom/step.machine).frame -/
noncomputable def m59 (C : Oracle) (a0 : Value) (H : Heap) : Option (Value × Heap) :=
  (movV (.pointer none)).bind fun v0 =>
  (movV a0).bind fun v1 =>
  (nilchk v1).bind fun v2 =>
  (faddrV 0 v2).bind fun v3 =>
  (ldV false 1 v3 H).bind fun v4 =>
  (nilchk v4).bind fun v5 =>
  (faddrV 0 v5).bind fun v6 =>
  (ldV false 1 v6 H).bind fun v7 =>
  (movV a0).bind fun v8 =>
  (nilchk v8).bind fun v9 =>
  (faddrV 0 v9).bind fun v10 =>
  (ldV false 1 v10 H).bind fun v11 =>
  (nilchk v11).bind fun v12 =>
  (faddrV 0 v12).bind fun v13 =>
  (ldV false 1 v13 H).bind fun v14 =>
  (lenV v14).bind fun v15 =>
  (binV .sub v15 (.int .i64 1)).bind fun v16 =>
  (iaddrV 6 v7 v16).bind fun v17 =>
  (movV v17).bind fun v18 =>
  some (v18, H)

theorem c59 (a0 : Value) (H : Heap) : call tbl 59 [a0] H = m59 (call tbl) a0 H :=
  (call_eqM 59 _ H).trans (by kernel_rfl)

/-- (*cloakroom/step.machine).leaves -/
noncomputable def m105 (C : Oracle) (a0 : Value) (H : Heap) : Option (Value × Heap) :=
  (movV a0).bind fun v0 =>
  (C 59 [v0] H).bind fun x1 =>
  (movV x1.1).bind fun v2 =>
  (movV a0).bind fun v3 =>
  (movV v2).bind fun v4 =>
  (nilchk v4).bind fun v5 =>
  (faddrV 2 v5).bind fun v6 =>
  (ldV false 1 v6 x1.2).bind fun v7 =>
  (movV v2).bind fun v8 =>
  (nilchk v8).bind fun v9 =>
  (faddrV 3 v9).bind fun v10 =>
  (ldV false 1 v10 x1.2).bind fun v11 =>
  (C 168 [v3, v7, v11] x1.2).bind fun x12 =>
  (unV .not x12.1).bind fun v13 =>
  ifK v13 (
    some (.tuple #[], x12.2)) (
    (movV a0).bind fun v14 =>
    (nilchk v14).bind fun v15 =>
    (faddrV 0 v15).bind fun v16 =>
    (ldV false 1 v16 x12.2).bind fun v17 =>
    (movV a0).bind fun v18 =>
    (nilchk v18).bind fun v19 =>
    (faddrV 0 v19).bind fun v20 =>
    (ldV false 1 v20 x12.2).bind fun v21 =>
    (nilchk v21).bind fun v22 =>
    (faddrV 0 v22).bind fun v23 =>
    (ldV false 1 v23 x12.2).bind fun v24 =>
    (movV a0).bind fun v25 =>
    (nilchk v25).bind fun v26 =>
    (faddrV 0 v26).bind fun v27 =>
    (ldV false 1 v27 x12.2).bind fun v28 =>
    (nilchk v28).bind fun v29 =>
    (faddrV 0 v29).bind fun v30 =>
    (ldV false 1 v30 x12.2).bind fun v31 =>
    (lenV v31).bind fun v32 =>
    (binV .sub v32 (.int .i64 1)).bind fun v33 =>
    (sliceV 6 v24 none (some v33) x12.2).bind fun v34 =>
    (nilchk v17).bind fun v35 =>
    (faddrV 0 v35).bind fun v36 =>
    (stX 1 v36 v34 x12.2).bind fun x37 =>
    (movV a0).bind fun v38 =>
    (nilchk v38).bind fun v39 =>
    (faddrV 0 v39).bind fun v40 =>
    (ldV false 1 v40 x37.2).bind fun v41 =>
    (nilchk v41).bind fun v42 =>
    (faddrV 0 v42).bind fun v43 =>
    (ldV false 1 v43 x37.2).bind fun v44 =>
    (lenV v44).bind fun v45 =>
    (binV .eql v45 (.int .i64 0)).bind fun v46 =>
    ifK v46 (
      (movV a0).bind fun v47 =>
      (nilchk v47).bind fun v48 =>
      (faddrV 0 v48).bind fun v49 =>
      (ldV false 1 v49 x37.2).bind fun v50 =>
      (movV a0).bind fun v51 =>
      (nilchk v51).bind fun v52 =>
      (faddrV 0 v52).bind fun v53 =>
      (ldV false 1 v53 x37.2).bind fun v54 =>
      (nilchk v54).bind fun v55 =>
      (faddrV 1 v55).bind fun v56 =>
      (ldV false 1 v56 x37.2).bind fun v57 =>
      (buildV [(.slice none 0 0), (.slice none 0 0), (.bool false), (.int .i64 0), (.slice none 0 0)] [(2, 1, (.bool true)), (4, 1, v57)]).bind fun v58 =>
      (nilchk v50).bind fun v59 =>
      (stX 5 v59 v58 x37.2).bind fun x60 =>
      some (.tuple #[], x60.2)) (
      some (.tuple #[], x37.2)))

theorem c105 (a0 : Value) (H : Heap) : call tbl 105 [a0] H = m105 (call tbl) a0 H :=
  (call_eqM 105 _ H).trans (by kernel_rfl)

/-- cloakroom/step.has -/
noncomputable def m99 (C : Oracle) (a0 a1 : Value) (H : Heap) : Option (Value × Heap) :=
  (movV (.bool false)).bind fun v0 =>
  (movV a0).bind fun v1 =>
  (convV .u64 v1).bind fun v2 =>
  (movV a1).bind fun v3 =>
  (convV .u64 v3).bind fun v4 =>
  (binV .lss v2 v4).bind fun v5 =>
  (movV v5).bind fun v6 =>
  some (v6, H)

theorem c99 (a0 a1 : Value) (H : Heap) : call tbl 99 [a0, a1] H = m99 (call tbl) a0 a1 H :=
  (call_eqM 99 _ H).trans (by kernel_rfl)

end Ck

/-
The program's machine: a call's own parts.
-/
set_option linter.unusedSimpArgs false
set_option linter.unusedVariables false
namespace Ck
open Go

structure Mac (H : Heap) (pm pc : Nat) (x y vf : Value) (c : Cf) (O : List Nat) : Prop where
  m : H.blk pm = some (.cells 3 false [pt pc 0, x, y])
  c : CfH H.blk pc vf c O
  own : Own H O
  pmO : pm ∉ O
  pmlt : pm < H.next
  wi : Within H

theorem Mac.mk' {H : Heap} {pm pc : Nat} {x y vf : Value} {c : Cf} {O : List Nat} (h : Mac H pm pc x y vf c O) : CfH H.blk pc vf c O ∧ Own H O ∧ pm ∉ O ∧ pm < H.next ∧ Within H := ⟨h.c, h.own, h.pmO, h.pmlt, h.wi⟩

/-- What a step of a call leaves. -/
def PostC (H : Heap) (pm pc : Nat) (x y : Value) (O : List Nat) (vf : Value) (c : Cf) (H' : Heap) : Prop :=
  ∃ O', Mac H' pm pc x y vf c O' ∧ Up H O H' ∧ (∀ b, b ∈ O' → b ∈ O ∨ H.next ≤ b)

theorem PostC.refl {H : Heap} {pm pc : Nat} {x y vf : Value} {c : Cf} {O : List Nat} (h : Mac H pm pc x y vf c O) : PostC H pm pc x y O vf c H :=
  ⟨O, h, Up.refl _ _, fun _ hb => .inl hb⟩

theorem PostC.trans {H H1 H2 : Heap} {pm pc : Nat} {x y vf : Value} {c : Cf} {O O1 : List Nat} (hu : Up H O H1) (hs : ∀ b, b ∈ O1 → b ∈ O ∨ H.next ≤ b) (h : PostC H1 pm pc x y O1 vf c H2) : PostC H pm pc x y O vf c H2 := by
  obtain ⟨O2, h1, h2, h3⟩ := h
  refine ⟨O2, h1, hu.trans h2 hs, fun b hb => ?_⟩
  rcases h3 b hb with h | h
  · exact hs b h
  · exact .inr (Nat.le_trans hu.le h)

theorem Own.perm {H : Heap} {A B : List Nat} (h : Own H A) (hp : A.Perm B) : Own H B := ⟨hp.nodup h.1, fun b hb => h.2 b (hp.mem_iff.2 hb)⟩

theorem Own.swap {H H1 : Heap} {A A' R : List Nat} (h : Own H (A ++ R)) (hU : H.next ≤ H1.next) (h' : Own H1 A') (hsub : ∀ b, b ∈ A' → b ∈ A ∨ H.next ≤ b) : Own H1 (A' ++ R) := by
  obtain ⟨hn, hl⟩ := h
  rw [List.nodup_append] at hn
  refine ⟨List.nodup_append.2 ⟨h'.1, hn.2.1, fun a ha b hb e => ?_⟩, fun b hb => ?_⟩
  · subst e
    rcases hsub a ha with h | h
    · exact hn.2.2 a h a hb rfl
    · have := hl a (by simp [hb]); omega
  · rcases List.mem_append.1 hb with h | h
    · exact h'.2 b h
    · exact Nat.lt_of_lt_of_le (hl b (by simp [h])) hU

theorem ends_ok {H : Heap} {pm pc : Nat} {x y vf : Value} {c : Cf} {O : List Nat} (h : Mac H pm pc x y vf c O) (e : Int) :
    Wp (call tbl 68 [pt pm 0, i64 e] H) fun r => r.1 = .tuple #[] ∧ PostC H pm pc x y O (.slice none 0 0) (P.stop e) r.2 := by
  obtain ⟨hm, ⟨vs, vv, cf, Ob, Of, Os, Ov, h1, h2, h3, h4, h5, rfl⟩, ho, hp, hl, hw⟩ := h
  have hne : pm ≠ pc := fun e => hp (by simp [e])
  have hpc : pc < H.next := ho.2 pc (by simp)
  rw [c68]
  unfold m68
  simp [ld_of hm, buildV, fillV, splice, Value.cells, stX_agg h1]
  refine ⟨[pc], ⟨?_, ?_, ?_, by simp [hne], hl, within_set hw _ hpc⟩, up_set (by simp) hpc, by simp⟩
  · rw [set_other hne]; exact hm
  · exact ⟨_, _, [], [], [], [], [], by simp [P.stop], .inl ⟨rfl, rfl, rfl⟩, ⟨rfl, rfl⟩, .inl ⟨rfl, rfl, rfl⟩, .inl ⟨rfl, rfl, rfl⟩, rfl⟩
  · exact ⟨by simp, by simp; exact ho.2 pc (by simp)⟩

/-- A new stack. -/
theorem cf_stack {H H1 : Heap} {pm pc : Nat} {x y vf vs vv v' : Value} {cf : List Value} {Ob Of Os Ov Os' : List Nat} {c : Cf} {st : List Int}
    (hm : H.blk pm = some (.cells 3 false [pt pc 0, x, y])) (h1 : H.blk pc = some (.cells 5 false [vf, vs, .bool c.over, i64 c.err, vv])) (h2 : OSl H.blk 6 vf cf Ob) (h3 : FrsC H.blk cf c.frames Of) (h5 : OSl H.blk 1 vv (c.values.map u64) Ov)
    (ho : Own H (pc :: (Os ++ (Ob ++ (Of ++ Ov))))) (hp : pm ∉ pc :: (Os ++ (Ob ++ (Of ++ Ov)))) (hl : pm < H.next) (hw : Within H)
    (hU : Up H Os H1) (hS : OSl H1.blk 1 v' (st.map u64) Os') (hO : Own H1 Os') (hsub : ∀ b, b ∈ Os' → b ∈ Os ∨ H.next ≤ b) :
    PostC H pm pc x y (pc :: (Os ++ (Ob ++ (Of ++ Ov)))) vf { c with stack := st } (H1.set pc (some (.cells 5 false [vf, v', .bool c.over, i64 c.err, vv]))) := by
  have hnd := ho.1
  simp only [List.nodup_cons, List.nodup_append, List.mem_append, not_or] at hnd
  simp only [List.mem_cons, List.mem_append, not_or] at hp
  have hlt : ∀ b, b ∈ pc :: (Os ++ (Ob ++ (Of ++ Ov))) → b < H.next := ho.2
  have hpc : pc < H.next := hlt pc (by simp)
  have hown : Own H1 (Os' ++ (pc :: (Ob ++ (Of ++ Ov)))) := (ho.perm List.perm_middle.symm).swap hU.le hO hsub
  have hk : ∀ b, b ∈ Ob ++ (Of ++ Ov) → (H1.set pc (some (.cells 5 false [vf, v', .bool c.over, i64 c.err, vv]))).blk b = H.blk b := by
    intro b hb
    have hb1 : b < H.next := hlt b (by simp at hb ⊢; exact .inr (.inr hb))
    rw [set_other (fun e => by subst e; simp at hb; exact absurd hb (by simp [hnd.1.2])), hU.eq b hb1 fun hbo => (hnd.2.2.2 b hbo b (by simpa using hb)) rfl]
  refine ⟨pc :: (Os' ++ (Ob ++ (Of ++ Ov))), ⟨?_, ?_, hown.perm List.perm_middle, ?_, Nat.lt_of_lt_of_le hl hU.le, within_set (hU.wi hw) _ (Nat.lt_of_lt_of_le hpc hU.le)⟩, ?_, ?_⟩
  · rw [set_other hp.1, hU.eq pm hl hp.2.1]; exact hm
  · refine ⟨v', vv, cf, Ob, Of, Os', Ov, set_same _ _ _, h2.keep fun b hb => hk b (by simp [hb]), h3.keep fun b hb => hk b (by simp [hb]), hS.keep fun b hb => set_other fun e => ?_, h5.keep fun b hb => hk b (by simp [hb]), rfl⟩
    subst e
    rcases hsub b hb with h | h
    · exact hnd.1.1 h
    · omega
  · simp only [List.mem_cons, List.mem_append, not_or]
    refine ⟨hp.1, fun h => ?_, hp.2.2⟩
    rcases hsub pm h with h | h
    · exact hp.2.1 h
    · omega
  · exact (hU.mono fun b hb => by simp [hb]).trans (up_set (O := [pc]) (by simp) (Nat.lt_of_lt_of_le hpc hU.le)) fun b hb => by simp at hb; simp [hb]
  · intro b hb
    simp only [List.mem_cons, List.mem_append] at hb ⊢
    rcases hb with h | h | h
    · exact .inl (.inl h)
    · rcases hsub b h with h | h
      · exact .inl (.inr (.inl h))
      · exact .inr h
    · exact .inl (.inr (.inr h))

theorem push_ok {H : Heap} {pm pc : Nat} {x y vf v : Value} {c : Cf} {O : List Nat} {l : List Int} (h : Mac H pm pc x y vf c O) (hr : RA u64 H.blk v l) (hb : c.stack.length + l.length ≤ 2 ^ 20) :
    Wp (call tbl 108 [pt pm 0, v] H) fun r => r.1 = .tuple #[] ∧ PostC H pm pc x y O vf (P.push l c) r.2 := by
  obtain ⟨hm, ⟨vs, vv, cf, Ob, Of, Os, Ov, h1, h2, h3, h4, h5, rfl⟩, ho, hp, hl, hw⟩ := h
  have hnd := ho.1
  have hlt : ∀ b, b ∈ pc :: (Os ++ (Ob ++ (Of ++ Ov))) → b < H.next := ho.2
  simp only [List.nodup_cons, List.nodup_append, List.mem_append, not_or] at hnd
  obtain ⟨v', H', O', e1, e2, e3, e4, e5, _⟩ := h4.append (byt := 8) (n := c.stack.length) (by decide) (by simp) hr (by omega) fun b hb => hlt b (by simp [hb])
  have k1 : H'.blk pm = some (.cells 3 false [pt pc 0, x, y]) := by rw [e4.eq pm hl fun hh => hp (by simp [hh])]; exact hm
  have k2 : H'.blk pc = some (.cells 5 false [vf, vs, .bool c.over, i64 c.err, vv]) := by rw [e4.eq pc (hlt pc (by simp)) hnd.1.1]; exact h1
  rw [c108]
  unfold m108
  simp [ld_of hm, ld_of h1, e1, ld_of k1, stX_val k2, e2.flat]
  exact cf_stack hm h1 h2 h3 h5 ho hp hl hw e4 (by simpa using e2) e3 e5

end Ck

/-
The program's machine: values off the stack, the last frame.
-/
set_option linter.unusedSimpArgs false
set_option linter.unusedVariables false
namespace Ck
open Go

theorem bslice0 (e : Nat) (z : List Value) (b : Nat) : bsliceV e 0 z [] b = some (.slice (some ⟨b, 0, none⟩) 0 0, .cells e false []) := by
  simp [bsliceV, zerosV, fillV]

theorem Own.lt {H : Heap} {O : List Nat} (h : Own H O) : ∀ b, b ∈ O → b < H.next := h.2
theorem Own.up {H H' : Heap} {O : List Nat} (h : Own H O) (hl : H.next ≤ H'.next) : Own H' O := ⟨h.1, fun b hb => Nat.lt_of_lt_of_le (h.2 b hb) hl⟩

theorem new_slice {H : Heap} {e : Nat} {v : Value} {n : Nat} {cs : List Value} {byt : Nat} (hr : Row H.blk e v n cs) (hw : Within H) (he : 0 < e) (hb : n * (byt + 1) ≤ 2 ^ 40) :
    ∃ v' H' T, appendV e byt (.slice (some ⟨H.next, 0, none⟩) 0 0) v (H.new (.cells e false [])) = some (v', H') ∧ OSl H'.blk e v' cs T ∧ Own H' T ∧ Up H [] H' ∧ ∀ b, b ∈ T → H.next ≤ b := by
  have hrow : Row (H.new (.cells e false [])).blk e v n cs := hr.keep (O := []) hw (up_new _ _ _) (.inr (by simp))
  have hs : OSl (H.new (.cells e false [])).blk e (.slice (some ⟨H.next, 0, none⟩) 0 0) [] [H.next] := .inr ⟨H.next, 0, 0, [], rfl, by simp, new_same _ _, rfl, by simp, rfl⟩
  obtain ⟨v', H', O', e1, e2, e3, e4, e5, _⟩ := hs.append (byt := byt) (n := 0) he (by simp) hrow (by simpa using hb) (by simp)
  exact ⟨v', H', O', e1, by simpa using e2, e3, (up_new H [] _).trans e4 (fun b hb => by simp at hb; simp [hb]), fun b hb => by
    rcases e5 b hb with h | h
    · simp at h; omega
    · simp at h; omega⟩

/-- A clone, of numbers. -/
theorem clone64_ok {H : Heap} {v : Value} {n : Nat} {cs : List Value} (hr : Row H.blk 1 v n cs) (hw : Within H) (hb : n ≤ 2 ^ 30) :
    Wp (call tbl 83 [v] H) fun r => ∃ T, OSl r.2.blk 1 r.1 cs T ∧ Own r.2 T ∧ Up H [] r.2 ∧ ∀ b, b ∈ T → H.next ≤ b := by
  rw [c83]
  unfold m83
  obtain ⟨v', H', T, e1, e2⟩ := new_slice (byt := 8) hr hw (by decide) (by omega)
  obtain ⟨h1, ⟨rfl, rfl⟩ | ⟨b, o, c, ro, full, rfl, h4, h5, h6⟩⟩ := hr
  · simp [nilV, isNil]
    exact ⟨[], .inl ⟨by simpa using h1, rfl, rfl⟩, Own.nil _, Up.refl _ _, by simp⟩
  · simp [nilV, isNil, bslice0, newV_eq, e1]
    exact ⟨T, e2⟩


/-- Behind a step in which nothing new was owned. -/
def PostS (H : Heap) (pm pc : Nat) (x y : Value) (O : List Nat) (vf : Value) (c : Cf) (H' : Heap) : Prop :=
  ∃ O', Mac H' pm pc x y vf c O' ∧ Up H O H' ∧ (∀ b, b ∈ O' → b ∈ O)

theorem PostS.post {H : Heap} {pm pc : Nat} {x y : Value} {O : List Nat} {vf : Value} {c : Cf} {H' : Heap} (h : PostS H pm pc x y O vf c H') : PostC H pm pc x y O vf c H' := by
  obtain ⟨O', h1, h2, h3⟩ := h
  exact ⟨O', h1, h2, fun b hb => .inl (h3 b hb)⟩

theorem ends_ok' {H : Heap} {pm pc : Nat} {x y vf : Value} {c : Cf} {O : List Nat} (h : Mac H pm pc x y vf c O) (e : Int) :
    Wp (call tbl 68 [pt pm 0, i64 e] H) fun r => r.1 = .tuple #[] ∧ PostS H pm pc x y O (.slice none 0 0) (P.stop e) r.2 := by
  obtain ⟨hm, ⟨vs, vv, cf, Ob, Of, Os, Ov, h1, h2, h3, h4, h5, rfl⟩, ho, hp, hl, hw⟩ := h
  have hne : pm ≠ pc := fun e => hp (by simp [e])
  have hpc : pc < H.next := ho.2 pc (by simp)
  rw [c68]
  unfold m68
  simp [ld_of hm, buildV, fillV, splice, Value.cells, stX_agg h1]
  refine ⟨[pc], ⟨?_, ?_, ?_, by simp [hne], hl, within_set hw _ hpc⟩, up_set (by simp) hpc, by simp⟩
  · rw [set_other hne]; exact hm
  · exact ⟨_, _, [], [], [], [], [], by simp [P.stop], .inl ⟨rfl, rfl, rfl⟩, ⟨rfl, rfl⟩, .inl ⟨rfl, rfl, rfl⟩, .inl ⟨rfl, rfl, rfl⟩, rfl⟩
  · exact ⟨by simp, by simp; exact ho.2 pc (by simp)⟩

theorem pops_ok {H : Heap} {pm pc : Nat} {x y vf : Value} {c : Cf} {O : List Nat} (h : Mac H pm pc x y vf c O) (n : Int) (hn : n ≤ 2 ^ 30) (hb : c.stack.length ≤ 2 ^ 20) :
    Wp (call tbl 104 [pt pm 0, i64 n] H) fun r => match P.pops n c with
      | (none, c') => r.1 = .tuple #[.slice none 0 0, .bool false] ∧ PostS H pm pc x y O (.slice none 0 0) c' r.2
      | (some l, c') => ∃ v T, r.1 = .tuple #[v, .bool true] ∧ OSl r.2.blk 1 v (l.map u64) T ∧ Own r.2 T ∧ (∀ b, b ∈ T → H.next ≤ b) ∧ PostS H pm pc x y O vf c' r.2 := by
  have h0 := h
  obtain ⟨hm, ⟨vs, vv, cf, Ob, Of, Os, Ov, h1, h2, h3, h4, h5, rfl⟩, ho, hp, hl, hw⟩ := h
  have hnd := ho.1
  have hlt : ∀ b, b ∈ pc :: (Os ++ (Ob ++ (Of ++ Ov))) → b < H.next := ho.2
  simp only [List.nodup_cons, List.nodup_append, List.mem_append, not_or] at hnd
  obtain ⟨m, hm1, hrow⟩ := h4.row (by decide)
  have hm2 : m = c.stack.length := by simpa using hm1.symm
  subst hm2
  refine Wp.via fun Q hQ => ?_
  rw [c104]
  unfold m104
  by_cases hcase : n < 0 ∨ (c.stack.length : Int) - n < 0
  · have hP : P.pops n c = (none, P.stop 17) := by simp only [P.pops]; rw [if_pos hcase]
    rw [hP] at hQ
    by_cases hn0 : n < 0
    · have hsub : ∃ k, binV .sub (i64 c.stack.length) (i64 n) = some (i64 k) := ⟨_, binV_sub _ _ _⟩
      obtain ⟨k, hk⟩ := hsub
      simp [ld_of hm, ld_of h1, hrow.lenV, hk, hn0]
      refine Wp.step (ends_ok' h0 17) ?_
      rintro ⟨v, H'⟩ ⟨-, h2⟩
      exact wp_some.2 (hQ _ ⟨rfl, h2⟩)
    · have hlt2 : (c.stack.length : Int) - n < 0 := hcase.resolve_left hn0
      simp [ld_of hm, ld_of h1, hrow.lenV, sub_i64 (a := c.stack.length) (b := n) (by omega), hn0, hlt2]
      refine Wp.step (ends_ok' h0 17) ?_
      rintro ⟨v, H'⟩ ⟨-, h2⟩
      exact wp_some.2 (hQ _ ⟨rfl, h2⟩)
  · have hn0 : ¬ n < 0 := fun h => hcase (.inl h)
    have hge : ¬ (c.stack.length : Int) - n < 0 := fun h => hcase (.inr h)
    obtain ⟨k, hk⟩ : ∃ k : Nat, (c.stack.length : Int) - n = k := ⟨((c.stack.length : Int) - n).toNat, by omega⟩
    have hP : P.pops n c = (some (c.stack.drop k), { c with stack := c.stack.take k }) := by simp only [P.pops]; rw [if_neg hcase, hk, Int.toNat_natCast]
    rw [hP] at hQ
    have hkl : k ≤ c.stack.length := by omega
    obtain ⟨v1, e1, r1⟩ := hrow.slice (l := k) (h := c.stack.length) (lo := some (i64 k)) (hi := none) (by simp [natOf_nat]) (by simp) hkl (Nat.le_refl _)
    simp [ld_of hm, ld_of h1, hrow.lenV, sub_i64 (a := c.stack.length) (b := n) (by omega), hn0, hge, hk, e1]
    refine Wp.step (clone64_ok r1 hw (by omega)) ?_
    rintro ⟨v2, H1⟩ ⟨T, t1, t2, t3, t4⟩
    have k1 : H1.blk pm = some (.cells 3 false [pt pc 0, x, y]) := by rw [t3.eq pm hl (by simp)]; exact hm
    have hpc : pc < H.next := hlt pc (by simp)
    have k2 : H1.blk pc = some (.cells 5 false [vf, vs, .bool c.over, i64 c.err, vv]) := by rw [t3.eq pc hpc (by simp)]; exact h1
    have k4 : OSl H1.blk 1 vs (c.stack.map u64) Os := h4.keep fun b hb => t3.eq b (hlt b (by simp [hb])) (by simp)
    obtain ⟨v3, f1, f2⟩ := k4.take (k := k) (kk := .i64) (by decide) (by simpa using hkl)
    simp [ld_of k1, ld_of k2, f1, stX_val k2, f2.flat]
    refine hQ _ ⟨v2, T, rfl, ?_, t2.up (by simp), t4, pc :: (Os ++ (Ob ++ (Of ++ Ov))), ⟨?_, ⟨v3, vv, cf, Ob, Of, Os, Ov, set_same _ _ _, ?_, ?_, ?_, ?_, rfl⟩, ho.up t3.le, hp, Nat.lt_of_lt_of_le hl t3.le, within_set (t3.wi hw) _ (Nat.lt_of_lt_of_le hpc t3.le)⟩, ?_, fun b hb => hb⟩
    · have : (List.take ((c.stack.length - k) * 1) (List.drop (k * 1) (List.map u64 c.stack))) = List.drop k (List.map u64 c.stack) := by
        simp only [Nat.mul_one]
        exact List.take_of_length_le (by simp)
      rw [this] at t1
      rw [List.map_drop]
      exact t1.keep fun b hb => set_other fun e => by subst e; have := t4 _ hb; omega
    · rw [set_other fun e => hp (by simp [e])]; exact k1
    · exact h2.keep fun b hb => by
        rw [set_other fun e => by subst e; exact hnd.1.2.1 hb, t3.eq b (hlt b (by simp [hb])) (by simp)]
    · exact h3.keep fun b hb => by
        rw [set_other fun e => by subst e; exact hnd.1.2.2.1 hb, t3.eq b (hlt b (by simp [hb])) (by simp)]
    · rw [List.map_take]
      exact (by simpa using f2 : OSl H1.blk 1 v3 (List.take k (List.map u64 c.stack)) Os).keep fun b hb => set_other fun e => by subst e; exact hnd.1.1 hb
    · exact h5.keep fun b hb => by
        rw [set_other fun e => by subst e; exact hnd.1.2.2.2 hb, t3.eq b (hlt b (by simp [hb])) (by simp)]
    · exact (t3.mono (by simp)).trans (up_set (O := [pc]) (by simp) (Nat.lt_of_lt_of_le hpc t3.le)) fun b hb => by simp at hb; simp [hb]

end Ck

/-
The program's machine: the last frame; values that land; a frame that is left.
-/
set_option linter.unusedSimpArgs false
set_option linter.unusedVariables false
namespace Ck
open Go

theorem stuck_no (a : Value) (H : Heap) : call tbl 58 [a, .bool false] H = some (.bool false, H) := by
  rw [c58]; simp [m58]

theorem stuck_yes {H : Heap} {pm pc : Nat} {x y vf : Value} {c : Cf} {O : List Nat} (h : Mac H pm pc x y vf c O) :
    Wp (call tbl 58 [pt pm 0, .bool true] H) fun r => r.1 = .bool true ∧ PostS H pm pc x y O (.slice none 0 0) (P.stop 17) r.2 := by
  refine Wp.via fun Q hQ => ?_
  rw [c58]
  simp [m58]
  refine Wp.step (ends_ok' h 17) ?_
  rintro ⟨v, H'⟩ ⟨-, h2⟩
  simp
  exact hQ _ ⟨rfl, h2⟩

theorem has_ok (n : Int) (size : Nat) (H : Heap) (h0 : 0 ≤ n) (h1 : n < 4294967296) (h2 : size < 2 ^ 60) : call tbl 99 [u32 n, i64 size] H = some (.bool (P.has n size), H) := by
  rw [c99]; simp [m99, wrap_u64 (n := n) (by omega), wrap_u64 (n := (size : Int)) (by omega), P.has]

theorem Mac.len {H : Heap} {pm pc : Nat} {x y vf : Value} {c : Cf} {O : List Nat} (h : Mac H pm pc x y vf c O) : lenV vf = some (i64 c.frames.length) := by
  obtain ⟨hm, ⟨vs, vv, cf, Ob, Of, Os, Ov, h1, h2, h3, h4, h5, rfl⟩, ho, hp, hl, hw⟩ := h
  exact h2.lenV (by decide) h3.length

theorem Mac.conf {H : Heap} {pm pc : Nat} {x y vf : Value} {c : Cf} {O : List Nat} (h : Mac H pm pc x y vf c O) : ∃ vs vv, H.blk pc = some (.cells 5 false [vf, vs, .bool c.over, i64 c.err, vv]) ∧ Row H.blk 1 vs c.stack.length (c.stack.map u64) := by
  obtain ⟨hm, ⟨vs, vv, cf, Ob, Of, Os, Ov, h1, h2, h3, h4, h5, rfl⟩, ho, hp, hl, hw⟩ := h
  obtain ⟨m, hm1, hrow⟩ := h4.row (by decide)
  have hm2 : m = c.stack.length := by simpa using hm1.symm
  exact ⟨vs, vv, h1, hm2 ▸ hrow⟩

/-- The last frame's place. -/
def fo (c : Cf) : Nat := (c.frames.length - 1) * 6

theorem frame_ok {H : Heap} {pm pc : Nat} {x y vf : Value} {c : Cf} {O : List Nat} (h : Mac H pm pc x y vf c O) (hf : c.frames ≠ []) (hb : c.frames.length ≤ 2 ^ 20) :
    call tbl 59 [pt pm 0] H = some (pt (slB vf) (fo c), H) := by
  obtain ⟨hm, ⟨vs, vv, cf, Ob, Of, Os, Ov, h1, h2, h3, h4, h5, rfl⟩, ho, hp, hl, hw⟩ := h
  have hpos : 0 < c.frames.length := List.length_pos_iff.2 hf
  have hlen := h2.lenV (by decide) h3.length
  obtain ⟨m, hm1, hrow⟩ := h2.row (by decide)
  have hm2 : m = c.frames.length := by have := h3.length; omega
  subst hm2
  have hO : slO vf = 0 := by
    rcases h2 with ⟨_, rfl, _⟩ | ⟨b, n, cc, full, rfl, _⟩ <;> rfl
  have hi := hrow.iaddr (k := .i64) (i := (c.frames.length : Int) - 1) (by omega) (by omega)
  have ht : ((c.frames.length : Int) - 1).toNat = c.frames.length - 1 := by omega
  rw [hO, ht, Nat.zero_add] at hi
  rw [c59]
  simp [m59, ld_of hm, ld_of h1, hlen, sub_i64 (a := c.frames.length) (b := 1) (by omega), hi, fo]

/-- The last frame's cells. -/
theorem Mac.top {H : Heap} {pm pc : Nat} {x y vf : Value} {c : Cf} {O : List Nat} (h : Mac H pm pc x y vf c O) (hf : c.frames ≠ []) :
    ∃ full vl vb ol ob, H.blk (slB vf) = some (.cells 6 false full) ∧ fo c + 6 ≤ full.length ∧ full[fo c]? = some (i64 (P.top c).fn) ∧ full[fo c + 1]? = some (i64 (P.top c).at_) ∧ full[fo c + 2]? = some (i64 (P.top c).ar) ∧ full[fo c + 3]? = some (i64 (P.top c).ht) ∧
      full[fo c + 4]? = some vl ∧ full[fo c + 5]? = some vb ∧ OSl H.blk 1 vl ((P.top c).locals.map u64) ol ∧ OSl H.blk 3 vb (ldcells (P.top c).labels) ob ∧ slB vf ∈ O ∧ slB vf ≠ pc ∧ (∀ b, b ∈ ol → b ∈ O) ∧ (∀ b, b ∈ ob → b ∈ O) := by
  obtain ⟨hm, ⟨vs, vv, cf, Ob, Of, Os, Ov, h1, h2, h3, h4, h5, rfl⟩, ho, hp, hl, hw⟩ := h
  obtain ⟨fs, f, hfs⟩ : ∃ fs f, c.frames = fs ++ [f] := ⟨c.frames.dropLast, c.frames.getLast hf, (List.dropLast_concat_getLast hf).symm⟩
  have htop : P.top c = f := by simp [P.top, hfs]
  have hfo : fo c = fs.length * 6 := by simp [fo, hfs]
  rw [htop, hfo]
  rw [hfs] at h3
  have hlen3 := h3.length
  obtain ⟨c1, c2, O1, O2, rfl, k1, ⟨vl, vb, ol, ob, rfl, k2, k3, rfl⟩, rfl⟩ := FrsC.snoc.1 h3
  have hc1 := k1.length
  rcases h2 with ⟨hnil, _⟩ | ⟨b, n, cc, full, rfl, g1, g2, g3, g4, rfl⟩
  · simp at hnil
  · have hget : ∀ j, j < 6 → full[fs.length * 6 + j]? = ([i64 f.fn, i64 f.at_, i64 f.ar, i64 f.ht, vl, vb] : List Value)[j]? := by
      intro j hj
      have : (c1 ++ [i64 f.fn, i64 f.at_, i64 f.ar, i64 f.ht, vl, vb])[fs.length * 6 + j]? = full[fs.length * 6 + j]? := by
        rw [← g3, List.getElem?_take, if_pos (by simp [hc1]; omega)]
      rw [← this, ← hc1, List.getElem?_append_right (by omega)]
      congr 1
      omega
    have hnd := ho.1
    simp only [List.nodup_cons, List.nodup_append, List.mem_append, not_or] at hnd
    refine ⟨full, vl, vb, ol, ob, g2, ?_, hget 0 (by decide), hget 1 (by decide), hget 2 (by decide), hget 3 (by decide), hget 4 (by decide), hget 5 (by decide), k2, k3, by simp [slB], ?_, fun b hb => by simp [hb], fun b hb => by simp [hb]⟩
    · simp [hc1] at g4; omega
    · intro e
      simp only [slB] at e
      exact hnd.1.2.1 (by simp [e])

end Ck

/-
The program's machine: values that land; a frame that is left.
-/
set_option linter.unusedSimpArgs false
set_option linter.unusedVariables false
namespace Ck
open Go

theorem PostC.of_S {H H1 H2 : Heap} {pm pc : Nat} {x y vf vf1 : Value} {c1 c2 : Cf} {O : List Nat} (h1 : PostS H pm pc x y O vf1 c1 H1) (h2 : ∀ O1, Mac H1 pm pc x y vf1 c1 O1 → PostC H1 pm pc x y O1 vf c2 H2) : PostC H pm pc x y O vf c2 H2 := by
  obtain ⟨O1, m1, u1, s1⟩ := h1
  exact PostC.trans u1 (fun b hb => .inl (s1 b hb)) (h2 O1 m1)
theorem PostS.trans {H H1 H2 : Heap} {pm pc : Nat} {x y vf : Value} {c2 : Cf} {O O1 : List Nat} (u1 : Up H O H1) (s1 : ∀ b, b ∈ O1 → b ∈ O) (h2 : PostS H1 pm pc x y O1 vf c2 H2) : PostS H pm pc x y O vf c2 H2 := by
  obtain ⟨O2, m2, u2, s2⟩ := h2
  exact ⟨O2, m2, u1.trans u2 fun b hb => .inl (s1 b hb), fun b hb => s1 b (s2 b hb)⟩

theorem OSl.toRow {h : BF} {v : Value} {cs : List Value} {O : List Nat} (hs : OSl h 1 v cs O) : Row h 1 v cs.length cs := by
  obtain ⟨m, h1, h2⟩ := hs.row (by decide)
  have : m = cs.length := by omega
  subst this; exact h2

theorem pops_some {n : Int} {c c1 : Cf} {l : List Int} (h : P.pops n c = (some l, c1)) : c1.stack.length + l.length = c.stack.length ∧ (l.length : Int) = n ∧ c1 = { c with stack := c1.stack } ∧ c.stack = c1.stack ++ l := by
  unfold P.pops at h
  simp only at h
  split at h
  · simp at h
  · simp only [Prod.mk.injEq, Option.some.injEq] at h
    obtain ⟨rfl, rfl⟩ := h
    simp
    omega
theorem pops_none {n : Int} {c c1 : Cf} (h : P.pops n c = (none, c1)) : c1 = P.stop 17 := by
  unfold P.pops at h
  simp only at h
  split at h
  · simp at h; exact h.symm
  · simp at h

theorem lands_ok {H : Heap} {pm pc : Nat} {x y vf : Value} {c : Cf} {O : List Nat} (h : Mac H pm pc x y vf c O) (n ht : Int) (hn : n ≤ 2 ^ 30) (hb : c.stack.length ≤ 2 ^ 19) :
    Wp (call tbl 168 [pt pm 0, i64 n, i64 ht] H) fun r => match P.lands n ht c with
      | (false, c') => r.1 = .bool false ∧ PostS H pm pc x y O (.slice none 0 0) c' r.2
      | (true, c') => r.1 = .bool true ∧ PostC H pm pc x y O vf c' r.2 := by
  refine Wp.via fun Q hQ => ?_
  rw [c168]
  simp -implicitDefEqProofs [m168]
  refine Wp.step (pops_ok h n hn (by omega)) ?_
  rintro ⟨v, H1⟩ hp
  unfold P.lands at hQ
  generalize hr : P.pops n c = r at hp hQ
  obtain ⟨ol, c1⟩ := r
  cases ol with
  | none =>
    obtain ⟨rfl, h1⟩ := hp
    simp -implicitDefEqProofs
    exact hQ _ ⟨rfl, h1⟩
  | some l =>
    obtain ⟨hst, hst2, hst3, -⟩ := pops_some hr
    obtain ⟨vl, T, rfl, t1, t2, t3, O1, m1, u1, s1⟩ := hp
    obtain ⟨vs1, vv1, k2, hrow⟩ := m1.conf
    have k1 := m1.m
    simp only at k1 k2 hrow t1 t2 hQ
    by_cases hneg : ht < 0 ∨ (c1.stack.length : Int) < ht
    · rw [if_pos hneg] at hQ
      by_cases h0 : ht < 0
      · simp -implicitDefEqProofs [h0]
        refine Wp.step (stuck_yes m1) ?_
        rintro ⟨v2, H2⟩ ⟨rfl, h3⟩
        simp -implicitDefEqProofs
        exact hQ _ ⟨rfl, PostS.trans u1 s1 h3⟩
      · have h2 := hneg.resolve_left h0
        simp -implicitDefEqProofs [h0, ld_of k1, ld_of k2, hrow.lenV, h2]
        refine Wp.step (stuck_yes m1) ?_
        rintro ⟨v2, H2⟩ ⟨rfl, h3⟩
        simp -implicitDefEqProofs
        exact hQ _ ⟨rfl, PostS.trans u1 s1 h3⟩
    · rw [if_neg hneg] at hQ
      have h0 : ¬ ht < 0 := fun h => hneg (.inl h)
      have h2 : ¬ (c1.stack.length : Int) < ht := fun h => hneg (.inr h)
      obtain ⟨k, rfl⟩ : ∃ k : Nat, ht = k := ⟨ht.toNat, by omega⟩
      obtain ⟨⟨vs, vv, cf, Ob, Of, Os, Ov, g1, g2, g3, g4, g5, rfl⟩, ho, hp, hl, hw⟩ := m1.mk'
      obtain ⟨v3, f1, f2⟩ := g4.take (k := k) (kk := .i64) (by decide) (by simp; omega)
      have hlt := ho.2
      have hnd := ho.1
      simp only [List.nodup_cons, List.nodup_append, List.mem_append, not_or] at hnd
      obtain ⟨v4, H4, O4, e1, e2, e3, e4, e5, _⟩ := f2.append (byt := 8) (n := k) (by decide) (by simp; omega) t1.toRow (by simp; omega) fun b hb => hlt b (by simp [hb])
      simp only at g1 hlt hl f1 e1
      obtain rfl : vs = vs1 := by
        rw [k2] at g1
        simp only [Option.some.injEq, Blk.cells.injEq, List.cons.injEq] at g1
        exact g1.2.2.2.1.symm
      have q1 : H4.blk pm = some (.cells 3 false [pt pc 0, x, y]) := by rw [e4.eq pm hl fun hh => hp (by simp [hh])]; exact k1
      have q2 : H4.blk pc = some (.cells 5 false [vf, vs, .bool c1.over, i64 c1.err, vv]) := by rw [e4.eq pc (hlt pc (by simp)) hnd.1.1]; exact g1
      simp -implicitDefEqProofs [h0, ld_of k1, ld_of k2, hrow.lenV, h2, stuck_no, ld_of g1, f1, e1, ld_of q1, stX_val q2, e2.flat]
      refine hQ _ ⟨rfl, PostC.trans u1 (fun b hb => .inl (s1 b hb)) ?_⟩
      exact cf_stack k1 g1 g2 g3 g5 ho hp hl hw e4 (st := c1.stack.take k ++ l) (by simpa using e2) e3 e5

end Ck

/-
The program's machine: a frame that is left.
-/
set_option linter.unusedSimpArgs false
set_option linter.unusedVariables false
namespace Ck
open Go

/-- What bounds a call's parts. -/
structure CfW (N : Nat) (c : Cf) : Prop where
  frames : c.frames.length ≤ 32
  stack : c.stack.length ≤ 2 ^ 12
  values : c.values.length ≤ 2 ^ 12
  fr : ∀ f, f ∈ c.frames → f.ar ≤ 2 ^ 20 ∧ f.locals.length ≤ 2 ^ 20 ∧ f.labels.length ≤ N ∧ 0 ≤ f.fn ∧ f.fn < 4294967296 ∧ (∀ l, l ∈ f.labels → l.ar ≤ 2 ^ 20 ∧ -1099511627776 ≤ l.to ∧ l.to ≤ 1099511627776)

theorem top_mem {c : Cf} (hf : c.frames ≠ []) : P.top c ∈ c.frames := by
  unfold P.top
  rw [List.getLastD_eq_getLast?, List.getLast?_eq_some_getLast hf]
  exact List.getLast_mem hf

theorem frames_snoc {c : Cf} (hf : c.frames ≠ []) : c.frames = c.frames.dropLast ++ [P.top c] := by
  unfold P.top
  rw [List.getLastD_eq_getLast?, List.getLast?_eq_some_getLast hf]
  exact (List.dropLast_concat_getLast hf).symm

theorem Own.sub {H : Heap} {A B : List Nat} (h : Own H A) (hs : B.Sublist A) : Own H B := ⟨h.1.sublist hs, fun b hb => h.2 b (hs.subset hb)⟩

theorem leaves_ok {H : Heap} {pm pc : Nat} {x y vf : Value} {c : Cf} {O : List Nat} {N : Nat} (h : Mac H pm pc x y vf c O) (hf : c.frames ≠ []) (hW : CfW N c) :
    Wp (call tbl 105 [pt pm 0] H) fun r => r.1 = .tuple #[] ∧ ∃ vf', PostC H pm pc x y O vf' (P.leaves c) r.2 := by
  refine Wp.via fun Q hQ => ?_
  obtain ⟨full, vl, vb, ol, ob, b1, b2, b3, b4, b5, b6, b7, b8, b9, b10, b11, b12, b13, b14⟩ := h.top hf
  have har := (hW.fr _ (top_mem hf)).1
  have hst := hW.stack
  rw [c105]
  simp -implicitDefEqProofs [m105, frame_ok h hf (by have := hW.frames; omega), ld_of b1, b5, b6]
  refine Wp.step (lands_ok h _ _ (by omega) (by omega)) ?_
  rintro ⟨v, H1⟩ hp
  unfold P.leaves at hQ
  generalize hr : P.lands (P.top c).ar (P.top c).ht c = r at hp hQ
  obtain ⟨ok, c1⟩ := r
  cases ok with
  | false =>
    obtain ⟨rfl, h1⟩ := hp
    simp -implicitDefEqProofs
    exact hQ _ ⟨rfl, _, h1.post⟩
  | true =>
    obtain ⟨rfl, O1, m1, u1, s1⟩ := hp
    simp only at hQ
    have hfr : c1.frames = c.frames := by
      unfold P.lands at hr
      generalize hq : P.pops (P.top c).ar c = q at hr
      obtain ⟨ol, c2⟩ := q
      cases ol with
      | none => simp at hr
      | some l =>
        obtain ⟨-, -, h3, -⟩ := pops_some hq
        simp only at hr
        split at hr
        · simp at hr
        · simp only [Prod.mk.injEq, true_and] at hr
          subst hr
          rw [h3]
    have hf1 : c1.frames ≠ [] := by rw [hfr]; exact hf
    have hpos : 0 < c1.frames.length := List.length_pos_iff.2 hf1
    obtain ⟨m, hm⟩ : ∃ m, c1.frames.length = m + 1 := ⟨c1.frames.length - 1, by omega⟩
    have hlen := m1.len
    obtain ⟨⟨vs, vv, cf, Ob, Of, Os, Ov, g1, g2, g3, g4, g5, rfl⟩, ho, hp, hl, hw⟩ := m1.mk'
    have k1 := m1.m
    simp only at g1 g2 g3 g4 g5 ho hp hl hw k1 u1 s1
    rw [frames_snoc hf1] at g3
    have hcl : cf.length = c1.frames.length * 6 := by rw [g3.length, ← frames_snoc hf1]
    obtain ⟨d1, d2, P1, P2, rfl, q1, q2, rfl⟩ := FrsC.snoc.1 g3
    have hd1 : d1.length = m * 6 := by rw [q1.length, List.length_dropLast, hm]; simp
    obtain ⟨v3, f1, f2⟩ := g2.take (k := m) (kk := .i64) (by decide) (by rw [hcl]; omega)
    have hcut : (d1 ++ d2).take (m * 6) = d1 := by rw [← hd1]; simp
    rw [hcut] at f2
    have hnp : pm ≠ pc := fun e => hp (by simp [e])
    have hnd := ho.1
    have hlt := ho.2
    simp only [List.nodup_cons, List.nodup_append, List.mem_append, not_or] at hnd
    have hpc : pc < H1.next := hlt pc (by simp)
    have hbl := hW.frames
    rw [← hfr] at hbl
    -- the frames less the last one
    have hs1 : binV .sub (i64 ((m : Int) + 1)) (i64 1) = some (i64 m) := by rw [sub_i64 (by omega)]; congr 2; omega
    rw [hm] at hlen
    have e1 : (H1.set pc (some (.cells 5 false [v3, vs, .bool c1.over, i64 c1.err, vv]))).blk pm = some (.cells 3 false [pt pc 0, x, y]) := by rw [set_other hnp]; exact k1
    have e2 : (H1.set pc (some (.cells 5 false [v3, vs, .bool c1.over, i64 c1.err, vv]))).blk pc = some (.cells 5 false [v3, vs, .bool c1.over, i64 c1.err, vv]) := set_same _ _ _
    have hl3 : lenV v3 = some (i64 m) := f2.lenV (by decide) hd1
    have keep : ∀ (X : Option Blk) b, b ≠ pc → (H1.set pc X).blk b = H1.blk b := fun X b hb => set_other hb
    simp -implicitDefEqProofs [ld_of k1, ld_of g1, hlen, hs1, f1, stX_val g1, f2.flat, ld_of e1, ld_of e2, hl3]
    by_cases hone : m = 0
    · rw [if_pos (by omega)] at hQ
      rw [if_pos hone]
      have hcs : vs.cells = #[vs] := g4.toRow.cells
      simp -implicitDefEqProofs [buildV, fillV, splice, hcs, g4.flat, stX_agg e2]
      apply hQ
      refine ⟨rfl, .slice none 0 0, PostC.trans u1 s1 ⟨pc :: ([] ++ ([] ++ ([] ++ Os))), ⟨?_, ⟨.slice none 0 0, vs, [], [], [], [], Os, set_same _ _ _, .inl ⟨rfl, rfl, rfl⟩, ⟨rfl, rfl⟩, .inl ⟨rfl, rfl, rfl⟩, ?_, rfl⟩, ?_, ?_, hl, within_set (within_set hw _ hpc) _ hpc⟩, ?_, ?_⟩⟩
      · rw [set_other hnp]; exact e1
      · exact g4.keep fun b hb => by
          have : b ≠ pc := fun e => by subst e; exact hnd.1.1 hb
          rw [set_other this, set_other this]
      · exact (ho.up (Nat.le_refl _)).sub (by simp)
      · intro hh; apply hp; simp at hh ⊢; rcases hh with h | h <;> simp [h]
      · exact (up_set (O := pc :: (Os ++ (Ob ++ (P1 ++ P2 ++ Ov)))) (by simp) hpc).trans (up_set (O := [pc]) (by simp) hpc) fun b hb => by simp at hb; simp [hb]
      · intro b hb; left; simp at hb ⊢; rcases hb with h | h <;> simp [h]
    · rw [if_neg (by omega)] at hQ
      rw [if_neg hone]
      simp -implicitDefEqProofs
      apply hQ
      refine ⟨rfl, v3, PostC.trans u1 s1 ⟨pc :: (Os ++ (Ob ++ (P1 ++ Ov))), ⟨e1, ⟨vs, vv, d1, Ob, P1, Os, Ov, e2, ?_, ?_, ?_, ?_, rfl⟩, ?_, ?_, hl, within_set hw _ hpc⟩, up_set (by simp) hpc, ?_⟩⟩
      · exact f2.keep fun b hb => keep _ b fun e => by subst e; exact hnd.1.2.1 hb
      · exact q1.keep fun b hb => keep _ b fun e => by subst e; exact hnd.1.2.2.1.1 hb
      · exact g4.keep fun b hb => keep _ b fun e => by subst e; exact hnd.1.1 hb
      · exact g5.keep fun b hb => keep _ b fun e => by subst e; exact hnd.1.2.2.2 hb
      · exact (ho.up (Nat.le_refl _)).sub (by simp)
      · intro hh; apply hp; simp at hh ⊢; rcases hh with h | h | h | h | h <;> simp [h]
      · intro b hb; left; simp at hb ⊢; rcases hb with h | h | h | h | h <;> simp [h]

end Ck
