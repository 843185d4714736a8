/-
Where blocks end: a body's walk.
-/
import Derived.Test.YtgopfpmkbdhnnaaGreatDoorCkMc
import Derived.Test.YtgopfpmkbdhnnaaGreatDoorCkTbl
set_option linter.unusedSimpArgs false
set_option linter.unusedVariables false
namespace Ck
open Go

variable {H : Heap} {h0 : BF} {pw r : Nat} {l : List Ins} {w : Wk} {O : List Nat}

theorem wdep (h : WkH H h0 pw r l w O) (a : Int) (vs vl : Value) (h1 : H.blk pw = some (.cells 4 false [vs, vl, .map (some r), i64 w.dep])) : PostW H h0 pw r l O { w with dep := a } (H.set pw (some (.cells 4 false [vs, vl, .map (some r), i64 a]))) := by
  obtain ⟨⟨vs', vl', Os, h1', h2, h3, h4, rfl⟩, ho, hle, hO, hw⟩ := h
  rw [h1] at h1'
  simp only [Option.some.injEq, Blk.cells.injEq, List.cons.injEq, true_and, and_true] at h1'
  obtain ⟨rfl, rfl⟩ := h1'
  have hnd := ho.1
  simp only [List.nodup_cons, List.mem_cons, not_or] at hnd
  have hr : pw < H.next := ho.2 pw (by simp)
  refine ⟨pw :: r :: Os, ⟨⟨vs, vl, Os, set_same _ _ _, ?_, ?_, h4, rfl⟩, ⟨ho.1, ho.2⟩, ?_, hO, within_set hw _ hr⟩, up_set (by simp) hr, fun b hb => .inl hb⟩
  · exact h2.keep fun b hb => set_other fun e => hnd.1.2 (e ▸ hb)
  · rw [set_other (fun e => hnd.1.1 e.symm)]; exact h3
  · intro b x hb
    rw [set_other fun e => by subst e; rw [hO b (by simp)] at hb; simp at hb]
    exact hle b x hb

theorem putB_length (k : Int) (b : Int × Int) : ∀ l, (P.putB k b l).length ≤ l.length + 1
  | [] => by simp [P.putB]
  | (i, c) :: r => by
    have := putB_length k b r
    unfold P.putB
    split <;> simp <;> omega

/-- What a walk keeps: places in the body. -/
structure WkW (l : List Ins) (n : Nat) (w : Wk) : Prop where
  out : w.out.length ≤ n
  st : w.st.length ≤ n
  pl : ∀ k, k ∈ w.st → 0 ≤ k ∧ k < l.length

theorem WkW.step {n at_ : Nat} {x : Ins} {w' : Wk} (h : WkW l n w) (ha : at_ < l.length) (hx : P.wone l x at_ w = some w') : WkW l (n + 1) w' := by
  obtain ⟨h0, h1, h2⟩ := h
  have hp := fun k b => putB_length k b w.out
  unfold P.wone at hx
  split at hx
  · simp only [Option.some.injEq] at hx
    subst hx
    refine ⟨by have := hp at_ (-1, 0); simp only; omega, by simp; omega, fun k hk => ?_⟩
    simp only [List.mem_append, List.mem_singleton] at hk
    rcases hk with hk | rfl
    · exact h2 k hk
    · omega
  · split at hx
    · split at hx
      · simp at hx
      · split at hx
        · simp at hx
        · split at hx
          · simp at hx
          · simp only [Option.some.injEq] at hx
            subst hx
            exact ⟨Nat.le_trans (hp _ _) (by omega), by simp; omega, h2⟩
    · split at hx
      · split at hx
        · split at hx
          · simp only [Option.some.injEq] at hx; subst hx; exact ⟨by omega, by omega, h2⟩
          · simp at hx
        · simp only [Option.some.injEq] at hx
          subst hx
          exact ⟨Nat.le_trans (hp _ _) (by omega), by simp; omega, fun k hk => h2 k ((List.dropLast_sublist _).subset hk)⟩
      · simp only [Option.some.injEq] at hx; subst hx; exact ⟨by omega, by omega, h2⟩

theorem wone_ok {n at_ : Nat} {x : Ins} (h : WkH H h0 pw r l w O) (hW : WkW l n w) (hn : n ≤ 2 ^ 30) (hl : l.length ≤ 2 ^ 30) (hx : l[at_]? = some x) :
    Wp (call tbl 282 [pt pw 0, i64 at_] H) fun q => match P.wone l x at_ w with
      | none => q.1 = .bool false ∧ Up H O q.2
      | some w' => q.1 = .bool true ∧ PostW H h0 pw r l O w' q.2 := by
  refine Wp.via fun Q hQ => ?_
  have h' := h
  obtain ⟨⟨vs, vl, Os, h1, h2, h3, h4, rfl⟩, ho, hle, hO, hw⟩ := h
  have hb := hW.st
  obtain ⟨o, cs, a1, ⟨l', rfl, r3⟩, -, -, a5⟩ := h4.at_ (k := .i64) (i := (at_ : Int)) hle (by omega) (by simpa using hx) (by decide)
  have a6 := a5 0 1 (by decide)
  simp only [List.getElem?_cons_zero, Nat.add_zero] at a6
  simp only [pt, ldV_ptr] at a1 a6
  rw [c282]
  unfold P.wone at hQ
  have blockCase : (x.op = 2 ∨ x.op = 3 ∨ x.op = 4) → ∀ f : Heap → Env → Option (Value × Heap), (∀ (e : Env) (H' : Heap), f H' e = some (.bool true, H')) → ∀ e : Env, Wp ((call tbl 284 [pt pw 0, i64 at_] H).bind fun x23 =>
      (x23.2.ld pw 2).bind fun v27 => (mapupdX .int v27 (i64 at_) (.agg #[i64 (-1), i64 0]) x23.2).bind fun x30 =>
      (x30.2.ld pw 3).bind fun v35 => (x30.2.ld pw 0).bind fun v39 => (lenV v39).bind fun v40 => (maxV v35 v40).bind fun v41 => (stX 1 (pt pw 3) v41 x30.2).bind fun x44 => f x44.2 e) Q := by
    intro hop f hf e
    simp only [if_pos hop] at hQ
    refine Wp.step (wpush_ok h' at_ (by omega)) ?_
    rintro ⟨v, H1⟩ ⟨rfl, O1, g, u1, s1⟩
    have g' := g
    obtain ⟨⟨vs1, vl1, Os1, g1, g2, g3, g4, rfl⟩, go, gle, gO, gw⟩ := g
    simp only at g1 g2 g3 g4 g'
    have hup := mapupd_ent g3 at_ (-1) 0
    obtain ⟨O2, k, u2, s2⟩ := wput g' (P.putB at_ (-1, 0) w.out)
    have k' := k
    obtain ⟨⟨vs2, vl2, Os2, k1, k2, k3, k4, rfl⟩, ko, kle, kO, kw⟩ := k
    simp only at k1 k2 k3 k4 k'
    have hlen := k2.lenV (n := w.st.length + 1) (by decide) (by simp)
    simp -implicitDefEqProofs [ld_of g1, hup, ld_of k1, hlen, stX_val k1, hf]
    apply hQ
    refine ⟨rfl, PostW.trans u1 s1 (PostW.trans u2 s2 ?_)⟩
    have := wdep k' (max w.dep (w.st.length + 1)) vs2 vl2 k1
    have em : (if w.dep < (w.st.length : Int) + 1 then (w.st.length : Int) + 1 else w.dep) = max w.dep (w.st.length + 1) := by split <;> omega
    rw [em]
    exact this
  by_cases c2 : x.op = 2
  · simp -implicitDefEqProofs [m282, ld_of h1, a1, a6, c2, buildV, fillV, splice]
    exact blockCase (.inl c2) (fun H e => some (.bool true, H)) (fun _ _ => rfl) (env0 [])
  · by_cases c3 : x.op = 3
    · simp -implicitDefEqProofs [m282, ld_of h1, a1, a6, c3, buildV, fillV, splice]
      exact blockCase (.inr (.inl c3)) (fun H e => some (.bool true, H)) (fun _ _ => rfl) (env0 [])
    · by_cases c4 : x.op = 4
      · simp -implicitDefEqProofs [m282, ld_of h1, a1, a6, c4, buildV, fillV, splice]
        exact blockCase (.inr (.inr c4)) (fun H e => some (.bool true, H)) (fun _ _ => rfl) (env0 [])
      · simp only [c2, c3, c4, or_self, if_false] at hQ
        by_cases c5 : x.op = 5
        · simp only [if_pos c5] at hQ
          simp -implicitDefEqProofs [m282, ld_of h1, a1, a6, c5]
          refine Wp.step (half_ok h' (by omega) at_ hW.pl) ?_
          rintro ⟨v, H1⟩ hp
          cases hs : w.st.getLast? with
          | none =>
            rw [hs] at hQ hp
            simp only [Prod.mk.injEq] at hp
            obtain ⟨rfl, rfl⟩ := hp
            simp -implicitDefEqProofs
            exact hQ _ ⟨rfl, Up.refl _ _⟩
          | some k =>
            rw [hs] at hQ hp
            simp only at hp hQ
            cases hy : l[k.toNat]? with
            | none => rw [hy] at hp; exact hp.elim
            | some y =>
              rw [hy] at hp hQ
              simp only at hp hQ
              by_cases g : y.op ≠ 4 ∨ ((P.findB k w.out).getD (0, 0)).1 ≠ -1
              · rw [if_pos g] at hp
                simp only [if_pos g] at hQ
                simp only [Prod.mk.injEq] at hp
                obtain ⟨rfl, rfl⟩ := hp
                simp -implicitDefEqProofs
                exact hQ _ ⟨rfl, Up.refl _ _⟩
              · rw [if_neg g] at hp
                simp only [if_neg g] at hQ
                obtain ⟨rfl, hp⟩ := hp
                simp -implicitDefEqProofs
                exact hQ _ ⟨rfl, hp⟩
        · simp only [if_neg c5] at hQ
          by_cases c11 : x.op = 11
          · simp only [if_pos c11] at hQ
            simp -implicitDefEqProofs [m282, ld_of h1, a1, a6, c11]
            refine Wp.step (wcloses_ok h' (by omega) hl at_) ?_
            rintro ⟨v, H1⟩ hp
            cases hs : w.st.getLast? with
            | none =>
              rw [hs] at hQ hp
              simp only [Prod.mk.injEq] at hp
              obtain ⟨rfl, rfl⟩ := hp
              simp only at hQ
              simp -implicitDefEqProofs
              by_cases e : at_ + 1 = l.length
              · simp only [if_pos e] at hQ
                exact hQ _ ⟨by simp [e], _, h', Up.refl _ _, fun b hb => .inl hb⟩
              · simp only [if_neg e] at hQ
                exact hQ _ ⟨by simp [e], Up.refl _ _⟩
            | some k =>
              rw [hs] at hQ hp
              obtain ⟨rfl, hp⟩ := hp
              simp -implicitDefEqProofs
              exact hQ _ ⟨rfl, hp⟩
          · simp only [if_neg c11] at hQ
            simp -implicitDefEqProofs [m282, ld_of h1, a1, a6, c2, c3, c4, c5, c11]
            exact hQ _ ⟨rfl, _, h', Up.refl _ _, fun b hb => .inl hb⟩

end Ck

/-
Where blocks end: of a whole body.
-/
set_option linter.unusedSimpArgs false
set_option linter.unusedVariables false
namespace Ck
open Go

variable {H : Heap} {h0 : BF} {l : List Ins}

theorem WkH.up {pw r : Nat} {w : Wk} {O : List Nat} (h : WkH H h0 pw r l w O) {H' : Heap} (hu : Up H [] H') : WkH H' h0 pw r l w O := by
  obtain ⟨⟨vs, vl, Os, h1, h2, h3, h4, rfl⟩, ho, hle, hO, hw⟩ := h
  have hlt := ho.2
  have e : ∀ b, b ∈ pw :: r :: Os → H'.blk b = H.blk b := fun b hb => hu.eq b (hlt b hb) (by simp)
  refine ⟨⟨vs, vl, Os, by rw [e pw (by simp)]; exact h1, h2.keep fun b hb => e b (by simp [hb]), by rw [e r (by simp)]; exact h3, h4, rfl⟩, ⟨ho.1, fun b hb => Nat.lt_of_lt_of_le (hlt b hb) hu.le⟩, fun b x hb => ?_, hO, hu.wi hw⟩
  rw [hu.eq b (hw _ _ (hle b x hb)) (by simp)]
  exact hle b x hb

theorem filter_succ {l : List Ins} {i : Nat} {x : Ins} (hx : l[i]? = some x) : P.ends11 (l.take (i + 1)) = P.ends11 (l.take i) + (if x.op = 11 then 1 else 0) := by
  have hi := (List.getElem?_eq_some_iff.1 hx).1
  have hx' := (List.getElem?_eq_some_iff.1 hx).2
  unfold P.ends11
  rw [List.take_succ_eq_append_getElem hi, List.filter_append]
  simp only [List.length_append]
  rw [hx']
  by_cases h : x.op = 11 <;> simp [h]

theorem wfrom_cons (l : List Ins) (x : Ins) (r : List Ins) (a : Nat) (w : Wk) : P.wfrom l (x :: r) a w = match P.wone l x a w with
    | none => none
    | some w => P.wfrom l r (a + 1) w := rfl

theorem walk_ok {vl : Value} (hr : RBody h0 vl l) (hle : BF.le h0 H.blk) (hw : Within H) (hl : l.length ≤ 2 ^ 20) :
    Wp (call tbl 265 [vl] H) fun q => Up H [] q.2 ∧ match P.blocksOf l with
      | none => ∃ v, q.1 = .tuple #[v, .bool false]
      | some out => ∃ pw r O w, q.1 = .tuple #[pt pw 0, .bool true] ∧ WkH q.2 h0 pw r l w O ∧ w.out = out ∧ (∀ b, b ∈ O → H.next ≤ b) := by
  refine Wp.via fun Q hQ => ?_
  obtain ⟨H1, e0, e1, b1, u1, k1⟩ := newV_ok (H := H) (v := .map (some H.next)) (f := fun b => some (.map (some b), .map [])) rfl
  have hbx : boxV 4 (.agg #[.slice none 0 0, vl, .map (some H.next), i64 0]) H1.next = some (pt H1.next 0, .cells 4 false [.slice none 0 0, vl, .map (some H.next), i64 0]) := by
    simp [boxV, hr.flat]
  obtain ⟨H2, f0, f1, b2, u2, k2⟩ := newV_ok (H := H1) (f := fun b => boxV 4 (.agg #[.slice none 0 0, vl, .map (some H.next), i64 0]) b) hbx
  have hcl : vl.cells = #[vl] := by obtain ⟨cs, hr', -⟩ := hr; exact hr'.cells
  have u12 : Up H [] H2 := u1.trans u2 (by simp)
  have start : WkH H2 h0 H1.next H.next l ⟨[], [], 0⟩ [H1.next, H.next] := by
    refine ⟨⟨.slice none 0 0, vl, [], b2, .inl ⟨rfl, rfl, rfl⟩, ?_, hr, rfl⟩, ⟨?_, ?_⟩, ?_, ?_, u12.wi hw⟩
    · rw [k2 _ (by omega), b1]; rfl
    · simp; omega
    · simp; omega
    · intro b x hb; rw [u12.eq b (hw _ _ (hle b x hb)) (by simp)]; exact hle b x hb
    · intro b hb
      cases hx : h0 b with
      | none => rfl
      | some x =>
        have := hw _ _ (hle b x hx)
        simp at hb
        rcases hb with rfl | rfl <;> omega
  have hlen := hr.len
  rw [c265]
  simp -implicitDefEqProofs [m265, e0, buildV, fillV, splice, hcl, f0, hlen]
  refine loop_via (Q := Q) (fun n e K => ∃ (i : Nat) (w : Wk) (O : List Nat), n = l.length - i ∧ i ≤ l.length ∧ e 0 = vl ∧ e 4 = pt H1.next 0 ∧ e 14 = i64 l.length ∧ e 15 = i64 i ∧ WkH K h0 H1.next H.next l w O ∧ Up H [] K ∧ (∀ b, b ∈ O → H.next ≤ b) ∧ WkW l i w ∧ P.wfrom l l 0 ⟨[], [], 0⟩ = P.wfrom l (l.drop i) i w) ?_ l.length _ _ ?_
  · rintro J hJ n e K ⟨i, w, O, rfl, hi, t0, t4, t14, t15, hK, uK, hO, hWk, hfrom⟩
    by_cases hlt : i < l.length
    · obtain ⟨x, hx⟩ : ∃ x, l[i]? = some x := ⟨_, List.getElem?_eq_getElem hlt⟩
      have hdrop : l.drop i = x :: l.drop (i + 1) := by
        rw [List.drop_eq_getElem_cons hlt]
        congr 1
        exact (List.getElem?_eq_some_iff.1 hx).2
      simp -implicitDefEqProofs [t14, t15, t4, hlt]
      refine Wp.step (wone_ok hK hWk (by omega) (by omega) hx) ?_
      rintro ⟨v, K1⟩ hp
      rw [hdrop, wfrom_cons] at hfrom
      cases hs : P.wone l x i w with
      | none =>
        rw [hs] at hp hfrom
        obtain ⟨rfl, hu⟩ := hp
        simp -implicitDefEqProofs
        apply hQ
        refine ⟨uK.trans hu fun b hb => .inr (hO b hb), ?_⟩
        have : P.blocksOf l = none := by
          unfold P.blocksOf
          rw [hfrom]
        rw [this]
        exact ⟨_, rfl⟩
      | some w' =>
        rw [hs] at hp hfrom
        obtain ⟨rfl, O1, g, uu, ss⟩ := hp
        have hadd : binV .add (i64 (i : Int)) (i64 1) = some (i64 ((i : Int) + 1)) := add_i64 (by omega)
        simp -implicitDefEqProofs [t15, hadd]
        refine ⟨l.length - (i + 1), by omega, hJ _ _ _ ⟨i + 1, w', O1, rfl, by omega, by simp [t0], by simp [t4], by simp [t14], by simp, g, uK.trans uu fun b hb => .inr (hO b hb), fun b hb => ?_, hWk.step hlt hs, hfrom⟩⟩
        rcases ss b hb with h | h
        · exact hO b h
        · exact Nat.le_trans uK.le h
    · have hil : i = l.length := by omega
      subst hil
      rw [List.drop_length] at hfrom
      have hfrom : P.wfrom l l 0 ⟨[], [], 0⟩ = some w := hfrom
      have hK' := hK
      obtain ⟨⟨vs, vl', Os, g1, g2, g3, g4, rfl⟩, go, gle, gO, gw⟩ := hK
      have hsl := g2.lenV (n := w.st.length) (by decide) (by simp)
      have hwl := hWk.st
      rcases List.eq_nil_or_concat l with hnil | ⟨s, x, hs⟩
      · have hb : P.blocksOf l = none := by
          unfold P.blocksOf; rw [hfrom]; simp only; rw [hnil]; rfl
        rw [hb] at hQ
        have hl0 : lenV vl = some (i64 0) := by rw [hlen, hnil]; rfl
        have hz : l.length = 0 := by rw [hnil]; rfl
        simp -implicitDefEqProofs [t14, t15, t0, hl0]
        apply hQ
        exact ⟨uK, _, rfl⟩
      · have hs' : l = s ++ [x] := by simpa using hs
        have hll : l.length = s.length + 1 := by rw [hs']; simp
        have hne : ¬ l = [] := by rw [hs']; simp
        by_cases c1 : 0 < w.st.length
        · have hb : P.blocksOf l = none := by
            unfold P.blocksOf; rw [hfrom]; simp only
            cases l.getLast? with
            | none => rfl
            | some y => simp [c1]
          rw [hb] at hQ
          have c1' : ¬ w.st = [] := fun e => by rw [e] at c1; simp at c1
          simp -implicitDefEqProofs [t14, t15, t0, t4, hlen, hne, ld_of g1, hsl, c1', c1]
          apply hQ
          exact ⟨uK, _, rfl⟩
        · have c1' : w.st = [] := by
            cases hh : w.st with
            | nil => rfl
            | cons a b => rw [hh] at c1; simp at c1
          have hsub : binV .sub (i64 (l.length : Int)) (i64 1) = some (i64 s.length) := by rw [sub_i64 (by omega), hll]; congr 2; omega
          obtain ⟨o, cs, a1, ⟨l', rfl, r3⟩, -, -, a5⟩ := hr.at_ (H := K) (k := .i64) (i := (s.length : Int)) (x := x) gle (by omega) (by rw [hs']; simp) (by decide)
          have a6 := a5 0 1 (by decide)
          simp only [List.getElem?_cons_zero, Nat.add_zero] at a6
          simp only [pt, ldV_ptr] at a1 a6
          have hlast : l.getLast? = some x := by rw [hs']; simp
          by_cases c2 : x.op = 11
          · simp -implicitDefEqProofs [t14, t15, t0, t4, hlen, hne, ld_of g1, hsl, c1', hsub, a1, a6, c2]
            have hB : P.blocksOf l = if P.ends11 l = w.out.length + 1 then some w.out else none := by
              unfold P.blocksOf; rw [hfrom]; simp only [hlast]; rw [if_neg (by simp [c1, c2])]
            rw [hB] at hQ
            refine loop_via (Q := Q) (fun n e K1 => ∃ (i : Nat), n = l.length - i ∧ i ≤ l.length ∧ e 4 = pt H1.next 0 ∧ e 44 = vl ∧ e 45 = i64 l.length ∧ e 46 = i64 i ∧ e 6 = i64 (P.ends11 (l.take i)) ∧ Up K [] K1) ?_ l.length _ _ ?_
            · rintro J hJ n e K1 ⟨i, rfl, hi, q4, q44, q45, q46, q6, uu⟩
              by_cases hlt2 : i < l.length
              · obtain ⟨y, hy⟩ : ∃ y, l[i]? = some y := ⟨_, List.getElem?_eq_getElem hlt2⟩
                have kle : BF.le h0 K1.blk := (hK'.up uu).le
                obtain ⟨o2, cs, z1, ⟨l', rfl, r4⟩, -, z2, z3⟩ := hr.at_ (H := K1) (k := .i64) (i := (i : Int)) kle (by omega) (by simpa using hy) (by decide)
                obtain ⟨K2, m0, m1, m2, m3, m4⟩ := newV_ok (H := K1) (v := pt K1.next 0) (f := fun b => some (ptrTo b, .cells 6 false [(.int .i64 0), (.int .u32 0), (.int .u32 0), (.int .u64 0), (.slice none 0 0), (.int .i64 0)])) rfl
                have hadd : binV .add (i64 (i : Int)) (i64 1) = some (i64 ((i : Int) + 1)) := add_i64 (by omega)
                have hcnt : P.ends11 (l.take i) ≤ 2 ^ 21 ∧ 0 ≤ P.ends11 (l.take i) := by
                  unfold P.ends11
                  have := List.length_filter_le (fun x : Ins => decide (x.op = 11)) (l.take i)
                  simp only [List.length_take] at this
                  omega
                have hadd2 : binV .add (i64 (P.ends11 (l.take i))) (i64 1) = some (i64 (P.ends11 (l.take i) + 1)) := add_i64 (by omega)
                have hu2 : ∀ v, Up K [] (K2.set K1.next v) := fun v => (uu.trans m3 (by simp)).trans (up_set (O := [K1.next]) (by simp) (by omega)) fun b hb => by simp at hb; have := uu.le; omega
                have hsucc := filter_succ hy
                simp only [pt] at z1 z2
                by_cases c3 : y.op = 11
                · simp -implicitDefEqProofs [q44, q45, q46, q6, hlt2, z1, z2, m0, stX_agg m2, r4.flat, c3, hadd, hadd2, splice]
                  refine ⟨l.length - (i + 1), by omega, hJ _ _ _ ⟨i + 1, rfl, by omega, by simp [q4], by simp [q44], by simp [q45], by simp, by simp [hsucc, c3], hu2 _⟩⟩
                · simp -implicitDefEqProofs [q44, q45, q46, q6, hlt2, z1, z2, m0, stX_agg m2, r4.flat, c3, hadd, splice]
                  refine ⟨l.length - (i + 1), by omega, hJ _ _ _ ⟨i + 1, rfl, by omega, by simp [q4], by simp [q44], by simp [q45], by simp, by simp [hsucc, c3, q6], hu2 _⟩⟩
              · have hil2 : i = l.length := by omega
                subst hil2
                have hK1 := hK'.up uu
                have hK1' := hK1
                obtain ⟨⟨vs1, vl1, Os1, j1, j2, j3, j4, j5⟩, -⟩ := hK1
                have hml : mlenV (.map (some H.next)) K1 = some (i64 w.out.length) := by simp [mlenV, j3, ent]
                have hol : (w.out.length : Int) ≤ 2 ^ 40 := by have := hWk.out; omega
                have hadd : binV .add (i64 (w.out.length : Int)) (i64 1) = some (i64 ((w.out.length : Int) + 1)) := add_i64 (by omega)
                simp -implicitDefEqProofs [q45, q46, q4, q6, ld_of j1, hml, hadd]
                by_cases c5 : P.ends11 l = w.out.length + 1
                · simp only [if_pos c5] at hQ
                  rw [decide_eq_true c5]
                  exact hQ _ ⟨uK.trans uu (by simp), H1.next, H.next, _, w, rfl, hK1', rfl, hO⟩
                · simp only [if_neg c5] at hQ
                  rw [decide_eq_false c5]
                  exact hQ _ ⟨uK.trans uu (by simp), _, rfl⟩
            · exact ⟨0, by simp, by simp, by simp [t4], by simp, by simp, by simp, by simp [P.ends11], Up.refl _ _⟩
          · have hb : P.blocksOf l = none := by
              unfold P.blocksOf; rw [hfrom]; simp only [hlast]; rw [if_pos (by simp [c2])]
            rw [hb] at hQ
            simp -implicitDefEqProofs [t14, t15, t0, t4, hlen, hne, ld_of g1, hsl, c1', hsub, a1, a6, c2]
            apply hQ
            exact ⟨uK, _, rfl⟩
  · exact ⟨0, ⟨[], [], 0⟩, _, by simp, by simp, by simp, by simp, by simp, by simp, start, u12, by simp; omega, ⟨by simp, by simp, by simp⟩, by simp⟩

end Ck

/-
Instances that are made: room, blocks, what a constant says.
-/
set_option linter.unusedSimpArgs false
set_option linter.unusedVariables false
namespace Ck
open Go

/-- What stands and is not touched. -/
structure Fz (H : Heap) (h : BF) (O : List Nat) : Prop where
  le : BF.le h H.blk
  hO : ∀ b, b ∈ O → h b = none
  wi : Within H

theorem Fz.up {H H' : Heap} {h : BF} {O O' : List Nat} (f : Fz H h O) (hu : Up H O H') (hs : ∀ b, b ∈ O' → b ∈ O ∨ H.next ≤ b) : Fz H' h O' := by
  obtain ⟨hle, hO, hw⟩ := f
  refine ⟨fun b x hb => ?_, fun b hb => ?_, hu.wi hw⟩
  · rw [hu.eq b (hw _ _ (hle b x hb)) fun hh => by rw [hO b hh] at hb; simp at hb]; exact hle b x hb
  · rcases hs b hb with g | g
    · exact hO b g
    · cases hx : h b with
      | none => rfl
      | some x => have := hw _ _ (hle b x hx); omega

theorem Fz.nil {H : Heap} {h : BF} (hl : BF.le h H.blk) (hw : Within H) : Fz H h [] := ⟨hl, by simp, hw⟩
theorem Fz.up0 {H H' : Heap} {h : BF} {O : List Nat} (f : Fz H h O) (hu : Up H [] H') : Fz H' h O := f.up (hu.mono (by simp)) fun b hb => .inl hb

theorem blocks1_ok {H : Heap} {h0 : BF} {l : List Ins} {vl : Value} (hr : RBody h0 vl l) (hf : Fz H h0 []) (hl : l.length ≤ 2 ^ 20) :
    Wp (call tbl 219 [vl] H) fun q => Up H [] q.2 ∧ match P.blocksOf l with
      | none => q.1 = .tuple #[.map none, .bool false]
      | some out => ∃ r, q.1 = .tuple #[.map (some r), .bool true] ∧ q.2.blk r = some (.map (ent out)) ∧ H.next ≤ r := by
  refine Wp.via fun Q hQ => ?_
  rw [c219]
  simp -implicitDefEqProofs [m219]
  refine Wp.step (walk_ok hr hf.le hf.wi hl) ?_
  rintro ⟨v, H1⟩ ⟨u1, hp⟩
  cases hb : P.blocksOf l with
  | none =>
    rw [hb] at hp hQ
    obtain ⟨w, rfl⟩ := hp
    simp -implicitDefEqProofs
    exact hQ _ ⟨u1, rfl⟩
  | some out =>
    rw [hb] at hp hQ
    obtain ⟨pw, r, O, w, rfl, ⟨⟨vs, vl', Os, h1, h2, h3, h4, rfl⟩, ho, hle, hO, hw⟩, rfl, hn⟩ := hp
    simp -implicitDefEqProofs [ld_of h1]
    exact hQ _ ⟨u1, r, rfl, h3, hn r (by simp)⟩

theorem worth_ok {H : Heap} {h0 : BF} {l : List Ins} {vl : Value} (hr : RBody h0 vl l) (hf : Fz H h0 []) (hW : ∀ x, x ∈ l → InsW x) :
    Wp (call tbl 159 [vl] H) fun q => q.1 = u64 (P.worth l) ∧ Up H [] q.2 := by
  refine Wp.via fun Q hQ => ?_
  rw [c159]
  cases l with
  | nil =>
    have hl : lenV vl = some (i64 0) := hr.len
    simp -implicitDefEqProofs [m159, hl]
    exact hQ _ ⟨rfl, Up.refl _ _⟩
  | cons x r =>
    have hl : lenV vl = some (i64 ((r.length : Int) + 1)) := by have := hr.len; simpa using this
    have hne : ¬ ((r.length : Int) + 1 = 0) := by omega
    obtain ⟨o, cs, a1, ⟨l', rfl, r3⟩, -, a4, a5⟩ := hr.at_ (k := .i64) (i := 0) (x := x) hf.le (by omega) (by simp) (by decide)
    obtain ⟨H1, e0, e1, b1, u1, k1⟩ := newV_ok (H := H) (v := pt H.next 0) (f := fun b => some (ptrTo b, .cells 6 false [(.int .i64 0), (.int .u32 0), (.int .u32 0), (.int .u64 0), (.slice none 0 0), (.int .i64 0)])) rfl
    have hx := hW x (by simp)
    have hwr : IntKind.wrap .u64 x.a = x.a := wrap_u64 ⟨hx.a.1, by have := hx.a.2; omega⟩
    have hadd : binV .add (u64 x.a) (u64 1) = some (u64 (x.a + 1)) := by rw [binV_add, wrap_u64 ⟨by have := hx.a.1; omega, by have := hx.a.2; omega⟩]
    have u2 : ∀ v, Up H [] (H1.set H.next v) := fun v => u1.trans (up_set (O := [H.next]) (by simp) (by omega)) (by simp)
    simp only [pt] at a1 a4
    unfold P.worth at hQ
    simp only at hQ
    by_cases c1 : x.op = 65
    · simp only [c1, true_or, if_true] at hQ
      simp -implicitDefEqProofs [m159, hl, hne, a1, a4, e0, stX_agg b1, r3.flat, splice, c1]
      exact hQ _ ⟨rfl, u2 _⟩
    · by_cases c2 : x.op = 66
      · simp only [c2, or_true, if_true] at hQ
        simp -implicitDefEqProofs [m159, hl, hne, a1, a4, e0, stX_agg b1, r3.flat, splice, c2]
        exact hQ _ ⟨rfl, u2 _⟩
      · by_cases c3 : x.op = 210
        · simp only [c1, c2, c3, or_self, if_false, if_true] at hQ
          simp -implicitDefEqProofs [m159, hl, hne, a1, a4, e0, stX_agg b1, r3.flat, splice, c3, hwr, hadd]
          have : (210 : Int) = 65 ∨ (210 : Int) = 66 ↔ False := by decide
          simp only [this, if_false] at hQ
          exact hQ _ ⟨rfl, u2 _⟩
        · simp only [c1, c2, c3, or_self, if_false] at hQ
          simp -implicitDefEqProofs [m159, hl, hne, a1, a4, e0, stX_agg b1, r3.flat, splice, c1, c2, c3]
          exact hQ _ ⟨rfl, u2 _⟩

end Ck

/-
Instances that are made: the blocks of all bodies.
-/
set_option linter.unusedSimpArgs false
set_option linter.unusedVariables false
namespace Ck
open Go

/-- Maps of blocks, one behind the other. -/
def MapC (h : BF) : List Value → List (List (Int × Int × Int)) → Prop
  | cs, [] => cs = []
  | cs, l :: ls => ∃ r cs', cs = .map (some r) :: cs' ∧ h r = some (.map (ent l)) ∧ MapC h cs' ls

theorem MapC.mono {h g : BF} (hl : BF.le h g) : ∀ {ls : List (List (Int × Int × Int))} {cs : List Value}, MapC h cs ls → MapC g cs ls
  | [], _, h => h
  | _ :: _, _, ⟨r, cs', h1, h2, h3⟩ => ⟨r, cs', h1, hl _ _ h2, MapC.mono hl h3⟩

theorem MapC.snoc {h : BF} {l : List (Int × Int × Int)} {r : Nat} (hr : h r = some (.map (ent l))) : ∀ {ls : List (List (Int × Int × Int))} {cs : List Value}, MapC h cs ls → MapC h (cs ++ [.map (some r)]) (ls ++ [l])
  | [], cs, h => by simp only [MapC] at h; subst h; exact ⟨r, [], rfl, hr, rfl⟩
  | _ :: _, _, ⟨r', cs', h1, h2, h3⟩ => ⟨r', _, by rw [h1]; rfl, h2, MapC.snoc hr h3⟩

theorem MapC.length {h : BF} : ∀ {ls : List (List (Int × Int × Int))} {cs : List Value}, MapC h cs ls → cs.length = ls.length
  | [], cs, h => by simp only [MapC] at h; simp [h]
  | _ :: _, _, ⟨r', cs', h1, h2, h3⟩ => by rw [h1]; simp [MapC.length h3]

theorem MapC.parts {h : BF} : ∀ {ls : List (List (Int × Int × Int))} {cs : List Value}, MapC h cs ls → Parts 1 (RMap h) cs ls
  | [], cs, h => h
  | _ :: _, _, ⟨r', cs', h1, h2, h3⟩ => by subst h1; exact ⟨⟨r', rfl, h2⟩, by simp, by simpa using MapC.parts h3⟩

/-- h, and a block more. -/
def BF.add (h : BF) (r : Nat) (x : Blk) : BF := fun b => if b = r then some x else h b
theorem BF.le_add {h : BF} {r : Nat} {x : Blk} (hr : h r = none) : BF.le h (h.add r x) := fun b y hb => by
  unfold BF.add
  by_cases e : b = r
  · subst e; rw [hr] at hb; simp at hb
  · rw [if_neg e]; exact hb
theorem BF.add_at (h : BF) (r : Nat) (x : Blk) : h.add r x r = some x := by simp [BF.add]

/-- What stands in g and did not in h is new from n on. -/
def Grow (n : Nat) (h g : BF) : Prop := BF.le h g ∧ ∀ b x, g b = some x → h b = some x ∨ n ≤ b
theorem Grow.refl (n : Nat) (h : BF) : Grow n h h := ⟨BF.le.refl h, fun _ _ hb => .inl hb⟩
theorem Grow.trans {n m : Nat} {f g h : BF} (a : Grow n f g) (b : Grow m g h) (hm : n ≤ m) : Grow n f h := ⟨a.1.trans b.1, fun c x hc => by
  rcases b.2 c x hc with g | g
  · exact a.2 c x g
  · exact .inr (by omega)⟩
theorem Grow.add {n r : Nat} {h : BF} {x : Blk} (hr : h r = none) (hn : n ≤ r) : Grow n h (h.add r x) := ⟨BF.le_add hr, fun b y hb => by
  unfold BF.add at hb
  by_cases e : b = r
  · exact .inr (by omega)
  · rw [if_neg e] at hb; exact .inl hb⟩

namespace P
/-- What the walk over all bodies leaves: blocks, and whether one had none. -/
def blocksAll : List Cod → Option (List (List (Int × Int × Int)))
  | [] => some []
  | c :: r => match blocksOf c.body, blocksAll r with
    | some b, some l => some (b :: l)
    | _, _ => none
end P

theorem blocksAll_snoc (c : Cod) : ∀ l : List Cod, P.blocksAll (l ++ [c]) = match P.blocksAll l, P.blocksOf c.body with
    | some ls, some b => some (ls ++ [b])
    | _, _ => none
  | [] => by simp only [List.nil_append, P.blocksAll]; cases P.blocksOf c.body <;> rfl
  | d :: l => by
    simp only [List.cons_append, P.blocksAll, blocksAll_snoc c l]
    cases P.blocksOf d.body <;> cases P.blocksAll l <;> cases P.blocksOf c.body <;> rfl

/-- (*maker).blocks: what it leaves. 'pre': the block's cells ahead of the blocks' slice, 'mid': behind it. -/
theorem mblocks_ok {H : Heap} {h0 : BF} {pk : Nat} {ty fu ta me gl ex s1 s2 el s3 s4 co da vm vt vg ve vd : Value} {cods : List Cod} {e : Int} (hk : H.blk pk = some (.cells 20 false [ty, fu, ta, me, gl, ex, s1, s2, el, s3, s4, co, da, .slice none 0 0, vm, vt, vg, ve, vd, i64 e]))
    (hr : RL h0 2 (RCod h0) co cods) (hf : Fz H h0 [pk]) (hl : cods.length ≤ 2 ^ 20) (hW : ∀ c, c ∈ cods → c.body.length ≤ 2 ^ 20) :
    Wp (call tbl 158 [pt pk 0] H) fun q => q.1 = .tuple #[] ∧ ∃ vb cb Ob hk' e', q.2.blk pk = some (.cells 20 false [ty, fu, ta, me, gl, ex, s1, s2, el, s3, s4, co, da, vb, vm, vt, vg, ve, vd, i64 e']) ∧ OSl q.2.blk 1 vb cb Ob ∧ Own q.2 Ob ∧ Up H [pk] q.2 ∧ (∀ b, b ∈ Ob → H.next ≤ b) ∧
      Grow H.next h0 hk' ∧ Fz q.2 hk' (pk :: Ob) ∧
      match P.blocksAll cods with
      | some ls => e' = e ∧ MapC hk' cb ls
      | none => e' = if e = 0 then 2 else e := by
  refine Wp.via fun Q hQ => ?_
  rw [c158]
  have hpk : pk < H.next := hf.wi _ _ hk
  simp -implicitDefEqProofs [m158, ld_of hk, hr.len]
  refine loop_via (Q := Q) (fun n ev K => ∃ (i : Nat) (vb : Value) (cb : List Value) (Ob : List Nat) (hg : BF) (e' : Int), n = cods.length - i ∧ i ≤ cods.length ∧ ev 0 = pt pk 0 ∧ ev 11 = co ∧ ev 12 = i64 cods.length ∧ ev 13 = i64 i ∧
      K.blk pk = some (.cells 20 false [ty, fu, ta, me, gl, ex, s1, s2, el, s3, s4, co, da, vb, vm, vt, vg, ve, vd, i64 e']) ∧ OSl K.blk 1 vb cb Ob ∧ cb.length = i ∧ Own K Ob ∧ Up H [pk] K ∧ (∀ b, b ∈ Ob → H.next ≤ b) ∧ Grow H.next h0 hg ∧ Fz K hg (pk :: Ob) ∧
      match P.blocksAll (cods.take i) with
      | some ls => e' = e ∧ MapC hg cb ls
      | none => e' = if e = 0 then 2 else e) ?_ cods.length _ _ ?_
  · rintro J hJ n ev K ⟨i, vb, cb, Ob, hg, e', rfl, hi, t0, t11, t12, t13, hK, hS, hcb, hOb, hU, hn, hG, hF, hP⟩
    have hpkO : pk ∉ Ob := fun hh => by have := hn pk hh; omega
    have hpk1 : pk < K.next := Nat.lt_of_lt_of_le hpk hU.le
    by_cases hlt : i < cods.length
    · obtain ⟨c, hc⟩ : ∃ c, cods[i]? = some c := ⟨_, List.getElem?_eq_getElem hlt⟩
      have hgk : BF.le h0 K.blk := hG.1.trans hF.le
      obtain ⟨o, cs, a1, ⟨lv, bv, rfl, r1, r2⟩, -, a4, a5⟩ := hr.at_ (H := K) (k := .i64) (i := (i : Int)) hgk (by omega) (by simpa using hc) (by decide)
      obtain ⟨K1, e0, e1, b1, u1, k1⟩ := newV_ok (H := K) (v := pt K.next 0) (f := fun b => some (ptrTo b, .cells 2 false [(.slice none 0 0), (.slice none 0 0)])) rfl
      simp only [pt] at a1 a4
      have uz : Up K [] (K1.set K.next (some (.cells 2 false [lv, bv]))) := u1.trans (up_set (O := [K.next]) (by simp) (by omega)) (by simp)
      have hF2 := hF.up0 uz
      have hadd : binV .add (i64 (i : Int)) (i64 1) = some (i64 ((i : Int) + 1)) := add_i64 (by omega)
      have htk : cods.take (i + 1) = cods.take i ++ [c] := by rw [List.take_succ_eq_append_getElem hlt, (List.getElem?_eq_some_iff.1 hc).2]
      simp -implicitDefEqProofs [t0, t11, t12, t13, hlt, a1, a4, e0, stX_agg b1, r1.flat, r2.flat, splice]
      refine Wp.step (blocks1_ok r2 (Fz.nil (hG.1.trans hF2.le) hF2.wi) (hW c (List.mem_of_getElem? hc))) ?_
      rintro ⟨v, K2⟩ ⟨u2, hp⟩
      simp only at u2 hp
      have uA : Up K [] K2 := uz.trans u2 (by simp)
      have hK2 : K2.blk pk = some (.cells 20 false [ty, fu, ta, me, gl, ex, s1, s2, el, s3, s4, co, da, vb, vm, vt, vg, ve, vd, i64 e']) := by rw [uA.eq pk hpk1 (by simp)]; exact hK
      have hFA := hF.up0 uA
      -- behind the walk: the map is appended
      have fin : ∀ (K3 : Heap) (e2 : Int) (mv : Value) (hg2 : BF), K3.blk pk = some (.cells 20 false [ty, fu, ta, me, gl, ex, s1, s2, el, s3, s4, co, da, vb, vm, vt, vg, ve, vd, i64 e2]) → Up K2 [pk] K3 → mv.cells.toList = [mv] → Ck.flat mv = true →
          Grow H.next h0 hg2 → Fz K3 hg2 (pk :: Ob) → (match P.blocksAll (cods.take (i + 1)) with
            | some ls => e2 = e ∧ MapC hg2 (cb ++ [mv]) ls
            | none => e2 = if e = 0 then 2 else e) →
          ∃ sv K4 v' K5, newV (fun b => bsliceV 1 1 [.map none] [(0, 1, mv)] b) K3 = some (sv, K4) ∧ appendV 1 8 vb sv K4 = some (v', K5) ∧ K5.blk pk = some (.cells 20 false [ty, fu, ta, me, gl, ex, s1, s2, el, s3, s4, co, da, vb, vm, vt, vg, ve, vd, i64 e2]) ∧ Ck.flat v' = true ∧
            ∀ ev' : Env, ev' 0 = pt pk 0 → ev' 11 = co → ev' 12 = i64 cods.length → ev' 13 = i64 ((i : Int) + 1) → ∃ m, m < cods.length - i ∧ J m ev' (K5.set pk (some (.cells 20 false [ty, fu, ta, me, gl, ex, s1, s2, el, s3, s4, co, da, v', vm, vt, vg, ve, vd, i64 e2]))) := by
        intro K3 e2 mv hg2 h3 u3 hmc hmf hG2 hF3 hP2
        obtain ⟨K4, f0, f1, b4, u4, k4⟩ := newV_ok (H := K3) (v := .slice (some ⟨K3.next, 0, none⟩) 1 1) (f := fun b => bsliceV 1 1 [.map none] [(0, 1, mv)] b) (bslice1 1 _ [mv] _ _ rfl hmc rfl (by simp [hmf]))
        have uB : Up K [pk] K3 := (uA.mono (by simp)).trans u3 fun b hb => .inl hb
        have hS4 : OSl K4.blk 1 vb cb Ob := hS.keep fun b hb => by
          rw [k4 b (Nat.lt_of_lt_of_le (hOb.2 b hb) uB.le), uB.eq b (hOb.2 b hb) (by simp; intro e; exact hpkO (e ▸ hb))]
        have hrow : Row K4.blk 1 (.slice (some ⟨K3.next, 0, none⟩) 1 1) 1 [mv] := ⟨rfl, .inr ⟨K3.next, 0, 1, false, _, rfl, b4, by simp, by simp⟩⟩
        obtain ⟨v', K5, O', g1, g2, g3, g4, g5, -⟩ := hS4.append (byt := 8) (n := i) (by decide) (by omega) hrow (by omega) (fun b hb => by have := hOb.2 b hb; have := uB.le; omega)
        have hpk3 : pk < K3.next := Nat.lt_of_lt_of_le hpk1 uB.le
        have h5 : K5.blk pk = some (.cells 20 false [ty, fu, ta, me, gl, ex, s1, s2, el, s3, s4, co, da, vb, vm, vt, vg, ve, vd, i64 e2]) := by
          rw [g4.eq pk (by omega) hpkO, k4 pk hpk3]; exact h3
        have hpk5 : pk < K5.next := by have := g4.le; omega
        have hO'pk : ∀ b, b ∈ O' → b ≠ pk ∧ H.next ≤ b := fun b hb => by
          have := hU.le; have := uB.le
          rcases g5 b hb with g | g
          · exact ⟨fun e => hpkO (e ▸ g), hn b g⟩
          · exact ⟨by omega, by omega⟩
        have u35 : Up K3 (pk :: Ob) (K5.set pk (some (.cells 20 false [ty, fu, ta, me, gl, ex, s1, s2, el, s3, s4, co, da, v', vm, vt, vg, ve, vd, i64 e2]))) :=
          ((u4.mono (by simp)).trans g4 fun b hb => .inl (by simp [hb])).trans (up_set (O := [pk]) (by simp) hpk5) fun b hb => by simp at hb; simp [hb]
        refine ⟨_, K4, v', K5, f0, g1, h5, g2.flat, fun ev' q0 q11 q12 q13 => ⟨cods.length - (i + 1), by omega, hJ _ _ _ ⟨i + 1, v', cb ++ [mv], O', hg2, e2, rfl, by omega, q0, q11, q12, by simpa using q13, set_same _ _ _, g2.keep fun b hb => set_other (hO'pk b hb).1, by simp [hcb], g3.up (by simp), ?_, fun b hb => (hO'pk b hb).2, hG2, ?_, ?_⟩⟩⟩
        · refine (hU.trans uB fun b hb => .inl hb).trans u35 fun b hb => ?_
          simp only [List.mem_cons] at hb ⊢
          rcases hb with rfl | hb
          · simp
          · exact .inr (hn b hb)
        · refine hF3.up u35 fun b hb => ?_
          simp only [List.mem_cons] at hb ⊢
          rcases hb with rfl | hb
          · simp
          · rcases g5 b hb with g | g
            · simp [g]
            · right; omega
        · exact hP2
      cases hb : P.blocksOf c.body with
      | none =>
        rw [hb] at hp
        simp only at hp
        subst hp
        have hB1 : P.blocksAll (cods.take (i + 1)) = none := by rw [htk, blocksAll_snoc, hb]; cases P.blocksAll (cods.take i) <;> rfl
        by_cases hz : e' = 0
        · subst hz
          have he0 : e = 0 := by
            cases hq : P.blocksAll (cods.take i) with
            | none => rw [hq] at hP; simp only at hP; split at hP <;> omega
            | some ls => rw [hq] at hP; simp only at hP; omega
          obtain ⟨sv, K4, v', K5, f0, g1, h5, g2, fin⟩ := fin (K2.set pk (some (.cells 20 false [ty, fu, ta, me, gl, ex, s1, s2, el, s3, s4, co, da, vb, vm, vt, vg, ve, vd, i64 2]))) 2 (.map none) hg (set_same _ _ _) (up_set (by simp) (Nat.lt_of_lt_of_le hpk1 uA.le)) rfl rfl hG (hFA.up ((up_set (O := [pk]) (by simp) (Nat.lt_of_lt_of_le hpk1 uA.le)).mono (by simp)) fun b hb => .inl hb) (by rw [hB1]; simp [he0])
          simp -implicitDefEqProofs [t0, ld_of hK2, stX_val hK2, f0, g1, stX_val h5, g2, t13, hadd]
          exact fin _ (by simp [t0]) (by simp [t11]) (by simp [t12]) (by simp)
        · obtain ⟨sv, K4, v', K5, f0, g1, h5, g2, fin⟩ := fin K2 e' (.map none) hg hK2 (Up.refl _ _) rfl rfl hG hFA (by
            rw [hB1]
            cases hq : P.blocksAll (cods.take i) with
            | none => rw [hq] at hP; exact hP
            | some ls => rw [hq] at hP; simp only at hP ⊢; rw [if_neg (by omega)]; exact hP.1)
          simp -implicitDefEqProofs [t0, ld_of hK2, hz, f0, g1, stX_val h5, g2, t13, hadd]
          exact fin _ (by simp [t0]) (by simp [t11]) (by simp [t12]) (by simp)
      | some out =>
        rw [hb] at hp
        simp only at hp
        obtain ⟨r, rfl, hr2, hrn⟩ := hp
        have hgr : hg r = none := by
          cases hx : hg r with
          | none => rfl
          | some x => have h1 := hF.wi _ _ (hF.le r x hx); have := uz.le; omega
        have hrlt : r < K2.next := uA.wi hF.wi _ _ hr2
        have hFr : Fz K2 (hg.add r (.map (ent out))) (pk :: Ob) := by
          refine ⟨?_, ?_, hFA.wi⟩
          · intro b x hbx
            unfold BF.add at hbx
            by_cases eb : b = r
            · rw [if_pos eb] at hbx; rw [eb, hr2]; exact hbx
            · rw [if_neg eb] at hbx; exact hFA.le b x hbx
          · intro b hbO
            have : b ≠ r := by
              have := uz.le
              simp only [List.mem_cons] at hbO
              rcases hbO with rfl | hbO
              · omega
              · have := hOb.2 b hbO; omega
            unfold BF.add
            rw [if_neg this]
            exact hF.hO b hbO
        obtain ⟨sv, K4, v', K5, f0, g1, h5, g2, fin⟩ := fin K2 e' (.map (some r)) (hg.add r (.map (ent out))) hK2 (Up.refl _ _) rfl rfl (hG.trans (Grow.add (n := H.next) hgr (by have := hU.le; have := uz.le; omega)) (Nat.le_refl _)) hFr (by
          rw [htk, blocksAll_snoc, hb]
          cases hq : P.blocksAll (cods.take i) with
          | none => rw [hq] at hP; exact hP
          | some ls => rw [hq] at hP; exact ⟨hP.1, MapC.snoc (BF.add_at _ _ _) (MapC.mono (BF.le_add hgr) hP.2)⟩)
        simp -implicitDefEqProofs [t0, ld_of hK2, f0, g1, stX_val h5, g2, t13, hadd]
        exact fin _ (by simp [t0]) (by simp [t11]) (by simp [t12]) (by simp)
    · have hil : i = cods.length := by omega
      subst hil
      rw [List.take_length] at hP
      simp -implicitDefEqProofs [t12, t13]
      exact hQ _ ⟨rfl, vb, cb, Ob, hg, e', hK, hS, hOb, hU, hn, hG, hF, hP⟩
  · exact ⟨0, .slice none 0 0, [], [], h0, e, by simp, by simp, by simp, by simp, by simp, by simp, hk, .inl ⟨rfl, rfl, rfl⟩, rfl, Own.nil _, Up.refl _ _, by simp, Grow.refl _ _, hf, by simp [P.blocksAll, MapC]⟩

end Ck

/-
The code of functions, as the machine runs it.
-/
set_option maxRecDepth 100000
set_option linter.unusedVariables false
namespace Ck
open Go
/-- (*cloakroom/inst.maker).room -/
noncomputable def m157j14 (C : Oracle) (e15 : Env) (h16 : Heap) : Out :=
  (binV .add (e15 45) (.int .i64 1)).bind fun v17 =>
  (movV v17).bind fun v18 =>
  some (.normal, (upd e15 45 v18), h16)

noncomputable def m157j19 (C : Oracle) (e20 : Env) (h21 : Heap) : Out :=
  m157j14 C e20 h21

noncomputable def m157j0 (C : Oracle) (e1 : Env) (h2 : Heap) : Option (Value × Heap) :=
  (movV (e1 0)).bind fun v3 =>
  (nilchk v3).bind fun v4 =>
  (faddrV 0 v4).bind fun v5 =>
  (faddrV 0 v5).bind fun v6 =>
  (faddrV 2 v6).bind fun v7 =>
  (ldV false 1 v7 h2).bind fun v8 =>
  (lenV v8).bind fun v9 =>
  (movV (.int .i64 0)).bind fun v10 =>
  bindL (loopL (fun e11 h12 =>
      (binV .lss (e11 45) (e11 44)).bind fun v13 =>
      ifK v13 (
        (iaddrV 4 (e11 43) (e11 45)).bind fun v22 =>
        (ldV true 4 v22 h12).bind fun v23 =>
        (newV (fun b => some (ptrTo b, .cells 4 false [(.int .u8 0), (.int .u32 0), (.int .u32 0), (.bool false)])) h12).bind fun x24 =>
        (stX 4 x24.1 v23 x24.2).bind fun x25 =>
        (faddrV 1 x24.1).bind fun v26 =>
        (faddrV 0 v26).bind fun v27 =>
        (ldV false 1 v27 x25.2).bind fun v28 =>
        (binV .gtr v28 (.int .u32 64)).bind fun v29 =>
        ifK v29 (
          (movV (e11 0)).bind fun v30 =>
          (nilchk v30).bind fun v31 =>
          (faddrV 19 v31).bind fun v32 =>
          (stX 1 v32 (.int .i64 8) x25.2).bind fun x33 =>
          m157j19 C (upd (upd (upd e11 46 v13) 4 x24.1) 52 v29) x33.2) (
          (movV (e11 0)).bind fun v34 =>
          (movV (e11 0)).bind fun v35 =>
          (nilchk v35).bind fun v36 =>
          (faddrV 0 v36).bind fun v37 =>
          (faddrV 15 v37).bind fun v38 =>
          (ldV false 1 v38 x25.2).bind fun v39 =>
          (faddrV 1 x24.1).bind fun v40 =>
          (faddrV 0 v40).bind fun v41 =>
          (ldV false 1 v41 x25.2).bind fun v42 =>
          (newV (fun b => mksliceV 1 8 [(.int .u64 0)] v42 v42 b) x25.2).bind fun x43 =>
          (newV (fun b => bsliceV 1 1 [(.slice none 0 0)] [(0, 1, x43.1)] b) x43.2).bind fun x44 =>
          (appendV 1 24 v39 x44.1 x44.2).bind fun x45 =>
          (nilchk v34).bind fun v46 =>
          (faddrV 0 v46).bind fun v47 =>
          (faddrV 15 v47).bind fun v48 =>
          (stX 1 v48 x45.1 x45.2).bind fun x49 =>
          m157j19 C (upd (upd (upd e11 46 v13) 4 x24.1) 52 v29) x49.2)) (
        some (.exit 0, (upd e11 46 v13), h12))) (upd (upd (upd e1 43 v8) 44 v9) 45 v10) h2)
    (fun i50 e51 h52 =>
      if i50 = 0 then (
        some (.tuple #[], h52)) else (
        none))
    (fun e53 h54 =>
      some (.tuple #[], h54))

noncomputable def m157 (C : Oracle) (a0 : Value) (H : Heap) : Option (Value × Heap) :=
  (movV a0).bind fun v55 =>
  (nilchk v55).bind fun v56 =>
  (faddrV 0 v56).bind fun v57 =>
  (faddrV 0 v57).bind fun v58 =>
  (faddrV 3 v58).bind fun v59 =>
  (ldV false 1 v59 H).bind fun v60 =>
  (movV v60).bind fun v61 =>
  (movV v61).bind fun v62 =>
  (lenV v62).bind fun v63 =>
  (binV .gtr v63 (.int .i64 0)).bind fun v64 =>
  (movV v64).bind fun v65 =>
  (guardV (some (v65, true)) (movV v61)).bind fun v66 =>
  (guardV (some (v65, true)) (iaddrV 3 v66 (.int .i64 0))).bind fun v67 =>
  (guardV (some (v65, true)) (faddrV 0 v67)).bind fun v68 =>
  (guardV (some (v65, true)) (ldV false 1 v68 H)).bind fun v69 =>
  (guardV (some (v65, true)) (binV .gtr v69 (.int .u32 1))).bind fun v70 =>
  (pickV v65 v70 (.bool false)).bind fun v71 =>
  ifK v71 (
    (movV a0).bind fun v72 =>
    (nilchk v72).bind fun v73 =>
    (faddrV 19 v73).bind fun v74 =>
    (stX 1 v74 (.int .i64 8) H).bind fun x75 =>
    m157j0 C (upd (upd (env0 [a0]) 2 v61) 20 v71) x75.2) (
    (movV v61).bind fun v76 =>
    (lenV v76).bind fun v77 =>
    (binV .gtr v77 (.int .i64 0)).bind fun v78 =>
    ifK v78 (
      (movV a0).bind fun v79 =>
      (movV v61).bind fun v80 =>
      (iaddrV 3 v80 (.int .i64 0)).bind fun v81 =>
      (faddrV 0 v81).bind fun v82 =>
      (ldV false 1 v82 H).bind fun v83 =>
      (convV .i64 v83).bind fun v84 =>
      (binV .mul v84 (.int .i64 65536)).bind fun v85 =>
      (newV (fun b => mksliceV 1 1 [(.int .u8 0)] v85 v85 b) H).bind fun x86 =>
      (nilchk v79).bind fun v87 =>
      (faddrV 0 v87).bind fun v88 =>
      (faddrV 14 v88).bind fun v89 =>
      (stX 1 v89 x86.1 x86.2).bind fun x90 =>
      m157j0 C (upd (upd (upd (env0 [a0]) 2 v61) 20 v71) 26 v78) x90.2) (
      m157j0 C (upd (upd (upd (env0 [a0]) 2 v61) 20 v71) 26 v78) H))

theorem c157 (a0 : Value) (H : Heap) : call tbl 157 [a0] H = m157 (call tbl) a0 H :=
  (call_eqM 157 _ H).trans (by kernel_rfl)

/-- (*cloakroom/step.machine).enters -/
noncomputable def m100j63 (C : Oracle) (e64 : Env) (h65 : Heap) : Option (Value × Heap) :=
  (movV (e64 6)).bind fun v66 =>
  (movV (e64 6)).bind fun v67 =>
  (nilchk v67).bind fun v68 =>
  (faddrV 5 v68).bind fun v69 =>
  (ldV false 1 v69 h65).bind fun v70 =>
  (ldV true 3 (e64 14) h65).bind fun v71 =>
  (newV (fun b => bsliceV 3 1 [(.int .i64 0), (.int .i64 0), (.int .i64 0)] [(0, 3, v71)] b) h65).bind fun x72 =>
  (appendV 3 24 v70 x72.1 x72.2).bind fun x73 =>
  (nilchk v66).bind fun v74 =>
  (faddrV 5 v74).bind fun v75 =>
  (stX 1 v75 x73.1 x73.2).bind fun x76 =>
  some (.tuple #[], x76.2)

noncomputable def m100j44 (C : Oracle) (e45 : Env) (h46 : Heap) : Option (Value × Heap) :=
  (faddrV 1 (e45 7)).bind fun v47 =>
  (ldV false 1 v47 h46).bind fun v48 =>
  (movV (e45 10)).bind fun v49 =>
  (movV (e45 0)).bind fun v50 =>
  (nilchk v50).bind fun v51 =>
  (faddrV 0 v51).bind fun v52 =>
  (ldV false 1 v52 h46).bind fun v53 =>
  (nilchk v53).bind fun v54 =>
  (faddrV 1 v54).bind fun v55 =>
  (ldV false 1 v55 h46).bind fun v56 =>
  (lenV v56).bind fun v57 =>
  (movV (e45 9)).bind fun v58 =>
  (binV .sub v57 v58).bind fun v59 =>
  (buildV [(.int .i64 0), (.int .i64 0), (.int .i64 0)] [(0, 1, v48), (1, 1, v49), (2, 1, v59)]).bind fun v60 =>
  (newV (fun b => some (ptrTo b, .cells 3 false [(.int .i64 0), (.int .i64 0), (.int .i64 0)])) h46).bind fun x61 =>
  (stX 3 x61.1 v60 x61.2).bind fun x62 =>
  (faddrV 0 (e45 4)).bind fun v77 =>
  (ldV false 1 v77 x62.2).bind fun v78 =>
  (binV .eql v78 (.int .i64 3)).bind fun v79 =>
  ifK v79 (
    (movV (e45 2)).bind fun v80 =>
    (movV (e45 9)).bind fun v81 =>
    (faddrV 0 x61.1).bind fun v82 =>
    (stX 1 v82 v80 x62.2).bind fun x83 =>
    (faddrV 1 x61.1).bind fun v84 =>
    (stX 1 v84 v81 x83.2).bind fun x85 =>
    m100j63 C (upd (upd e45 14 x61.1) 97 v79) x85.2) (
    m100j63 C (upd (upd e45 14 x61.1) 97 v79) x62.2)

noncomputable def m100 (C : Oracle) (a0 a1 a2 : Value) (H : Heap) : Option (Value × Heap) :=
  (newV (fun b => boxV 6 a1 b) H).bind fun x0 =>
  (movV a0).bind fun v1 =>
  (C 59 [v1] x0.2).bind fun x2 =>
  (movV x2.1).bind fun v3 =>
  (movV a0).bind fun v4 =>
  (nilchk v4).bind fun v5 =>
  (faddrV 1 v5).bind fun v6 =>
  (ldV false 1 v6 x2.2).bind fun v7 =>
  (nilchk v7).bind fun v8 =>
  (faddrV 13 v8).bind fun v9 =>
  (ldV false 1 v9 x2.2).bind fun v10 =>
  (movV v3).bind fun v11 =>
  (nilchk v11).bind fun v12 =>
  (faddrV 0 v12).bind fun v13 =>
  (ldV false 1 v13 x2.2).bind fun v14 =>
  (iaddrV 1 v10 v14).bind fun v15 =>
  (ldV false 1 v15 x2.2).bind fun v16 =>
  (movV a2).bind fun v17 =>
  (lookupV .int (.agg #[(.int .i64 0), (.int .i64 0)]) true v16 v17 x2.2).bind fun v18 =>
  (movV v18).bind fun v19 =>
  (extV v19 0).bind fun v20 =>
  (extV v19 1).bind fun v21 =>
  (newV (fun b => some (ptrTo b, .cells 2 false [(.int .i64 0), (.int .i64 0)])) x2.2).bind fun x22 =>
  (stX 2 x22.1 v20 x22.2).bind fun x23 =>
  (movV v21).bind fun v24 =>
  (movV a0).bind fun v25 =>
  (faddrV 5 x0.1).bind fun v26 =>
  (ldV false 1 v26 x23.2).bind fun v27 =>
  (C 167 [v25, v27] x23.2).bind fun x28 =>
  (movV x28.1).bind fun v29 =>
  (extV v29 0).bind fun v30 =>
  (extV v29 1).bind fun v31 =>
  (extV v29 2).bind fun v32 =>
  (movV v30).bind fun v33 =>
  (movV v31).bind fun v34 =>
  (movV v32).bind fun v35 =>
  (movV a0).bind fun v36 =>
  (movV v24).bind fun v37 =>
  (unV .not v37).bind fun v38 =>
  (movV v38).bind fun v39 =>
  (guardV (some (v39, false)) (movV v35)).bind fun v40 =>
  (guardV (some (v39, false)) (unV .not v40)).bind fun v41 =>
  (pickV v39 (.bool true) v41).bind fun v42 =>
  (C 58 [v36, v42] x28.2).bind fun x43 =>
  ifK x43.1 (
    some (.tuple #[], x43.2)) (
    (faddrV 0 x0.1).bind fun v86 =>
    (ldV false 1 v86 x43.2).bind fun v87 =>
    (binV .eql v87 (.int .i64 4)).bind fun v88 =>
    ifK v88 (
      (movV a0).bind fun v89 =>
      (C 104 [v89, (.int .i64 1)] x43.2).bind fun x90 =>
      (movV x90.1).bind fun v91 =>
      (extV v91 0).bind fun v92 =>
      (extV v91 1).bind fun v93 =>
      (movV v92).bind fun v94 =>
      (movV v93).bind fun v95 =>
      (movV v95).bind fun v96 =>
      (unV .not v96).bind fun v97 =>
      ifK v97 (
        some (.tuple #[], x90.2)) (
        (movV v94).bind fun v98 =>
        (iaddrV 1 v98 (.int .i64 0)).bind fun v99 =>
        (ldV false 1 v99 x90.2).bind fun v100 =>
        (convV .u32 v100).bind fun v101 =>
        (binV .eql v101 (.int .u32 0)).bind fun v102 =>
        ifK v102 (
          (faddrV 0 x22.1).bind fun v103 =>
          (ldV false 1 v103 x90.2).bind fun v104 =>
          (binV .lss v104 (.int .i64 0)).bind fun v105 =>
          ifK v105 (
            (movV v3).bind fun v106 =>
            (faddrV 1 x22.1).bind fun v107 =>
            (ldV false 1 v107 x90.2).bind fun v108 =>
            (binV .add v108 (.int .i64 1)).bind fun v109 =>
            (nilchk v106).bind fun v110 =>
            (faddrV 1 v110).bind fun v111 =>
            (stX 1 v111 v109 x90.2).bind fun x112 =>
            some (.tuple #[], x112.2)) (
            (movV v3).bind fun v113 =>
            (faddrV 0 x22.1).bind fun v114 =>
            (ldV false 1 v114 x90.2).bind fun v115 =>
            (binV .add v115 (.int .i64 1)).bind fun v116 =>
            (nilchk v113).bind fun v117 =>
            (faddrV 1 v117).bind fun v118 =>
            (stX 1 v118 v116 x90.2).bind fun x119 =>
            m100j44 C (upd (upd (upd (upd (upd (upd (upd (upd (upd (upd (upd (upd (upd (upd (env0 [a0, a1, a2]) 4 x0.1) 6 v3) 7 x22.1) 8 v24) 9 v33) 10 v34) 11 v35) 50 x43.1) 53 v88) 12 v94) 13 v95) 60 v97) 65 v102) 68 v105) x119.2)) (
          m100j44 C (upd (upd (upd (upd (upd (upd (upd (upd (upd (upd (upd (upd (upd (env0 [a0, a1, a2]) 4 x0.1) 6 v3) 7 x22.1) 8 v24) 9 v33) 10 v34) 11 v35) 50 x43.1) 53 v88) 12 v94) 13 v95) 60 v97) 65 v102) x90.2))) (
      m100j44 C (upd (upd (upd (upd (upd (upd (upd (upd (upd (env0 [a0, a1, a2]) 4 x0.1) 6 v3) 7 x22.1) 8 v24) 9 v33) 10 v34) 11 v35) 50 x43.1) 53 v88) x43.2))

theorem c100 (a0 a1 a2 : Value) (H : Heap) : call tbl 100 [a0, a1, a2] H = m100 (call tbl) a0 a1 a2 H :=
  (call_eqM 100 _ H).trans (by kernel_rfl)

/-- (*cloakroom/step.machine).opens -/
noncomputable def m98j42 (C : Oracle) (e43 : Env) (h44 : Heap) : Out :=
  (binV .add (e43 48) (.int .i64 1)).bind fun v45 =>
  (movV v45).bind fun v46 =>
  some (.normal, (upd e43 48 v46), h44)

noncomputable def m98j47 (C : Oracle) (e48 : Env) (h49 : Heap) : Out :=
  m98j42 C e48 h49

noncomputable def m98 (C : Oracle) (a0 a1 a2 : Value) (H : Heap) : Option (Value × Heap) :=
  (movV a0).bind fun v0 =>
  (nilchk v0).bind fun v1 =>
  (faddrV 0 v1).bind fun v2 =>
  (ldV false 1 v2 H).bind fun v3 =>
  (nilchk v3).bind fun v4 =>
  (faddrV 0 v4).bind fun v5 =>
  (ldV false 1 v5 H).bind fun v6 =>
  (lenV v6).bind fun v7 =>
  (binV .geq v7 (.int .i64 32)).bind fun v8 =>
  ifK v8 (
    (movV a0).bind fun v9 =>
    (C 68 [v9, (.int .i64 8)] H).bind fun x10 =>
    some (.tuple #[], x10.2)) (
    (movV a0).bind fun v11 =>
    (movV a1).bind fun v12 =>
    (C 60 [v11, v12] H).bind fun x13 =>
    (movV x13.1).bind fun v14 =>
    (extV v14 0).bind fun v15 =>
    (extV v14 1).bind fun v16 =>
    (newV (fun b => some (ptrTo b, .cells 2 false [(.slice none 0 0), (.slice none 0 0)])) x13.2).bind fun x17 =>
    (stX 2 x17.1 v15 x17.2).bind fun x18 =>
    (movV v16).bind fun v19 =>
    (movV a0).bind fun v20 =>
    (movV v19).bind fun v21 =>
    (unV .not v21).bind fun v22 =>
    (movV v22).bind fun v23 =>
    (guardV (some (v23, false)) (movV a2)).bind fun v24 =>
    (guardV (some (v23, false)) (lenV v24)).bind fun v25 =>
    (guardV (some (v23, false)) (faddrV 0 x17.1)).bind fun v26 =>
    (guardV (some (v23, false)) (ldV false 1 v26 x18.2)).bind fun v27 =>
    (guardV (some (v23, false)) (lenV v27)).bind fun v28 =>
    (guardV (some (v23, false)) (binV .neq v25 v28)).bind fun v29 =>
    (pickV v23 (.bool true) v29).bind fun v30 =>
    (C 58 [v20, v30] x18.2).bind fun x31 =>
    ifK x31.1 (
      some (.tuple #[], x31.2)) (
      (movV a2).bind fun v32 =>
      (C 83 [v32] x31.2).bind fun x33 =>
      (movV x33.1).bind fun v34 =>
      (faddrV 0 x17.1).bind fun v35 =>
      (ldV false 1 v35 x33.2).bind fun v36 =>
      (lenV v36).bind fun v37 =>
      (movV (.int .i64 0)).bind fun v38 =>
      bindL (loopL (fun e39 h40 =>
          (binV .lss (e39 48) (e39 47)).bind fun v41 =>
          ifK v41 (
            (movV (e39 48)).bind fun v50 =>
            (iaddrV 1 (e39 46) (e39 48)).bind fun v51 =>
            (ldV false 1 v51 h40).bind fun v52 =>
            (movV v50).bind fun v53 =>
            (movV v52).bind fun v54 =>
            (movV v54).bind fun v55 =>
            (binV .eql v55 (.int .u8 127)).bind fun v56 =>
            ifK v56 (
              (movV (e39 8)).bind fun v57 =>
              (movV v53).bind fun v58 =>
              (iaddrV 1 v57 v58).bind fun v59 =>
              (ldV false 1 v59 h40).bind fun v60 =>
              (binV .and v60 (.int .u64 4294967295)).bind fun v61 =>
              (iaddrV 1 v57 v58).bind fun v62 =>
              (stX 1 v62 v61 h40).bind fun x63 =>
              m98j47 C (upd (upd (upd (upd e39 49 v41) 9 v53) 10 v54) 54 v56) x63.2) (
              m98j47 C (upd (upd (upd (upd e39 49 v41) 9 v53) 10 v54) 54 v56) h40)) (
            some (.exit 0, (upd e39 49 v41), h40))) (upd (upd (upd (upd (upd (upd (upd (upd (env0 [a0, a1, a2]) 22 v8) 6 x17.1) 7 v19) 42 x31.1) 8 v34) 46 v36) 47 v37) 48 v38) x33.2)
        (fun i64 e65 h66 =>
          if i64 = 0 then (
            (movV (e65 0)).bind fun v69 =>
            (nilchk v69).bind fun v70 =>
            (faddrV 1 v70).bind fun v71 =>
            (ldV false 1 v71 h66).bind fun v72 =>
            (nilchk v72).bind fun v73 =>
            (faddrV 0 v73).bind fun v74 =>
            (faddrV 11 v74).bind fun v75 =>
            (ldV false 1 v75 h66).bind fun v76 =>
            (movV (e65 1)).bind fun v77 =>
            (iaddrV 2 v76 v77).bind fun v78 =>
            (ldV true 2 v78 h66).bind fun v79 =>
            (newV (fun b => some (ptrTo b, .cells 2 false [(.slice none 0 0), (.slice none 0 0)])) h66).bind fun x80 =>
            (stX 2 x80.1 v79 x80.2).bind fun x81 =>
            (faddrV 1 (e65 6)).bind fun v82 =>
            (ldV false 1 v82 x81.2).bind fun v83 =>
            (lenV v83).bind fun v84 =>
            (movV (e65 0)).bind fun v85 =>
            (nilchk v85).bind fun v86 =>
            (faddrV 0 v86).bind fun v87 =>
            (ldV false 1 v87 x81.2).bind fun v88 =>
            (nilchk v88).bind fun v89 =>
            (faddrV 1 v89).bind fun v90 =>
            (ldV false 1 v90 x81.2).bind fun v91 =>
            (lenV v91).bind fun v92 =>
            (movV v84).bind fun v93 =>
            (movV v92).bind fun v94 =>
            (movV (e65 0)).bind fun v95 =>
            (nilchk v95).bind fun v96 =>
            (faddrV 0 v96).bind fun v97 =>
            (ldV false 1 v97 x81.2).bind fun v98 =>
            (movV (e65 0)).bind fun v99 =>
            (nilchk v99).bind fun v100 =>
            (faddrV 0 v100).bind fun v101 =>
            (ldV false 1 v101 x81.2).bind fun v102 =>
            (nilchk v102).bind fun v103 =>
            (faddrV 0 v103).bind fun v104 =>
            (ldV false 1 v104 x81.2).bind fun v105 =>
            (movV (e65 1)).bind fun v106 =>
            (convV .i64 v106).bind fun v107 =>
            (movV v93).bind fun v108 =>
            (movV v94).bind fun v109 =>
            (movV (e65 8)).bind fun v110 =>
            (faddrV 0 x80.1).bind fun v111 =>
            (ldV false 1 v111 x81.2).bind fun v112 =>
            (lenV v112).bind fun v113 =>
            (faddrV 1 x80.1).bind fun v114 =>
            (ldV false 1 v114 x81.2).bind fun v115 =>
            (lenV v115).bind fun v116 =>
            (binV .sub v116 (.int .i64 1)).bind fun v117 =>
            (movV v93).bind fun v118 =>
            (movV v94).bind fun v119 =>
            (buildV [(.int .i64 0), (.int .i64 0), (.int .i64 0)] [(0, 1, v117), (1, 1, v118), (2, 1, v119)]).bind fun v120 =>
            (newV (fun b => bsliceV 3 1 [(.int .i64 0), (.int .i64 0), (.int .i64 0)] [(0, 3, v120)] b) x81.2).bind fun x121 =>
            (C 166 [v110, v113] x121.2).bind fun x122 =>
            again (ldV false 1 v97 x122.2) v98 (
            again (ldV false 1 v101 x122.2) v102 (
            again (ldV false 1 v104 x122.2) v105 (
            again (ldV false 1 v114 x122.2) v115 (
            (buildV [(.int .i64 0), (.int .i64 0), (.int .i64 0), (.int .i64 0), (.slice none 0 0), (.slice none 0 0)] [(0, 1, v107), (2, 1, v108), (3, 1, v109), (4, 1, x122.1), (5, 1, x121.1)]).bind fun v123 =>
            (newV (fun b => bsliceV 6 1 [(.int .i64 0), (.int .i64 0), (.int .i64 0), (.int .i64 0), (.slice none 0 0), (.slice none 0 0)] [(0, 6, v123)] b) x122.2).bind fun x124 =>
            (appendV 6 80 v105 x124.1 x124.2).bind fun x125 =>
            again (ldV false 1 v97 x125.2) v98 (
            (nilchk v98).bind fun v126 =>
            (faddrV 0 v126).bind fun v127 =>
            (stX 1 v127 x125.1 x125.2).bind fun x128 =>
            some (.tuple #[], x128.2))))))) else (
            none))
        (fun e67 h68 =>
          some (.tuple #[], h68))))

theorem c98 (a0 a1 a2 : Value) (H : Heap) : call tbl 98 [a0, a1, a2] H = m98 (call tbl) a0 a1 a2 H :=
  (call_eqM 98 _ H).trans (by kernel_rfl)

end Ck
