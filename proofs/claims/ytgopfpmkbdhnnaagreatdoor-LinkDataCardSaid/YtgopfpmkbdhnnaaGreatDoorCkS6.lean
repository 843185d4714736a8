/-
The program's machine: the last frame is changed.
-/
import Derived.Test.YtgopfpmkbdhnnaaGreatDoorCkUp2
set_option linter.unusedSimpArgs false
set_option linter.unusedVariables false
namespace Ck
open Go

theorem FrC.length {h : BF} {c : List Value} {f : Fr} {O : List Nat} (hs : FrC h c f O) : c.length = 6 := by
  obtain ⟨_, _, _, _, rfl, _⟩ := hs; rfl

theorem ofo_snoc {c : Cf} (hf : c.frames ≠ []) : fo c = c.frames.dropLast.length * 6 := by
  simp [fo]

/-- The last frame, opened: its cells, what it owns; and how a changed one is laid in its place. -/
theorem Mac.open {H : Heap} {pm pc : Nat} {x y vf : Value} {c : Cf} {O : List Nat} (h : Mac H pm pc x y vf c O) (hf : c.frames ≠ []) :
    ∃ full vl vb ol ob, H.blk (slB vf) = some (.cells 6 false full) ∧ fo c + 6 ≤ full.length ∧ slB vf < H.next ∧
      (full.drop (fo c)).take 6 = [i64 (P.top c).fn, i64 (P.top c).at_, i64 (P.top c).ar, i64 (P.top c).ht, vl, vb] ∧ OSl H.blk 1 vl ((P.top c).locals.map u64) ol ∧ OSl H.blk 3 vb (ldcells (P.top c).labels) ob ∧
      slB vf ∈ O ∧ slB vf ≠ pc ∧ slB vf ≠ pm ∧ Own H (ol ++ ob) ∧ (∀ b, b ∈ ol ++ ob → b ∈ O ∧ b ≠ slB vf ∧ b ≠ pc ∧ b ≠ pm) ∧
      ∀ (H1 : Heap) (f' : Fr) (full' : List Value) (P2 : List Nat), Up H (ol ++ ob) H1 → FrC H1.blk ((full'.drop (fo c)).take 6) f' P2 → Own H1 P2 → (∀ b, b ∈ P2 → b ∈ ol ++ ob ∨ H.next ≤ b) → full'.length = full.length → full'.take (fo c) = full.take (fo c) →
        PostC H pm pc x y O vf (P.setTop f' c) (H1.set (slB vf) (some (.cells 6 false full'))) := by
  obtain ⟨⟨vs, vv, cf, Ob, Of, Os, Ov, h1, h2, h3, h4, h5, rfl⟩, ho, hp, hl, hw⟩ := h.mk'
  have hm := h.m
  rw [frames_snoc hf] at h3
  have hfo := ofo_snoc hf
  obtain ⟨d1, c2, P1, P2, rfl, q1, ⟨vl, vb, ol, ob, rfl, k2, k3, rfl⟩, rfl⟩ := FrsC.snoc.1 h3
  have hd1 : d1.length = fo c := by rw [q1.length, hfo]
  have hnd := ho.1
  have hlt := ho.2
  simp only [List.nodup_cons, List.nodup_append, List.mem_append, not_or] at hnd
  rcases h2 with ⟨hnil, _⟩ | ⟨fb, n, cc, full, rfl, g1, g2, g3, g4, rfl⟩
  · simp at hnil
  · simp only [slB, List.mem_append, List.mem_cons, List.not_mem_nil, or_false, not_or] at *
    have hfull : full.length ≥ fo c + 6 := by simp [hd1] at g4; omega
    have htk : full.take (fo c + 6) = d1 ++ [i64 (P.top c).fn, i64 (P.top c).at_, i64 (P.top c).ar, i64 (P.top c).ht, vl, vb] := by
      rw [← g3]; congr 1; simp [hd1]
    have htd : full.take (fo c) = d1 := by
      have := congrArg (List.take (fo c)) htk
      rw [List.take_take, Nat.min_eq_left (by omega), List.take_append_of_le_length (by omega), ← hd1, List.take_length] at this
      rw [← hd1]; exact this
    have hdk : (full.drop (fo c)).take 6 = [i64 (P.top c).fn, i64 (P.top c).at_, i64 (P.top c).ar, i64 (P.top c).ht, vl, vb] := by
      have := congrArg (List.drop (fo c)) htk
      rw [List.drop_take, Nat.add_sub_cancel_left, ← hd1, List.drop_append_of_le_length (by omega), List.drop_length, List.nil_append] at this
      rw [← hd1]; exact this
    have hpc : pc < H.next := hlt pc (by simp)
    have hfb : fb < H.next := hlt fb (by simp)
    refine ⟨full, vl, vb, ol, ob, g2, hfull, hfb, hdk, k2, k3, by simp, fun e => hnd.1.2.1 e.symm, fun e => hp.2.2.1 e.symm, ⟨?_, ?_⟩, ?_, ?_⟩
    · exact List.nodup_append.2 hnd.2.2.1.2.1.1.2.1
    · intro b hb; exact hlt b (by simp at hb; rcases hb with h | h <;> simp [h])
    · intro b hb
      refine ⟨?_, ?_, ?_, ?_⟩
      · rcases hb with h | h <;> simp [h]
      · intro e; subst e; exact hnd.2.2.1.2.2 b rfl b (.inl (.inr hb)) rfl
      · intro e; subst e; rcases hb with h | h <;> simp [h] at hnd
      · intro e; subst e; rcases hb with h | h <;> simp [h] at hp
    · intro H1 f' full' P2' hU hF hO hsub hlen htake
      have hne : ∀ b, b < H.next → (b ∉ ol ++ ob) → b ≠ fb → (H1.set fb (some (.cells 6 false full'))).blk b = H.blk b := fun b hb hn he => by
        rw [set_other he, hU.eq b hb hn]
      have hold : ∀ b, b ∈ ol ++ ob → b ≠ pm ∧ b ≠ pc ∧ b ≠ fb := by
        intro b hb
        simp only [List.mem_append] at hb
        refine ⟨?_, ?_, ?_⟩
        · intro e; subst e; rcases hb with h | h <;> simp [h] at hp
        · intro e; subst e; rcases hb with h | h <;> simp [h] at hnd
        · intro e; subst e; exact hnd.2.2.1.2.2 b rfl b (.inl (.inr hb)) rfl
      have hfb1 : fb < H1.next := Nat.lt_of_lt_of_le hfb hU.le
      have hown : Own H1 (P2' ++ (pc :: (Os ++ ([fb] ++ (P1 ++ Ov))))) := by
        refine Own.swap (A := ol ++ ob) (ho.perm ?_) hU.le hO (fun b hb => by simpa using hsub b hb)
        have e1 : (P1 ++ (ol ++ ob)).Perm ((ol ++ ob) ++ P1) := List.perm_append_comm
        have e2 : (pc :: (Os ++ ([fb] ++ ((P1 ++ (ol ++ ob)) ++ Ov)))).Perm (pc :: (Os ++ ([fb] ++ ((ol ++ ob) ++ (P1 ++ Ov))))) := by
          rw [← List.append_assoc (ol ++ ob)]
          exact ((((e1.append_right Ov).append_left [fb]).append_left Os).cons pc)
        refine e2.trans ?_
        have e3 : (pc :: (Os ++ ([fb] ++ ((ol ++ ob) ++ (P1 ++ Ov))))) = (pc :: (Os ++ [fb])) ++ ((ol ++ ob) ++ (P1 ++ Ov)) := by simp
        have e4 : (ol ++ ob) ++ (pc :: (Os ++ ([fb] ++ (P1 ++ Ov)))) = ((ol ++ ob) ++ (pc :: (Os ++ [fb]))) ++ (P1 ++ Ov) := by simp
        rw [e3, e4, ← List.append_assoc]
        exact (List.perm_append_comm).append_right _
      have hP2 : ∀ b, b ∈ P2' → b ≠ fb := fun b hb e => by
        rcases hsub b hb with h | h
        · exact (hold b (by simpa using h)).2.2 e
        · omega
      refine ⟨pc :: (Os ++ ([fb] ++ ((P1 ++ P2') ++ Ov))), ⟨?_, ⟨vs, vv, d1 ++ (full'.drop (fo c)).take 6, [fb], P1 ++ P2', Os, Ov, ?_, ?_, ?_, ?_, ?_, rfl⟩, ?_, ?_, Nat.lt_of_lt_of_le hl hU.le, within_set (hU.wi hw) _ hfb1⟩, ?_, ?_⟩
      · rw [hne pm hl (fun hh => (hold pm hh).1 rfl) (fun e => hp.2.2.1 e)]; exact hm
      · rw [hne pc hpc (fun hh => (hold pc hh).2.1 rfl) (fun e => hnd.1.2.1 e)]; exact h1
      · refine .inr ⟨fb, n, cc, full', rfl, ?_, set_same _ _ _, ?_, ?_, rfl⟩
        · have := hF.length
          simp at g1 this
          rw [List.length_append, List.length_take, List.length_drop, hlen]
          omega
        · have hl6 : (d1 ++ (full'.drop (fo c)).take 6).length = fo c + 6 := by
            rw [List.length_append, List.length_take, List.length_drop, hlen]; omega
          rw [hl6, ← htd, ← htake, List.take_add]
        · rw [List.length_append, List.length_take, List.length_drop, hlen]; omega
      · have hfs : (P.setTop f' c).frames = c.frames.dropLast ++ [f'] := rfl
        rw [hfs, FrsC.snoc]
        refine ⟨d1, _, P1, P2', rfl, ?_, ?_, rfl⟩
        · exact q1.keep fun b hb => hne b (hlt b (by simp [hb])) (fun hh => hnd.2.2.1.2.1.1.2.2 b hb b (by simpa using hh) rfl) (fun e => by subst e; exact hnd.2.2.1.2.2 b rfl b (.inl (.inl hb)) rfl)
        · exact hF.keep fun b hb => set_other (hP2 b hb)
      · exact h4.keep fun b hb => hne b (hlt b (by simp [hb])) (fun hh => hnd.2.2.2 b hb b (.inr (.inl (.inr (by simpa using hh)))) rfl) (fun e => hnd.2.2.2 b hb b (.inl e) rfl)
      · exact h5.keep fun b hb => hne b (hlt b (by simp [hb])) (fun hh => hnd.2.2.1.2.1.2.2 b (.inr (by simpa using hh)) b hb rfl) (fun e => by subst e; exact hnd.2.2.1.2.2 b rfl b (.inr hb) rfl)
      · refine hown.perm ?_
        have e4 : P2' ++ (pc :: (Os ++ ([fb] ++ (P1 ++ Ov)))) = (P2' ++ (pc :: (Os ++ ([fb] ++ P1)))) ++ Ov := by simp
        have e5 : pc :: (Os ++ ([fb] ++ ((P1 ++ P2') ++ Ov))) = ((pc :: (Os ++ ([fb] ++ P1))) ++ P2') ++ Ov := by simp
        rw [e4, e5]
        exact List.perm_append_comm.append_right _
      · intro hh
        simp only [List.mem_cons, List.mem_append, List.not_mem_nil, or_false] at hh
        rcases hh with h | h | h | (h | h) | h
        · exact hp.1 h
        · exact hp.2.1 h
        · exact hp.2.2.1 h
        · exact hp.2.2.2.1.1 h
        · rcases hsub pm h with h | h
          · exact (hold pm (by simpa using h)).1 rfl
          · omega
        · exact hp.2.2.2.2 h
      · refine (hU.mono fun b hb => ?_).trans (up_set (O := [fb]) (by simp) hfb1) fun b hb => ?_
        · simp only [List.mem_append] at hb; rcases hb with h | h <;> simp [h]
        · simp at hb; simp [hb]
      · intro b hb
        simp only [List.mem_cons, List.mem_append, List.not_mem_nil, or_false] at hb ⊢
        rcases hb with h | h | h | (h | h) | h
        · simp [h]
        · simp [h]
        · simp [h]
        · simp [h]
        · rcases hsub b h with h | h
          · rcases h with h | h <;> simp [h]
          · exact .inr h
        · simp [h]

end Ck

/-
How an instance stands in memory; what is read of it.
-/
set_option linter.unusedSimpArgs false
set_option linter.unusedVariables false
namespace Ck
open Go

def RMap (h : BF) (c : List Value) (l : List (Int × Int × Int)) : Prop :=
  ∃ r, c = [.map (some r)] ∧ h r = some (.map (l.map fun x => (i64 x.1, .agg #[i64 x.2.1, i64 x.2.2])))

/-- What of an instance does not change: the module's cells, where its blocks end. -/
structure RMd (h : BF) (ty fu ta me gl ex el co da bl : Value) (d : Md) : Prop where
  mo : RMo h ty fu ta me gl ex el co da d.m
  bl : RL h 1 (RMap h) bl d.blocks

structure InsW (x : Ins) : Prop where
  op : -9223372036854775808 ≤ x.op ∧ x.op ≤ 9223372036854775807
  a : 0 ≤ x.a ∧ x.a < 4294967296
  b : 0 ≤ x.b ∧ x.b < 4294967296
  n : 0 ≤ x.n ∧ x.n < 18446744073709551616
  l : ∀ y, y ∈ x.l → 0 ≤ y ∧ y < 4294967296
  ll : x.l.length ≤ 2 ^ 20
  t : -9223372036854775808 ≤ x.t ∧ x.t ≤ 9223372036854775807

/-- A module's numbers are in their kinds' ranges, its lists no longer than they may be. -/
structure MdW (d : Md) : Prop where
  types : d.m.types.length ≤ 2 ^ 20
  ft : ∀ t, t ∈ d.m.types → t.ps.length ≤ 2 ^ 10 ∧ t.rs.length ≤ 2 ^ 10 ∧ (∀ p, p ∈ t.ps → 0 ≤ p ∧ p < 256) ∧ (∀ p, p ∈ t.rs → 0 ≤ p ∧ p < 256)
  funcs : d.m.funcs.length ≤ 2 ^ 20
  fn : ∀ f, f ∈ d.m.funcs → 0 ≤ f ∧ f < 4294967296
  codes : d.m.codes.length ≤ 2 ^ 20
  cod : ∀ c, c ∈ d.m.codes → c.locals.length ≤ 2 ^ 10 ∧ c.body.length ≤ 2 ^ 20 ∧ ∀ x, x ∈ c.body → InsW x
  tables : d.m.tables.length ≤ 2 ^ 20
  tab : ∀ t, t ∈ d.m.tables → 0 ≤ t.lim.max ∧ t.lim.max < 4294967296
  mems : d.m.mems.length ≤ 2 ^ 20
  mem : ∀ l, l ∈ d.m.mems → 0 ≤ l.max ∧ l.max < 4294967296
  elems : d.m.elems.length ≤ 2 ^ 20
  ele : ∀ e, e ∈ d.m.elems → e.init.length ≤ 2 ^ 20 ∧ ∀ l, l ∈ e.init → l.length ≤ 2 ^ 20 ∧ ∀ x, x ∈ l → InsW x
  datas : d.m.datas.length ≤ 2 ^ 20
  dat : ∀ e, e ∈ d.m.datas → e.bytes.length ≤ 2 ^ 20 ∧ ∀ b, b ∈ e.bytes → 0 ≤ b ∧ b < 256
  blocks : d.blocks.length ≤ 2 ^ 20
  blk : ∀ l, l ∈ d.blocks → ∀ x, x ∈ l → -1099511627776 ≤ x.2.1 ∧ x.2.1 ≤ 1099511627776 ∧ -1099511627776 ≤ x.2.2 ∧ x.2.2 ≤ 1099511627776

/-- An instance that is read while a call's own parts O change. -/
structure Rd (H : Heap) (pi : Nat) (h0 : BF) (d : Md) (O : List Nat) : Prop where
  i : ∃ ty fu ta me gl ex el co da bl vm vt vg ve vd, H.blk pi = some (.cells 19 false [ty, fu, ta, me, gl, ex, .bool d.m.starts, u32 d.m.start, el, .bool d.m.counts, u32 d.m.count, co, da, bl, vm, vt, vg, ve, vd]) ∧ RMd h0 ty fu ta me gl ex el co da bl d
  le : BF.le h0 H.blk
  piO : pi ∉ O
  hO : ∀ b, b ∈ O → h0 b = none

theorem Rd.up {H H' : Heap} {pi : Nat} {h0 : BF} {d : Md} {O O' : List Nat} (h : Rd H pi h0 d O) (hw : Within H) (hu : Up H O H') (hs : ∀ b, b ∈ O' → b ∈ O ∨ H.next ≤ b) : Rd H' pi h0 d O' := by
  obtain ⟨⟨ty, fu, ta, me, gl, ex, el, co, da, bl, vm, vt, vg, ve, vd, h1, h2⟩, hle, hp, hO⟩ := h
  have hpl : pi < H.next := hw _ _ h1
  refine ⟨⟨ty, fu, ta, me, gl, ex, el, co, da, bl, vm, vt, vg, ve, vd, by rw [hu.eq pi hpl hp]; exact h1, h2⟩, fun b x hb => ?_, fun hh => ?_, fun b hb => ?_⟩
  · rw [hu.eq b (hw _ _ (hle b x hb)) fun hh => by rw [hO b hh] at hb; simp at hb]; exact hle b x hb
  · rcases hs pi hh with h | h
    · exact hp h
    · omega
  · rcases hs b hb with h | h
    · exact hO b h
    · cases hx : h0 b with
      | none => rfl
      | some x => have := hw _ _ (hle b x hx); omega

theorem get_lt {α : Type} {l : List α} {n : Int} (h0 : 0 ≤ n) (h : n < l.length) : ∃ x, l[n.toNat]? = some x := ⟨l[n.toNat]'(by omega), List.getElem?_eq_getElem (by omega)⟩

theorem RL.len {α : Type} {h : BF} {e : Nat} {R : List Value → α → Prop} {v : Value} {xs : List α} (hr : RL h e R v xs) : lenV v = some (i64 xs.length) := by
  obtain ⟨cs, h1, h2⟩ := hr; exact h1.lenV
theorem RA.len {α : Type} {f : α → Value} {h : BF} {v : Value} {xs : List α} (hr : RA f h v xs) : lenV v = some (i64 xs.length) := Row.lenV hr
theorem RL.flat {α : Type} {h : BF} {e : Nat} {R : List Value → α → Prop} {v : Value} {xs : List α} (hr : RL h e R v xs) : flat v = true := by
  obtain ⟨cs, h1, h2⟩ := hr; exact h1.flat
theorem RA.flat {α : Type} {f : α → Value} {h : BF} {v : Value} {xs : List α} (hr : RA f h v xs) : flat v = true := Row.flat hr

/-- An element's place; its cells. -/
theorem RL.at_ {α : Type} {H : Heap} {h : BF} {e : Nat} {R : List Value → α → Prop} {v : Value} {xs : List α} (hr : RL h e R v xs) (hl : BF.le h H.blk) {k : IntKind} {i : Int} {x : α} (h0 : 0 ≤ i) (hx : xs[i.toNat]? = some x) (he : 0 < e) :
    ∃ o c, iaddrV e v (.int k i) = some (pt (slB v) o) ∧ R c x ∧ c.length = e ∧ ldV true e (pt (slB v) o) H = some (.agg c.toArray) ∧ ∀ j m, j < e → ldV false m (pt (slB v) (o + j)) H = c[j]? := by
  obtain ⟨cs, h1, h2⟩ := hr
  have hi : i.toNat < xs.length := (List.getElem?_eq_some_iff.1 hx).1
  have hrow := h1.mono hl
  have hlen := h2.length
  have hm : (i.toNat + 1) * e ≤ xs.length * e := Nat.mul_le_mul_right e hi
  rw [Nat.succ_mul] at hm
  refine ⟨slO v + i.toNat * e, (cs.drop (i.toNat * e)).take e, hrow.iaddr h0 (by omega), h2.get hx, by simp; omega, hrow.lds (by omega) (by omega), fun j m hj => ?_⟩
  rw [Nat.add_assoc, hrow.ld (by omega), List.getElem?_take, if_pos hj, List.getElem?_drop]

theorem RA.at_ {α : Type} {H : Heap} {h : BF} {f : α → Value} {v : Value} {xs : List α} (hr : RA f h v xs) (hl : BF.le h H.blk) {k : IntKind} {i : Int} {x : α} (h0 : 0 ≤ i) (hx : xs[i.toNat]? = some x) :
    ∃ o, iaddrV 1 v (.int k i) = some (pt (slB v) o) ∧ ∀ m, ldV false m (pt (slB v) o) H = some (f x) := by
  have hi : i.toNat < xs.length := (List.getElem?_eq_some_iff.1 hx).1
  have hrow := Row.mono hr hl
  refine ⟨slO v + i.toNat * 1, hrow.iaddr h0 (by omega), fun m => ?_⟩
  rw [hrow.ld (by omega)]
  simp [hx]

theorem Rd.mac {H H' : Heap} {pi pm pc : Nat} {h0 : BF} {d : Md} {O : List Nat} {x y vf vf' : Value} {c c' : Cf} (h : Rd H pi h0 d O) (hm : Mac H pm pc x y vf c O) (hp : PostC H pm pc x y O vf' c' H') :
    ∃ O', Mac H' pm pc x y vf' c' O' ∧ Rd H' pi h0 d O' ∧ Up H O H' ∧ (∀ b, b ∈ O' → b ∈ O ∨ H.next ≤ b) := by
  obtain ⟨O', m1, u1, s1⟩ := hp
  exact ⟨O', m1, h.up hm.wi u1 s1, u1, s1⟩

end Ck

/-
Where blocks end: the program's walk, on plain data.
-/
set_option linter.unusedSimpArgs false
set_option linter.unusedVariables false
namespace Ck
open Go

/-- A walk on its way: places of open blocks, what was noted, how deep. -/
structure Wk where
  st : List Int
  out : List (Int × Int × Int)
  dep : Int

namespace P
def putB (k : Int) (b : Int × Int) : List (Int × Int × Int) → List (Int × Int × Int)
  | [] => [(k, b)]
  | (i, c) :: r => if k = i then (i, b) :: r else (i, c) :: putB k b r

def wone (l : List Ins) (x : Ins) (at_ : Nat) (w : Wk) : Option Wk :=
  if x.op = 2 ∨ x.op = 3 ∨ x.op = 4 then some ⟨w.st ++ [(at_ : Int)], putB at_ (-1, 0) w.out, max w.dep (w.st.length + 1)⟩ else
  if x.op = 5 then
    match w.st.getLast? with
    | none => none
    | some k => match l[k.toNat]? with
      | none => none
      | some y => if y.op ≠ 4 ∨ ((findB k w.out).getD (0, 0)).1 ≠ -1 then none else some { w with out := putB k (at_, 0) w.out }
  else if x.op = 11 then
    match w.st.getLast? with
    | none => if at_ + 1 = l.length then some w else none
    | some k => some { w with st := w.st.dropLast, out := putB k (((findB k w.out).getD (0, 0)).1, at_) w.out }
  else some w

def wfrom (l : List Ins) : List Ins → Nat → Wk → Option Wk
  | [], _, w => some w
  | x :: r, at_, w => match wone l x at_ w with
    | none => none
    | some w => wfrom l r (at_ + 1) w

def ends11 (l : List Ins) : Int := (l.filter fun x => x.op = 11).length

/-- Where the blocks of a body end. -/
def blocksOf (l : List Ins) : Option (List (Int × Int × Int)) :=
  match wfrom l l 0 ⟨[], [], 0⟩ with
  | none => none
  | some w =>
    match l.getLast? with
    | none => none
    | some x => if 0 < w.st.length ∨ x.op ≠ 11 then none else if ends11 l = w.out.length + 1 then some w.out else none
end P

def ent (l : List (Int × Int × Int)) : List (Value × Value) := l.map fun x => (i64 x.1, .agg #[i64 x.2.1, i64 x.2.2])

theorem put_ent (k a b : Int) : ∀ l, putE .int (i64 k) (.agg #[i64 a, i64 b]) (ent l) = some (ent (P.putB k (a, b) l))
  | [] => rfl
  | (i, c) :: r => by
    simp only [ent, List.map_cons, putE, keyEq, if_true, Option.bind_some, P.putB]
    by_cases h : k = i
    · simp [h]
    · have := put_ent k a b r
      simp only [ent] at this
      simp [h, this]

theorem find_ent (k : Int) : ∀ l, findE .int (i64 k) (ent l) = some ((P.findB k l).map fun b => .agg #[i64 b.1, i64 b.2])
  | [] => rfl
  | (i, c) :: r => by
    simp only [ent, List.map_cons, findE, keyEq, if_true, Option.bind_some, P.findB]
    by_cases h : k = i
    · simp [h]
    · have := find_ent k r
      simp only [ent] at this
      have h' : ¬ i = k := fun e => h e.symm
      simp [h, h', this]

/-- A walker in memory. -/
structure WkH (H : Heap) (h0 : BF) (pw r : Nat) (l : List Ins) (w : Wk) (O : List Nat) : Prop where
  c : ∃ vs vl Os, H.blk pw = some (.cells 4 false [vs, vl, .map (some r), i64 w.dep]) ∧ OSl H.blk 1 vs (w.st.map i64) Os ∧ H.blk r = some (.map (ent w.out)) ∧ RBody h0 vl l ∧ O = pw :: r :: Os
  own : Own H O
  le : BF.le h0 H.blk
  hO : ∀ b, b ∈ O → h0 b = none
  wi : Within H

end Ck
