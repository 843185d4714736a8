/-
A region in the order of the text.
-/
import Derived.Test.YtgopfpmkbdhnnaaGreatDoorCkOp
set_option linter.unusedSimpArgs false
set_option linter.unusedVariables false
namespace Ck
open Go

def ERel (φ : Inj) (kn : Nat) (e : Env) (a : Act) : Prop := ∀ t, kn.testBit t = true → VRel φ (e t) (a.tmps.getD t undef)

section
variable {P : Program} {ng : Nat} {w0 : World} {φ : Inj} {H : Heap} {w : World} {e : Env} {O : Oracle} {ops : Array Oper}

theorem put_getD {a : Act} {d : Option Tmp} {c : Value} {t : Nat} : (a.put d c).tmps.getD t undef = if d = some t ∧ t < a.tmps.size then c else a.tmps.getD t undef := by
  cases d with
  | none => simp [Act.put]
  | some d =>
    simp only [Act.put, Option.some.injEq]
    by_cases h : d = t
    · subst h
      by_cases hlt : d < a.tmps.size
      · rw [if_pos ⟨rfl, hlt⟩]
        simp [Array.getD_eq_getD_getElem?, hlt]
      · rw [if_neg (by simp [hlt])]
        simp [Array.getD_eq_getD_getElem?, Array.getElem?_eq_none (Nat.le_of_not_lt hlt)]
        intro h; exact absurd h hlt
    · rw [if_neg (by simp [h])]
      simp [Array.getD_eq_getD_getElem?, Array.getElem?_setIfInBounds_ne h]

theorem put_size {a : Act} {d : Option Tmp} {c : Value} : (a.put d c).tmps.size = a.tmps.size := by
  cases d <;> simp [Act.put]

theorem put_defers {a : Act} {d : Option Tmp} {c : Value} : (a.put d c).defers = a.defers := by
  cases d <;> simp [Act.put]

theorem put_env {e : Env} {d : Option Nat} {v : Value} {t : Nat} : put e d v t = if d = some t then v else e t := by
  cases d with
  | none => simp [put]
  | some d =>
    simp only [put, upd, Option.some.injEq]
    by_cases h : t = d
    · simp [h]
    · rw [if_neg h, if_neg (Ne.symm h)]

theorem knows_bit {kn : Nat} {o : Oper} {t : Nat} : (knows kn o).testBit t = (kn.testBit t || decide (o.dst = some t)) := by
  unfold knows
  cases hd : o.dst with
  | none => simp
  | some d =>
    simp only [Nat.testBit_or, Nat.testBit_two_pow]
    congr 1
    simp

theorem ERel.put {ψ : Inj} {kn : Nat} {a : Act} {o : Oper} {v c : Value} (h : ERel φ kn e a) (hle : Inj.le φ ψ) (hv : VRel ψ v c)
    (hb : ∀ t, o.dst = some t → t < a.tmps.size) : ERel ψ (knows kn o) (put e o.dst v) (a.put o.dst c) := by
  intro t ht
  rw [put_env, put_getD]
  by_cases hd : o.dst = some t
  · rw [if_pos hd, if_pos ⟨hd, hb t hd⟩]; exact hv
  · rw [if_neg hd, if_neg (by simp [hd])]
    rw [knows_bit] at ht
    simp [hd] at ht
    exact (h t ht).mono hle

/-- Slots that are written are within the frame. -/
def Fits (ops : Array Oper) (a : Act) : Prop := ∀ (i : Nat) o, ops[i]? = some o → ∀ t, o.dst = some t → t < a.tmps.size

theorem knownB_cons {kn i : Nat} {l : List Nat} (h : knownB ops kn (i :: l) = true) : ∃ o, ops[i]? = some o ∧ (∀ t ∈ looks ops o, kn.testBit t = true) ∧ knownB ops (knows kn o) l = true := by
  unfold knownB at h
  split at h
  · rename_i o ho
    simp only [Bool.and_eq_true] at h
    exact ⟨o, ho, fun t ht => List.all_eq_true.1 h.1 t ht, h.2⟩
  · simp at h

theorem seq_ok (hO : True_ P ng w0 O) (hng : ng = P.globals.size) {Q : Exit → Act → World → Prop} : ∀ (l : List Nat) (items : List Item) (kn : Nat) (e : Env) (H : Heap) (φ : Inj) (a : Act) (w : World) (e1 : Env) (H1 : Heap),
    itemsIn P ops l = some items → runItems O items e H = some (e1, H1) → knownB ops kn l = true → ERel φ kn e a → Rel ng w0 φ H w → Fits ops a →
    (∀ a' w' ψ, Inj.le φ ψ → ERel ψ kn e1 a' → Rel ng w0 ψ H1 w' → Keep φ ψ H H1 → a'.defers = a.defers → a'.tmps.size = a.tmps.size → Q .normal a' w') →
    wpOps P ops Q l a w := by
  intro l
  induction l with
  | nil =>
    intro items kn e H φ a w e1 H1 hi hr hk he hR hf hQ
    simp only [itemsIn, Option.some.injEq] at hi
    subst hi
    simp only [runItems, Option.some.injEq, Prod.mk.injEq] at hr
    obtain ⟨rfl, rfl⟩ := hr
    exact hQ a w φ (.refl _) he hR (.refl _ _) rfl rfl
  | cons i l ih =>
    intro items kn e H φ a w e1 H1 hi hr hk he hR hf hQ
    simp only [itemsIn, Option.bind_eq_some_iff] at hi
    obtain ⟨o, ho, hi⟩ := hi
    have hbadr : items = [.op badOp] → False := by
      rintro rfl
      simp [runItems, badOp] at hr
    split at hi
    rotate_left
    · simp only [Option.some.injEq] at hi
      exact (hbadr hi.symm).elim
    rename_i ao ha
    split at hi
    · simp only [Option.some.injEq] at hi
      exact (hbadr hi.symm).elim
    · simp only [Option.map_eq_some_iff] at hi
      obtain ⟨items', hi', rfl⟩ := hi
      rw [runItems_op] at hr
      simp only [Option.bind_eq_some_iff] at hr
      obtain ⟨⟨v, H2⟩, hv, hr⟩ := hr
      obtain ⟨o', ho', hlook, hk'⟩ := knownB_cons hk
      rw [ho] at ho'
      simp only [Option.some.injEq] at ho'
      subst ho'
      rw [wpOps_cons]
      refine step_ok (Q := Q) hO hng ho ha hR (fun t ht => he t (hlook t ht)) hv ?_
      intro c w' ψ hle hvc hR' hkeep
      have hd : ao.dst = o.dst := (aopOf_spec ha).2.1
      rw [hd] at hr
      refine ih items' (knows kn o) _ H2 ψ _ w' e1 H1 hi' hr hk' (he.put hle hvc (hf i o ho)) hR' (fun j o2 h2 t ht => by rw [put_size]; exact hf j o2 h2 t ht) ?_
      intro a' w'' χ hle' he' hR'' hkeep' hdf hsz
      exact hQ a' w'' χ (hle.trans hle') (fun t ht => he' t (by rw [knows_bit]; simp [ht])) hR'' (hkeep.trans hkeep') (by rw [hdf, put_defers]) (by rw [hsz, put_size])

/-- A slot that no item writes stays. -/
theorem runItems_keeps {t : Nat} : ∀ (items : List Item) (e : Env) (H : Heap) (e1 : Env) (H1 : Heap), runItems O items e H = some (e1, H1) →
    (∀ o, Item.op o ∈ items → o.dst ≠ some t) → e1 t = e t := by
  intro items
  induction items with
  | nil =>
    intro e H e1 H1 h _
    simp only [runItems, Option.some.injEq, Prod.mk.injEq] at h
    rw [h.1]
  | cons it items ih =>
    intro e H e1 H1 h hd
    cases it with
    | op o =>
      rw [runItems_op] at h
      simp only [Option.bind_eq_some_iff] at h
      obtain ⟨⟨v, H2⟩, _, h⟩ := h
      rw [ih _ _ _ _ h (fun o' ho' => hd o' (List.mem_cons_of_mem _ ho')), put_env, if_neg (hd o List.mem_cons_self)]
    | chk o s =>
      simp only [runItems] at h
      split at h
      · unfold again at h
        split at h
        · exact ih _ _ _ _ h (fun o' ho' => hd o' (List.mem_cons_of_mem _ ho'))
        · simp at h
      · simp at h

theorem itemsIn_dst : ∀ (l : List Nat) (items : List Item), itemsIn P ops l = some items → ∀ o, Item.op o ∈ items → o.dst ≠ none → ∃ i o', i ∈ l ∧ ops[i]? = some o' ∧ o.dst = o'.dst := by
  intro l
  induction l with
  | nil => intro items h o ho _; simp [itemsIn] at h; subst h; simp at ho
  | cons i l ih =>
    intro items h o ho hd
    simp only [itemsIn, Option.bind_eq_some_iff] at h
    obtain ⟨o', ho', h⟩ := h
    have hbad : items = [.op badOp] → o.dst = none := by
      rintro rfl
      simp at ho
      subst ho
      rfl
    split at h
    rotate_left
    · simp only [Option.some.injEq] at h
      exact absurd (hbad h.symm) hd
    rename_i ao ha
    split at h
    · simp only [Option.some.injEq] at h
      exact absurd (hbad h.symm) hd
    · simp only [Option.map_eq_some_iff] at h
      obtain ⟨items', hi', rfl⟩ := h
      rcases List.mem_cons.1 ho with hh | hh
      · simp only [Item.op.injEq] at hh
        subst hh
        exact ⟨i, o', by simp, ho', (aopOf_spec ha).2.1⟩
      · obtain ⟨j, o2, h1, h2, h3⟩ := ih items' hi' o hh hd
        exact ⟨j, o2, List.mem_cons_of_mem _ h1, h2, h3⟩

theorem outE_get : ∀ (outs : List Nat) (e le : Env) (t : Nat), outE outs e le t = if t ∈ outs then le t else e t := by
  intro outs
  induction outs with
  | nil => intro e le t; simp [outE]
  | cons s outs ih =>
    intro e le t
    simp only [outE, ih]
    by_cases h : t ∈ outs
    · simp [h]
    · by_cases hs : t = s
      · subst hs; simp [h, upd]
      · simp [h, hs, upd]

theorem mem_outsOf {keep t : Nat} : ∀ (l : List Oper), keep.testBit t = true → (∃ o ∈ l, o.dst = some t) → t ∈ outsOf keep l := by
  intro l
  induction l with
  | nil => rintro _ ⟨o, ho, _⟩; simp at ho
  | cons o l ih =>
    rintro hk ⟨o', ho', hd⟩
    unfold outsOf
    split
    · rename_i s hs
      split
      · rename_i hc
        rcases List.mem_cons.1 ho' with rfl | hh
        · rw [hs] at hd; simp only [Option.some.injEq] at hd; subst hd; simp
        · exact List.mem_cons_of_mem _ (ih hk ⟨o', hh, hd⟩)
      · rename_i hc
        rcases List.mem_cons.1 ho' with rfl | hh
        · rw [hs] at hd
          simp only [Option.some.injEq] at hd
          subst hd
          simp [hk] at hc
          exact hc
        · exact ih hk ⟨o', hh, hd⟩
    · rename_i hs
      rcases List.mem_cons.1 ho' with rfl | hh
      · rw [hs] at hd; simp at hd
      · exact ih hk ⟨o', hh, hd⟩

/-- Behind a region its kept slots say what its own environment says. -/
theorem outs_ok {keep : Nat} {e1 : Env} {t : Nat} (ht : keep.testBit t = true) (h : (∀ (i : Nat) o, ops[i]? = some o → o.dst ≠ some t) → e1 t = e t) :
    outE (outsOf keep ops.toList) e e1 t = e1 t := by
  rw [outE_get]
  split
  · rfl
  · rename_i hn
    refine (h ?_).symm
    intro i o ho hd
    refine hn (mem_outsOf _ ht ⟨o, ?_, hd⟩)
    have : ops.toList[i]? = some o := by simpa using ho
    exact List.mem_of_getElem? this

end
end Ck

/-
A region that draws its order: what the plan's look says.
-/
set_option linter.unusedSimpArgs false
set_option linter.unusedVariables false
namespace Ck
open Go

section
variable {P : Program} {O : Oracle} {ops : Array Oper} {bef : Array Nat}

theorem pairB_spec {i j : Nat} (h : pairB P ops bef i j = true) : ∃ a b, ops[i]? = some a ∧ ops[j]? = some b ∧ i ≠ j ∧ (bef.getD i 0).testBit j = false ∧
    (isE (kOf P a) = true → (bef.getD j 0).testBit i = true) ∧ (∀ t, a.dst = some t → b.dst ≠ some t) ∧
    ((∃ t, a.dst = some t ∧ t ∈ looks ops b) ∨ (∃ t, b.dst = some t ∧ t ∈ looks ops a) → (bef.getD j 0).testBit i = true) := by
  unfold pairB at h
  simp only [Bool.and_eq_true] at h
  obtain ⟨hne, h⟩ := h
  split at h
  · rename_i a b ha hb
    simp only [Bool.and_eq_true, Bool.or_eq_true, Bool.not_eq_true'] at h
    obtain ⟨⟨⟨h1, h2⟩, h3⟩, h4⟩ := h
    refine ⟨a, b, ha, hb, by simpa using hne, h1, ?_, ?_, ?_⟩
    · intro he
      rcases h2 with h2 | h2
      · rw [he] at h2; simp at h2
      · exact h2
    · intro t ht hbt
      rw [ht, hbt] at h3
      simp at h3
    · intro hc
      rcases h4 with ⟨h5, h6⟩ | h4
      · rcases hc with ⟨t, ht, hm⟩ | ⟨t, ht, hm⟩
        · rw [ht] at h5; simp [hm] at h5
        · rw [ht] at h6; simp [hm] at h6
      · exact h4
  · simp at h

theorem pairsB_spec : ∀ {plan : List Nat}, pairsB P ops bef plan = true → plan.Pairwise (fun i j => pairB P ops bef i j = true)
  | [], _ => .nil
  | i :: r, h => by
    simp only [pairsB, Bool.and_eq_true, List.all_eq_true] at h
    exact .cons (fun j hj => h.1 j hj) (pairsB_spec h.2)

theorem pairwise_nodup {plan : List Nat} (h : plan.Pairwise (fun i j => pairB P ops bef i j = true)) : plan.Nodup :=
  h.imp fun {i j} hp => by obtain ⟨_, _, _, _, hne, _⟩ := pairB_spec hp; exact hne

/-- Where a number stands. -/
def ix : List Nat → Nat → Nat
  | [], _ => 0
  | x :: l, p => if x = p then 0 else ix l p + 1

theorem ix_get : ∀ {l : List Nat} {p : Nat}, p ∈ l → l[ix l p]? = some p
  | [], p, h => by simp at h
  | x :: l, p, h => by
    unfold ix
    split
    · rename_i hx; simp [hx]
    · rename_i hx
      have hp : p ∈ l := by rcases List.mem_cons.1 h with rfl | h; exact absurd rfl hx; exact h
      simpa using ix_get hp

theorem ix_of_get : ∀ {l : List Nat} {p k : Nat}, l.Nodup → l[k]? = some p → ix l p = k
  | [], p, k, _, h => by simp at h
  | x :: l, p, 0, _, h => by simp at h; simp [ix, h]
  | x :: l, p, k + 1, hnd, h => by
    simp at h
    have hp : p ∈ l := List.mem_of_getElem? h
    have hne : x ≠ p := by rintro rfl; exact (List.nodup_cons.1 hnd).1 hp
    simp [ix, hne, ix_of_get (List.nodup_cons.1 hnd).2 h]

theorem ix_inj {l : List Nat} {p q : Nat} (hp : p ∈ l) (hq : q ∈ l) (h : ix l p = ix l q) : p = q := by
  have h1 := ix_get hp
  have h2 := ix_get hq
  rw [h] at h1
  rw [h1] at h2
  simpa using h2

theorem pairwise_ix {R : Nat → Nat → Prop} : ∀ {l : List Nat}, l.Pairwise R → ∀ {p q : Nat}, p ∈ l → q ∈ l → ix l p < ix l q → R p q
  | [], _, p, q, hp, _, _ => by simp at hp
  | x :: l, h, p, q, hp, hq, hlt => by
    cases h with
    | cons hx hl =>
      by_cases h1 : x = p
      · subst h1
        rcases List.mem_cons.1 hq with rfl | hq
        · exact absurd hlt (Nat.lt_irrefl _)
        · exact hx q hq
      · by_cases h2 : x = q
        · subst h2
          simp [ix] at hlt
        · have hp' : p ∈ l := by rcases List.mem_cons.1 hp with rfl | h; exact absurd rfl h1; exact h
          have hq' : q ∈ l := by rcases List.mem_cons.1 hq with rfl | h; exact absurd rfl h2; exact h
          refine pairwise_ix hl hp' hq' ?_
          simp only [ix, h1, h2, if_false] at hlt
          omega

/-- What must come before: by an edge, or by an edge of such a one. -/
theorem before_spec (ops : Array Oper) (hE : edgesB 0 ops.toList = true) : ∀ (j : Nat) (o : Oper), ops[j]? = some o →
    (∀ e ∈ o.after.toList, Region.binds .any e = true → e.on < j ∧ ((Region.before ops).getD j 0).testBit e.on = true) ∧
    ∀ i, ((Region.before ops).getD j 0).testBit i = true → ∃ e ∈ o.after.toList, Region.binds .any e = true ∧ (e.on = i ∨ ((Region.before ops).getD e.on 0).testBit i = true) := by
  -- the fold, over a list behind a list
  have key : ∀ (l : List Oper) (acc : Array Nat), edgesB acc.size l = true →
      let r := l.foldl (fun acc o => acc.push (o.after.foldl (fun s e => if Region.binds .any e then s ||| 2 ^ e.on ||| acc.getD e.on 0 else s) 0)) acc
      r.size = acc.size + l.length ∧ (∀ k, k < acc.size → r.getD k 0 = acc.getD k 0) ∧
      ∀ (k : Nat) o, l[k]? = some o →
        (∀ e ∈ o.after.toList, Region.binds .any e = true → e.on < acc.size + k ∧ (r.getD (acc.size + k) 0).testBit e.on = true) ∧
        ∀ i, (r.getD (acc.size + k) 0).testBit i = true → ∃ e ∈ o.after.toList, Region.binds .any e = true ∧ (e.on = i ∨ (r.getD e.on 0).testBit i = true) := by
    intro l
    induction l with
    | nil => intro acc _; simp
    | cons o l ih =>
      intro acc hE
      simp only [edgesB, Bool.and_eq_true, List.all_eq_true] at hE
      obtain ⟨hE1, hE2⟩ := hE
      simp only [List.foldl_cons]
      generalize hx : o.after.foldl (fun s e => if Region.binds .any e then s ||| 2 ^ e.on ||| acc.getD e.on 0 else s) 0 = x
      have hacc : (acc.push x).size = acc.size + 1 := by simp
      obtain ⟨g1, g2, g3⟩ := ih (acc.push x) (by rw [hacc]; exact hE2)
      have hxbit : ∀ i, x.testBit i = true ↔ ∃ e ∈ o.after.toList, Region.binds .any e = true ∧ (e.on = i ∨ (acc.getD e.on 0).testBit i = true) := by
        intro i
        rw [← hx, ← Array.foldl_toList]
        have : ∀ (es : List Edge) (s : Nat), (es.foldl (fun s e => if Region.binds .any e then s ||| 2 ^ e.on ||| acc.getD e.on 0 else s) s).testBit i = true ↔
            s.testBit i = true ∨ ∃ e ∈ es, Region.binds .any e = true ∧ (e.on = i ∨ (acc.getD e.on 0).testBit i = true) := by
          intro es
          induction es with
          | nil => intro s; simp
          | cons e es ih2 =>
            intro s
            simp only [List.foldl_cons, ih2, List.mem_cons, exists_eq_or_imp]
            by_cases hb : Region.binds .any e = true
            · simp only [hb, if_true, Nat.testBit_or, Nat.testBit_two_pow, Bool.or_eq_true, decide_eq_true_eq, true_and]
              grind
            · simp [hb]
        rw [this]
        simp
      have hold : ∀ k, k < acc.size → (acc.push x).getD k 0 = acc.getD k 0 := by
        intro k hk
        simp [Array.getD_eq_getD_getElem?, Array.getElem?_push, Nat.ne_of_lt hk]
      refine ⟨by rw [g1, hacc]; simp; omega, fun k hk => by rw [g2 k (by omega), hold k hk], ?_⟩
      intro k o' ho'
      cases k with
      | zero =>
        simp only [List.getElem?_cons_zero, Option.some.injEq] at ho'
        subst ho'
        have hr : (l.foldl (fun acc o => acc.push (o.after.foldl (fun s e => if Region.binds .any e then s ||| 2 ^ e.on ||| acc.getD e.on 0 else s) 0)) (acc.push x)).getD (acc.size + 0) 0 = x := by
          rw [g2 _ (by omega)]
          simp [Array.getD_eq_getD_getElem?]
        rw [hr]
        refine ⟨fun e he hb => ?_, fun i hi => ?_⟩
        · have := hE1 e he
          simp only [hb, Bool.not_true, Bool.false_or, decide_eq_true_eq] at this
          exact ⟨by omega, (hxbit _).2 ⟨e, he, hb, .inl rfl⟩⟩
        · obtain ⟨e, he, hb, h⟩ := (hxbit i).1 hi
          refine ⟨e, he, hb, ?_⟩
          have hlt := hE1 e he
          simp only [hb, Bool.not_true, Bool.false_or, decide_eq_true_eq] at hlt
          rw [g2 e.on (by omega), hold e.on hlt]
          exact h
      | succ k =>
        simp only [List.getElem?_cons_succ] at ho'
        have := g3 k o' ho'
        rw [hacc] at this
        rw [show acc.size + (k + 1) = acc.size + 1 + k from by omega]
        exact this
  intro j o ho
  have := key ops.toList #[] (by simpa using hE)
  simp only [List.size_toArray, List.length_nil, Nat.zero_add] at this
  have hb : Region.before ops = ops.toList.foldl (fun acc o => acc.push (o.after.foldl (fun s e => if Region.binds .any e then s ||| 2 ^ e.on ||| acc.getD e.on 0 else s) 0)) #[] := by
    unfold Region.before
    rw [← Array.foldl_toList]
  rw [hb]
  exact this.2.2 j o (by simpa using ho)

/-- A plan's run, one operation behind the other, and what reads say again behind what acts. -/
inductive Runs (P : Program) (O : Oracle) (ops : Array Oper) (bef : Array Nat) : List Nat → List Nat → Env → Heap → Env → Heap → Prop where
  | nil {done : List Nat} {e : Env} {H : Heap} : Runs P O ops bef done [] e H e H
  | cons {done rest : List Nat} {i : Nat} {o : Oper} {ao : AOp} {e e1 : Env} {H H1 H2 : Heap} {v : Value} (ho : ops[i]? = some o) (ha : aopOf P ops o = some ao) (hb : isBad ao.k = false)
      (hv : evOp O ao e H = some (v, H1))
      (hc : isE ao.k = true → ∀ r ro, r ∈ done → ops[r]? = some ro → isR (kOf P ro) = true → (bef.getD i 0).testBit r = false →
        (∃ ar t k, aopOf P ops ro = some ar ∧ ar.k = .r k ∧ ro.dst = some t ∧ guardV (ar.gv (put e o.dst v)) (evR k (put e o.dst v) H1) = some (put e o.dst v t)) ∧
        quietFor ops ro i = true ∧ quietFor ops ro r = true ∧ ∀ l1 l2, done = l1 ++ r :: l2 → ∀ q ∈ l1, quietFor ops ro q = true)
      (hr : Runs P O ops bef (i :: done) rest (put e o.dst v) H1 e1 H2) : Runs P O ops bef done (i :: rest) e H e1 H2

theorem chks_spec {b : Nat} : ∀ (done later : List Nat) (c : List Item), chks P ops b later done = some c → done.Nodup → ∀ (e e1 : Env) (H H1 : Heap) (items : List Item),
    runItems O (c ++ items) e H = some (e1, H1) → runItems O items e H = some (e1, H1) ∧ ∀ r ro, r ∈ done → ops[r]? = some ro → isR (kOf P ro) = true → b.testBit r = false →
      (∃ ar t k, aopOf P ops ro = some ar ∧ ar.k = .r k ∧ ro.dst = some t ∧ guardV (ar.gv e) (evR k e H) = some (e t)) ∧
      (∀ q ∈ later, quietFor ops ro q = true) ∧ quietFor ops ro r = true ∧ ∀ l1 l2, done = l1 ++ r :: l2 → ∀ q ∈ l1, quietFor ops ro q = true := by
  intro done
  induction done with
  | nil =>
    intro later c hc _ e e1 H H1 items hr
    simp only [chks, Option.some.injEq] at hc
    subst hc
    exact ⟨by simpa using hr, fun r ro hm => by simp at hm⟩
  | cons i done ih =>
    intro later c hc hnd e e1 H H1 items hr
    simp only [chks, Option.bind_eq_some_iff] at hc
    obtain ⟨l, hl, o, ho, hc⟩ := hc
    -- the part that the later ones say
    have part : ∀ (items' : List Item), runItems O (l ++ items') e H = some (e1, H1) → (∀ o', isR (kOf P o') = true → True) → runItems O items' e H = some (e1, H1) ∧
        ∀ r ro, r ∈ done → r ≠ i → ops[r]? = some ro → isR (kOf P ro) = true → b.testBit r = false →
        (∃ ar t k, aopOf P ops ro = some ar ∧ ar.k = .r k ∧ ro.dst = some t ∧ guardV (ar.gv e) (evR k e H) = some (e t)) ∧
        (∀ q ∈ later, quietFor ops ro q = true) ∧ quietFor ops ro r = true ∧ ∀ l1 l2, i :: done = l1 ++ r :: l2 → ∀ q ∈ l1, quietFor ops ro q = true := by
      intro items' hr' _
      obtain ⟨h1, h2⟩ := ih (i :: later) l hl (List.nodup_cons.1 hnd).2 e e1 H H1 items' hr'
      refine ⟨h1, fun r ro hm hri hro hR hb => ?_⟩
      obtain ⟨g1, g2, g3, g4⟩ := h2 r ro hm hro hR hb
      refine ⟨g1, fun q hq => g2 q (List.mem_cons_of_mem _ hq), g3, ?_⟩
      intro l1 l2 heq q hq
      cases l1 with
      | nil => simp at hq
      | cons x l1 =>
        simp only [List.cons_append, List.cons.injEq] at heq
        obtain ⟨rfl, heq⟩ := heq
        rcases List.mem_cons.1 hq with rfl | hq
        · exact g2 _ List.mem_cons_self
        · exact g4 l1 l2 heq q hq
    by_cases hcond : (isR (kOf P o) && !b.testBit i) = true
    · rw [if_pos hcond] at hc
      split at hc
      · rename_i hq
        simp only [Option.bind_eq_some_iff, Option.map_eq_some_iff] at hc
        obtain ⟨ar, har, t, ht, rfl⟩ := hc
        have hq' := List.all_eq_true.1 hq
        rw [List.append_assoc] at hr
        obtain ⟨h1, h2⟩ := part _ hr (fun _ _ => trivial)
        simp only [List.cons_append, List.nil_append, runItems] at h1
        have hark : ∃ k, ar.k = .r k := by
          rw [(aopOf_spec har).2.2.1]
          simp only [Bool.and_eq_true] at hcond
          have := hcond.1
          unfold isR at this
          split at this
          · exact ⟨_, ‹_›⟩
          · simp at this
        obtain ⟨k, hk⟩ := hark
        simp only [hk] at h1
        unfold again at h1
        split at h1
        · rename_i hag
          refine ⟨h1, fun r ro hm hro hR hb => ?_⟩
          by_cases hri : r = i
          · subst hri
            rw [ho] at hro
            simp only [Option.some.injEq] at hro
            subst hro
            refine ⟨⟨ar, t, k, har, hk, ht, hag⟩, fun q hqq => hq' q (List.mem_cons_of_mem _ hqq), hq' _ List.mem_cons_self, ?_⟩
            intro l1 l2 heq q hqq
            cases l1 with
            | nil => simp at hqq
            | cons x l1 =>
              simp only [List.cons_append, List.cons.injEq] at heq
              obtain ⟨rfl, heq⟩ := heq
              exact absurd (by rw [heq]; simp : r ∈ done) (List.nodup_cons.1 hnd).1
          · rcases List.mem_cons.1 hm with hh | hm
            · exact absurd hh hri
            · exact h2 r ro hm hri hro hR hb
        · simp at h1
      · simp at hc
    · rw [if_neg hcond] at hc
      simp only [Option.some.injEq] at hc
      subst hc
      obtain ⟨h1, h2⟩ := part _ hr (fun _ _ => trivial)
      refine ⟨h1, fun r ro hm hro hR hb => ?_⟩
      by_cases hri : r = i
      · subst hri
        rw [ho] at hro
        simp only [Option.some.injEq] at hro
        subst hro
        simp [hR, hb] at hcond
      · rcases List.mem_cons.1 hm with hh | hm
        · exact absurd hh hri
        · exact h2 r ro hm hri hro hR hb


theorem itemsOf_runs : ∀ (plan done : List Nat) (items : List Item), itemsOf P ops bef done plan = some items → (done.reverse ++ plan).Nodup → ∀ (e e1 : Env) (H H1 : Heap),
    runItems O items e H = some (e1, H1) → Runs P O ops bef done plan e H e1 H1 := by
  intro plan
  induction plan with
  | nil =>
    intro done items hi _ e e1 H H1 hr
    simp only [itemsOf, Option.some.injEq] at hi
    subst hi
    simp only [runItems, Option.some.injEq, Prod.mk.injEq] at hr
    obtain ⟨rfl, rfl⟩ := hr
    exact .nil
  | cons i plan ih =>
    intro done items hi hnd e e1 H H1 hr
    simp only [itemsOf, Option.bind_eq_some_iff] at hi
    obtain ⟨o, ho, ao, ha, hi⟩ := hi
    split at hi
    · simp at hi
    · rename_i hbad
      simp only [Option.bind_eq_some_iff, Option.map_eq_some_iff] at hi
      obtain ⟨c, hc, items', hi', rfl⟩ := hi
      rw [runItems_op] at hr
      simp only [Option.bind_eq_some_iff] at hr
      obtain ⟨⟨v, H2⟩, hv, hr⟩ := hr
      have hd : ao.dst = o.dst := (aopOf_spec ha).2.1
      rw [hd] at hr
      have hnd' : ((i :: done).reverse ++ plan).Nodup := by simpa using hnd
      have hdn : done.Nodup := by
        have := (List.nodup_append.1 hnd).1
        exact (List.reverse_perm done).nodup_iff.1 this
      cases hE : isE ao.k with
      | true =>
        rw [hE] at hc
        simp only [if_true] at hc
        obtain ⟨h1, h2⟩ := chks_spec (O := O) done [i] c hc hdn _ _ _ _ _ hr
        refine .cons ho ha (by simpa using hbad) hv (fun _ r ro hm hro hR hb => ?_) (ih (i :: done) items' hi' hnd' _ _ _ _ h1)
        obtain ⟨g1, g2, g3, g4⟩ := h2 r ro hm hro hR hb
        exact ⟨g1, g2 i (by simp), g3, g4⟩
      | false =>
        rw [hE] at hc
        simp only [Bool.false_eq_true, if_false, Option.some.injEq] at hc
        subst hc
        exact .cons ho ha (by simpa using hbad) hv (fun h => by rw [hE] at h; simp at h) (ih (i :: done) items' hi' hnd' _ _ _ _ (by simpa using hr))

end
end Ck

/-
A region that draws its order: in whatever order its edges allow, the plan's own run is what comes out.
-/
set_option linter.unusedSimpArgs false
set_option linter.unusedVariables false
namespace Ck
open Go

section
variable {P : Program} {O : Oracle} {ops : Array Oper} {bef : Array Nat} {ng : Nat} {w0 : World}

/-! ### Reads hang on what they look at -/

def rOpds : RK → List Operand
  | .ld _ _ a => [a]
  | .slice _ x lo hi => x :: (lo.toList ++ hi.toList)
  | .tostr x => [x]
  | .lookup _ _ _ m k => [m, k]
  | .mark x => [x]
  | .mlen x => [x]

theorem evR_congr {k : RK} {e1 e2 : Env} {H : Heap} (h : ∀ x ∈ rOpds k, opd e1 x = opd e2 x) : evR k e1 H = evR k e2 H := by
  cases k with
  | ld g n a => simp only [evR]; rw [h a (by simp [rOpds])]
  | slice esz x lo hi =>
    simp only [evR]
    rw [h x (by simp [rOpds])]
    congr 1
    · cases lo with
      | none => rfl
      | some y => simp only [Option.map_some]; rw [h y (by simp [rOpds])]
    · cases hi with
      | none => rfl
      | some y => simp only [Option.map_some]; rw [h y (by simp [rOpds])]
  | tostr x => simp only [evR]; rw [h x (by simp [rOpds])]
  | lookup kk z ok m k => simp only [evR]; rw [h m (by simp [rOpds]), h k (by simp [rOpds])]
  | mark x => simp only [evR]; rw [h x (by simp [rOpds])]
  | mlen x => simp only [evR]; rw [h x (by simp [rOpds])]

theorem rOpds_mem {o : Oper} {k : RK} (hk : kOf P o = .r k) : ∀ x ∈ rOpds k, x ∈ o.op.operands.toList := by
  have hne : ∀ {k2 : PK}, K.p k2 ≠ K.r k := by intro k2 h; cases h
  unfold kOf at hk
  split at hk
  · simp at hk
  · simp at hk
  · simp at hk
  · split at hk <;> simp at hk
  · split at hk <;> simp at hk
  · split at hk
    · split at hk
      · split at hk <;> simp at hk
      · simp at hk
    · split at hk <;> simp at hk
    · simp at hk
  · split at hk
    · split at hk
      · split at hk <;> simp at hk
      · simp at hk
    · simp at hk
  · rename_i t a hop
    split at hk
    · simp only [K.r.injEq] at hk; subst hk
      intro x hx; simp [rOpds] at hx; simp [hop, Op.operands, hx]
    · simp at hk
  · split at hk <;> simp at hk
  · simp at hk
  · unfold kBin at hk
    split at hk
    · simp at hk
    · simp at hk
    · split at hk <;> simp at hk
    · split at hk <;> simp at hk
    · split at hk <;> simp at hk
    · split at hk <;> simp at hk
    · split at hk <;> simp at hk
    · split at hk <;> simp at hk
    · simp at hk
  · simp at hk
  · rename_i s d y hop
    unfold kConv at hk
    split at hk
    · simp at hk
    · split at hk
      · simp only [K.r.injEq] at hk; subst hk
        intro x hx; simp [rOpds] at hx; simp [hop, Op.operands, hx]
      · simp at hk
    · simp at hk
    · split at hk
      · simp only [K.r.injEq] at hk; subst hk
        intro x hx; simp [rOpds] at hx; simp [hop, Op.operands, hx]
      · simp at hk
    · simp at hk
  · split at hk <;> simp at hk
  · simp at hk
  · split at hk <;> simp at hk
  · split at hk
    · split at hk
      · split at hk <;> simp at hk
      · simp at hk
    · simp at hk
  · rename_i t y lo hi hop
    split at hk
    · split at hk
      · split at hk
        · simp at hk
        · simp only [K.r.injEq] at hk; subst hk
          intro x hx
          simp [rOpds] at hx
          simp [hop, Op.operands]
          rcases hx with rfl | hx | hx
          · simp
          · simp [hx]
          · simp [hx]
      · simp at hk
    · simp at hk
    · simp at hk
  · split at hk
    · split at hk
      · split at hk
        · split at hk <;> simp at hk
        · simp at hk
      · simp at hk
    · simp at hk
  · split at hk
    · split at hk
      · split at hk <;> simp at hk
      · simp at hk
    · simp at hk
  · split at hk
    · split at hk
      · split at hk <;> simp at hk
      · simp at hk
    · split at hk
      · split at hk <;> simp at hk
      · simp at hk
    · simp at hk
  · split at hk <;> simp at hk
  · rename_i t y i ok hop
    split at hk
    · split at hk
      · split at hk
        · simp only [K.r.injEq] at hk; subst hk
          intro x hx; simp [rOpds] at hx; simp [hop, Op.operands]; exact hx
        · simp at hk
      · simp at hk
    · simp at hk
  · split at hk
    · split at hk <;> simp at hk
    · simp at hk
  · simp at hk
  · rename_i c hop
    unfold kCall at hk
    split at hk
    · rename_i b hcb
      unfold kBuiltin at hk
      split at hk
      · rename_i y hy
        split at hk
        · simp at hk
        · simp at hk
        · simp only [K.r.injEq] at hk; subst hk
          intro x hx
          simp [rOpds] at hx
          subst hx
          have hm : x ∈ c.args.toList := by rw [hy]; simp
          simp only [hop, Op.operands, Call.operands]
          rw [hcb]
          simpa using hm
        · simp at hk
      · split at hk <;> simp at hk
      · simp at hk
      · simp at hk
      · split at hk
        · split at hk
          · split at hk
            · simp at hk
            · split at hk <;> simp at hk
          · simp at hk
        · simp at hk
      · split at hk
        · split at hk
          · split at hk <;> simp at hk
          · simp at hk
        · simp at hk
      · simp at hk
    · simp at hk
    · simp at hk
    · simp at hk
  · simp at hk

/-- Blocks that are there are there behind a new one. -/
def Within (H : Heap) : Prop := ∀ b x, H.blk b = some x → b < H.next

theorem new_blk {H : Heap} (hw : Within H) {x : Blk} {b : Nat} {y : Blk} (h : H.blk b = some y) : (H.new x).blk b = some y := by
  simp only [Heap.new]
  rw [if_neg (Nat.ne_of_lt (hw _ _ h))]
  exact h

theorem ld_new {H : Heap} (hw : Within H) {x : Blk} {b o : Nat} {v : Value} (h : H.ld b o = some v) : (H.new x).ld b o = some v := by
  unfold Heap.ld at h ⊢
  cases hb : H.blk b with
  | none => rw [hb] at h; simp at h
  | some y => rw [new_blk hw hb]; rw [hb] at h; exact h

theorem lds_new {H : Heap} (hw : Within H) {x : Blk} {b o n : Nat} {v : List Value} (h : H.lds b o n = some v) : (H.new x).lds b o n = some v := by
  unfold Heap.lds at h ⊢
  cases hb : H.blk b with
  | none => rw [hb] at h; simp at h
  | some y => rw [new_blk hw hb]; rw [hb] at h; exact h

theorem cells_new {H : Heap} (hw : Within H) {x : Blk} {esz n : Nat} {u : Value} {v : List Value} (h : cellsV esz n u H = some v) : cellsV esz n u (H.new x) = some v := by
  unfold cellsV at h ⊢
  split at h
  · try simp only
    split
    · rename_i h0; rw [if_pos h0] at h; exact h
    · rename_i h0
      rw [if_neg h0] at h
      split
      · rename_i h1; rw [if_pos h1] at h; exact lds_new hw h
      · rename_i h1; rw [if_neg h1] at h; exact h
  · exact h
  · exact h
  · simp at h

theorem evR_new {H : Heap} (hw : Within H) {x : Blk} {k : RK} {e : Env} {v : Value} (h : evR k e H = some v) : evR k e (H.new x) = some v := by
  cases k with
  | ld g n a =>
    simp only [evR] at h ⊢
    unfold ldV at h ⊢
    split at h
    · try simp only
      split
      · rename_i hg
        rw [if_pos hg] at h
        simp only [Option.map_eq_some_iff] at h ⊢
        obtain ⟨cs, hcs, rfl⟩ := h
        exact ⟨cs, lds_new hw hcs, rfl⟩
      · rename_i hg
        rw [if_neg hg] at h
        exact ld_new hw h
    · simp at h
  | slice esz y lo hi =>
    simp only [evR] at h ⊢
    unfold sliceV at h ⊢
    split at h
    · simp only [Option.bind_eq_some_iff] at h ⊢
      obtain ⟨hh, h1, l, h2, h⟩ := h
      refine ⟨hh, h1, l, h2, ?_⟩
      split
      · rename_i hc
        rw [if_pos hc] at h
        split at h
        · exact h
        · rename_i b o _
          try simp only at h ⊢
          cases hb : H.blk b with
          | none => rw [hb] at h; simp at h
          | some y => rw [new_blk hw hb]; rw [hb] at h; exact h
        · simp at h
      · rename_i hc; rw [if_neg hc] at h; exact h
    · simp at h
  | tostr y =>
    simp only [evR] at h ⊢
    unfold tostrV at h ⊢
    split at h
    · simp only [Option.bind_eq_some_iff] at h ⊢
      obtain ⟨cs, hcs, h⟩ := h
      exact ⟨cs, cells_new hw hcs, h⟩
    · simp at h
  | lookup kk z ok m k =>
    simp only [evR] at h ⊢
    unfold lookupV at h ⊢
    simp only [Option.map_eq_some_iff] at h ⊢
    obtain ⟨r, hr, rfl⟩ := h
    refine ⟨r, ?_, rfl⟩
    unfold findV at hr ⊢
    split at hr
    · exact hr
    · rename_i b _
      try simp only
      cases hb : H.blk b with
      | none => rw [hb] at hr; simp at hr
      | some y => rw [new_blk hw hb]; rw [hb] at hr; exact hr
    · simp at hr
  | mlen y =>
    simp only [evR] at h ⊢
    unfold mlenV at h ⊢
    split at h
    · exact h
    · rename_i b _
      try simp only
      cases hb : H.blk b with
      | none => rw [hb] at h; simp at h
      | some y => rw [new_blk hw hb]; rw [hb] at h; exact h
    · simp at h
  | mark y =>
    simp only [evR] at h ⊢
    unfold markV at h ⊢
    split at h
    · rename_i b o n c _
      try simp only
      cases hb : H.blk b with
      | none => rw [hb] at h; simp at h
      | some y => rw [new_blk hw hb]; rw [hb] at h; exact h
    · simp at h

theorem guardV_mono {g : Option (Value × Bool)} {x y : Option Value} {v : Value} (h : guardV g x = some v) (hxy : ∀ u, x = some u → y = some u) : guardV g y = some v := by
  unfold guardV at h ⊢
  split at h
  · exact hxy _ h
  · try simp only
    split
    · rename_i hb; rw [if_pos hb] at h; exact hxy _ h
    · rename_i hb; rw [if_neg hb] at h; exact h
  · exact h
  · simp at h

/-! ### The state between two operations -/

/-- What an operation's environment says of what it looks at. -/
def LooksOk (plan : List Nat) (ops : Array Oper) (e0 : Env) (kn0 : Nat) (i : Nat) (o : Oper) (ei e : Env) : Prop :=
  ∀ t ∈ looks ops o, (∃ p q, p ∈ plan ∧ ix plan p < ix plan i ∧ ops[p]? = some q ∧ q.dst = some t ∧ ei t = e t) ∨
    ((∀ p q, p ∈ plan → ix plan p < ix plan i → ops[p]? = some q → q.dst ≠ some t) ∧ ei t = e0 t ∧ kn0.testBit t = true)

/-- An operation that the plan has done and the model has not. -/
def PendOk (P : Program) (O : Oracle) (plan : List Nat) (ops : Array Oper) (e0 : Env) (kn0 : Nat) (H0 : Heap) (β : Nat → Nat) (A : Nat → Prop) (i : Nat) (e : Env) (H : Heap) (φ : Inj) : Prop :=
  ∃ o ao ei v, ops[i]? = some o ∧ aopOf P ops o = some ao ∧ LooksOk plan ops e0 kn0 i o ei e ∧ (∀ t, o.dst = some t → e t = v) ∧
    ((∃ k, ao.k = .p k ∧ guardV (ao.gv ei) (evP k ei) = some v) ∨ (∃ k, ao.k = .r k ∧ guardV (ao.gv ei) (evR k ei H) = some v) ∨
     (∃ k, ao.k = .n k ∧ Off (ao.gv ei) ∧ v = undef) ∨
     (∃ k x, A i ∧ ao.k = .n k ∧ (ao.gv ei = none ∨ ∃ b, ao.gv ei = some (.bool b, b)) ∧ newN k ei (β i) = some (v, x) ∧ H0.next ≤ β i ∧ β i < H.next ∧ φ (β i) = none ∧ H.blk (β i) = some x))

structure Inv (P : Program) (O : Oracle) (ops : Array Oper) (bef : Array Nat) (plan : List Nat) (ng : Nat) (w0 : World) (e0 : Env) (kn0 : Nat) (H0 : Heap) (φ0 : Inj) (a0 : Act)
    (eF : Env) (HF : Heap) (S : Nat → Prop) (m : Nat) (done : List Nat) (pend : List Nat) (β : Nat → Nat) (A : Nat → Prop) (e : Env) (H : Heap) (φ : Inj) (a : Act) (w : World) : Prop where
  le : m ≤ plan.length
  dn : done.reverse = plan.take m
  runs : Runs P O ops bef done (plan.drop m) e H eF HF
  pd : ∀ i ∈ pend, i ∈ done ∧ ¬ S i
  sd : ∀ i, S i → i ∈ done
  ds : ∀ i ∈ done, i ∉ pend → S i
  pok : ∀ i ∈ pend, PendOk P O plan ops e0 kn0 H0 β A i e H φ
  inj : ∀ i ∈ pend, ∀ j ∈ pend, i ≠ j → A i → A j → β i ≠ β j
  ab : ∀ i ∈ pend, A i → β i < H.next
  eold : ∀ t, (∀ p q, p ∈ done → ops[p]? = some q → q.dst ≠ some t) → e t = e0 t
  c1 : ∀ i o t, S i → ops[i]? = some o → o.dst = some t → VRel φ (e t) (a.tmps.getD t undef)
  c2 : ∀ t, kn0.testBit t = true → (∀ i o, S i → ops[i]? = some o → o.dst ≠ some t) → VRel φ (e0 t) (a.tmps.getD t undef)
  rel : Rel ng w0 φ H w
  fle : Inj.le φ0 φ
  keep : Keep φ0 φ H0 H
  dfs : a.defers = a0.defers
  size : a.tmps.size = a0.tmps.size
  closed : ∀ j, S j → ∀ i, (bef.getD j 0).testBit i = true → S i

end
end Ck

/-
A region that draws its order: the induction.
-/
set_option linter.unusedSimpArgs false
set_option linter.unusedVariables false
namespace Ck
open Go

section
variable {P : Program} {O : Oracle} {ops : Array Oper} {bef : Array Nat} {ng : Nat} {w0 : World} {plan : List Nat} {e0 : Env} {kn0 : Nat} {H0 : Heap} {φ0 : Inj} {a0 : Act} {eF : Env} {HF : Heap}

/-- What a plan's look is good for. -/
structure PlanOk (P : Program) (ops : Array Oper) (bef : Array Nat) (plan : List Nat) : Prop where
  nodup : plan.Nodup
  all : ∀ i, i < ops.size → i ∈ plan
  lt : ∀ i ∈ plan, i < ops.size
  pair : ∀ p q, p ∈ plan → q ∈ plan → ix plan p < ix plan q → pairB P ops bef p q = true
  edges : ∀ (j : Nat) (o : Oper), ops[j]? = some o →
    (∀ e ∈ o.after.toList, Region.binds .any e = true → e.on < j ∧ (bef.getD j 0).testBit e.on = true) ∧
    ∀ i, (bef.getD j 0).testBit i = true → ∃ e ∈ o.after.toList, Region.binds .any e = true ∧ (e.on = i ∨ (bef.getD e.on 0).testBit i = true)

theorem PlanOk.dst_ne (h : PlanOk P ops bef plan) {p q : Nat} {a b : Oper} {t : Nat} (hp : p ∈ plan) (hq : q ∈ plan) (hne : p ≠ q) (ha : ops[p]? = some a) (hb : ops[q]? = some b)
    (hda : a.dst = some t) : b.dst ≠ some t := by
  rcases Nat.lt_trichotomy (ix plan p) (ix plan q) with hlt | heq | hgt
  · obtain ⟨a', b', ha', hb', _, _, _, hd, _⟩ := pairB_spec (h.pair p q hp hq hlt)
    rw [ha] at ha'; rw [hb] at hb'
    simp only [Option.some.injEq] at ha' hb'
    subst ha'; subst hb'
    exact hd t hda
  · exact absurd (ix_inj hp hq heq) hne
  · obtain ⟨b', a', hb', ha', _, _, _, hd, _⟩ := pairB_spec (h.pair q p hq hp hgt)
    rw [ha] at ha'; rw [hb] at hb'
    simp only [Option.some.injEq] at ha' hb'
    subst ha'; subst hb'
    intro hdb
    exact hd t hdb hda

theorem mem_take_ix (h : PlanOk P ops bef plan) {m i : Nat} (hi : i ∈ plan.take m) : i ∈ plan ∧ ix plan i < m := by
  obtain ⟨k, hk⟩ := List.getElem?_of_mem hi
  have hkm : k < m := by
    rcases Nat.lt_or_ge k m with hh | hh
    · exact hh
    · rw [List.getElem?_eq_none (by simp; omega)] at hk; simp at hk
  rw [List.getElem?_take_of_lt hkm] at hk
  exact ⟨List.mem_of_getElem? hk, by rw [ix_of_get h.nodup hk]; exact hkm⟩

theorem mem_take_of_ix {m i : Nat} (hi : i ∈ plan) (hlt : ix plan i < m) : i ∈ plan.take m := by
  have := ix_get hi
  rw [← List.getElem?_take_of_lt hlt] at this
  exact List.mem_of_getElem? this

theorem known_at : ∀ (l : List Nat) (kn m i : Nat) (o : Oper), knownB ops kn l = true → l[m]? = some i → ops[i]? = some o → ∀ t ∈ looks ops o,
    kn.testBit t = true ∨ ∃ k p q, k < m ∧ l[k]? = some p ∧ ops[p]? = some q ∧ q.dst = some t := by
  intro l
  induction l with
  | nil => intro kn m i o _ h; simp at h
  | cons x l ih =>
    intro kn m i o hk hm ho t ht
    obtain ⟨o', ho', hl, hk'⟩ := knownB_cons hk
    cases m with
    | zero =>
      simp at hm
      subst hm
      rw [ho] at ho'
      simp only [Option.some.injEq] at ho'
      subst ho'
      exact .inl (hl t ht)
    | succ m =>
      simp at hm
      rcases ih (knows kn o') m i o hk' hm ho t ht with h | ⟨k, p, q, h1, h2, h3, h4⟩
      · rw [knows_bit] at h
        simp only [Bool.or_eq_true, decide_eq_true_eq] at h
        rcases h with h | h
        · exact .inl h
        · exact .inr ⟨0, x, o', by omega, rfl, ho', h⟩
      · exact .inr ⟨k + 1, p, q, by omega, by simpa using h2, h3, h4⟩

section inv
variable {S : Nat → Prop} {m : Nat} {done pend : List Nat} {β : Nat → Nat} {A : Nat → Prop} {e : Env} {H : Heap} {φ : Inj} {a : Act} {w : World}

theorem Inv.done_iff (hp : PlanOk P ops bef plan) (h : Inv P O ops bef plan ng w0 e0 kn0 H0 φ0 a0 eF HF S m done pend β A e H φ a w) (i : Nat) : i ∈ done ↔ i ∈ plan ∧ ix plan i < m := by
  have : i ∈ done ↔ i ∈ plan.take m := by rw [← h.dn]; simp
  rw [this]
  exact ⟨mem_take_ix hp, fun ⟨h1, h2⟩ => mem_take_of_ix h1 h2⟩

/-- What the plan's next operation looks at. -/
theorem Inv.looks_head (hp : PlanOk P ops bef plan) (h : Inv P O ops bef plan ng w0 e0 kn0 H0 φ0 a0 eF HF S m done pend β A e H φ a w) (hkn : knownB ops kn0 plan = true)
    {i : Nat} {rest : List Nat} {o : Oper} (hd : plan.drop m = i :: rest) (ho : ops[i]? = some o) : i ∈ plan ∧ ix plan i = m ∧ LooksOk plan ops e0 kn0 i o e e := by
  have hm : plan[m]? = some i := by
    have := congrArg (fun l => l[0]?) hd
    simpa using this
  have hi : i ∈ plan := List.mem_of_getElem? hm
  have hix := ix_of_get hp.nodup hm
  refine ⟨hi, hix, fun t ht => ?_⟩
  by_cases hex : ∃ p q, p ∈ plan ∧ ix plan p < ix plan i ∧ ops[p]? = some q ∧ q.dst = some t
  · obtain ⟨p, q, h1, h2, h3, h4⟩ := hex
    exact .inl ⟨p, q, h1, h2, h3, h4, rfl⟩
  · have hno : ∀ p q, p ∈ plan → ix plan p < ix plan i → ops[p]? = some q → q.dst ≠ some t := fun p q h1 h2 h3 h4 => hex ⟨p, q, h1, h2, h3, h4⟩
    refine .inr ⟨hno, h.eold t (fun p q h1 h2 => ?_), ?_⟩
    · obtain ⟨h3, h4⟩ := (h.done_iff hp p).1 h1
      exact hno p q h3 (by omega) h2
    · rcases known_at plan kn0 m i o hkn hm ho t ht with hk | ⟨k, p, q, h1, h2, h3, h4⟩
      · exact hk
      · exact absurd h4 (hno p q (List.mem_of_getElem? h2) (by rw [ix_of_get hp.nodup h2]; omega) h3)

theorem LooksOk.put (hp : PlanOk P ops bef plan) {j x : Nat} {oj ox : Oper} {ej : Env} {v : Value} (h : LooksOk plan ops e0 kn0 j oj ej e) (hx : x ∈ plan) (hox : ops[x]? = some ox)
    (hlt : ¬ ix plan x < ix plan j) : LooksOk plan ops e0 kn0 j oj ej (Ck.put e ox.dst v) := by
  intro t ht
  rcases h t ht with ⟨p, q, h1, h2, h3, h4, h5⟩ | h
  · refine .inl ⟨p, q, h1, h2, h3, h4, ?_⟩
    rw [put_env, if_neg]
    · exact h5
    · exact hp.dst_ne h1 hx (by rintro rfl; exact hlt h2) h3 hox h4
  · exact .inr h

theorem Inv.within (h : Inv P O ops bef plan ng w0 e0 kn0 H0 φ0 a0 eF HF S m done pend β A e H φ a w) : Within H := fun b x hb => h.rel.live b x hb

/-- The next one of the plan floats: the plan does it, the model waits. -/
theorem Inv.advance (hp : PlanOk P ops bef plan) (h : Inv P O ops bef plan ng w0 e0 kn0 H0 φ0 a0 eF HF S m done pend β A e H φ a w) (hkn : knownB ops kn0 plan = true)
    {i : Nat} {rest : List Nat} {o : Oper} (hd : plan.drop m = i :: rest) (ho : ops[i]? = some o) (hE : isE (kOf P o) = false) :
    ∃ β' A' e' H', Inv P O ops bef plan ng w0 e0 kn0 H0 φ0 a0 eF HF S (m + 1) (i :: done) (i :: pend) β' A' e' H' φ a w := by
  obtain ⟨hi, hix, hlook⟩ := h.looks_head hp hkn hd ho
  have hruns := h.runs
  rw [hd] at hruns
  cases hruns with
  | cons ho' ha hb hv hc hr =>
    rename_i o' ao H1 v
    rw [ho] at ho'
    simp only [Option.some.injEq] at ho'
    subst ho'
    obtain ⟨_, hdst, hkk, _⟩ := aopOf_spec ha
    have hmlt : m < plan.length := by
      rcases Nat.lt_or_ge m plan.length with hh | hh
      · exact hh
      · rw [List.drop_of_length_le hh] at hd; simp at hd
    have hmem : plan[m]? = some i := by
      have := congrArg (fun l => l[0]?) hd
      simpa using this
    have hnd : i ∉ done := fun hh => by have := ((h.done_iff hp i).1 hh).2; omega
    have hnS : ¬ S i := fun hh => hnd (h.sd i hh)
    -- what is new of the heap
    have hH : (H1 = H ∧ ∃ β' A', (∀ j ∈ pend, β' j = β j ∧ (A' j ↔ A j)) ∧ PendOk P O plan ops e0 kn0 H0 β' A' i (Ck.put e o.dst v) H1 φ ∧ ¬ A' i) ∨
        (∃ x, H1 = H.new x ∧ ∃ β' A', (∀ j ∈ pend, β' j = β j ∧ (A' j ↔ A j)) ∧ PendOk P O plan ops e0 kn0 H0 β' A' i (Ck.put e o.dst v) H1 φ ∧ β' i = H.next) := by
      have hL : LooksOk plan ops e0 kn0 i o e (Ck.put e o.dst v) := hlook.put hp hi ho (by omega)
      have hv' : ∀ t, o.dst = some t → Ck.put e o.dst v t = v := fun t ht => by rw [put_env, if_pos ht]
      have hni : ∀ j ∈ pend, j ≠ i := fun j hj hji => hnd (hji ▸ (h.pd j hj).1)
      let A0 : Nat → Prop := fun q => q ≠ i ∧ A q
      have hA0 : ∀ j ∈ pend, β j = β j ∧ (A0 j ↔ A j) := fun j hj => ⟨rfl, ⟨fun hh => hh.2, fun hh => ⟨hni j hj, hh⟩⟩⟩
      rcases evOp_cases hv with ⟨hg, ⟨k, hk, g1, g2⟩ | ⟨k, hk, g1, g2⟩ | ⟨k, hk, g⟩ | ⟨k, hk, _⟩⟩ | ⟨hoff, hvu, hH1⟩
      · subst g2
        refine .inl ⟨rfl, β, A0, hA0, ⟨o, ao, e, v, ho, ha, hL, hv', .inl ⟨k, hk, ?_⟩⟩, fun hh => hh.1 rfl⟩
        rcases hg with hg | ⟨b, hg⟩ <;> rw [hg] <;> simp [guardV, g1]
      · subst g2
        refine .inl ⟨rfl, β, A0, hA0, ⟨o, ao, e, v, ho, ha, hL, hv', .inr (.inl ⟨k, hk, ?_⟩)⟩, fun hh => hh.1 rfl⟩
        rcases hg with hg | ⟨b, hg⟩ <;> rw [hg] <;> simp [guardV, g1]
      · simp only [evN, Option.map_eq_some_iff, Prod.mk.injEq] at g
        obtain ⟨⟨v', x⟩, g1, rfl, rfl⟩ := g
        refine .inr ⟨x, rfl, fun q => if q = i then H.next else β q, fun q => q = i ∨ A q, fun j hj => ?_, ⟨o, ao, e, v', ho, ha, hL, hv', .inr (.inr (.inr ⟨k, x, .inl rfl, hk, hg, ?_, ?_, ?_, ?_, ?_⟩))⟩, by simp⟩
        · have := hni j hj
          exact ⟨by simp [this], by simp [this]⟩
        · simpa using g1
        · simp; exact h.keep.1
        · simp [Heap.new]
        · simp; exact h.rel.fresh
        · simp [Heap.new]
      · rw [hkk] at hk
        rw [hk] at hE
        simp [isE] at hE
      · subst hH1
        subst hvu
        cases hkd : ao.k with
        | p k =>
          refine .inl ⟨rfl, β, A0, hA0, ⟨o, ao, e, undef, ho, ha, hL, hv', .inl ⟨k, hkd, ?_⟩⟩, fun hh => hh.1 rfl⟩
          exact hoff.v _
        | r k =>
          refine .inl ⟨rfl, β, A0, hA0, ⟨o, ao, e, undef, ho, ha, hL, hv', .inr (.inl ⟨k, hkd, ?_⟩)⟩, fun hh => hh.1 rfl⟩
          exact hoff.v _
        | n k =>
          exact .inl ⟨rfl, β, A0, hA0, ⟨o, ao, e, undef, ho, ha, hL, hv', .inr (.inr (.inl ⟨k, hkd, hoff, rfl⟩))⟩, fun hh => hh.1 rfl⟩
        | e k =>
          rw [← hkk, hkd] at hE
          simp [isE] at hE
        | bad => rw [hkd] at hb; simp [isBad] at hb
    have hnx : ∀ b x, H.blk b = some x → H1.blk b = some x := by
      intro b x hbx
      rcases hH with ⟨rfl, _⟩ | ⟨y, rfl, _⟩
      · exact hbx
      · exact new_blk h.within hbx
    have hnext : H.next ≤ H1.next := by
      rcases hH with ⟨rfl, _⟩ | ⟨y, rfl, _⟩
      · exact Nat.le_refl _
      · exact Nat.le_succ _
    have hrel : Rel ng w0 φ H1 w := by
      rcases hH with ⟨rfl, _⟩ | ⟨y, rfl, _⟩
      · exact h.rel
      · exact h.rel.phantom y
    have hkeep : Keep φ0 φ H0 H1 := by
      rcases hH with ⟨rfl, _⟩ | ⟨y, rfl, _⟩
      · exact h.keep
      · refine ⟨Nat.le_trans h.keep.1 (Nat.le_succ _), fun b hb hφ => ?_⟩
        obtain ⟨k1, k2⟩ := h.keep.2 b hb hφ
        refine ⟨k1, ?_⟩
        rw [← k2]
        simp only [Heap.new]
        rw [if_neg (by have := h.keep.1; omega)]
    have hevR : ∀ k e v, evR k e H = some v → evR k e H1 = some v := by
      intro k e v hh
      rcases hH with ⟨rfl, _⟩ | ⟨y, rfl, _⟩
      · exact hh
      · exact evR_new h.within hh
    -- the others wait as before
    have hothers : ∀ β' A', (∀ j ∈ pend, β' j = β j ∧ (A' j ↔ A j)) → ∀ j ∈ pend, PendOk P O plan ops e0 kn0 H0 β' A' j (Ck.put e o.dst v) H1 φ := by
      intro β' A' hba j hj
      obtain ⟨oj, aj, ej, vj, p1, p2, p3, p4, p5⟩ := h.pok j hj
      obtain ⟨q1, q2⟩ := hba j hj
      have hjd := (h.done_iff hp j).1 (h.pd j hj).1
      refine ⟨oj, aj, ej, vj, p1, p2, p3.put hp hi ho (by omega), fun t ht => ?_, ?_⟩
      · rw [put_env, if_neg]
        · exact p4 t ht
        · exact hp.dst_ne hjd.1 hi (by rintro rfl; omega) p1 ho ht
      · rcases p5 with p5 | ⟨k, hk, hg⟩ | p5 | ⟨k, x, r1, r2, r3, r4, r5, r6, r7, r8⟩
        · exact .inl p5
        · exact .inr (.inl ⟨k, hk, guardV_mono hg (fun u hu => hevR _ _ _ hu)⟩)
        · exact .inr (.inr (.inl p5))
        · refine .inr (.inr (.inr ⟨k, x, q2.2 r1, r2, r3, by rw [q1]; exact r4, by rw [q1]; exact r5, by rw [q1]; omega, by rw [q1]; exact r7, by rw [q1]; exact hnx _ _ r8⟩))
    -- together
    have build : ∀ β' A', (∀ j ∈ pend, β' j = β j ∧ (A' j ↔ A j)) → PendOk P O plan ops e0 kn0 H0 β' A' i (Ck.put e o.dst v) H1 φ → (¬ A' i ∨ (β' i = H.next ∧ H.next < H1.next)) →
        Inv P O ops bef plan ng w0 e0 kn0 H0 φ0 a0 eF HF S (m + 1) (i :: done) (i :: pend) β' A' (Ck.put e o.dst v) H1 φ a w := by
      intro β' A' hba hpi hAi
      refine ⟨hmlt, ?_, ?_, ?_, fun j hj => List.mem_cons_of_mem _ (h.sd j hj), ?_, ?_, ?_, ?_, ?_, ?_, h.c2, hrel, h.fle, hkeep, h.dfs, h.size, h.closed⟩
      · rw [List.reverse_cons, h.dn, List.take_succ_eq_append_getElem hmlt]
        congr 2
        have := hmem
        rw [List.getElem?_eq_getElem hmlt] at this
        simpa using this.symm
      · have : plan.drop (m + 1) = rest := by rw [← List.drop_drop, hd]; rfl
        rw [this]
        exact hr
      · intro j hj
        rcases List.mem_cons.1 hj with rfl | hj
        · exact ⟨List.mem_cons_self, hnS⟩
        · exact ⟨List.mem_cons_of_mem _ (h.pd j hj).1, (h.pd j hj).2⟩
      · intro j hj hjp
        rcases List.mem_cons.1 hj with rfl | hj
        · exact absurd List.mem_cons_self hjp
        · exact h.ds j hj (fun hh => hjp (List.mem_cons_of_mem _ hh))
      · intro j hj
        rcases List.mem_cons.1 hj with rfl | hj
        · exact hpi
        · exact hothers β' A' hba j hj
      · intro j hj k hk hne hAj hAk
        rcases List.mem_cons.1 hj with hj1 | hj1
        · rcases List.mem_cons.1 hk with hk1 | hk1
          · exact absurd (hj1.trans hk1.symm) hne
          · subst hj1
            rcases hAi with hAi | ⟨hAi, _⟩
            · exact absurd hAj hAi
            · rw [hAi, (hba k hk1).1]
              exact Nat.ne_of_gt (h.ab k hk1 ((hba k hk1).2.1 hAk))
        · rcases List.mem_cons.1 hk with hk1 | hk1
          · subst hk1
            rcases hAi with hAi | ⟨hAi, _⟩
            · exact absurd hAk hAi
            · rw [hAi, (hba j hj1).1]
              exact Nat.ne_of_lt (h.ab j hj1 ((hba j hj1).2.1 hAj))
          · rw [(hba j hj1).1, (hba k hk1).1]
            exact h.inj j hj1 k hk1 hne ((hba j hj1).2.1 hAj) ((hba k hk1).2.1 hAk)
      · intro j hj hAj
        rcases List.mem_cons.1 hj with rfl | hj
        · rcases hAi with hAi | ⟨hAi, hlt⟩
          · exact absurd hAj hAi
          · rw [hAi]; exact hlt
        · rw [(hba j hj).1]
          exact Nat.lt_of_lt_of_le (h.ab j hj ((hba j hj).2.1 hAj)) hnext
      · intro t ht
        rw [put_env, if_neg (ht i o List.mem_cons_self ho)]
        exact h.eold t (fun p q hpd hq => ht p q (List.mem_cons_of_mem _ hpd) hq)
      · intro j oj t hj hoj hdj
        rw [put_env, if_neg]
        · exact h.c1 j oj t hj hoj hdj
        · have hjd := (h.done_iff hp j).1 (h.sd j hj)
          exact hp.dst_ne hjd.1 hi (by rintro rfl; omega) hoj ho hdj
    rcases hH with ⟨rfl, β', A', hba, hpi, hA⟩ | ⟨x, rfl, β', A', hba, hpi, hβ⟩
    · exact ⟨β', A', _, _, build β' A' hba hpi (.inl hA)⟩
    · exact ⟨β', A', _, _, build β' A' hba hpi (.inr ⟨hβ, Nat.lt_succ_self _⟩)⟩

end inv
end
end Ck
