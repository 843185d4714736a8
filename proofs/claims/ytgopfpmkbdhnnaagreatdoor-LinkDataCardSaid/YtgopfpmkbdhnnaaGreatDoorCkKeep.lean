/-
What no call changes: blocks that are read alone; and that blocks lie below the next one.
-/
import Derived.Test.YtgopfpmkbdhnnaaGreatDoorCkLink
set_option linter.unusedSimpArgs false
set_option linter.unusedVariables false
namespace Ck
open Go

def Kept (H H' : Heap) : Prop := Within H → H.next ≤ H'.next ∧ Within H' ∧ ∀ b e cs, H.blk b = some (.cells e true cs) → H'.blk b = some (.cells e true cs)

theorem Kept.refl (H : Heap) : Kept H H := fun w => ⟨Nat.le_refl _, w, fun _ _ _ h => h⟩
theorem Kept.trans {H H1 H2 : Heap} (a : Kept H H1) (b : Kept H1 H2) : Kept H H2 := fun w => by
  obtain ⟨a1, a2, a3⟩ := a w
  obtain ⟨b1, b2, b3⟩ := b a2
  exact ⟨Nat.le_trans a1 b1, b2, fun c e cs h => b3 c e cs (a3 c e cs h)⟩

theorem kept_new (H : Heap) (x : Blk) : Kept H (H.new x) := fun w => ⟨Nat.le_succ _, within_new w x, fun b e cs h => by rw [new_other (w _ _ h)]; exact h⟩

theorem kept_set {H : Heap} {b : Nat} {x : Option Blk} (hb : ∃ y, H.blk b = some y ∧ ∀ e cs, y ≠ .cells e true cs) : Kept H (H.set b x) := fun w => by
  obtain ⟨y, hy, hn⟩ := hb
  refine ⟨Nat.le_refl _, within_set w x (w _ _ hy), fun c e cs h => ?_⟩
  by_cases e' : c = b
  · subst e'; rw [hy] at h; exact absurd (Option.some.inj h) (hn e cs)
  · rw [set_other e']; exact h

theorem kept_st {H H' : Heap} {b o : Nat} {v : Value} (h : H.st b o v = some H') : Kept H H' := by
  unfold Heap.st at h
  split at h
  · rename_i e cs hb
    split at h
    · simp only [Option.some.injEq] at h; subst h
      exact kept_set ⟨_, hb, by simp⟩
    · simp at h
  · simp at h
theorem kept_sts {H H' : Heap} {b o : Nat} {vs : List Value} (h : H.sts b o vs = some H') : Kept H H' := by
  unfold Heap.sts at h
  split at h
  · rename_i e cs hb
    split at h
    · simp only [Option.some.injEq] at h; subst h
      exact kept_set ⟨_, hb, by simp⟩
    · simp at h
  · simp at h

theorem kept_stV {n : Nat} {a x : Value} {H H' : Heap} (h : stV n a x H = some H') : Kept H H' := by
  unfold stV at h
  split at h
  · split at h
    · split at h
      · exact kept_sts h
      · simp at h
    · split at h
      · exact kept_st h
      · simp at h
  · simp at h

theorem kept_retire {H H' : Heap} {e : Nat} {a : Option Addr} {n c : Nat} (h : H.retire e a n c = some H') : Kept H H' := by
  unfold Heap.retire at h
  split at h
  · simp only [Option.some.injEq] at h; subst h; exact Kept.refl _
  · split at h
    · simp only [Option.some.injEq] at h; subst h; exact Kept.refl _
    · split at h
      · rename_i e' cs hb
        split at h
        · simp only [Option.some.injEq] at h; subst h
          exact kept_set ⟨_, hb, by simp⟩
        · simp at h
      · simp at h
  · simp at h

theorem kept_push {e byt m : Nat} {s : Value} {new : List Value} {H : Heap} {r : Value × Heap} (h : pushV e byt s m new H = some r) : Kept H r.2 := by
  unfold pushV at h
  split at h
  · split at h
    · simp only [Option.some.injEq] at h; subst h; exact Kept.refl _
    · split at h
      · simp only [Option.bind_eq_some_iff] at h
        obtain ⟨old, -, H1, h1, h⟩ := h
        simp only [Option.some.injEq] at h
        subst h
        exact (kept_retire h1).trans (kept_new _ _)
      · simp at h
  · simp at h

theorem kept_evE {O : Oracle} (hO : ∀ f a H r, O f a H = some r → Kept H r.2) {k : EK} {e : Env} {H : Heap} {r : Value × Heap} (h : evE O k e H = some r) : Kept H r.2 := by
  cases k with
  | st n a x =>
    simp only [evE, Option.map_eq_some_iff] at h
    obtain ⟨H1, h1, rfl⟩ := h
    exact kept_stV h1
  | append es byt s x =>
    simp only [evE, appendV, Option.bind_eq_some_iff] at h
    obtain ⟨_, _, _, _, h⟩ := h
    exact kept_push h
  | appendz es byt z s n =>
    simp only [evE, appendzV, Option.bind_eq_some_iff] at h
    obtain ⟨_, _, h⟩ := h
    split at h
    · exact kept_push h
    · simp at h
  | copy es d s =>
    simp only [evE, copyV] at h
    split at h
    · simp only [Option.bind_eq_some_iff] at h
      obtain ⟨_, _, _, _, h⟩ := h
      split at h
      · simp only [Option.some.injEq] at h; subst h; exact Kept.refl _
      · split at h
        · simp only [Option.map_eq_some_iff] at h
          obtain ⟨H1, h1, rfl⟩ := h
          exact kept_sts h1
        · simp at h
    · simp at h
  | mapupd kk m k v =>
    simp only [evE, Option.map_eq_some_iff] at h
    obtain ⟨H1, h1, rfl⟩ := h
    unfold mapupdV at h1
    split at h1
    · split at h1
      · rename_i es hb
        simp only [Option.bind_eq_some_iff, Option.map_eq_some_iff] at h1
        obtain ⟨_, _, _, _, rfl⟩ := h1
        exact kept_set ⟨_, hb, by simp⟩
      · simp at h1
    · simp at h1
  | call f args => exact hO _ _ _ _ h
  | dyn f args =>
    simp only [evE, dynV] at h
    split at h
    · exact hO _ _ _ _ h
    · simp at h

theorem kept_evN {k : NK} {e : Env} {H : Heap} {r : Value × Heap} (h : evN k e H = some r) : Kept H r.2 := by
  simp only [evN, Option.map_eq_some_iff] at h
  obtain ⟨x, -, rfl⟩ := h
  exact kept_new _ _

theorem kept_guardH {g : Option (Value × Bool)} {x : Option (Value × Heap)} {H : Heap} {r : Value × Heap} (hx : ∀ r, x = some r → Kept H r.2) (h : guardH g x H = some r) : Kept H r.2 := by
  unfold guardH at h
  split at h
  · exact hx _ h
  · split at h
    · exact hx _ h
    · simp only [Option.some.injEq] at h; subst h; exact Kept.refl _
  · simp only [Option.some.injEq] at h; subst h; exact Kept.refl _
  · simp at h

theorem kept_items {O : Oracle} (hO : ∀ f a H r, O f a H = some r → Kept H r.2) : ∀ (l : List Item) (e : Env) (H : Heap) (r : Env × Heap), runItems O l e H = some r → Kept H r.2 := by
  intro l
  induction l with
  | nil => intro e H r h; simp only [runItems, Option.some.injEq] at h; subst h; exact Kept.refl _
  | cons i l ih =>
    intro e H r h
    cases i with
    | op o =>
      unfold runItems at h
      cases hk : o.k with
      | p k =>
        simp only [hk, Option.bind_eq_some_iff] at h
        obtain ⟨v, -, h⟩ := h
        exact ih _ _ _ h
      | r k =>
        simp only [hk, Option.bind_eq_some_iff] at h
        obtain ⟨v, -, h⟩ := h
        exact ih _ _ _ h
      | n k =>
        simp only [hk, Option.bind_eq_some_iff] at h
        obtain ⟨v, hv, h⟩ := h
        exact (kept_guardH (fun r hr => kept_evN hr) hv).trans (ih _ _ _ h)
      | e k =>
        simp only [hk, Option.bind_eq_some_iff] at h
        obtain ⟨v, hv, h⟩ := h
        exact (kept_guardH (fun r hr => kept_evE hO hr) hv).trans (ih _ _ _ h)
      | bad => simp [hk] at h
    | chk o v =>
      unfold runItems at h
      cases hk : o.k with
      | r k =>
        simp only [hk] at h
        unfold again at h
        split at h
        · exact ih _ _ _ h
        · simp at h
      | _ => simp [hk] at h

def KeptC (a : Cd) : Prop := ∀ e H r, a e H = some r → Kept H r.2.2

theorem kept_andThen {x : Out} {k : Cd} {H : Heap} (hx : ∀ r, x = some r → Kept H r.2.2) (hk : KeptC k) : ∀ r, andThen x k = some r → Kept H r.2.2 := by
  intro r hr
  cases x with
  | none => simp [andThen] at hr
  | some q =>
    obtain ⟨z, e, H1⟩ := q
    cases z with
    | normal => exact (hx _ rfl).trans (hk _ _ _ hr)
    | exit j => exact hx _ hr
    | ret => exact hx _ hr

theorem kept_iter {a : Cd} (h : KeptC a) : ∀ n, KeptC (iter n a) := by
  intro n
  induction n with
  | zero => intro e H r hr; simp [iter] at hr
  | succ n ih => intro e H r hr; exact kept_andThen (fun r hr => h _ _ _ hr) ih r hr

theorem kept_exec {O : Oracle} (hO : ∀ f a H r, O f a H = some r → Kept H r.2) {L : Cd → Cd} (hL : ∀ a, KeptC a → KeptC (L a)) : ∀ c : AC, KeptC (exec O L c) := by
  intro c
  induction c with
  | skip => intro e H r h; simp only [exec, skipC, Option.some.injEq] at h; subst h; exact Kept.refl _
  | ops l outs =>
    intro e H r h
    simp only [exec, opsC, Option.map_eq_some_iff] at h
    obtain ⟨x, hx, rfl⟩ := h
    have := kept_items hO _ _ _ _ hx
    exact this
  | seq a b iha ihb => exact fun e H r h => kept_andThen (fun r hr => iha _ _ _ hr) ihb r h
  | cond x a b iha ihb =>
    intro e H r h
    simp only [exec, condC] at h
    unfold ifV at h
    split at h
    · exact iha _ _ _ h
    · exact ihb _ _ _ h
    · simp at h
  | block id a iha =>
    intro e H r h
    simp only [exec, blockC] at h
    cases hx : exec O L a e H with
    | none => rw [hx] at h; simp [leave] at h
    | some q =>
      have := iha _ _ _ hx
      rw [hx] at h
      obtain ⟨z, e1, H1⟩ := q
      cases z with
      | exit j =>
        simp only [leave] at h
        split at h <;> (simp only [Option.some.injEq] at h; subst h; exact this)
      | normal => simp only [leave, Option.some.injEq] at h; subst h; exact this
      | ret => simp only [leave, Option.some.injEq] at h; subst h; exact this
  | loop a iha => exact hL _ iha
  | exit id => intro e H r h; simp only [exec, exitC, Option.some.injEq] at h; subst h; exact Kept.refl _
  | ret => intro e H r h; simp only [exec, retC, Option.some.injEq] at h; subst h; exact Kept.refl _

theorem kept_callN {tbl : FuncId → Option AF} : ∀ n f args H r, callN tbl n f args H = some r → Kept H r.2 := by
  intro n
  induction n with
  | zero => intro f args H r h; simp [callN] at h
  | succ n ih =>
    intro f args H r h
    simp only [callN, Option.bind_eq_some_iff] at h
    obtain ⟨F, -, h⟩ := h
    cases hx : exec (callN tbl n) (iter n) F.body (env0 args) H with
    | none => rw [hx] at h; simp [endsV] at h
    | some q =>
      have := kept_exec ih (fun a ha => kept_iter ha n) F.body _ _ _ hx
      rw [hx] at h
      obtain ⟨z, e1, H1⟩ := q
      cases z with
      | exit j => simp [endsV] at h
      | normal => simp only [endsV, Option.map_eq_some_iff] at h; obtain ⟨_, _, rfl⟩ := h; exact this
      | ret => simp only [endsV, Option.map_eq_some_iff] at h; obtain ⟨_, _, rfl⟩ := h; exact this

theorem kept_call {tbl : FuncId → Option AF} {f : FuncId} {args : List Value} {H : Heap} {r : Value × Heap} (h : call tbl f args H = some r) : Kept H r.2 := by
  obtain ⟨n, hn⟩ := call_some.1 h
  exact kept_callN n f args H r hn

end Ck
