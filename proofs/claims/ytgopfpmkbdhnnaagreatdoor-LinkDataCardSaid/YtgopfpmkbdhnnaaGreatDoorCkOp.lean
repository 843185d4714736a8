/-
A compiled operation says what the model's operation does.
-/
import Derived.Test.YtgopfpmkbdhnnaaGreatDoorCkMore
set_option linter.unusedSimpArgs false
set_option linter.unusedVariables false
namespace Ck
open Go

section
variable {P : Program} {ng : Nat} {w0 : World} {φ : Inj} {H : Heap} {w : World} {e : Env} {ρ : Operand → Value}

/-- The operands stand for each other. -/
def OpsRel (φ : Inj) (e : Env) (ρ : Operand → Value) (l : List Operand) : Prop := ∀ x ∈ l, VRel φ (opd e x) (ρ x)

theorem OpsRel.map {l : List Operand} (h : OpsRel φ e ρ l) : LRel φ (l.map (opd e)) (l.map ρ) := by
  induction l with
  | nil => exact .nil
  | cons x l ih => exact .cons (h x (by simp)) (ih fun y hy => h y (by simp [hy]))

theorem ORel.of {o : Option Operand} (h : ∀ x, o = some x → VRel φ (opd e x) (ρ x)) : ORel φ (o.map (opd e)) (o.map ρ) := by
  cases o with
  | none => trivial
  | some x => exact h x rfl

/-- 'It is done: a value.' -/
def Done (P : Program) (φ : Inj) (w : World) (s : Sem Next) (v : Value) : Prop := ∃ c, s.run P w = .ok (.value c) w ∧ VRel φ v c

theorem Gives.done {s : Sem Value} {v : Value} {t : Sem Next} (h : Gives P φ w s v) (ht : t = (do pure (Next.value (← s)))) : Done P φ w t v := by
  obtain ⟨c, hc, hv⟩ := h
  exact ⟨c, by rw [ht]; simp [hc], hv⟩

theorem PRel.of {place : Nat → Option (Nat × Nat)} {f : Nat × Operand → Nat × Nat × Operand} : ∀ (l : List (Nat × Operand)), (∀ p ∈ l, VRel φ (opd e p.2) (ρ p.2)) →
    (∀ p ∈ l, place p.1 = some ((f p).1, (f p).2.1) ∧ (f p).2.2 = p.2) → PRel φ place (parts e (l.map f)) (l.map fun p => (p.1, ρ p.2))
  | [], _, _ => trivial
  | p :: l, h, h' => by
    obtain ⟨h1, h2⟩ := h' p (by simp)
    refine ⟨h1, ?_, PRel.of l (fun q hq => h q (by simp [hq])) (fun q hq => h' q (by simp [hq]))⟩
    show VRel φ (opd e (f p).2.2) (ρ p.2)
    rw [h2]
    exact h p (by simp)

theorem PRel.struct {fs : Array Field} {ns : List Nat} (hns : fs.toList.map (fun f => sz P f.type) = ns.map some) :
    ∀ (l : List (Nat × Operand)) (l' : List (Nat × Nat × Operand)), (∀ p ∈ l, VRel φ (opd e p.2) (ρ p.2)) → partsOf P fs l = some l' →
      PRel φ (fun (i : Nat) => ((fs.toList.zip ns).map fun x => (x.1.offset, x.2))[i]?) (parts e l') (l.map fun p => (p.1, ρ p.2))
  | [], l', _, h' => by simp [partsOf] at h'; subst h'; trivial
  | p :: l, l', h, h' => by
    obtain ⟨i, x⟩ := p
    simp only [partsOf, Option.bind_eq_some_iff, Option.map_eq_some_iff] at h'
    obtain ⟨f, hf, n, hn, l2, hl2, rfl⟩ := h'
    refine ⟨?_, h (i, x) (by simp), PRel.struct hns l l2 (fun q hq => h q (by simp [hq])) hl2⟩
    have hlen : fs.toList.length = ns.length := by have := congrArg List.length hns; simpa using this
    have h1 : fs.toList[i]? = some f := by simpa using hf
    have h2 : ns[i]? = some n := by
      have := congrArg (fun l => l[i]?) hns
      simp only [List.getElem?_map, h1, Option.map_some, hn] at this
      cases hq : ns[i]? with
      | none => rw [hq] at this; simp at this
      | some m => rw [hq] at this; simp at this; rw [this]
    simp
    exact ⟨f, List.getElem?_zip_eq_some.2 ⟨h1, h2⟩, rfl⟩

theorem fields_sizes {fs : List Field} (h : fs.all (fun f => (sz P f.type).isSome) = true) : ∃ ns : List Nat, fs.map (fun f => sz P f.type) = ns.map some := by
  induction fs with
  | nil => exact ⟨[], rfl⟩
  | cons f fs ih =>
    simp only [List.all_cons, Bool.and_eq_true] at h
    obtain ⟨ns, hns⟩ := ih h.2
    obtain ⟨n, hn⟩ := Option.isSome_iff_exists.1 h.1
    exact ⟨n :: ns, by simp [hn, hns]⟩

theorem constNil_val {k : NilK} {y : Operand} (h : constNil k y = true) : ∃ v, y = .const v ∧ nilLit k v = true := by
  cases y <;> simp [constNil] at h
  exact ⟨_, rfl, h⟩

/-- An Act's operands: constants are themselves. -/
def Consts (ρ : Operand → Value) : Prop := ∀ v, ρ (.const v) = v

theorem bin_done {o : Oper} {op : BinOp} {t : TypeId} {x y : Operand} {z : TypeId} {v : Value} (hop : o.op = .binOp op t x y z)
    (h : Gives P φ w (do eqGuard op t x y (ρ x) (ρ y); Go.binOp op t (ρ x) (ρ y)) v) : Done P φ w (execOp ρ o) v := by
  obtain ⟨c, hc, hv⟩ := h
  refine ⟨c, ?_, hv⟩
  simp only [execOp, hop, Sem.run_bind] at hc ⊢
  cases hr : (eqGuard op t x y (ρ x) (ρ y)).run P w with
  | ok u w' =>
    rw [hr] at hc
    simp only [Result.andThen_ok] at hc ⊢
    rw [hc]
    simp
  | halt _ _ => rw [hr] at hc; simp at hc

theorem opP_bin {o : Oper} {k : PK} {v : Value} {op : BinOp} {t : TypeId} {x y : Operand} {z : TypeId} (hop : o.op = .binOp op t x y z) (hk : kBin P op t x y = .p k)
    (hx : VRel φ (opd e x) (ρ x)) (hy : VRel φ (opd e y) (ρ y)) (hρ : Consts ρ) (he : evP k e = some v) : Done P φ w (execOp ρ o) v := by
  refine bin_done hop ?_
  unfold kBin at hk
  split at hk
  · simp only [K.p.injEq] at hk; subst hk
    exact bin_ok hx hy he
  · simp only [K.p.injEq] at hk; subst hk
    exact bin_ok hx hy he
  · rename_i hu
    split at hk
    · rename_i ho
      simp only [K.p.injEq] at hk; subst hk
      exact beq_ok hx hy ho hu he
    · simp at hk
  · rename_i hu
    split at hk
    · rename_i ho
      simp only [K.p.injEq] at hk; subst hk
      obtain ⟨nv, rfl, hn⟩ := constNil_val ho.2
      rw [hρ]
      exact nil_ok (k := .ptr) hx ho.1 ⟨_, hu⟩ hn he
    · simp at hk
  · rename_i hu
    split at hk
    · rename_i ho
      simp only [K.p.injEq] at hk; subst hk
      obtain ⟨nv, rfl, hn⟩ := constNil_val ho.2
      rw [hρ]
      exact nil_ok (k := .slice) hx ho.1 ⟨_, hu⟩ hn he
    · simp at hk
  · rename_i hu
    split at hk
    · rename_i ho
      simp only [K.p.injEq] at hk; subst hk
      obtain ⟨nv, rfl, hn⟩ := constNil_val ho.2
      rw [hρ]
      exact nil_ok (k := .map) hx ho.1 ⟨_, _, hu⟩ hn he
    · simp at hk
  · rename_i hu
    split at hk
    · rename_i ho
      simp only [K.p.injEq] at hk; subst hk
      obtain ⟨nv, rfl, hn⟩ := constNil_val ho.2
      rw [hρ]
      exact nil_ok (k := .func) hx ho.1 ⟨_, _, _, hu⟩ hn he
    · simp at hk
  · rename_i fs hu
    split at hk
    · rename_i ho
      simp only [K.p.injEq] at hk; subst hk
      exact agg_ok hx hy ho.1 hu ho.2.2.1 ho.2.2.2 ho.2.1 he
    · simp at hk
  · simp at hk

theorem opP_builtin {o : Oper} {k : PK} {v : Value} {c : Call} {b : Builtin} (hop : o.op = .call c) (hc : c.callee = .builtin b) (hk : kBuiltin P b c.argTypes c.args = .p k)
    (hO : OpsRel φ e ρ c.args.toList) (he : evP k e = some v) : Done P φ w (execOp ρ o) v := by
  have run1 : ∀ (x : Operand) (s : Sem Value), c.args.toList = [x] → (∀ cs, Go.builtin b c.argTypes o.type cs #[ρ x] = (do pure (Next.value (← s)))) →
      Gives P φ w s v → Done P φ w (execOp ρ o) v := by
    intro x s hx hs hg
    obtain ⟨r, hr, hv⟩ := hg
    refine ⟨r, ?_, hv⟩
    have ha : c.args.map ρ = #[ρ x] := by apply Array.ext'; simp [hx]
    simp only [execOp, hop, resolve, hc, Sem.run_bind, Sem.run_pure, Result.andThen_ok, invoke, ha, hs, hr]
  have run2 : ∀ (x y : Operand) (s : Sem Value), c.args.toList = [x, y] → (∀ cs, Go.builtin b c.argTypes o.type cs #[ρ x, ρ y] = (do pure (Next.value (← s)))) →
      Gives P φ w s v → Done P φ w (execOp ρ o) v := by
    intro x y s hx hs hg
    obtain ⟨r, hr, hv⟩ := hg
    refine ⟨r, ?_, hv⟩
    have ha : c.args.map ρ = #[ρ x, ρ y] := by apply Array.ext'; simp [hx]
    simp only [execOp, hop, resolve, hc, Sem.run_bind, Sem.run_pure, Result.andThen_ok, invoke, ha, hs, hr]
  unfold kBuiltin at hk
  split at hk
  · rename_i x hx
    have hxx : VRel φ (opd e x) (ρ x) := hO x (by rw [hx]; simp)
    split at hk
    · rename_i el hu
      simp only [Option.bind_eq_some_iff] at hu
      obtain ⟨t, ht, hu⟩ := hu
      simp only [K.p.injEq] at hk; subst hk
      exact run1 x _ hx (fun _ => rfl) (len_ok hxx ht hu he)
    · rename_i hu
      simp only [Option.bind_eq_some_iff] at hu
      obtain ⟨t, ht, hu⟩ := hu
      simp only [K.p.injEq] at hk; subst hk
      exact run1 x _ hx (fun _ => rfl) (slen_ok hxx ht hu he)
    · simp at hk
    · simp at hk
  · rename_i x hx
    have hxx : VRel φ (opd e x) (ρ x) := hO x (by rw [hx]; simp)
    split at hk
    · rename_i el hu
      simp only [Option.bind_eq_some_iff] at hu
      obtain ⟨t, ht, hu⟩ := hu
      simp only [K.p.injEq] at hk; subst hk
      exact run1 x _ hx (fun _ => rfl) (cap_ok hxx ht hu he)
    · simp at hk
  · rename_i x y hx
    simp only [K.p.injEq] at hk; subst hk
    exact run2 x y _ hx (fun _ => rfl) (min_ok (hO x (by rw [hx]; simp)) (hO y (by rw [hx]; simp)) he)
  · rename_i x y hx
    simp only [K.p.injEq] at hk; subst hk
    exact run2 x y _ hx (fun _ => rfl) (max_ok (hO x (by rw [hx]; simp)) (hO y (by rw [hx]; simp)) he)
  · split at hk
    · split at hk
      · split at hk
        · simp at hk
        · split at hk <;> simp at hk
      · simp at hk
    · simp at hk
  · split at hk
    · split at hk
      · split at hk <;> simp at hk
      · simp at hk
    · simp at hk
  · simp at hk

theorem opP_ok {o : Oper} {k : PK} {v : Value} (hk : kOf P o = .p k) (hρ : Consts ρ) (hO : OpsRel φ e ρ o.op.operands.toList) (he : evP k e = some v) : Done P φ w (execOp ρ o) v := by
  unfold kOf at hk
  split at hk
  -- move, assign
  · rename_i x hop
    simp only [K.p.injEq] at hk; subst hk
    simp only [evP, Option.some.injEq] at he; subst he
    exact ⟨_, by simp [execOp, hop], hO x (by simp [hop, Op.operands])⟩
  · rename_i x hop
    simp only [K.p.injEq] at hk; subst hk
    simp only [evP, Option.some.injEq] at he; subst he
    exact ⟨_, by simp [execOp, hop], hO x (by simp [hop, Op.operands])⟩
  -- pick
  · rename_i c a b hop
    simp only [K.p.injEq] at hk; subst hk
    simp only [evP] at he
    have := pick_ok (P := P) (w := w) (hO c (by simp [hop, Op.operands])) (hO a (by simp [hop, Op.operands])) (hO b (by simp [hop, Op.operands])) he
    obtain ⟨x, hx, hv⟩ := this
    refine ⟨x, ?_, hv⟩
    simp only [execOp, hop]
    simp only [Sem.run_bind, Sem.run_pure] at hx ⊢
    cases hr : (asBool (ρ c)).run P w with
    | ok t w' => rw [hr] at hx; simp only [Result.andThen_ok, Result.ok.injEq] at hx ⊢; exact ⟨by rw [hx.1], hx.2⟩
    | halt _ _ => rw [hr] at hx; simp at hx
  -- alloc, box
  · split at hk <;> simp at hk
  · split at hk <;> simp at hk
  -- build
  · rename_i t ps hop
    have hps : ∀ p ∈ ps.toList, VRel φ (opd e p.2) (ρ p.2) := fun p hp => hO p.2 (by simp only [hop, Op.operands]; simp; exact ⟨p.1, by simpa using hp⟩)
    have hex : execOp ρ o = (do pure (Next.value (← Instr.build t (ps.toList.map fun p => (p.1, ρ p.2)).toArray))) := by
      simp only [execOp, hop]
      congr 2
      apply Array.ext'
      simp
    split at hk
    · rename_i z fs hz hu
      split at hk
      · rename_i l hl
        split at hk
        · rename_i hall
          simp only [K.p.injEq] at hk; subst hk
          obtain ⟨ns, hns⟩ := fields_sizes hall
          exact (build_struct_ok hz hu hns (PRel.struct hns ps.toList l hps hl) he).done hex
        · simp at hk
      · simp at hk
    · rename_i z ln el hz hu
      split at hk
      · rename_i n hn
        simp only [K.p.injEq] at hk; subst hk
        refine (build_array_ok hz hu hn (PRel.of (f := fun p => (p.1 * n, n, p.2)) ps.toList hps (fun p _ => ⟨rfl, rfl⟩)) he).done hex
      · simp at hk
    · simp at hk
  -- buildSlice
  · split at hk
    · split at hk
      · split at hk <;> simp at hk
      · simp at hk
    · simp at hk
  -- load, store
  · split at hk <;> simp at hk
  · split at hk <;> simp at hk
  -- nilCheck
  · rename_i x hop
    simp only [K.p.injEq] at hk; subst hk
    exact nilchk_ok hop rfl (hO x (by simp [hop, Op.operands])) he
  -- binOp
  · rename_i op t x y z hop
    exact opP_bin hop hk (hO x (by simp [hop, Op.operands])) (hO y (by simp [hop, Op.operands])) hρ he
  -- unOp
  · rename_i op t x hop
    simp only [K.p.injEq] at hk; subst hk
    exact (un_ok (hO x (by simp [hop, Op.operands])) he).done (by simp only [execOp, hop])
  -- convert
  · rename_i s d x hop
    have hx := hO x (by simp [hop, Op.operands])
    unfold kConv at hk
    split at hk
    · rename_i hs hd
      simp only [K.p.injEq] at hk; subst hk
      exact (conv_ok hx hs hd he).done (by simp only [execOp, hop])
    · split at hk <;> simp at hk
    · rename_i hs hd
      simp only [K.p.injEq] at hk; subst hk
      simp only [evP] at he
      split at he
      · rename_i s' hs'
        simp only [Option.some.injEq] at he; subst he
        rw [hs'] at hx
        exact (same_ok hx hs hd ⟨_, rfl⟩).done (by simp only [execOp, hop])
      · simp at he
    · split at hk <;> simp at hk
    · simp at hk
  -- makeInterface
  · rename_i t x hop
    split at hk
    · simp at hk
    · rename_i d hni hu
      simp only [K.p.injEq] at hk; subst hk
      simp only [evP, Option.some.injEq] at he; subst he
      refine ⟨.iface t (ρ x), ?_, .iface t (hO x (by simp [hop, Op.operands]))⟩
      simp only [execOp, hop, Instr.makeInterface, Sem.run_bind, underlying, run_program, Result.andThen_ok, hu, Sem.run_pure]
    · simp at hk
  -- makeFunc
  · rename_i f a b hop
    simp only [K.p.injEq] at hk; subst hk
    simp only [evP, Option.some.injEq] at he; subst he
    refine ⟨.func (.func f) (a.toList.map ρ).toArray (b.toList.map ρ).toArray, ?_, .func f (OpsRel.map fun x hx => hO x (by simp only [hop, Op.operands]; simp; left; simpa using hx)) (OpsRel.map fun x hx => hO x (by simp only [hop, Op.operands]; simp; right; simpa using hx))⟩
    have e1 : (a.toList.map ρ).toArray = a.map ρ := by apply Array.ext'; simp
    have e2 : (b.toList.map ρ).toArray = b.map ρ := by apply Array.ext'; simp
    simp [execOp, hop, Instr.makeFunc, e1, e2]
  -- makeMap, makeSlice
  · split at hk <;> simp at hk
  · split at hk
    · split at hk
      · split at hk <;> simp at hk
      · simp at hk
    · simp at hk
  -- slice
  · rename_i t x lo hi hop
    split at hk
    · split at hk
      · split at hk <;> simp at hk
      · simp at hk
    · rename_i hu
      simp only [K.p.injEq] at hk; subst hk
      refine (sslice_ok (hO x (by simp [hop, Op.operands])) (ORel.of fun y hy => hO y (by simp [hop, Op.operands, hy])) (ORel.of fun y hy => hO y (by simp [hop, Op.operands, hy])) hu he).done ?_
      simp only [execOp, hop, Option.map_none]
    · simp at hk
  -- fieldAddr
  · rename_i s x f hop
    split at hk
    · rename_i fs hu
      split at hk
      · rename_i fd hf
        split at hk
        · rename_i n hn
          split at hk
          · simp at hk
          · rename_i hn0
            simp only [K.p.injEq] at hk; subst hk
            exact (faddr_ok (hO x (by simp [hop, Op.operands])) hu hf hn hn0 he).done (by simp only [execOp, hop])
        · simp at hk
      · simp at hk
    · simp at hk
  -- field
  · rename_i t x f hop
    split at hk
    · rename_i fs hu
      split at hk
      · rename_i fd hf
        split at hk
        · rename_i g n hg hn
          simp only [K.p.injEq] at hk; subst hk
          exact (field_ok (hO x (by simp [hop, Op.operands])) hu hf hg hn he).done (by simp only [execOp, hop])
        · simp at hk
      · simp at hk
    · simp at hk
  -- indexAddr
  · rename_i t x i hop
    split at hk
    · rename_i el hu
      split at hk
      · rename_i n hn
        split at hk
        · simp at hk
        · simp only [K.p.injEq] at hk; subst hk
          exact (iaddr_ok (hO x (by simp [hop, Op.operands])) (hO i (by simp [hop, Op.operands])) hu hn he).done (by simp only [execOp, hop])
      · simp at hk
    · rename_i ln el hu
      split at hk
      · rename_i n hn
        split at hk
        · simp at hk
        · simp only [K.p.injEq] at hk; subst hk
          exact (iaddrA_ok (hO x (by simp [hop, Op.operands])) (hO i (by simp [hop, Op.operands])) hu hn he).done (by simp only [execOp, hop])
      · simp at hk
    · simp at hk
  -- index
  · rename_i t x i hop
    split at hk
    · rename_i hu
      simp only [K.p.injEq] at hk; subst hk
      exact (sindex_ok (hO x (by simp [hop, Op.operands])) (hO i (by simp [hop, Op.operands])) hu he).done (by simp only [execOp, hop])
    · simp at hk
  -- lookup
  · split at hk
    · split at hk
      · split at hk <;> simp at hk
      · simp at hk
    · simp at hk
  -- mapUpdate
  · split at hk
    · split at hk <;> simp at hk
    · simp at hk
  -- extract
  · rename_i t i hop
    simp only [K.p.injEq] at hk; subst hk
    exact (ext_ok (hO t (by simp [hop, Op.operands])) he).done (by simp only [execOp, hop])
  -- call
  · rename_i c hop
    unfold kCall at hk
    split at hk
    · rename_i b hc
      exact opP_builtin hop hc hk (fun x hx => hO x (by simp only [hop, Op.operands, Call.operands, hc]; simpa using hx)) he
    · simp at hk
    · simp at hk
    · simp at hk
  · simp at hk

end
end Ck

/-
A compiled operation that reads, makes or acts says what the model's operation does.
-/
set_option linter.unusedSimpArgs false
set_option linter.unusedVariables false
namespace Ck
open Go

section
variable {P : Program} {ng : Nat} {w0 : World} {φ : Inj} {H : Heap} {w : World} {e : Env} {ρ : Operand → Value}

def DoneR (P : Program) (ng : Nat) (w0 : World) (φ : Inj) (H : Heap) (w : World) (s : Sem Next) (v : Value) : Prop :=
  ∃ c w', s.run P w = .ok (.value c) w' ∧ VRel φ v c ∧ Rel ng w0 φ H w'

theorem Gives.doneR {s : Sem Value} {v : Value} {t : Sem Next} (h : Gives P φ w s v) (hR : Rel ng w0 φ H w) (ht : t = (do pure (Next.value (← s)))) : DoneR P ng w0 φ H w t v := by
  obtain ⟨c, hc, hv⟩ := h
  exact ⟨c, w, by rw [ht]; simp [hc], hv, hR⟩

theorem isByte_u {t : TypeId} (h : isByte P t = true) : P.underlying t = some (.int .u8) := by
  unfold isByte at h
  split at h
  · assumption
  · simp at h

theorem mlen_ok {ts : Array TypeId} {t u key elem : TypeId} {a a' v : Value} (hR : Rel ng w0 φ H w) (ha : VRel φ a a') (ht : ts[0]? = some t) (hu : P.underlying t = some (.map key elem)) (h : mlenV a H = some v) :
    Gives P φ w (Builtin.len_ ts u #[a']) v := by
  unfold mlenV at h
  split at h
  · simp only [Option.some.injEq] at h
    subst h
    cases ha
    exact .of (by simp [Builtin.len_, ht, underlying, hu, goInt]) (.int _ _)
  · rename_i r
    split at h
    · rename_i es hes
      simp only [Option.some.injEq] at h
      subst h
      cases ha with
      | map hi =>
        rename_i i
        obtain ⟨ob, hob, hbr⟩ := hR.blk _ _ _ hes hi
        cases ob <;> simp only [BRel] at hbr
        rename_i es' cl
        have hl := hbr.2.2.2.1.length
        simp at hl
        refine .of (c := .int .i64 es.length) ?_ (.int _ _)
        have hg : (getObj i.cb).run P w = .ok (.map es' cl) w := by simp [getObj, Sem.run, hob]
        simp [Builtin.len_, ht, underlying, hu, goInt, hg, hl]
    · simp at h
  · simp at h

theorem opR_ok {o : Oper} {k : RK} {v : Value} (hR : Rel ng w0 φ H w) (hk : kOf P o = .r k) (hO : OpsRel φ e ρ o.op.operands.toList) (he : evR k e H = some v) :
    DoneR P ng w0 φ H w (execOp ρ o) v := by
  unfold kOf at hk
  split at hk
  · simp at hk
  · simp at hk
  · simp at hk
  · split at hk <;> simp at hk
  · split at hk <;> simp at hk
  · split at hk
    · split at hk
      · split at hk <;> simp at hk
      · simp at hk
    · split at hk <;> simp at hk
    · simp at hk
  · split at hk
    · split at hk
      · split at hk <;> simp at hk
      · simp at hk
    · simp at hk
  -- load
  · rename_i t a hop
    split at hk
    · rename_i g n hg hn
      simp only [K.r.injEq] at hk; subst hk
      exact (ld_ok hR (hO a (by simp [hop, Op.operands])) hg hn he).doneR hR (by simp only [execOp, hop])
    · simp at hk
  · split at hk <;> simp at hk
  · simp at hk
  -- binOp
  · unfold kBin at hk
    split at hk
    · simp at hk
    · simp at hk
    · split at hk <;> simp at hk
    · split at hk <;> simp at hk
    · split at hk <;> simp at hk
    · split at hk <;> simp at hk
    · split at hk <;> simp at hk
    · split at hk <;> simp at hk
    · simp at hk
  · simp at hk
  -- convert
  · rename_i s d x hop
    have hx := hO x (by simp [hop, Op.operands])
    unfold kConv at hk
    split at hk
    · simp at hk
    · rename_i el hs hd
      split at hk
      · rename_i hb
        simp only [K.r.injEq] at hk; subst hk
        exact (tostr_ok hR hx hs hd (isByte_u hb) he).doneR hR (by simp only [execOp, hop])
      · simp at hk
    · simp at hk
    · rename_i e1 el hs hd
      split at hk
      · rename_i hc
        simp only [Bool.and_eq_true] at hc
        simp only [K.r.injEq] at hk; subst hk
        have hsd : s = d := by simpa using hc.1
        have hse : e1 = el := by
          subst hsd
          rw [hs] at hd
          simpa using hd
        subst hse
        obtain ⟨c, w', h1, h2, h3⟩ := mark_ok hR hx hs hc.1 (isByte_u hc.2) he
        exact ⟨c, w', by simp [execOp, hop, h1], h2, h3⟩
      · simp at hk
    · simp at hk
  · split at hk <;> simp at hk
  · simp at hk
  · split at hk <;> simp at hk
  · split at hk
    · split at hk
      · split at hk <;> simp at hk
      · simp at hk
    · simp at hk
  -- slice
  · rename_i t x lo hi hop
    split at hk
    · rename_i el hu
      split at hk
      · rename_i n hn
        split at hk
        · simp at hk
        · simp only [K.r.injEq] at hk; subst hk
          exact (slice_ok hR (hO x (by simp [hop, Op.operands])) (ORel.of fun y hy => hO y (by simp [hop, Op.operands, hy])) (ORel.of fun y hy => hO y (by simp [hop, Op.operands, hy])) hu hn he).doneR hR
            (by simp only [execOp, hop, Option.map_none])
      · simp at hk
    · simp at hk
    · simp at hk
  · split at hk
    · split at hk
      · split at hk
        · split at hk <;> simp at hk
        · simp at hk
      · simp at hk
    · simp at hk
  · split at hk
    · split at hk
      · split at hk <;> simp at hk
      · simp at hk
    · simp at hk
  · split at hk
    · split at hk
      · split at hk <;> simp at hk
      · simp at hk
    · split at hk
      · split at hk <;> simp at hk
      · simp at hk
    · simp at hk
  · split at hk <;> simp at hk
  -- lookup
  · rename_i t x i ok hop
    split at hk
    · rename_i kt el hu
      split at hk
      · rename_i z kk hz hkk
        split at hk
        · rename_i hc
          simp only [K.r.injEq] at hk; subst hk
          exact (lookup_ok hR hu hz hc hkk (hO x (by simp [hop, Op.operands])) (hO i (by simp [hop, Op.operands])) he).doneR hR (by simp only [execOp, hop])
        · simp at hk
      · simp at hk
    · simp at hk
  · split at hk
    · split at hk <;> simp at hk
    · simp at hk
  · simp at hk
  -- call
  · rename_i cl hop
    unfold kCall at hk
    split at hk
    · rename_i b hcb
      unfold kBuiltin at hk
      split at hk
      · rename_i y hy
        split at hk
        · simp at hk
        · simp at hk
        · rename_i kt el hu
          simp only [K.r.injEq] at hk; subst hk
          simp only [Option.bind_eq_some_iff] at hu
          obtain ⟨t, ht, hu⟩ := hu
          have hmy : y ∈ cl.args := by rw [← Array.mem_toList_iff, hy]; simp
          have hyy : VRel φ (opd e y) (ρ y) := hO y (by simp only [hop, Op.operands, Call.operands, hcb]; simp [hmy])
          obtain ⟨r, hr, hv⟩ := mlen_ok (u := o.type) hR hyy ht hu he
          refine ⟨r, w, ?_, hv, hR⟩
          have ha : cl.args.map ρ = #[ρ y] := by apply Array.ext'; simp [hy]
          have hs : ∀ cs, Go.builtin .len cl.argTypes o.type cs #[ρ y] = (do pure (Next.value (← Builtin.len_ cl.argTypes o.type #[ρ y]))) := fun _ => rfl
          simp only [execOp, hop, resolve, hcb, Sem.run_bind, Sem.run_pure, Result.andThen_ok, invoke, ha, hs, hr]
        · simp at hk
      · split at hk <;> simp at hk
      · simp at hk
      · simp at hk
      · split at hk
        · split at hk
          · split at hk
            · simp at hk
            · split at hk <;> simp at hk
          · simp at hk
        · simp at hk
      · split at hk
        · split at hk
          · split at hk <;> simp at hk
          · simp at hk
        · simp at hk
      · simp at hk
    · simp at hk
    · simp at hk
    · simp at hk
  · simp at hk

def DoneN (P : Program) (N : Nat) (φ : Inj) (w : World) (s : Sem Next) (v : Value) (b : Nat) (x : Blk) : Prop :=
  ∃ c o i, s.run P w = .ok (.value c) (w.alloc o) ∧ i.cb = w.heap.size ∧ BRel φ N x i o ∧ ∀ ψ : Inj, ψ b = some i → VRel ψ v c

theorem Made.done {N : Nat} {s : Sem Value} {v : Value} {b : Nat} {x : Blk} {t : Sem Next} (h : Made P N φ w s v b x) (ht : t = (do pure (Next.value (← s)))) : DoneN P N φ w t v b x := by
  obtain ⟨c, o, i, hc, hi, hb, hv⟩ := h
  exact ⟨c, o, i, by rw [ht]; simp [hc], hi, hb, hv⟩

theorem elemT_u {t e : TypeId} (h : elemT P t = some e) : P.underlying t = some (.slice e) := by
  unfold elemT at h
  split at h
  · simp at h; subst h; assumption
  · simp at h

theorem opN_ok {o : Oper} {k : NK} {v : Value} {b : Nat} {y : Blk} {N : Nat} (hN : N ≤ w.heap.size) (hk : kOf P o = .n k) (hO : OpsRel φ e ρ o.op.operands.toList) (he : newN k e b = some (v, y)) :
    DoneN P N φ w (execOp ρ o) v b y := by
  unfold kOf at hk
  split at hk
  · simp at hk
  · simp at hk
  · simp at hk
  -- alloc
  · rename_i t hop
    split at hk
    · rename_i n z hn hz
      simp only [K.n.injEq] at hk; subst hk
      simp only [newN, Option.some.injEq, Prod.mk.injEq] at he
      obtain ⟨rfl, rfl⟩ := he
      exact (alloc_ok hN hn hz b).done (by simp only [execOp, hop])
    · simp at hk
  -- box
  · rename_i t x hop
    split at hk
    · rename_i n hn
      simp only [K.n.injEq] at hk; subst hk
      exact (box_ok (t := t) hN (hO x (by simp [hop, Op.operands])) he).done (by simp only [execOp, hop])
    · simp at hk
  · split at hk
    · split at hk
      · split at hk <;> simp at hk
      · simp at hk
    · split at hk <;> simp at hk
    · simp at hk
  -- buildSlice
  · rename_i t len ps hop
    have hps : ∀ p ∈ ps.toList, VRel φ (opd e p.2) (ρ p.2) := fun p hp => hO p.2 (by simp only [hop, Op.operands]; simp; exact ⟨p.1, by simpa using hp⟩)
    split at hk
    · rename_i el hel
      split at hk
      · rename_i n z hn hz
        split at hk
        · rename_i hc
          simp only [K.n.injEq] at hk; subst hk
          refine (bslice_ok hN (elemT_u hel) hn hc.2 hz hc.1 (PRel.of (f := fun p => (p.1 * n, n, p.2)) ps.toList hps (fun p _ => ⟨rfl, rfl⟩)) he).done ?_
          simp only [execOp, hop]
          congr 2
          apply Array.ext'
          simp
        · simp at hk
      · simp at hk
    · simp at hk
  · split at hk <;> simp at hk
  · split at hk <;> simp at hk
  · simp at hk
  · unfold kBin at hk
    split at hk
    · simp at hk
    · simp at hk
    · split at hk <;> simp at hk
    · split at hk <;> simp at hk
    · split at hk <;> simp at hk
    · split at hk <;> simp at hk
    · split at hk <;> simp at hk
    · split at hk <;> simp at hk
    · simp at hk
  · simp at hk
  · unfold kConv at hk
    split at hk
    · simp at hk
    · split at hk <;> simp at hk
    · simp at hk
    · split at hk <;> simp at hk
    · simp at hk
  · split at hk <;> simp at hk
  · simp at hk
  -- makeMap
  · rename_i t hop
    split at hk
    · rename_i kt el hu
      simp only [K.n.injEq] at hk; subst hk
      simp only [newN, Option.some.injEq, Prod.mk.injEq] at he
      obtain ⟨rfl, rfl⟩ := he
      exact (mkmap_ok hN hu b).done (by simp only [execOp, hop, Option.map_none])
    · simp at hk
  -- makeSlice
  · rename_i t l c hop
    split at hk
    · rename_i el hel
      split at hk
      · rename_i n bb z hn hb hz
        split at hk
        · simp at hk
        · rename_i hn0
          simp only [K.n.injEq] at hk; subst hk
          exact (mkslice_ok hN (elemT_u hel) hn hb hn0 hz (hO l (by simp [hop, Op.operands])) (hO c (by simp [hop, Op.operands])) he).done (by simp only [execOp, hop])
      · simp at hk
    · simp at hk
  · split at hk
    · split at hk
      · split at hk <;> simp at hk
      · simp at hk
    · simp at hk
    · simp at hk
  · split at hk
    · split at hk
      · split at hk
        · split at hk <;> simp at hk
        · simp at hk
      · simp at hk
    · simp at hk
  · split at hk
    · split at hk
      · split at hk <;> simp at hk
      · simp at hk
    · simp at hk
  · split at hk
    · split at hk
      · split at hk <;> simp at hk
      · simp at hk
    · split at hk
      · split at hk <;> simp at hk
      · simp at hk
    · simp at hk
  · split at hk <;> simp at hk
  · split at hk
    · split at hk
      · split at hk <;> simp at hk
      · simp at hk
    · simp at hk
  · split at hk
    · split at hk <;> simp at hk
    · simp at hk
  · simp at hk
  · unfold kCall at hk
    split at hk
    · unfold kBuiltin at hk
      split at hk
      · split at hk <;> simp at hk
      · split at hk <;> simp at hk
      · simp at hk
      · simp at hk
      · split at hk
        · split at hk
          · split at hk
            · simp at hk
            · split at hk <;> simp at hk
          · simp at hk
        · simp at hk
      · split at hk
        · split at hk
          · split at hk <;> simp at hk
          · simp at hk
        · simp at hk
      · simp at hk
    · simp at hk
    · simp at hk
    · simp at hk
  · simp at hk

/-- What an operation that acts comes to: a value or nothing; or a function is entered. -/
def ActsTo (P : Program) (ng : Nat) (w0 : World) (φ : Inj) (H : Heap) (w : World) (s : Sem Next) (v : Value) (H' : Heap) : Prop :=
  ∃ c w' ψ, (s.run P w = .ok (.value c) w' ∨ (s.run P w = .ok .skip w' ∧ c = undef)) ∧ Inj.le φ ψ ∧ VRel ψ v c ∧ Rel ng w0 ψ H' w' ∧ Keep φ ψ H H'

theorem Makes.acts {s : Sem Value} {v : Value} {H' : Heap} {t : Sem Next} (h : Makes P ng w0 φ w s v H H') (ht : t = (do pure (Next.value (← s)))) : ActsTo P ng w0 φ H w t v H' := by
  obtain ⟨c, w', ψ, h1, h2, h3, h4, h5⟩ := h
  exact ⟨c, w', ψ, .inl (by rw [ht]; simp [h1]), h2, h3, h4, h5⟩

theorem VRel.undef : VRel φ undef undef := .tuple (xs := []) (ys := []) .nil

/-- The operation enters a function: which, with what. -/
def Enters (P : Program) (φ : Inj) (w : World) (s : Sem Next) (f : FuncId) (args : List Value) : Prop :=
  (∃ fn, P.funcs[f]? = some fn ∧ fn.body.isSome = true ∧ (fn.name == "runtime.NumGoroutine") = false) →
    ∃ cargs, s.run P w = .ok (.enter f cargs.toArray) w ∧ LRel φ args cargs

theorem opE_ok {O : Oracle} {o : Oper} {k : EK} {v : Value} {H' : Heap} (hR : Rel ng w0 φ H w) (hk : kOf P o = .e k) (hF : ∀ f, ρ (.func f) = .func (.func f) #[] #[])
    (hO : OpsRel φ e ρ o.op.operands.toList) (he : evE O k e H = some (v, H')) :
    ActsTo P ng w0 φ H w (execOp ρ o) v H' ∨ ∃ f args, O f args H = some (v, H') ∧ Enters P φ w (execOp ρ o) f args := by
  unfold kOf at hk
  split at hk
  · simp at hk
  · simp at hk
  · simp at hk
  · split at hk <;> simp at hk
  · split at hk <;> simp at hk
  · split at hk
    · split at hk
      · split at hk <;> simp at hk
      · simp at hk
    · split at hk <;> simp at hk
    · simp at hk
  · split at hk
    · split at hk
      · split at hk <;> simp at hk
      · simp at hk
    · simp at hk
  · split at hk <;> simp at hk
  -- store
  · rename_i t a x hop
    split at hk
    · rename_i n hn
      simp only [K.e.injEq] at hk; subst hk
      simp only [evE, Option.map_eq_some_iff, Prod.mk.injEq] at he
      obtain ⟨H1, h1, rfl, rfl⟩ := he
      obtain ⟨w', g1, g2, b, i, y, g3, g4⟩ := st_ok (P := P) hR (hO a (by simp [hop, Op.operands])) (hO x (by simp [hop, Op.operands])) hn h1
      refine .inl ⟨undef, w', φ, .inr ⟨by simp [execOp, hop, g1], rfl⟩, .refl _, VRel.undef, g2, by rw [g4]; exact .set g3⟩
    · simp at hk
  · simp at hk
  · unfold kBin at hk
    split at hk
    · simp at hk
    · simp at hk
    · split at hk <;> simp at hk
    · split at hk <;> simp at hk
    · split at hk <;> simp at hk
    · split at hk <;> simp at hk
    · split at hk <;> simp at hk
    · split at hk <;> simp at hk
    · simp at hk
  · simp at hk
  · unfold kConv at hk
    split at hk
    · simp at hk
    · split at hk <;> simp at hk
    · simp at hk
    · split at hk <;> simp at hk
    · simp at hk
  · split at hk <;> simp at hk
  · simp at hk
  · split at hk <;> simp at hk
  · split at hk
    · split at hk
      · split at hk <;> simp at hk
      · simp at hk
    · simp at hk
  · split at hk
    · split at hk
      · split at hk <;> simp at hk
      · simp at hk
    · simp at hk
    · simp at hk
  · split at hk
    · split at hk
      · split at hk
        · split at hk <;> simp at hk
        · simp at hk
      · simp at hk
    · simp at hk
  · split at hk
    · split at hk
      · split at hk <;> simp at hk
      · simp at hk
    · simp at hk
  · split at hk
    · split at hk
      · split at hk <;> simp at hk
      · simp at hk
    · split at hk
      · split at hk <;> simp at hk
      · simp at hk
    · simp at hk
  · split at hk <;> simp at hk
  · split at hk
    · split at hk
      · split at hk <;> simp at hk
      · simp at hk
    · simp at hk
  -- mapUpdate
  · rename_i t m k v hop
    split at hk
    · rename_i kt el hu
      split at hk
      · rename_i kk hkk
        simp only [K.e.injEq] at hk; subst hk
        simp only [evE, Option.map_eq_some_iff, Prod.mk.injEq] at he
        obtain ⟨H1, h1, rfl, rfl⟩ := he
        obtain ⟨w', g1, g2, b, i, y, g3, g4⟩ := mapupd_ok (P := P) hR hu hkk (hO m (by simp [hop, Op.operands])) (hO k (by simp [hop, Op.operands])) (hO v (by simp [hop, Op.operands])) h1
        refine .inl ⟨undef, w', φ, .inr ⟨by simp [execOp, hop, g1], rfl⟩, .refl _, VRel.undef, g2, by rw [g4]; exact .set g3⟩
      · simp at hk
    · simp at hk
  · simp at hk
  -- call
  · rename_i c hop
    have hargs : ∀ x ∈ c.args.toList, VRel φ (opd e x) (ρ x) := fun x hx => hO x (by simp only [hop, Op.operands, Call.operands]; simp; right; simpa using hx)
    unfold kCall at hk
    split at hk
    · rename_i b hc
      have hex : ∀ (s : Sem Value), (∀ cs, Go.builtin b c.argTypes o.type cs (c.args.map ρ) = (do pure (Next.value (← s)))) → Makes P ng w0 φ w s v H H' → ActsTo P ng w0 φ H w (execOp ρ o) v H' := by
        intro s hs hm
        obtain ⟨r, w', ψ, h1, h2⟩ := hm
        refine ⟨r, w', ψ, .inl ?_, h2⟩
        simp only [execOp, hop, resolve, hc, Sem.run_bind, Sem.run_pure, Result.andThen_ok, invoke, hs, h1]
      unfold kBuiltin at hk
      split at hk
      · split at hk <;> simp at hk
      · split at hk <;> simp at hk
      · simp at hk
      · simp at hk
      -- append
      · rename_i s x hx
        have hs := hargs s (by rw [hx]; simp)
        have hxv := hargs x (by rw [hx]; simp)
        have ha : c.args.map ρ = #[ρ s, ρ x] := by apply Array.ext'; simp [hx]
        split at hk
        · rename_i el u hel hu
          simp only [Option.bind_eq_some_iff] at hel hu
          obtain ⟨t0, ht0, hel⟩ := hel
          obtain ⟨t1, ht1, hu⟩ := hu
          split at hk
          · rename_i n bb z hn hb hz
            split at hk
            · simp at hk
            · rename_i hn0
              split at hk
              · simp only [K.e.injEq] at hk; subst hk
                exact .inl (hex _ (fun cs => by rw [ha]; rfl) (appendz_ok hR hs hxv ht0 (elemT_u hel) hn hb hz hn0 ht1 hu he))
              · simp only [K.e.injEq] at hk; subst hk
                exact .inl (hex _ (fun cs => by rw [ha]; rfl) (append_ok hR hs hxv ht0 (elemT_u hel) hn hb hz hn0 ht1 hu (.inl ⟨_, rfl⟩) he))
              · simp only [K.e.injEq] at hk; subst hk
                exact .inl (hex _ (fun cs => by rw [ha]; rfl) (append_ok hR hs hxv ht0 (elemT_u hel) hn hb hz hn0 ht1 hu (.inr rfl) he))
              · simp at hk
          · simp at hk
        · simp at hk
      -- copy
      · rename_i d s hx
        have hd := hargs d (by rw [hx]; simp)
        have hs := hargs s (by rw [hx]; simp)
        have ha : c.args.map ρ = #[ρ d, ρ s] := by apply Array.ext'; simp [hx]
        split at hk
        · rename_i el hel
          simp only [Option.bind_eq_some_iff] at hel
          obtain ⟨t0, ht0, hel⟩ := hel
          split at hk
          · rename_i n hn
            split at hk
            · simp at hk
            · rename_i hn0
              simp only [K.e.injEq] at hk; subst hk
              exact .inl (hex _ (fun cs => by rw [ha]; rfl) (copy_ok hR hd hs ht0 (elemT_u hel) hn hn0 he))
          · simp at hk
        · simp at hk
      · simp at hk
    -- a function
    · rename_i f hc
      simp only [K.e.injEq] at hk; subst hk
      refine .inr ⟨f, _, he, fun ⟨fn, h1, h2, h3⟩ => ⟨c.args.toList.map ρ, ?_, OpsRel.map hargs⟩⟩
      have ha : (c.args.toList.map ρ).toArray = c.args.map ρ := by apply Array.ext'; simp
      have hb : fn.body.isNone = false := by cases hq : fn.body <;> simp_all
      have h3' : ¬ (fn.name == "runtime.NumGoroutine") = true := by simp [h3]
      rw [ha]
      simp only [execOp, hop, resolve, hc, hF, Deferred.ofValue, Sem.run_bind, Sem.run_pure, Result.andThen_ok, invoke, callFunc, run_program, h1, if_neg h3', hb, Bool.false_eq_true, if_false]
      simp
    -- a value
    · rename_i t hc
      simp only [K.e.injEq] at hk; subst hk
      have hf := hO (.tmp t) (by simp [hop, Op.operands, Call.operands, hc])
      simp only [evE] at he
      unfold dynV at he
      split at he
      · rename_i g first captured hg
        rw [hg] at hf
        cases hρt : ρ (.tmp t) <;> rw [hρt] at hf <;> cases hf
        rename_i hl1 hl2
        rename_i xs ys us vs
        refine .inr ⟨g, _, he, fun ⟨fn, h1, h2, h3⟩ => ⟨ys ++ c.args.toList.map ρ ++ vs, ?_, ?_⟩⟩
        · have hb : fn.body.isNone = false := by cases hq : fn.body <;> simp_all
          have h3' : ¬ (fn.name == "runtime.NumGoroutine") = true := by simp [h3]
          have ha : (ys ++ c.args.toList.map ρ ++ vs).toArray = ys.toArray ++ c.args.map ρ ++ vs.toArray := by apply Array.ext'; simp
          rw [ha]
          simp only [execOp, hop, resolve, hc, hρt, Deferred.ofValue, Sem.run_bind, Sem.run_pure, Result.andThen_ok, invoke, callFunc, run_program, h1, if_neg h3', hb, Bool.false_eq_true, if_false]
        · exact (hl1.append (OpsRel.map hargs)).append hl2
      · simp at he
    · simp at hk
  · simp at hk

end
end Ck

/-
One operation, walked: the model's step stands for the machine's.
-/
set_option linter.unusedSimpArgs false
set_option linter.unusedVariables false
namespace Ck
open Go

/-- What a call returns stands for (v, H'). -/
def Ret (ng : Nat) (w0 : World) (φ : Inj) (H : Heap) (v : Value) (H' : Heap) (e : Ending) (w' : World) : Prop :=
  ∃ c ψ, e = .returned c ∧ Inj.le φ ψ ∧ VRel ψ v c ∧ Rel ng w0 ψ H' w' ∧ Keep φ ψ H H'

/-- An oracle that tells the truth. -/
def True_ (P : Program) (ng : Nat) (w0 : World) (O : Oracle) : Prop :=
  ∀ f args H v H', O f args H = some (v, H') →
    (∃ fn, P.funcs[f]? = some fn ∧ fn.body.isSome = true ∧ (fn.name == "runtime.NumGoroutine") = false) ∧
    ∀ φ w cargs, Rel ng w0 φ H w → LRel φ args cargs → Calls P f cargs.toArray w (Ret ng w0 φ H v H')

section
variable {P : Program} {ng : Nat} {w0 : World} {φ : Inj} {H : Heap} {w : World} {e : Env} {O : Oracle} {ops : Array Oper}

theorem runItems_op (o : AOp) (r : List Item) (e : Env) (H : Heap) : runItems O (.op o :: r) e H = (evOp O o e H).bind fun x => runItems O r (put e o.dst x.1) x.2 := by
  simp only [runItems, evOp]
  cases o.k <;> simp only
  · cases guardV _ _ <;> rfl
  · cases guardV _ _ <;> rfl
  · rfl

theorem eval_consts (a : Act) : Consts a.eval := fun _ => rfl
theorem eval_funcs (a : Act) (f : FuncId) : a.eval (.func f) = .func (.func f) #[] #[] := rfl

theorem okOpd_rel {a : Act} {x : Operand} (hR : Rel ng w0 φ H w) (hng : ng = P.globals.size) (hok : okOpd P x = true) (ht : ∀ t, x = .tmp t → VRel φ (e t) (a.tmps.getD t undef)) :
    VRel φ (opd e x) (a.eval x) := by
  cases x with
  | tmp t => exact ht t rfl
  | const v => exact VRel.const hok
  | global g =>
    simp only [okOpd, decide_eq_true_eq] at hok
    obtain ⟨i, hi, hc, hl⟩ := hR.glob g (by omega)
    have := VRel.ptr (φ := φ) (b := g) (o := 0) (i := i) hi
    simpa [hc, hl, opd, Act.eval] using this
  | func f => exact .func f (xs := []) (ys := []) (us := []) (vs := []) .nil .nil

theorem aopOf_spec {o : Oper} {ao : AOp} (h : aopOf P ops o = some ao) : o.op.operands.toList.all (okOpd P) = true ∧ ao.dst = o.dst ∧ ao.k = kOf P o ∧
    (match o.guard with
      | none => ao.guard = none
      | some (j, w) => ∃ t, (ops[j]?).bind (·.dst) = some t ∧ ao.guard = some (t, w)) := by
  unfold aopOf at h
  split at h
  · rename_i hok
    split at h
    · rename_i hg
      simp only [Option.some.injEq] at h
      subst h
      rw [hg]
      exact ⟨hok, rfl, rfl, rfl⟩
    · rename_i j w' hg
      simp only [Option.map_eq_some_iff] at h
      obtain ⟨t, ht, rfl⟩ := h
      rw [hg]
      exact ⟨hok, rfl, rfl, t, ht, rfl⟩
  · simp at h

theorem mem_tmpsOf {o : Oper} {t : Nat} (h : Operand.tmp t ∈ o.op.operands.toList) : t ∈ looks ops o := by
  unfold looks
  refine List.mem_append_left _ ?_
  unfold tmpsOf
  exact List.mem_filterMap.2 ⟨_, h, rfl⟩

theorem operands_rel {a : Act} {o : Oper} {ao : AOp} (hR : Rel ng w0 φ H w) (hng : ng = P.globals.size) (h : aopOf P ops o = some ao)
    (hl : ∀ t ∈ looks ops o, VRel φ (e t) (a.tmps.getD t undef)) : OpsRel φ e a.eval o.op.operands.toList := by
  obtain ⟨hok, _⟩ := aopOf_spec h
  rw [List.all_eq_true] at hok
  intro x hx
  exact okOpd_rel hR hng (hok x hx) (fun t ht => hl t (mem_tmpsOf (by rw [← ht]; exact hx)))

/-- Is the operation done? -/
theorem wanted_of {a : Act} {o : Oper} {ao : AOp} (h : aopOf P ops o = some ao) (hl : ∀ t ∈ looks ops o, VRel φ (e t) (a.tmps.getD t undef)) :
    (ao.gv e = none ∧ Region.wanted o (yielded ops a.tmps) = true) ∨
    (∃ v want, ao.gv e = some (v, want) ∧ (∀ b, v = .bool b → Region.wanted o (yielded ops a.tmps) = (b == want)) ∧ ∀ l, v = .tuple l → Region.wanted o (yielded ops a.tmps) = false) := by
  obtain ⟨_, _, _, hg⟩ := aopOf_spec h
  split at hg
  · rename_i hgn
    left
    exact ⟨by simp [AOp.gv, hg], by simp [Region.wanted, hgn]⟩
  · rename_i j want hgs
    obtain ⟨t, ht, hao⟩ := hg
    right
    refine ⟨e t, want, by simp [AOp.gv, hao], fun b hb => ?_, fun l hb => ?_⟩
    rotate_left
    · have hmem : t ∈ looks ops o := by
        unfold looks
        refine List.mem_append_right _ ?_
        rw [hgs]
        simp [ht]
      have hv := hl t hmem
      rw [hb] at hv
      have hy : yielded ops a.tmps j = none := by
        unfold yielded
        rw [ht]
        simp only [Option.bind_some]
        cases hz : a.tmps[t]? with
        | none => rfl
        | some u =>
          simp [Array.getD_eq_getD_getElem?, hz] at hv
          cases hv
          rfl
      simp only [Region.wanted, hgs, hy]
      cases want <;> rfl
    have hmem : t ∈ looks ops o := by
      unfold looks
      refine List.mem_append_right _ ?_
      rw [hgs]
      simp [ht]
    have hv := hl t hmem
    rw [hb] at hv
    have hval : a.tmps[t]? = some (.bool b) := by
      generalize hq : a.tmps.getD t undef = q at hv
      cases hv
      cases hz : a.tmps[t]? with
      | none => simp [Array.getD_eq_getD_getElem?, hz, undef] at hq
      | some u => simp [Array.getD_eq_getD_getElem?, hz] at hq; rw [hq]
    have hy : yielded ops a.tmps j = some b := by
      unfold yielded
      rw [ht]
      simp [hval]
    simp only [Region.wanted, hgs, hy]
    cases b <;> cases want <;> rfl

/-- What the step leaves. -/
def Next_ (ng : Nat) (w0 : World) (φ : Inj) (H : Heap) (o : Oper) (a : Act) (v : Value) (H' : Heap) (K : Act → World → Prop) : Prop :=
  ∀ c w' ψ, Inj.le φ ψ → VRel ψ v c → Rel ng w0 ψ H' w' → Keep φ ψ H H' → K (a.put o.dst c) w'

theorem wpOp_of {Q : Exit → Act → World → Prop} {i : Nat} {o : Oper} {K : Act → World → Prop} {a : Act} (ho : ops[i]? = some o)
    (h1 : Region.wanted o (yielded ops a.tmps) = true → o.wp P a w K Q) (h2 : Region.wanted o (yielded ops a.tmps) = false → K (a.put o.dst undef) w) : wpOp P ops Q i K a w := by
  unfold wpOp
  simp only [ho]
  cases hw : Region.wanted o (yielded ops a.tmps) with
  | true => simp only [if_true]; exact .inl (h1 hw)
  | false => simp only [Bool.false_eq_true, if_false]; exact h2 hw

/-- A guard that says no, or says nothing. -/
def Off (g : Option (Value × Bool)) : Prop := (∃ b want, g = some (.bool b, want) ∧ b ≠ want) ∨ ∃ l want, g = some (.tuple l, want)

theorem Off.v {g : Option (Value × Bool)} (h : Off g) (x : Option Value) : guardV g x = some undef := by
  rcases h with ⟨b, want, rfl, hb⟩ | ⟨l, want, rfl⟩
  · simp [guardV, hb]
  · rfl

theorem Off.h {g : Option (Value × Bool)} (h : Off g) (x : Option (Value × Heap)) (H : Heap) : guardH g x H = some (undef, H) := by
  rcases h with ⟨b, want, rfl, hb⟩ | ⟨l, want, rfl⟩
  · simp [guardH, hb]
  · rfl

/-- An operation is done, or is not. -/
theorem evOp_cases {ao : AOp} {v : Value} {H' : Heap} (hv : evOp O ao e H = some (v, H')) :
    ((ao.gv e = none ∨ ∃ b, ao.gv e = some (.bool b, b)) ∧
      ((∃ k, ao.k = .p k ∧ evP k e = some v ∧ H' = H) ∨ (∃ k, ao.k = .r k ∧ evR k e H = some v ∧ H' = H) ∨ (∃ k, ao.k = .n k ∧ evN k e H = some (v, H')) ∨
        (∃ k, ao.k = .e k ∧ evE O k e H = some (v, H')))) ∨
    (Off (ao.gv e) ∧ v = undef ∧ H' = H) := by
  unfold evOp at hv
  have gV : ∀ {g : Option (Value × Bool)} {x : Option Value} {u : Value}, guardV g x = some u → ((g = none ∨ ∃ b, g = some (.bool b, b)) ∧ x = some u) ∨ (Off g ∧ u = undef) := by
    intro g x u h
    unfold guardV at h
    split at h
    · exact .inl ⟨.inl rfl, h⟩
    · rename_i b want
      split at h
      · rename_i hb; subst hb; exact .inl ⟨.inr ⟨b, rfl⟩, h⟩
      · rename_i hb; simp only [Option.some.injEq] at h; exact .inr ⟨.inl ⟨b, want, rfl, hb⟩, h.symm⟩
    · rename_i l want; simp only [Option.some.injEq] at h; exact .inr ⟨.inr ⟨l, want, rfl⟩, h.symm⟩
    · simp at h
  have gH : ∀ {g : Option (Value × Bool)} {x : Option (Value × Heap)} {u : Value} {H2 : Heap}, guardH g x H = some (u, H2) → ((g = none ∨ ∃ b, g = some (.bool b, b)) ∧ x = some (u, H2)) ∨ (Off g ∧ u = undef ∧ H2 = H) := by
    intro g x u H2 h
    unfold guardH at h
    split at h
    · exact .inl ⟨.inl rfl, h⟩
    · rename_i b want
      split at h
      · rename_i hb; subst hb; exact .inl ⟨.inr ⟨b, rfl⟩, h⟩
      · rename_i hb
        simp only [Option.some.injEq, Prod.mk.injEq] at h
        exact .inr ⟨.inl ⟨b, want, rfl, hb⟩, h.1.symm, h.2.symm⟩
    · rename_i l want
      simp only [Option.some.injEq, Prod.mk.injEq] at h
      exact .inr ⟨.inr ⟨l, want, rfl⟩, h.1.symm, h.2.symm⟩
    · simp at h
  split at hv
  · rename_i k hk
    simp only [Option.map_eq_some_iff, Prod.mk.injEq] at hv
    obtain ⟨u, hu, rfl, rfl⟩ := hv
    rcases gV hu with ⟨h1, h2⟩ | ⟨h1, h2⟩
    · exact .inl ⟨h1, .inl ⟨k, hk, h2, rfl⟩⟩
    · exact .inr ⟨h1, h2, rfl⟩
  · rename_i k hk
    simp only [Option.map_eq_some_iff, Prod.mk.injEq] at hv
    obtain ⟨u, hu, rfl, rfl⟩ := hv
    rcases gV hu with ⟨h1, h2⟩ | ⟨h1, h2⟩
    · exact .inl ⟨h1, .inr (.inl ⟨k, hk, h2, rfl⟩)⟩
    · exact .inr ⟨h1, h2, rfl⟩
  · rename_i k hk
    rcases gH hv with ⟨h1, h2⟩ | ⟨h1, h2⟩
    · exact .inl ⟨h1, .inr (.inr (.inl ⟨k, hk, h2⟩))⟩
    · exact .inr ⟨h1, h2⟩
  · rename_i k hk
    rcases gH hv with ⟨h1, h2⟩ | ⟨h1, h2⟩
    · exact .inl ⟨h1, .inr (.inr (.inr ⟨k, hk, h2⟩))⟩
    · exact .inr ⟨h1, h2⟩
  · simp at hv

/-- One operation, done in the machine's own order. -/
theorem step_ok {Q : Exit → Act → World → Prop} {i : Nat} {o : Oper} {ao : AOp} {K : Act → World → Prop} {a : Act} {v : Value} {H' : Heap} (hO : True_ P ng w0 O) (hng : ng = P.globals.size)
    (ho : ops[i]? = some o) (ha : aopOf P ops o = some ao) (hR : Rel ng w0 φ H w) (hl : ∀ t ∈ looks ops o, VRel φ (e t) (a.tmps.getD t undef))
    (hv : evOp O ao e H = some (v, H')) (hK : Next_ ng w0 φ H o a v H' K) : wpOp P ops Q i K a w := by
  obtain ⟨hok, hdst, hkk, _⟩ := aopOf_spec ha
  have hops := operands_rel hR hng ha hl
  rcases evOp_cases hv with ⟨hg, hmain⟩ | ⟨hoff, hvu, hH⟩
  · -- it is done
    have hdone : Region.wanted o (yielded ops a.tmps) = true := by
      rcases wanted_of ha hl with ⟨_, hw⟩ | ⟨gv, want, hg', hb, _⟩
      · exact hw
      · rcases hg with hg | ⟨b, hg⟩
        · rw [hg] at hg'; simp at hg'
        · rw [hg] at hg'
          simp only [Option.some.injEq, Prod.mk.injEq] at hg'
          obtain ⟨rfl, rfl⟩ := hg'
          rw [hb b rfl]; simp
    refine wpOp_of ho (fun _ => ?_) (fun hw => by rw [hdone] at hw; simp at hw)
    unfold Oper.wp
    rcases hmain with ⟨k, hkd, g1, g2⟩ | ⟨k, hkd, g1, g2⟩ | ⟨k, hkd, g⟩ | ⟨k, hkd, g⟩
    · obtain ⟨c, hc, hvc⟩ := opP_ok (P := P) (w := w) (hkk ▸ hkd) (eval_consts a) hops g1
      rw [hc, Oper.upon_value]
      subst g2
      exact hK c w φ (.refl _) hvc hR (.refl _ _)
    · obtain ⟨c, w', hc, hvc, hR'⟩ := opR_ok (P := P) hR (hkk ▸ hkd) hops g1
      rw [hc, Oper.upon_value]
      subst g2
      exact hK c w' φ (.refl _) hvc hR' (.refl _ _)
    · simp only [evN, Option.map_eq_some_iff, Prod.mk.injEq] at g
      obtain ⟨⟨v', x⟩, g1, rfl, rfl⟩ := g
      obtain ⟨c, ob, inf, hc, hcb, hbr, hvc⟩ := opN_ok (P := P) hR.size (hkk ▸ hkd) hops g1
      rw [hc, Oper.upon_value]
      obtain ⟨hR', hle⟩ := hR.new hcb hbr
      exact hK c _ _ hle (hvc _ (by simp [Inj.put])) hR' .new
    · rcases opE_ok (P := P) hR (hkk ▸ hkd) (eval_funcs a) hops g with ⟨c, w', ψ, hc, hle, hvc, hR', hkeep⟩ | ⟨f, args, hOf, hent⟩
      · rcases hc with hc | ⟨hc, rfl⟩
        · rw [hc, Oper.upon_value]; exact hK c w' ψ hle hvc hR' hkeep
        · rw [hc, Oper.upon_skip]; exact hK _ w' ψ hle hvc hR' hkeep
      · obtain ⟨hfn, hcalls⟩ := hO f args H v H' hOf
        obtain ⟨cargs, hc, hlr⟩ := hent hfn
        rw [hc, Oper.upon_enter]
        refine (hcalls φ w cargs hR hlr).mono ?_
        rintro en w' ⟨c, ψ, rfl, hle, hvc, hR', hkeep⟩
        exact hK c w' ψ hle hvc hR' hkeep
  · -- it is not done
    have hskip : Region.wanted o (yielded ops a.tmps) = false := by
      rcases wanted_of ha hl with ⟨hg', _⟩ | ⟨gv, want', hg', hb, hb2⟩
      · rcases hoff with ⟨b, want, hg, hbw⟩ | ⟨l, want, hg⟩ <;> (rw [hg] at hg'; simp at hg')
      · rcases hoff with ⟨b, want, hg, hbw⟩ | ⟨l, want, hg⟩
        · rw [hg] at hg'
          simp only [Option.some.injEq, Prod.mk.injEq] at hg'
          obtain ⟨rfl, rfl⟩ := hg'
          rw [hb b rfl]; simpa using hbw
        · rw [hg] at hg'
          simp only [Option.some.injEq, Prod.mk.injEq] at hg'
          obtain ⟨rfl, rfl⟩ := hg'
          exact hb2 l rfl
    refine wpOp_of ho (fun hw => by rw [hskip] at hw; simp at hw) (fun _ => ?_)
    subst hvu; subst hH
    exact hK undef w φ (.refl _) VRel.undef hR (.refl _ _)

end
end Ck
