/-
Operations that read, write and make memory: what the abstract machine says, the model does.
-/
import Derived.Test.YtgopfpmkbdhnnaaGreatDoorCkRel
set_option linter.unusedSimpArgs false
set_option linter.unusedVariables false
namespace Ck
open Go

section
variable {P : Program} {ng : Nat} {w0 : World} {φ : Inj} {H : Heap} {w : World}

theorem ld_ok {t : TypeId} {g : Bool} {n : Nat} {a a' v : Value} (hR : Rel ng w0 φ H w) (ha : VRel φ a a') (hg : aggT P t = some g) (hn : sz P t = some n)
    (h : ldV g n a H = some v) : Gives P φ w (Instr.loadAt t a') v := by
  unfold ldV at h
  split at h
  · rename_i b o
    cases ha with
    | ptr hb =>
      rename_i i
      split at h
      · rename_i hgt
        subst hgt
        simp only [Option.map_eq_some_iff] at h
        obtain ⟨cs, hcs, rfl⟩ := h
        obtain ⟨l', hl, _, hrel, hcell⟩ := hR.lds hb hcs
        refine .of (c := .agg l'.toArray) ?_ (.agg hrel)
        have hlen : l'.length = n := by have := hrel.length; omega
        have := run_loadCells_list (P := P) w ⟨i.cb, i.lo + o, none⟩ l' (fun j v hj => by
          have := hcell j v hj
          simp only [Addr.add]
          split
          · rename_i h0; subst h0; simpa using this
          · exact this)
        rw [hlen] at this
        simp [Instr.loadAt, Instr.sureAddr, loadVar, isAgg_run hg, sizeOf_run hn, this]
      · rename_i hgf
        have : g = false := by simpa using hgf
        subst this
        obtain ⟨v', hv', hrel⟩ := hR.ld hb h
        refine .of (c := v') ?_ hrel
        simp [Instr.loadAt, Instr.sureAddr, loadVar, isAgg_run hg, hv']
  · simp at h

theorem Heap.set_set (H : Heap) (b : Nat) (x y : Option Blk) : (H.set b x).set b y = H.set b y := by
  simp only [Heap.set]
  congr 1
  funext c
  split <;> simp_all

theorem Heap.set_same (H : Heap) (b : Nat) : H.set b (H.blk b) = H := by
  cases H with
  | mk n f =>
    simp only [Heap.set]
    congr 1
    funext c
    split <;> simp_all

theorem splice_cons {cs vs : List Value} {o : Nat} {v : Value} (h : o < cs.length) : splice cs o (v :: vs) = splice (cs.set o v) (o + 1) vs := by
  unfold splice
  rw [List.take_set, List.drop_set, List.take_succ_eq_append_getElem h, if_pos (by omega), List.set_append_right _ _ (by simp; omega)]
  simp [show o - min o cs.length = 0 from by omega, Nat.add_assoc, Nat.add_comm 1]

theorem store_run {a : Addr} {v u : Value} (hf : flat v = true) (hc : w.cell? a = some u) (hfr : w.frozen? a = false) : (store a v).run P w = .ok () (w.setCell a v) := by
  unfold store
  cases v <;> first | (simp [Ck.flat] at hf; done) | simp only [Sem.run, hc, hfr, Bool.false_eq_true, if_false]

theorem storeCells_ok {b : Nat} {i : Info} (hi : φ b = some i) : ∀ (vs vs' : List Value) (o0 j : Nat) (H H' : Heap) (w : World), Rel ng w0 φ H w → LRel φ vs vs' → vs.all flat = true →
    H.sts b (o0 + j) vs = some H' → ∃ w', (storeCells ⟨i.cb, i.lo + o0, none⟩ vs' j).run P w = .ok () w' ∧ Rel ng w0 φ H' w' := by
  intro vs
  induction vs with
  | nil =>
    intro vs' o0 j H H' w hR hl hfl h
    cases hl
    unfold Heap.sts at h
    split at h
    · rename_i e cs hb
      split at h
      · simp only [Option.some.injEq] at h
        refine ⟨w, by simp [storeCells], ?_⟩
        rw [← h]
        have : splice cs (o0 + j) [] = cs := by simp [splice]
        rw [this, ← hb, Heap.set_same]
        exact hR
      · simp at h
    · simp at h
  | cons v vs ih =>
    intro vs' o0 j H H' w hR hl hfl h
    simp only [List.all_cons, Bool.and_eq_true] at hfl
    cases hl with
    | cons hv hs =>
      rename_i v' vs'
      unfold Heap.sts at h
      split at h
      · rename_i e cs hb
        split at h
        · rename_i hc
          simp only [List.length_cons] at hc
          simp only [Option.some.injEq] at h
          have ho : o0 + j < cs.length := by omega
          obtain ⟨⟨u, hu⟩, hfr, hR'⟩ := hR.setCell hi hb ho hv hfl.1
          obtain ⟨w', hw', hR''⟩ := ih vs' o0 (j + 1) (H.set b (some (.cells e false (cs.set (o0 + j) v)))) H' _ hR' hs hfl.2 (by
            unfold Heap.sts
            simp only [Heap.set, if_true]
            rw [if_pos (by simp; omega), ← h]
            have := Heap.set_set H b (some (Blk.cells e false (cs.set (o0 + j) v))) (some (Blk.cells e false (splice (cs.set (o0 + j) v) (o0 + (j + 1)) vs)))
            simp only [Heap.set] at this ⊢
            rw [this, splice_cons ho]
            rfl)
          refine ⟨w', ?_, hR''⟩
          have hadd : (⟨i.cb, i.lo + o0, none⟩ : Addr).add j = ⟨i.cb, i.lo + (o0 + j), none⟩ := by
            simp only [Addr.add]
            split
            · rename_i h0; subst h0; rfl
            · simp [Nat.add_assoc]
          have hst := store_run (P := P) (w := w) (a := ⟨i.cb, i.lo + (o0 + j), none⟩) (v := v') (by rw [← hv.flat]; exact hfl.1) hu hfr
          simp only [storeCells, hadd, Sem.run_bind, hst, Result.andThen_ok, hw']
        · simp at h
      · simp at h

theorem Heap.sts_one {H H' : Heap} {b o : Nat} {v : Value} (h : H.st b o v = some H') : H.sts b o [v] = some H' ∧ flat v = true := by
  unfold Heap.st at h
  unfold Heap.sts
  split at h
  · split at h
    · rename_i hc
      refine ⟨?_, hc.2⟩
      rw [if_pos (by simp; omega), ← h]
      congr 3
      simp [splice]
      rw [List.set_eq_take_append_cons_drop, if_pos hc.1]
    · simp at h
  · simp at h

theorem Heap.sts_set {H H' : Heap} {b o : Nat} {vs : List Value} (h : H.sts b o vs = some H') : ∃ x, H' = H.set b x := by
  unfold Heap.sts at h
  split at h
  · split at h
    · simp only [Option.some.injEq] at h
      exact ⟨_, h.symm⟩
    · simp at h
  · simp at h

theorem st_ok {t : TypeId} {n : Nat} {a a' x x' : Value} {H' : Heap} (hR : Rel ng w0 φ H w) (ha : VRel φ a a') (hx : VRel φ x x') (hn : sz P t = some n)
    (h : stV n a x H = some H') : ∃ w', (Instr.storeAt t a' x').run P w = .ok () w' ∧ Rel ng w0 φ H' w' ∧ ∃ b i y, φ b = some i ∧ H' = H.set b y := by
  unfold stV at h
  split at h
  · rename_i b o
    cases ha with
    | ptr hb =>
      rename_i i
      have key : x.cells.size = n ∧ H.sts b o x.cells.toList = some H' ∧ x.cells.toList.all flat = true := by
        split at h
        · split at h
          · rename_i hc; exact ⟨hc.1, h, hc.2⟩
          · simp at h
        · rename_i hna
          split at h
          · rename_i h1
            have hc : x.cells = #[x] := by
              cases x <;> first | rfl | exact absurd rfl (hna _)
            rw [hc]
            have := Heap.sts_one h
            exact ⟨h1.symm, this.1, by simp [this.2]⟩
          · simp at h
      obtain ⟨k1, k2, k3⟩ := key
      have hl := hx.cells
      obtain ⟨w', hw', hR'⟩ := storeCells_ok (P := P) hb _ _ o 0 H H' w hR hl k3 k2
      refine ⟨w', ?_, hR', by obtain ⟨y, hy⟩ := Heap.sts_set k2; exact ⟨_, _, y, hb, hy⟩⟩
      have hsz : x'.cells.size = n := by have := hl.length; simp at this; omega
      simp [Instr.storeAt, Instr.sureAddr, storeVar, sizeOf_run hn, hsz, hw']
  · simp at h

/-! ### New blocks -/

theorem BRel.cells {N cb e : Nat} {cs : List Value} {ds rest : List Value} {t : TypeId} (h : LRel φ cs ds) (hf : cs.all flat = true) (hN : N ≤ cb) :
    BRel φ N (.cells e false cs) ⟨cb, 0, (ds ++ rest).length, e⟩ (.cells (ds ++ rest).toArray t) := by
  have := h.length
  refine ⟨rfl, by simp; omega, by simp, ?_, hf, fun _ => ⟨hN, Or.inl rfl⟩⟩
  simp only [List.drop_zero]
  rw [this, List.take_left]
  exact h

/-- A new row of cells. -/
theorem newRow_run {cs : Array Value} {t : TypeId} : (newRow t cs).run P w = .ok ⟨w.heap.size, 0, none⟩ (w.alloc (.cells cs t)) := by simp [newRow]

/-- What the machine keeps: blocks that stand for nothing. -/
def Keep (φ ψ : Inj) (H H' : Heap) : Prop := H.next ≤ H'.next ∧ ∀ b, b < H.next → φ b = none → ψ b = none ∧ H'.blk b = H.blk b

theorem Keep.refl (φ : Inj) (H : Heap) : Keep φ φ H H := ⟨Nat.le_refl _, fun _ _ h => ⟨h, rfl⟩⟩

theorem Keep.trans {φ ψ χ : Inj} {H H' H'' : Heap} (h : Keep φ ψ H H') (h' : Keep ψ χ H' H'') : Keep φ χ H H'' :=
  ⟨Nat.le_trans h.1 h'.1, fun b hb hφ => by
    obtain ⟨h1, h2⟩ := h.2 b hb hφ
    obtain ⟨h3, h4⟩ := h'.2 b (Nat.lt_of_lt_of_le hb h.1) h1
    exact ⟨h3, h4.trans h2⟩⟩

theorem Keep.set {b : Nat} {i : Info} {x : Option Blk} (hi : φ b = some i) : Keep φ φ H (H.set b x) :=
  ⟨Nat.le_refl _, fun c _ hc => ⟨hc, by
    simp only [Heap.set]
    rw [if_neg]
    rintro rfl
    rw [hi] at hc; simp at hc⟩⟩

theorem Keep.new {x : Blk} {i : Info} : Keep φ (φ.put H.next i) H (H.new x) :=
  ⟨Nat.le_succ _, fun c hc h => ⟨by simp only [Inj.put]; rw [if_neg (by omega)]; exact h, by simp only [Heap.new]; rw [if_neg (by omega)]⟩⟩

theorem VRel.put_ptr {b : Nat} {i : Info} (h : i.lo = 0) : VRel (φ.put b i) (.pointer (some ⟨b, 0, none⟩)) (.pointer (some ⟨i.cb, 0, none⟩)) := by
  have := VRel.ptr (φ := φ.put b i) (b := b) (o := 0) (i := i) (by simp [Inj.put])
  simpa [h] using this

/-- 'It runs to a value that stands for v, the heap is then H'. -/
def Makes (P : Program) (ng : Nat) (w0 : World) (φ : Inj) (w : World) (s : Sem Value) (v : Value) (H H' : Heap) : Prop :=
  ∃ c w' ψ, s.run P w = .ok c w' ∧ Inj.le φ ψ ∧ VRel ψ v c ∧ Rel ng w0 ψ H' w' ∧ Keep φ ψ H H'

/-- 'It makes a block: in the machine b, which then is x; its value stands for v'. -/
def Made (P : Program) (N : Nat) (φ : Inj) (w : World) (s : Sem Value) (v : Value) (b : Nat) (x : Blk) : Prop :=
  ∃ c o i, s.run P w = .ok c (w.alloc o) ∧ i.cb = w.heap.size ∧ BRel φ N x i o ∧ ∀ ψ : Inj, ψ b = some i → VRel ψ v c

theorem atoms_flat {l : List Value} (h : l.all okAtom = true) : l.all flat = true := by
  rw [List.all_eq_true] at h ⊢
  intro x hx
  have := h x hx
  cases x <;> first | rfl | simp [okAtom] at this

theorem zero_some {t : TypeId} {n : Nat} {z : List Value} (hn : sz P t = some n) (hz : zero P t = some z) (w : World) :
    ∃ v, (zeroValue t).run P w = .ok v w ∧ v.cells.toList = z ∧ z.length = n ∧ LRel φ z z ∧ z.all flat = true := by
  unfold zero at hz
  simp only [Option.bind_eq_some_iff] at hz
  obtain ⟨ti, hti, v, hv, hz⟩ := hz
  split at hz
  · rename_i hc
    simp only [Option.some.injEq] at hz
    subst hz
    have hsz : ti.size = n := by
      simp only [sz, hti, Option.map_some, Option.some.injEq] at hn
      exact hn
    exact ⟨v, by simp [zeroValue, typeInfo, hti, hv], rfl, by simp; omega, LRel.atoms hc.2, atoms_flat hc.2⟩
  · simp at hz

theorem ptr_of {ψ : Inj} {b : Nat} {i : Info} (h : ψ b = some i) (hlo : i.lo = 0) : VRel ψ (.pointer (some ⟨b, 0, none⟩)) (.pointer (some ⟨i.cb, 0, none⟩)) := by
  have := VRel.ptr (φ := ψ) (b := b) (o := 0) (i := i) h
  simpa [hlo] using this

theorem slice_of {ψ : Inj} {b n : Nat} {i : Info} (h : ψ b = some i) (hlo : i.lo = 0) (hhi : n * i.sz ≤ i.hi) : VRel ψ (.slice (some ⟨b, 0, none⟩) n n) (.slice (some ⟨i.cb, 0, none⟩) n n) :=
  VRel.slice (φ := ψ) (b := b) (o := 0) (n := n) (c := n) (cc := n) (i := i) (ca := ⟨i.cb, 0, none⟩) h (Nat.le_refl _) (fun _ => rfl) (fun _ => ⟨by rw [hlo], by rw [hlo]; omega⟩)

theorem alloc_ok {t : TypeId} {n : Nat} {z : List Value} {N : Nat} (hN : N ≤ w.heap.size) (hn : sz P t = some n) (hz : zero P t = some z) (b : Nat) :
    Made P N φ w (Instr.alloc t true (.tuple #[])) (.pointer (some ⟨b, 0, none⟩)) b (.cells n false z) := by
  obtain ⟨v, hv, hc, _, hl, hf⟩ := zero_some (φ := φ) hn hz w
  refine ⟨.pointer (some ⟨w.heap.size, 0, none⟩), .cells (z ++ []).toArray t, ⟨w.heap.size, 0, (z ++ []).length, n⟩, ?_, rfl, BRel.cells hl hf hN, fun ψ hψ => ptr_of hψ rfl⟩
  have : v.cells = (z ++ []).toArray := by rw [← hc]; simp
  simp only [Instr.alloc, Sem.run_bind, hv, Result.andThen_ok, newVar, newRow_run, this, Sem.run_pure]

theorem box_ok {t : TypeId} {n : Nat} {x x' v : Value} {b : Nat} {y : Blk} {N : Nat} (hN : N ≤ w.heap.size) (hx : VRel φ x x') (h : boxV n x b = some (v, y)) :
    Made P N φ w (Instr.box t x') v b y := by
  unfold boxV at h
  split at h
  · rename_i hc
    simp only [Option.some.injEq, Prod.mk.injEq] at h
    obtain ⟨rfl, rfl⟩ := h
    have hb := BRel.cells (φ := φ) (N := N) (cb := w.heap.size) (e := n) (rest := []) (t := t) hx.cells hc.2 hN
    rw [List.append_nil] at hb
    refine ⟨.pointer (some ⟨w.heap.size, 0, none⟩), .cells x'.cells t, ⟨w.heap.size, 0, x'.cells.toList.length, n⟩, ?_, rfl, by simpa using hb, fun ψ hψ => ptr_of hψ rfl⟩
    simp only [Instr.box, Sem.run_bind, newVar, newRow_run, Result.andThen_ok, Sem.run_pure]
  · simp at h

theorem range_mod {α : Type} [Inhabited α] (z : Array α) (hz : 0 < z.size) (n : Nat) :
    ((Array.range (n * z.size)).map (fun i => z[i % z.size]!)).toList = (List.replicate n z.toList).flatten := by
  induction n with
  | zero => simp
  | succ n ih =>
    rw [List.replicate_succ', List.flatten_append, ← ih]
    simp only [Array.toList_map, Array.toList_range]
    rw [Nat.succ_mul, List.range_add, List.map_append]
    congr 1
    simp only [List.map_map, List.flatten_cons, List.flatten_nil, List.append_nil]
    apply List.ext_getElem
    · simp
    · intro k h1 h2
      simp at h1 h2
      simp [Nat.mul_add_mod, Nat.mod_eq_of_lt h2, h2]

end
end Ck

/-
Slices, strings, maps: what the abstract machine says, the model does.
-/
set_option linter.unusedSimpArgs false
set_option linter.unusedVariables false
namespace Ck
open Go

section
variable {P : Program} {ng : Nat} {w0 : World} {φ : Inj} {H : Heap} {w : World}

/-- Bounds that are there, or not. -/
def ORel (φ : Inj) : Option Value → Option Value → Prop
  | none, none => True
  | some x, some y => VRel φ x y
  | _, _ => False

theorem sliceBound_ok {x x' : Value} {n y : Nat} {c : BoundsCode} (hx : VRel φ x x') (h : natOf x = some n) (hle : n ≤ y) : (Instr.sliceBound x' y c).run P w = .ok n w := by
  obtain ⟨k, m, rfl, hm0, rfl⟩ := natOf_some hx h
  have : m ≤ (y : Int) := by omega
  simp [Instr.sliceBound, asIntOf, hm0, this]

theorem bounds_ok {b : Bool} {len cap n l h : Nat} {lo hi lo' hi' : Option Value} (hlo : ORel φ lo lo') (hhi : ORel φ hi hi')
    (h1 : (hi.map natOf).getD (some n) = some h) (h2 : (lo.map natOf).getD (some 0) = some l) (hn : n = len) (hlh : l ≤ h) (hhn : h ≤ len) (hcap : len ≤ cap) :
    (Instr.sliceBounds b len cap lo' hi' none).run P w = .ok (l, h, cap) w := by
  subst hn
  have H1 : ∀ y c, hi' = some y → (Instr.sliceBound y cap c).run P w = .ok h w := by
    intro y c hy
    subst hy
    cases hi with
    | none => simp [ORel] at hhi
    | some x => simp at h1; exact sliceBound_ok hhi h1 (by omega)
  have H2 : ∀ y c, lo' = some y → (Instr.sliceBound y h c).run P w = .ok l w := by
    intro y c hy
    subst hy
    cases lo with
    | none => simp [ORel] at hlo
    | some x => simp at h2; exact sliceBound_ok hlo h2 hlh
  have H3 : hi' = none → n = h := by
    intro hy
    subst hy
    cases hi with
    | none => simpa using h1
    | some x => simp [ORel] at hhi
  have H4 : lo' = none → l = 0 := by
    intro hy
    subst hy
    cases lo with
    | none => simp at h2; exact h2.symm
    | some x => simp [ORel] at hlo
  unfold Instr.sliceBounds
  cases hi' with
  | none =>
    have := H3 rfl
    subst this
    cases lo' with
    | none => have := H4 rfl; subst this; simp
    | some y => simp [H2 y _ rfl]
  | some z =>
    cases lo' with
    | none => have := H4 rfl; subst this; simp [H1 z _ rfl]
    | some y => simp [H1 z _ rfl, H2 y _ rfl]

theorem slice_ok {t e : TypeId} {n : Nat} {x x' v : Value} {lo hi lo' hi' : Option Value} (hR : Rel ng w0 φ H w) (hx : VRel φ x x') (hlo : ORel φ lo lo') (hhi : ORel φ hi hi')
    (ht : P.underlying t = some (.slice e)) (hn : sz P e = some n) (h : sliceV n x lo hi H = some v) : Gives P φ w (Instr.sliceAt t x' lo' hi' none) v := by
  unfold sliceV at h
  split at h
  · rename_i a m c
    simp only [Option.bind_eq_some_iff] at h
    obtain ⟨hh, h1, l, h2, h⟩ := h
    split at h
    · rename_i hc
      cases hx with
      | nilslice =>
        simp only [Option.some.injEq] at h
        subst h
        have hb := bounds_ok (P := P) (w := w) (b := true) (len := 0) (cap := 0) hlo hhi h1 h2 rfl hc.1 hc.2 (Nat.le_refl _)
        refine .of (c := .slice none 0 0) ?_ .nilslice
        have : hh = 0 := by omega
        subst this
        have : l = 0 := by omega
        subst this
        simp [Instr.sliceAt, Instr.slice, underlying, ht, hb, sizeOf_run hn]
      | slice hb hle hxx ha =>
        rename_i b o cc i ca
        simp only at h
        split at h
        · rename_i e' ro cs hblk
          split at h
          · rename_i he
            simp only [Option.some.injEq] at h
            subst h
            have hbd := bounds_ok (P := P) (w := w) (b := true) (len := m) (cap := cc) hlo hhi h1 h2 rfl hc.1 hc.2 hle
            obtain ⟨ob, hob, hbr⟩ := hR.blk _ _ _ hblk hb
            have hsz : i.sz = n := by
              cases ob <;> simp only [BRel] at hbr
              exact hbr.1.trans he
            refine .of (c := .slice (some (if cc = l then ca else ca.add (l * n))) (hh - l) (cc - l)) ?_ ?_
            · simp [Instr.sliceAt, Instr.slice, underlying, ht, hbd, sizeOf_run hn]
              split <;> rfl
            · refine .slice hb (by omega) ?_ ?_
              · intro hex
                split at hex
                · rename_i hcn
                  have := hxx hcn.1
                  omega
                · omega
              · intro hpos
                have hcc : 0 < cc := by omega
                obtain ⟨rfl, hcap⟩ := ha hcc
                rw [if_neg (by omega)]
                refine ⟨?_, ?_⟩
                · simp only [Addr.add]
                  split
                  · rename_i h0; rw [h0]; simp
                  · simp [Nat.add_assoc]
                · rw [hsz] at hcap ⊢
                  have e1 : l * n + (cc - l) * n = cc * n := by rw [← Nat.add_mul]; congr 1; omega
                  have e2 : i.lo + (o + l * n) + (cc - l) * n = i.lo + o + (l * n + (cc - l) * n) := by omega
                  rw [e2, e1]
                  exact hcap
          · simp at h
        · simp at h
    · simp at h
  · simp at h

theorem sslice_ok {t : TypeId} {x x' v : Value} {lo hi lo' hi' : Option Value} (hx : VRel φ x x') (hlo : ORel φ lo lo') (hhi : ORel φ hi hi')
    (ht : P.underlying t = some .string) (h : ssliceV x lo hi = some v) : Gives P φ w (Instr.sliceAt t x' lo' hi' none) v := by
  unfold ssliceV at h
  split at h
  · rename_i s
    simp only [Option.bind_eq_some_iff] at h
    obtain ⟨hh, h1, l, h2, h⟩ := h
    split at h
    · rename_i hc
      simp only [Option.some.injEq] at h
      subst h
      cases hx
      have hb := bounds_ok (P := P) (w := w) (b := false) (len := s.size) (cap := s.size) hlo hhi h1 h2 rfl hc.1 hc.2 (Nat.le_refl _)
      exact .of (by simp [Instr.sliceAt, Instr.slice, underlying, ht, hb]) (.string _)
    · simp at h
  · simp at h

theorem lenN_ok {x x' : Value} {m : Nat} (hx : VRel φ x x') (h : lenN x = some m) : (Builtin.lenOf x').run P w = .ok m w := by
  unfold lenN at h
  split at h
  · simp only [Option.some.injEq] at h
    subst h
    cases hx <;> simp [Builtin.lenOf]
  · simp only [Option.some.injEq] at h
    subst h
    cases hx
    simp [Builtin.lenOf]
  · simp at h

/-- The cells of the first so many elements. -/
theorem cells_ok {esz n : Nat} {x x' : Value} {l : List Value} (hR : Rel ng w0 φ H w) (hx : VRel φ x x') (h : cellsV esz n x H = some l) :
    ∃ l', (Builtin.firstCells esz n x').run P w = .ok l'.toArray w ∧ LRel φ l l' ∧ l.length = n * esz ∧ l.all flat = true := by
  unfold cellsV at h
  split at h
  · rename_i b o m c
    cases hx with
    | slice hb hle hxx ha =>
      rename_i cc i ca
      split at h
      · rename_i h0
        simp only [Option.some.injEq] at h
        subst h
        subst h0
        refine ⟨[], ?_, .nil, by simp, rfl⟩
        have := run_loadCells_list (P := P) w ca [] (fun j v hj => by simp at hj)
        simpa [Builtin.firstCells] using this
      · split at h
        · rename_i h0 hnm
          have hcc : 0 < cc := by omega
          obtain ⟨rfl, _⟩ := ha hcc
          obtain ⟨l', hl, hf, hrel, hcell⟩ := hR.lds hb h
          refine ⟨l', ?_, hrel, hl, hf⟩
          have hlen : l'.length = n * esz := by have := hrel.length; omega
          have := run_loadCells_list (P := P) w ⟨i.cb, i.lo + o, none⟩ l' (fun j v hj => by
            have := hcell j v hj
            simp only [Addr.add]
            split
            · rename_i h0; subst h0; simpa using this
            · exact this)
          rw [hlen] at this
          simp [Builtin.firstCells, this]
        · simp at h
  · cases hx
    split at h
    · rename_i h0
      simp only [Option.some.injEq] at h
      subst h
      exact ⟨[], by simp [Builtin.firstCells], .nil, by simp [h0], rfl⟩
    · simp at h
  · rename_i s
    cases hx
    split at h
    · rename_i hc
      simp only [Option.some.injEq] at h
      subst h
      refine ⟨(s.data.toList.take n).map fun b => .int .u8 b.toNat, ?_, LRel.map _ _ _ fun _ _ => .int _ _, by simp [hc.2]; have := hc.1; simp only [ByteArray.size] at *; omega, by rw [List.all_eq_true]; intro x hx; obtain ⟨b, _, rfl⟩ := List.mem_map.1 hx; rfl⟩
      simp only [Builtin.firstCells, Sem.run_pure, Result.ok.injEq, and_true]
      apply Array.ext'
      simp [ByteArray.data_extract]
    · simp at h
  · simp at h

theorem nextslicecap_le (need cap bytes : Nat) (h : need * (bytes + 1) ≤ 2 ^ 40) (hc : cap < need) : Builtin.nextslicecap need cap * bytes ≤ 2 ^ 48 := by
  have hg : ∀ r c, 256 ≤ c → c ≤ 2 * need → Builtin.growBy need r c ≤ 2 * need := by
    intro r
    induction r with
    | zero => intro c _ hc; exact hc
    | succ r ih =>
      intro c h0 hc
      unfold Builtin.growBy
      split
      · exact hc
      · exact ih _ (by omega) (by omega)
  have hn : Builtin.nextslicecap need cap ≤ 2 * need := by
    unfold Builtin.nextslicecap
    split
    · omega
    · split
      · omega
      · exact hg _ _ (by omega) (by omega)
  have h1 : need * bytes ≤ 2 ^ 40 := Nat.le_trans (Nat.mul_le_mul_left _ (by omega)) h
  calc Builtin.nextslicecap need cap * bytes ≤ (2 * need) * bytes := Nat.mul_le_mul_right _ hn
    _ = 2 * (need * bytes) := by rw [Nat.mul_assoc]
    _ ≤ 2 ^ 48 := by omega

end
end Ck

/-
append, copy, make, literals, strings of bytes, maps.
-/
set_option linter.unusedSimpArgs false
set_option linter.unusedVariables false
namespace Ck
open Go

section
variable {P : Program} {ng : Nat} {w0 : World} {φ : Inj} {H : Heap} {w : World}

theorem bytes_run {t : TypeId} {b : Nat} (h : bytesOfT P t = some b) (w : World) : ∃ ti, (typeInfo t).run P w = .ok ti w ∧ ti.bytes = b := by
  simp only [bytesOfT, Option.map_eq_some_iff] at h
  obtain ⟨ti, hti, htn⟩ := h
  exact ⟨ti, by simp [typeInfo, hti], htn⟩

theorem zerosV_length (z : List Value) (n : Nat) : (zerosV z n).length = n * z.length := by
  simp [zerosV]

theorem zeroCells_eq (v : Value) (z : List Value) (hz : v.cells.toList = z) (h0 : 0 < z.length) (n : Nat) : Builtin.zeroCells v.cells n = (zerosV z n).toArray := by
  subst hz
  apply Array.ext'
  have := range_mod v.cells (by simpa using h0) n
  simpa [Builtin.zeroCells, zerosV] using this

/-- A slice of the own memory that is written behind its end. -/
theorem Rel.retire {esz n c : Nat} {a : Option Addr} {H1 : Heap} (hR : Rel ng w0 φ H w) (h : H.retire esz a n c = some H1) : Rel ng w0 φ H1 w ∧ H1.next = H.next := by
  unfold Heap.retire at h
  split at h
  · simp only [Option.some.injEq] at h; subst h; exact ⟨hR, rfl⟩
  · split at h
    · simp only [Option.some.injEq] at h; subst h; exact ⟨hR, rfl⟩
    · split at h
      · split at h
        · simp only [Option.some.injEq] at h; subst h; exact ⟨hR.kill _, rfl⟩
        · simp at h
      · simp at h
  · simp at h

/-- A block that is known to be there. -/
theorem lds_blk {b o n : Nat} {l : List Value} (h : H.lds b o n = some l) : ∃ e ro cs, H.blk b = some (.cells e ro cs) ∧ o + n ≤ cs.length ∧ l = (cs.drop o).take n := by
  unfold Heap.lds at h
  split at h
  · rename_i e ro cs hb
    split at h
    · simp only [Option.some.injEq] at h
      exact ⟨e, ro, cs, hb, ‹_›, h.symm⟩
    · simp at h
  · simp at h

/-- Cells that no block owns are written, one behind the other. -/
theorem Rel.wilds {cb lo hi : Nat} (hN : w0.heap.size ≤ cb) {H : Heap} : ∀ (l : List Value) (a : Nat) (j : Nat) (w : World) (c : Array Value) (ty : TypeId) (fr : Nat × Nat),
    Rel ng w0 φ H w → w.heap[cb]? = some (.cells c ty fr) → lo ≤ a + j → a + j + l.length ≤ hi → hi ≤ c.size → (fr.1 = fr.2 ∨ c.size ≤ fr.1) → l.all flat = true →
    (∀ b x i, H.blk b = some x → φ b = some i → i.cb ≠ cb ∨ hi ≤ i.lo ∨ i.hi ≤ lo) →
    ∃ w' c', (storeCells ⟨cb, a, none⟩ l j).run P w = .ok () w' ∧ Rel ng w0 φ H w' ∧ w'.heap[cb]? = some (.cells c' ty fr) ∧ c'.size = c.size ∧
      c'.toList = splice c.toList (a + j) l := by
  intro l
  induction l with
  | nil =>
    intro a j w c ty fr hR hc _ _ _ _ _ _
    exact ⟨w, c, by simp [storeCells], hR, hc, rfl, by simp [splice]⟩
  | cons v l ih =>
    intro a j w c ty fr hR hc h1 h2 h3 hfr hfl hout
    simp only [List.length_cons] at h2
    simp only [List.all_cons, Bool.and_eq_true] at hfl
    have hadd : (⟨cb, a, none⟩ : Addr).add j = ⟨cb, a + j, none⟩ := by
      simp only [Addr.add]
      split
      · rename_i h0; subst h0; rfl
      · rfl
    have hlt : a + j < c.size := by omega
    have hcell : w.cell? ⟨cb, a + j, none⟩ = some c[a + j] := by simp [World.cell?, hc, hlt]
    have hfrz : w.frozen? ⟨cb, a + j, none⟩ = false := by
      obtain ⟨f1, f2⟩ := fr
      simp only [World.frozen?, hc]
      simp only at hfr
      simp; omega
    have hR' := hR.wild (cb := cb) (off := a + j) (v := v) hN (fun b x i hx hi => by
      rcases hout b x i hx hi with hh | hh | hh
      · exact .inl hh
      · exact .inr (.inl (by omega))
      · exact .inr (.inr (by omega)))
    have hc' : (w.setCell ⟨cb, a + j, none⟩ v).heap[cb]? = some (.cells (c.setIfInBounds (a + j) v) ty fr) := by
      rw [World.heap_setCell]; simp [hc]
    obtain ⟨w', c', g1, g2, g3, g4, g5⟩ := ih a (j + 1) _ _ ty fr hR' hc' (by omega) (by omega) (by simpa using h3) (by simpa using hfr) hfl.2 hout
    refine ⟨w', c', ?_, g2, g3, by simpa using g4, ?_⟩
    · have hst := store_run (P := P) (w := w) (a := ⟨cb, a + j, none⟩) (v := v) hfl.1 hcell hfrz
      simp only [storeCells, hadd, Sem.run_bind, hst, Result.andThen_ok, g1]
    · rw [g5, Array.toList_setIfInBounds, splice_cons (by simpa using hlt)]
      rfl

theorem splice_window {l vs : List Value} {a n : Nat} (h : a + n + vs.length ≤ l.length) : ((splice l (a + n) vs).drop a).take (n + vs.length) = ((l.drop a).take n) ++ vs := by
  unfold splice
  have e1 : (l.take (a + n) ++ vs ++ l.drop (a + n + vs.length)).drop a = (l.drop a).take n ++ (vs ++ l.drop (a + n + vs.length)) := by
    rw [List.append_assoc, List.drop_append_of_le_length (by simp; omega), List.drop_take]
    congr 2
    omega
  rw [e1, ← List.append_assoc, List.take_append_of_le_length (by simp; omega), List.take_of_length_le (by simp; omega)]

/-- In place: cells behind the end are laid; the machine's new block stands for the part that the elder slice owned. -/
theorem inplace_ok {esz n m cc b o : Nat} {i : Info} {cs old new new' : List Value} (hR : Rel ng w0 φ H w) (hi : φ b = some i) (hb : H.blk b = some (.cells esz false cs))
    (hcap : i.lo + o + cc * esz ≤ i.hi) (hold : cellsV esz n (.slice (some ⟨b, o, none⟩) n (n + 1)) H = some old)
    (hnew : LRel φ new new') (hnl : new.length = m * esz) (hnf : new.all flat = true) (hfit : n + m ≤ cc) :
    ∃ w', (storeCells ((⟨i.cb, i.lo + o, none⟩ : Addr).add (n * esz)) new').run P w = .ok () w' ∧
      Rel ng w0 (φ.put H.next ⟨i.cb, i.lo + o, i.lo + o + cc * esz, esz⟩) ((H.set b none).new (.cells esz false (old ++ new))) w' := by
  obtain ⟨ob, hob, hbr⟩ := hR.blk _ _ _ hb hi
  cases ob <;> simp only [BRel] at hbr
  rename_i C ty fr
  obtain ⟨h1, h2, h3, h4, h5, h6⟩ := hbr
  obtain ⟨hN, hfr⟩ := h6 trivial
  have hmul : (n + m) * esz ≤ cc * esz := Nat.mul_le_mul_right _ hfit
  rw [Nat.add_mul] at hmul
  have hadd : (⟨i.cb, i.lo + o, none⟩ : Addr).add (n * esz) = ⟨i.cb, i.lo + o + n * esz, none⟩ := by
    simp only [Addr.add]
    split
    · rename_i h0; rw [h0]; rfl
    · rfl
  have hnl' : new'.length = m * esz := by have := hnew.length; omega
  have hnf' : new'.all flat = true := by
    rw [List.all_eq_true] at hnf ⊢
    intro y hy
    obtain ⟨k, hk⟩ := List.getElem?_of_mem hy
    have hlt : k < new.length := by
      rcases Nat.lt_or_ge k new.length with hh | hh
      · exact hh
      · rw [List.getElem?_eq_none (by omega)] at hk; simp at hk
    obtain ⟨y', hy', hv⟩ := hnew.get (List.getElem?_eq_getElem hlt)
    rw [hk] at hy'
    simp only [Option.some.injEq] at hy'
    subst hy'
    rw [← hv.flat]
    exact hnf _ (List.getElem_mem hlt)
  have hapart : ∀ b' x i', (H.set b none).blk b' = some x → φ b' = some i' → i'.cb ≠ i.cb ∨ i.lo + o + cc * esz ≤ i'.lo ∨ i'.hi ≤ i.lo + o := by
    intro b' x i' hx hi'
    simp only [Heap.set] at hx
    split at hx
    · simp at hx
    · rename_i hne
      rcases hR.apart b b' _ _ _ _ (Ne.symm hne) hb hx hi hi' rfl with hh | hh | hh
      · exact .inl (Ne.symm hh)
      · exact .inr (.inl (by omega))
      · exact .inr (.inr (by omega))
  obtain ⟨w', c', g1, g2, g3, g4, g5⟩ := Rel.wilds (P := P) hN new' (i.lo + o + n * esz) 0 w C ty fr (hR.kill b) hob (by omega) (by omega) (by omega) hfr hnf' hapart
  rw [Nat.add_zero] at g5
  refine ⟨w', by rw [hadd]; exact g1, ?_⟩
  refine Rel.adopt g2 (i := ⟨i.cb, i.lo + o, i.lo + o + cc * esz, esz⟩) g3 ?_ hapart hR.fresh
  -- what stands there
  have hol : old.length = n * esz ∧ LRel φ old ((C.toList.drop (i.lo + o)).take (n * esz)) ∧ old.all flat = true := by
    unfold cellsV at hold
    simp only at hold
    split at hold
    · rename_i h0
      simp only [Option.some.injEq] at hold
      subst hold
      subst h0
      simp
      exact .nil
    · rw [if_pos (Nat.le_refl _)] at hold
      obtain ⟨e', ro', cs', q1, q2, q3⟩ := lds_blk hold
      rw [hb] at q1
      simp only [Option.some.injEq, Blk.cells.injEq] at q1
      obtain ⟨rfl, rfl, rfl⟩ := q1
      subst q3
      refine ⟨by simp; omega, ?_, ?_⟩
      · have := (h4.drop o).take (n * esz)
        have e : ((((C.toList.drop i.lo).take cs.length).drop o).take (n * esz)) = (C.toList.drop (i.lo + o)).take (n * esz) := by
          rw [List.drop_take, List.take_take, List.drop_drop]
          congr 1
          omega
        rw [e] at this
        exact this
      · rw [List.all_eq_true] at h5 ⊢
        exact fun x hx => h5 x (List.mem_of_mem_drop (List.mem_of_mem_take hx))
  obtain ⟨l1, l2, l3⟩ := hol
  simp only [BRel]
  refine ⟨trivial, by simp; omega, by omega, ?_, by simp [l3, hnf], fun _ => ⟨hN, by omega⟩⟩
  rw [g5, List.length_append, l1, hnl]
  have := splice_window (l := C.toList) (vs := new') (a := i.lo + o) (n := n * esz) (by simp; omega)
  rw [hnl'] at this
  rw [this]
  exact l2.append hnew

/-- Elsewhere: a new row. -/
theorem realloc_ok {t : TypeId} {esz n m cap : Nat} {old old' new new' rest : List Value} (hR : Rel ng w0 φ H w) (hold : LRel φ old old') (ho : old.length = n * esz) (hof : old.all flat = true)
    (hnew : LRel φ new new') (hnl : new.length = m * esz) (hnf : new.all flat = true) (hcap : n + m ≤ cap) (hrest : rest.length = (cap - (n + m)) * esz) :
    ∃ i w', (newRow t (old' ++ new' ++ rest).toArray).run P w = .ok ⟨i.cb, 0, none⟩ w' ∧ Rel ng w0 (φ.put H.next i) (H.new (.cells esz false (old ++ new))) w' ∧
      Inj.le φ (φ.put H.next i) ∧ VRel (φ.put H.next i) (.slice (some ⟨H.next, 0, none⟩) (n + m) (n + m + 1)) (.slice (some ⟨i.cb, 0, none⟩) (n + m) cap) := by
  have hb := BRel.cells (φ := φ) (N := w0.heap.size) (cb := w.heap.size) (e := esz) (rest := rest) (t := t) (hold.append hnew) (by simp [hof, hnf]) hR.size
  obtain ⟨h1, h2⟩ := hR.new (x := .cells esz false (old ++ new)) (o := .cells (old' ++ new' ++ rest).toArray t) (i := ⟨w.heap.size, 0, (old' ++ new' ++ rest).length, esz⟩) rfl hb
  refine ⟨⟨w.heap.size, 0, (old' ++ new' ++ rest).length, esz⟩, _, newRow_run, h1, h2, ?_⟩
  have := VRel.slice (φ := φ.put H.next ⟨w.heap.size, 0, (old' ++ new' ++ rest).length, esz⟩) (b := H.next) (o := 0) (n := n + m) (c := n + m + 1) (cc := cap)
    (i := ⟨w.heap.size, 0, (old' ++ new' ++ rest).length, esz⟩) (ca := ⟨w.heap.size, 0, none⟩) (by simp [Inj.put]) hcap (by omega)
    (fun _ => ⟨rfl, by
      have a1 := hold.length
      have a2 := hnew.length
      simp only [List.length_append, hrest, ← a1, ← a2, ho, hnl]
      have : n * esz + m * esz + (cap - (n + m)) * esz = cap * esz := by
        rw [← Nat.add_mul, ← Nat.add_mul]; congr 1; omega
      omega⟩)
  exact this

theorem retire_keep {esz n c : Nat} {a : Option Addr} {s' : Value} {H1 : Heap} (hs : VRel φ (.slice a n c) s') (h : H.retire esz a n c = some H1) : Keep φ φ H H1 := by
  unfold Heap.retire at h
  split at h
  · simp only [Option.some.injEq] at h; subst h; exact .refl _ _
  · split at h
    · simp only [Option.some.injEq] at h; subst h; exact .refl _ _
    · split at h
      · split at h
        · simp only [Option.some.injEq] at h
          subst h
          cases hs with
          | slice hb => exact .set hb
        · simp at h
      · simp at h
  · simp at h

end
end Ck

/-
append itself; copy, make, literals, strings of bytes, maps.
-/
set_option linter.unusedSimpArgs false
set_option linter.unusedVariables false
namespace Ck
open Go

section
variable {P : Program} {ng : Nat} {w0 : World} {φ : Inj} {H : Heap} {w : World}

theorem cap_cut (need old : Nat) (t : TypeId) (x : Nat) : need ≤ (Question.appendCap need old t).cut x := by
  simp only [Question.cut]; omega

theorem wrap64_small {x : Int} (h0 : 0 ≤ x) (h : x < 9223372036854775808) : IntKind.i64.wrap x = x := by
  have e : IntKind.i64.wrap x = (if x % 18446744073709551616 ≥ 9223372036854775808 then x % 18446744073709551616 - 18446744073709551616 else x % 18446744073709551616) := by
    simp [IntKind.wrap, IntKind.bits, IntKind.signed]
  rw [e]
  split <;> omega

/-- What append does behind its first looks. -/
def appendTail (e : TypeId) (esz n m cc : Nat) (base : Option Addr) (s' : Value) (zs : Bool) (app : Sem (Array Value)) : Sem Value :=
  if n + m ≤ cc then do
    let new ← app
    if let some a := base then storeCells (a.add (n * esz)) new.toList
    pure (.slice base (n + m) cc)
  else do
    let newCap ← choose (.appendCap (n + m) cc e)
    let old ← Builtin.firstCells esz n s'
    let new ← app
    let rest := Builtin.zeroCells (← zeroValue e).cells (newCap - (n + m))
    pure (.slice (some (← newRow e (old ++ new ++ rest))) (n + m) newCap)

theorem type_run {t : TypeId} {b : Nat} (h : bytesOfT P t = some b) : ∃ ti : TypeInfo, (∀ W, (typeInfo t).run P W = .ok ti W) ∧ ti.bytes = b := by
  simp only [bytesOfT, Option.map_eq_some_iff] at h
  obtain ⟨ti, hti, htn⟩ := h
  exact ⟨ti, fun W => by simp [typeInfo, hti], htn⟩

theorem append_run {ts : Array TypeId} {st xt e ty : TypeId} {d : TypeDesc} {esz by' n m cc : Nat} {base : Option Addr} {x' : Value}
    (h0 : ts[0]? = some st) (hst : P.underlying st = some (.slice e)) (hn : sz P e = some esz) (hb : bytesOfT P e = some by') (h1 : ts[1]? = some xt)
    (hxt : P.underlying xt = some d) (hd : (∃ u, d = .slice u) ∨ d = .string) (hlen : ∀ W, (Builtin.lenOf x').run P W = .ok m W) (hbound : (n + m) * (by' + 1) ≤ 2 ^ 40) :
    (Builtin.append_ ts ty #[.slice base n cc, x']).run P w = (appendTail e esz n m cc base (.slice base n cc) false (Builtin.firstCells esz m x')).run P w := by
  obtain ⟨ti, hti, hby⟩ := type_run hb
  have hu : ∀ W, (underlying st).run P W = .ok (.slice e) W := fun W => by simp [underlying, hst]
  have hu2 : ∀ W, (underlying xt).run P W = .ok d W := fun W => by simp [underlying, hxt]
  have hmax : (((n + m : Nat) : Int) > IntKind.i64.max) = False := by
    refine eq_false ?_
    have : IntKind.i64.max = 9223372036854775807 := by decide
    have h2 : n + m ≤ (n + m) * (by' + 1) := Nat.le_mul_of_pos_right _ (by omega)
    rw [this]; omega
  unfold appendTail
  by_cases hc : n + m ≤ cc
  · rcases hd with ⟨u, rfl⟩ | rfl
    all_goals
      unfold Builtin.append_
      simp [h0, h1, hu, hu2, sizeOf_run hn, hlen, hc]
      try (cases base <;> simp)
  · have hnc : ¬ (Builtin.nextslicecap (n + m) cc * ti.bytes > 2 ^ 48) := by
      have := nextslicecap_le (n + m) cc by' hbound (by omega)
      rw [hby]; omega
    rcases hd with ⟨u, rfl⟩ | rfl
    all_goals
      unfold Builtin.append_
      simp only [h0, h1, List.getElem?_toArray, List.getElem?_cons_zero, List.getElem?_cons_succ, Sem.run_bind, hu, hu2, Result.andThen_ok, sizeOf_run hn, Sem.run_pure, Bool.false_eq_true, if_false, hlen, if_neg hc, hti, hmax, false_and, hnc,
        run_askRoom, Bool.not_false, if_true]


theorem appendz_run {ts : Array TypeId} {st xt e ty : TypeId} {k : IntKind} {esz by' n m cc : Nat} {base : Option Addr} {x' : Value} {kx : IntKind} {mx : Int}
    (h0 : ts[0]? = some st) (hst : P.underlying st = some (.slice e)) (hn : sz P e = some esz) (hb : bytesOfT P e = some by') (h1 : ts[1]? = some xt)
    (hxt : P.underlying xt = some (.int k)) (hx : x' = .int kx mx) (hm0 : 0 ≤ mx) (hmm : mx.toNat = m) (hbound : (n + m) * (by' + 1) ≤ 2 ^ 40) :
    (Builtin.append_ ts ty #[.slice base n cc, x']).run P w =
      (appendTail e esz n m cc base (.slice base n cc) true (if m * esz = 0 then pure #[] else do pure (Builtin.zeroCells (← zeroValue e).cells m))).run P w := by
  subst hx
  obtain ⟨ti, hti, hby⟩ := type_run hb
  have hu : ∀ W, (underlying st).run P W = .ok (.slice e) W := fun W => by simp [underlying, hst]
  have hu2 : ∀ W, (underlying xt).run P W = .ok (.int k) W := fun W => by simp [underlying, hxt]
  have h2 : n + m ≤ (n + m) * (by' + 1) := Nat.le_mul_of_pos_right _ (by omega)
  have h3 : m * by' ≤ (n + m) * (by' + 1) := Nat.mul_le_mul (by omega) (by omega)
  have hmax : (((n + m : Nat) : Int) > IntKind.i64.max) = False := by
    refine eq_false ?_
    have : IntKind.i64.max = 9223372036854775807 := by decide
    rw [this]; omega
  have hwrap : IntKind.i64.wrap mx = mx := by
    exact wrap64_small hm0 (by omega)
  have hasInt : ∀ W, (asInt (.int kx mx)).run P W = .ok mx W := fun W => by simp [asInt, asIntOf]
  have hneg : (mx < 0) = False := eq_false (by omega)
  have hbig : (mx * (ti.bytes : Int) > 2 ^ 48) = False := by
    refine eq_false ?_
    have e1 : mx = (m : Int) := by omega
    rw [hby, e1, ← Int.natCast_mul]
    omega
  unfold appendTail
  by_cases hc : n + m ≤ cc
  · unfold Builtin.append_
    simp only [h0, h1, List.getElem?_toArray, List.getElem?_cons_zero, List.getElem?_cons_succ, Sem.run_bind, hu, hu2, Result.andThen_ok, sizeOf_run hn, Sem.run_pure, if_true, hasInt, hwrap, hneg, if_false, hti, hbig, hmm, if_pos hc, Bool.not_true, Bool.false_eq_true]
    cases base <;> simp
  · have hnc : ¬ (Builtin.nextslicecap (n + m) cc * ti.bytes > 2 ^ 48) := by
      have := nextslicecap_le (n + m) cc by' hbound (by omega)
      rw [hby]; omega
    unfold Builtin.append_
    simp only [h0, h1, List.getElem?_toArray, List.getElem?_cons_zero, List.getElem?_cons_succ, Sem.run_bind, hu, hu2, Result.andThen_ok, sizeOf_run hn, Sem.run_pure, if_true, hasInt, hwrap, hneg, if_false, hti, hbig, hmm, if_neg hc, Bool.not_true, Bool.false_eq_true, hmax, false_and, hnc, run_askRoom]

/-- The tail, in both arms. -/
theorem tail_ok {e : TypeId} {esz by' m : Nat} {z : List Value} {n c cc : Nat} {a base : Option Addr} {v : Value} {H' : Heap} {new : List Value} {zs : Bool} {app : Sem (Array Value)}
    (hR : Rel ng w0 φ H w) (hs : VRel φ (.slice a n c) (.slice base n cc)) (hn : sz P e = some esz) (hz : zero P e = some z) (hn0 : esz ≠ 0) (hm : new.length = m * esz) (hnf : new.all flat = true)
    (hm0 : m ≠ 0) (happ : ∀ W, Rel ng w0 φ H W → ∃ new', app.run P W = .ok new'.toArray W ∧ LRel φ new new')
    (h : pushV esz by' (.slice a n c) m new H = some (v, H')) :
    Makes P ng w0 φ w (appendTail e esz n m cc base (.slice base n cc) zs app) v H H' := by
  simp only [pushV, if_neg hm0] at h
  split at h
  · rename_i hbound
    simp only [Option.bind_eq_some_iff, Option.some.injEq, Prod.mk.injEq] at h
    obtain ⟨old, hold, H1, hret, rfl, rfl⟩ := h
    unfold appendTail
    by_cases hc : n + m ≤ cc
    · rw [if_pos hc]
      obtain ⟨new', happ', hnew⟩ := happ w hR
      cases hs with
      | nilslice => omega
      | slice hb hle hx ha =>
        rename_i b o i ca
        have hcn : c ≠ n := fun hh => by have := hx hh; omega
        unfold Heap.retire at hret
        simp only [if_neg hcn] at hret
        split at hret
        · rename_i e' cs hblk
          split at hret
          · rename_i he
            subst he
            simp only [Option.some.injEq] at hret
            subst hret
            obtain ⟨rfl, hcap⟩ := ha (by omega)
            obtain ⟨ob, hob, hbr⟩ := hR.blk _ _ _ hblk hb
            have hsz : i.sz = e' := by cases ob <;> simp only [BRel] at hbr; exact hbr.1
            rw [hsz] at hcap
            have hold' : cellsV e' n (.slice (some ⟨b, o, none⟩) n (n + 1)) H = some old := hold
            obtain ⟨w', h1, h2⟩ := inplace_ok (P := P) hR hb hblk hcap hold' hnew hm hnf hc
            refine ⟨.slice (some ⟨i.cb, i.lo + o, none⟩) (n + m) cc, w', _, ?_, Inj.le_put hR.fresh, ?_, h2, (Keep.set hb).trans .new⟩
            · simp only [Sem.run_bind, happ', Result.andThen_ok, h1, Sem.run_pure]
            · have := VRel.slice (φ := φ.put H.next ⟨i.cb, i.lo + o, i.lo + o + cc * e', e'⟩) (b := H.next) (o := 0) (n := n + m) (c := n + m + 1) (cc := cc)
                (i := ⟨i.cb, i.lo + o, i.lo + o + cc * e', e'⟩) (ca := ⟨i.cb, i.lo + o, none⟩) (by simp [Inj.put]) hc (by omega) (fun _ => ⟨rfl, by simp⟩)
              exact this
          · simp at hret
        · simp at hret
    · rw [if_neg hc]
      obtain ⟨hR1, hnext⟩ := hR.retire hret
      obtain ⟨old', ho1, ho2, ho3, ho4⟩ := cells_ok (P := P) hR.drew hs hold
      obtain ⟨new', happ', hnew⟩ := happ w.drew hR.drew
      obtain ⟨zv, hzv, hzc, hzl, hzr, hzf⟩ := zero_some (φ := φ) hn hz w.drew
      have hcut := cap_cut (n + m) cc e (w.tape w.drawn (.appendCap (n + m) cc e))
      obtain ⟨i, w', g1, g2, g3, g4⟩ := realloc_ok (P := P) (t := e) (rest := zerosV z ((Question.appendCap (n + m) cc e).cut (w.tape w.drawn (.appendCap (n + m) cc e)) - (n + m)))
        hR1.drew ho2 ho3 ho4 hnew hm hnf hcut (by rw [zerosV_length, hzl])
      refine ⟨_, w', _, ?_, g3, g4, g2, (retire_keep hs hret).trans .new⟩
      have hzz := zeroCells_eq zv z hzc (by omega)
      simp only [Sem.run_bind, run_choose, Question.forced, Bool.false_eq_true, if_false, Result.andThen_ok, World.drew_eq, ho1, happ', hzv, hzz, Sem.run_pure]
      have e1 : old'.toArray ++ new'.toArray ++ (zerosV z ((Question.appendCap (n + m) cc e).cut (w.tape w.drawn (.appendCap (n + m) cc e)) - (n + m))).toArray =
          (old' ++ new' ++ zerosV z ((Question.appendCap (n + m) cc e).cut (w.tape w.drawn (.appendCap (n + m) cc e)) - (n + m))).toArray := by simp
      rw [e1, g1]
      rfl
  · simp at h


theorem VRel.is_slice {a : Option Addr} {n c : Nat} {s' : Value} (h : VRel φ (.slice a n c) s') : ∃ base cc, s' = .slice base n cc ∧ n ≤ cc ∧ (a = none → base = none) := by
  cases h with
  | nilslice => exact ⟨_, _, rfl, Nat.le_refl _, fun h => h⟩
  | slice h hn hx ha => exact ⟨_, _, rfl, hn, fun h => by simp at h⟩

theorem Makes.refl {s : Sem Value} {v c : Value} (hR : Rel ng w0 φ H w) (h : s.run P w = .ok c w) (hv : VRel φ v c) : Makes P ng w0 φ w s v H H :=
  ⟨c, w, φ, h, Inj.le.refl _, hv, hR, .refl _ _⟩

theorem append_ok {ts : Array TypeId} {st xt e ty : TypeId} {d : TypeDesc} {esz by' : Nat} {z : List Value} {s s' x x' v : Value} {H' : Heap}
    (hR : Rel ng w0 φ H w) (hs : VRel φ s s') (hx : VRel φ x x') (h0 : ts[0]? = some st) (hst : P.underlying st = some (.slice e)) (hn : sz P e = some esz)
    (hb : bytesOfT P e = some by') (hz : zero P e = some z) (hn0 : esz ≠ 0) (h1 : ts[1]? = some xt) (hxt : P.underlying xt = some d) (hd : (∃ u, d = .slice u) ∨ d = .string)
    (h : appendV esz by' s x H = some (v, H')) : Makes P ng w0 φ w (Builtin.append_ ts ty #[s', x']) v H H' := by
  unfold appendV at h
  simp only [Option.bind_eq_some_iff] at h
  obtain ⟨m, hm, new, hnew, h⟩ := h
  have hlen : ∀ W, (Builtin.lenOf x').run P W = .ok m W := fun W => lenN_ok hx hm
  have h' := h
  unfold pushV at h'
  split at h'
  · rename_i a n c
    obtain ⟨base, cc, rfl, hle, hnil⟩ := hs.is_slice
    obtain ⟨l1, hl1, hl2, hl3, hl4⟩ := cells_ok (P := P) hR hx hnew
    split at h'
    · rename_i hm0
      subst hm0
      simp only [Option.some.injEq, Prod.mk.injEq] at h'
      obtain ⟨rfl, rfl⟩ := h'
      refine Makes.refl (c := .slice base n cc) hR ?_ hs
      have hu : (underlying st).run P w = .ok (.slice e) w := by simp [underlying, hst]
      have hu2 : (underlying xt).run P w = .ok d w := by simp [underlying, hxt]
      have hnil : l1 = [] := by have := hl2.length; rw [hl3] at this; simp at this; exact List.eq_nil_of_length_eq_zero this.symm
      subst hnil
      unfold Builtin.append_
      rcases hd with ⟨u, rfl⟩ | rfl
      all_goals
        simp only [h0, h1, List.getElem?_toArray, List.getElem?_cons_zero, List.getElem?_cons_succ, Sem.run_bind, hu, hu2, Result.andThen_ok, sizeOf_run hn, Sem.run_pure, Bool.false_eq_true, if_false, hlen, Nat.add_zero, if_pos hle, Bool.not_false, if_true, hl1]
        cases base <;> simp [storeCells]
    · rename_i hm0
      split at h'
      · rename_i hbound
        obtain ⟨c1, w1, ψ, g1, g2⟩ := tail_ok (P := P) (zs := false) (app := Builtin.firstCells esz m x') hR hs hn hz hn0 hl3 hl4 hm0 (fun W hRW => by
          obtain ⟨l2, q1, q2, _, _⟩ := cells_ok (P := P) hRW hx hnew
          exact ⟨l2, q1, q2⟩) h
        exact ⟨c1, w1, ψ, by rw [append_run h0 hst hn hb h1 hxt hd hlen hbound]; exact g1, g2⟩
      · simp at h'
  · simp at h'

theorem appendz_ok {ts : Array TypeId} {st xt e ty : TypeId} {k : IntKind} {esz by' : Nat} {z : List Value} {s s' x x' v : Value} {H' : Heap}
    (hR : Rel ng w0 φ H w) (hs : VRel φ s s') (hx : VRel φ x x') (h0 : ts[0]? = some st) (hst : P.underlying st = some (.slice e)) (hn : sz P e = some esz)
    (hb : bytesOfT P e = some by') (hz : zero P e = some z) (hn0 : esz ≠ 0) (h1 : ts[1]? = some xt) (hxt : P.underlying xt = some (.int k))
    (h : appendzV esz by' z s x H = some (v, H')) : Makes P ng w0 φ w (Builtin.append_ ts ty #[s', x']) v H H' := by
  unfold appendzV at h
  simp only [Option.bind_eq_some_iff] at h
  obtain ⟨m, hm, h⟩ := h
  split at h
  · rename_i hmb
    obtain ⟨kx, mx, rfl, hmx0, hmx⟩ := natOf_some hx hm
    have h' := h
    unfold pushV at h'
    split at h'
    · rename_i a n c
      obtain ⟨base, cc, rfl, hle, hnil⟩ := hs.is_slice
      split at h'
      · rename_i hm0
        subst hm0
        have hmx' : mx = 0 := by omega
        subst hmx'
        simp only [Option.some.injEq, Prod.mk.injEq] at h'
        obtain ⟨rfl, rfl⟩ := h'
        refine Makes.refl (c := .slice base n cc) hR ?_ hs
        obtain ⟨ti, hti, hby⟩ := type_run hb
        have hu : (underlying st).run P w = .ok (.slice e) w := by simp [underlying, hst]
        have hu2 : (underlying xt).run P w = .ok (.int k) w := by simp [underlying, hxt]
        have hwrap : IntKind.i64.wrap 0 = 0 := wrap64_small (by omega) (by omega)
        have hasInt : (asInt (.int kx 0)).run P w = .ok 0 w := by simp [asInt, asIntOf]
        unfold Builtin.append_
        simp only [h0, h1, List.getElem?_toArray, List.getElem?_cons_zero, List.getElem?_cons_succ, Sem.run_bind, hu, hu2, Result.andThen_ok, sizeOf_run hn, Sem.run_pure, if_true, hasInt, hwrap]
        simp [hti, hle, storeCells]
        cases base <;> simp [storeCells]
      · rename_i hm0
        split at h'
        · rename_i hbound
          obtain ⟨zv, _, hzc, hzl, hzr, hzf⟩ := zero_some (φ := φ) hn hz w
          obtain ⟨c1, w1, ψ, g1, g2⟩ := tail_ok (P := P) (zs := true) (app := if m * esz = 0 then pure #[] else do pure (Builtin.zeroCells (← zeroValue e).cells m)) hR hs hn hz hn0
            (new := zerosV z m) (by rw [zerosV_length, hzl]) (by
              rw [List.all_eq_true] at hzf ⊢
              intro y hy
              simp only [zerosV, List.mem_flatten, List.mem_replicate] at hy
              obtain ⟨l, ⟨_, rfl⟩, hy⟩ := hy
              exact hzf y hy) hm0 (fun W hRW => by
              obtain ⟨zv, hzv, hzc, hzl, hzr, hzf⟩ := zero_some (φ := φ) hn hz W
              have hpos : ¬ (m * esz = 0) := by simp only [Nat.mul_eq_zero]; omega
              exact ⟨zerosV z m, by rw [if_neg hpos]; simp only [Sem.run_bind, hzv, Result.andThen_ok, Sem.run_pure, zeroCells_eq zv z hzc (by omega)], LRel.flatten_replicate hzr m⟩) h
          exact ⟨c1, w1, ψ, by rw [appendz_run h0 hst hn hb h1 hxt rfl hmx0 hmx hbound]; exact g1, g2⟩
        · simp at h'
    · simp at h'
  · simp at h

end
end Ck
