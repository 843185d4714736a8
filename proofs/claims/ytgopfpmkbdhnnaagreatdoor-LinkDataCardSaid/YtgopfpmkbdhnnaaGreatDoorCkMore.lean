/-
Literals, make, copy, strings of bytes, maps, structs that are compared.
-/
import Derived.Test.YtgopfpmkbdhnnaaGreatDoorCkHeapOps
set_option linter.unusedSimpArgs false
set_option linter.unusedVariables false
namespace Ck
open Go

section
variable {P : Program} {ng : Nat} {w0 : World} {φ : Inj} {H : Heap} {w : World}

/-- Parts as the machine has them, and as the model has them. -/
def PRel (φ : Inj) (place : Nat → Option (Nat × Nat)) : List (Nat × Nat × Value) → List (Nat × Value) → Prop
  | [], [] => True
  | p :: ps, q :: qs => place q.1 = some (p.1, p.2.1) ∧ VRel φ p.2.2 q.2 ∧ PRel φ place ps qs
  | _, _ => False

theorem PRel.length {place : Nat → Option (Nat × Nat)} : ∀ {ps : List (Nat × Nat × Value)} {qs : List (Nat × Value)}, PRel φ place ps qs → ps.length = qs.length
  | [], [], _ => rfl
  | _ :: _, _ :: _, h => by simp [PRel.length h.2.2]
  | [], _ :: _, h => h.elim
  | _ :: _, [], h => h.elim

theorem PRel.get {place : Nat → Option (Nat × Nat)} : ∀ {ps : List (Nat × Nat × Value)} {qs : List (Nat × Value)}, PRel φ place ps qs →
    ∀ (k : Nat) (p : Nat × Nat × Value) (q : Nat × Value), ps[k]? = some p → qs[k]? = some q → place q.1 = some (p.1, p.2.1) ∧ VRel φ p.2.2 q.2
  | [], [], _, k, p, q, hp, _ => by simp at hp
  | _ :: _, _ :: _, h, 0, p, q, hp, hq => by simp at hp hq; subst hp; subst hq; exact ⟨h.1, h.2.1⟩
  | _ :: _, _ :: _, h, k + 1, p, q, hp, hq => PRel.get h.2.2 k p q (by simpa using hp) (by simpa using hq)
  | [], _ :: _, h, _, _, _, _, _ => h.elim
  | _ :: _, [], h, _, _, _, _, _ => h.elim

theorem build_struct_ok {t : TypeId} {fs : Array Field} {z : List Value} {ps : List (Nat × Nat × Value)} {qs : List (Nat × Value)} {v : Value} {ns : List Nat}
    (hz : zero P t = some z) (ht : P.underlying t = some (.struct fs)) (hns : fs.toList.map (fun f => sz P f.type) = ns.map some)
    (hp : PRel φ (fun (i : Nat) => ((fs.toList.zip ns).map fun x => (x.1.offset, x.2))[i]?) ps qs) (h : buildV z ps = some v) :
    Gives P φ w (Instr.build t qs.toArray) v := by
  unfold buildV at h
  simp only [Option.map_eq_some_iff] at h
  obtain ⟨r, hr, rfl⟩ := h
  have hsz : ∃ n, sz P t = some n := by
    unfold zero at hz
    simp only [Option.bind_eq_some_iff] at hz
    obtain ⟨ti, hti, _⟩ := hz
    exact ⟨ti.size, by simp [sz, hti]⟩
  obtain ⟨n, hn⟩ := hsz
  obtain ⟨zv, hzv, hzc, hzl, hzr, hzf⟩ := zero_some (φ := φ) hn hz w
  obtain ⟨r', hr', hrel⟩ := fill_ok (place := fun (i : Nat) => ((fs.toList.zip ns).map fun x => (x.1.offset, x.2))[i]?) ps qs z r z hzr hp.length hp.get hr
  refine .of (c := .agg r'.toArray) ?_ (.agg hrel)
  have hm := run_mapM_places fs.toList ns w hns
  have hcells : zv.cells = z.toArray := by rw [← hzc]
  unfold Instr.build
  simp only [Sem.run_bind, hzv, Result.andThen_ok, underlying, run_program, ht, Sem.run_pure, Array.mapM_eq_mapM_toList, Sem.run_map, hm, hcells]
  have e : (fun (x : Nat) => (List.map (fun (x : Field × Nat) => (x.1.offset, x.2)) (fs.toList.zip ns)).toArray[x]?) = fun (i : Nat) => ((fs.toList.zip ns).map fun x => (x.1.offset, x.2))[i]? := by
    funext i; simp
  rw [e, hr']
  simp

theorem build_array_ok {t e : TypeId} {len n : Nat} {z : List Value} {ps : List (Nat × Nat × Value)} {qs : List (Nat × Value)} {v : Value}
    (hz : zero P t = some z) (ht : P.underlying t = some (.array len e)) (hn : sz P e = some n)
    (hp : PRel φ (fun i => some (i * n, n)) ps qs) (h : buildV z ps = some v) : Gives P φ w (Instr.build t qs.toArray) v := by
  unfold buildV at h
  simp only [Option.map_eq_some_iff] at h
  obtain ⟨r, hr, rfl⟩ := h
  have hsz : ∃ n, sz P t = some n := by
    unfold zero at hz
    simp only [Option.bind_eq_some_iff] at hz
    obtain ⟨ti, hti, _⟩ := hz
    exact ⟨ti.size, by simp [sz, hti]⟩
  obtain ⟨n', hn'⟩ := hsz
  obtain ⟨zv, hzv, hzc, hzl, hzr, hzf⟩ := zero_some (φ := φ) hn' hz w
  obtain ⟨r', hr', hrel⟩ := fill_ok (place := fun i => some (i * n, n)) ps qs z r z hzr hp.length hp.get hr
  refine .of (c := .agg r'.toArray) ?_ (.agg hrel)
  have hcells : zv.cells = z.toArray := by rw [← hzc]
  unfold Instr.build
  simp only [Sem.run_bind, hzv, Result.andThen_ok, underlying, run_program, ht, Sem.run_pure, sizeOf_run hn, hcells, hr']

theorem bslice_ok {t e : TypeId} {len n : Nat} {z : List Value} {ps : List (Nat × Nat × Value)} {qs : List (Nat × Value)} {v : Value} {b : Nat} {y : Blk} {N : Nat}
    (hN : N ≤ w.heap.size) (ht : P.underlying t = some (.slice e)) (hn : sz P e = some n) (hn0 : n ≠ 0) (hz : zero P e = some z) (hlim : len * n ≤ 2 ^ 24)
    (hp : PRel φ (fun i => some (i * n, n)) ps qs) (h : bsliceV n len z ps b = some (v, y)) : Made P N φ w (Instr.buildSlice t len qs.toArray) v b y := by
  unfold bsliceV at h
  simp only [Option.bind_eq_some_iff] at h
  obtain ⟨r, hr, h⟩ := h
  split at h
  · rename_i hfl
    simp only [Option.some.injEq, Prod.mk.injEq] at h
    obtain ⟨rfl, rfl⟩ := h
    obtain ⟨zv, hzv, hzc, hzl, hzr, hzf⟩ := zero_some (φ := φ) hn hz w
    obtain ⟨r', hr', hrel⟩ := fill_ok (place := fun i => some (i * n, n)) ps qs (zerosV z len) r (zerosV z len) (LRel.flatten_replicate hzr len) hp.length hp.get hr
    have hb := BRel.cells (φ := φ) (N := N) (cb := w.heap.size) (e := n) (rest := []) (t := e) hrel hfl hN
    rw [List.append_nil] at hb
    have g1 := newRow_run (P := P) (w := w) (cs := r'.toArray) (t := e)
    have hrl : r.length = len * n := by
      have : ∀ (ps : List (Nat × Nat × Value)) (z r : List Value), fillV z ps = some r → r.length = z.length := by
        intro ps
        induction ps with
        | nil => intro z r h; simp [fillV] at h; rw [h]
        | cons p ps ih =>
          intro z r h
          obtain ⟨off, n, v⟩ := p
          simp only [fillV] at h
          split at h
          · rename_i hc
            have := ih _ _ h
            rw [this, splice_length (by simp; omega)]
          · simp at h
      rw [this _ _ _ hr, zerosV_length, hzl]
    refine ⟨.slice (some ⟨w.heap.size, 0, none⟩) len len, .cells r'.toArray e, ⟨w.heap.size, 0, r'.length, n⟩, ?_, rfl, hb, fun ψ hψ => slice_of hψ rfl (by show len * n ≤ r'.length; rw [← hrel.length, hrl]; exact Nat.le_refl _)⟩
    · have hcells : (if len * n = 0 then pure #[] else do pure (← zeroValue e).cells : Sem (Array Value)).run P w = .ok (if len * n = 0 then #[] else zv.cells) w := by
        split <;> simp [hzv]
      have hz2 : ((Array.range (len * n)).map fun i => (if len * n = 0 then #[] else zv.cells)[i % (if len * n = 0 then #[] else zv.cells).size]!) = (zerosV z len).toArray := by
        by_cases h0 : len * n = 0
        · rw [h0]
          have : len = 0 := by rcases Nat.mul_eq_zero.1 h0 with h | h <;> omega
          subst this
          simp [zerosV]
        · simp only [if_neg h0]
          apply Array.ext'
          have h1 : zv.cells.size = n := by rw [← Array.length_toList, hzc]; exact hzl
          have := range_mod zv.cells (by omega) len
          rw [h1] at this ⊢
          rw [this, hzc]
          rfl
      unfold Instr.buildSlice
      simp only [Sem.run_bind, underlying, run_program, Result.andThen_ok, ht, Sem.run_pure, sizeOf_run hn, if_neg (show ¬ (len * n > 2 ^ 24) from by omega)]
      by_cases h0 : len * n = 0
      · simp only [if_pos h0] at hz2 ⊢
        simp only [Sem.run_bind, Sem.run_pure, Result.andThen_ok, hz2, hr', g1]
      · simp only [if_neg h0] at hz2 ⊢
        simp only [Sem.run_bind, hzv, Sem.run_pure, Result.andThen_ok, hz2, hr', g1]
  · simp at h

theorem mkslice_ok {t e : TypeId} {n by' : Nat} {z : List Value} {l l' c c' v : Value} {b : Nat} {y : Blk} {N : Nat}
    (hN : N ≤ w.heap.size) (ht : P.underlying t = some (.slice e)) (hn : sz P e = some n) (hb : bytesOfT P e = some by') (hn0 : n ≠ 0) (hz : zero P e = some z)
    (hl : VRel φ l l') (hc : VRel φ c c') (h : mksliceV n by' z l c b = some (v, y)) : Made P N φ w (Instr.makeSlice t l' c') v b y := by
  unfold mksliceV at h
  simp only [Option.bind_eq_some_iff] at h
  obtain ⟨a, ha, b2, hb', h⟩ := h
  split at h
  · rename_i hcond
    obtain ⟨rfl, hbound⟩ := hcond
    simp only [Option.some.injEq, Prod.mk.injEq] at h
    obtain ⟨rfl, rfl⟩ := h
    obtain ⟨ka, ma, rfl, hma0, hma⟩ := natOf_some hl ha
    obtain ⟨kb, mb, rfl, hmb0, hmb⟩ := natOf_some hc hb'
    have hmm : mb = ma := by omega
    subst hmm
    obtain ⟨ti, hti, hby⟩ := type_run hb
    obtain ⟨zv, hzv, hzc, hzl, hzr, hzf⟩ := zero_some (φ := φ) hn hz w
    have hle : a ≤ a * (by' + 1) := Nat.le_mul_of_pos_right _ (by omega)
    have hle2 : a * by' ≤ a * (by' + 1) := Nat.mul_le_mul_left _ (by omega)
    have hwrap : IntKind.i64.wrap mb = mb := wrap64_small hmb0 (by omega)
    have hzfl : (zerosV z a).all flat = true := by
      rw [List.all_eq_true] at hzf ⊢
      intro y hy
      simp only [zerosV, List.mem_flatten, List.mem_replicate] at hy
      obtain ⟨l, ⟨_, rfl⟩, hy⟩ := hy
      exact hzf y hy
    have hbr := BRel.cells (φ := φ) (N := N) (cb := w.heap.size) (e := n) (rest := []) (t := e) (LRel.flatten_replicate hzr a) hzfl hN
    rw [List.append_nil] at hbr
    have g1 := newRow_run (P := P) (w := w) (cs := (zerosV z a).toArray) (t := e)
    refine ⟨.slice (some ⟨w.heap.size, 0, none⟩) a a, .cells (zerosV z a).toArray e, ⟨w.heap.size, 0, (zerosV z a).length, n⟩, ?_, rfl, hbr, fun ψ hψ => slice_of hψ rfl (by show a * n ≤ _; rw [zerosV_length, hzl]; exact Nat.le_refl _)⟩
    · have hbig : (decide (mb < 0) || decide ((ti.bytes : Int) * mb > 2 ^ 48)) = false := by
        have e1 : mb = (a : Int) := by omega
        rw [hby, e1, ← Int.natCast_mul, Nat.mul_comm]
        simp; omega
      have hz2 : ((Array.range (a * n)).map fun i => (if a * n = 0 then #[] else zv.cells)[i % (if a * n = 0 then #[] else zv.cells).size]!) = (zerosV z a).toArray := by
        by_cases h0 : a * n = 0
        · rw [h0]
          have : a = 0 := by rcases Nat.mul_eq_zero.1 h0 with h | h <;> omega
          subst this
          simp [zerosV]
        · simp only [if_neg h0]
          apply Array.ext'
          have h1 : zv.cells.size = n := by rw [← Array.length_toList, hzc]; exact hzl
          have := range_mod zv.cells (by omega) a
          rw [h1] at this ⊢
          rw [this, hzc]
          rfl
      unfold Instr.makeSlice
      simp only [Sem.run_bind, underlying, run_program, Result.andThen_ok, ht, Sem.run_pure, asInt, asIntOf, hti, hwrap, hbig, Bool.false_or]
      have hneg : decide (mb < 0) = false := by simp; omega
      have hgt : decide (mb > mb) = false := by simp
      simp only [hneg, hgt, Bool.or_false, Bool.false_eq_true, if_false, Sem.run_bind, run_askRoom, Result.andThen_ok, sizeOf_run hn, hmb]
      clear hbr
      simp only [zerosV] at g1 hz2 ⊢
      by_cases h0 : a * n = 0
      · simp only [if_pos h0] at hz2 ⊢
        simp only [Sem.run_bind, Sem.run_pure, Result.andThen_ok, hz2, g1]
      · simp only [if_neg h0] at hz2 ⊢
        simp only [Sem.run_bind, hzv, Sem.run_pure, Result.andThen_ok, hz2, g1]
  · simp at h

end
end Ck

/-
copy, strings of bytes, marks, maps, structs that are compared.
-/
set_option linter.unusedSimpArgs false
set_option linter.unusedVariables false
namespace Ck
open Go

section
variable {P : Program} {ng : Nat} {w0 : World} {φ : Inj} {H : Heap} {w : World}

theorem copy_ok {ts : Array TypeId} {dt e ty : TypeId} {n : Nat} {d d' s s' v : Value} {H' : Heap} (hR : Rel ng w0 φ H w) (hd : VRel φ d d') (hs : VRel φ s s')
    (h0 : ts[0]? = some dt) (hdt : P.underlying dt = some (.slice e)) (hn : sz P e = some n) (hn0 : n ≠ 0) (h : copyV n d s H = some (v, H')) :
    Makes P ng w0 φ w (Builtin.copy_ ts ty #[d', s']) v H H' := by
  unfold copyV at h
  split at h
  · rename_i a k c
    simp only [Option.bind_eq_some_iff] at h
    obtain ⟨m, hm, cs, hcs, h⟩ := h
    obtain ⟨base, cc, rfl, hle, hnil⟩ := hd.is_slice
    obtain ⟨l', g1, g2, g3, g4⟩ := cells_ok (P := P) hR hs hcs
    have hlen := lenN_ok (P := P) (w := w) hs hm
    have hu : (underlying dt).run P w = .ok (.slice e) w := by simp [underlying, hdt]
    split at h
    · rename_i hz
      simp only [Option.some.injEq, Prod.mk.injEq] at h
      obtain ⟨rfl, rfl⟩ := h
      have hl : l' = [] := by
        have := g2.length
        rw [g3, hz] at this
        simp at this
        exact List.eq_nil_of_length_eq_zero this.symm
      subst hl
      refine Makes.refl (c := .int .i64 0) hR ?_ (.int _ _)
      have hz' : Nat.min m k = 0 := hz
      unfold Builtin.copy_
      rw [hz] at g1
      simp only [h0, List.getElem?_toArray, List.getElem?_cons_zero, List.getElem?_cons_succ, Sem.run_bind, hu, Result.andThen_ok, hlen, sizeOf_run hn, hz', g1]
      cases base <;> simp [storeCells, goInt]
    · rename_i hz
      split at h
      · rename_i b o
        simp only [Option.map_eq_some_iff, Prod.mk.injEq] at h
        obtain ⟨H1, h1, rfl, rfl⟩ := h
        cases hd with
        | slice hb hle' hx ha =>
          rename_i i ca
          have hk : 0 < cc := by omega
          obtain ⟨rfl, hcap⟩ := ha hk
          obtain ⟨w', q1, q2⟩ := storeCells_ok (P := P) hb cs l' o 0 H H1 w hR g2 g4 (by simpa using h1)
          refine ⟨.int .i64 (min m k : Nat), w', φ, ?_, Inj.le.refl _, .int _ _, q2, by obtain ⟨y, hy⟩ := Heap.sts_set h1; rw [hy]; exact .set hb⟩
          have hmin : Nat.min m k = min m k := rfl
          unfold Builtin.copy_
          simp only [h0, List.getElem?_toArray, List.getElem?_cons_zero, List.getElem?_cons_succ, Sem.run_bind, hu, Result.andThen_ok, hlen, sizeOf_run hn, hmin, g1, q1, Sem.run_pure, goInt]
      · simp at h
  · simp at h

theorem tostr_ok {st e d : TypeId} {x x' v : Value} (hR : Rel ng w0 φ H w) (hx : VRel φ x x') (hs : P.underlying st = some (.slice e)) (hd : P.underlying d = some .string)
    (he : P.underlying e = some (.int .u8)) (h : tostrV x H = some v) : Gives P φ w (Go.convert st d x') v := by
  unfold tostrV at h
  split at h
  · rename_i a n c
    simp only [Option.bind_eq_some_iff, Option.map_eq_some_iff] at h
    obtain ⟨cs, hcs, l, hl, rfl⟩ := h
    obtain ⟨l', g1, g2, g3, g4⟩ := cells_ok (P := P) hR hx hcs
    have key : ∀ (cs l' : List Value) (l : List UInt8) (acc : ByteArray) (w : World), LRel φ cs l' → bytesOf cs = some l →
        (forIn (m := Sem) l' acc (fun c s => match c with
          | .int .u8 n => pure (ForInStep.yield (s.push (UInt8.ofNat n.toNat)))
          | _ => do (stuck "bytesToString: byte expected" : Sem PUnit); pure (ForInStep.yield s))).run P w = .ok ⟨acc.data ++ l.toArray⟩ w := by
      intro cs
      induction cs with
      | nil =>
        intro l' l acc w hl hb
        cases hl
        simp only [bytesOf, Option.some.injEq] at hb
        subst hb
        simp
      | cons x cs ih =>
        intro l' l acc w hl hb
        cases hl with
        | cons hv hs =>
          rename_i y ys
          unfold bytesOf at hb
          split at hb
          · rename_i heq; simp at heq
          · rename_i m r heq
            simp only [List.cons.injEq] at heq
            obtain ⟨rfl, rfl⟩ := heq
            simp only [Option.map_eq_some_iff] at hb
            obtain ⟨l2, hl2, rfl⟩ := hb
            cases hv
            simp only [List.forIn_cons, Sem.run_bind, Sem.run_pure, Result.andThen_ok]
            rw [ih _ _ _ _ hs hl2]
            simp [ByteArray.push]
          · simp at hb
    have hk := key cs l' l ByteArray.empty w g2 hl
    refine .of (c := .string ⟨l.toArray⟩) ?_ (.string _)
    obtain ⟨base, cc, rfl, hle, hnil⟩ := hx.is_slice
    have hconv : (Go.convert st d (.slice base n cc)).run P w = (Conv.bytesToString (.slice base n cc)).run P w := by
      simp [Go.convert, underlying, hs, hd, he]
    rw [hconv]
    cases base with
    | none =>
      have : n = 0 := by cases hx; rfl
      subst this
      have : l' = [] := by
        have := g2.length; rw [g3] at this; simp at this
        exact List.eq_nil_of_length_eq_zero this.symm
      subst this
      cases g2
      simp only [bytesOf, Option.some.injEq] at hl
      subst hl
      rfl
    | some ad =>
      have g1' : (loadCells ad n).run P w = .ok l'.toArray w := by
        have : (Builtin.firstCells 1 n (.slice (some ad) n cc)) = loadCells ad (n * 1) := rfl
        rw [this, Nat.mul_one] at g1
        exact g1
      simp only [Conv.bytesToString, Sem.run_bind, g1', Result.andThen_ok, List.forIn_toArray]
      exact (congrArg (fun r : Result ByteArray => r.andThen fun a w' => Sem.run P (pure (Value.string a)) w') hk).trans (by simp)
  · simp at h

theorem World.heap_freeze (w : World) (a : Addr) (k : Nat) : (w.freeze a 1).heap[k]? = if a.block = k then (w.heap[k]?).map (fun
      | .cells c elem (lo, hi) => .cells c elem (if lo == hi then (a.off, a.off + 1) else (min lo a.off, max hi (a.off + 1)))
      | o => o) else w.heap[k]? := by
  simp only [World.freeze, Nat.one_ne_zero, if_false, Array.getElem?_modify]
  split <;> rfl

/-- A row of the own memory is marked behind its end. -/
theorem Rel.freeze (h : Rel ng w0 φ H w) {b : Nat} {e : Nat} {cs : List Value} {i : Info} (hi : φ b = some i) (hb : H.blk b = some (.cells e false cs)) {c : Array Value} {ty : TypeId} {fr : Nat × Nat}
    (ho : w.heap[i.cb]? = some (.cells c ty fr)) : Rel ng w0 φ H (w.freeze ⟨i.cb, c.size, none⟩ 1) := by
  obtain ⟨ob, hob, hbr⟩ := h.blk _ _ _ hb hi
  rw [ho] at hob
  simp only [Option.some.injEq] at hob
  subst hob
  simp only [BRel] at hbr
  obtain ⟨hN, hfr⟩ := hbr.2.2.2.2.2 trivial
  have key : ∀ k : Nat, k ≠ i.cb → (w.freeze ⟨i.cb, c.size, none⟩ 1).heap[k]? = w.heap[k]? := by
    intro k hk
    rw [World.heap_freeze]
    simp only [if_neg (Ne.symm hk)]
  obtain ⟨f1, f2⟩ := fr
  have here : ∃ fr', (w.freeze ⟨i.cb, c.size, none⟩ 1).heap[i.cb]? = some (.cells c ty fr') ∧ (fr'.1 = fr'.2 ∨ c.size ≤ fr'.1) := by
    rw [World.heap_freeze]
    simp only [ho, if_true, Option.map_some]
    refine ⟨_, rfl, ?_⟩
    simp only at hfr
    split
    · right; simp
    · rename_i hne
      simp at hne
      right
      have : c.size ≤ f1 := by omega
      simp only; omega
  obtain ⟨fr', here, hfr'⟩ := here
  refine ⟨h.dom, h.live, ?_, h.apart, h.glob, h.ng, ?_, ?_, ?_, ?_⟩
  · intro b' x i' hx hi'
    obtain ⟨o', ho', hr'⟩ := h.blk _ _ _ hx hi'
    by_cases hcb : i'.cb = i.cb
    · rw [hcb, ho] at ho'
      simp only [Option.some.injEq] at ho'
      subst ho'
      refine ⟨_, by rw [hcb]; exact here, ?_⟩
      cases x with
      | map es => simp [BRel] at hr'
      | cells e' ro' cs' =>
        simp only [BRel] at hr' ⊢
        obtain ⟨g1, g2, g3, g4, g5, g6⟩ := hr'
        exact ⟨g1, g2, g3, g4, g5, fun hro => ⟨(g6 hro).1, hfr'⟩⟩
    · exact ⟨o', by rw [key _ hcb]; exact ho', hr'⟩
  · intro k hk
    rw [key k (by omega)]
    exact h.old k hk
  · have : (w.freeze ⟨i.cb, c.size, none⟩ 1).heap.size = w.heap.size := by simp [World.freeze]
    rw [this]; exact h.size
  · show (w.freeze _ 1).os = _
    unfold World.freeze
    exact h.os
  · unfold World.freeze
    exact h.output

theorem mark_ok {s d e : TypeId} {x x' v : Value} (hR : Rel ng w0 φ H w) (hx : VRel φ x x') (hs : P.underlying s = some (.slice e)) (hsd : (s == d) = true)
    (he : P.underlying e = some (.int .u8)) (h : markV x H = some v) : ∃ c w', (Go.convert s d x').run P w = .ok c w' ∧ VRel φ v c ∧ Rel ng w0 φ H w' := by
  have hsd' : s = d := by simpa using hsd
  subst hsd'
  unfold markV at h
  split at h
  · rename_i b o n c
    split at h
    · rename_i e' cs hb
      split at h
      · rename_i hn
        simp only [Option.some.injEq] at h
        subst h
        cases hx with
        | slice hi hle hxx ha =>
          rename_i cc i ca
          obtain ⟨rfl, hcap⟩ := ha (by omega)
          obtain ⟨ob, hob, hbr⟩ := hR.blk _ _ _ hb hi
          cases ob <;> simp only [BRel] at hbr
          rename_i C ty fr
          refine ⟨_, w.freeze ⟨i.cb, C.size, none⟩ 1, ?_, .slice hi hle hxx ha, hR.freeze hi hb hob⟩
          have hsh : w.shape? i.cb = some (ty, C.size) := by simp [World.shape?, hob]
          simp [Go.convert, underlying, hs, he, markStringish, hsh]
      · simp at h
    · simp at h
  · simp at h

/-! ### Maps -/

def KeyK.is (P : Program) (t : TypeId) : KeyK → Prop
  | .int => ∃ k, P.underlying t = some (.int k)
  | .string => P.underlying t = some .string
  | .bool => P.underlying t = some .bool

theorem plainKey_is {t : TypeId} {kk : KeyK} (h : plainKey P t = some kk) : kk.is P t := by
  unfold plainKey at h
  split at h <;> simp at h <;> subst h <;> simp_all [KeyK.is]

theorem keyEq_run {t : TypeId} {kk : KeyK} {k k' x x' : Value} {b : Bool} (hk : VRel φ k k') (hx : VRel φ x x') (hkk : kk.is P t) (h : keyEq kk k x = some b) :
    ∃ d, P.underlying t = some d ∧ Instr.sameNow d k' x' = some b := by
  unfold keyEq at h
  split at h
  · obtain ⟨i, hi⟩ := hkk
    cases hk; cases hx
    split at h
    · rename_i hh
      subst hh
      simp at h
      exact ⟨_, hi, by simp [Instr.sameNow, h]⟩
    · simp at h
  · cases hk; cases hx
    simp at h
    exact ⟨_, hkk, by simp [Instr.sameNow, h]⟩
  · cases hk; cases hx
    simp at h
    exact ⟨_, hkk, by simp [Instr.sameNow, h]⟩
  · simp at h

theorem checkKey_run {t : TypeId} {kk : KeyK} {k k' : Value} {b e : Bool} (n : Nat) (hk : VRel φ k k') (hkk : kk.is P t) (h : keyEq kk k k = some b) :
    (Instr.checkKey e (n + 1) t k').run P w = .ok () w := by
  obtain ⟨d, hd, _⟩ := keyEq_run hk hk hkk h
  unfold keyEq at h
  split at h
  · obtain ⟨i, hi⟩ := hkk
    cases hk
    simp [Instr.checkKey, underlying, hi]
  · cases hk
    have hi : P.underlying t = some .string := hkk
    simp [Instr.checkKey, underlying, hi]
  · cases hk
    have hi : P.underlying t = some .bool := hkk
    simp [Instr.checkKey, underlying, hi]
  · simp at h

theorem findE_run {t : TypeId} {d : TypeDesc} {kk : KeyK} {k k' : Value} (hk : VRel φ k k') (hkk : kk.is P t) (hd : P.underlying t = some d) :
    ∀ (es : List (Value × Value)) (es' : List MapEntry) (r : Option Value) (i : Nat), LRel φ (es.map (·.1)) (es'.map (·.key)) → LRel φ (es.map (·.2)) (es'.map (·.val)) →
      findE kk k es = some r → ∃ r', Instr.findNow d k' es' i = some r' ∧ (match r, r' with
        | none, none => True
        | some v, some (j, v') => VRel φ v v' ∧ i ≤ j ∧ (∃ e, es'[j - i]? = some e ∧ keyEq kk k ((es.map (·.1)).getD (j - i) .nilFunc) = some true)
        | _, _ => False) := by
  intro es
  induction es with
  | nil =>
    intro es' r i h1 h2 h
    simp only [findE, Option.some.injEq] at h
    subst h
    cases es' with
    | nil => exact ⟨none, rfl, trivial⟩
    | cons => cases h1
  | cons p es ih =>
    intro es' r i h1 h2 h
    obtain ⟨x, v⟩ := p
    cases es' with
    | nil => cases h1
    | cons e es' =>
      simp only [List.map_cons] at h1 h2
      cases h1 with
      | cons hx hxs =>
        cases h2 with
        | cons hv hvs =>
          simp only [findE, Option.bind_eq_some_iff] at h
          obtain ⟨b, hb, h⟩ := h
          obtain ⟨d', hd', hs⟩ := keyEq_run hk hx hkk hb
          rw [hd] at hd'
          simp only [Option.some.injEq] at hd'
          subst hd'
          cases b with
          | true =>
            simp at h
            subst h
            refine ⟨some (i, e.val), by simp [Instr.findNow, hs], hv, Nat.le_refl _, ?_⟩
            rw [Nat.sub_self]
            exact ⟨e, rfl, hb⟩
          | false =>
            simp at h
            obtain ⟨r', hr', hrel⟩ := ih es' r (i + 1) hxs hvs h
            refine ⟨r', by simp [Instr.findNow, hs, hr'], ?_⟩
            cases r <;> cases r' <;> simp only at hrel ⊢
            rename_i q
            obtain ⟨j, u⟩ := q
            obtain ⟨q1, q2, e', q3, q4⟩ := hrel
            refine ⟨q1, by omega, e', ?_, ?_⟩
            · rw [show j - i = (j - (i + 1)) + 1 from by omega]; exact q3
            · rw [show j - i = (j - (i + 1)) + 1 from by omega]; exact q4

def FRel (φ : Inj) : Option Value → Option (Nat × Value) → Prop
  | none, none => True
  | some v, some (_, v') => VRel φ v v'
  | _, _ => False

theorem find_ok {key : TypeId} {kk : KeyK} {m m' k k' : Value} {r : Option Value} (hR : Rel ng w0 φ H w) (hm : VRel φ m m') (hk : VRel φ k k') (hkk : kk.is P key)
    (h : findV kk m k H = some r) : ∃ es : List MapEntry, ((m' = .map none ∧ es = []) ∨ ∃ c cl, m' = .map (some c) ∧ w.heap[c]? = some (.map es.toArray cl)) ∧
      (∀ n e, (Instr.checkKey e (n + 1) key k').run P w = .ok () w) ∧
      ∃ r', (Instr.findKey key k' es).run P w = .ok r' w ∧ FRel φ r r' := by
  unfold findV at h
  split at h
  · cases hm
    simp only [Option.map_eq_some_iff] at h
    obtain ⟨b, hb, rfl⟩ := h
    refine ⟨[], .inl ⟨rfl, rfl⟩, fun n e => checkKey_run n hk hkk hb, none, ?_, trivial⟩
    obtain ⟨d, hd, _⟩ := keyEq_run hk hk hkk hb
    simp [Instr.findKey, underlying, hd, Instr.findNow]
  · rename_i r0
    split at h
    · rename_i es hes
      simp only [Option.bind_eq_some_iff] at h
      obtain ⟨b, hb, h⟩ := h
      cases hm with
      | map hi =>
        rename_i i
        obtain ⟨ob, hob, hbr⟩ := hR.blk _ _ _ hes hi
        cases ob <;> simp only [BRel] at hbr
        rename_i es' cl
        obtain ⟨d, hd, _⟩ := keyEq_run hk hk hkk hb
        obtain ⟨r', h1, h2⟩ := findE_run hk hkk hd es es'.toList r 0 hbr.2.2.2.1 hbr.2.2.2.2 h
        refine ⟨es'.toList, .inr ⟨_, cl, rfl, by simpa using hob⟩, fun n e => checkKey_run n hk hkk hb, r', ?_, ?_⟩
        · simp [Instr.findKey, underlying, hd, h1]
        · cases r <;> cases r' <;> simp only [FRel] at h2 ⊢
          exact h2.1
    · simp at h
  · simp at h

theorem lookup_ok {t key elem : TypeId} {kk : KeyK} {ok : Bool} {z m m' k k' v : Value} (hR : Rel ng w0 φ H w) (ht : P.underlying t = some (.map key elem))
    (hz : (P.info? elem).bind (·.zero) = some z) (hzc : okConst z = true) (hkk : plainKey P key = some kk)
    (hm : VRel φ m m') (hk : VRel φ k k') (h : lookupV kk z ok m k H = some v) : Gives P φ w (Instr.lookup t m' k' ok) v := by
  unfold lookupV at h
  simp only [Option.map_eq_some_iff] at h
  obtain ⟨r, hr, rfl⟩ := h
  obtain ⟨es, h1, h2, r', h3, h4⟩ := find_ok (P := P) hR hm hk (plainKey_is hkk) hr
  have hzv : (zeroValue elem).run P w = .ok z w := by
    simp only [Option.bind_eq_some_iff] at hz
    obtain ⟨ti, hti, hz⟩ := hz
    simp [zeroValue, typeInfo, hti, hz]
  have hzr : VRel φ z z := VRel.const hzc
  have hu : (underlying t).run P w = .ok (.map key elem) w := by simp [underlying, ht]
  have hck : ∀ e, (Instr.checkKey e 10000 key k').run P w = .ok () w := fun e => h2 9999 e
  have fin : ∀ (u : Value) (b : Bool), VRel φ (r.getD z) u → r.isSome = b → VRel φ (if ok = true then .tuple #[r.getD z, .bool r.isSome] else r.getD z) (if ok = true then .tuple #[u, .bool b] else u) := by
    intro u b hu hb
    split
    · rw [hb]
      exact .tuple (xs := [r.getD z, .bool b]) (ys := [u, .bool b]) (.cons hu (.cons (.bool _) .nil))
    · exact hu
  rcases h1 with ⟨rfl, rfl⟩ | ⟨c, cl, rfl, hc⟩
  · cases r with
    | none =>
      cases r' with
      | none =>
        refine .of ?_ (fin z false hzr rfl)
        simp [Instr.lookup, hu, hck, h3, hzv]
      | some q => simp [FRel] at h4
    | some q =>
      cases r' with
      | none => simp [FRel] at h4
      | some q' =>
        obtain ⟨j, q'⟩ := q'
        refine .of ?_ (fin q' true h4 rfl)
        simp [Instr.lookup, hu, hck, h3]
  · have hg : (getObj c).run P w = .ok (.map es.toArray cl) w := by simp [getObj, Sem.run, hc]
    cases r with
    | none =>
      cases r' with
      | none =>
        refine .of ?_ (fin z false hzr rfl)
        simp [Instr.lookup, hu, hg, hck, h3, hzv]
      | some q => simp [FRel] at h4
    | some q =>
      cases r' with
      | none => simp [FRel] at h4
      | some q' =>
        obtain ⟨j, q'⟩ := q'
        refine .of ?_ (fin q' true h4 rfl)
        simp [Instr.lookup, hu, hg, hck, h3]

/-- A map's block is set. -/
theorem Rel.setMap (h : Rel ng w0 φ H w) {b : Nat} {i : Info} {es es1 : List (Value × Value)} {ds1 : Array MapEntry} {cl : Nat} (hi : φ b = some i) (hb : H.blk b = some (.map es))
    (h1 : LRel φ (es1.map (·.1)) (ds1.toList.map (·.key))) (h2 : LRel φ (es1.map (·.2)) (ds1.toList.map (·.val))) :
    Rel ng w0 φ (H.set b (some (.map es1))) { w with heap := w.heap.setIfInBounds i.cb (.map ds1 cl) } := by
  obtain ⟨ob, hob, hbr⟩ := h.blk _ _ _ hb hi
  cases ob <;> simp only [BRel] at hbr
  rename_i ds0 cl0
  obtain ⟨hN, hlo, hhi, _, _⟩ := hbr
  have hlt : i.cb < w.heap.size := by
    rcases Nat.lt_or_ge i.cb w.heap.size with hh | hh
    · exact hh
    · rw [Array.getElem?_eq_none hh] at hob; simp at hob
  have key : ∀ k : Nat, k ≠ i.cb → (w.heap.setIfInBounds i.cb (.map ds1 cl))[k]? = w.heap[k]? := by
    intro k hk
    rw [Array.getElem?_setIfInBounds_ne (Ne.symm hk)]
  refine ⟨h.dom, ?_, ?_, ?_, h.glob, h.ng, ?_, by simpa using h.size, h.os, h.output⟩
  · intro b' x hx
    simp only [Heap.set] at hx ⊢
    split at hx
    · rename_i heq; subst heq; exact h.live _ _ hb
    · exact h.live _ _ hx
  · intro b' x i' hx hi'
    simp only [Heap.set] at hx
    split at hx
    · rename_i heq
      subst heq
      simp only [Option.some.injEq] at hx
      subst hx
      rw [hi] at hi'
      simp only [Option.some.injEq] at hi'
      subst hi'
      exact ⟨.map ds1 cl, by simp [hlt], ⟨hN, hlo, hhi, h1, h2⟩⟩
    · rename_i hne
      obtain ⟨o', ho', hr'⟩ := h.blk _ _ _ hx hi'
      have hcb : i'.cb ≠ i.cb := by
        intro hh
        cases x with
        | cells e' ro' cs' =>
          rw [hh, hob] at ho'
          simp only [Option.some.injEq] at ho'
          subst ho'
          simp [BRel] at hr'
        | map es' =>
          have := h.apart b b' _ _ _ _ (Ne.symm hne) hb hx hi hi' rfl
          cases o' <;> simp only [BRel] at hr'
          omega
      exact ⟨o', by rw [key _ hcb]; exact ho', hr'⟩
  · intro b1 b2 x1 x2 i1 i2 hne hx1 hx2 hi1 hi2 hw
    simp only [Heap.set] at hx1 hx2
    have fix : ∀ b' x, (if b' = b then some (Blk.map es1) else H.blk b') = some x → ∃ x0, H.blk b' = some x0 ∧ wr x0 = wr x := by
      intro b' x hx
      split at hx
      · rename_i heq; subst heq; simp only [Option.some.injEq] at hx; subst hx; exact ⟨_, hb, rfl⟩
      · exact ⟨x, hx, rfl⟩
    obtain ⟨y1, hy1, hw1⟩ := fix _ _ hx1
    obtain ⟨y2, hy2, hw2⟩ := fix _ _ hx2
    exact h.apart _ _ _ _ _ _ hne hy1 hy2 hi1 hi2 (by rw [hw1]; exact hw)
  · intro k hk
    show (w.heap.setIfInBounds i.cb (.map ds1 cl))[k]? = _
    rw [key k (by omega)]
    exact h.old k hk

theorem findE_at {t : TypeId} {d : TypeDesc} {kk : KeyK} {k k' v v' : Value} (hk : VRel φ k k') (hv : VRel φ v v') (hkk : kk.is P t) (hd : P.underlying t = some d) :
    ∀ (es es1 : List (Value × Value)) (es' : List MapEntry) (i : Nat), LRel φ (es.map (·.1)) (es'.map (·.key)) → LRel φ (es.map (·.2)) (es'.map (·.val)) →
      putE kk k v es = some es1 →
      (Instr.findNow d k' es' i = some none ∧ es1 = es ++ [(k, v)]) ∨
      ∃ j u x e, Instr.findNow d k' es' i = some (some (i + j, u)) ∧ es'[j]? = some e ∧ VRel φ x e.key ∧ keyEq kk k x = some true ∧
        LRel φ (es1.map (·.1)) ((es'.set j { e with key := k', val := v' }).map (·.key)) ∧ LRel φ (es1.map (·.2)) ((es'.set j { e with key := k', val := v' }).map (·.val)) := by
  intro es
  induction es with
  | nil =>
    intro es1 es' i h1 h2 h
    simp only [putE, Option.some.injEq] at h
    subst h
    cases es' with
    | nil => exact .inl ⟨rfl, rfl⟩
    | cons => cases h1
  | cons p es ih =>
    intro es1 es' i h1 h2 h
    obtain ⟨x, u⟩ := p
    cases es' with
    | nil => cases h1
    | cons e es' =>
      simp only [List.map_cons] at h1 h2
      cases h1 with
      | cons hx hxs =>
        cases h2 with
        | cons hu hus =>
          simp only [putE, Option.bind_eq_some_iff] at h
          obtain ⟨b, hb, h⟩ := h
          obtain ⟨d', hd', hs⟩ := keyEq_run hk hx hkk hb
          rw [hd] at hd'
          simp only [Option.some.injEq] at hd'
          subst hd'
          cases b with
          | true =>
            simp at h
            subst h
            refine .inr ⟨0, e.val, x, e, by simp [Instr.findNow, hs], rfl, hx, hb, ?_, ?_⟩
            · exact .cons hk hxs
            · exact .cons hv hus
          | false =>
            simp at h
            obtain ⟨es2, h, rfl⟩ := h
            rcases ih es2 es' (i + 1) hxs hus h with ⟨g1, g2⟩ | ⟨j, u', x', e', g1, g2, g3, g4, g5, g6⟩
            · refine .inl ⟨by simp [Instr.findNow, hs, g1], by simp [g2]⟩
            · refine .inr ⟨j + 1, u', x', e', ?_, by simpa using g2, g3, g4, ?_, ?_⟩
              · simp [Instr.findNow, hs, g1]; omega
              · exact .cons hx g5
              · exact .cons hu g6

theorem ba_beq (a b : ByteArray) (h : (a == b) = true) : a = b := by
  cases a; cases b
  rename_i x y
  have : ByteArray.beq ⟨x⟩ ⟨y⟩ = (x == y) := by
    unfold ByteArray.beq; rfl
  have h2 : (x == y) = true := this ▸ h
  rw [eq_of_beq h2]

theorem ba_refl (b : ByteArray) : (b == b) = true := by
  cases b
  rename_i x
  show ByteArray.beq ⟨x⟩ ⟨x⟩ = true
  unfold ByteArray.beq; simp

theorem sameBits_of_keyEq {kk : KeyK} {k k' x x' : Value} (hk : VRel φ k k') (hx : VRel φ x x') (h : keyEq kk k x = some true) (n : Nat) : Instr.sameBits (n + 1) x' k' = true ∧ x' = k' := by
  unfold keyEq at h
  split at h
  · cases hk; cases hx
    split at h
    · rename_i hh; subst hh; simp at h; subst h; simp [Instr.sameBits]
    · simp at h
  · cases hk; cases hx
    simp only [Option.some.injEq] at h
    have := ba_beq _ _ h
    subst this
    exact ⟨by simp only [Instr.sameBits]; exact ba_refl _, rfl⟩
  · cases hk; cases hx; simp at h; subst h; simp [Instr.sameBits]
  · simp at h

theorem mapupd_ok {t key elem : TypeId} {kk : KeyK} {m m' k k' v v' : Value} {H' : Heap} (hR : Rel ng w0 φ H w) (ht : P.underlying t = some (.map key elem))
    (hkk : plainKey P key = some kk) (hm : VRel φ m m') (hk : VRel φ k k') (hv : VRel φ v v') (h : mapupdV kk m k v H = some H') :
    ∃ w', (Instr.mapUpdate t m' k' v').run P w = .ok () w' ∧ Rel ng w0 φ H' w' ∧ ∃ b i y, φ b = some i ∧ H' = H.set b y := by
  unfold mapupdV at h
  split at h
  · rename_i r0
    split at h
    · rename_i es hes
      simp only [Option.bind_eq_some_iff, Option.map_eq_some_iff] at h
      obtain ⟨b, hb, es1, hput, rfl⟩ := h
      cases hm with
      | map hi =>
        rename_i i
        obtain ⟨ob, hob, hbr⟩ := hR.blk _ _ _ hes hi
        cases ob <;> simp only [BRel] at hbr
        rename_i ds cl
        have hkind := plainKey_is hkk
        obtain ⟨d, hd, _⟩ := keyEq_run hk hk hkind hb
        have hu : (underlying t).run P w = .ok (.map key elem) w := by simp [underlying, ht]
        have hg : (getObj i.cb).run P w = .ok (.map ds cl) w := by simp [getObj, Sem.run, hob]
        have hck : (Instr.checkKey false 10000 key k').run P w = .ok () w := checkKey_run 9999 hk hkind hb
        have hset : ∀ ds1 cl1, (setObj i.cb (.map ds1 cl1)).run P w = .ok () { w with heap := w.heap.setIfInBounds i.cb (.map ds1 cl1) } := by
          intro ds1 cl1; simp [setObj, Sem.run, hob]
        rcases findE_at hk hv hkind hd es es1 ds.toList 0 hbr.2.2.2.1 hbr.2.2.2.2 hput with ⟨g1, g2⟩ | ⟨j, u, x, e, g1, g2, g3, g4, g5, g6⟩
        · have hf : (Instr.findKey key k' ds.toList).run P w = .ok none w := by simp [Instr.findKey, underlying, hd, g1]
          refine ⟨{ w with heap := w.heap.setIfInBounds i.cb (.map (ds.push { key := k', val := v', born := cl }) (cl + 1)) }, ?_, ?_, ⟨_, _, _, hi, rfl⟩⟩
          · simp only [Instr.mapUpdate, Sem.run_bind, hu, Result.andThen_ok, hg, hck, hf, hset]
          · refine hR.setMap hi hes ?_ ?_
            · rw [g2]; simp only [List.map_append, Array.toList_push, List.map_cons, List.map_nil]; exact hbr.2.2.2.1.append (.cons hk .nil)
            · rw [g2]; simp only [List.map_append, Array.toList_push, List.map_cons, List.map_nil]; exact hbr.2.2.2.2.append (.cons hv .nil)
        · rw [Nat.zero_add] at g1
          have hf : (Instr.findKey key k' ds.toList).run P w = .ok (some (j, u)) w := by simp [Instr.findKey, underlying, hd, g1]
          obtain ⟨s1, s2⟩ := sameBits_of_keyEq hk g3 g4 9999
          have hj : ds[j]? = some e := by simpa using g2
          have hstays : (Instr.keyThatStays (((ds[j]?).map (·.key)).getD k') k').run P w = .ok k' w := by
            simp only [hj, Option.map_some, Option.getD_some, Instr.keyThatStays]
            rw [if_pos s1]
            rfl
          refine ⟨{ w with heap := w.heap.setIfInBounds i.cb (.map (ds.modify j fun e => { e with key := k', val := v' }) cl) }, ?_, ?_, ⟨_, _, _, hi, rfl⟩⟩
          · simp only [Instr.mapUpdate, Sem.run_bind, hu, Result.andThen_ok, hg, hck, hf, hstays, hset]
          · have hmod : (ds.modify j fun e => { e with key := k', val := v' }).toList = ds.toList.set j { e with key := k', val := v' } := by
              apply List.ext_getElem?
              intro q
              rw [Array.getElem?_toList, Array.getElem?_modify, List.getElem?_set]
              split
              · rename_i hjq
                subst hjq
                have : j < ds.toList.length := by
                  rcases Nat.lt_or_ge j ds.toList.length with hh | hh
                  · exact hh
                  · rw [List.getElem?_eq_none hh] at g2; simp at g2
                rw [if_pos this, hj]
                rfl
              · simp
            refine hR.setMap hi hes ?_ ?_
            · rw [hmod]; exact g5
            · rw [hmod]; exact g6
    · simp at h
  · simp at h

theorem mkmap_ok {t key elem : TypeId} {N : Nat} (hN : N ≤ w.heap.size) (ht : P.underlying t = some (.map key elem)) (b : Nat) :
    Made P N φ w (Instr.makeMap t none) (.map (some b)) b (.map []) := by
  refine ⟨.map (some w.heap.size), .map #[] 0, ⟨w.heap.size, 0, 1, 0⟩, by simp [Instr.makeMap], rfl, ⟨hN, rfl, rfl, .nil, .nil⟩, fun ψ hψ => ?_⟩
  exact VRel.map (i := ⟨w.heap.size, 0, 1, 0⟩) hψ

end
end Ck

/-
Structs of integers alone, compared.
-/
set_option linter.unusedSimpArgs false
set_option linter.unusedVariables false
namespace Ck
open Go

section
variable {P : Program} {ng : Nat} {w0 : World} {φ : Inj} {H : Heap} {w : World}

theorem part_int {t : TypeId} {k : IntKind} {cs : Array Value} {o : Nat} {v : Value} (ht : P.underlying t = some (.int k)) (h : cs[o]? = some v) :
    (part t cs o).run P w = .ok v w := by
  simp [part, isAgg, underlying, ht, h]

theorem equalIn_int {t : TypeId} {k k1 : IntKind} (ht : P.underlying t = some (.int k)) (d : Nat) (a b : Int) : (Op.equalIn (d + 1) t (.int k1 a) (.int k1 b)).run P w = .ok (a == b) w := by
  simp [Op.equalIn, underlying, ht]

theorem intsEq_cons {x : Value} {xs ys : List Value} {r : Bool} (h : intsEq (x :: xs) ys = some r) :
    ∃ k a b ys' r', x = .int k a ∧ ys = .int k b :: ys' ∧ intsEq xs ys' = some r' ∧ r = ((a == b) && r') := by
  cases ys with
  | nil => simp [intsEq] at h
  | cons y ys =>
    cases x <;> cases y <;> simp only [intsEq, reduceCtorEq] at h
    split at h
    · rename_i hk
      subst hk
      simp only [Option.map_eq_some_iff] at h
      obtain ⟨r', hr, rfl⟩ := h
      exact ⟨_, _, _, _, r', rfl, rfl, hr, rfl⟩
    · simp at h

/-- A loop that leaves at the first difference. -/
theorem run_fields (B : Field → Option Bool × Unit → Sem (ForInStep (Option Bool × Unit))) (cs ds : Array Value)
    (hB : ∀ (f : Field) (k : IntKind) (k1 : IntKind) (a b : Int), f.name ≠ "_" → P.underlying f.type = some (.int k) → cs[f.offset]? = some (.int k1 a) → ds[f.offset]? = some (.int k1 b) →
      (B f (none, ())).run P w = .ok (if a == b then .yield (none, ()) else .done (some false, ())) w) :
    ∀ (l : List Field) (o : Nat) (xs ys : List Value) (r : Bool), intFields P o l = true → xs.length = l.length → intsEq xs ys = some r → cs.toList.drop o = xs → ds.toList.drop o = ys →
      (forIn l ((none : Option Bool), ()) B).run P w = .ok (if r then (none, ()) else (some false, ())) w := by
  intro l
  induction l with
  | nil =>
    intro o xs ys r _ hl h _ _
    have : xs = [] := List.eq_nil_of_length_eq_zero hl
    subst this
    cases ys with
    | nil => simp [intsEq] at h; subst h; simp
    | cons => simp [intsEq] at h
  | cons f l ih =>
    intro o xs ys r hf hl h hc hd
    cases xs with
    | nil => simp at hl
    | cons x xs =>
      obtain ⟨k1, a, b, ys', r', rfl, rfl, hr', rfl⟩ := intsEq_cons h
      · · simp only [intFields, Bool.and_eq_true, bne_iff_ne, ne_eq, beq_iff_eq] at hf
          obtain ⟨⟨⟨⟨f1, f2⟩, f3⟩, f4⟩, f5⟩ := hf
          have hu : ∃ k, P.underlying f.type = some (.int k) := by
            split at f4
            · exact ⟨_, ‹_›⟩
            · simp at f4
          obtain ⟨k, hu⟩ := hu
          have hcx : cs[f.offset]? = some (.int k1 a) := by
            have := congrArg (fun l => l[0]?) hc
            simp only [List.getElem?_drop, List.getElem?_cons_zero, Nat.add_zero] at this
            rw [f2]; simpa using this
          have hdy : ds[f.offset]? = some (.int k1 b) := by
            have := congrArg (fun l => l[0]?) hd
            simp only [List.getElem?_drop, List.getElem?_cons_zero, Nat.add_zero] at this
            rw [f2]; simpa using this
          have hb := hB f k k1 a b f1 hu hcx hdy
          have hc' : cs.toList.drop (o + 1) = xs := by rw [← List.drop_drop, hc]; rfl
          have hd' : ds.toList.drop (o + 1) = ys' := by rw [← List.drop_drop, hd]; rfl
          have hi := ih (o + 1) xs ys' r' f5 (by simpa using hl) hr' hc' hd'
          simp only [List.forIn_cons, Sem.run_bind, hb, Result.andThen_ok]
          by_cases hab : (a == b) = true
          · simp only [hab, if_true, Bool.true_and]
            exact hi
          · simp only [Bool.not_eq_true] at hab
            simp [hab]

theorem equalIn_ints {t : TypeId} {fs : Array Field} {xs ys : List Value} {r : Bool} (ht : P.underlying t = some (.struct fs)) (hst : P.stoodInHeld t = false)
    (hf : intFields P 0 fs.toList = true) (hlen : xs.length = fs.size) (h : intsEq xs ys = some r) (d : Nat) :
    (Op.equalIn (d + 2) t (.agg xs.toArray) (.agg ys.toArray)).run P w = .ok r w := by
  rw [show d + 2 = (d + 1) + 1 from rfl, Op.equalIn]
  simp only [Sem.run_bind, underlying, run_program, Result.andThen_ok, ht, Sem.run_pure, hst, Bool.false_eq_true, if_false]
  rw [← Array.forIn_toList]
  refine (congrArg (fun x => Result.andThen x _) (run_fields (P := P) (w := w) _ xs.toArray ys.toArray ?_ fs.toList 0 xs ys r hf (by simpa using hlen) h (by simp) (by simp))).trans ?_
  · intro f k k1 a b h1 h2 h3 h4
    have e1 := part_int (P := P) (w := w) h2 h3
    have e2 := part_int (P := P) (w := w) h2 h4
    have e3 := equalIn_int (P := P) (w := w) (k1 := k1) h2 d a b
    simp only [if_pos h1, Sem.run_bind, e1, Result.andThen_ok, e2, e3]
    cases (a == b) <;> simp
  · cases r <;> simp

theorem agg_ok {op : BinOp} {t : TypeId} {x y : Operand} {fs : Array Field} {a b a' b' v : Value} (ha : VRel φ a a') (hb : VRel φ b b') (ho : op = .eql ∨ op = .neq)
    (ht : P.underlying t = some (.struct fs)) (hst : P.stoodInHeld t = false) (hg : P.eqGuardType P.depth t = false)
    (hf : intFields P 0 fs.toList = true) (h : aggV fs.size (op = .neq) a b = some v) :
    Gives P φ w (do eqGuard op t x y a' b'; Go.binOp op t a' b') v := by
  unfold aggV at h
  split at h
  · rename_i xs ys
    split at h
    · simp at h
    rename_i hsz
    simp only [ne_eq, Decidable.not_not] at hsz
    simp only [Option.map_eq_some_iff] at h
    obtain ⟨r, hr, rfl⟩ := h
    cases ha with
    | agg hla =>
      cases hb with
      | agg hlb =>
        rename_i xs xs' ys ys'
        have key : ∀ (xs xs' ys ys' : List Value) (r : Bool), LRel φ xs xs' → LRel φ ys ys' → intsEq xs ys = some r → intsEq xs' ys' = some r := by
          intro xs
          induction xs with
          | nil =>
            intro xs' ys ys' r h1 h2 h
            cases h1
            cases ys with
            | nil => cases h2; exact h
            | cons => simp [intsEq] at h
          | cons x xs ih =>
            intro xs' ys ys' r h1 h2 h
            cases h1 with
            | cons hx hxs =>
              obtain ⟨k1, p, q, ys1, r', rfl, rfl, hr', rfl⟩ := intsEq_cons h
              cases h2 with
              | cons hy hys =>
                cases hx; cases hy
                simp [intsEq, ih _ _ _ _ hxs hys hr']
        have hr2 := key _ _ _ _ r hla hlb (by simpa using hr)
        have hlen : xs'.length = fs.size := by rw [← hla.length]; simpa using hsz
        have he := equalIn_ints (P := P) (w := w) ht hst hf hlen hr2 9998
        have heq : (Op.equal t (.agg xs'.toArray) (.agg ys'.toArray)).run P w = .ok r w := he
        have hguard : (eqGuard op t x y (.agg xs'.toArray) (.agg ys'.toArray)).run P w = .ok () w := by
          rcases ho with rfl | rfl <;> simp [eqGuard, hg]
        refine .of ?_ (.bool _)
        rcases ho with rfl | rfl
        · have : Go.binOp .eql t (.agg xs'.toArray) (.agg ys'.toArray) = (do pure (.bool (← Op.equal t (.agg xs'.toArray) (.agg ys'.toArray)))) := rfl
          simp only [Sem.run_bind, hguard, Result.andThen_ok, this, heq, Sem.run_pure]
          cases r <;> rfl
        · have : Go.binOp .neq t (.agg xs'.toArray) (.agg ys'.toArray) = (do pure (.bool (!(← Op.equal t (.agg xs'.toArray) (.agg ys'.toArray))))) := rfl
          simp only [Sem.run_bind, hguard, Result.andThen_ok, this, heq, Sem.run_pure]
          cases r <;> rfl
  · simp at h

end
end Ck
