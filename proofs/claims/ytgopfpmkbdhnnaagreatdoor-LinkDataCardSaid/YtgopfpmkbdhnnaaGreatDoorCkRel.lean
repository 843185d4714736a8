/-
The relation between the abstract machine's heap and the model's world, and what keeps it.
-/
import Derived.Test.YtgopfpmkbdhnnaaGreatDoorCkAbs
import Derived.Laws.Cells
import Derived.Laws.World
import Derived.Laws.Sem
set_option linter.unusedSimpArgs false
set_option linter.unusedVariables false
namespace Ck
open Go

/-- Where an abstract block stands: block, first cell, behind the last cell that it owns, cells of an element. -/
structure Info where
  cb : Nat
  lo : Nat
  hi : Nat
  sz : Nat

abbrev Inj := Nat → Option Info

mutual
inductive VRel (φ : Inj) : Value → Value → Prop where
  | bool (b : Bool) : VRel φ (.bool b) (.bool b)
  | int (k : IntKind) (n : Int) : VRel φ (.int k n) (.int k n)
  | string (s : ByteArray) : VRel φ (.string s) (.string s)
  | nilptr : VRel φ (.pointer none) (.pointer none)
  | ptr {b o : Nat} {i : Info} (h : φ b = some i) : VRel φ (.pointer (some ⟨b, o, none⟩)) (.pointer (some ⟨i.cb, i.lo + o, none⟩))
  | nilslice : VRel φ (.slice none 0 0) (.slice none 0 0)
  | slice {b o n c cc : Nat} {i : Info} {ca : Addr} (h : φ b = some i) (hn : n ≤ cc) (hx : c = n → cc = n)
      (ha : 0 < cc → ca = ⟨i.cb, i.lo + o, none⟩ ∧ i.lo + o + cc * i.sz ≤ i.hi) : VRel φ (.slice (some ⟨b, o, none⟩) n c) (.slice (some ca) n cc)
  | nilmap : VRel φ (.map none) (.map none)
  | map {r : Nat} {i : Info} (h : φ r = some i) : VRel φ (.map (some r)) (.map (some i.cb))
  | nilfunc : VRel φ .nilFunc .nilFunc
  | func (f : FuncId) {xs ys us vs : List Value} (h : LRel φ xs ys) (h' : LRel φ us vs) : VRel φ (.func (.func f) xs.toArray us.toArray) (.func (.func f) ys.toArray vs.toArray)
  | niliface : VRel φ .nilIface .nilIface
  | iface (t : TypeId) {x y : Value} (h : VRel φ x y) : VRel φ (.iface t x) (.iface t y)
  | agg {xs ys : List Value} (h : LRel φ xs ys) : VRel φ (.agg xs.toArray) (.agg ys.toArray)
  | tuple {xs ys : List Value} (h : LRel φ xs ys) : VRel φ (.tuple xs.toArray) (.tuple ys.toArray)
inductive LRel (φ : Inj) : List Value → List Value → Prop where
  | nil : LRel φ [] []
  | cons {x y : Value} {xs ys : List Value} (h : VRel φ x y) (hs : LRel φ xs ys) : LRel φ (x :: xs) (y :: ys)
end

def Inj.le (φ ψ : Inj) : Prop := ∀ b i, φ b = some i → ψ b = some i

theorem Inj.le.refl (φ : Inj) : Inj.le φ φ := fun _ _ h => h
theorem Inj.le.trans {φ ψ χ : Inj} (h : Inj.le φ ψ) (h' : Inj.le ψ χ) : Inj.le φ χ := fun b i hb => h' b i (h b i hb)

mutual
theorem VRel.mono {φ ψ : Inj} (hle : Inj.le φ ψ) : ∀ {x y : Value}, VRel φ x y → VRel ψ x y
  | _, _, .bool b => .bool b
  | _, _, .int k n => .int k n
  | _, _, .string s => .string s
  | _, _, .nilptr => .nilptr
  | _, _, .ptr h => .ptr (hle _ _ h)
  | _, _, .nilslice => .nilslice
  | _, _, .slice h hn hx ha => .slice (hle _ _ h) hn hx ha
  | _, _, .nilmap => .nilmap
  | _, _, .map h => .map (hle _ _ h)
  | _, _, .nilfunc => .nilfunc
  | _, _, .func f h h' => .func f (LRel.mono hle h) (LRel.mono hle h')
  | _, _, .niliface => .niliface
  | _, _, .iface t h => .iface t (VRel.mono hle h)
  | _, _, .agg h => .agg (LRel.mono hle h)
  | _, _, .tuple h => .tuple (LRel.mono hle h)
theorem LRel.mono {φ ψ : Inj} (hle : Inj.le φ ψ) : ∀ {xs ys : List Value}, LRel φ xs ys → LRel ψ xs ys
  | _, _, .nil => .nil
  | _, _, .cons h hs => .cons (VRel.mono hle h) (LRel.mono hle hs)
end

section LRel
variable {φ : Inj}

theorem LRel.length {xs ys : List Value} (h : LRel φ xs ys) : xs.length = ys.length := by
  induction xs generalizing ys with
  | nil => cases h; rfl
  | cons x xs ih => cases h with | cons h hs => simp [ih hs]

theorem LRel.get {xs ys : List Value} (h : LRel φ xs ys) {k : Nat} {x : Value} (hx : xs[k]? = some x) : ∃ y, ys[k]? = some y ∧ VRel φ x y := by
  induction xs generalizing ys k with
  | nil => simp at hx
  | cons x xs ih =>
    cases h with
    | cons h hs =>
      cases k with
      | zero => simp at hx; subst hx; exact ⟨_, by simp, h⟩
      | succ k => simp at hx; obtain ⟨y, hy, hv⟩ := ih hs hx; exact ⟨y, by simpa using hy, hv⟩

theorem LRel.append {xs ys us vs : List Value} (h : LRel φ xs ys) (h' : LRel φ us vs) : LRel φ (xs ++ us) (ys ++ vs) := by
  induction xs generalizing ys with
  | nil => cases h; exact h'
  | cons x xs ih => cases h with | cons h hs => exact .cons h (ih hs)

theorem LRel.take {xs ys : List Value} (h : LRel φ xs ys) (n : Nat) : LRel φ (xs.take n) (ys.take n) := by
  induction xs generalizing ys n with
  | nil => cases h; simp; exact .nil
  | cons x xs ih =>
    cases h with
    | cons h hs =>
      cases n with
      | zero => exact .nil
      | succ n => exact .cons h (ih hs n)

theorem LRel.drop {xs ys : List Value} (h : LRel φ xs ys) (n : Nat) : LRel φ (xs.drop n) (ys.drop n) := by
  induction xs generalizing ys n with
  | nil => cases h; simp; exact .nil
  | cons x xs ih =>
    cases h with
    | cons h hs =>
      cases n with
      | zero => exact .cons h hs
      | succ n => exact ih hs n

theorem LRel.set {xs ys : List Value} (h : LRel φ xs ys) {x y : Value} (hv : VRel φ x y) (n : Nat) : LRel φ (xs.set n x) (ys.set n y) := by
  induction xs generalizing ys n with
  | nil => cases h; exact .nil
  | cons x xs ih =>
    cases h with
    | cons h hs =>
      cases n with
      | zero => exact .cons hv hs
      | succ n => exact .cons h (ih hs n)

theorem LRel.of_get : ∀ {xs ys : List Value}, xs.length = ys.length → (∀ (k : Nat) x, xs[k]? = some x → ∃ y, ys[k]? = some y ∧ VRel φ x y) → LRel φ xs ys
  | [], [], _, _ => .nil
  | x :: xs, y :: ys, hl, h => by
    refine .cons ?_ (LRel.of_get (by simpa using hl) fun k x hx => ?_)
    · obtain ⟨y', hy, hv⟩ := h 0 x rfl; simp at hy; subst hy; exact hv
    · obtain ⟨y', hy, hv⟩ := h (k + 1) x (by simpa using hx); exact ⟨y', by simpa using hy, hv⟩
  | [], _ :: _, hl, _ => by simp at hl
  | _ :: _, [], hl, _ => by simp at hl

theorem LRel.map {α : Type} (l : List α) (f g : α → Value) (h : ∀ x ∈ l, VRel φ (f x) (g x)) : LRel φ (l.map f) (l.map g) := by
  induction l with
  | nil => exact .nil
  | cons a l ih => exact .cons (h a (by simp)) (ih fun x hx => h x (by simp [hx]))

theorem LRel.flatten_replicate {xs ys : List Value} (h : LRel φ xs ys) (n : Nat) : LRel φ (List.replicate n xs).flatten (List.replicate n ys).flatten := by
  induction n with
  | zero => exact .nil
  | succ n ih => rw [List.replicate_succ, List.replicate_succ, List.flatten_cons, List.flatten_cons]; exact h.append ih

theorem VRel.flat {x y : Value} (h : VRel φ x y) : flat x = flat y := by cases h <;> rfl

theorem VRel.cells {x y : Value} (h : VRel φ x y) : LRel φ x.cells.toList y.cells.toList := by
  cases h with
  | agg h => exact h
  | _ => simp only [Value.cells]; first
    | exact .cons (by first | exact .bool _ | exact .int _ _ | exact .string _ | exact .nilptr | exact .nilslice | exact .nilmap | exact .nilfunc | exact .niliface) .nil
    | exact .cons (.ptr ‹_›) .nil
    | exact .cons (.slice ‹_› ‹_› ‹_› ‹_›) .nil
    | exact .cons (.map ‹_›) .nil
    | exact .cons (.func _ ‹_› ‹_›) .nil
    | exact .cons (.iface _ ‹_›) .nil
    | exact .cons (.tuple ‹_›) .nil
end LRel

def wr : Blk → Bool
  | .cells _ ro _ => !ro
  | .map _ => true

/-- A block of the machine's and what stands for it in the world. -/
def BRel (φ : Inj) (N : Nat) (x : Blk) (i : Info) (o : Obj) : Prop :=
  match x, o with
  | .cells e ro cs, .cells c _ fr => i.sz = e ∧ i.lo + cs.length ≤ i.hi ∧ i.hi ≤ c.size ∧ LRel φ cs ((c.toList.drop i.lo).take cs.length) ∧ cs.all flat = true ∧
      (ro = false → N ≤ i.cb ∧ (fr.1 = fr.2 ∨ c.size ≤ fr.1))
  | .map es, .map es' _ => N ≤ i.cb ∧ i.lo = 0 ∧ i.hi = 1 ∧ LRel φ (es.map (·.1)) (es'.toList.map (·.key)) ∧ LRel φ (es.map (·.2)) (es'.toList.map (·.val))
  | _, _ => False

structure Rel (ng : Nat) (w0 : World) (φ : Inj) (H : Heap) (w : World) : Prop where
  dom : ∀ b i, φ b = some i → b < H.next
  live : ∀ b x, H.blk b = some x → b < H.next
  blk : ∀ b x i, H.blk b = some x → φ b = some i → ∃ o, w.heap[i.cb]? = some o ∧ BRel φ w0.heap.size x i o
  apart : ∀ b b' x x' i i', b ≠ b' → H.blk b = some x → H.blk b' = some x' → φ b = some i → φ b' = some i' → wr x = true →
    i.cb ≠ i'.cb ∨ i.hi ≤ i'.lo ∨ i'.hi ≤ i.lo
  glob : ∀ g, g < ng → ∃ i, φ g = some i ∧ i.cb = g ∧ i.lo = 0
  ng : ng ≤ H.next
  old : ∀ k, k < w0.heap.size → w.heap[k]? = w0.heap[k]?
  size : w0.heap.size ≤ w.heap.size
  os : w.os = w0.os
  output : w.output = w0.output

section
variable {ng : Nat} {w0 : World} {φ : Inj} {H : Heap} {w : World}

theorem Rel.drew (h : Rel ng w0 φ H w) : Rel ng w0 φ H w.drew := ⟨h.dom, h.live, h.blk, h.apart, h.glob, h.ng, h.old, h.size, h.os, h.output⟩

/-! ### Reading -/

theorem getElem?_take_drop {α : Type} (l : List α) (a n k : Nat) (hk : k < n) : ((l.drop a).take n)[k]? = l[a + k]? := by
  rw [List.getElem?_take_of_lt hk, List.getElem?_drop]

theorem Rel.ld (h : Rel ng w0 φ H w) {b o : Nat} {i : Info} {v : Value} (hi : φ b = some i) (hv : H.ld b o = some v) :
    ∃ v', w.cell? ⟨i.cb, i.lo + o, none⟩ = some v' ∧ VRel φ v v' := by
  unfold Heap.ld at hv
  split at hv
  · rename_i e ro cs hb
    obtain ⟨o', ho, hr⟩ := h.blk _ _ _ hb hi
    cases o' <;> simp only [BRel] at hr
    rename_i c ty fr
    obtain ⟨h1, h2, h3, h4, hfl, h5⟩ := hr
    obtain ⟨v', hv', hvr⟩ := h4.get hv
    refine ⟨v', ?_, hvr⟩
    have hlt : o < cs.length := by
      rcases Nat.lt_or_ge o cs.length with hlt | hge
      · exact hlt
      · rw [List.getElem?_eq_none hge] at hv; simp at hv
    rw [getElem?_take_drop _ _ _ _ hlt] at hv'
    simp only [World.cell?, ho]
    simpa using hv'
  · simp at hv

theorem Rel.lds (h : Rel ng w0 φ H w) {b o n : Nat} {i : Info} {l : List Value} (hi : φ b = some i) (hv : H.lds b o n = some l) :
    ∃ l', l.length = n ∧ l.all flat = true ∧ LRel φ l l' ∧ ∀ (j : Nat) v, l'[j]? = some v → w.cell? ⟨i.cb, i.lo + o + j, none⟩ = some v := by
  unfold Heap.lds at hv
  split at hv
  · rename_i e ro cs hb
    split at hv
    · rename_i hle
      simp only [Option.some.injEq] at hv
      obtain ⟨o', ho, hr⟩ := h.blk _ _ _ hb hi
      cases o' <;> simp only [BRel] at hr
      rename_i c ty fr
      obtain ⟨h1, h2, h3, h4, hfl, h5⟩ := hr
      refine ⟨(((c.toList.drop i.lo).take cs.length).drop o).take n, by rw [← hv]; simp; omega, by rw [← hv, List.all_eq_true] at *; exact fun x hx => hfl x (List.mem_of_mem_drop (List.mem_of_mem_take hx)), by rw [← hv]; exact (h4.drop o).take n, ?_⟩
      intro j v hj
      have hjn : j < n := by
        rcases Nat.lt_or_ge j n with hlt | hge
        · exact hlt
        · rw [List.getElem?_eq_none (by simp; omega)] at hj; simp at hj
      rw [getElem?_take_drop _ _ _ _ hjn, getElem?_take_drop _ _ _ _ (by omega)] at hj
      simp only [World.cell?, ho]
      simpa [Nat.add_assoc] using hj
    · simp at hv
  · simp at hv

/-! ### Writing -/

theorem World.heap_setCell (w : World) (a : Addr) (v : Value) (k : Nat) :
    (w.setCell a v).heap[k]? = if a.block = k then (w.heap[k]?).map (fun
      | .cells c elem frozen => .cells (if a.spot.isSome then c else c.setIfInBounds a.off v) elem frozen
      | o => o) else w.heap[k]? := by
  simp only [World.setCell, Array.getElem?_modify]
  split <;> rfl

theorem drop_take_set {α : Type} (l : List α) (a n k : Nat) (v : α) (hk : k < n) :
    ((l.set (a + k) v).drop a).take n = (((l.drop a).take n).set k v) := by
  apply List.ext_getElem?
  intro j
  by_cases hj : j < n
  · rw [getElem?_take_drop _ _ _ _ hj]
    rw [List.getElem?_set, List.getElem?_set]
    by_cases hjk : k = j
    · subst hjk
      simp only [if_true]
      by_cases hl : a + k < l.length
      · rw [if_pos hl, if_pos (by simp; omega)]
      · rw [if_neg hl, if_neg (by simp; omega)]
    · rw [if_neg (by omega), if_neg hjk, getElem?_take_drop _ _ _ _ hj]
  · rw [List.getElem?_eq_none (by simp; omega), List.getElem?_eq_none (by simp; omega)]

theorem drop_take_set_out {α : Type} (l : List α) (a n k : Nat) (v : α) (hk : k < a ∨ a + n ≤ k) :
    ((l.set k v).drop a).take n = (l.drop a).take n := by
  apply List.ext_getElem?
  intro j
  by_cases hj : j < n
  · rw [getElem?_take_drop _ _ _ _ hj, getElem?_take_drop _ _ _ _ hj, List.getElem?_set, if_neg (by omega)]
  · rw [List.getElem?_eq_none (by simp; omega), List.getElem?_eq_none (by simp; omega)]

theorem all_set {cs : List Value} {v : Value} (h : cs.all flat = true) (hv : flat v = true) (o : Nat) : (cs.set o v).all flat = true := by
  rw [List.all_eq_true] at h ⊢
  intro x hx
  rcases List.mem_or_eq_of_mem_set hx with hx | rfl
  · exact h x hx
  · exact hv

/-- One cell is set, in a block that may be written. -/
theorem Rel.setCell (h : Rel ng w0 φ H w) {b o : Nat} {i : Info} {v v' : Value} {e : Nat} {cs : List Value} (hi : φ b = some i)
    (hb : H.blk b = some (.cells e false cs)) (ho : o < cs.length) (hv : VRel φ v v') (hfv : flat v = true) :
    (∃ u, w.cell? ⟨i.cb, i.lo + o, none⟩ = some u) ∧ w.frozen? ⟨i.cb, i.lo + o, none⟩ = false ∧
      Rel ng w0 φ (H.set b (some (.cells e false (cs.set o v)))) (w.setCell ⟨i.cb, i.lo + o, none⟩ v') := by
  obtain ⟨ob, hob, hr⟩ := h.blk _ _ _ hb hi
  cases ob <;> simp only [BRel] at hr
  rename_i c ty fr
  obtain ⟨h1, h2, h3, h4, hfl, h5⟩ := hr
  obtain ⟨hN, hf⟩ := h5 trivial
  have hlt : i.lo + o < c.size := by omega
  refine ⟨⟨c[i.lo + o], by simp [World.cell?, hob, hlt]⟩, ?_, ?_⟩
  · obtain ⟨f1, f2⟩ := fr
    simp only [World.frozen?, hob]
    simp only at hf
    simp; omega
  · have key : ∀ k : Nat, k ≠ i.cb → (w.setCell ⟨i.cb, i.lo + o, none⟩ v').heap[k]? = w.heap[k]? := by
      intro k hk
      rw [World.heap_setCell]
      simp only [if_neg (Ne.symm hk)]
    have here : (w.setCell ⟨i.cb, i.lo + o, none⟩ v').heap[i.cb]? = some (.cells (c.setIfInBounds (i.lo + o) v') ty fr) := by
      rw [World.heap_setCell]
      simp [hob]
    refine ⟨h.dom, ?_, ?_, ?_, h.glob, h.ng, ?_, ?_, h.os, h.output⟩
    · intro b' x hx
      simp only [Heap.set] at hx ⊢
      split at hx
      · rename_i heq; subst heq; exact h.live _ _ hb
      · exact h.live _ _ hx
    · intro b' x i' hx hi'
      simp only [Heap.set] at hx
      split at hx
      · rename_i heq
        subst heq
        simp only [Option.some.injEq] at hx
        subst hx
        rw [hi] at hi'
        simp only [Option.some.injEq] at hi'
        subst hi'
        refine ⟨_, here, ?_⟩
        simp only [BRel]
        refine ⟨h1, by simpa using h2, by simpa using h3, ?_, all_set hfl hfv o, fun _ => ⟨hN, by simpa using hf⟩⟩
        rw [Array.toList_setIfInBounds, List.length_set, drop_take_set _ _ _ _ _ ho]
        exact h4.set hv o
      · rename_i hne
        obtain ⟨o', ho', hr'⟩ := h.blk _ _ _ hx hi'
        by_cases hcb : i'.cb = i.cb
        · rw [hcb, hob] at ho'
          simp only [Option.some.injEq] at ho'
          subst ho'
          refine ⟨_, by rw [hcb]; exact here, ?_⟩
          cases x with
          | map es => simp [BRel] at hr'
          | cells e' ro' cs' =>
            simp only [BRel] at hr' ⊢
            obtain ⟨g1, g2, g3, g4, g6, g5⟩ := hr'
            refine ⟨g1, g2, by simpa using g3, ?_, g6, fun hro => ⟨(g5 hro).1, by simpa using (g5 hro).2⟩⟩
            rw [Array.toList_setIfInBounds, drop_take_set_out]
            · exact g4
            · have := h.apart b b' _ _ _ _ (Ne.symm hne) hb hx hi hi' rfl
              rcases this with hh | hh | hh
              · exact absurd hcb.symm hh
              · left; omega
              · right; omega
        · exact ⟨o', by rw [key _ hcb]; exact ho', hr'⟩
    · intro b1 b2 x1 x2 i1 i2 hne hx1 hx2 hi1 hi2 hw
      simp only [Heap.set] at hx1 hx2
      have fix : ∀ b' x, (if b' = b then some (Blk.cells e false (cs.set o v)) else H.blk b') = some x → ∃ x0, H.blk b' = some x0 ∧ wr x0 = wr x := by
        intro b' x hx
        split at hx
        · rename_i heq; subst heq; simp only [Option.some.injEq] at hx; subst hx; exact ⟨_, hb, rfl⟩
        · exact ⟨x, hx, rfl⟩
      obtain ⟨y1, hy1, hw1⟩ := fix _ _ hx1
      obtain ⟨y2, hy2, hw2⟩ := fix _ _ hx2
      exact h.apart _ _ _ _ _ _ hne hy1 hy2 hi1 hi2 (by rw [hw1]; exact hw)
    · intro k hk
      rw [key k (by omega)]
      exact h.old k hk
    · simpa using h.size

/-- A block is no more. -/
theorem Rel.kill (h : Rel ng w0 φ H w) (b : Nat) : Rel ng w0 φ (H.set b none) w := by
  have fix : ∀ b' x, (H.set b none).blk b' = some x → H.blk b' = some x := by
    intro b' x hx
    simp only [Heap.set] at hx
    split at hx
    · simp at hx
    · exact hx
  exact ⟨h.dom, fun b' x hx => h.live _ _ (fix _ _ hx), fun b' x i hx hi => h.blk _ _ _ (fix _ _ hx) hi,
    fun b1 b2 x1 x2 i1 i2 hne h1 h2 => h.apart _ _ _ _ _ _ hne (fix _ _ h1) (fix _ _ h2), h.glob, h.ng, h.old, h.size, h.os, h.output⟩

/-- A block that stands for nothing. -/
theorem Rel.phantom (h : Rel ng w0 φ H w) (x : Blk) : Rel ng w0 φ (H.new x) w := by
  have fix : ∀ b i y, φ b = some i → (H.new x).blk b = some y → H.blk b = some y := by
    intro b i y hi hy
    have := h.dom _ _ hi
    simp only [Heap.new] at hy
    rw [if_neg (by omega)] at hy
    exact hy
  refine ⟨fun b i hi => Nat.lt_succ_of_lt (h.dom _ _ hi), ?_, fun b y i hy hi => h.blk _ _ _ (fix _ _ _ hi hy) hi,
    fun b1 b2 x1 x2 i1 i2 hne h1 h2 g1 g2 => h.apart _ _ _ _ _ _ hne (fix _ _ _ g1 h1) (fix _ _ _ g2 h2) g1 g2, h.glob, Nat.le_succ_of_le h.ng, h.old, h.size, h.os, h.output⟩
  intro b y hy
  simp only [Heap.new] at hy ⊢
  split at hy
  · omega
  · exact Nat.lt_succ_of_lt (h.live _ _ hy)

def Inj.put (φ : Inj) (b : Nat) (i : Info) : Inj := fun c => if c = b then some i else φ c

theorem Inj.le_put {φ : Inj} {b : Nat} {i : Info} (h : φ b = none) : Inj.le φ (φ.put b i) := by
  intro c j hc
  simp only [Inj.put]
  split
  · rename_i heq; subst heq; rw [h] at hc; simp at hc
  · exact hc

/-- A block that stood for nothing stands for a new one. -/
theorem Rel.give (h : Rel ng w0 φ H w) {b : Nat} {x : Blk} {o : Obj} {i : Info} (hb : H.blk b = some x) (hφ : φ b = none) (hcb : i.cb = w.heap.size)
    (hr : BRel φ w0.heap.size x i o) : Rel ng w0 (φ.put b i) H (w.alloc o) := by
  have hle : Inj.le φ (φ.put b i) := Inj.le_put hφ
  have hmono' : ∀ y j o, BRel φ w0.heap.size y j o → BRel (φ.put b i) w0.heap.size y j o := by
    intro x j o
    cases x <;> cases o <;> simp only [BRel] <;> first
      | exact fun h => h
      | (rintro ⟨h1, h2, h3, h4, h5, h6⟩; exact ⟨h1, h2, h3, LRel.mono hle h4, h5, h6⟩)
      | (rintro ⟨h1, h2, h3, h4, h5⟩; exact ⟨h1, h2, h3, LRel.mono hle h4, LRel.mono hle h5⟩)
  have hold : ∀ k, k < w.heap.size → (w.alloc o).heap[k]? = w.heap[k]? := by
    intro k hk
    simp only [World.alloc, Array.getElem?_push, if_neg (by omega : ¬ k = w.heap.size)]
  have hin : ∀ c y j, H.blk c = some y → φ c = some j → j.cb < w.heap.size := by
    intro c y j hy hj
    obtain ⟨o', ho', _⟩ := h.blk _ _ _ hy hj
    rcases Nat.lt_or_ge j.cb w.heap.size with hlt | hge
    · exact hlt
    · rw [Array.getElem?_eq_none hge] at ho'; simp at ho'
  refine ⟨?_, h.live, ?_, ?_, ?_, h.ng, ?_, ?_, h.os, h.output⟩
  · intro c j hc
    simp only [Inj.put] at hc
    split at hc
    · rename_i heq; subst heq; exact h.live _ _ hb
    · exact h.dom _ _ hc
  · intro c y j hy hc
    simp only [Inj.put] at hc
    split at hc
    · rename_i heq
      subst heq
      simp only [Option.some.injEq] at hc
      subst hc
      rw [hb] at hy
      simp only [Option.some.injEq] at hy
      subst hy
      exact ⟨o, by rw [hcb]; show (w.heap.push o)[w.heap.size]? = some o; simp, hmono' _ _ _ hr⟩
    · obtain ⟨o', ho', hr'⟩ := h.blk _ _ _ hy hc
      exact ⟨o', by rw [hold _ (hin _ _ _ hy hc)]; exact ho', hmono' _ _ _ hr'⟩
  · intro b1 b2 x1 x2 i1 i2 hne hx1 hx2 hi1 hi2 hw
    simp only [Inj.put] at hi1 hi2
    split at hi1
    · split at hi2
      · rename_i e1 e2; exact absurd (e1.trans e2.symm) hne
      · simp only [Option.some.injEq] at hi1; subst hi1
        left; rw [hcb]; exact Nat.ne_of_gt (hin _ _ _ hx2 hi2)
    · split at hi2
      · simp only [Option.some.injEq] at hi2; subst hi2
        left; rw [hcb]; exact Nat.ne_of_lt (hin _ _ _ hx1 hi1)
      · exact h.apart _ _ _ _ _ _ hne hx1 hx2 hi1 hi2 hw
  · intro g hg
    obtain ⟨j, hj, h1, h2⟩ := h.glob g hg
    exact ⟨j, hle _ _ hj, h1, h2⟩
  · intro k hk
    rw [hold _ (Nat.lt_of_lt_of_le hk h.size)]
    exact h.old k hk
  · show w0.heap.size ≤ (w.heap.push o).size; simp; exact Nat.le_succ_of_le h.size

theorem BRel.mono {φ ψ : Inj} (hle : Inj.le φ ψ) {N : Nat} {x : Blk} {i : Info} {o : Obj} : BRel φ N x i o → BRel ψ N x i o := by
  cases x <;> cases o <;> simp only [BRel] <;> first
    | exact fun h => h
    | (rintro ⟨h1, h2, h3, h4, h5, h6⟩; exact ⟨h1, h2, h3, LRel.mono hle h4, h5, h6⟩)
    | (rintro ⟨h1, h2, h3, h4, h5⟩; exact ⟨h1, h2, h3, LRel.mono hle h4, LRel.mono hle h5⟩)

/-- A cell is set that no block owns. -/
theorem Rel.wild (h : Rel ng w0 φ H w) {cb off : Nat} {v : Value} (hN : w0.heap.size ≤ cb)
    (hout : ∀ b x i, H.blk b = some x → φ b = some i → i.cb ≠ cb ∨ off < i.lo ∨ i.hi ≤ off) : Rel ng w0 φ H (w.setCell ⟨cb, off, none⟩ v) := by
  have key : ∀ k : Nat, k ≠ cb → (w.setCell ⟨cb, off, none⟩ v).heap[k]? = w.heap[k]? := by
    intro k hk
    rw [World.heap_setCell]
    simp only [if_neg (Ne.symm hk)]
  refine ⟨h.dom, h.live, ?_, h.apart, h.glob, h.ng, ?_, by simpa using h.size, h.os, h.output⟩
  · intro b x i hx hi
    obtain ⟨o, ho, hr⟩ := h.blk _ _ _ hx hi
    by_cases hcb : i.cb = cb
    · have hout := (hout _ _ _ hx hi).resolve_left (by simpa using hcb)
      subst hcb
      cases x with
      | map es => cases o <;> simp only [BRel] at hr; rename_i es' cl; exact ⟨.map es' cl, by rw [World.heap_setCell]; simp [ho], by simpa only [BRel] using hr⟩
      | cells e ro cs =>
        cases o <;> simp only [BRel] at hr
        rename_i c ty fr
        obtain ⟨g1, g2, g3, g4, g6, g5⟩ := hr
        refine ⟨.cells (c.setIfInBounds off v) ty fr, by rw [World.heap_setCell]; simp [ho], ?_⟩
        simp only [BRel]
        refine ⟨g1, g2, by simpa using g3, ?_, g6, fun hro => ⟨(g5 hro).1, by simpa using (g5 hro).2⟩⟩
        rw [Array.toList_setIfInBounds, drop_take_set_out]
        · exact g4
        · omega
    · exact ⟨o, by rw [key _ hcb]; exact ho, hr⟩
  · intro k hk
    rw [key k (by omega)]
    exact h.old k hk

/-- A new block stands for a part that no block owns. -/
theorem Rel.adopt (h : Rel ng w0 φ H w) {x : Blk} {o : Obj} {i : Info} (ho : w.heap[i.cb]? = some o) (hr : BRel φ w0.heap.size x i o)
    (hout : ∀ b y j, H.blk b = some y → φ b = some j → j.cb ≠ i.cb ∨ i.hi ≤ j.lo ∨ j.hi ≤ i.lo) (hfr : φ H.next = none) : Rel ng w0 (φ.put H.next i) (H.new x) w := by
  have hle : Inj.le φ (φ.put H.next i) := Inj.le_put hfr
  have fixb : ∀ b y, b ≠ H.next → (H.new x).blk b = some y → H.blk b = some y := by
    intro b y hb hy
    simp only [Heap.new] at hy
    rwa [if_neg hb] at hy
  have fixi : ∀ b j, b ≠ H.next → (φ.put H.next i) b = some j → φ b = some j := by
    intro b j hb hj
    simp only [Inj.put] at hj
    rwa [if_neg hb] at hj
  refine ⟨?_, ?_, ?_, ?_, ?_, Nat.le_succ_of_le h.ng, h.old, h.size, h.os, h.output⟩
  · intro b j hj
    by_cases hb : b = H.next
    · subst hb; exact Nat.lt_succ_self _
    · exact Nat.lt_succ_of_lt (h.dom _ _ (fixi _ _ hb hj))
  · intro b y hy
    by_cases hb : b = H.next
    · subst hb; exact Nat.lt_succ_self _
    · exact Nat.lt_succ_of_lt (h.live _ _ (fixb _ _ hb hy))
  · intro b y j hy hj
    by_cases hb : b = H.next
    · subst hb
      simp only [Heap.new, if_true, Option.some.injEq] at hy
      simp only [Inj.put, if_true, Option.some.injEq] at hj
      subst hy; subst hj
      exact ⟨o, ho, hr.mono hle⟩
    · obtain ⟨o', ho', hr'⟩ := h.blk _ _ _ (fixb _ _ hb hy) (fixi _ _ hb hj)
      exact ⟨o', ho', hr'.mono hle⟩
  · intro b1 b2 x1 x2 i1 i2 hne h1 h2 g1 g2 hw
    by_cases hb1 : b1 = H.next
    · have hb2 : b2 ≠ H.next := fun e => hne (hb1.trans e.symm)
      subst hb1
      simp only [Inj.put, if_true, Option.some.injEq] at g1
      subst g1
      have := hout _ _ _ (fixb _ _ hb2 h2) (fixi _ _ hb2 g2)
      rcases this with hh | hh | hh
      · exact .inl (Ne.symm hh)
      · exact .inr (.inl hh)
      · exact .inr (.inr hh)
    · by_cases hb2 : b2 = H.next
      · subst hb2
        simp only [Inj.put, if_true, Option.some.injEq] at g2
        subst g2
        have := hout _ _ _ (fixb _ _ hb1 h1) (fixi _ _ hb1 g1)
        rcases this with hh | hh | hh
        · exact .inl hh
        · exact .inr (.inr hh)
        · exact .inr (.inl hh)
      · exact h.apart _ _ _ _ _ _ hne (fixb _ _ hb1 h1) (fixb _ _ hb2 h2) (fixi _ _ hb1 g1) (fixi _ _ hb2 g2) hw
  · intro g hg
    obtain ⟨j, hj, h1, h2⟩ := h.glob g hg
    exact ⟨j, hle _ _ hj, h1, h2⟩

theorem Rel.fresh (h : Rel ng w0 φ H w) : φ H.next = none := by
  cases hc : φ H.next with
  | none => rfl
  | some i => exact absurd (h.dom _ _ hc) (Nat.lt_irrefl _)

/-- A new block, in both. -/
theorem Rel.new (h : Rel ng w0 φ H w) {x : Blk} {o : Obj} {i : Info} (hcb : i.cb = w.heap.size) (hr : BRel φ w0.heap.size x i o) :
    Rel ng w0 (φ.put H.next i) (H.new x) (w.alloc o) ∧ Inj.le φ (φ.put H.next i) := by
  refine ⟨(h.phantom x).give (b := H.next) (by simp [Heap.new]) h.fresh hcb hr, Inj.le_put h.fresh⟩

end
end Ck

/-
Operations on values alone: what the abstract machine says, the model does.
-/
set_option linter.unusedSimpArgs false
set_option linter.unusedVariables false
namespace Ck
open Go

section
variable {P : Program} {φ : Inj} {w : World}

theorem VRel.atom {v : Value} (h : okAtom v = true) : VRel φ v v := by
  unfold okAtom at h
  split at h <;> first | exact .bool _ | exact .int _ _ | exact .string _ | exact .nilptr | exact .nilslice | exact .nilmap | exact .nilfunc | exact .niliface | simp at h

theorem LRel.atoms {l : List Value} (h : l.all okAtom = true) : LRel φ l l := by
  induction l with
  | nil => exact .nil
  | cons x l ih =>
    simp only [List.all_cons, Bool.and_eq_true] at h
    exact .cons (.atom h.1) (ih h.2)

theorem VRel.const {v : Value} (h : okConst v = true) : VRel φ v v := by
  unfold okConst at h
  split at h
  · rename_i cs
    have := LRel.atoms (φ := φ) h
    have h2 : VRel φ (.agg cs.toList.toArray) (.agg cs.toList.toArray) := .agg this
    simpa using h2
  · exact .atom h

/-- 'It runs to a value that stands for v.' -/
def Gives (P : Program) (φ : Inj) (w : World) (s : Sem Value) (v : Value) : Prop := ∃ c, s.run P w = .ok c w ∧ VRel φ v c

theorem Gives.of {s : Sem Value} {v c : Value} (h : s.run P w = .ok c w) (hv : VRel φ v c) : Gives P φ w s v := ⟨c, h, hv⟩

theorem pick_ok {c a b c' a' b' v : Value} (hc : VRel φ c c') (ha : VRel φ a a') (hb : VRel φ b b') (h : pickV c a b = some v) :
    Gives P φ w (do pure (if ← asBool c' then a' else b')) v := by
  unfold pickV at h
  split at h
  · rename_i t
    cases hc
    simp only [Option.some.injEq] at h
    subst h
    refine .of (c := if t then a' else b') ?_ ?_
    · simp [asBool]
    · split <;> assumption
  · simp at h

theorem nilchk_ok {x x' v : Value} {o : Oper} {ρ : Operand → Value} {y : Operand} (ho : o.op = .nilCheck y) (hy : ρ y = x') (hx : VRel φ x x') (h : nilchk x = some v) :
    ∃ c, (execOp ρ o).run P w = .ok (.value c) w ∧ VRel φ v c := by
  unfold nilchk at h
  split at h
  · simp only [Option.some.injEq] at h
    subst h
    cases hx with
    | ptr hb => exact ⟨_, by simp only [execOp, ho, hy, Sem.run_pure], .ptr hb⟩
  · simp only [Option.some.injEq] at h
    subst h
    cases hx with
    | func _ h1 h2 => exact ⟨_, by simp only [execOp, ho, hy, Sem.run_pure], .func _ h1 h2⟩
  · simp at h

theorem intBin_ok {op : BinOp} {k : IntKind} {a b : Int} {v : Value} (h1 : op ≠ .shl) (h2 : op ≠ .shr) (t : TypeId) (h : intBin op k a b = some v) :
    (Go.binOp op t (.int k a) (.int k b)).run P w = .ok v w ∧ VRel φ v v := by
  cases op <;> simp only [intBin] at h <;> first
    | exact absurd rfl h1
    | exact absurd rfl h2
    | (simp only [Option.some.injEq] at h
       subst h
       refine ⟨?_, by first | exact .int _ _ | exact .bool _⟩
       simp [Go.binOp, Op.intArith, Op.intBits, Op.intCmp])
    | (split at h
       · simp at h
       · rename_i hb
         simp only [Option.some.injEq] at h
         subst h
         refine ⟨?_, .int _ _⟩
         simp [Go.binOp, Op.intDiv, hb])

theorem shift_ok {op : BinOp} {k k' : IntKind} {a b : Int} {v : Value} (h1 : op = .shl ∨ op = .shr) (t : TypeId) (h : shiftV op k a b = some v) :
    (Go.binOp op t (.int k a) (.int k' b)).run P w = .ok v w ∧ VRel φ v v := by
  unfold shiftV at h
  split at h
  · simp at h
  · rename_i hb
    rcases h1 with rfl | rfl
    all_goals
      simp only [Option.some.injEq] at h
      subst h
      refine ⟨?_, .int _ _⟩
      simp [Go.binOp, Op.shift, hb]

theorem strBin_ok {op : BinOp} {x y : ByteArray} {v : Value} (t : TypeId) (h : strBin op x y = some v) :
    (Go.binOp op t (.string x) (.string y)).run P w = .ok v w ∧ VRel φ v v := by
  cases op <;> simp only [strBin] at h <;> first
    | (split at h
       · rename_i hs
         simp only [Option.some.injEq] at h
         subst h
         refine ⟨?_, .string _⟩
         have : ¬ (((x.size + y.size : Nat) : Int) > IntKind.i64.max) := by
           have : IntKind.i64.max = 9223372036854775807 := by decide
           rw [this]; omega
         simp only [Go.binOp, Op.stringOp, if_neg this, Sem.run_pure]
       · simp at h)
    | (simp only [Option.some.injEq] at h
       subst h
       exact ⟨by simp [Go.binOp, Op.stringOp], .bool _⟩)
    | (simp at h)

theorem eqGuard_plain {op : BinOp} {t : TypeId} {x y : Operand} {a b : Value} (ha : ∀ cs, a ≠ .agg cs) (hi : a ≠ .nilIface) :
    (eqGuard op t x y a b).run P w = .ok () w := by
  unfold eqGuard
  split
  all_goals
    simp only [Bool.not_true, Bool.not_false, Bool.false_eq_true, if_false, if_true, Sem.run_pure]
    try (split
         · exact absurd rfl hi
         · exact absurd rfl (ha _)
         · rfl)

theorem bin_ok {op : BinOp} {t : TypeId} {x y : Operand} {a b a' b' v : Value} (ha : VRel φ a a') (hb : VRel φ b b') (h : binV op a b = some v) :
    Gives P φ w (do eqGuard op t x y a' b'; Go.binOp op t a' b') v := by
  unfold binV at h
  split at h
  · rename_i k p k' q
    cases ha; cases hb
    have hg := eqGuard_plain (P := P) (w := w) (op := op) (t := t) (x := x) (y := y) (a := .int k p) (b := .int k' q) (by simp) (by simp)
    split at h
    · rename_i hs
      obtain ⟨h1, h2⟩ := shift_ok (P := P) (w := w) (φ := φ) (k' := k') hs t h
      exact .of (by simp [hg, h1]) h2
    · rename_i hs
      split at h
      · rename_i hk
        subst hk
        obtain ⟨h1, h2⟩ := intBin_ok (P := P) (w := w) (φ := φ) (by simp at hs; exact hs.1) (by simp at hs; exact hs.2) t h
        exact .of (by simp [hg, h1]) h2
      · simp at h
  · rename_i p q
    cases ha; cases hb
    have hg := eqGuard_plain (P := P) (w := w) (op := op) (t := t) (x := x) (y := y) (a := .string p) (b := .string q) (by simp) (by simp)
    obtain ⟨h1, h2⟩ := strBin_ok (P := P) (w := w) (φ := φ) t h
    exact .of (by simp [hg, h1]) h2
  · simp at h

theorem run_equal {t : TypeId} {x y : Value} {r : Result Bool} (h : ∀ d, (Op.equalIn (d + 1) t x y).run P w = r) : (Op.equal t x y).run P w = r := h 9999

theorem equalIn_bool {t : TypeId} (hu : P.underlying t = some .bool) (d : Nat) (a b : Bool) : (Op.equalIn (d + 1) t (.bool a) (.bool b)).run P w = .ok (a == b) w := by
  simp [Op.equalIn, underlying, hu]

theorem equalIn_ptr {t e : TypeId} (hu : P.underlying t = some (.pointer e)) (d : Nat) (a : Option Addr) :
    (Op.equalIn (d + 1) t (.pointer a) (.pointer none)).run P w = .ok a.isNone w := by
  cases a <;> simp [Op.equalIn, underlying, hu]

theorem equalIn_slice {t e : TypeId} (hu : P.underlying t = some (.slice e)) (d : Nat) (a : Option Addr) (n c m k : Nat) :
    (Op.equalIn (d + 1) t (.slice a n c) (.slice none m k)).run P w = .ok a.isNone w := by
  cases a <;> simp [Op.equalIn, underlying, hu]

theorem equalIn_map {t k e : TypeId} (hu : P.underlying t = some (.map k e)) (d : Nat) (a : Option Nat) :
    (Op.equalIn (d + 1) t (.map a) (.map none)).run P w = .ok a.isNone w := by
  cases a <;> simp [Op.equalIn, underlying, hu]

theorem equalIn_func {t : TypeId} {x y : Array TypeId} {z : Bool} (hu : P.underlying t = some (.func x y z)) (d : Nat) (f : Fn) (a b : Array Value) :
    (Op.equalIn (d + 1) t (.func f a b) .nilFunc).run P w = .ok false w := by
  simp [Op.equalIn, underlying, hu]

theorem equalIn_func' {t : TypeId} {x y : Array TypeId} {z : Bool} (hu : P.underlying t = some (.func x y z)) (d : Nat) :
    (Op.equalIn (d + 1) t .nilFunc .nilFunc).run P w = .ok true w := by
  simp [Op.equalIn, underlying, hu]

/-- '==', '!=' where an equation says what equality comes to. -/
theorem eq_of {op : BinOp} {t : TypeId} {x y : Operand} {a b : Value} {r : Bool} (ho : op = .eql ∨ op = .neq) (ha : ∀ cs, a ≠ .agg cs) (hi : a ≠ .nilIface)
    (he : Go.binOp .eql t a b = do pure (.bool (← Op.equal t a b))) (hn : Go.binOp .neq t a b = do pure (.bool (!(← Op.equal t a b))))
    (h : ∀ d, (Op.equalIn (d + 1) t a b).run P w = .ok r w) :
    Gives P φ w (do eqGuard op t x y a b; Go.binOp op t a b) (.bool (r != (op = .neq))) := by
  have hg := eqGuard_plain (P := P) (w := w) (op := op) (t := t) (x := x) (y := y) (b := b) ha hi
  have hr := run_equal h
  refine .of ?_ (.bool _)
  rcases ho with rfl | rfl
  · simp only [Sem.run_bind, hg, Result.andThen_ok, he, hr, Sem.run_pure]
    cases r <;> rfl
  · simp only [Sem.run_bind, hg, Result.andThen_ok, hn, hr, Sem.run_pure]
    cases r <;> rfl

theorem beq_ok {op : BinOp} {t : TypeId} {x y : Operand} {a b a' b' v : Value} (ha : VRel φ a a') (hb : VRel φ b b') (ho : op = .eql ∨ op = .neq)
    (hu : P.underlying t = some .bool) (h : beqV (op = .neq) a b = some v) :
    Gives P φ w (do eqGuard op t x y a' b'; Go.binOp op t a' b') v := by
  unfold beqV at h
  split at h
  · rename_i p q
    cases ha; cases hb
    simp only [Option.some.injEq] at h
    subst h
    exact eq_of ho (by simp) (by simp) rfl rfl fun d => equalIn_bool hu d p q
  · simp at h

def NilK.is (P : Program) (t : TypeId) : NilK → Prop
  | .ptr => ∃ e, P.underlying t = some (.pointer e)
  | .slice => ∃ e, P.underlying t = some (.slice e)
  | .map => ∃ k e, P.underlying t = some (.map k e)
  | .func => ∃ a b c, P.underlying t = some (.func a b c)

theorem nil_ok {op : BinOp} {t : TypeId} {x y : Operand} {a a' b v : Value} {k : NilK} (ha : VRel φ a a') (ho : op = .eql ∨ op = .neq)
    (hu : k.is P t) (hb : nilLit k b = true) (h : nilV k (op = .neq) a = some v) :
    Gives P φ w (do eqGuard op t x y a' b; Go.binOp op t a' b) v := by
  unfold nilV at h
  simp only [Option.map_eq_some_iff] at h
  obtain ⟨r, hr, rfl⟩ := h
  cases k <;> simp only [NilK.is] at hu
  · obtain ⟨e, hu⟩ := hu
    unfold nilLit at hb
    split at hb <;> simp at hb <;> rename_i hk <;> (try cases hk)
    cases ha <;> simp [isNil] at hr <;> subst hr
    · exact eq_of ho (by simp) (by simp) rfl rfl fun d => equalIn_ptr hu d _
    · exact eq_of ho (by simp) (by simp) rfl rfl fun d => equalIn_ptr hu d _
  · obtain ⟨e, hu⟩ := hu
    unfold nilLit at hb
    split at hb <;> simp at hb <;> rename_i hk <;> (try cases hk)
    cases ha <;> simp [isNil] at hr <;> subst hr
    · exact eq_of ho (by simp) (by simp) rfl rfl fun d => equalIn_slice hu d _ _ _ _ _
    · exact eq_of ho (by simp) (by simp) rfl rfl fun d => equalIn_slice hu d _ _ _ _ _
  · obtain ⟨k, e, hu⟩ := hu
    unfold nilLit at hb
    split at hb <;> simp at hb <;> rename_i hk <;> (try cases hk)
    cases ha <;> simp [isNil] at hr <;> subst hr
    · exact eq_of ho (by simp) (by simp) rfl rfl fun d => equalIn_map hu d _
    · exact eq_of ho (by simp) (by simp) rfl rfl fun d => equalIn_map hu d _
  · obtain ⟨k, e, c, hu⟩ := hu
    unfold nilLit at hb
    split at hb <;> simp at hb <;> rename_i hk <;> (try cases hk)
    cases ha <;> simp [isNil] at hr <;> subst hr
    · exact eq_of ho (by simp) (by simp) rfl rfl fun d => equalIn_func' hu d
    · exact eq_of ho (by simp) (by simp) rfl rfl fun d => equalIn_func hu d _ _ _

theorem un_ok {op : UnOp} {a a' v : Value} (ha : VRel φ a a') (h : unV op a = some v) : Gives P φ w (Op.unary op a') v := by
  unfold unV at h
  split at h
  · simp only [Option.some.injEq] at h
    subst h
    cases ha
    exact .of rfl (.int _ _)
  · simp only [Option.some.injEq] at h
    subst h
    cases ha
    exact .of rfl (.int _ _)
  · simp only [Option.some.injEq] at h
    subst h
    cases ha
    exact .of rfl (.bool _)
  · simp at h

theorem conv_ok {s d : TypeId} {k k0 : IntKind} {a a' v : Value} (ha : VRel φ a a') (hs : P.underlying s = some (.int k0)) (hd : P.underlying d = some (.int k))
    (h : convV k a = some v) : Gives P φ w (Go.convert s d a') v := by
  unfold convV at h
  split at h
  · simp only [Option.some.injEq] at h
    subst h
    cases ha
    exact .of (by simp [Go.convert, underlying, hs, hd, Conv.intToInt]) (.int _ _)
  · simp at h

theorem same_ok {s d : TypeId} {a a' : Value} (ha : VRel φ a a') (hs : P.underlying s = some .string) (hd : P.underlying d = some .string) (hv : ∃ x, a = .string x) :
    Gives P φ w (Go.convert s d a') a := by
  obtain ⟨x, rfl⟩ := hv
  cases ha
  exact .of (by simp [Go.convert, underlying, hs, hd]) (.string _)

theorem natOf_some {v v' : Value} {n : Nat} (hv : VRel φ v v') (h : natOf v = some n) : ∃ k m, v' = .int k m ∧ 0 ≤ m ∧ m.toNat = n := by
  unfold natOf at h
  split at h
  · split at h
    · simp only [Option.some.injEq] at h
      cases hv
      exact ⟨_, _, rfl, ‹_›, h⟩
    · simp at h
  · simp at h

theorem faddr_ok {s : TypeId} {f : Nat} {fs : Array Field} {fd : Field} {n : Nat} {a a' v : Value} (ha : VRel φ a a') (hs : P.underlying s = some (.struct fs))
    (hf : fs[f]? = some fd) (hn : sz P fd.type = some n) (hn0 : n ≠ 0) (h : faddrV fd.offset a = some v) : Gives P φ w (Instr.fieldAt s a' f) v := by
  unfold faddrV at h
  split at h
  · simp only [Option.some.injEq] at h
    subst h
    cases ha with
    | ptr hb =>
      rename_i b o i
      refine .of (c := .pointer (some ⟨i.cb, i.lo + (o + fd.offset), none⟩)) ?_ (.ptr hb)
      simp only [sz, Option.map_eq_some_iff] at hn
      obtain ⟨ti, hti, htn⟩ := hn
      simp [Instr.fieldAt, underlying, hs, hf, Instr.sureAddr, fieldPlace, Go.sizeOf, typeInfo, hti, htn, hn0, Addr.add]
      split <;> simp_all [Nat.add_assoc]
  · simp at h

theorem iaddr_ok {t e : TypeId} {n : Nat} {a a' i i' v : Value} (ha : VRel φ a a') (hi : VRel φ i i') (ht : P.underlying t = some (.slice e)) (hn : sz P e = some n)
    (h : iaddrV n a i = some v) : Gives P φ w (Instr.indexAt t a' i') v := by
  unfold iaddrV at h
  split at h
  · rename_i b o len c
    simp only [Option.bind_eq_some_iff] at h
    obtain ⟨k, hk, h⟩ := h
    split at h
    · rename_i hlt
      simp only [Option.some.injEq] at h
      subst h
      obtain ⟨kd, m, rfl, hm0, rfl⟩ := natOf_some hi hk
      cases ha with
      | slice hb hn' hx hcc =>
        rename_i cc inf ca
        obtain ⟨rfl, hle⟩ := hcc (by omega)
        refine .of (c := .pointer (some ⟨inf.cb, inf.lo + (o + m.toNat * n), none⟩)) ?_ (.ptr hb)
        simp only [sz, Option.map_eq_some_iff] at hn
        obtain ⟨ti, hti, htn⟩ := hn
        have hlt' : m < (len : Int) := by omega
        simp [Instr.indexAt, asIntOf, underlying, ht, hm0, hlt', Go.sizeOf, typeInfo, hti, htn, Addr.add]
        split <;> simp_all [Nat.add_assoc]
    · simp at h
  · simp at h

theorem iaddrA_ok {t e : TypeId} {len n : Nat} {a a' i i' v : Value} (ha : VRel φ a a') (hi : VRel φ i i') (ht : P.underlying t = some (.array len e)) (hn : sz P e = some n)
    (h : iaddrA len n a i = some v) : Gives P φ w (Instr.indexAt t a' i') v := by
  unfold iaddrA at h
  split at h
  · rename_i b o
    simp only [Option.bind_eq_some_iff] at h
    obtain ⟨k, hk, h⟩ := h
    split at h
    · rename_i hlt
      simp only [Option.some.injEq] at h
      subst h
      obtain ⟨kd, m, rfl, hm0, rfl⟩ := natOf_some hi hk
      cases ha with
      | ptr hb =>
        rename_i inf
        refine .of (c := .pointer (some ⟨inf.cb, inf.lo + (o + m.toNat * n), none⟩)) ?_ (.ptr hb)
        simp only [sz, Option.map_eq_some_iff] at hn
        obtain ⟨ti, hti, htn⟩ := hn
        have hlt' : m < (len : Int) := by omega
        simp [Instr.indexAt, asIntOf, underlying, ht, hm0, hlt', Go.sizeOf, typeInfo, hti, htn, Addr.add, Instr.sureAddr]
        split <;> simp_all [Nat.add_assoc]
    · simp at h
  · simp at h

theorem sindex_ok {t : TypeId} {a a' i i' v : Value} (ha : VRel φ a a') (hi : VRel φ i i') (ht : P.underlying t = some .string)
    (h : sindexV a i = some v) : Gives P φ w (Instr.index t a' i') v := by
  unfold sindexV at h
  split at h
  · rename_i s
    simp only [Option.bind_eq_some_iff, Option.map_eq_some_iff] at h
    obtain ⟨k, hk, x, hx, rfl⟩ := h
    obtain ⟨kd, m, rfl, hm0, rfl⟩ := natOf_some hi hk
    cases ha
    refine .of ?_ (.int _ _)
    have hx' : s[m.toNat]? = some x := by
      rw [← hx]
      simp only [getElem?_def, Array.getElem?_eq_some_iff]
      rfl
    simp [Instr.index, asIntOf, underlying, ht, hm0, hx']
  · simp at h

theorem ext_ok {a a' v : Value} {i : Nat} (ha : VRel φ a a') (h : extV a i = some v) : Gives P φ w (Instr.extract a' i) v := by
  unfold extV at h
  split at h
  · rename_i vs
    cases ha with
    | tuple hl =>
      rename_i xs ys
      obtain ⟨y, hy, hv⟩ := hl.get (k := i) (x := v) (by simpa using h)
      exact .of (by simp [Instr.extract, hy]) hv
  · simp at h

theorem len_ok {ts : Array TypeId} {t u e : TypeId} {a a' v : Value} (ha : VRel φ a a') (ht : ts[0]? = some t) (hu : P.underlying t = some (.slice e)) (h : lenV a = some v) :
    Gives P φ w (Builtin.len_ ts u #[a']) v := by
  unfold lenV at h
  split at h
  · simp only [Option.some.injEq] at h
    subst h
    cases ha
    · exact .of (by simp [Builtin.len_, ht, underlying, hu, goInt]) (.int _ _)
    · exact .of (by simp [Builtin.len_, ht, underlying, hu, goInt]) (.int _ _)
  · simp at h

theorem slen_ok {ts : Array TypeId} {t u : TypeId} {a a' v : Value} (ha : VRel φ a a') (ht : ts[0]? = some t) (hu : P.underlying t = some .string) (h : slenV a = some v) :
    Gives P φ w (Builtin.len_ ts u #[a']) v := by
  unfold slenV at h
  split at h
  · simp only [Option.some.injEq] at h
    subst h
    cases ha
    exact .of (by simp [Builtin.len_, ht, underlying, hu, goInt]) (.int _ _)
  · simp at h

theorem cap_ok {ts : Array TypeId} {t u e : TypeId} {a a' v : Value} (ha : VRel φ a a') (ht : ts[0]? = some t) (hu : P.underlying t = some (.slice e)) (h : capV a = some v) :
    Gives P φ w (Builtin.cap_ ts u #[a']) v := by
  unfold capV at h
  split at h
  · split at h
    · rename_i hc
      simp only [Option.some.injEq] at h
      subst h
      cases ha with
      | nilslice => exact .of (by simp [Builtin.cap_, ht, underlying, hu, goInt]) (.int _ _)
      | slice hb hn hx hcc =>
        have := hx hc
        subst this
        exact .of (by simp [Builtin.cap_, ht, underlying, hu, goInt]) (.int _ _)
    · simp at h
  · simp at h

theorem min_ok {ts : Array TypeId} {u : TypeId} {a a' b b' v : Value} (ha : VRel φ a a') (hb : VRel φ b b') (h : minV a b = some v) :
    Gives P φ w (Builtin.min_ ts u #[a', b']) v := by
  unfold minV at h
  split at h
  · simp only [Option.some.injEq] at h
    subst h
    cases ha; cases hb
    exact .of (by simp [Builtin.min_, Builtin.min2]) (.int _ _)
  · simp at h

theorem max_ok {ts : Array TypeId} {u : TypeId} {a a' b b' v : Value} (ha : VRel φ a a') (hb : VRel φ b b') (h : maxV a b = some v) :
    Gives P φ w (Builtin.max_ ts u #[a', b']) v := by
  unfold maxV at h
  split at h
  · simp only [Option.some.injEq] at h
    subst h
    cases ha; cases hb
    exact .of (by simp [Builtin.max_, Builtin.max2]) (.int _ _)
  · simp at h

theorem isAgg_run {t : TypeId} {g : Bool} (hg : aggT P t = some g) (w : World) : (isAgg t).run P w = .ok g w := by
  unfold aggT at hg
  split at hg
  · rename_i hu; simp at hg; subst hg; simp [isAgg, underlying, hu]
  · rename_i hu; simp at hg; subst hg; simp [isAgg, underlying, hu]
  · rename_i d h1 h2 hu
    simp at hg
    subst hg
    simp only [isAgg, underlying, Sem.run_bind, run_program, Result.andThen_ok, hu, Sem.run_pure]
  · simp at hg

theorem sizeOf_run {t : TypeId} {n : Nat} (hn : sz P t = some n) (w : World) : (Go.sizeOf t).run P w = .ok n w := by
  simp only [sz, Option.map_eq_some_iff] at hn
  obtain ⟨ti, hti, htn⟩ := hn
  simp [Go.sizeOf, typeInfo, hti, htn]

theorem field_ok {t : TypeId} {f : Nat} {fs : Array Field} {fd : Field} {g : Bool} {n : Nat} {a a' v : Value} (ha : VRel φ a a') (hs : P.underlying t = some (.struct fs))
    (hf : fs[f]? = some fd) (hg : aggT P fd.type = some g) (hn : sz P fd.type = some n) (h : fieldV g fd.offset n a = some v) : Gives P φ w (Instr.field t a' f) v := by
  unfold fieldV at h
  split at h
  · rename_i cs
    cases ha with
    | agg hl =>
      rename_i xs ys
      have hag := isAgg_run hg w
      have hsz := sizeOf_run hn w
      split at h
      · rename_i hgt
        subst hgt
        split at h
        · simp only [Option.some.injEq] at h
          subst h
          refine .of (c := .agg (ys.toArray.extract fd.offset (fd.offset + n))) ?_ ?_
          · simp [Instr.field, underlying, hs, hf, part, hag, asAgg, hsz]
          · have := VRel.agg ((hl.take (fd.offset + n)).drop fd.offset)
            simpa [List.extract_toArray, List.extract_eq_take_drop, List.drop_take, Nat.add_sub_cancel_left] using this
        · simp at h
      · rename_i hgf
        have : g = false := by simpa using hgf
        subst this
        obtain ⟨y, hy, hv⟩ := hl.get (k := fd.offset) (x := v) (by simpa using h)
        refine .of (c := y) ?_ hv
        simp [Instr.field, underlying, hs, hf, part, hag, asAgg, hy]
  · simp at h

theorem splice_length {cs vs : List Value} {o : Nat} (h : o + vs.length ≤ cs.length) : (splice cs o vs).length = cs.length := by
  simp [splice]; omega

theorem LRel.splice {cs ds vs us : List Value} (h : LRel φ cs ds) (h' : LRel φ vs us) (o : Nat) : LRel φ (splice cs o vs) (Ck.splice ds o us) := by
  unfold Ck.splice
  rw [← h'.length]
  exact ((h.take o).append h').append (h.drop _)

/-- The model's loop that lays a part. -/
theorem fold_splice (vs : List Value) : ∀ (cs : Array Value) (o j : Nat), o + j + vs.length ≤ cs.size →
    ((vs.toArray.zipIdx j).foldl (fun cs (x : Value × Nat) => cs.setIfInBounds (o + x.2) x.1) cs).toList = splice cs.toList (o + j) vs := by
  induction vs with
  | nil =>
    intro cs o j h
    have : (#[] : Array Value).zipIdx j = #[] := by apply Array.ext'; simp
    simp [splice, this]
  | cons v vs ih =>
    intro cs o j h
    simp only [List.length_cons] at h
    have hz : ((v :: vs).toArray.zipIdx j) = #[(v, j)] ++ vs.toArray.zipIdx (j + 1) := by
      apply Array.ext'
      simp [Array.toList_zipIdx, List.zipIdx_cons]
    rw [hz, Array.foldl_append]
    have h1 : Array.foldl (fun cs (x : Value × Nat) => cs.setIfInBounds (o + x.2) x.1) cs #[(v, j)] = cs.setIfInBounds (o + j) v := by simp
    rw [h1]
    have := ih (cs.setIfInBounds (o + j) v) o (j + 1) (by simp; omega)
    rw [this]
    simp only [Array.toList_setIfInBounds, splice, List.length_cons]
    have hl : o + j < cs.toList.length := by simp; omega
    rw [show o + (j + 1) = (o + j) + 1 from by omega]
    rw [List.take_set, List.drop_set]
    rw [List.take_succ_eq_append_getElem hl]
    have e1 : (List.set (List.take (o + j) cs.toList ++ [cs.toList[o + j]]) (o + j) v) = List.take (o + j) cs.toList ++ [v] := by
      rw [List.set_append_right _ _ (by simp; omega)]
      congr 1
      simp [show o + j - min (o + j) cs.size = 0 from by simp at hl; omega]
    rw [e1, if_pos (by omega)]
    simp [Nat.add_assoc, Nat.add_comm 1 vs.length]

theorem fill_ok {place : Nat → Option (Nat × Nat)} : ∀ (ps : List (Nat × Nat × Value)) (qs : List (Nat × Value)) (z r : List Value) (z' : List Value),
    LRel φ z z' → ps.length = qs.length →
    (∀ (k : Nat) (p : Nat × Nat × Value) (q : Nat × Value), ps[k]? = some p → qs[k]? = some q → place q.1 = some (p.1, p.2.1) ∧ VRel φ p.2.2 q.2) → fillV z ps = some r →
    ∃ r', Instr.fill place z'.toArray qs = some r'.toArray ∧ LRel φ r r' := by
  intro ps
  induction ps with
  | nil =>
    intro qs z r z' hz hl _ h
    simp only [fillV, Option.some.injEq] at h
    subst h
    cases qs with
    | nil => exact ⟨z', rfl, hz⟩
    | cons => simp at hl
  | cons p ps ih =>
    intro qs z r z' hz hl hp h
    cases qs with
    | nil => simp at hl
    | cons q qs =>
      obtain ⟨off, n, v⟩ := p
      obtain ⟨i, u⟩ := q
      simp only [fillV] at h
      split at h
      · rename_i hc
        obtain ⟨h1, h2⟩ := hp 0 _ _ rfl rfl
        simp only at h1 h2
        have hcl := h2.cells
        have hsz : u.cells.size = n := by have := hcl.length; simp at this; omega
        have hzl := hz.length
        have := ih qs (splice z off v.cells.toList) r (splice z' off u.cells.toList) (hz.splice hcl off) (by simpa using hl)
          (fun k p q hk hk' => hp (k + 1) p q (by simpa using hk) (by simpa using hk')) h
        obtain ⟨r', hr', hrel⟩ := this
        refine ⟨r', ?_, hrel⟩
        rw [← hr']
        simp only [Instr.fill, h1, hsz]
        rw [if_neg (by simp; omega)]
        congr 1
        apply Array.ext'
        have := fold_splice u.cells.toList z'.toArray off 0 (by simp; omega)
        simpa using this
      · simp at h

theorem run_mapM_places : ∀ (l : List Field) (ns : List Nat) (w : World), l.map (fun f => sz P f.type) = ns.map some →
    (l.mapM (m := Sem) fun f => do pure (f.offset, ← Go.sizeOf f.type)).run P w = .ok ((l.zip ns).map fun x => (x.1.offset, x.2)) w := by
  intro l
  induction l with
  | nil => intro ns w h; simp at h; subst h; simp
  | cons f l ih =>
    intro ns w h
    cases ns with
    | nil => simp at h
    | cons n ns =>
      simp at h
      have := ih ns w (by simpa using h.2)
      simp only [List.mapM_cons, Sem.run_bind, sizeOf_run h.1, Result.andThen_ok, Sem.run_pure, this, List.zip_cons_cons, List.map_cons]

end
end Ck
