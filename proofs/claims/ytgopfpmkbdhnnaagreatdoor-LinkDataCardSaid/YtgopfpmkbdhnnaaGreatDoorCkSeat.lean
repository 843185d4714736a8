/-
What the listed tables hold where a call begins; the first relation.
-/
import Derived.Test.YtgopfpmkbdhnnaaGreatDoorCkLim
import Derived.Test.YtgopfpmkbdhnnaaGreatDoorCkTbl
import Derived.Test.YtgopfpmkbdhnnaaGreatDoorTie
import Derived.ProofKit
import Derived.LaidMore
import Derived.OpenShut
import Derived.Stop.Joined
import Derived.ChangeSlices
import Derived.Test.YtgopfpmkbdhnnaaGreatDoorCkMir
namespace Go.Proofs.YtgopfpmkbdhnnaaGreatDoor
open Go.ChangeShapes Go.WideShapes Go.ChangeAt Go.RowKit

theorem own : ownKnob Tryz.prog.godebug = none := by kernel_rfl
theorem g0 : Tryz.prog.globalNamed "math/bits.deBruijn32tab" = some 0 := by kernel_rfl
theorem g1 : Tryz.prog.globalNamed "math/bits.deBruijn64tab" = some 1 := by kernel_rfl

def tab32 : List Int := [0, 1, 28, 2, 29, 14, 24, 3, 30, 22, 20, 15, 25, 17, 4, 8, 31, 27, 13, 23, 21, 19, 16, 7, 26, 12, 18, 6, 11, 5, 10, 9]
def tab64 : List Int := [0, 1, 56, 2, 57, 49, 28, 3, 61, 58, 42, 50, 38, 29, 17, 4, 62, 47, 59, 36, 45, 43, 51, 22, 53, 39, 33, 30, 24, 18, 12, 5, 63, 55, 48, 27, 60, 41, 37, 16, 46, 35, 44, 21, 52, 32, 23, 11, 54, 26, 40, 15, 34, 20, 31, 10, 25, 14, 19, 9, 13, 8, 7, 6]

abbrev laidTabs : List (String × DataW Unit) := [("math/bits.deBruijn32tab", Rows.laid_math_bits_deBruijn32tab), ("math/bits.deBruijn64tab", Rows.laid_math_bits_deBruijn64tab)]

/-- An array of bytes that reads as known ones. -/
theorem bytes_of_trod {H : Type} {enc : TypeId × Value → H} {P : Program} {w : World} {base : Nat} {sp : Nat → Bool} {held : Bool} {fuel : Nat} {t e : TypeId} {n : Nat} {cs : List Value} {l : List Int} {q : List MemPlace}
    (ht : P.underlying t = some (.array n e)) (he : P.underlying e = some (.int .u8)) (hc : P.cellsOf e = 1) (hct : P.cellsOf t = n)
    (h : DataW.trod enc P w base sp held fuel t cs = some (.agg (l.map fun n => .lit (.int .u8 n)), q)) : cs = l.map fun n => Value.int .u8 n := by
  obtain ⟨xs, m, rfl, hx, hlen, hn, hel⟩ := DataW.trod_array ht h
  simp only [Prod.mk.injEq, DataW.agg.injEq] at hx
  have hxs : xs.length = l.length := by have := congrArg List.length hx.1; simpa using this.symm
  refine List.ext_getElem? fun i => ?_
  by_cases hi : i < n
  · have h1 := hel i hi
    rw [hc, Nat.mul_one] at h1
    have hix : i < xs.length := by omega
    rw [List.getElem?_eq_getElem hix] at h1
    obtain ⟨k, e1, e2, _⟩ := DataW.trod_int he h1
    have e3 : (xs.map (·.1))[i]? = (l.map fun n => (DataW.lit (.int .u8 n) : DataW H))[i]? := by rw [← hx.1]
    rw [List.getElem?_map, List.getElem?_eq_getElem hix, List.getElem?_map, List.getElem?_eq_getElem (by omega)] at e3
    simp only [Option.map_some, Option.some.injEq] at e3
    rw [e2] at e3
    simp only [DataW.lit.injEq, Lit.int.injEq, true_and] at e3
    have e4 : cs[i]? = some (.int .u8 k) := by
      have := congrArg (·[0]?) e1
      simpa using this
    rw [e4, List.getElem?_map, List.getElem?_eq_getElem (by omega), e3]
    rfl
  · rw [List.getElem?_eq_none (by rw [hlen, hct]; omega), List.getElem?_eq_none (by rw [List.length_map, ← hxs]; omega)]

theorem plain_u8 : ∀ l : List Int, (l.map fun n => Value.int .u8 n).all Ck.plainInt = true
  | [] => rfl
  | x :: l => by simp [Ck.plainInt, plain_u8 l]

theorem row_of_var {W : World} {g : Nat} {cs : Array Value} {l : List Int} (hne : l ≠ []) (hcell : ∀ i, W.cell? ⟨g, i, none⟩ = cs[i]?) (hcs : cs.toList = l.map fun n => Value.int .u8 n) : Ck.InRow.ok W ⟨g, 0, l.map fun n => Value.int .u8 n⟩ := by
  have h0 := hcell 0
  have hlen : cs.size = l.length := by have := congrArg List.length hcs; simpa using this
  have hpos : 0 < l.length := List.length_pos_iff.2 hne
  have hsome : ∃ v, cs[0]? = some v := ⟨_, Array.getElem?_eq_getElem (by omega)⟩
  obtain ⟨v, hv⟩ := hsome
  rw [hv] at h0
  unfold World.cell? at h0
  split at h0
  · rename_i c t fr hb
    have hc : ∀ i, c[i]? = cs[i]? := fun i => by
      have := hcell i
      unfold World.cell? at this
      simp only [hb] at this
      simpa using this
    refine ⟨c, t, fr, hb, ?_, fun k hk => ?_, plain_u8 l⟩
    · rcases Nat.lt_or_ge c.size l.length with hlt | hge
      · have h1 := hc (l.length - 1)
        rw [Array.getElem?_eq_none (by omega), Array.getElem?_eq_getElem (by omega)] at h1
        simp at h1
      · simpa using hge
    · simp only [Nat.zero_add]
      rw [hc, ← hcs]
      simp
  · simp at h0

/-- What the condition on the tables gives. -/
theorem of_laid {W : World} (h : laidMetH Tryz.prog laidTabs W) : Ck.InRow.ok W ⟨0, 0, tab32.map fun n => Value.int .u8 n⟩ ∧ Ck.InRow.ok W ⟨1, 0, tab64.map fun n => Value.int .u8 n⟩ := by
  rw [MakeChecks.laidMetH_plain _ _ _ (by kernel_rfl)] at h
  obtain ⟨ps, ⟨ga, t0, cs0, f0, p0, q0, hg0, ht0, hv0, hd0, ⟨gb, t1, cs1, f1, p1, q1, hg1, ht1, hv1, hd1, _, _⟩, _⟩, _, _⟩ := h
  obtain rfl := Option.some.inj (g0.symm.trans hg0)
  obtain rfl := Option.some.inj (g1.symm.trans hg1)
  have t0' : (Tryz.prog.globals[0]?).map (·.type) = some t0 := ht0
  have t1' : (Tryz.prog.globals[1]?).map (·.type) = some t1 := ht1
  have a0 : ∃ e, Tryz.prog.underlying t0 = some (.array 32 e) ∧ Tryz.prog.underlying e = some (.int .u8) ∧ Tryz.prog.cellsOf e = 1 ∧ Tryz.prog.cellsOf t0 = 32 := by
    have h : (Tryz.prog.globals[0]?).bind (fun g => match Tryz.prog.underlying g.type with
      | some (.array n e) => some (n, e, Tryz.prog.underlying e, Tryz.prog.cellsOf e, Tryz.prog.cellsOf g.type)
      | _ => none) = some (32, 5, some (.int .u8), 1, 32) := by kernel_rfl
    cases hq : Tryz.prog.globals[0]? with
    | none => rw [hq] at h; simp at h
    | some gl =>
      rw [hq] at h t0'
      simp only [Option.map_some, Option.some.injEq] at t0'
      subst t0'
      simp only [Option.bind_some] at h
      split at h
      · rename_i n e he
        simp only [Option.some.injEq, Prod.mk.injEq] at h
        obtain ⟨rfl, rfl, h3, h4, h5⟩ := h
        exact ⟨5, he, h3, h4, h5⟩
      · simp at h
  have a1 : ∃ e, Tryz.prog.underlying t1 = some (.array 64 e) ∧ Tryz.prog.underlying e = some (.int .u8) ∧ Tryz.prog.cellsOf e = 1 ∧ Tryz.prog.cellsOf t1 = 64 := by
    have h : (Tryz.prog.globals[1]?).bind (fun g => match Tryz.prog.underlying g.type with
      | some (.array n e) => some (n, e, Tryz.prog.underlying e, Tryz.prog.cellsOf e, Tryz.prog.cellsOf g.type)
      | _ => none) = some (64, 5, some (.int .u8), 1, 64) := by kernel_rfl
    cases hq : Tryz.prog.globals[1]? with
    | none => rw [hq] at h; simp at h
    | some gl =>
      rw [hq] at h t1'
      simp only [Option.map_some, Option.some.injEq] at t1'
      subst t1'
      simp only [Option.bind_some] at h
      split at h
      · rename_i n e he
        simp only [Option.some.injEq, Prod.mk.injEq] at h
        obtain ⟨rfl, rfl, h3, h4, h5⟩ := h
        exact ⟨5, he, h3, h4, h5⟩
      · simp at h
  obtain ⟨e0, u1, u2, u3, u4⟩ := a0
  obtain ⟨e1, w1, w2, w3, w4⟩ := a1
  have d0 : (Rows.laid_math_bits_deBruijn32tab : DataW Unit) = .agg (tab32.map fun n => .lit (.int .u8 n)) := rfl
  have d1 : (Rows.laid_math_bits_deBruijn64tab : DataW Unit) = .agg (tab64.map fun n => .lit (.int .u8 n)) := rfl
  rw [d0] at hd0
  rw [d1] at hd1
  exact ⟨row_of_var (by simp [tab32]) (World.var?_cell hg0 hv0) (bytes_of_trod u1 u2 u3 u4 hd0), row_of_var (by simp [tab64]) (World.var?_cell hg1 hv1) (bytes_of_trod w1 w2 w3 w4 hd1)⟩

theorem mixed : Tryz.prog.follows .mixedOrders = true := by kernel_rfl
theorem ng2 : Tryz.prog.globals.size = 2 := by kernel_rfl

end Go.Proofs.YtgopfpmkbdhnnaaGreatDoor

/-
What runs yield; how a run is followed.
-/
set_option linter.unusedSimpArgs false
set_option linter.unusedVariables false
namespace Ck
open Go

def Wp {α : Type} (x : Option α) (Q : α → Prop) : Prop := ∃ a, x = some a ∧ Q a

@[simp] theorem wp_some {α : Type} {a : α} {Q : α → Prop} : Wp (some a) Q ↔ Q a := by simp [Wp]
@[simp] theorem wp_none {α : Type} {Q : α → Prop} : Wp none Q ↔ False := by simp [Wp]
theorem wp_bind {α β : Type} {x : Option α} {f : α → Option β} {Q : β → Prop} : Wp (x.bind f) Q ↔ Wp x fun a => Wp (f a) Q := by
  cases x <;> simp [Wp]
theorem wp_map {α β : Type} {x : Option α} {f : α → β} {Q : β → Prop} : Wp (x.map f) Q ↔ Wp x fun a => Q (f a) := by
  cases x <;> simp [Wp]
theorem Wp.mono {α : Type} {x : Option α} {P Q : α → Prop} (h : Wp x P) (k : ∀ a, P a → Q a) : Wp x Q := by
  obtain ⟨a, ha, hp⟩ := h
  exact ⟨a, ha, k a hp⟩
/-- A step whose answer is known by its properties; and what comes behind it. -/
theorem Wp.step {α β : Type} {x : Option α} {f : α → Option β} {P : α → Prop} {Q : β → Prop} (h : Wp x P) (k : ∀ a, P a → Wp (f a) Q) : Wp (x.bind f) Q :=
  wp_bind.2 (h.mono k)
theorem Wp.stepmap {α β : Type} {x : Option α} {f : α → β} {P : α → Prop} {Q : β → Prop} (h : Wp x P) (k : ∀ a, P a → Q (f a)) : Wp (x.map f) Q :=
  wp_map.2 (h.mono k)

/-- What is to be shown at the end is set aside. -/
theorem Wp.via {α : Type} {x : Option α} {Q : α → Prop} (h : ∀ Q' : α → Prop, (∀ a, Q a → Q' a) → Wp x Q') : Wp x Q := h Q fun _ => id

/-- Only the first part of a bind is looked at. -/
@[congr] theorem bind_left {α β : Type} {x y : Option α} (f : α → Option β) (h : x = y) : x.bind f = y.bind f := by rw [h]

/-! ### Loops -/

/-- What a loop comes to, by a measure. -/
theorem loop_wp {β : Type} {a : Cd} {kx : Nat → Env → Heap → Option β} {kr : Env → Heap → Option β} {Q : β → Prop} (I : Nat → Env → Heap → Prop)
    (h : ∀ n e H, I n e H → Wp (a e H) fun r => match r with
      | (.normal, e', H') => ∃ m, m < n ∧ I m e' H'
      | (.exit j, e', H') => Wp (kx j e' H') Q
      | (.ret, e', H') => Wp (kr e' H') Q) :
    ∀ n e H, I n e H → Wp (bindL (loopL a e H) kx kr) Q := by
  intro n
  induction n using Nat.strongRecOn with
  | ind n ih =>
    intro e H hI
    obtain ⟨⟨x, e', H'⟩, ha, hp⟩ := h n e H hI
    rw [loopL_eq, ha]
    cases x with
    | normal =>
      obtain ⟨m, hm, hI'⟩ := hp
      exact ih m hm e' H' hI'
    | exit j => exact hp
    | ret => exact hp

/-- The same, the relation of the next round set aside. -/
theorem loop_via {β : Type} {a : Cd} {kx : Nat → Env → Heap → Option β} {kr : Env → Heap → Option β} {Q : β → Prop} (I : Nat → Env → Heap → Prop)
    (h : ∀ J : Nat → Env → Heap → Prop, (∀ m e H, I m e H → J m e H) → ∀ n e H, I n e H → Wp (a e H) fun r => match r with
      | (.normal, e', H') => ∃ m, m < n ∧ J m e' H'
      | (.exit j, e', H') => Wp (kx j e' H') Q
      | (.ret, e', H') => Wp (kr e' H') Q) :
    ∀ n e H, I n e H → Wp (bindL (loopL a e H) kx kr) Q := loop_wp I (h I fun _ _ _ => id)

/-! ### Numbers -/

theorem wrap_i64 {n : Int} (h : -9223372036854775808 ≤ n ∧ n ≤ 9223372036854775807) : IntKind.wrap .i64 n = n := by
  show (if (true && decide (n % (18446744073709551616 : Int) ≥ (9223372036854775808 : Int))) = true then n % 18446744073709551616 - 18446744073709551616 else n % 18446744073709551616) = n
  simp only [Bool.true_and, decide_eq_true_eq]
  split <;> omega
theorem wrap_u64 {n : Int} (h : 0 ≤ n ∧ n ≤ 18446744073709551615) : IntKind.wrap .u64 n = n := by
  simp only [IntKind.wrap, IntKind.bits, IntKind.signed, Bool.false_and, Bool.false_eq_true, if_false]
  omega
theorem wrap_u32 {n : Int} : IntKind.wrap .u32 n = n % 4294967296 := by
  simp only [IntKind.wrap, IntKind.bits, IntKind.signed, Bool.false_and, Bool.false_eq_true, if_false]
  omega
theorem wrap_u8 {n : Int} : IntKind.wrap .u8 n = n % 256 := by
  simp only [IntKind.wrap, IntKind.bits, IntKind.signed, Bool.false_and, Bool.false_eq_true, if_false]
  omega

/-! ### Steps -/

@[simp] theorem movV_eq (x : Value) : movV x = some x := rfl
@[simp] theorem nilchk_ptr (a : Addr) : nilchk (.pointer (some a)) = some (.pointer (some a)) := rfl
@[simp] theorem faddrV_ptr (off b o : Nat) : faddrV off (.pointer (some ⟨b, o, none⟩)) = some (.pointer (some ⟨b, o + off, none⟩)) := rfl
@[simp] theorem ldV_ptr (n b o : Nat) (H : Heap) : ldV false n (.pointer (some ⟨b, o, none⟩)) H = H.ld b o := rfl
@[simp] theorem ldV_agg (n b o : Nat) (H : Heap) : ldV true n (.pointer (some ⟨b, o, none⟩)) H = (H.lds b o n).map fun cs => .agg cs.toArray := rfl
theorem ld_of {H : Heap} {b o e : Nat} {ro : Bool} {cs : List Value} (h : H.blk b = some (.cells e ro cs)) : H.ld b o = cs[o]? := by simp [Heap.ld, h]
theorem lds_of {H : Heap} {b o n e : Nat} {ro : Bool} {cs : List Value} (h : H.blk b = some (.cells e ro cs)) (hl : o + n ≤ cs.length) : H.lds b o n = some ((cs.drop o).take n) := by simp [Heap.lds, h, hl]
@[simp] theorem ifK_bool {β : Type} (b : Bool) (x y : Option β) : ifK (.bool b) x y = if b = true then x else y := by cases b <;> rfl
@[simp] theorem guardV_none (x : Option Value) : guardV none x = x := rfl
@[simp] theorem guardV_bool (b w : Bool) (x : Option Value) : guardV (some (.bool b, w)) x = if b = w then x else some undef := rfl
@[simp] theorem guardV_undef (w : Bool) (x : Option Value) : guardV (some (undef, w)) x = some undef := rfl
@[simp] theorem guardH_none (x : Option (Value × Heap)) (H : Heap) : guardH none x H = x := rfl
@[simp] theorem guardH_bool (b w : Bool) (x : Option (Value × Heap)) (H : Heap) : guardH (some (.bool b, w)) x H = if b = w then x else some (undef, H) := rfl
@[simp] theorem guardH_undef (w : Bool) (x : Option (Value × Heap)) (H : Heap) : guardH (some (undef, w)) x H = some (undef, H) := rfl
@[simp] theorem pickV_bool (b : Bool) (x y : Value) : pickV (.bool b) x y = some (if b = true then x else y) := rfl
theorem again_eq {α : Type} {x : Option Value} {v : Value} {k : Option α} (h : x = some v) : again x v k = k := by
  unfold again; rw [if_pos h]
@[simp] theorem again_self {α : Type} {v : Value} {k : Option α} : again (some v) v k = k := again_eq rfl

@[simp] theorem set_next (H : Heap) (b : Nat) (x : Option Blk) : (H.set b x).next = H.next := rfl
theorem set_blk (H : Heap) (b c : Nat) (x : Option Blk) : (H.set b x).blk c = if c = b then x else H.blk c := rfl
@[simp] theorem set_same (H : Heap) (b : Nat) (x : Option Blk) : (H.set b x).blk b = x := by simp [set_blk]
theorem set_other {H : Heap} {b c : Nat} {x : Option Blk} (h : c ≠ b) : (H.set b x).blk c = H.blk c := by simp [set_blk, h]
@[simp] theorem new_next (H : Heap) (x : Blk) : (H.new x).next = H.next + 1 := rfl
theorem blk_new (H : Heap) (c : Nat) (x : Blk) : (H.new x).blk c = if c = H.next then some x else H.blk c := rfl
@[simp] theorem new_same (H : Heap) (x : Blk) : (H.new x).blk H.next = some x := by simp [blk_new]
theorem new_other {H : Heap} {c : Nat} {x : Blk} (h : c < H.next) : (H.new x).blk c = H.blk c := by simp [blk_new]; omega

theorem newV_eq (f : Nat → Option (Value × Blk)) (H : Heap) : newV f H = (f H.next).map fun x => (x.1, H.new x.2) := rfl
theorem st_of {H : Heap} {b o e : Nat} {cs : List Value} {v : Value} (h : H.blk b = some (.cells e false cs)) (hf : flat v = true) (ho : o < cs.length) : H.st b o v = some (H.set b (some (.cells e false (cs.set o v)))) := by
  simp [Heap.st, h, ho, hf]
theorem sts_of {H : Heap} {b o e : Nat} {cs vs : List Value} (h : H.blk b = some (.cells e false cs)) (ho : o + vs.length ≤ cs.length) : H.sts b o vs = some (H.set b (some (.cells e false (splice cs o vs)))) := by
  simp [Heap.sts, h, ho]

theorem stX_agg {H : Heap} {b o n e : Nat} {cs : List Value} {vs : Array Value} (h : H.blk b = some (.cells e false cs)) (hn : vs.size = n) (hf : vs.toList.all flat = true) (ho : o + n ≤ cs.length) :
    stX n (.pointer (some ⟨b, o, none⟩)) (.agg vs) H = some (undef, H.set b (some (.cells e false (splice cs o vs.toList)))) := by
  have hl : vs.toList.length = n := by simpa using hn
  simp only [stX, stV]
  rw [if_pos ⟨hn, hf⟩, sts_of h (by omega)]
  rfl
theorem stX_val {H : Heap} {b o e : Nat} {cs : List Value} {v : Value} (h : H.blk b = some (.cells e false cs)) (hf : flat v = true) (ho : o < cs.length) :
    stX 1 (.pointer (some ⟨b, o, none⟩)) v H = some (undef, H.set b (some (.cells e false (cs.set o v)))) := by
  cases v with
  | agg _ => simp [flat] at hf
  | tuple _ => simp [flat] at hf
  | _ => simp only [stX, stV, if_true]; rw [st_of h rfl ho]; rfl

@[simp] theorem flat_bool (b : Bool) : flat (.bool b) = true := rfl
@[simp] theorem flat_int (k : IntKind) (n : Int) : flat (.int k n) = true := rfl
@[simp] theorem flat_ptr (a : Option Addr) : flat (.pointer a) = true := rfl
@[simp] theorem flat_slice (a : Option Addr) (n c : Nat) : flat (.slice a n c) = true := rfl
@[simp] theorem flat_map (a : Option Nat) : flat (.map a) = true := rfl
@[simp] theorem flat_func (f : FuncId) (a c : Array Value) : flat (.func (.func f) a c) = true := rfl
@[simp] theorem flat_nilfunc : flat .nilFunc = true := rfl
@[simp] theorem flat_string (s : ByteArray) : flat (.string s) = true := rfl


theorem binV_add (k : IntKind) (a b : Int) : binV .add (.int k a) (.int k b) = some (.int k (k.wrap (a + b))) := by simp [binV, intBin]
theorem binV_sub (k : IntKind) (a b : Int) : binV .sub (.int k a) (.int k b) = some (.int k (k.wrap (a - b))) := by simp [binV, intBin]
theorem binV_mul (k : IntKind) (a b : Int) : binV .mul (.int k a) (.int k b) = some (.int k (k.wrap (a * b))) := by simp [binV, intBin]
@[simp] theorem binV_lss (k : IntKind) (a b : Int) : binV .lss (.int k a) (.int k b) = some (.bool (decide (a < b))) := by simp [binV, intBin]
@[simp] theorem binV_leq (k : IntKind) (a b : Int) : binV .leq (.int k a) (.int k b) = some (.bool (decide (a ≤ b))) := by simp [binV, intBin]
@[simp] theorem binV_gtr (k : IntKind) (a b : Int) : binV .gtr (.int k a) (.int k b) = some (.bool (decide (b < a))) := by simp [binV, intBin]
@[simp] theorem binV_geq (k : IntKind) (a b : Int) : binV .geq (.int k a) (.int k b) = some (.bool (decide (b ≤ a))) := by simp [binV, intBin]
@[simp] theorem binV_eql (k : IntKind) (a b : Int) : binV .eql (.int k a) (.int k b) = some (.bool (decide (a = b))) := by
  simp only [binV, intBin]; simp; rfl
@[simp] theorem binV_neq (k : IntKind) (a b : Int) : binV .neq (.int k a) (.int k b) = some (.bool (decide (a ≠ b))) := by
  simp only [binV, intBin]; simp; by_cases h : a = b <;> simp [h]
@[simp] theorem unV_not (b : Bool) : unV .not (.bool b) = some (.bool !b) := rfl
@[simp] theorem convV_int (k k' : IntKind) (n : Int) : convV k (.int k' n) = some (.int k (k.wrap n)) := rfl
@[simp] theorem minV_int (k k' : IntKind) (a b : Int) : minV (.int k a) (.int k' b) = some (.int k (if b < a then b else a)) := rfl
@[simp] theorem maxV_int (k k' : IntKind) (a b : Int) : maxV (.int k a) (.int k' b) = some (.int k (if a < b then b else a)) := rfl
@[simp] theorem extV_tuple (vs : Array Value) (i : Nat) : extV (.tuple vs) i = vs[i]? := rfl
@[simp] theorem pack_one (v : Value) : pack [v] = v := rfl
@[simp] theorem pack_nil : pack [] = .tuple #[] := rfl
@[simp] theorem pack_two (v w : Value) : pack [v, w] = .tuple #[v, w] := rfl
@[simp] theorem pack_three (u v w : Value) : pack [u, v, w] = .tuple #[u, v, w] := rfl
/-- The length less one. -/
theorem sub_i64 {a b : Int} (h : -9223372036854775808 ≤ a - b ∧ a - b ≤ 9223372036854775807) : binV .sub (.int .i64 a) (.int .i64 b) = some (.int .i64 (a - b)) := by rw [binV_sub, wrap_i64 h]
theorem add_i64 {a b : Int} (h : -9223372036854775808 ≤ a + b ∧ a + b ≤ 9223372036854775807) : binV .add (.int .i64 a) (.int .i64 b) = some (.int .i64 (a + b)) := by rw [binV_add, wrap_i64 h]

@[simp] theorem upd_at (e : Env) (t s : Nat) (v : Value) : upd e t v s = if s = t then v else e s := rfl
@[simp] theorem env0_at (l : List Value) (t : Nat) : env0 l t = l.getD t undef := rfl

@[simp] theorem cells_bool (b : Bool) : (Value.bool b).cells = #[.bool b] := rfl
@[simp] theorem cells_int (k : IntKind) (n : Int) : (Value.int k n).cells = #[.int k n] := rfl
@[simp] theorem cells_ptr (a : Option Addr) : (Value.pointer a).cells = #[.pointer a] := rfl
@[simp] theorem cells_slice (a : Option Addr) (n c : Nat) : (Value.slice a n c).cells = #[.slice a n c] := rfl
@[simp] theorem cells_map (a : Option Nat) : (Value.map a).cells = #[.map a] := rfl
@[simp] theorem cells_agg (a : Array Value) : (Value.agg a).cells = a := rfl

@[simp] theorem ld_set (H : Heap) (b e o : Nat) (ro : Bool) (cs : List Value) : (H.set b (some (.cells e ro cs))).ld b o = cs[o]? := ld_of (set_same _ _ _)
@[simp] theorem lds_set (H : Heap) (b e o n : Nat) (ro : Bool) (cs : List Value) : (H.set b (some (.cells e ro cs))).lds b o n = if o + n ≤ cs.length then some ((cs.drop o).take n) else none := by
  simp only [Heap.lds, set_same]

end Ck

/-
How lists stand in memory.
-/
set_option linter.unusedSimpArgs false
set_option linter.unusedVariables false
namespace Ck
open Go

abbrev BF := Nat → Option Blk
abbrev pt (b o : Nat) : Value := .pointer (some ⟨b, o, none⟩)
def slB : Value → Nat
  | .slice (some a) _ _ => a.block
  | _ => 0
def slO : Value → Nat
  | .slice (some a) _ _ => a.off
  | _ => 0

/-- A slice of so many elements of e cells, and its cells. -/
def Row (h : BF) (e : Nat) (v : Value) (n : Nat) (cs : List Value) : Prop :=
  cs.length = n * e ∧ ((n = 0 ∧ v = .slice none 0 0) ∨ ∃ b o c ro full, v = .slice (some ⟨b, o, none⟩) n c ∧ h b = some (.cells e ro full) ∧ o + n * e ≤ full.length ∧ (full.drop o).take (n * e) = cs)

/-- All that stands in h stands in g. -/
def BF.le (h g : BF) : Prop := ∀ b x, h b = some x → g b = some x

theorem BF.le.refl (h : BF) : BF.le h h := fun _ _ h => h
theorem BF.le.trans {f g h : BF} (a : BF.le f g) (b : BF.le g h) : BF.le f h := fun _ _ hx => b _ _ (a _ _ hx)

theorem Row.mono {h g : BF} {e n : Nat} {v : Value} {cs : List Value} (hr : Row h e v n cs) (hl : BF.le h g) : Row g e v n cs := by
  obtain ⟨h1, h2 | ⟨b, o, c, ro, full, h3, h4, h5⟩⟩ := hr
  · exact ⟨h1, .inl h2⟩
  · exact ⟨h1, .inr ⟨b, o, c, ro, full, h3, hl _ _ h4, h5⟩⟩

theorem Row.length {h : BF} {e n : Nat} {v : Value} {cs : List Value} (hr : Row h e v n cs) : cs.length = n * e := hr.1
theorem Row.lenV {h : BF} {e n : Nat} {v : Value} {cs : List Value} (hr : Row h e v n cs) : lenV v = some (.int .i64 n) := by
  obtain ⟨h1, ⟨rfl, rfl⟩ | ⟨b, o, c, ro, full, rfl, h4, h5⟩⟩ := hr <;> rfl
theorem Row.lenN {h : BF} {e n : Nat} {v : Value} {cs : List Value} (hr : Row h e v n cs) : lenN v = some n := by
  obtain ⟨h1, ⟨rfl, rfl⟩ | ⟨b, o, c, ro, full, rfl, h4, h5⟩⟩ := hr <;> rfl
theorem Row.flat {h : BF} {e n : Nat} {v : Value} {cs : List Value} (hr : Row h e v n cs) : flat v = true := by
  obtain ⟨h1, ⟨rfl, rfl⟩ | ⟨b, o, c, ro, full, rfl, h4, h5⟩⟩ := hr <;> rfl
theorem Row.cells {h : BF} {e n : Nat} {v : Value} {cs : List Value} (hr : Row h e v n cs) : v.cells = #[v] := by
  obtain ⟨h1, ⟨rfl, rfl⟩ | ⟨b, o, c, ro, full, rfl, h4, h5⟩⟩ := hr <;> rfl

theorem natOf_int {k : IntKind} {i : Int} (h : 0 ≤ i) : natOf (.int k i) = some i.toNat := by simp [natOf, h]
theorem natOf_nat {k : IntKind} {i : Nat} : natOf (.int k (i : Int)) = some i := by simp [natOf]

theorem Row.iaddr {h : BF} {e n : Nat} {v : Value} {cs : List Value} (hr : Row h e v n cs) {k : IntKind} {i : Int} (h0 : 0 ≤ i) (hi : i < n) : iaddrV e v (.int k i) = some (pt (slB v) (slO v + i.toNat * e)) := by
  obtain ⟨h1, ⟨rfl, rfl⟩ | ⟨b, o, c, ro, full, rfl, h4, h5⟩⟩ := hr
  · omega
  · simp only [iaddrV, natOf_int h0, Option.bind_some]
    rw [if_pos (by omega)]
    rfl

theorem take_drop_get {α : Type} {l cs : List α} {o m i : Nat} (h : (l.drop o).take m = cs) (hi : i < m) (hl : o + m ≤ l.length) : l[o + i]? = cs[i]? := by
  rw [← h, List.getElem?_take, if_pos hi, List.getElem?_drop]

/-- One cell. -/
theorem Row.ld {H : Heap} {e n : Nat} {v : Value} {cs : List Value} (hr : Row H.blk e v n cs) {j m : Nat} (hj : j < n * e) : ldV false m (pt (slB v) (slO v + j)) H = cs[j]? := by
  obtain ⟨h1, ⟨rfl, rfl⟩ | ⟨b, o, c, ro, full, rfl, h4, h5, h6⟩⟩ := hr
  · omega
  · show H.ld b (o + j) = _
    simp only [Heap.ld, h4]
    exact take_drop_get h6 hj h5

theorem drop_take_lds {l cs : List Value} {o m j k : Nat} (h : (l.drop o).take m = cs) (hj : j + k ≤ m) (hl : o + m ≤ l.length) : (l.drop (o + j)).take k = (cs.drop j).take k := by
  rw [← h, List.drop_take, List.drop_drop, List.take_take, Nat.min_eq_left (by omega)]

/-- An element's cells. -/
theorem Row.lds {H : Heap} {e n : Nat} {v : Value} {cs : List Value} (hr : Row H.blk e v n cs) {j k : Nat} (hj : j + k ≤ n * e) (hn : 0 < n) : ldV true k (pt (slB v) (slO v + j)) H = some (.agg ((cs.drop j).take k).toArray) := by
  obtain ⟨h1, ⟨rfl, rfl⟩ | ⟨b, o, c, ro, full, rfl, h4, h5, h6⟩⟩ := hr
  · omega
  · show (H.lds b (o + j) k).map (fun cs => Value.agg cs.toArray) = _
    rw [show H.lds b (o + j) k = some ((full.drop (o + j)).take k) by simp only [Heap.lds, h4]; exact if_pos (by omega), drop_take_lds h6 hj h5]
    rfl

/-! ### Lists of data -/

/-- Cells, so many an element, and the data that they are. -/
def Parts {α : Type} (e : Nat) (R : List Value → α → Prop) : List Value → List α → Prop
  | cs, [] => cs = []
  | cs, x :: xs => R (cs.take e) x ∧ e ≤ cs.length ∧ Parts e R (cs.drop e) xs

theorem Parts.mono {α : Type} {e : Nat} {R S : List Value → α → Prop} (hm : ∀ c x, R c x → S c x) : ∀ {xs : List α} {cs : List Value}, Parts e R cs xs → Parts e S cs xs
  | [], _, h => h
  | _ :: _, _, ⟨h1, h2, h3⟩ => ⟨hm _ _ h1, h2, Parts.mono hm h3⟩

theorem Parts.length {α : Type} {e : Nat} {R : List Value → α → Prop} : ∀ {xs : List α} {cs : List Value}, Parts e R cs xs → cs.length = xs.length * e
  | [], cs, h => by simp only [Parts] at h; simp [h]
  | x :: xs, cs, ⟨h1, h2, h3⟩ => by
    have := Parts.length h3
    rw [List.length_drop] at this
    simp only [List.length_cons, Nat.succ_mul]
    omega

theorem Parts.get {α : Type} {e : Nat} {R : List Value → α → Prop} : ∀ {xs : List α} {cs : List Value} {i : Nat} {x : α}, Parts e R cs xs → xs[i]? = some x → R ((cs.drop (i * e)).take e) x
  | [], _, _, _, _, h => by simp at h
  | y :: ys, cs, i, x, ⟨h1, h2, h3⟩, h => by
    cases i with
    | zero => simp at h; subst h; simpa using h1
    | succ i =>
      have := Parts.get h3 (by simpa using h)
      rw [List.drop_drop] at this
      rw [Nat.succ_mul, Nat.add_comm]
      exact this

theorem Parts.append {α : Type} {e : Nat} {R : List Value → α → Prop} : ∀ {xs ys : List α} {cs ds : List Value}, Parts e R cs xs → Parts e R ds ys → Parts e R (cs ++ ds) (xs ++ ys)
  | [], ys, cs, ds, h, h' => by simp only [Parts] at h; subst h; simpa using h'
  | x :: xs, ys, cs, ds, ⟨h1, h2, h3⟩, h' => by
    refine ⟨?_, ?_, ?_⟩
    · rw [List.take_append_of_le_length h2]; exact h1
    · simp; omega
    · rw [List.drop_append_of_le_length h2]; exact Parts.append h3 h'

theorem Parts.one {α : Type} {e : Nat} {R : List Value → α → Prop} {c : List Value} {x : α} (h : R c x) (hl : c.length = e) : Parts e R c [x] := by
  subst hl
  exact ⟨by simpa using h, Nat.le_refl _, by simp [Parts]⟩

/-- A slice, and the list that it is. -/
def RL {α : Type} (h : BF) (e : Nat) (R : List Value → α → Prop) (v : Value) (xs : List α) : Prop := ∃ cs, Row h e v xs.length cs ∧ Parts e R cs xs

theorem RL.mono {α : Type} {h g : BF} {e : Nat} {R S : List Value → α → Prop} {v : Value} {xs : List α} (hr : RL h e R v xs) (hl : BF.le h g) (hm : ∀ c x, R c x → S c x) : RL g e S v xs := by
  obtain ⟨cs, h1, h2⟩ := hr
  exact ⟨cs, h1.mono hl, h2.mono hm⟩

/-- A slice of atoms. -/
def RA {α : Type} (f : α → Value) (h : BF) (v : Value) (xs : List α) : Prop := Row h 1 v xs.length (xs.map f)

theorem RA.mono {α : Type} {f : α → Value} {h g : BF} {v : Value} {xs : List α} (hr : RA f h v xs) (hl : BF.le h g) : RA f g v xs := Row.mono hr hl

end Ck

/-
Modules, instances, calls: as plain data; and how they stand in memory.
-/
set_option linter.unusedSimpArgs false
set_option linter.unusedVariables false
namespace Ck
open Go

structure Ins where
  op : Int
  a : Int
  b : Int
  n : Int
  l : List Int
  t : Int

structure FT where
  ps : List Int
  rs : List Int

structure Lim where
  min : Int
  max : Int
  has : Bool

structure Tab where
  ty : Int
  lim : Lim

structure Glo where
  ty : Int
  mu : Bool
  init : List Ins

structure Exp where
  name : ByteArray
  kind : Int
  idx : Int

structure Ele where
  mode : Int
  ty : Int
  tab : Int
  off : List Ins
  init : List (List Ins)

structure Dat where
  mode : Int
  off : List Ins
  bytes : List Int

structure Cod where
  locals : List Int
  body : List Ins

structure Mo where
  types : List FT
  funcs : List Int
  tables : List Tab
  mems : List Lim
  globals : List Glo
  exports : List Exp
  starts : Bool
  start : Int
  elems : List Ele
  counts : Bool
  count : Int
  codes : List Cod
  datas : List Dat

abbrev u8 (n : Int) : Value := .int .u8 n
abbrev u32 (n : Int) : Value := .int .u32 n
abbrev u64 (n : Int) : Value := .int .u64 n
abbrev i64 (n : Int) : Value := .int .i64 n

def RIns (h : BF) (c : List Value) (x : Ins) : Prop := ∃ l, c = [i64 x.op, u32 x.a, u32 x.b, u64 x.n, l, i64 x.t] ∧ RA u32 h l x.l
abbrev RBody (h : BF) (v : Value) (l : List Ins) : Prop := RL h 6 (RIns h) v l
def RFT (h : BF) (c : List Value) (x : FT) : Prop := ∃ p r, c = [p, r] ∧ RA u8 h p x.ps ∧ RA u8 h r x.rs
def RLim (c : List Value) (x : Lim) : Prop := c = [u32 x.min, u32 x.max, .bool x.has]
def RTab (c : List Value) (x : Tab) : Prop := c = [u8 x.ty, u32 x.lim.min, u32 x.lim.max, .bool x.lim.has]
def RGlo (h : BF) (c : List Value) (x : Glo) : Prop := ∃ l, c = [u8 x.ty, .bool x.mu, l] ∧ RBody h l x.init
def RExp (c : List Value) (x : Exp) : Prop := c = [.string x.name, u8 x.kind, u32 x.idx]
def RBod1 (h : BF) (c : List Value) (x : List Ins) : Prop := ∃ l, c = [l] ∧ RBody h l x
def REle (h : BF) (c : List Value) (x : Ele) : Prop := ∃ o i, c = [u8 x.mode, u8 x.ty, u32 x.tab, o, i] ∧ RBody h o x.off ∧ RL h 1 (RBod1 h) i x.init
def RDat (h : BF) (c : List Value) (x : Dat) : Prop := ∃ o b, c = [u8 x.mode, o, b] ∧ RBody h o x.off ∧ RA u8 h b x.bytes
def RCod (h : BF) (c : List Value) (x : Cod) : Prop := ∃ l b, c = [l, b] ∧ RA u8 h l x.locals ∧ RBody h b x.body

/-- A module's thirteen cells. -/
structure RMo (h : BF) (ty fu ta me gl ex el co da : Value) (m : Mo) : Prop where
  types : RL h 2 (RFT h) ty m.types
  funcs : RA u32 h fu m.funcs
  tables : RL h 4 RTab ta m.tables
  mems : RL h 3 RLim me m.mems
  globals : RL h 3 (RGlo h) gl m.globals
  exports : RL h 3 RExp ex m.exports
  elems : RL h 5 (REle h) el m.elems
  codes : RL h 2 (RCod h) co m.codes
  datas : RL h 3 (RDat h) da m.datas

end Ck

/-
What the program's instructions do: on plain data.
-/
set_option linter.unusedSimpArgs false
set_option linter.unusedVariables false
namespace Ck
open Go

structure Ld where
  to : Int
  ar : Int
  ht : Int
  deriving DecidableEq

structure Fr where
  fn : Int
  at_ : Int
  ar : Int
  ht : Int
  locals : List Int
  labels : List Ld
  deriving DecidableEq

structure Cf where
  frames : List Fr
  stack : List Int
  over : Bool
  err : Int
  values : List Int
  deriving DecidableEq

structure In where
  mem : List Int
  tables : List (List Int)
  globals : List Int
  elems : List Bool
  datas : List Bool
  deriving DecidableEq

inductive Note where
  | mem (from_ : Int) (was : List Int)
  | size (n : Int)
  | table (t from_ : Int) (was : List Int)
  | rows (t n : Int)
  | global (g was : Int)
  | seg (data : Bool) (k : Int) (was : Bool)

/-- A call, its instance, what was noted. -/
structure St where
  c : Cf
  i : In
  j : Option (List Note)

/-- What does not change: the module, where its blocks end. -/
structure Md where
  m : Mo
  blocks : List (List (Int × Int × Int))

abbrev l32 (n : Int) : Int := n % 4294967296

namespace P

def stop (e : Int) : Cf := ⟨[], [], true, e, []⟩
def push (l : List Int) (c : Cf) : Cf := { c with stack := c.stack ++ l }
def pops (n : Int) (c : Cf) : Option (List Int) × Cf :=
  let k := (c.stack.length : Int) - n
  if n < 0 ∨ k < 0 then (none, stop 17)
  else (some (c.stack.drop k.toNat), { c with stack := c.stack.take k.toNat })
def fr0 : Fr := ⟨0, 0, 0, 0, [], []⟩
def top (c : Cf) : Fr := c.frames.getLastD fr0
def setTop (f : Fr) (c : Cf) : Cf := { c with frames := c.frames.dropLast ++ [f] }
def has (n : Int) (size : Nat) : Bool := decide (n < size)

def function (d : Md) (f : Int) : Option FT :=
  if has f d.m.funcs.length = false then none else
  match d.m.funcs[f.toNat]? with
  | none => none
  | some t => if has t d.m.types.length && has f d.m.codes.length && has f d.blocks.length then d.m.types[t.toNat]? else none

def lowed : List Int → List Int → List Int
  | v :: vs, p :: ps => (if p = 127 then v % 4294967296 else v) :: lowed vs ps
  | vs, _ => vs

def opens (d : Md) (f : Int) (args : List Int) (c : Cf) : Cf :=
  if 32 ≤ c.frames.length then stop 8 else
  match function d f with
  | none => stop 17
  | some t =>
    if args.length ≠ t.ps.length then stop 17 else
    match d.m.codes[f.toNat]? with
    | none => c
    | some x =>
      { c with frames := c.frames ++ [⟨f, 0, t.rs.length, c.stack.length, lowed args t.ps ++ List.replicate x.locals.length 0, [⟨x.body.length - 1, t.rs.length, c.stack.length⟩]⟩] }

def lands (n height : Int) (c : Cf) : Bool × Cf :=
  match pops n c with
  | (none, c) => (false, c)
  | (some l, c) =>
    if height < 0 ∨ (c.stack.length : Int) < height then (false, stop 17)
    else (true, { c with stack := c.stack.take height.toNat ++ l })

def leaves (c : Cf) : Cf :=
  match lands (top c).ar (top c).ht c with
  | (false, c) => c
  | (true, c) => if c.frames.length ≤ 1 then ⟨[], [], true, 0, c.stack⟩ else { c with frames := c.frames.dropLast }

def op (d : Md) (at_ : Int) (c : Cf) : Int :=
  match d.m.codes[(top c).fn.toNat]? with
  | none => -1
  | some x => if at_ < 0 then -1 else
    match x.body[at_.toNat]? with
    | none => -1
    | some x => x.op

def branches (d : Md) (n : Int) (c : Cf) : Cf :=
  let f := top c
  let k := (f.labels.length : Int) - 1 - min n 2147483647
  if k < 0 then stop 17 else
  if k = 0 then leaves c else
  match f.labels[k.toNat]? with
  | none => c
  | some l =>
    match lands l.ar l.ht c with
    | (false, c) => c
    | (true, c) => setTop { top c with at_ := l.to + 1, labels := if op d l.to c = 3 then f.labels.take (k.toNat + 1) else f.labels.take k.toNat } c

def signature (d : Md) (t : Int) : Option (Int × Int) :=
  if t = -64 then some (0, 0) else if t < 0 then some (0, 1) else
  (d.m.types[t.toNat]?).map fun x => (x.ps.length, x.rs.length)

def findB (k : Int) : List (Int × Int × Int) → Option (Int × Int)
  | [] => none
  | (i, b) :: r => if i = k then some b else findB k r

def blockAt (d : Md) (fn at_ : Int) : Option (Int × Int) := (d.blocks[fn.toNat]?).bind (findB at_)

def label (x : Ins) (at_ ps rs end_ : Int) (c : Cf) : Cf :=
  setTop { top c with labels := (top c).labels ++ [if x.op = 3 then ⟨at_, ps, c.stack.length - ps⟩ else ⟨end_, rs, c.stack.length - ps⟩] } c

def enters (d : Md) (x : Ins) (at_ : Int) (c : Cf) : Cf :=
  match blockAt d (top c).fn at_, signature d x.t with
  | some (els, end_), some (ps, rs) =>
    if x.op = 4 then
      match pops 1 c with
      | (none, c) => c
      | (some l, c) =>
        if l32 (l.getD 0 0) = 0 then
          if els < 0 then setTop { top c with at_ := end_ + 1 } c
          else label x at_ ps rs end_ (setTop { top c with at_ := els + 1 } c)
        else label x at_ ps rs end_ c
    else label x at_ ps rs end_ c
  | _, _ => stop 17

def closes (c : Cf) : Cf :=
  if (top c).labels.length = 0 then stop 17 else
  if (top c).labels.length = 1 then leaves c else
  setTop { top c with labels := (top c).labels.dropLast } c

def skips (c : Cf) : Cf :=
  if (top c).labels.length ≤ 1 then stop 17 else
  setTop { top c with at_ := ((top c).labels.getLastD ⟨0, 0, 0⟩).to + 1, labels := (top c).labels.dropLast } c

def calls (d : Md) (f : Int) (c : Cf) : Cf :=
  match function d f with
  | none => stop 17
  | some t => match pops t.ps.length c with
    | (none, c) => c
    | (some l, c) => opens d f l c

def tget (t : List Int) (at_ : Int) : Option Int := t[(l32 at_).toNat]?

def indirect (d : Md) (i : In) (x : Ins) (c : Cf) : Cf :=
  match pops 1 c with
  | (none, c) => c
  | (some l, c) =>
    if has x.b i.tables.length && has x.a d.m.types.length then
      match tget (i.tables.getD x.b.toNat []) (l.getD 0 0) with
      | none => stop 7
      | some v => if v = 0 then stop 7 else
        match function d (min (v - 1) 4294967295) with
        | none => stop 17
        | some t => if v > 4294967295 then stop 17 else
          match d.m.types[x.a.toNat]? with
          | none => c
          | some w => if t.ps = w.ps ∧ t.rs = w.rs then calls d (v - 1) c else stop 7
    else stop 17

def control (d : Md) (i : In) (x : Ins) (at_ : Int) (c : Cf) : Option Cf :=
  if x.op = 0 then some (stop 7) else
  if x.op = 1 then some c else
  if x.op = 2 ∨ x.op = 3 ∨ x.op = 4 then some (enters d x at_ c) else
  if x.op = 5 then some (skips c) else
  if x.op = 11 then some (closes c) else
  if x.op = 12 then some (branches d x.a c) else
  if x.op = 13 then some (match pops 1 c with
    | (none, c) => c
    | (some l, c) => if l32 (l.getD 0 0) = 0 then c else branches d x.a c) else
  if x.op = 14 then some (match pops 1 c with
    | (none, c) => c
    | (some l, c) => branches d ((x.l[(l32 (l.getD 0 0)).toNat]?).getD x.a) c) else
  if x.op = 15 then some (leaves c) else
  if x.op = 16 then some (calls d x.a c) else
  if x.op = 17 then some (indirect d i x c) else
  none

/-! ### With the instance, and what is noted -/

def ends (e : Int) (s : St) : St := { s with c := stop e }
def pushS (l : List Int) (s : St) : St := { s with c := push l s.c }
def popsS (n : Int) (s : St) : Option (List Int) × St := let r := pops n s.c; (r.1, { s with c := r.2 })
def setTopS (f : Fr) (s : St) : St := { s with c := setTop f s.c }

/-- Notes, if something is noted. -/
def note (n : Note) (s : St) : St := { s with j := s.j.map (· ++ [n]) }

def part (size : Nat) (at_ n : Int) : Int × Int :=
  if n ≤ 0 ∨ (size : Int) ≤ at_ then (0, 0) else
  let n' := if at_ < 0 then n + at_ else n
  let a := if at_ < 0 then 0 else at_
  (a, if n' < size - a then a + max n' 0 else size)

def cut (l : List Int) (from_ to : Int) : List Int := (l.take to.toNat).drop from_.toNat

def jMem (at_ n : Int) (s : St) : St :=
  let p := part s.i.mem.length at_ n
  if p.1 < p.2 then note (.mem p.1 (cut s.i.mem p.1 p.2)) s else s
def jSize (s : St) : St := note (.size s.i.mem.length) s
def jTable (t at_ n : Int) (s : St) : St :=
  if t < 0 then s else
  match s.i.tables[t.toNat]? with
  | none => s
  | some l =>
    let p := part l.length at_ n
    if p.1 < p.2 then note (.table t p.1 (cut l p.1 p.2)) s else s
def jRows (t : Int) (s : St) : St :=
  if t < 0 then s else
  match s.i.tables[t.toNat]? with
  | none => s
  | some l => note (.rows t l.length) s
def jGlobal (g : Int) (s : St) : St :=
  if g < 0 then s else
  match s.i.globals[g.toNat]? with
  | none => s
  | some v => note (.global g v) s
def segs (data : Bool) (i : In) : List Bool := if data then i.datas else i.elems
def setSegs (data : Bool) (l : List Bool) (i : In) : In := if data then { i with datas := l } else { i with elems := l }
def jSeg (data : Bool) (k : Int) (s : St) : St :=
  if k < 0 then s else
  match (segs data s.i)[k.toNat]? with
  | none => s
  | some v => note (.seg data k v) s

def places (x : Ins) (s : St) : Option St :=
  if x.op = 26 then some (popsS 1 s).2 else
  if x.op = 27 ∨ x.op = 28 then some (match popsS 3 s with
    | (none, s) => s
    | (some l, s) => pushS [if l32 (l.getD 2 0) = 0 then l.getD 1 0 else l.getD 0 0] s) else
  if x.op = 32 then some (match (top s.c).locals[x.a.toNat]? with
    | none => ends 17 s
    | some v => pushS [v] s) else
  if x.op = 33 ∨ x.op = 34 then some (match popsS 1 s with
    | (none, s) => s
    | (some l, s) =>
      if has x.a (top s.c).locals.length then
        let s := setTopS { top s.c with locals := (top s.c).locals.set x.a.toNat (l.getD 0 0) } s
        if x.op = 34 then pushS [l.getD 0 0] s else s
      else ends 17 s) else
  if x.op = 35 then some (match s.i.globals[x.a.toNat]? with
    | none => ends 17 s
    | some v => pushS [v] s) else
  if x.op = 36 then some (match popsS 1 s with
    | (none, s) => s
    | (some l, s) =>
      if has x.a s.i.globals.length then
        let s := jGlobal x.a s
        { s with i := { s.i with globals := s.i.globals.set x.a.toNat (l.getD 0 0) } }
      else ends 17 s) else
  if x.op = 65 ∨ x.op = 66 then some (pushS [x.n] s) else
  if x.op = 208 then some (pushS [0] s) else
  if x.op = 209 then some (match popsS 1 s with
    | (none, s) => s
    | (some l, s) => pushS [if l.getD 0 0 = 0 then 1 else 0] s) else
  if x.op = 210 then some (pushS [x.a + 1] s) else
  none


/-! ### Memory -/

def width (op : Int) (store : Bool) : Int :=
  if store then
    (if op = 58 ∨ op = 60 then 1 else if op = 59 ∨ op = 61 then 2 else if op = 54 ∨ op = 62 then 4 else if op = 55 then 8 else 0)
  else
    (if op = 44 ∨ op = 45 ∨ op = 48 ∨ op = 49 then 1 else if op = 46 ∨ op = 47 ∨ op = 50 ∨ op = 51 then 2 else if op = 40 ∨ op = 52 ∨ op = 53 then 4 else if op = 41 then 8 else 0)

def fits (size : Nat) (at_ n : Int) : Bool := decide (at_ ≤ size) && decide (n ≤ size - at_)

/-- The last byte first. -/
def gather : List Int → Int
  | [] => 0
  | b :: r => gather r * 256 + b

def signed (op v : Int) : Int :=
  if op = 44 then IntKind.wrap .u32 (IntKind.wrap .i8 v) else
  if op = 46 then IntKind.wrap .u32 (IntKind.wrap .i16 v) else
  if op = 48 then IntKind.wrap .u64 (IntKind.wrap .i8 v) else
  if op = 50 then IntKind.wrap .u64 (IntKind.wrap .i16 v) else
  if op = 52 then IntKind.wrap .u64 (IntKind.wrap .i32 v) else v

/-- A number, or an error. -/
def load (mem : List Int) (op base off : Int) : Int × Int :=
  let n := width op false
  let at_ := l32 base + off
  if n = 0 then (0, 1) else
  if fits mem.length at_ n = false then (0, 7) else
  (signed op (gather (cut mem at_ (at_ + n))), 0)

def bytesOf : Nat → Int → List Int
  | 0, _ => []
  | n + 1, v => v % 256 :: bytesOf n (v / 256)

def splice (l : List Int) (at_ : Nat) (xs : List Int) : List Int := l.take at_ ++ xs ++ l.drop (at_ + xs.length)

def store (mem : List Int) (op base off v : Int) : List Int × Int :=
  let n := width op true
  let at_ := l32 base + off
  if n = 0 then (mem, 1) else
  if fits mem.length at_ n = false then (mem, 7) else
  (splice mem at_.toNat (bytesOf n.toNat v), 0)

def growM (mem : List Int) (pages : Int) (l : Lim) : Option (List Int) :=
  let now := (mem.length : Int) / 65536
  let most := if l.has then min 1 l.max else 1
  if most < now ∨ most - now < l32 pages then none else some (mem ++ List.replicate (l32 pages * 65536).toNat 0)

def growT (t : List Int) (v n : Int) (l : Lim) : Option (List Int) :=
  let now := (t.length : Int)
  let most := if l.has then min 64 l.max else 64
  if most < now ∨ most - now < l32 n then none else some (t ++ List.replicate (l32 n).toNat v)

def traps (e : Int) (s : St) : St := if e = 0 then s else ends e s

def worth (l : List Ins) : Int :=
  match l with
  | [] => 0
  | x :: _ => if x.op = 65 ∨ x.op = 66 then x.n else if x.op = 210 then x.a + 1 else 0

def mem0 (d : Md) : Option Lim := d.m.mems[0]?

def cells (d : Md) (x : Ins) (s : St) : St :=
  match mem0 d with
  | none => ends 17 s
  | some _ =>
    match popsS 3 s with
    | (none, s) => s
    | (some l, s) =>
      let dd := l32 (l.getD 0 0)
      let ss := l.getD 1 0
      let n := l32 (l.getD 2 0)
      let go (from_ : List Int) : St :=
        if (x.op ≠ 64523 ∧ fits from_.length (l32 ss) n = false) ∨ fits s.i.mem.length dd n = false then ends 7 s else
        let s := jMem dd n s
        if x.op ≠ 64523 then { s with i := { s.i with mem := splice s.i.mem dd.toNat (cut from_ (l32 ss) (l32 ss + n)) } }
        else { s with i := { s.i with mem := splice s.i.mem dd.toNat (List.replicate n.toNat (ss % 256)) } }
      if x.op = 64520 then
        match s.i.datas[x.a.toNat]?, d.m.datas[x.a.toNat]? with
        | some dr, some dt => go (if dr then [] else dt.bytes)
        | _, _ => ends 17 s
      else go s.i.mem

def grows (d : Md) (s : St) : St :=
  match mem0 d with
  | none => ends 17 s
  | some lim =>
    match popsS 1 s with
    | (none, s) => s
    | (some l, s) =>
      match growM s.i.mem (l.getD 0 0) lim with
      | some out => pushS [(s.i.mem.length : Int) / 65536] { (jSize s) with i := { s.i with mem := out } }
      | none => pushS [4294967295] s

def drops (data : Bool) (k : Int) (s : St) : St :=
  if has k (segs data s.i).length then
    let s := jSeg data k s
    { s with i := setSegs data ((segs data s.i).set k.toNat true) s.i }
  else ends 17 s

def tab (d : Md) (n : Int) (s : St) : Option (List Int) :=
  if has n s.i.tables.length && has n d.m.tables.length then s.i.tables[n.toNat]? else none

def setTab (n : Int) (t : List Int) (s : St) : St := { s with i := { s.i with tables := s.i.tables.set n.toNat t } }

def tfits (t : List Int) (at_ n : Int) : Bool := decide (at_ ≤ t.length) && decide (n ≤ t.length - at_)

def rows (d : Md) (x : Ins) (s : St) : St :=
  let to := if x.op = 64524 then x.b else x.a
  match tab d to s with
  | none => ends 17 s
  | some t =>
    let go (l : List Int) : St :=
      match popsS 3 s with
      | (none, s) => s
      | (some v, s) =>
        let dd := l32 (v.getD 0 0)
        let n := l32 (v.getD 2 0)
        let s := if fits t.length dd n then jTable to dd n s else s
        if x.op = 64529 then
          if tfits t dd n then setTab to (splice t dd.toNat (List.replicate n.toNat (v.getD 1 0))) s else ends 7 s
        else
          let ss := l32 (v.getD 1 0)
          if tfits t dd n && tfits l ss n then setTab to (splice t dd.toNat (cut l ss (ss + n))) s else ends 7 s
    if x.op = 64524 then
      match s.i.elems[x.a.toNat]?, d.m.elems[x.a.toNat]? with
      | some dr, some e => go (if dr then [] else e.init.map worth)
      | _, _ => ends 17 s
    else if x.op = 64526 then
      match tab d x.b s with
      | none => ends 17 s
      | some l => go l
    else go []

def tables (d : Md) (x : Ins) (s : St) : Option St :=
  if x.op = 37 then some (match tab d x.a s with
    | none => ends 17 s
    | some t => match popsS 1 s with
      | (none, s) => s
      | (some l, s) => match tget t (l.getD 0 0) with
        | none => ends 7 s
        | some v => pushS [v] s) else
  if x.op = 38 then some (match tab d x.a s with
    | none => ends 17 s
    | some t => match popsS 2 s with
      | (none, s) => s
      | (some l, s) =>
        let at_ := l32 (l.getD 0 0)
        if at_ < t.length then setTab x.a (t.set at_.toNat (l.getD 1 0)) (jTable x.a at_ 1 s) else ends 7 s) else
  if x.op = 64524 ∨ x.op = 64526 ∨ x.op = 64529 then some (rows d x s) else
  if x.op = 64525 then some (drops false x.a s) else
  if x.op = 64527 then some (match tab d x.a s with
    | none => ends 17 s
    | some t => match popsS 2 s with
      | (none, s) => s
      | (some l, s) => match d.m.tables[x.a.toNat]? with
        | none => s
        | some tt => match growT t (l.getD 0 0) (l.getD 1 0) tt.lim with
          | some out => pushS [(t.length : Int)] (setTab x.a out (jRows x.a s))
          | none => pushS [4294967295] s) else
  if x.op = 64528 then some (match tab d x.a s with
    | none => ends 17 s
    | some t => pushS [(t.length : Int)] s) else
  none

def bulk (d : Md) (x : Ins) (s : St) : Option St :=
  if x.op = 63 then some (match mem0 d with
    | none => ends 17 s
    | some _ => pushS [(s.i.mem.length : Int) / 65536] s) else
  if x.op = 64 then some (grows d s) else
  if x.op = 64520 ∨ x.op = 64522 ∨ x.op = 64523 then some (cells d x s) else
  if x.op = 64521 then some (drops true x.a s) else
  none

def sizes (op : Int) : Int := if op = 54 ∨ op = 62 then 4 else if op = 55 then 8 else if op = 58 ∨ op = 60 then 1 else 2

def moves (d : Md) (x : Ins) (s : St) : Option St :=
  if x.op < 40 ∨ 62 < x.op then none else
  some (match mem0 d with
  | none => ends 17 s
  | some _ =>
    if x.op ≤ 53 then
      match popsS 1 s with
      | (none, s) => s
      | (some l, s) =>
        let r := load s.i.mem x.op (l.getD 0 0) x.b
        if r.2 = 0 then pushS [r.1] s else ends r.2 s
    else
      match popsS 2 s with
      | (none, s) => s
      | (some l, s) =>
        let at_ := l32 (l.getD 0 0) + x.b
        let s := if at_ < s.i.mem.length then jMem at_ (sizes x.op) s else s
        let r := store s.i.mem x.op (l.getD 0 0) x.b (l.getD 1 0)
        traps r.2 { s with i := { s.i with mem := r.1 } })


/-! ### Numbers -/

def numIs (op : Int) : Int :=
  if op = 69 ∨ op = 80 ∨ (103 ≤ op ∧ op ≤ 105) ∨ (121 ≤ op ∧ op ≤ 123) ∨ op = 167 ∨ op = 172 ∨ op = 173 ∨ (192 ≤ op ∧ op ≤ 196) then 1 else
  if (70 ≤ op ∧ op ≤ 79) ∨ (81 ≤ op ∧ op ≤ 90) ∨ (106 ≤ op ∧ op ≤ 120) ∨ (124 ≤ op ∧ op ≤ 138) then 2 else 0

end P
end Ck

/-
What changes and what stays: blocks that are owned.
-/
set_option linter.unusedSimpArgs false
set_option linter.unusedVariables false
namespace Ck
open Go

/-- Of the blocks that were there, only those of O may have changed. -/
structure Up (H : Heap) (O : List Nat) (H' : Heap) : Prop where
  le : H.next ≤ H'.next
  eq : ∀ b, b < H.next → b ∉ O → H'.blk b = H.blk b
  wi : Within H → Within H'

theorem Up.refl (H : Heap) (O : List Nat) : Up H O H := ⟨Nat.le_refl _, fun _ _ _ => rfl, id⟩
theorem Up.trans {H H1 H2 : Heap} {O O1 : List Nat} (h : Up H O H1) (h1 : Up H1 O1 H2) (hs : ∀ b, b ∈ O1 → b ∈ O ∨ H.next ≤ b) : Up H O H2 := by
  refine ⟨Nat.le_trans h.le h1.le, fun b hb hn => ?_, fun w => h1.wi (h.wi w)⟩
  rw [h1.eq b (Nat.lt_of_lt_of_le hb h.le), h.eq b hb hn]
  intro hm
  rcases hs b hm with h2 | h2
  · exact hn h2
  · omega
theorem Up.mono {H H1 : Heap} {O O1 : List Nat} (h : Up H O H1) (hs : ∀ b, b ∈ O → b ∈ O1) : Up H O1 H1 := ⟨h.le, fun b hb hn => h.eq b hb fun hm => hn (hs b hm), h.wi⟩
theorem within_new {H : Heap} (h : Within H) (x : Blk) : Within (H.new x) := fun b y hb => by
  rw [blk_new] at hb
  simp only [new_next]
  split at hb
  · omega
  · exact Nat.lt_succ_of_lt (h b y hb)
theorem within_set {H : Heap} (h : Within H) {b : Nat} (x : Option Blk) (hb : b < H.next) : Within (H.set b x) := fun c y hc => by
  rw [set_blk] at hc
  simp only [set_next]
  split at hc
  · omega
  · exact h c y hc
theorem within_none {H : Heap} (h : Within H) (b : Nat) : Within (H.set b none) := fun c y hc => by
  rw [set_blk] at hc
  split at hc
  · simp at hc
  · exact h c y hc
theorem up_new (H : Heap) (O : List Nat) (x : Blk) : Up H O (H.new x) := ⟨Nat.le_succ _, fun b hb _ => new_other hb, fun w => within_new w x⟩
theorem up_set {H : Heap} {O : List Nat} {b : Nat} {x : Option Blk} (hb : b ∈ O) (hl : b < H.next) : Up H O (H.set b x) := ⟨Nat.le_refl _, fun c _ hn => set_other fun e => hn (e ▸ hb), fun w => within_set w x hl⟩

/-- What stands in a row is there. -/
theorem Row.lt {H : Heap} {e n : Nat} {v : Value} {cs : List Value} (hr : Row H.blk e v n cs) (hw : Within H) : v = .slice none 0 0 ∨ slB v < H.next := by
  obtain ⟨h1, h2 | ⟨b, o, c, ro, full, rfl, h4, h5⟩⟩ := hr
  · exact .inl h2.2
  · exact .inr (hw _ _ h4)
theorem Row.keep {H H' : Heap} {e n : Nat} {O : List Nat} {v : Value} {cs : List Value} (hr : Row H.blk e v n cs) (hw : Within H) (hu : Up H O H') (hO : v = .slice none 0 0 ∨ slB v ∉ O) : Row H'.blk e v n cs := by
  obtain ⟨h1, h2 | ⟨b, o, c, ro, full, rfl, h4, h5⟩⟩ := hr
  · exact ⟨h1, .inl h2⟩
  · refine ⟨h1, .inr ⟨b, o, c, ro, full, rfl, ?_, h5⟩⟩
    rw [hu.eq b (hw _ _ h4) (by rcases hO with h | h; · simp at h
                                exact h), h4]

/-- Owned blocks: distinct, and there. -/
def Own (H : Heap) (O : List Nat) : Prop := O.Nodup ∧ ∀ b, b ∈ O → b < H.next

/-- A slice that is owned: at a block's head; its cells. -/
def OSl (h : BF) (e : Nat) (v : Value) (cs : List Value) (O : List Nat) : Prop :=
  (cs = [] ∧ v = .slice none 0 0 ∧ O = []) ∨ ∃ b n c full, v = .slice (some ⟨b, 0, none⟩) n c ∧ cs.length = n * e ∧ h b = some (.cells e false full) ∧ full.take cs.length = cs ∧ cs.length ≤ full.length ∧ O = [b]

theorem OSl.row {h : BF} {e : Nat} {v : Value} {cs : List Value} {O : List Nat} (hs : OSl h e v cs O) (he : 0 < e) : ∃ n, cs.length = n * e ∧ Row h e v n cs := by
  rcases hs with ⟨rfl, rfl, rfl⟩ | ⟨b, n, c, full, rfl, h1, h2, h3, h4, rfl⟩
  · exact ⟨0, by simp, by simp, .inl ⟨rfl, rfl⟩⟩
  · exact ⟨n, h1, h1, .inr ⟨b, 0, c, false, full, rfl, h2, by omega, by rw [← h1]; simpa using h3⟩⟩

theorem OSl.keep {h g : BF} {e : Nat} {v : Value} {cs : List Value} {O : List Nat} (hs : OSl h e v cs O) (hk : ∀ b ∈ O, g b = h b) : OSl g e v cs O := by
  rcases hs with ⟨rfl, rfl, rfl⟩ | ⟨b, n, c, full, rfl, h1, h2, h3, h4, rfl⟩
  · exact .inl ⟨rfl, rfl, rfl⟩
  · exact .inr ⟨b, n, c, full, rfl, h1, by rw [hk b (by simp), h2], h3, h4, rfl⟩

theorem OSl.flat {h : BF} {e : Nat} {v : Value} {cs : List Value} {O : List Nat} (hs : OSl h e v cs O) : flat v = true := by
  rcases hs with ⟨rfl, rfl, rfl⟩ | ⟨b, n, c, full, rfl, h1, h2, h3, h4, rfl⟩ <;> rfl

/-- A frame's six cells. -/
def ldcells : List Ld → List Value
  | [] => []
  | l :: r => i64 l.to :: i64 l.ar :: i64 l.ht :: ldcells r

def FrC (h : BF) (c : List Value) (f : Fr) (O : List Nat) : Prop :=
  ∃ vl vb ol ob, c = [i64 f.fn, i64 f.at_, i64 f.ar, i64 f.ht, vl, vb] ∧ OSl h 1 vl (f.locals.map u64) ol ∧ OSl h 3 vb (ldcells f.labels) ob ∧ O = ol ++ ob

def FrsC (h : BF) : List Value → List Fr → List Nat → Prop
  | cs, [], O => cs = [] ∧ O = []
  | cs, f :: fs, O => ∃ c1 c2 O1 O2, cs = c1 ++ c2 ∧ FrC h c1 f O1 ∧ FrsC h c2 fs O2 ∧ O = O1 ++ O2

theorem FrC.keep {h g : BF} {c : List Value} {f : Fr} {O : List Nat} (hs : FrC h c f O) (hk : ∀ b ∈ O, g b = h b) : FrC g c f O := by
  obtain ⟨vl, vb, ol, ob, h1, h2, h3, rfl⟩ := hs
  exact ⟨vl, vb, ol, ob, h1, h2.keep fun b hb => hk b (by simp [hb]), h3.keep fun b hb => hk b (by simp [hb]), rfl⟩

theorem FrsC.keep {h g : BF} : ∀ {cs : List Value} {fs : List Fr} {O : List Nat}, FrsC h cs fs O → (∀ b ∈ O, g b = h b) → FrsC g cs fs O
  | cs, [], O, hs, _ => hs
  | cs, f :: fs, O, ⟨c1, c2, O1, O2, h1, h2, h3, h4⟩, hk => by
    subst h4
    exact ⟨c1, c2, O1, O2, h1, h2.keep fun b hb => hk b (by simp [hb]), h3.keep fun b hb => hk b (by simp [hb]), rfl⟩

/-- A call on its way: its block, its frames' slice, what it owns. -/
def CfH (h : BF) (pc : Nat) (vf : Value) (c : Cf) (O : List Nat) : Prop :=
  ∃ vs vv cf Ob Of Os Ov, h pc = some (.cells 5 false [vf, vs, .bool c.over, i64 c.err, vv]) ∧ OSl h 6 vf cf Ob ∧ FrsC h cf c.frames Of ∧ OSl h 1 vs (c.stack.map u64) Os ∧ OSl h 1 vv (c.values.map u64) Ov ∧
    O = pc :: (Os ++ (Ob ++ (Of ++ Ov)))

theorem CfH.keep {h g : BF} {pc : Nat} {vf : Value} {c : Cf} {O : List Nat} (hs : CfH h pc vf c O) (hk : ∀ b ∈ O, g b = h b) : CfH g pc vf c O := by
  obtain ⟨vs, vv, cf, Ob, Of, Os, Ov, h1, h2, h3, h4, h5, rfl⟩ := hs
  exact ⟨vs, vv, cf, Ob, Of, Os, Ov, by rw [hk pc (by simp), h1], h2.keep fun b hb => hk b (by simp [hb]), h3.keep fun b hb => hk b (by simp [hb]), h4.keep fun b hb => hk b (by simp [hb]), h5.keep fun b hb => hk b (by simp [hb]), rfl⟩

theorem FrsC.length {h : BF} : ∀ {cs : List Value} {fs : List Fr} {O : List Nat}, FrsC h cs fs O → cs.length = fs.length * 6
  | cs, [], O, ⟨h1, _⟩ => by simp [h1]
  | cs, f :: fs, O, ⟨c1, c2, O1, O2, h1, ⟨_, _, _, _, h2, _⟩, h3, h4⟩ => by
    have := FrsC.length h3
    rw [h1, h2]
    simp
    omega

/-- The last frame. -/
theorem FrsC.snoc {h : BF} : ∀ {cs : List Value} {fs : List Fr} {f : Fr} {O : List Nat}, FrsC h cs (fs ++ [f]) O ↔ ∃ c1 c2 O1 O2, cs = c1 ++ c2 ∧ FrsC h c1 fs O1 ∧ FrC h c2 f O2 ∧ O = O1 ++ O2
  | cs, [], f, O => by
    constructor
    · rintro ⟨c1, c2, O1, O2, rfl, h2, ⟨rfl, rfl⟩, rfl⟩
      exact ⟨[], c1, [], O1, by simp, ⟨rfl, rfl⟩, h2, by simp⟩
    · rintro ⟨c1, c2, O1, O2, rfl, ⟨rfl, rfl⟩, h2, rfl⟩
      exact ⟨c2, [], _, [], by simp, h2, ⟨rfl, rfl⟩, by simp⟩
  | cs, g :: fs, f, O => by
    constructor
    · rintro ⟨c1, c2, O1, O2, rfl, h2, h3, rfl⟩
      obtain ⟨d1, d2, P1, P2, rfl, k1, k2, rfl⟩ := FrsC.snoc.1 h3
      exact ⟨c1 ++ d1, d2, O1 ++ P1, P2, by simp, ⟨c1, d1, O1, P1, rfl, h2, k1, rfl⟩, k2, by simp⟩
    · rintro ⟨c1, c2, O1, O2, rfl, ⟨d1, d2, P1, P2, rfl, k1, k2, rfl⟩, h2, rfl⟩
      exact ⟨d1, d2 ++ c2, P1, P2 ++ O2, by simp, k1, FrsC.snoc.2 ⟨d2, c2, P2, O2, rfl, k2, h2, rfl⟩, by simp⟩

end Ck
