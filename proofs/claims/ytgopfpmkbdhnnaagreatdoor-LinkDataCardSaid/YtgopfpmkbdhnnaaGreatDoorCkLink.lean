/-
link: a segment's bytes.
-/
import Derived.Test.YtgopfpmkbdhnnaaGreatDoorCkNew3
set_option linter.unusedSimpArgs false
set_option linter.unusedVariables false
namespace Ck
open Go

theorem fits_ok {size : Nat} {a n : Int} (H : Heap) (hs : size ≤ 2 ^ 40) (ha : 0 ≤ a) (hn : 0 ≤ n) (ha' : a < 2 ^ 63) : call tbl 161 [i64 size, u64 a, u64 n] H = some (.bool (P.fits size a n), H) := by
  have hw : IntKind.wrap .u64 (size : Int) = size := wrap_u64 (by omega)
  have h0 : (0 : Int) ≤ size := by omega
  rw [c161]
  unfold P.fits
  by_cases c1 : a ≤ size
  · have hs : binV .sub (u64 size) (u64 a) = some (u64 ((size : Int) - a)) := by rw [binV_sub, wrap_u64 (by omega)]
    simp -implicitDefEqProofs [m161, hw, c1, hs]
  · simp -implicitDefEqProofs [m161, hw, c1]

theorem tfits_ok {H : Heap} {v : Value} {size : Nat} {a n : Int} (hl : lenV v = some (i64 size)) (hs : size ≤ 2 ^ 40) (ha : 0 ≤ a) (hn : 0 ≤ n) (ha' : a < 2 ^ 63) : call tbl 172 [v, u64 a, u64 n] H = some (.bool (decide (a ≤ size) && decide (n ≤ size - a)), H) := by
  have hw : IntKind.wrap .u64 (size : Int) = size := wrap_u64 (by omega)
  rw [c172]
  by_cases c1 : a ≤ size
  · have hs : binV .sub (u64 size) (u64 a) = some (u64 ((size : Int) - a)) := by rw [binV_sub, wrap_u64 (by omega)]
    simp -implicitDefEqProofs [m172, hl, hw, c1, hs]
  · simp -implicitDefEqProofs [m172, hl, hw, c1]

theorem splice_len {cs vs : List Value} {o : Nat} (h : o + vs.length ≤ cs.length) : (splice cs o vs).length = cs.length := by
  simp [splice]; omega

theorem splice_take {cs full vs : List Value} {o : Nat} (h : full.take cs.length = cs) (hl : o + vs.length ≤ cs.length) (hf : cs.length ≤ full.length) : (splice full o vs).take cs.length = splice cs o vs := by
  unfold splice
  have h1 : full.take o = cs.take o := by rw [← h, List.take_take, Nat.min_eq_left (by omega)]
  rw [h1]
  have h2 : (cs.take o ++ vs).length = o + vs.length := by simp; omega
  rw [List.take_append, List.take_of_length_le (by omega), h2]
  congr 1
  rw [← h]
  simp only [List.length_take]
  rw [List.drop_take, Nat.min_eq_left hf]

/-- Into an owned slice's cells from a place on. -/
theorem OSl.sts {H : Heap} {v : Value} {cs new : List Value} {O : List Nat} (hs : OSl H.blk 1 v cs O) {kk : IntKind} {a m : Nat} {s : Value} (hr : Row H.blk 1 s m new) (hle : a + m ≤ cs.length) (hO : Own H O) :
    ∃ v1 H', sliceV 1 v (some (.int kk (a : Int))) none H = some v1 ∧ copyV 1 v1 s H = some (i64 m, H') ∧ OSl H'.blk 1 v (splice cs a new) O ∧ Up H O H' ∧ H'.next = H.next := by
  have hm := hr.length
  rcases hs with ⟨rfl, rfl, rfl⟩ | ⟨b, n, c, full, rfl, h1, h2, h3, h4, rfl⟩
  · have ha : a = 0 := by simp at hle; omega
    have hm0 : m = 0 := by simp at hle; omega
    subst ha; subst hm0
    have : new = [] := by simpa using hm
    subst this
    refine ⟨.slice none 0 0, H, by simp [sliceV, natOf], ?_, .inl ⟨rfl, rfl, rfl⟩, Up.refl _ _, rfl⟩
    have := hr.cellsV (m := 0) (Nat.le_refl _)
    simp [copyV, hr.lenN, this]
  · simp only [Nat.mul_one] at h1
    refine ⟨_, if m = 0 then H else H.set b (some (.cells 1 false (splice full a new))), by simp only [sliceV, natOf_nat, Option.map_some, Option.map_none, Option.getD_some, Option.getD_none, Option.bind_some]; rw [if_pos ⟨by omega, Nat.le_refl _⟩]; simp only [h2, if_true]; rfl, ?_, ?_, ?_, ?_⟩
    · have hmin : min m (n - a) = m := by omega
      have hc := hr.cellsV (m := m) (Nat.le_refl _)
      have ht : new.take (m * 1) = new := by rw [← hm]; exact List.take_length
      rw [ht] at hc
      simp only [copyV, hr.lenN, Option.bind_some, hmin, hc]
      by_cases h0 : m = 0
      · simp [h0]
      · rw [if_neg h0, if_neg h0, sts_of h2 (by omega)]
        simp
    · by_cases h0 : m = 0
      · have : new = [] := by rw [h0] at hm; simpa using hm
        rw [if_pos h0, this]
        have : splice cs a [] = cs := by simp [splice]
        rw [this]
        exact .inr ⟨b, n, c, full, rfl, by omega, h2, h3, h4, rfl⟩
      · rw [if_neg h0]
        have hl : a + new.length ≤ cs.length := by omega
        have hl2 := splice_len hl
        have hl3 : (splice full a new).length = full.length := splice_len (by omega)
        exact .inr ⟨b, n, c, splice full a new, rfl, by omega, set_same _ _ _, by rw [hl2]; exact splice_take h3 hl h4, by omega, rfl⟩
    · split
      · exact Up.refl _ _
      · exact up_set (by simp) (hO.2 b (by simp))
    · split <;> rfl

/-- One cell of an owned slice. -/
theorem OSl.set1 {H : Heap} {v x : Value} {cs : List Value} {O : List Nat} (hs : OSl H.blk 1 v cs O) {kk : IntKind} {k : Nat} (hk : k < cs.length) (hf : Ck.flat x = true) (hO : Own H O) :
    ∃ b H', iaddrV 1 v (.int kk (k : Int)) = some (pt b k) ∧ stX 1 (pt b k) x H = some (undef, H') ∧ OSl H'.blk 1 v (cs.set k x) O ∧ Up H O H' ∧ H'.next = H.next := by
  rcases hs with ⟨rfl, rfl, rfl⟩ | ⟨b, n, c, full, rfl, h1, h2, h3, h4, rfl⟩
  · simp at hk
  · simp only [Nat.mul_one] at h1
    refine ⟨b, _, by simp only [iaddrV, natOf_nat, Option.bind_some]; rw [if_pos (by omega)]; simp, stX_val h2 hf (by omega), ?_, up_set (by simp) (hO.2 b (by simp)), rfl⟩
    refine .inr ⟨b, n, c, full.set k x, rfl, by simp; omega, set_same _ _ _, ?_, by simp; omega, rfl⟩
    rw [List.length_set, List.take_set, h3]

namespace P
def dataP (k : Nat) (x : Dat) (i : In) (e : Int) : In × Int :=
  if e ≠ 0 ∨ x.mode ≠ 0 then (i, e) else
  if fits i.mem.length (l32 (worth x.off)) x.bytes.length = false then (i, 7) else
  ({ i with mem := splice i.mem (l32 (worth x.off)).toNat x.bytes, datas := i.datas.set k true }, 0)
end P

theorem map_splice (f : Int → Value) (cs vs : List Int) (o : Nat) : (P.splice cs o vs).map f = splice (cs.map f) o (vs.map f) := by
  simp [P.splice, splice, List.map_take, List.map_drop]

theorem data_ok {H : Heap} {h : BF} {pl pi : Nat} {d : Md} {i : In} {O : List Nat} {e : Int} {k : Nat} {x : Dat} {off by_ : Value} (hI : InsH H h pi d i O) (hl : H.blk pl = some (.cells 2 false [pt pi 0, i64 e])) (hpl : pl ∉ O) (hhp : h pl = none)
    (ho : RBody h off x.off) (hb : RA u8 h by_ x.bytes) (hx : ∀ y, y ∈ x.off → InsW y) (hbl : x.bytes.length ≤ 2 ^ 20) (hml : i.mem.length ≤ 2 ^ 20) (hk : k < i.datas.length) :
    Wp (call tbl 92 [pt pl 0, i64 k, .agg #[u8 x.mode, off, by_]] H) fun q => q.1 = .tuple #[] ∧ InsH q.2 h pi d (P.dataP k x i e).1 O ∧ q.2.blk pl = some (.cells 2 false [pt pi 0, i64 (P.dataP k x i e).2]) ∧ Up H (pl :: O) q.2 := by
  refine Wp.via fun Q hQ => ?_
  have hw := hI.fz.wi
  have hpl1 : pl < H.next := hw _ _ hl
  obtain ⟨hpi, hpi1⟩ := hI.pi_in
  have hne : pl ≠ pi := fun e => hpl (e ▸ hpi)
  obtain ⟨H1, a0, a1, a2, a3, a4⟩ := newV_ok (H := H) (v := pt H.next 0) (x := .cells 3 false [u8 x.mode, off, by_]) (f := fun b => boxV 3 (.agg #[u8 x.mode, off, by_]) b) (by simp [boxV, ho.flat, hb.flat])
  have hl1 : H1.blk pl = some (.cells 2 false [pt pi 0, i64 e]) := by rw [a4 _ hpl1]; exact hl
  have hI1 := hI.up0 a3 (by simp) (by simp)
  rw [c92]
  unfold P.dataP at hQ
  by_cases c1 : e = 0
  · subst c1
    by_cases c2 : x.mode = 0
    · simp only [c2, ne_eq, not_true_eq_false, or_self, if_false] at hQ
      rw [c2] at a2 a0
      simp -implicitDefEqProofs [m92, c2, a0, ld_of hl1, ld_of a2]
      refine Wp.step (worth_ok ho (Fz.nil hI1.fz.le hI1.fz.wi) hx) ?_
      rintro ⟨v, H2⟩ ⟨rfl, u2⟩
      simp only at u2
      have hI2 := hI1.up0 u2 (by simp) (by simp)
      have hl2 : H2.blk pl = some (.cells 2 false [pt pi 0, i64 0]) := by rw [u2.eq _ (by omega) (by simp)]; exact hl1
      have a2' : H2.blk H.next = some (.cells 3 false [u8 0, off, by_]) := by rw [u2.eq _ (by omega) (by simp)]; exact a2
      obtain ⟨vm, Xm, es, full, m1, m2, m3, m4, m5, m6⟩ := hI2.open_mem
      have hvm := m3.lenV (n := i.mem.length) (by decide) (by simp)
      have hat : 0 ≤ l32 (P.worth x.off) ∧ l32 (P.worth x.off) < 4294967296 := by unfold l32; omega
      have hw1 : IntKind.wrap .u64 (l32 (P.worth x.off)) = l32 (P.worth x.off) := wrap_u64 (by omega)
      have hw2 : IntKind.wrap .u64 (x.bytes.length : Int) = x.bytes.length := wrap_u64 (by omega)
      have hfit := fits_ok (size := i.mem.length) (a := l32 (P.worth x.off)) (n := x.bytes.length) H2 (by omega) hat.1 (by omega) (by omega)
      have hwr : IntKind.wrap .u32 (P.worth x.off) = l32 (P.worth x.off) := wrap_u32
      have u02 : Up H [] H2 := a3.trans u2 (by simp)
      cases hc3 : P.fits i.mem.length (l32 (P.worth x.off)) x.bytes.length with
      | false =>
        simp only [hc3, if_true] at hQ
        rw [hc3] at hfit
        simp -implicitDefEqProofs [hwr, hw1, hw2, ld_of hl2, ld_of a2', ld_of m1, m2, hvm, hb.len, hfit, stX_val hl2]
        refine hQ _ ⟨rfl, hI2.up0 (P := [pl]) (up_set (by simp) (by have := u02.le; omega)) (by simp [hpl]) (by simp [hhp]), set_same _ _ _, (u02.mono (by simp)).trans (up_set (O := [pl]) (by simp) (by have := u02.le; omega)) fun b hb => by simp at hb; simp [hb]⟩
      | true =>
        simp only [hc3, Bool.true_eq_false, if_false] at hQ
        rw [hc3] at hfit
        have hfit2 : l32 (P.worth x.off) + x.bytes.length ≤ i.mem.length := by
          unfold P.fits at hc3
          simp only [Bool.and_eq_true, decide_eq_true_eq] at hc3
          omega
        obtain ⟨a, ha⟩ : ∃ a : Nat, l32 (P.worth x.off) = a := ⟨(l32 (P.worth x.off)).toNat, by omega⟩
        rw [ha] at hfit hQ hfit2 hwr hw1
        obtain ⟨v1, H3, s1, s2, s3, s4, s5⟩ := m3.sts (kk := .u64) (a := a) (Row.mono hb hI2.fz.le) (by simp; omega) m5
        have hI3 := m6 H3 (P.splice i.mem a x.bytes) s4 (by rw [map_splice]; exact s3)
        have kp : ∀ b, b < H2.next → b ∉ O → H3.blk b = H2.blk b := fun b h1 h2 => s4.eq b h1 fun hh => h2 (m4 b hh).1
        have hl3 : H3.blk pl = some (.cells 2 false [pt pi 0, i64 0]) := by rw [kp _ (by have := u02.le; omega) hpl]; exact hl2
        obtain ⟨vd, Xd, es', full', d1, d2, d3, d4, d5, d6⟩ := hI3.open_datas
        obtain ⟨b, H4, t1, t2, t3, t4, t5⟩ := d3.set1 (kk := .i64) (k := k) (x := .bool true) (by simpa using hk) rfl d5
        have hI4 := d6 H4 (i.datas.set k true) t4 (by rw [List.map_set]; exact t3)
        simp only [Nat.mul_one, pt] at t1 t2
        simp -implicitDefEqProofs [hwr, hw1, hw2, ld_of hl2, ld_of a2', ld_of m1, m2, hvm, hb.len, hfit, s1, s2, ld_of hl3, ld_of d1, d2, t1, t2]
        refine hQ _ ⟨rfl, by simpa using hI4, ?_, ?_⟩
        · rw [t4.eq pl (by have := u02.le; omega) fun hh => hpl (d4 _ hh).1]; exact hl3
        · exact ((u02.mono (by simp)).trans s4 fun b hb => .inl (by simp [(m4 b hb).1])).trans t4 fun b hb => .inl (by simp [(d4 b hb).1])
    · simp only [c2, ne_eq, not_false_eq_true, or_true, if_true] at hQ
      simp -implicitDefEqProofs [m92, c2, a0, ld_of hl1, ld_of a2]
      exact hQ _ ⟨rfl, hI1, hl1, a3.mono (by simp)⟩
  · simp only [c1, ne_eq, not_false_eq_true, true_or, if_true] at hQ
    simp -implicitDefEqProofs [m92, c1, a0, ld_of hl1, ld_of a2]
    exact hQ _ ⟨rfl, hI1, hl1, a3.mono (by simp)⟩

end Ck

/-
link: an instance out of a module that has no elements' segments and no start.
-/
set_option linter.unusedSimpArgs false
set_option linter.unusedVariables false
namespace Ck
open Go

namespace P
def datasFrom : Nat → List Dat → In → Int → In × Int
  | _, [], i, e => (i, e)
  | k, x :: r, i, e => datasFrom (k + 1) r (dataP k x i e).1 (dataP k x i e).2
end P

theorem datasFrom_snoc (x : Dat) : ∀ (l : List Dat) (k : Nat) (i : In) (e : Int), P.datasFrom k (l ++ [x]) i e = P.dataP (k + l.length) x (P.datasFrom k l i e).1 (P.datasFrom k l i e).2
  | [], k, i, e => rfl
  | y :: l, k, i, e => by
    simp only [List.cons_append, P.datasFrom, datasFrom_snoc x l, List.length_cons]
    congr 1
    omega

theorem dataP_sizes (k : Nat) (x : Dat) (i : In) (e : Int) : (P.dataP k x i e).1.mem.length = i.mem.length ∧ (P.dataP k x i e).1.datas.length = i.datas.length := by
  unfold P.dataP
  split
  · exact ⟨rfl, rfl⟩
  · split
    · exact ⟨rfl, rfl⟩
    · rename_i h1 h2
      simp only [Bool.not_eq_false] at h2
      unfold P.fits at h2
      simp only [Bool.and_eq_true, decide_eq_true_eq] at h2
      have : 0 ≤ l32 (P.worth x.off) := by unfold l32; omega
      simp [P.splice]
      omega

theorem datasFrom_sizes : ∀ (l : List Dat) (k : Nat) (i : In) (e : Int), (P.datasFrom k l i e).1.mem.length = i.mem.length ∧ (P.datasFrom k l i e).1.datas.length = i.datas.length
  | [], k, i, e => ⟨rfl, rfl⟩
  | x :: l, k, i, e => by
    have h1 := datasFrom_sizes l (k + 1) (P.dataP k x i e).1 (P.dataP k x i e).2
    have h2 := dataP_sizes k x i e
    simp only [P.datasFrom]
    exact ⟨h1.1.trans h2.1, h1.2.trans h2.2⟩

theorem starts_no {H : Heap} {h : BF} {pl pi : Nat} {d : Md} {i : In} {O : List Nat} {e : Int} (hI : InsH H h pi d i O) (hl : H.blk pl = some (.cells 2 false [pt pi 0, i64 e])) (hs : d.m.starts = false) : call tbl 93 [pt pl 0] H = some (.tuple #[], H) := by
  obtain ⟨⟨ty, fu, ta, me, gl, ex, el, co, da, bl, vm, vt, vg, ve, vd, es, tl, ct, Om, Ot, Os, Og, Oe, Od, h1, -⟩, -⟩ := hI
  rw [c93]
  by_cases c : e = 0
  · simp -implicitDefEqProofs [m93, ld_of hl, c, ld_of h1, hs]
  · simp -implicitDefEqProofs [m93, ld_of hl, c]

theorem bindL_exit {β : Type} (j : Nat) (e : Env) (H : Heap) (kx : Nat → Env → Heap → Option β) (kr : Env → Heap → Option β) : bindL (some (.exit j, e, H)) kx kr = kx j e H := rfl
theorem andThen_exit (j : Nat) (e : Env) (H : Heap) (k : Cd) : andThen (some (.exit j, e, H)) k = some (.exit j, e, H) := rfl

theorem memOf_le {l : List Lim} (h : ∀ x, x ∈ l → 0 ≤ x.min) : (P.memOf l).length ≤ 65536 := by
  unfold P.memOf
  split
  · simp
  · split
    · simp
    · rename_i x r h1
      have := h x (by simp)
      simp; omega

theorem make0_ok {H : Heap} {h0 : BF} {ty fu ta me gl ex el co da : Value} {m : Mo} (hM : RMo h0 ty fu ta me gl ex el co da m) (hf : Fz H h0 []) (hW : MoW m) (hel : m.elems = []) (hst : m.starts = false)
    (hD : ∀ x, x ∈ m.datas → x.bytes.length ≤ 2 ^ 20 ∧ ∀ y, y ∈ x.off → InsW y) :
    Wp (call tbl 55 [.agg #[ty, fu, ta, me, gl, ex, .bool m.starts, u32 m.start, el, .bool m.counts, u32 m.count, co, da]] H) fun q => Up H [] q.2 ∧
      if P.newErr m ≠ 0 then q.1 = .tuple #[.pointer none, i64 (P.newErr m)] else
      if (P.datasFrom 0 m.datas (P.newIn m) 0).2 ≠ 0 then q.1 = .tuple #[.pointer none, i64 (P.datasFrom 0 m.datas (P.newIn m) 0).2] else
      ∃ pi O hk bs, q.1 = .tuple #[pt pi 0, i64 0] ∧ Grow H.next h0 hk ∧ P.blocksAll m.codes = some bs ∧ InsH q.2 hk pi ⟨m, bs⟩ (P.datasFrom 0 m.datas (P.newIn m) 0).1 O ∧ (∀ b, b ∈ O → H.next ≤ b) := by
  refine Wp.via fun Q hQ => ?_
  obtain ⟨f1, f2, f3, f4, f5, f6, f7, f8, f9⟩ := hM.flats
  obtain ⟨H1, a0, a1, a2, a3, a4⟩ := newV_ok (H := H) (v := pt H.next 0) (x := .cells 13 false [ty, fu, ta, me, gl, ex, .bool m.starts, u32 m.start, el, .bool m.counts, u32 m.count, co, da]) (f := fun b => boxV 13 (.agg #[ty, fu, ta, me, gl, ex, .bool m.starts, u32 m.start, el, .bool m.counts, u32 m.count, co, da]) b) (by simp [boxV, f1, f2, f3, f4, f5, f6, f7, f8, f9])
  rw [c55]
  simp -implicitDefEqProofs [m55, a0, lds_of a2]
  refine Wp.step (new_ok hM (Fz.nil (hf.up0 a3).le (hf.up0 a3).wi) hW) ?_
  rintro ⟨v, H2⟩ ⟨u2, hp⟩
  simp only at u2 hp
  have u02 : Up H [] H2 := a3.trans u2 (by simp)
  by_cases c1 : P.newErr m = 0
  · simp only [c1, ne_eq, not_true_eq_false, if_false] at hp hQ
    obtain ⟨pi, O, hk, bs, rfl, g1, g2, g3, g4⟩ := hp
    obtain ⟨H3, b0, b1, b2, b3, b4⟩ := newV_ok (H := H2) (v := pt H2.next 0) (x := .cells 2 false [pt pi 0, i64 0]) (f := fun b => boxV 2 (.agg #[pt pi 0, i64 0]) b) (by simp [boxV])
    have a2' : H3.blk H.next = some (.cells 13 false [ty, fu, ta, me, gl, ex, .bool m.starts, u32 m.start, el, .bool m.counts, u32 m.count, co, da]) := by
      have := u2.le
      rw [b4 _ (by omega), u2.eq _ (by omega) (by simp)]; exact a2
    have hlel : lenV el = some (i64 0) := by have := hM.elems.len; rw [hel] at this; exact this
    have hI3 := g3.up0 b3 (by simp) (by simp)
    have u03 : Up H [] H3 := u02.trans b3 (by simp)
    have hplO : H2.next ∉ O := fun hh => by have := g3.own.2 _ hh; omega
    have hhp : hk H2.next = none := by
      cases hx : hk H2.next with
      | none => rfl
      | some x => have := g3.fz.wi _ _ (g3.fz.le _ x hx); omega
    have hlda := hM.datas.len
    have hml : (P.newIn m).mem.length ≤ 2 ^ 20 := by
      have := memOf_le hW.mem
      unfold P.newIn; simp only; omega
    have hdl : (P.newIn m).datas.length = m.datas.length := by simp [P.newIn]
    have hldn := hW.datas
    simp -implicitDefEqProofs [buildV, fillV, splice, b0, ld_of a2', hlel]
    rw [loopL_eq]
    simp -implicitDefEqProofs [bindL_exit, andThen_exit, ld_of a2', hlda]
    refine loop_via (Q := Q) (fun n ev L => ∃ (k : Nat), n = m.datas.length - k ∧ k ≤ m.datas.length ∧ ev 4 = pt pi 0 ∧ ev 6 = pt H2.next 0 ∧ ev 36 = da ∧ ev 37 = i64 m.datas.length ∧ ev 38 = i64 k ∧
      InsH L hk pi ⟨m, bs⟩ (P.datasFrom 0 (m.datas.take k) (P.newIn m) 0).1 O ∧ L.blk H2.next = some (.cells 2 false [pt pi 0, i64 (P.datasFrom 0 (m.datas.take k) (P.newIn m) 0).2]) ∧ Up H3 (H2.next :: O) L) ?_ m.datas.length _ _ ?_
    · rintro J hJ n ev L ⟨k, rfl, hk1, t4, t6, t36, t37, t38, hI, hL, hU⟩
      by_cases hlt : k < m.datas.length
      · obtain ⟨x, hx⟩ : ∃ x, m.datas[k]? = some x := ⟨_, List.getElem?_eq_getElem hlt⟩
        have hgk : BF.le h0 L.blk := g1.1.trans hI.fz.le
        obtain ⟨o, cs, z1, ⟨ov, bv, rfl, r1, r2⟩, -, z4, z5⟩ := hM.datas.at_ (H := L) (k := .i64) (i := (k : Int)) hgk (by omega) (by simpa using hx) (by decide)
        obtain ⟨L1, e0, e1, p2, u1, k1⟩ := newV_ok (H := L) (v := pt L.next 0) (f := fun b => some (ptrTo b, .cells 3 false [(.int .u8 0), (.slice none 0 0), (.slice none 0 0)])) rfl
        simp only [pt] at z1 z4
        have hadd : binV .add (i64 (k : Int)) (i64 1) = some (i64 ((k : Int) + 1)) := add_i64 (by omega)
        have htk : m.datas.take (k + 1) = m.datas.take k ++ [x] := by rw [List.take_succ_eq_append_getElem hlt, (List.getElem?_eq_some_iff.1 hx).2]
        have uz : Up L [] (L1.set L.next (some (.cells 3 false [u8 x.mode, ov, bv]))) := u1.trans (up_set (O := [L.next]) (by simp) (by omega)) (by simp)
        have hIz := hI.up0 uz (by simp) (by simp)
        have hplL : H2.next < L.next := by have := hU.le; omega
        have hLz : (L1.set L.next (some (.cells 3 false [u8 x.mode, ov, bv]))).blk H2.next = _ := (uz.eq _ hplL (by simp)).trans hL
        have hsz := datasFrom_sizes (m.datas.take k) 0 (P.newIn m) 0
        obtain ⟨hx1, hx2⟩ := hD x (List.mem_of_getElem? hx)
        have ins : ∀ c x, RIns h0 c x → RIns hk c x := fun c x ⟨l, h1, h2⟩ => ⟨l, h1, h2.mono g1.1⟩
        simp -implicitDefEqProofs [t4, t6, t36, t37, t38, hlt, z1, z4, e0, stX_agg p2, r1.flat, r2.flat, splice]
        refine Wp.step (data_ok (k := k) (x := x) hIz hLz hplO hhp (r1.mono g1.1 ins) (r2.mono g1.1) hx2 hx1 (by omega) (by omega)) ?_
        rintro ⟨v, L2⟩ ⟨rfl, w1, w2, w3⟩
        simp only at w1 w2 w3
        simp -implicitDefEqProofs [t38, hadd]
        refine ⟨m.datas.length - (k + 1), by omega, hJ _ _ _ ⟨k + 1, rfl, by omega, by simp [t4], by simp [t6], by simp [t36], by simp [t37], by simp, ?_, ?_, hU.trans ((uz.mono (by simp)).trans w3 fun b hb => .inl hb) fun b hb => .inl hb⟩⟩
        · rw [htk, datasFrom_snoc]
          simpa [Nat.min_eq_left hk1] using w1
        · rw [htk, datasFrom_snoc]
          simpa [Nat.min_eq_left hk1] using w2
      · have hil : k = m.datas.length := by omega
        subst hil
        rw [List.take_length] at hI hL
        have uHL : Up H [] L := u03.trans hU fun b hb => by
          have := u02.le
          simp only [List.mem_cons] at hb
          rcases hb with rfl | hb
          · exact .inr this
          · have := g4 b hb; have := a3.le; exact .inr (by omega)
        have hs1 := starts_no hI hL hst
        simp -implicitDefEqProofs [t37, t38, t6, hs1, ld_of hL]
        by_cases c2 : (P.datasFrom 0 m.datas (P.newIn m) 0).2 = 0
        · simp only [c2, ne_eq, not_true_eq_false, if_false] at hQ
          simp -implicitDefEqProofs [c2, t4]
          exact hQ _ ⟨uHL, pi, O, hk, bs, rfl, ⟨g1.1, fun b x hx => by rcases g1.2 b x hx with h | h; exact .inl h; exact .inr (by omega)⟩, g2, hI, fun b hb => by have := g4 b hb; omega⟩
        · simp only [c2, ne_eq, not_false_eq_true, if_true] at hQ
          simp -implicitDefEqProofs [c2]
          exact hQ _ ⟨uHL, rfl⟩
    · exact ⟨0, by simp, by simp, by simp, by simp, by simp, by simp, by simp, by simpa [P.datasFrom] using hI3, by simpa [P.datasFrom] using b2, Up.refl _ _⟩
  · simp only [c1, ne_eq, not_false_eq_true, if_true] at hp hQ
    subst hp
    simp -implicitDefEqProofs [c1]
    exact hQ _ ⟨u02, rfl⟩

end Ck
