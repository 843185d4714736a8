/-
Instances that are made: room for memory and tables.
-/
import Derived.Test.YtgopfpmkbdhnnaaGreatDoorCkWalk3
set_option linter.unusedSimpArgs false
set_option linter.unusedVariables false
namespace Ck
open Go

/-- Tables' values: each a slice that is owned. -/
def TbC (h : BF) : List Value → List (List Int) → List Nat → Prop
  | cs, [], O => cs = [] ∧ O = []
  | cs, t :: ts, O => ∃ v cs' O1 O2, cs = v :: cs' ∧ OSl h 1 v (t.map u64) O1 ∧ TbC h cs' ts O2 ∧ O = O1 ++ O2

theorem TbC.keep {h g : BF} : ∀ {cs : List Value} {ts : List (List Int)} {O : List Nat}, TbC h cs ts O → (∀ b ∈ O, g b = h b) → TbC g cs ts O
  | cs, [], O, hs, _ => hs
  | cs, t :: ts, O, ⟨v, cs', O1, O2, h1, h2, h3, h4⟩, hk => by
    subst h4
    exact ⟨v, cs', O1, O2, h1, h2.keep fun b hb => hk b (by simp [hb]), h3.keep fun b hb => hk b (by simp [hb]), rfl⟩

theorem TbC.length {h : BF} : ∀ {cs : List Value} {ts : List (List Int)} {O : List Nat}, TbC h cs ts O → cs.length = ts.length
  | cs, [], O, ⟨h1, _⟩ => by simp [h1]
  | cs, t :: ts, O, ⟨v, cs', O1, O2, h1, _, h3, _⟩ => by rw [h1]; simp [TbC.length h3]

theorem TbC.snoc {h : BF} {v : Value} {t : List Int} {P : List Nat} (hv : OSl h 1 v (t.map u64) P) : ∀ {cs : List Value} {ts : List (List Int)} {O : List Nat}, TbC h cs ts O → TbC h (cs ++ [v]) (ts ++ [t]) (O ++ P)
  | cs, [], O, ⟨h1, h2⟩ => by subst h1; subst h2; exact ⟨v, [], P, [], rfl, hv, ⟨rfl, rfl⟩, by simp⟩
  | cs, s :: ts, O, ⟨w, cs', O1, O2, h1, h2, h3, h4⟩ => by
    subst h1; subst h4
    exact ⟨w, cs' ++ [v], O1, O2 ++ P, by simp, h2, TbC.snoc hv h3, by simp⟩

theorem zeros1 (v : Value) (n : Nat) : zerosV [v] n = List.replicate n v := by
  unfold zerosV
  induction n with
  | zero => rfl
  | succ n ih => rw [List.replicate_succ, List.flatten_cons, ih, List.replicate_succ]; rfl

theorem mkslice1 (byt n b : Nat) (k : IntKind) (v : Value) (h : n * (byt + 1) ≤ 2 ^ 40) : mksliceV 1 byt [v] (.int k (n : Int)) (.int k (n : Int)) b = some (.slice (some ⟨b, 0, none⟩) n n, .cells 1 false (List.replicate n v)) := by
  simp only [mksliceV, natOf_nat, Option.bind_some]
  rw [if_pos ⟨trivial, h⟩, zeros1]

theorem map_replicate' {α β : Type} (f : α → β) (n : Nat) (a : α) : (List.replicate n a).map f = List.replicate n (f a) := by simp

namespace P
def memOf (l : List Lim) : List Int :=
  match l with
  | [] => []
  | x :: _ => if 1 < x.min then [] else List.replicate (x.min * 65536).toNat 0
def memErr (l : List Lim) : Int :=
  match l with
  | [] => 0
  | x :: _ => if 1 < x.min then 8 else 0
def tabsOf : List Tab → List (List Int)
  | [] => []
  | t :: r => if 64 < t.lim.min then tabsOf r else List.replicate t.lim.min.toNat 0 :: tabsOf r
def tabsErr (l : List Tab) (e : Int) : Int := if l.any (fun t => decide (64 < t.lim.min)) then 8 else e
end P

theorem tabsOf_append : ∀ l r : List Tab, P.tabsOf (l ++ r) = P.tabsOf l ++ P.tabsOf r
  | [], r => rfl
  | t :: l, r => by
    simp only [List.cons_append, P.tabsOf, tabsOf_append l r]
    split <;> rfl
theorem tabsOf_length : ∀ l : List Tab, (P.tabsOf l).length ≤ l.length
  | [] => by simp [P.tabsOf]
  | t :: l => by
    have := tabsOf_length l
    simp only [P.tabsOf]
    split <;> simp <;> omega

/-- What the loop over tables leaves. -/
theorem room_tabs {H : Heap} {h0 : BF} {pk : Nat} {ty fu ta me gl ex s1 s2 el s3 s4 co da vb vm vg ve vd : Value} {tabs : List Tab} {e : Int} (hk : H.blk pk = some (.cells 20 false [ty, fu, ta, me, gl, ex, s1, s2, el, s3, s4, co, da, vb, vm, .slice none 0 0, vg, ve, vd, i64 e]))
    (ht : RL h0 4 RTab ta tabs) (hf : Fz H h0 [pk]) (hl : tabs.length ≤ 2 ^ 20) (htn : ∀ t, t ∈ tabs → 0 ≤ t.lim.min) (ev : Env) (hev : ev 0 = pt pk 0) :
    Wp (m157j0 (call tbl) ev H) fun q => q.1 = .tuple #[] ∧ ∃ vt ct Ot Os, q.2.blk pk = some (.cells 20 false [ty, fu, ta, me, gl, ex, s1, s2, el, s3, s4, co, da, vb, vm, vt, vg, ve, vd, i64 (P.tabsErr tabs e)]) ∧
      OSl q.2.blk 1 vt ct Ot ∧ TbC q.2.blk ct (P.tabsOf tabs) Os ∧ Own q.2 (Ot ++ Os) ∧ Up H [pk] q.2 ∧ (∀ b, b ∈ Ot ++ Os → H.next ≤ b) := by
  refine Wp.via fun Q hQ => ?_
  have hpk : pk < H.next := hf.wi _ _ hk
  simp -implicitDefEqProofs [m157j0, hev, ld_of hk, ht.len]
  refine loop_via (Q := Q) (fun n ev K => ∃ (i : Nat) (vt : Value) (ct : List Value) (Ot Os : List Nat), n = tabs.length - i ∧ i ≤ tabs.length ∧ ev 0 = pt pk 0 ∧ ev 43 = ta ∧ ev 44 = i64 tabs.length ∧ ev 45 = i64 i ∧
      K.blk pk = some (.cells 20 false [ty, fu, ta, me, gl, ex, s1, s2, el, s3, s4, co, da, vb, vm, vt, vg, ve, vd, i64 (P.tabsErr (tabs.take i) e)]) ∧ OSl K.blk 1 vt ct Ot ∧ TbC K.blk ct (P.tabsOf (tabs.take i)) Os ∧ Own K (Ot ++ Os) ∧ Up H [pk] K ∧ (∀ b, b ∈ Ot ++ Os → H.next ≤ b)) ?_ tabs.length _ _ ?_
  · rintro J hJ n ev K ⟨i, vt, ct, Ot, Os, rfl, hi, t0, t43, t44, t45, hK, hS, hT, hOw, hU, hn⟩
    have hpk1 : pk < K.next := Nat.lt_of_lt_of_le hpk hU.le
    have hpkO : pk ∉ Ot ++ Os := fun hh => by have := hn pk hh; omega
    by_cases hlt : i < tabs.length
    · obtain ⟨t, hc⟩ : ∃ t, tabs[i]? = some t := ⟨_, List.getElem?_eq_getElem hlt⟩
      have hF := hf.up hU fun b hb => .inl hb
      obtain ⟨o, cs, a1, rfl, -, a4, a5⟩ := ht.at_ (H := K) (k := .i64) (i := (i : Int)) hF.le (by omega) (by simpa using hc) (by decide)
      obtain ⟨K1, e0, e1, b1, u1, k1⟩ := newV_ok (H := K) (v := pt K.next 0) (f := fun b => some (ptrTo b, .cells 4 false [(.int .u8 0), (.int .u32 0), (.int .u32 0), (.bool false)])) rfl
      simp only [pt] at a1 a4
      have hadd : binV .add (i64 (i : Int)) (i64 1) = some (i64 ((i : Int) + 1)) := add_i64 (by omega)
      have htk : tabs.take (i + 1) = tabs.take i ++ [t] := by rw [List.take_succ_eq_append_getElem hlt, (List.getElem?_eq_some_iff.1 hc).2]
      have hmin := htn t (List.mem_of_getElem? hc)
      have uz : Up K [] (K1.set K.next (some (.cells 4 false [u8 t.ty, u32 t.lim.min, u32 t.lim.max, .bool t.lim.has]))) := u1.trans (up_set (O := [K.next]) (by simp) (by omega)) (by simp)
      have hK1 : (K1.set K.next (some (.cells 4 false [u8 t.ty, u32 t.lim.min, u32 t.lim.max, .bool t.lim.has]))).blk pk = some (.cells 20 false [ty, fu, ta, me, gl, ex, s1, s2, el, s3, s4, co, da, vb, vm, vt, vg, ve, vd, i64 (P.tabsErr (tabs.take i) e)]) := by rw [uz.eq pk hpk1 (by simp)]; exact hK
      by_cases hbig : 64 < t.lim.min
      · simp -implicitDefEqProofs [t0, t43, t44, t45, hlt, a1, a4, e0, stX_agg b1, splice, hbig, stX_val hK1, m157j19, m157j14, hadd]
        have u2 : Up K [pk] ((K1.set K.next (some (.cells 4 false [u8 t.ty, u32 t.lim.min, u32 t.lim.max, .bool t.lim.has]))).set pk (some (.cells 20 false [ty, fu, ta, me, gl, ex, s1, s2, el, s3, s4, co, da, vb, vm, vt, vg, ve, vd, i64 8]))) :=
          (uz.mono (by simp)).trans (up_set (O := [pk]) (by simp) (Nat.lt_of_lt_of_le hpk1 uz.le)) fun b hb => .inl hb
        have kk : ∀ b, b ∈ Ot ++ Os → ((K1.set K.next (some (.cells 4 false [u8 t.ty, u32 t.lim.min, u32 t.lim.max, .bool t.lim.has]))).set pk (some (.cells 20 false [ty, fu, ta, me, gl, ex, s1, s2, el, s3, s4, co, da, vb, vm, vt, vg, ve, vd, i64 8]))).blk b = K.blk b := fun b hb => u2.eq b (hOw.2 b hb) (by simp; intro e; exact hpkO (e ▸ hb))
        have herr : P.tabsErr (tabs.take (i + 1)) e = 8 := by unfold P.tabsErr; rw [htk, if_pos (by simp [hbig])]
        have htabs : P.tabsOf (tabs.take (i + 1)) = P.tabsOf (tabs.take i) := by rw [htk, tabsOf_append]; simp [P.tabsOf, hbig]
        refine ⟨tabs.length - (i + 1), by omega, hJ _ _ _ ⟨i + 1, vt, ct, Ot, Os, rfl, by omega, by simp [t0], by simp [t43], by simp [t44], by simp, ?_, hS.keep fun b hb => kk b (by simp [hb]), ?_, hOw.up u2.le, hU.trans u2 fun b hb => .inl hb, hn⟩⟩
        · rw [herr]; exact set_same _ _ _
        · rw [htabs]; exact hT.keep fun b hb => kk b (by simp [hb])
      · obtain ⟨m, hm⟩ : ∃ m : Nat, t.lim.min = m := ⟨t.lim.min.toNat, by omega⟩
        have hm64 : m ≤ 64 := by omega
        obtain ⟨K3, f0, f1, b3, u3, k3⟩ := newV_ok (H := K1.set K.next (some (.cells 4 false [u8 t.ty, u32 t.lim.min, u32 t.lim.max, .bool t.lim.has]))) (v := .slice (some ⟨K1.next, 0, none⟩) m m) (f := fun b => mksliceV 1 8 [.int .u64 0] (u32 t.lim.min) (u32 t.lim.min) b) (by rw [hm]; exact mkslice1 8 m _ .u32 _ (by omega))
        obtain ⟨K4, g0, g1, b4, u4, k4⟩ := newV_ok (H := K3) (f := fun b => bsliceV 1 1 [.slice none 0 0] [(0, 1, .slice (some ⟨K1.next, 0, none⟩) m m)] b) (bslice1 1 _ [_] _ _ rfl rfl rfl rfl)
        have uA : Up K [] K4 := (uz.trans u3 (by simp)).trans u4 (by simp)
        have keep : ∀ b, b ∈ Ot ++ Os → K4.blk b = K.blk b := fun b hb => uA.eq b (hOw.2 b hb) (by simp)
        have hrow : Row K4.blk 1 (.slice (some ⟨K3.next, 0, none⟩) 1 1) 1 [.slice (some ⟨K1.next, 0, none⟩) m m] := ⟨rfl, .inr ⟨K3.next, 0, 1, false, _, rfl, b4, by simp, by simp⟩⟩
        obtain ⟨n, hn1, -⟩ := (hS.row (by decide) : ∃ n, ct.length = n * 1 ∧ _)
        have hct : ct.length ≤ i := by rw [hT.length]; have := tabsOf_length (tabs.take i); simp at this; omega
        obtain ⟨v', K5, O', q1, q2, q3, q4, q5, -⟩ := (hS.keep (fun b hb => keep b (by simp [hb])) : OSl K4.blk 1 vt ct Ot).append (byt := 24) (n := ct.length) (by decide) (by omega) hrow (by omega) (fun b hb => by have := hOw.2 b (by simp [hb]); have := uA.le; omega)
        have hK5 : K5.blk pk = some (.cells 20 false [ty, fu, ta, me, gl, ex, s1, s2, el, s3, s4, co, da, vb, vm, vt, vg, ve, vd, i64 (P.tabsErr (tabs.take i) e)]) := by
          rw [q4.eq pk (Nat.lt_of_lt_of_le hpk1 uA.le) (fun hh => hpkO (by simp [hh])), uA.eq pk hpk1 (by simp)]; exact hK
        simp -implicitDefEqProofs [t0, t43, t44, t45, hlt, a1, a4, e0, stX_agg b1, splice, hbig, ld_of hK1, f0, g0, q1, stX_val hK5, q2.flat, m157j19, m157j14, hadd]
        have f1 : K3.next = K1.next + 1 := f1
        have hm' : ¬ (64 : Int) < m := by omega
        have hK1n : K1.next < K4.next := by have := u4.le; omega
        have herr : P.tabsErr (tabs.take (i + 1)) e = P.tabsErr (tabs.take i) e := by unfold P.tabsErr; rw [htk]; simp [hbig]
        have htabs : P.tabsOf (tabs.take (i + 1)) = P.tabsOf (tabs.take i) ++ [List.replicate m 0] := by rw [htk, tabsOf_append]; simp [P.tabsOf, hm, hm']
        have hnd := hOw.1
        rw [List.nodup_append] at hnd
        have hOlt := hOw.2
        have uB : Up K (pk :: Ot) (K5.set pk (some (.cells 20 false [ty, fu, ta, me, gl, ex, s1, s2, el, s3, s4, co, da, vb, vm, v', vg, ve, vd, i64 (P.tabsErr (tabs.take i) e)]))) :=
          ((uA.mono (by simp)).trans q4 fun b hb => .inl (by simp [hb])).trans (up_set (O := [pk]) (by simp) (by have := q4.le; have := uA.le; omega)) fun b hb => by simp at hb; simp [hb]
        have hO' : ∀ b, b ∈ O' → b ≠ pk ∧ H.next ≤ b ∧ (b ∈ Ot ∨ K4.next ≤ b) := fun b hb => by
          have := hU.le; have := uA.le
          rcases q5 b hb with g | g
          · exact ⟨fun e => hpkO (by simp [← e, g]), hn b (by simp [g]), .inl g⟩
          · exact ⟨by omega, by omega, .inr g⟩
        have hb3' : (K5.set pk (some (.cells 20 false [ty, fu, ta, me, gl, ex, s1, s2, el, s3, s4, co, da, vb, vm, v', vg, ve, vd, i64 (P.tabsErr (tabs.take i) e)]))).blk K1.next = some (.cells 1 false (List.replicate m (u64 0))) := by
          have hle := uz.le
          have hK4 : K4.blk K1.next = some (.cells 1 false (List.replicate m (u64 0))) := by rw [k4 _ (by omega)]; exact b3
          rw [set_other (by omega), q4.eq K1.next hK1n fun hh => by have := hOlt K1.next (by simp [hh]); omega]; exact hK4
        have hnew : OSl (K5.set pk (some (.cells 20 false [ty, fu, ta, me, gl, ex, s1, s2, el, s3, s4, co, da, vb, vm, v', vg, ve, vd, i64 (P.tabsErr (tabs.take i) e)]))).blk 1 (.slice (some ⟨K1.next, 0, none⟩) m m) ((List.replicate m (0 : Int)).map u64) [K1.next] :=
          .inr ⟨K1.next, m, m, _, rfl, by simp, hb3', by simp, by simp, rfl⟩
        refine ⟨tabs.length - (i + 1), by omega, hJ _ _ _ ⟨i + 1, v', _, O', Os ++ [K1.next], rfl, by omega, by simp [t0], by simp [t43], by simp [t44], by simp, ?_, q2.keep fun b hb => set_other (hO' b hb).1, ?_, ⟨?_, ?_⟩, hU.trans uB ?_, ?_⟩⟩
        · rw [herr]; exact set_same _ _ _
        · rw [htabs]
          exact TbC.snoc hnew (hT.keep fun b hb => uB.eq b (hOlt b (by simp [hb])) (by
            simp only [List.mem_cons, not_or]
            exact ⟨fun e => hpkO (by simp [← e, hb]), fun hh => hnd.2.2 b hh b hb rfl⟩))
        · rw [List.nodup_append, List.nodup_append]
          have hle := uz.le
          refine ⟨q3.1, ⟨hnd.2.1, by simp, ?_⟩, ?_⟩
          · intro a ha b hb
            simp at hb
            have := hOlt a (by simp [ha])
            omega
          · intro a ha b hb
            have := (hO' a ha).2.2
            simp only [List.mem_append, List.mem_singleton] at hb
            rcases hb with hb | rfl
            · have hbl := hOlt b (by simp [hb])
              rcases this with g | g
              · exact hnd.2.2 a g b hb
              · have := uA.le; omega
            · rcases this with g | g
              · have := hOlt a (by simp [g]); omega
              · omega
        · intro b hb
          have := uB.le
          simp only [List.mem_append, List.mem_singleton] at hb
          rcases hb with hb | hb | rfl
          · exact q3.2 b hb
          · have := hOlt b (by simp [hb]); omega
          · have := q4.le; simp; omega
        · intro b hb
          simp only [List.mem_cons] at hb ⊢
          rcases hb with rfl | hb
          · simp
          · exact .inr (hn b (by simp [hb]))
        · intro b hb
          have := hU.le
          have := uz.le
          simp only [List.mem_append, List.mem_singleton] at hb
          rcases hb with hb | hb | rfl
          · exact (hO' b hb).2.1
          · exact hn b (by simp [hb])
          · omega
    · have hil : i = tabs.length := by omega
      subst hil
      rw [List.take_length] at hK hT
      simp -implicitDefEqProofs [t44, t45]
      exact hQ _ ⟨rfl, vt, ct, Ot, Os, hK, hS, hT, hOw, hU, hn⟩
  · exact ⟨0, .slice none 0 0, [], [], [], by simp, by simp, by simp [hev], by simp, by simp, by simp, by simpa [P.tabsErr] using hk, .inl ⟨rfl, rfl, rfl⟩, by simp [P.tabsOf, TbC], Own.nil _, Up.refl _ _, by simp⟩

end Ck

/-
Instances that are made: room.
-/
set_option linter.unusedSimpArgs false
set_option linter.unusedVariables false
namespace Ck
open Go

theorem Own.app {H : Heap} {A B : List Nat} (ha : Own H A) (hb : Own H B) (h : ∀ a, a ∈ A → ∀ b, b ∈ B → a ≠ b) : Own H (A ++ B) :=
  ⟨List.nodup_append.2 ⟨ha.1, hb.1, h⟩, fun b hm => by rcases List.mem_append.1 hm with g | g; exact ha.2 b g; exact hb.2 b g⟩

theorem room_ok {H : Heap} {h0 : BF} {pk : Nat} {ty fu ta me gl ex s1 s2 el s3 s4 co da vb vg ve vd : Value} {mems : List Lim} {tabs : List Tab} (hk : H.blk pk = some (.cells 20 false [ty, fu, ta, me, gl, ex, s1, s2, el, s3, s4, co, da, vb, .slice none 0 0, .slice none 0 0, vg, ve, vd, i64 0]))
    (hm : RL h0 3 RLim me mems) (ht : RL h0 4 RTab ta tabs) (hf : Fz H h0 [pk]) (hl : tabs.length ≤ 2 ^ 20) (hmn : ∀ l, l ∈ mems → 0 ≤ l.min) (htn : ∀ t, t ∈ tabs → 0 ≤ t.lim.min) :
    Wp (call tbl 157 [pt pk 0] H) fun q => q.1 = .tuple #[] ∧ ∃ vm vt ct Om Ot Os, q.2.blk pk = some (.cells 20 false [ty, fu, ta, me, gl, ex, s1, s2, el, s3, s4, co, da, vb, vm, vt, vg, ve, vd, i64 (P.tabsErr tabs (P.memErr mems))]) ∧ OSl q.2.blk 1 vm ((P.memOf mems).map u8) Om ∧
      OSl q.2.blk 1 vt ct Ot ∧ TbC q.2.blk ct (P.tabsOf tabs) Os ∧ Own q.2 (Om ++ (Ot ++ Os)) ∧ Up H [pk] q.2 ∧ (∀ b, b ∈ Om ++ (Ot ++ Os) → H.next ≤ b) := by
  refine Wp.via fun Q hQ => ?_
  have hpk : pk < H.next := hf.wi _ _ hk
  -- behind memory: the tables
  have rest : ∀ (K : Heap) (vm : Value) (Om : List Nat) (ev : Env), K.blk pk = some (.cells 20 false [ty, fu, ta, me, gl, ex, s1, s2, el, s3, s4, co, da, vb, vm, .slice none 0 0, vg, ve, vd, i64 (P.memErr mems)]) → OSl K.blk 1 vm ((P.memOf mems).map u8) Om → Own K Om → (∀ b, b ∈ Om → H.next ≤ b) → Up H [pk] K → ev 0 = pt pk 0 → Wp (m157j0 (call tbl) ev K) Q := by
    intro K vm Om ev h1 h2 h3 h4 h5 h6
    refine (room_tabs h1 ht (hf.up h5 fun b hb => .inl hb) hl htn ev h6).mono ?_
    rintro ⟨v, K2⟩ ⟨rfl, vt, ct, Ot, Os, g1, g2, g3, g4, g5, g6⟩
    have hpk2 : pk < K.next := Nat.lt_of_lt_of_le hpk h5.le
    refine hQ _ ⟨rfl, vm, vt, ct, Om, Ot, Os, g1, h2.keep fun b hb => g5.eq b (h3.2 b hb) ?_, g2, g3, (h3.up g5.le).app g4 ?_, h5.trans g5 fun b hb => .inl hb, ?_⟩
    · have := h4 b hb; simp; omega
    · intro a ha b hb
      have := h3.2 a ha
      have := g6 b hb
      omega
    · intro b hb
      have := h5.le
      rcases List.mem_append.1 hb with h | h
      · exact h4 b h
      · have := g6 b h; omega
  rw [c157]
  cases mems with
  | nil =>
    have hlm : lenV me = some (i64 0) := hm.len
    simp -implicitDefEqProofs [m157, ld_of hk, hlm]
    exact rest H (.slice none 0 0) [] _ hk (.inl ⟨rfl, rfl, rfl⟩) (Own.nil _) (by simp) (Up.refl _ _) (by simp)
  | cons x r =>
    have hlm : lenV me = some (i64 ((r.length : Int) + 1)) := by have := hm.len; simpa using this
    have hgt : (0 : Int) < (r.length : Int) + 1 := by omega
    obtain ⟨o, cs, a1, rfl, -, a4, a5⟩ := hm.at_ (H := H) (k := .i64) (i := 0) (x := x) hf.le (by omega) (by simp) (by decide)
    have a6 := a5 0 1 (by decide)
    simp only [List.getElem?_cons_zero, Nat.add_zero] at a6
    simp only [pt, ldV_ptr] at a1 a6
    have hx := hmn x (by simp)
    by_cases hbig : 1 < x.min
    · simp -implicitDefEqProofs [m157, ld_of hk, hlm, hgt, a1, a6, hbig, stX_val hk]
      refine rest _ (.slice none 0 0) [] _ ?_ (.inl ⟨by simp [P.memOf, hbig], rfl, rfl⟩) (Own.nil _) (by simp) (up_set (by simp) hpk) (by simp)
      simp only [P.memErr, if_pos hbig]; exact set_same _ _ _
    · obtain ⟨m, hm0⟩ : ∃ m : Nat, x.min = m := ⟨x.min.toNat, by omega⟩
      have hm1 : m ≤ 1 := by omega
      have hw1 : IntKind.wrap .i64 x.min = m := by rw [wrap_i64 (by omega)]; exact hm0
      have hw2 : binV .mul (i64 (m : Int)) (i64 65536) = some (i64 ((m * 65536 : Nat) : Int)) := by rw [binV_mul, wrap_i64 (by omega)]; congr 2
      obtain ⟨K1, f0, f1, b1, u1, k1⟩ := newV_ok (H := H) (v := .slice (some ⟨H.next, 0, none⟩) (m * 65536) (m * 65536)) (f := fun b => mksliceV 1 1 [.int .u8 0] (i64 ((m * 65536 : Nat) : Int)) (i64 ((m * 65536 : Nat) : Int)) b) (mkslice1 1 (m * 65536) _ .i64 _ (by omega))
      have hK1 : K1.blk pk = some (.cells 20 false [ty, fu, ta, me, gl, ex, s1, s2, el, s3, s4, co, da, vb, .slice none 0 0, .slice none 0 0, vg, ve, vd, i64 0]) := by rw [k1 pk hpk]; exact hk
      have hcast : ((m * 65536 : Nat) : Int) = (m : Int) * 65536 := by omega
      rw [hcast] at f0 hw2
      have hmem : P.memOf (x :: r) = List.replicate (m * 65536) 0 := by
        have ht : ((m : Int) * 65536).toNat = m * 65536 := by omega
        unfold P.memOf
        simp only
        rw [if_neg hbig, hm0, ht]
      simp -implicitDefEqProofs [m157, ld_of hk, hlm, hgt, a1, a6, hbig, hw1, hw2, f0, stX_val hK1]
      refine rest _ (.slice (some ⟨H.next, 0, none⟩) (m * 65536) (m * 65536)) [H.next] _ ?_ (.inr ⟨H.next, _, _, List.replicate (m * 65536) (.int .u8 0), rfl, ?_, ?_, ?_, ?_, rfl⟩) (Own.one (by simp; omega)) (by simp) ((u1.mono (by simp)).trans (up_set (O := [pk]) (by simp) (by omega)) fun b hb => .inl hb) (by simp)
      · simp only [P.memErr, if_neg hbig]; exact set_same _ _ _
      · rw [hmem]; simp
      · rw [set_other (by omega)]; exact b1
      · rw [hmem]; simp
      · rw [hmem]; simp

end Ck

/-
Instances that are made: New.
-/
set_option linter.unusedSimpArgs false
set_option linter.unusedVariables false
namespace Ck
open Go

/-- An instance in memory. -/
structure InsH (H : Heap) (h : BF) (pi : Nat) (d : Md) (i : In) (O : List Nat) : Prop where
  c : ∃ ty fu ta me gl ex el co da bl vm vt vg ve vd es tl ct Om Ot Os Og Oe Od, H.blk pi = some (.cells es false (ty :: fu :: ta :: me :: gl :: ex :: .bool d.m.starts :: u32 d.m.start :: el :: .bool d.m.counts :: u32 d.m.count :: co :: da :: bl :: vm :: vt :: vg :: ve :: vd :: tl)) ∧
    RMd h ty fu ta me gl ex el co da bl d ∧ OSl H.blk 1 vm (i.mem.map u8) Om ∧ OSl H.blk 1 vt ct Ot ∧ TbC H.blk ct i.tables Os ∧ OSl H.blk 1 vg (i.globals.map u64) Og ∧ OSl H.blk 1 ve (i.elems.map .bool) Oe ∧ OSl H.blk 1 vd (i.datas.map .bool) Od ∧
    O = pi :: (Om ++ (Ot ++ (Os ++ (Og ++ (Oe ++ Od)))))
  own : Own H O
  fz : Fz H h O

namespace P
/-- Why there is no instance; 0: there is one. -/
def newErr (m : Mo) : Int :=
  let e := tabsErr m.tables (memErr m.mems)
  match blocksAll m.codes with
  | some _ => e
  | none => if e = 0 then 2 else e
def newIn (m : Mo) : In := ⟨memOf m.mems, tabsOf m.tables, m.globals.map fun g => worth g.init, List.replicate m.elems.length false, List.replicate m.datas.length false⟩
end P

/-- A module's bounds and kinds. -/
structure MoW (m : Mo) : Prop where
  globals : m.globals.length ≤ 2 ^ 20
  glo : ∀ g, g ∈ m.globals → ∀ x, x ∈ g.init → InsW x
  tables : m.tables.length ≤ 2 ^ 20
  tab : ∀ t, t ∈ m.tables → 0 ≤ t.lim.min
  mem : ∀ l, l ∈ m.mems → 0 ≤ l.min
  elems : m.elems.length ≤ 2 ^ 20
  datas : m.datas.length ≤ 2 ^ 20
  codes : m.codes.length ≤ 2 ^ 20
  cod : ∀ c, c ∈ m.codes → c.body.length ≤ 2 ^ 20

theorem RMo.mono {h g : BF} (hl : BF.le h g) {ty fu ta me gl ex el co da : Value} {m : Mo} (r : RMo h ty fu ta me gl ex el co da m) : RMo g ty fu ta me gl ex el co da m := by
  have ins : ∀ c x, RIns h c x → RIns g c x := fun c x ⟨l, h1, h2⟩ => ⟨l, h1, h2.mono hl⟩
  have body : ∀ v l, RBody h v l → RBody g v l := fun v l hb => hb.mono hl ins
  refine ⟨r.types.mono hl fun c x ⟨p, q, h1, h2, h3⟩ => ⟨p, q, h1, h2.mono hl, h3.mono hl⟩, r.funcs.mono hl, r.tables.mono hl fun _ _ h => h, r.mems.mono hl fun _ _ h => h,
    r.globals.mono hl fun c x ⟨l, h1, h2⟩ => ⟨l, h1, body _ _ h2⟩, r.exports.mono hl fun _ _ h => h, r.elems.mono hl fun c x ⟨o, i, h1, h2, h3⟩ => ⟨o, i, h1, body _ _ h2, h3.mono hl fun c x ⟨l, k1, k2⟩ => ⟨l, k1, body _ _ k2⟩⟩,
    r.codes.mono hl fun c x ⟨l, b, h1, h2, h3⟩ => ⟨l, b, h1, h2.mono hl, body _ _ h3⟩, r.datas.mono hl fun c x ⟨o, b, h1, h2, h3⟩ => ⟨o, b, h1, body _ _ h2, h3.mono hl⟩⟩

theorem RMo.flats {h : BF} {ty fu ta me gl ex el co da : Value} {m : Mo} (r : RMo h ty fu ta me gl ex el co da m) :
    Ck.flat ty = true ∧ Ck.flat fu = true ∧ Ck.flat ta = true ∧ Ck.flat me = true ∧ Ck.flat gl = true ∧ Ck.flat ex = true ∧ Ck.flat el = true ∧ Ck.flat co = true ∧ Ck.flat da = true :=
  ⟨r.types.flat, r.funcs.flat, r.tables.flat, r.mems.flat, r.globals.flat, r.exports.flat, r.elems.flat, r.codes.flat, r.datas.flat⟩

theorem RL.cells {α : Type} {h : BF} {e : Nat} {R : List Value → α → Prop} {v : Value} {xs : List α} (hr : RL h e R v xs) : v.cells = #[v] := by
  obtain ⟨cs, h1, h2⟩ := hr; exact h1.cells
theorem RA.cells {α : Type} {f : α → Value} {h : BF} {v : Value} {xs : List α} (hr : RA f h v xs) : v.cells = #[v] := Row.cells hr

theorem new_ok {H : Heap} {h0 : BF} {ty fu ta me gl ex el co da : Value} {m : Mo} (hM : RMo h0 ty fu ta me gl ex el co da m) (hf : Fz H h0 []) (hW : MoW m) :
    Wp (call tbl 90 [.agg #[ty, fu, ta, me, gl, ex, .bool m.starts, u32 m.start, el, .bool m.counts, u32 m.count, co, da]] H) fun q => Up H [] q.2 ∧
      if P.newErr m ≠ 0 then q.1 = .tuple #[.pointer none, i64 (P.newErr m)] else
      ∃ pi O hk bs, q.1 = .tuple #[pt pi 0, i64 0] ∧ Grow H.next h0 hk ∧ P.blocksAll m.codes = some bs ∧ InsH q.2 hk pi ⟨m, bs⟩ (P.newIn m) O ∧ (∀ b, b ∈ O → H.next ≤ b) := by
  refine Wp.via fun Q hQ => ?_
  obtain ⟨f1, f2, f3, f4, f5, f6, f7, f8, f9⟩ := hM.flats
  have hel := hM.elems.len
  have hda := hM.datas.len
  have lel := hW.elems
  have lda := hW.datas
  obtain ⟨H1, a0, a1, a2, a3, a4⟩ := newV_ok (H := H) (v := pt H.next 0) (x := .cells 13 false [ty, fu, ta, me, gl, ex, .bool m.starts, u32 m.start, el, .bool m.counts, u32 m.count, co, da]) (f := fun b => boxV 13 (.agg #[ty, fu, ta, me, gl, ex, .bool m.starts, u32 m.start, el, .bool m.counts, u32 m.count, co, da]) b) (by simp [boxV, f1, f2, f3, f4, f5, f6, f7, f8, f9])
  obtain ⟨H2, b0, b1, b2, b3, b4⟩ := newV_ok (H := H1) (v := .slice (some ⟨H1.next, 0, none⟩) m.elems.length m.elems.length) (f := fun b => mksliceV 1 1 [.bool false] (i64 m.elems.length) (i64 m.elems.length) b) (mkslice1 1 m.elems.length _ .i64 _ (by omega))
  have a2' : H2.blk H.next = some (.cells 13 false [ty, fu, ta, me, gl, ex, .bool m.starts, u32 m.start, el, .bool m.counts, u32 m.count, co, da]) := by rw [b4 _ (by omega)]; exact a2
  obtain ⟨H3, c0, c1, c2, c3, c4⟩ := newV_ok (H := H2) (v := .slice (some ⟨H2.next, 0, none⟩) m.datas.length m.datas.length) (f := fun b => mksliceV 1 1 [.bool false] (i64 m.datas.length) (i64 m.datas.length) b) (mkslice1 1 m.datas.length _ .i64 _ (by omega))
  obtain ⟨K, d0, d1, d2, d3, d4⟩ := newV_ok (H := H3) (v := pt H3.next 0) (x := .cells 20 false [ty, fu, ta, me, gl, ex, .bool m.starts, u32 m.start, el, .bool m.counts, u32 m.count, co, da, .slice none 0 0, .slice none 0 0, .slice none 0 0, .slice none 0 0, .slice (some ⟨H1.next, 0, none⟩) m.elems.length m.elems.length, .slice (some ⟨H2.next, 0, none⟩) m.datas.length m.datas.length, i64 0])
    (f := fun b => boxV 20 (.agg #[ty, fu, ta, me, gl, ex, .bool m.starts, u32 m.start, el, .bool m.counts, u32 m.count, co, da, .slice none 0 0, .slice none 0 0, .slice none 0 0, .slice none 0 0, .slice (some ⟨H1.next, 0, none⟩) m.elems.length m.elems.length, .slice (some ⟨H2.next, 0, none⟩) m.datas.length m.datas.length, i64 0]) b) (by simp [boxV, f1, f2, f3, f4, f5, f6, f7, f8, f9])
  have uK : Up H [] K := ((a3.trans b3 (by simp)).trans c3 (by simp)).trans d3 (by simp)
  have hle := hf.le
  have fK : Fz K h0 [H3.next] := by
    refine ⟨(hf.up0 uK).le, fun b hb => ?_, uK.wi hf.wi⟩
    simp at hb
    cases hx : h0 b with
    | none => rfl
    | some x => have := hf.wi _ _ (hf.le b x hx); omega
  -- what the segments' slices are
  have kE : K.blk H1.next = some (.cells 1 false (List.replicate m.elems.length (.bool false))) := by rw [d4 _ (by omega), c4 _ (by omega)]; exact b2
  have kD : K.blk H2.next = some (.cells 1 false (List.replicate m.datas.length (.bool false))) := by rw [d4 _ (by omega)]; exact c2
  have kA : K.blk H.next = some (.cells 13 false [ty, fu, ta, me, gl, ex, .bool m.starts, u32 m.start, el, .bool m.counts, u32 m.count, co, da]) := by rw [d4 _ (by omega), c4 _ (by omega)]; exact a2'
  rw [c90]
  simp -implicitDefEqProofs [m90, a0, lds_of a2, ld_of a2, hel, b0, ld_of a2', hda, c0, buildV, fillV, splice, d0]
  refine Wp.step (room_ok d2 hM.mems hM.tables fK hW.tables hW.mem hW.tab) ?_
  rintro ⟨v, K1⟩ ⟨rfl, vm, vt, ct, Om, Ot, Os, g1, g2, g3, g4, g5, g6, g7⟩
  simp only at g1 g2 g3 g4 g5 g6 g7
  have fK1 := fK.up g6 fun b hb => .inl hb
  simp -implicitDefEqProofs
  refine Wp.step (mblocks_ok g1 hM.codes fK1 hW.codes hW.cod) ?_
  rintro ⟨v, K2⟩ ⟨rfl, vb, cb, Ob, hk, e', j1, j2, j3, j4, j5, j6, j7, j8⟩
  simp only at j1 j2 j3 j4 j5 j6 j7 j8
  have hpk : H3.next < K.next := by omega
  have u02 : Up K [H3.next] K2 := g6.trans j4 fun b hb => .inl hb
  have uH2 : Up H [] K2 := uK.trans u02 fun b hb => by simp at hb; have := a3.le; have := b3.le; have := c3.le; omega
  have herr : e' = P.newErr m := by
    unfold P.newErr
    cases hq : P.blocksAll m.codes with
    | none => rw [hq] at j8; exact j8
    | some bs => rw [hq] at j8; exact j8.1
  by_cases hz : e' = 0
  · rw [← herr] at hQ
    simp only [hz, ne_eq, not_true_eq_false, if_false] at hQ
    subst hz
    obtain ⟨bs, hbs⟩ : ∃ bs, P.blocksAll m.codes = some bs := by
      cases hq : P.blocksAll m.codes with
      | none => rw [hq] at j8; simp only at j8; split at j8 <;> omega
      | some bs => exact ⟨bs, rfl⟩
    rw [hbs] at j8
    have hlA : K2.blk H.next = some (.cells 13 false [ty, fu, ta, me, gl, ex, .bool m.starts, u32 m.start, el, .bool m.counts, u32 m.count, co, da]) := by
      rw [u02.eq _ (by omega) (by simp; omega)]; exact kA
    simp -implicitDefEqProofs [ld_of j1, ld_of hlA, hM.globals.len]
    have hpk2 : H3.next < K2.next := Nat.lt_of_lt_of_le hpk u02.le
    have hGle : BF.le h0 hk := j6.1
    refine loop_via (Q := Q) (fun n ev L => ∃ (i : Nat) (vg : Value) (Og : List Nat), n = m.globals.length - i ∧ i ≤ m.globals.length ∧ ev 4 = pt H3.next 0 ∧ ev 33 = gl ∧ ev 34 = i64 m.globals.length ∧ ev 35 = i64 i ∧
      L.blk H3.next = some (.cells 20 false [ty, fu, ta, me, gl, ex, .bool m.starts, u32 m.start, el, .bool m.counts, u32 m.count, co, da, vb, vm, vt, vg, .slice (some ⟨H1.next, 0, none⟩) m.elems.length m.elems.length, .slice (some ⟨H2.next, 0, none⟩) m.datas.length m.datas.length, i64 0]) ∧
      OSl L.blk 1 vg (((m.globals.take i).map fun g => P.worth g.init).map u64) Og ∧ Own L Og ∧ Up K2 [H3.next] L ∧ (∀ b, b ∈ Og → K2.next ≤ b)) ?_ m.globals.length _ _ ?_
    · rintro J hJ n ev L ⟨i, vg, Og, rfl, hi, t4, t33, t34, t35, hL, hS, hOw, hU, hn⟩
      have hpkL : H3.next < L.next := Nat.lt_of_lt_of_le hpk2 hU.le
      have hpkO : H3.next ∉ Og := fun hh => by have := hn _ hh; omega
      have fL : Fz L h0 [H3.next] := (fK.up u02 fun b hb => .inl hb).up hU fun b hb => .inl hb
      have hlg := hW.globals
      by_cases hlt : i < m.globals.length
      · obtain ⟨g, hc⟩ : ∃ g, m.globals[i]? = some g := ⟨_, List.getElem?_eq_getElem hlt⟩
        obtain ⟨o, cs, z1, ⟨l', rfl, r1⟩, -, z4, z5⟩ := hM.globals.at_ (H := L) (k := .i64) (i := (i : Int)) fL.le (by omega) (by simpa using hc) (by decide)
        obtain ⟨L1, e0, e1, p2, u1, k1⟩ := newV_ok (H := L) (v := pt L.next 0) (f := fun b => some (ptrTo b, .cells 3 false [(.int .u8 0), (.bool false), (.slice none 0 0)])) rfl
        simp only [pt] at z1 z4
        have hadd : binV .add (i64 (i : Int)) (i64 1) = some (i64 ((i : Int) + 1)) := add_i64 (by omega)
        have htk : m.globals.take (i + 1) = m.globals.take i ++ [g] := by rw [List.take_succ_eq_append_getElem hlt, (List.getElem?_eq_some_iff.1 hc).2]
        have uz : Up L [] (L1.set L.next (some (.cells 3 false [u8 g.ty, .bool g.mu, l']))) := u1.trans (up_set (O := [L.next]) (by simp) (by omega)) (by simp)
        have hL1 : (L1.set L.next (some (.cells 3 false [u8 g.ty, .bool g.mu, l']))).blk H3.next = _ := (uz.eq _ hpkL (by simp)).trans hL
        simp -implicitDefEqProofs [t4, t33, t34, t35, hlt, z1, z4, e0, stX_agg p2, r1.flat, splice, ld_of hL1]
        refine Wp.step (worth_ok r1 (Fz.nil (fL.up0 uz).le (fL.up0 uz).wi) (hW.glo g (List.mem_of_getElem? hc))) ?_
        rintro ⟨v, L2⟩ ⟨rfl, u2⟩
        simp only at u2
        have uA : Up L [] L2 := uz.trans u2 (by simp)
        have hL2 : L2.blk H3.next = _ := (uA.eq _ hpkL (by simp)).trans hL
        obtain ⟨L3, q0, q1, q2, q3, q4⟩ := newV_ok (H := L2) (v := .slice (some ⟨L2.next, 0, none⟩) 1 1) (f := fun b => bsliceV 1 1 [.int .u64 0] [(0, 1, u64 (P.worth g.init))] b) (bslice1 1 _ [_] _ _ rfl rfl rfl rfl)
        have uB : Up L [] L3 := uA.trans q3 (by simp)
        have hrow : Row L3.blk 1 (.slice (some ⟨L2.next, 0, none⟩) 1 1) 1 [u64 (P.worth g.init)] := ⟨rfl, .inr ⟨L2.next, 0, 1, false, _, rfl, q2, by simp, by simp⟩⟩
        obtain ⟨v', L4, O', w1, w2, w3, w4, w5, -⟩ := (hS.keep (fun b hb => uB.eq b (hOw.2 b hb) (by simp)) : OSl L3.blk 1 vg _ Og).append (byt := 8) (n := i) (by decide) (by simp; omega) hrow (by omega) (fun b hb => by have := hOw.2 b hb; have := uB.le; omega)
        have hL4 : L4.blk H3.next = _ := (w4.eq _ (Nat.lt_of_lt_of_le hpkL uB.le) hpkO).trans ((uB.eq _ hpkL (by simp)).trans hL)
        simp -implicitDefEqProofs [ld_of hL2, q0, w1, stX_val hL4, w2.flat, t35, hadd]
        have hO' : ∀ b, b ∈ O' → b ≠ H3.next ∧ K2.next ≤ b := fun b hb => by
          have := hU.le; have := uB.le
          rcases w5 b hb with h | h
          · exact ⟨fun e => hpkO (e ▸ h), hn b h⟩
          · exact ⟨by omega, by omega⟩
        refine ⟨m.globals.length - (i + 1), by omega, hJ _ _ _ ⟨i + 1, v', O', rfl, by omega, by simp [t4], by simp [t33], by simp [t34], by simp, set_same _ _ _, ?_, w3.up (by simp), ?_, fun b hb => (hO' b hb).2⟩⟩
        · rw [htk]
          simp only [List.map_append, List.map_cons, List.map_nil]
          exact w2.keep fun b hb => set_other (hO' b hb).1
        · refine hU.trans (((uB.mono (by simp)).trans w4 fun b hb => .inl (List.mem_cons_of_mem H3.next hb)).trans (up_set (O := [H3.next]) (by simp) (by have := w4.le; have := uB.le; omega)) fun b hb => by simp at hb; simp [hb]) fun b hb => ?_
          simp only [List.mem_cons] at hb ⊢
          rcases hb with rfl | hb
          · simp
          · exact .inr (hn b hb)
      · have hil : i = m.globals.length := by omega
        subst hil
        rw [List.take_length] at hS
        simp -implicitDefEqProofs [t34, t35, t4]
        apply hQ
        have fL2 : Fz L hk (H3.next :: Ob) := j7.up (hU.mono (fun b hb => by simp at hb; simp [hb])) fun b hb => .inl hb
        have e1 := u02.le
        have e2 := g6.le
        have e3 := j4.le
        have e4 := hU.le
        have hkn : ∀ b, H.next ≤ b → (b < K1.next ∨ K2.next ≤ b) → hk b = none := by
          intro b hb hc
          cases hx : hk b with
          | none => rfl
          | some x =>
            exfalso
            rcases j6.2 b x hx with h | h
            · have := hf.wi _ _ (hf.le b x h); omega
            · have := j7.wi _ _ (j7.le b x hx); omega
        have kL : ∀ b, b < K1.next → b ≠ H3.next → L.blk b = K1.blk b := fun b hb hn => by rw [hU.eq b (by omega) (by simpa using hn), j4.eq b hb (by simpa using hn)]
        have hOm : ∀ b, b ∈ Om ++ (Ot ++ Os) → K.next ≤ b ∧ b < K1.next := fun b hb => ⟨g7 b hb, g5.2 b hb⟩
        have hEL : L.blk H1.next = some (.cells 1 false (List.replicate m.elems.length (.bool false))) := by rw [kL _ (by omega) (by omega), g6.eq _ (by omega) (by simp; omega)]; exact kE
        have hDL : L.blk H2.next = some (.cells 1 false (List.replicate m.datas.length (.bool false))) := by rw [kL _ (by omega) (by omega), g6.eq _ (by omega) (by simp; omega)]; exact kD
        have hown : Own L (H3.next :: (Om ++ (Ot ++ (Os ++ (Og ++ ([H1.next] ++ [H2.next])))))) := by
          have : H3.next :: (Om ++ (Ot ++ (Os ++ (Og ++ ([H1.next] ++ [H2.next]))))) = [H3.next] ++ ((Om ++ (Ot ++ Os)) ++ (Og ++ ([H1.next] ++ [H2.next]))) := by simp
          rw [this]
          refine (Own.one (by omega)).app ((g5.up (by omega)).app (hOw.app ((Own.one (by omega)).app (Own.one (by omega)) ?_) ?_) ?_) ?_
          · intro a ha b hb; simp at ha hb; omega
          · intro a ha b hb; have := hn a ha; simp at hb; omega
          · intro a ha b hb
            have := hOm a ha
            simp only [List.mem_append, List.mem_singleton] at hb
            rcases hb with hb | hb | hb
            · have := hn b hb; omega
            · omega
            · omega
          · intro a ha b hb
            simp only [List.mem_singleton] at ha
            rcases List.mem_append.1 hb with hb | hb
            · have := hOm b hb; omega
            · simp only [List.mem_append, List.mem_singleton] at hb
              rcases hb with hb | hb | hb
              · have := hn b hb; omega
              · omega
              · omega
        have hOr : ∀ b, b ∈ H3.next :: (Om ++ (Ot ++ (Os ++ (Og ++ ([H1.next] ++ [H2.next]))))) → H.next ≤ b ∧ (b < K1.next ∨ K2.next ≤ b) := by
          intro b hb
          have : b ∈ [H3.next] ++ ((Om ++ (Ot ++ Os)) ++ (Og ++ ([H1.next] ++ [H2.next]))) := by simpa using hb
          rcases List.mem_append.1 this with hb | hb
          · simp at hb; omega
          · rcases List.mem_append.1 hb with hb | hb
            · have := hOm b hb; omega
            · simp only [List.mem_append, List.mem_singleton] at hb
              rcases hb with hb | hb | hb
              · have := hn b hb; omega
              · omega
              · omega
        have uHL : Up H [] L := uH2.trans hU fun b hb => by simp at hb; omega
        have fin : ∀ hF : BF, BF.le hk hF → Grow H.next h0 hF → RL hF 1 (RMap hF) vb bs → Fz L hF (H3.next :: (Om ++ (Ot ++ (Os ++ (Og ++ ([H1.next] ++ [H2.next])))))) →
            Up H [] L ∧ ∃ pi O hk bs, (Value.tuple #[pt H3.next 0, i64 0], L).1 = .tuple #[pt pi 0, i64 0] ∧ Grow H.next h0 hk ∧ P.blocksAll m.codes = some bs ∧ InsH L hk pi ⟨m, bs⟩ (P.newIn m) O ∧ (∀ b, b ∈ O → H.next ≤ b) := by
          intro hF h1 h2 h3 h4
          refine ⟨uHL, H3.next, _, hF, bs, rfl, h2, hbs, ⟨⟨ty, fu, ta, me, gl, ex, el, co, da, vb, vm, vt, vg, _, _, 20, [i64 0], ct, Om, Ot, Os, Og, [H1.next], [H2.next], hL, ⟨hM.mono h2.1, h3⟩, ?_, ?_, ?_, hS, ?_, ?_, rfl⟩, hown, h4⟩, fun b hb => (hOr b hb).1⟩
          · exact g2.keep fun b hb => by have := hOm b (by simp [hb]); exact kL b (by omega) (by omega)
          · exact g3.keep fun b hb => by have := hOm b (by simp [hb]); exact kL b (by omega) (by omega)
          · exact g4.keep fun b hb => by have := hOm b (by simp [hb]); exact kL b (by omega) (by omega)
          · exact .inr ⟨H1.next, _, _, _, rfl, by simp [P.newIn], hEL, by simp [P.newIn], by simp [P.newIn], rfl⟩
          · exact .inr ⟨H2.next, _, _, _, rfl, by simp [P.newIn], hDL, by simp [P.newIn], by simp [P.newIn], rfl⟩
        rcases j2 with ⟨hcn, hvn, hObn⟩ | ⟨bb, n, cc, full, rfl, y1, y2, y3, y4, rfl⟩
        · have hgr : Grow H.next h0 hk := ⟨j6.1, fun b x hx => by rcases j6.2 b x hx with h | h; exact .inl h; exact .inr (by omega)⟩
          refine fin hk (BF.le.refl _) hgr ?_ ⟨fL2.le, fun b hb => hkn b (hOr b hb).1 (hOr b hb).2, fL2.wi⟩
          rw [hcn] at j8
          have hb0 : bs = [] := by
            have := j8.2.length
            simpa using this.symm
          rw [hb0, hvn]
          exact ⟨[], ⟨rfl, .inl ⟨rfl, rfl⟩⟩, rfl⟩
        · have hbb : K1.next ≤ bb ∧ bb < K2.next := ⟨j5 bb (by simp), j3.2 bb (by simp)⟩
          have hbk : hk bb = none := j7.hO bb (by simp)
          have hLb : L.blk bb = some (.cells 1 false full) := by rw [hU.eq bb hbb.2 (by simp; omega)]; exact y2
          have hgr : Grow H.next h0 (hk.add bb (.cells 1 false full)) := by
            have h1 : Grow H.next h0 hk := ⟨j6.1, fun b x hx => by rcases j6.2 b x hx with h | h; exact .inl h; exact .inr (by omega)⟩
            exact h1.trans (Grow.add (n := H.next) hbk (by omega)) (Nat.le_refl _)
          have hmc := MapC.mono (BF.le_add (x := .cells 1 false full) hbk) j8.2
          refine fin (hk.add bb (.cells 1 false full)) (BF.le_add hbk) hgr ⟨cb, ?_, hmc.parts⟩ ⟨?_, ?_, fL2.wi⟩
          · have hl1 := hmc.length
            have hn1 : n = bs.length := by omega
            subst hn1
            exact ⟨by omega, .inr ⟨bb, 0, cc, false, full, rfl, BF.add_at _ _ _, by omega, by rw [← y1]; simpa using y3⟩⟩
          · intro b x hbx
            unfold BF.add at hbx
            by_cases eb : b = bb
            · rw [if_pos eb] at hbx; rw [eb, hLb]; exact hbx
            · rw [if_neg eb] at hbx; exact fL2.le b x hbx
          · intro b hb
            have := hOr b hb
            unfold BF.add
            rw [if_neg (by omega)]
            exact hkn b this.1 this.2
    · exact ⟨0, .slice none 0 0, [], by simp, by simp, by simp, by simp, by simp, by simp, j1, .inl ⟨by simp, rfl, rfl⟩, Own.nil _, Up.refl _ _, by simp⟩
  · rw [← herr] at hQ
    simp only [hz, ne_eq, not_false_eq_true, if_true] at hQ
    simp -implicitDefEqProofs [ld_of j1, hz]
    exact hQ _ ⟨uH2, rfl⟩

end Ck

/-
An instance's parts, opened and laid back.
-/
set_option linter.unusedSimpArgs false
set_option linter.unusedVariables false
namespace Ck
open Go

theorem InsH.pi_in {H : Heap} {h : BF} {pi : Nat} {d : Md} {i : In} {O : List Nat} (hI : InsH H h pi d i O) : pi ∈ O ∧ pi < H.next := by
  obtain ⟨⟨ty, fu, ta, me, gl, ex, el, co, da, bl, vm, vt, vg, ve, vd, es, tl, ct, Om, Ot, Os, Og, Oe, Od, h1, h2, h3, h4, h5, h6, h7, h8, rfl⟩, ho, hf⟩ := hI
  exact ⟨by simp, ho.2 pi (by simp)⟩

theorem InsH.up0 {H H' : Heap} {h : BF} {pi : Nat} {d : Md} {i : In} {O P : List Nat} (hI : InsH H h pi d i O) (hu : Up H P H') (hd : ∀ b, b ∈ P → b ∉ O) (hp : ∀ b, b ∈ P → h b = none) : InsH H' h pi d i O := by
  obtain ⟨⟨ty, fu, ta, me, gl, ex, el, co, da, bl, vm, vt, vg, ve, vd, es, tl, ct, Om, Ot, Os, Og, Oe, Od, h1, h2, h3, h4, h5, h6, h7, h8, rfl⟩, ho, hf⟩ := hI
  have hlt := ho.2
  have kk : ∀ b, b ∈ pi :: (Om ++ (Ot ++ (Os ++ (Og ++ (Oe ++ Od))))) → H'.blk b = H.blk b := fun b hb => hu.eq b (hlt b hb) fun hh => hd b hh hb
  refine ⟨⟨ty, fu, ta, me, gl, ex, el, co, da, bl, vm, vt, vg, ve, vd, es, tl, ct, Om, Ot, Os, Og, Oe, Od, by rw [kk pi (by simp)]; exact h1, h2, h3.keep fun b hb => kk b (by simp [hb]), h4.keep fun b hb => kk b (by simp [hb]), h5.keep fun b hb => kk b (by simp [hb]), h6.keep fun b hb => kk b (by simp [hb]), h7.keep fun b hb => kk b (by simp [hb]), h8.keep fun b hb => kk b (by simp [hb]), rfl⟩, ho.up hu.le, ⟨fun b x hb => ?_, hf.hO, hu.wi hf.wi⟩⟩
  rw [hu.eq b (hf.wi _ _ (hf.le b x hb)) fun hh => by rw [hp b hh] at hb; simp at hb]
  exact hf.le b x hb

theorem InsH.open_mem {H : Heap} {h : BF} {pi : Nat} {d : Md} {i : In} {O : List Nat} (hI : InsH H h pi d i O) :
    ∃ v X es full, H.blk pi = some (.cells es false full) ∧ full[14]? = some v ∧ OSl H.blk 1 v (i.mem.map u8) X ∧ (∀ b, b ∈ X → b ∈ O ∧ b ≠ pi) ∧ Own H X ∧
      ∀ (H' : Heap) (x : List Int), Up H X H' → OSl H'.blk 1 v (x.map u8) X → InsH H' h pi d { i with mem := x } O := by
  obtain ⟨⟨ty, fu, ta, me, gl, ex, el, co, da, bl, vm, vt, vg, ve, vd, es, tl, ct, Om, Ot, Os, Og, Oe, Od, h1, h2, h3, h4, h5, h6, h7, h8, rfl⟩, ho, hf⟩ := hI
  have hnd := ho.1
  have hlt := ho.2
  simp only [List.nodup_cons, List.nodup_append, List.mem_append, not_or] at hnd
  refine ⟨vm, Om, es, _, h1, rfl, h3, fun b hb => ⟨by simp [hb], fun e => by subst e; simp [hb] at hnd⟩, ⟨by simp [hnd], fun b hb => hlt b (by simp [hb])⟩, fun H' x hu hs => ?_⟩
  have kk : ∀ b, b ∈ pi :: (Om ++ (Ot ++ (Os ++ (Og ++ (Oe ++ Od))))) → b ∉ Om → H'.blk b = H.blk b := fun b hb hn => hu.eq b (hlt b hb) hn
  have nn : (∀ b, b ∈ Ot → b ∉ Om) ∧ (∀ b, b ∈ Os → b ∉ Om) ∧ (∀ b, b ∈ Og → b ∉ Om) ∧ (∀ b, b ∈ Oe → b ∉ Om) ∧ (∀ b, b ∈ Od → b ∉ Om) ∧ pi ∉ Om := by
    refine ⟨?_, ?_, ?_, ?_, ?_, ?_⟩ <;> grind
  obtain ⟨nt, ns, ng, ne, nd, npi⟩ := nn
  refine ⟨⟨ty, fu, ta, me, gl, ex, el, co, da, bl, vm, vt, vg, ve, vd, es, tl, ct, Om, Ot, Os, Og, Oe, Od, by rw [kk pi (by simp) npi]; exact h1, h2, hs, h4.keep fun b hb => kk b (by simp [hb]) (nt b hb), h5.keep fun b hb => kk b (by simp [hb]) (ns b hb), h6.keep fun b hb => kk b (by simp [hb]) (ng b hb), h7.keep fun b hb => kk b (by simp [hb]) (ne b hb), h8.keep fun b hb => kk b (by simp [hb]) (nd b hb), rfl⟩, ho.up hu.le, hf.up (hu.mono fun b hb => by simp [hb]) fun b hb => .inl hb⟩

theorem InsH.open_globals {H : Heap} {h : BF} {pi : Nat} {d : Md} {i : In} {O : List Nat} (hI : InsH H h pi d i O) :
    ∃ v X es full, H.blk pi = some (.cells es false full) ∧ full[16]? = some v ∧ OSl H.blk 1 v (i.globals.map u64) X ∧ (∀ b, b ∈ X → b ∈ O ∧ b ≠ pi) ∧ Own H X ∧
      ∀ (H' : Heap) (x : List Int), Up H X H' → OSl H'.blk 1 v (x.map u64) X → InsH H' h pi d { i with globals := x } O := by
  obtain ⟨⟨ty, fu, ta, me, gl, ex, el, co, da, bl, vm, vt, vg, ve, vd, es, tl, ct, Om, Ot, Os, Og, Oe, Od, h1, h2, h3, h4, h5, h6, h7, h8, rfl⟩, ho, hf⟩ := hI
  have hnd := ho.1
  have hlt := ho.2
  simp only [List.nodup_cons, List.nodup_append, List.mem_append, not_or] at hnd
  refine ⟨vg, Og, es, _, h1, rfl, h6, fun b hb => ⟨by simp [hb], fun e => by subst e; simp [hb] at hnd⟩, ⟨by simp [hnd], fun b hb => hlt b (by simp [hb])⟩, fun H' x hu hs => ?_⟩
  have kk : ∀ b, b ∈ pi :: (Om ++ (Ot ++ (Os ++ (Og ++ (Oe ++ Od))))) → b ∉ Og → H'.blk b = H.blk b := fun b hb hn => hu.eq b (hlt b hb) hn
  have nn : (∀ b, b ∈ Om → b ∉ Og) ∧ (∀ b, b ∈ Ot → b ∉ Og) ∧ (∀ b, b ∈ Os → b ∉ Og) ∧ (∀ b, b ∈ Oe → b ∉ Og) ∧ (∀ b, b ∈ Od → b ∉ Og) ∧ pi ∉ Og := by
    refine ⟨?_, ?_, ?_, ?_, ?_, ?_⟩ <;> grind
  obtain ⟨nm, nt, ns, ne, nd, npi⟩ := nn
  refine ⟨⟨ty, fu, ta, me, gl, ex, el, co, da, bl, vm, vt, vg, ve, vd, es, tl, ct, Om, Ot, Os, Og, Oe, Od, by rw [kk pi (by simp) npi]; exact h1, h2, h3.keep fun b hb => kk b (by simp [hb]) (nm b hb), h4.keep fun b hb => kk b (by simp [hb]) (nt b hb), h5.keep fun b hb => kk b (by simp [hb]) (ns b hb), hs, h7.keep fun b hb => kk b (by simp [hb]) (ne b hb), h8.keep fun b hb => kk b (by simp [hb]) (nd b hb), rfl⟩, ho.up hu.le, hf.up (hu.mono fun b hb => by simp [hb]) fun b hb => .inl hb⟩

theorem InsH.open_elems {H : Heap} {h : BF} {pi : Nat} {d : Md} {i : In} {O : List Nat} (hI : InsH H h pi d i O) :
    ∃ v X es full, H.blk pi = some (.cells es false full) ∧ full[17]? = some v ∧ OSl H.blk 1 v (i.elems.map .bool) X ∧ (∀ b, b ∈ X → b ∈ O ∧ b ≠ pi) ∧ Own H X ∧
      ∀ (H' : Heap) (x : List Bool), Up H X H' → OSl H'.blk 1 v (x.map .bool) X → InsH H' h pi d { i with elems := x } O := by
  obtain ⟨⟨ty, fu, ta, me, gl, ex, el, co, da, bl, vm, vt, vg, ve, vd, es, tl, ct, Om, Ot, Os, Og, Oe, Od, h1, h2, h3, h4, h5, h6, h7, h8, rfl⟩, ho, hf⟩ := hI
  have hnd := ho.1
  have hlt := ho.2
  simp only [List.nodup_cons, List.nodup_append, List.mem_append, not_or] at hnd
  refine ⟨ve, Oe, es, _, h1, rfl, h7, fun b hb => ⟨by simp [hb], fun e => by subst e; simp [hb] at hnd⟩, ⟨by simp [hnd], fun b hb => hlt b (by simp [hb])⟩, fun H' x hu hs => ?_⟩
  have kk : ∀ b, b ∈ pi :: (Om ++ (Ot ++ (Os ++ (Og ++ (Oe ++ Od))))) → b ∉ Oe → H'.blk b = H.blk b := fun b hb hn => hu.eq b (hlt b hb) hn
  have nn : (∀ b, b ∈ Om → b ∉ Oe) ∧ (∀ b, b ∈ Ot → b ∉ Oe) ∧ (∀ b, b ∈ Os → b ∉ Oe) ∧ (∀ b, b ∈ Og → b ∉ Oe) ∧ (∀ b, b ∈ Od → b ∉ Oe) ∧ pi ∉ Oe := by
    refine ⟨?_, ?_, ?_, ?_, ?_, ?_⟩ <;> grind
  obtain ⟨nm, nt, ns, ng, nd, npi⟩ := nn
  refine ⟨⟨ty, fu, ta, me, gl, ex, el, co, da, bl, vm, vt, vg, ve, vd, es, tl, ct, Om, Ot, Os, Og, Oe, Od, by rw [kk pi (by simp) npi]; exact h1, h2, h3.keep fun b hb => kk b (by simp [hb]) (nm b hb), h4.keep fun b hb => kk b (by simp [hb]) (nt b hb), h5.keep fun b hb => kk b (by simp [hb]) (ns b hb), h6.keep fun b hb => kk b (by simp [hb]) (ng b hb), hs, h8.keep fun b hb => kk b (by simp [hb]) (nd b hb), rfl⟩, ho.up hu.le, hf.up (hu.mono fun b hb => by simp [hb]) fun b hb => .inl hb⟩

theorem InsH.open_datas {H : Heap} {h : BF} {pi : Nat} {d : Md} {i : In} {O : List Nat} (hI : InsH H h pi d i O) :
    ∃ v X es full, H.blk pi = some (.cells es false full) ∧ full[18]? = some v ∧ OSl H.blk 1 v (i.datas.map .bool) X ∧ (∀ b, b ∈ X → b ∈ O ∧ b ≠ pi) ∧ Own H X ∧
      ∀ (H' : Heap) (x : List Bool), Up H X H' → OSl H'.blk 1 v (x.map .bool) X → InsH H' h pi d { i with datas := x } O := by
  obtain ⟨⟨ty, fu, ta, me, gl, ex, el, co, da, bl, vm, vt, vg, ve, vd, es, tl, ct, Om, Ot, Os, Og, Oe, Od, h1, h2, h3, h4, h5, h6, h7, h8, rfl⟩, ho, hf⟩ := hI
  have hnd := ho.1
  have hlt := ho.2
  simp only [List.nodup_cons, List.nodup_append, List.mem_append, not_or] at hnd
  refine ⟨vd, Od, es, _, h1, rfl, h8, fun b hb => ⟨by simp [hb], fun e => by subst e; simp [hb] at hnd⟩, ⟨by simp [hnd], fun b hb => hlt b (by simp [hb])⟩, fun H' x hu hs => ?_⟩
  have kk : ∀ b, b ∈ pi :: (Om ++ (Ot ++ (Os ++ (Og ++ (Oe ++ Od))))) → b ∉ Od → H'.blk b = H.blk b := fun b hb hn => hu.eq b (hlt b hb) hn
  have nn : (∀ b, b ∈ Om → b ∉ Od) ∧ (∀ b, b ∈ Ot → b ∉ Od) ∧ (∀ b, b ∈ Os → b ∉ Od) ∧ (∀ b, b ∈ Og → b ∉ Od) ∧ (∀ b, b ∈ Oe → b ∉ Od) ∧ pi ∉ Od := by
    refine ⟨?_, ?_, ?_, ?_, ?_, ?_⟩ <;> grind
  obtain ⟨nm, nt, ns, ng, ne, npi⟩ := nn
  refine ⟨⟨ty, fu, ta, me, gl, ex, el, co, da, bl, vm, vt, vg, ve, vd, es, tl, ct, Om, Ot, Os, Og, Oe, Od, by rw [kk pi (by simp) npi]; exact h1, h2, h3.keep fun b hb => kk b (by simp [hb]) (nm b hb), h4.keep fun b hb => kk b (by simp [hb]) (nt b hb), h5.keep fun b hb => kk b (by simp [hb]) (ns b hb), h6.keep fun b hb => kk b (by simp [hb]) (ng b hb), h7.keep fun b hb => kk b (by simp [hb]) (ne b hb), hs, rfl⟩, ho.up hu.le, hf.up (hu.mono fun b hb => by simp [hb]) fun b hb => .inl hb⟩

end Ck
