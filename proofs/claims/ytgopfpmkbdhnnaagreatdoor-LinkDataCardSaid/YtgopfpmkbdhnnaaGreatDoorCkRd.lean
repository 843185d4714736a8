/-
A module, read out of memory by reckoning.
-/
import Derived.Test.YtgopfpmkbdhnnaaGreatDoorCkLink
set_option linter.unusedSimpArgs false
set_option linter.unusedVariables false
namespace Ck
open Go

/-- How many elements, their cells. -/
def rdRow (h : BF) (e : Nat) : Value → Option (Nat × List Value)
  | .slice none n c => if n = 0 ∧ c = 0 then some (0, []) else none
  | .slice (some ⟨b, o, none⟩) n _ => match h b with
    | some (.cells e' _ cs) => if e' = e ∧ o + n * e ≤ cs.length then some (n, (cs.drop o).take (n * e)) else none
    | _ => none
  | _ => none

theorem rdRow_ok {h : BF} {e n : Nat} {v : Value} {cs : List Value} (hr : rdRow h e v = some (n, cs)) : Row h e v n cs := by
  unfold rdRow at hr
  split at hr
  · split at hr
    · rename_i hn
      simp only [Option.some.injEq, Prod.mk.injEq] at hr
      obtain ⟨rfl, rfl⟩ := hr
      obtain ⟨rfl, rfl⟩ := hn
      exact ⟨by simp, .inl ⟨rfl, rfl⟩⟩
    · simp at hr
  · split at hr
    · rename_i b o n' c _ e' ro full hb
      split at hr
      · rename_i hc
        simp only [Option.some.injEq, Prod.mk.injEq] at hr
        obtain ⟨rfl, rfl⟩ := hr
        obtain ⟨rfl, hc⟩ := hc
        exact ⟨by simp; omega, .inr ⟨b, o, c, ro, full, rfl, hb, hc, rfl⟩⟩
      · simp at hr
    · simp at hr
  · simp at hr

def rdParts {α : Type} (e : Nat) (R : List Value → Option α) : Nat → List Value → Option (List α)
  | 0, [] => some []
  | 0, _ :: _ => none
  | n + 1, cs => if e ≤ cs.length then (R (cs.take e)).bind fun x => (rdParts e R n (cs.drop e)).map fun xs => x :: xs else none

theorem rdParts_ok {α : Type} {e : Nat} {R : List Value → Option α} {S : List Value → α → Prop} (hR : ∀ c x, R c = some x → S c x) : ∀ (n : Nat) (cs : List Value) (xs : List α), rdParts e R n cs = some xs → xs.length = n ∧ Parts e S cs xs
  | 0, [], xs, h => by simp only [rdParts, Option.some.injEq] at h; subst h; exact ⟨rfl, rfl⟩
  | 0, _ :: _, xs, h => by simp [rdParts] at h
  | n + 1, cs, xs, h => by
    simp only [rdParts] at h
    split at h
    · rename_i hl
      simp only [Option.bind_eq_some_iff, Option.map_eq_some_iff] at h
      obtain ⟨x, hx, ys, hy, rfl⟩ := h
      obtain ⟨h1, h2⟩ := rdParts_ok hR n _ _ hy
      exact ⟨by simp [h1], hR _ _ hx, hl, h2⟩
    · simp at h

def rdL {α : Type} (h : BF) (e : Nat) (R : List Value → Option α) (v : Value) : Option (List α) := (rdRow h e v).bind fun x => rdParts e R x.1 x.2

theorem rdL_ok {α : Type} {h : BF} {e : Nat} {R : List Value → Option α} {S : List Value → α → Prop} (hR : ∀ c x, R c = some x → S c x) {v : Value} {xs : List α} (hv : rdL h e R v = some xs) : RL h e S v xs := by
  simp only [rdL, Option.bind_eq_some_iff] at hv
  obtain ⟨⟨n, cs⟩, h1, h2⟩ := hv
  obtain ⟨rfl, h3⟩ := rdParts_ok hR _ _ _ h2
  exact ⟨cs, rdRow_ok h1, h3⟩

def rdInt (k : IntKind) : List Value → Option Int
  | [.int k' n] => if k' = k then some n else none
  | _ => none

theorem rdInt_ok {k : IntKind} {c : List Value} {n : Int} (h : rdInt k c = some n) : c = [.int k n] := by
  unfold rdInt at h
  split at h
  · split at h
    · rename_i hk
      simp only [Option.some.injEq] at h
      subst hk; subst h; rfl
    · simp at h
  · simp at h

def rdA (k : IntKind) (h : BF) (v : Value) : Option (List Int) := rdL h 1 (rdInt k) v

theorem parts_map {k : IntKind} : ∀ {xs : List Int} {cs : List Value}, Parts 1 (fun c n => c = [Value.int k n]) cs xs → cs = xs.map (Value.int k)
  | [], cs, h => h
  | x :: xs, cs, ⟨h1, h2, h3⟩ => by
    have := parts_map h3
    rw [List.map_cons, ← this]
    have e : cs = cs.take 1 ++ cs.drop 1 := (List.take_append_drop 1 cs).symm
    rw [h1] at e
    exact e

theorem rdA_ok {k : IntKind} {h : BF} {v : Value} {xs : List Int} (hv : rdA k h v = some xs) : RA (Value.int k) h v xs := by
  obtain ⟨cs, h1, h2⟩ := rdL_ok (S := fun c n => c = [Value.int k n]) (fun c x => rdInt_ok) hv
  have := parts_map h2
  subst this
  exact h1

def rdIns (h : BF) : List Value → Option Ins
  | [.int .i64 op, .int .u32 a, .int .u32 b, .int .u64 n, l, .int .i64 t] => (rdA .u32 h l).map fun l => ⟨op, a, b, n, l, t⟩
  | _ => none
theorem rdIns_ok {h : BF} (c : List Value) (x : Ins) (hc : rdIns h c = some x) : RIns h c x := by
  unfold rdIns at hc
  split at hc
  · simp only [Option.map_eq_some_iff] at hc
    obtain ⟨l, h1, rfl⟩ := hc
    exact ⟨_, rfl, rdA_ok h1⟩
  · simp at hc
def rdBody (h : BF) (v : Value) : Option (List Ins) := rdL h 6 (rdIns h) v
theorem rdBody_ok {h : BF} {v : Value} {l : List Ins} (hv : rdBody h v = some l) : RBody h v l := rdL_ok rdIns_ok hv

def rdFT (h : BF) : List Value → Option FT
  | [p, r] => (rdA .u8 h p).bind fun p => (rdA .u8 h r).map fun r => ⟨p, r⟩
  | _ => none
theorem rdFT_ok {h : BF} (c : List Value) (x : FT) (hc : rdFT h c = some x) : RFT h c x := by
  unfold rdFT at hc
  split at hc
  · simp only [Option.bind_eq_some_iff, Option.map_eq_some_iff] at hc
    obtain ⟨p, h1, r, h2, rfl⟩ := hc
    exact ⟨_, _, rfl, rdA_ok h1, rdA_ok h2⟩
  · simp at hc
def rdLim : List Value → Option Lim
  | [.int .u32 a, .int .u32 b, .bool c] => some ⟨a, b, c⟩
  | _ => none
theorem rdLim_ok (c : List Value) (x : Lim) (hc : rdLim c = some x) : RLim c x := by
  unfold rdLim at hc
  split at hc
  · simp only [Option.some.injEq] at hc; subst hc; rfl
  · simp at hc
def rdTab : List Value → Option Tab
  | [.int .u8 t, .int .u32 a, .int .u32 b, .bool c] => some ⟨t, a, b, c⟩
  | _ => none
theorem rdTab_ok (c : List Value) (x : Tab) (hc : rdTab c = some x) : RTab c x := by
  unfold rdTab at hc
  split at hc
  · simp only [Option.some.injEq] at hc; subst hc; rfl
  · simp at hc
def rdGlo (h : BF) : List Value → Option Glo
  | [.int .u8 t, .bool m, l] => (rdBody h l).map fun l => ⟨t, m, l⟩
  | _ => none
theorem rdGlo_ok {h : BF} (c : List Value) (x : Glo) (hc : rdGlo h c = some x) : RGlo h c x := by
  unfold rdGlo at hc
  split at hc
  · simp only [Option.map_eq_some_iff] at hc
    obtain ⟨l, h1, rfl⟩ := hc
    exact ⟨_, rfl, rdBody_ok h1⟩
  · simp at hc
def rdExp : List Value → Option Exp
  | [.string s, .int .u8 k, .int .u32 i] => some ⟨s, k, i⟩
  | _ => none
theorem rdExp_ok (c : List Value) (x : Exp) (hc : rdExp c = some x) : RExp c x := by
  unfold rdExp at hc
  split at hc
  · simp only [Option.some.injEq] at hc; subst hc; rfl
  · simp at hc
def rdBod1 (h : BF) : List Value → Option (List Ins)
  | [l] => rdBody h l
  | _ => none
theorem rdBod1_ok {h : BF} (c : List Value) (x : List Ins) (hc : rdBod1 h c = some x) : RBod1 h c x := by
  unfold rdBod1 at hc
  split at hc
  · exact ⟨_, rfl, rdBody_ok hc⟩
  · simp at hc
def rdEle (h : BF) : List Value → Option Ele
  | [.int .u8 m, .int .u8 t, .int .u32 b, o, i] => (rdBody h o).bind fun o => (rdL h 1 (rdBod1 h) i).map fun i => ⟨m, t, b, o, i⟩
  | _ => none
theorem rdEle_ok {h : BF} (c : List Value) (x : Ele) (hc : rdEle h c = some x) : REle h c x := by
  unfold rdEle at hc
  split at hc
  · simp only [Option.bind_eq_some_iff, Option.map_eq_some_iff] at hc
    obtain ⟨o, h1, i, h2, rfl⟩ := hc
    exact ⟨_, _, rfl, rdBody_ok h1, rdL_ok rdBod1_ok h2⟩
  · simp at hc
def rdDat (h : BF) : List Value → Option Dat
  | [.int .u8 m, o, b] => (rdBody h o).bind fun o => (rdA .u8 h b).map fun b => ⟨m, o, b⟩
  | _ => none
theorem rdDat_ok {h : BF} (c : List Value) (x : Dat) (hc : rdDat h c = some x) : RDat h c x := by
  unfold rdDat at hc
  split at hc
  · simp only [Option.bind_eq_some_iff, Option.map_eq_some_iff] at hc
    obtain ⟨o, h1, b, h2, rfl⟩ := hc
    exact ⟨_, _, rfl, rdBody_ok h1, rdA_ok h2⟩
  · simp at hc
def rdCod (h : BF) : List Value → Option Cod
  | [l, b] => (rdA .u8 h l).bind fun l => (rdBody h b).map fun b => ⟨l, b⟩
  | _ => none
theorem rdCod_ok {h : BF} (c : List Value) (x : Cod) (hc : rdCod h c = some x) : RCod h c x := by
  unfold rdCod at hc
  split at hc
  · simp only [Option.bind_eq_some_iff, Option.map_eq_some_iff] at hc
    obtain ⟨l, h1, b, h2, rfl⟩ := hc
    exact ⟨_, _, rfl, rdA_ok h1, rdBody_ok h2⟩
  · simp at hc

def rdMo (h : BF) : Value → Option Mo
  | .agg ⟨[ty, fu, ta, me, gl, ex, .bool s, .int .u32 sn, el, .bool c, .int .u32 cn, co, da]⟩ =>
    (rdL h 2 (rdFT h) ty).bind fun ty => (rdA .u32 h fu).bind fun fu => (rdL h 4 rdTab ta).bind fun ta => (rdL h 3 rdLim me).bind fun me => (rdL h 3 (rdGlo h) gl).bind fun gl => (rdL h 3 rdExp ex).bind fun ex =>
    (rdL h 5 (rdEle h) el).bind fun el => (rdL h 2 (rdCod h) co).bind fun co => (rdL h 3 (rdDat h) da).map fun da => ⟨ty, fu, ta, me, gl, ex, s, sn, el, c, cn, co, da⟩
  | _ => none

theorem rdMo_ok {h : BF} {v : Value} {m : Mo} (hv : rdMo h v = some m) : ∃ ty fu ta me gl ex el co da, v = .agg #[ty, fu, ta, me, gl, ex, .bool m.starts, u32 m.start, el, .bool m.counts, u32 m.count, co, da] ∧ RMo h ty fu ta me gl ex el co da m := by
  unfold rdMo at hv
  split at hv
  · simp only [Option.bind_eq_some_iff, Option.map_eq_some_iff] at hv
    obtain ⟨_, h1, _, h2, _, h3, _, h4, _, h5, _, h6, _, h7, _, h8, _, h9, rfl⟩ := hv
    exact ⟨_, _, _, _, _, _, _, _, _, rfl, rdL_ok rdFT_ok h1, rdA_ok h2, rdL_ok rdTab_ok h3, rdL_ok rdLim_ok h4, rdL_ok rdGlo_ok h5, rdL_ok rdExp_ok h6, rdL_ok rdEle_ok h7, rdL_ok rdCod_ok h8, rdL_ok rdDat_ok h9⟩
  · simp at hv

end Ck
