/-
Calls without a bound: what some bound yields. And code with what comes behind it.
-/
import Derived.Test.YtgopfpmkbdhnnaaGreatDoorCkDraw3
import Derived.RowKit3
import Derived.ProofKit
set_option linter.unusedSimpArgs false
set_option linter.unusedVariables false
namespace Ck
open Go

theorem runItems_sub {O O' : Oracle} (hO : ∀ f a H r, O f a H = some r → O' f a H = some r) : ∀ (l : List Item) (e : Env) (H : Heap) (r : Env × Heap), runItems O l e H = some r → runItems O' l e H = some r := by
  intro l
  induction l with
  | nil => intro e H r h; exact h
  | cons i l ih =>
    intro e H r h
    cases i with
    | op o =>
      rw [runItems_op] at h ⊢
      simp only [Option.bind_eq_some_iff] at h ⊢
      obtain ⟨v, hv, h⟩ := h
      refine ⟨v, ?_, ih _ _ _ h⟩
      unfold evOp at hv ⊢
      cases hk : o.k with
      | e k =>
        simp only [hk] at hv ⊢
        have hE : ∀ x, evE O k e H = some x → evE O' k e H = some x := by
          intro x hx
          cases k with
          | call f args => exact hO _ _ _ _ hx
          | dyn f args =>
            simp only [evE, dynV] at hx ⊢
            split at hx
            · exact hO _ _ _ _ hx
            · simp at hx
          | _ => exact hx
        unfold guardH at hv ⊢
        split at hv
        · exact hE _ hv
        · split at hv
          · rename_i hb; rw [if_pos hb]; exact hE _ hv
          · rename_i hb; rw [if_neg hb]; exact hv
        · exact hv
        · simp at hv
      | _ => simpa only [hk] using hv
    | chk o v =>
      unfold runItems at h ⊢
      cases hk : o.k with
      | r k =>
        simp only [hk] at h ⊢
        unfold again at h ⊢
        split at h
        · rename_i hu
          rw [if_pos hu]
          exact ih _ _ _ h
        · simp at h
      | _ => simp [hk] at h

theorem exec_sub {O O' : Oracle} (hO : ∀ f a H r, O f a H = some r → O' f a H = some r) {L L' : Cd → Cd} (hL : ∀ a b, Sub a b → Sub (L a) (L' b)) : ∀ c : AC, Sub (exec O L c) (exec O' L' c) := by
  intro c
  induction c with
  | skip => exact fun e H r h => h
  | ops l outs =>
    intro e H r h
    simp only [exec, opsC, Option.map_eq_some_iff] at h ⊢
    obtain ⟨x, hx, h⟩ := h
    exact ⟨x, runItems_sub hO _ _ _ _ hx, h⟩
  | seq a b iha ihb => exact fun e H r h => andThen_sub (fun r hr => iha _ _ _ hr) ihb r h
  | cond x a b iha ihb =>
    intro e H r h
    simp only [exec, condC] at h ⊢
    unfold ifV at h ⊢
    split at h
    · exact iha _ _ _ h
    · exact ihb _ _ _ h
    · simp at h
  | block id a iha =>
    intro e H r h
    simp only [blockC, exec] at h ⊢
    cases hx : exec O L a e H with
    | none => rw [hx] at h; simp [leave] at h
    | some q => rw [iha _ _ _ hx]; rw [hx] at h; exact h
  | loop a iha => exact hL _ _ iha
  | exit id => exact fun e H r h => h
  | ret => exact fun e H r h => h

theorem callN_mono {tbl : FuncId → Option AF} : ∀ n m, n ≤ m → ∀ f args H r, callN tbl n f args H = some r → callN tbl m f args H = some r := by
  intro n
  induction n with
  | zero => intro m _ f args H r h; simp [callN] at h
  | succ n ih =>
    intro m hm f args H r h
    obtain ⟨m, rfl⟩ : ∃ k, m = k + 1 := ⟨m - 1, by omega⟩
    simp only [callN, Option.bind_eq_some_iff] at h ⊢
    obtain ⟨F, hF, h⟩ := h
    exact ⟨F, hF, ends_sub (fun r hr => exec_sub (ih m (by omega)) (fun a b hab => iter_sub hab n m (by omega)) F.body _ _ _ hr) r h⟩

open Classical in
/-- What some bound yields. -/
noncomputable def lim {α : Type} (f : Nat → Option α) : Option α := if h : ∃ n r, f n = some r then f h.choose else none

theorem lim_some {α : Type} {f : Nat → Option α} (hm : ∀ n m, n ≤ m → ∀ r, f n = some r → f m = some r) {r : α} : lim f = some r ↔ ∃ n, f n = some r := by
  constructor
  · intro h
    unfold lim at h
    split at h
    · exact ⟨_, h⟩
    · simp at h
  · rintro ⟨n, hn⟩
    have hex : ∃ n r, f n = some r := ⟨n, r, hn⟩
    unfold lim
    rw [dif_pos hex]
    obtain ⟨r', hr'⟩ := hex.choose_spec
    rw [hr']
    have h1 := hm n (max n hex.choose) (Nat.le_max_left _ _) r hn
    have h2 := hm hex.choose (max n hex.choose) (Nat.le_max_right _ _) r' hr'
    rw [h1] at h2
    exact h2.symm

/-- A call; a loop, which ends by leaving alone. -/
noncomputable def call (tbl : FuncId → Option AF) : Oracle := fun f args H => lim fun n => callN tbl n f args H
noncomputable def loopL (a : Cd) : Cd := fun e H => lim fun n => iter n a e H

theorem call_some {tbl : FuncId → Option AF} {f : FuncId} {args : List Value} {H : Heap} {r : Value × Heap} : call tbl f args H = some r ↔ ∃ n, callN tbl n f args H = some r :=
  lim_some fun n m hnm r hr => callN_mono n m hnm f args H r hr

theorem Sub.refl (a : Cd) : Sub a a := fun _ _ _ h => h

theorem loopL_some {a : Cd} {e : Env} {H : Heap} {r : Ex × Env × Heap} : loopL a e H = some r ↔ ∃ n, iter n a e H = some r :=
  lim_some fun n m hnm r hr => iter_sub (Sub.refl a) n m hnm e H r hr

theorem call_of_K {tbl : FuncId → Option AF} {n : Nat} {f : FuncId} {args : List Value} {H : Heap} {r : Value × Heap} (h : callK tbl n f args H = some r) : call tbl f args H = some r :=
  call_some.2 ⟨n, callK_ok n f args H r h⟩

theorem loopL_sub {a b : Cd} (h : Sub a b) : Sub (loopL a) (loopL b) := by
  intro e H r hr
  obtain ⟨n, hn⟩ := loopL_some.1 hr
  exact loopL_some.2 ⟨n, iter_sub h n n (Nat.le_refl _) e H r hn⟩

theorem iter_le_loopL {a b : Cd} (h : Sub a b) (n : Nat) : Sub (iter n a) (loopL b) := fun e H r hr => loopL_some.2 ⟨n, iter_sub h n n (Nat.le_refl _) e H r hr⟩

/-- One round, and the loop again. -/
theorem loopL_eq (a : Cd) (e : Env) (H : Heap) : loopL a e H = andThen (a e H) (loopL a) := by
  cases h : loopL a e H with
  | some r =>
    obtain ⟨n, hn⟩ := loopL_some.1 h
    cases n with
    | zero => simp [iter] at hn
    | succ n => exact (andThen_sub (fun r hr => hr) (iter_le_loopL (Sub.refl a) n) r hn).symm
  | none =>
    cases h2 : andThen (a e H) (loopL a) with
    | none => rfl
    | some r =>
      exfalso
      have : ∃ n, iter n a e H = some r := by
        cases hx : a e H with
        | none => rw [hx] at h2; simp [andThen] at h2
        | some q =>
          obtain ⟨x, e1, H1⟩ := q
          rw [hx] at h2
          cases x with
          | normal =>
            obtain ⟨n, hn⟩ := loopL_some.1 h2
            exact ⟨n + 1, by simp only [iter, hx, andThen]; exact hn⟩
          | exit j => exact ⟨1, by simp only [iter, hx]; exact h2⟩
          | ret => exact ⟨1, by simp only [iter, hx]; exact h2⟩
      rw [loopL_some.2 this] at h
      simp at h

/-- A loop does not end by its end. -/
theorem loopL_ne {a : Cd} {e e1 : Env} {H H1 : Heap} : loopL a e H ≠ some (.normal, e1, H1) := by
  intro h
  obtain ⟨n, hn⟩ := loopL_some.1 h
  have : ∀ n e H, iter n a e H ≠ some (.normal, e1, H1) := by
    intro n
    induction n with
    | zero => intro e H h; simp [iter] at h
    | succ n ih =>
      intro e H h
      simp only [iter] at h
      cases hx : a e H with
      | none => rw [hx] at h; simp [andThen] at h
      | some q =>
        obtain ⟨x, e2, H2⟩ := q
        rw [hx] at h
        cases x with
        | normal => exact ih _ _ h
        | exit j => simp [andThen] at h
        | ret => simp [andThen] at h
  exact this n e H hn

/-- Of a run without bounds some bound yields as much. -/
theorem exec_lim {tbl : FuncId → Option AF} : ∀ (c : AC) (e : Env) (H : Heap) (r : Ex × Env × Heap), exec (call tbl) loopL c e H = some r → ∃ n, exec (callN tbl n) (iter n) c e H = some r := by
  have up : ∀ (c : AC) (n m : Nat), n ≤ m → Sub (exec (callN tbl n) (iter n) c) (exec (callN tbl m) (iter m) c) := fun c n m hnm =>
    exec_sub (callN_mono n m hnm) (fun a b hab => iter_sub hab n m hnm) c
  have ops : ∀ (l : List Item) (e : Env) (H : Heap) (r : Env × Heap), runItems (call tbl) l e H = some r → ∃ n, runItems (callN tbl n) l e H = some r := by
    intro l
    induction l with
    | nil => intro e H r h; exact ⟨0, h⟩
    | cons i l ih =>
      intro e H r h
      cases i with
      | op o =>
        rw [runItems_op] at h
        simp only [Option.bind_eq_some_iff] at h
        obtain ⟨v, hv, h⟩ := h
        obtain ⟨n, hn⟩ := ih _ _ _ h
        have : ∃ m, evOp (callN tbl m) o e H = some v := by
          unfold evOp at hv ⊢
          cases hk : o.k with
          | e k =>
            simp only [hk] at hv ⊢
            have hE : ∀ x, evE (call tbl) k e H = some x → ∃ m, evE (callN tbl m) k e H = some x := by
              intro x hx
              cases k with
              | call f args => exact call_some.1 hx
              | dyn f args =>
                simp only [evE, dynV] at hx ⊢
                split at hx
                · obtain ⟨m, hm⟩ := call_some.1 hx
                  exact ⟨m, hm⟩
                · simp at hx
              | _ => exact ⟨0, hx⟩
            unfold guardH at hv ⊢
            split at hv
            · exact hE _ hv
            · split at hv
              · rename_i hb; simp only [if_pos hb]; exact hE _ hv
              · rename_i hb; simp only [if_neg hb]; exact ⟨0, hv⟩
            · exact ⟨0, hv⟩
            · simp at hv
          | _ => exact ⟨0, by simpa only [hk] using hv⟩
        obtain ⟨m, hm⟩ := this
        refine ⟨max n m, ?_⟩
        have h1 : runItems (callN tbl (max n m)) [.op o] e H = some (put e o.dst v.1, v.2) :=
          runItems_sub (callN_mono m (max n m) (Nat.le_max_right _ _)) [.op o] e H _ (by rw [runItems_op, hm]; rfl)
        rw [runItems_op] at h1 ⊢
        simp only [Option.bind_eq_some_iff] at h1 ⊢
        obtain ⟨v', hv', h1⟩ := h1
        simp only [runItems, Option.some.injEq, Prod.mk.injEq] at h1
        refine ⟨v', hv', ?_⟩
        rw [h1.1, h1.2]
        exact runItems_sub (callN_mono n (max n m) (Nat.le_max_left _ _)) l _ _ _ hn
      | chk o v =>
        unfold runItems at h ⊢
        cases hk : o.k with
        | r k =>
          simp only [hk] at h ⊢
          unfold again at h ⊢
          split at h
          · rename_i hu
            obtain ⟨n, hn⟩ := ih _ _ _ h
            exact ⟨n, by rw [if_pos hu]; exact hn⟩
          · simp at h
        | _ => simp [hk] at h
  intro c
  induction c with
  | skip => exact fun e H r h => ⟨0, h⟩
  | ops l outs =>
    intro e H r h
    simp only [exec, opsC, Option.map_eq_some_iff] at h ⊢
    obtain ⟨x, hx, h⟩ := h
    obtain ⟨n, hn⟩ := ops _ _ _ _ hx
    exact ⟨n, x, hn, h⟩
  | seq a b iha ihb =>
    intro e H r h
    simp only [exec, seqC] at h ⊢
    cases hx : exec (call tbl) loopL a e H with
    | none => rw [hx] at h; simp [andThen] at h
    | some q =>
      obtain ⟨x, e1, H1⟩ := q
      obtain ⟨n, hn⟩ := iha _ _ _ hx
      rw [hx] at h
      cases x with
      | normal =>
        obtain ⟨m, hm⟩ := ihb _ _ _ h
        refine ⟨max n m, ?_⟩
        rw [up a n (max n m) (Nat.le_max_left _ _) _ _ _ hn]
        exact up b m (max n m) (Nat.le_max_right _ _) _ _ _ hm
      | exit j => exact ⟨n, by rw [hn]; exact h⟩
      | ret => exact ⟨n, by rw [hn]; exact h⟩
  | cond x a b iha ihb =>
    intro e H r h
    simp only [exec, condC] at h ⊢
    unfold ifV at h ⊢
    split at h
    · exact iha _ _ _ h
    · exact ihb _ _ _ h
    · simp at h
  | block id a iha =>
    intro e H r h
    simp only [exec, blockC] at h ⊢
    cases hx : exec (call tbl) loopL a e H with
    | none => rw [hx] at h; simp [leave] at h
    | some q =>
      obtain ⟨n, hn⟩ := iha _ _ _ hx
      exact ⟨n, by rw [hn]; rw [hx] at h; exact h⟩
  | loop a iha =>
    intro e H r h
    simp only [exec] at h ⊢
    obtain ⟨k, hk⟩ := loopL_some.1 h
    have rounds : ∀ k e H, iter k (exec (call tbl) loopL a) e H = some r → ∃ n, iter n (exec (callN tbl n) (iter n) a) e H = some r := by
      intro k
      induction k with
      | zero => intro e H h; simp [iter] at h
      | succ k ihk =>
        intro e H h
        have hsucc : ∀ (N : Nat) (X : Cd), iter (N + 1) X e H = andThen (X e H) (iter N X) := fun _ _ => rfl
        rw [hsucc] at h
        cases hx : exec (call tbl) loopL a e H with
        | none => rw [hx] at h; simp [andThen] at h
        | some q =>
          obtain ⟨x, e1, H1⟩ := q
          obtain ⟨n, hn⟩ := iha _ _ _ hx
          rw [hx] at h
          cases x with
          | normal =>
            obtain ⟨m, hm⟩ := ihk _ _ h
            refine ⟨max n m + 1, ?_⟩
            rw [hsucc, up a n (max n m + 1) (by omega) _ _ _ hn]
            exact iter_sub (up a m (max n m + 1) (by omega)) m (max n m) (by omega) _ _ _ hm
          | exit j =>
            refine ⟨n + 1, ?_⟩
            rw [hsucc, up a n (n + 1) (by omega) _ _ _ hn]; exact h
          | ret =>
            refine ⟨n + 1, ?_⟩
            rw [hsucc, up a n (n + 1) (by omega) _ _ _ hn]; exact h
    exact rounds k e H hk
  | exit id => exact fun e H r h => ⟨0, h⟩
  | ret => exact fun e H r h => ⟨0, h⟩

/-- A call is its body's run. -/
theorem call_eq {tbl : FuncId → Option AF} {f : FuncId} {F : AF} (hF : tbl f = some F) (args : List Value) (H : Heap) :
    call tbl f args H = endsV F.res (exec (call tbl) loopL F.body (env0 args) H) := by
  cases h : endsV F.res (exec (call tbl) loopL F.body (env0 args) H) with
  | some r =>
    cases hx : exec (call tbl) loopL F.body (env0 args) H with
    | none => rw [hx] at h; simp [endsV] at h
    | some q =>
      obtain ⟨n, hn⟩ := exec_lim _ _ _ _ hx
      refine call_some.2 ⟨n + 1, ?_⟩
      simp only [callN, hF, Option.bind_some]
      rw [hn]
      rw [hx] at h
      exact h
  | none =>
    cases h2 : call tbl f args H with
    | none => rfl
    | some r =>
      exfalso
      obtain ⟨n, hn⟩ := call_some.1 h2
      cases n with
      | zero => simp [callN] at hn
      | succ n =>
        simp only [callN, hF, Option.bind_some] at hn
        have := ends_sub (fun r hr => exec_sub (O' := call tbl) (L' := loopL) (fun f a H r hr => call_some.2 ⟨n, hr⟩) (fun a b hab => iter_le_loopL hab n) F.body _ _ _ hr) r hn
        rw [h] at this
        simp at this

/-! ### Code with what comes behind it -/

def bindL {β : Type} (y : Out) (kx : Nat → Env → Heap → Option β) (kr : Env → Heap → Option β) : Option β :=
  match y with
  | some (.exit j, e, H) => kx j e H
  | some (.ret, e, H) => kr e H
  | _ => none

def ifK {β : Type} (c : Value) (x y : Option β) : Option β :=
  match c with
  | .bool true => x
  | .bool false => y
  | _ => none

noncomputable def runC {β : Type} (O : Oracle) : List Item → Env → Heap → (Env → Heap → Option β) → Option β
  | [], e, H, k => k e H
  | .op o :: r, e, H, k =>
    match o.k with
    | .p q => (guardV (o.gv e) (evP q e)).bind fun v => runC O r (put e o.dst v) H k
    | .r q => (guardV (o.gv e) (evR q e H)).bind fun v => runC O r (put e o.dst v) H k
    | .n q => (guardH (o.gv e) (evN q e H) H).bind fun x => runC O r (put e o.dst x.1) x.2 k
    | .e q => (guardH (o.gv e) (evE O q e H) H).bind fun x => runC O r (put e o.dst x.1) x.2 k
    | .bad => none
  | .chk o v :: r, e, H, k =>
    match o.k with
    | .r q => again (guardV (o.gv e) (evR q e H)) (e v) (runC O r e H k)
    | _ => none

theorem runC_eq {β : Type} {O : Oracle} : ∀ (l : List Item) (e : Env) (H : Heap) (k : Env → Heap → Option β), runC O l e H k = (runItems O l e H).bind fun x => k x.1 x.2 := by
  intro l
  induction l with
  | nil => intro e H k; rfl
  | cons i l ih =>
    intro e H k
    cases i with
    | op o =>
      unfold runC runItems
      cases o.k <;> simp only [ih, Option.bind_assoc] <;> rfl
    | chk o v =>
      unfold runC runItems
      cases o.k <;> simp only <;> try rfl
      unfold again
      split
      · exact ih _ _ _
      · rfl

noncomputable def execC (O : Oracle) : AC → {β : Type} → Env → Heap → (Ex → Env → Heap → Option β) → Option β
  | .skip, _, e, H, k => k .normal e H
  | .ops l outs, _, e, H, k => runC O l e H fun e1 H1 => k .normal (outE outs e e1) H1
  | .seq a b, _, e, H, k => execC O a e H fun x e1 H1 => match x with
    | .normal => execC O b e1 H1 k
    | y => k y e1 H1
  | .cond c a b, _, e, H, k => ifK (opd e c) (execC O a e H k) (execC O b e H k)
  | .block id a, _, e, H, k => execC O a e H fun x e1 H1 => match x with
    | .exit j => if j = id then k .normal e1 H1 else k (.exit j) e1 H1
    | y => k y e1 H1
  | .loop a, _, e, H, k => bindL (loopL (fun e H => execC O a e H fun x e1 H1 => some (x, e1, H1)) e H) (fun j => k (.exit j)) (k .ret)
  | .exit id, _, e, H, k => k (.exit id) e H
  | .ret, _, e, H, k => k .ret e H

theorem execC_eq {O : Oracle} : ∀ (c : AC) {β : Type} (e : Env) (H : Heap) (k : Ex → Env → Heap → Option β), execC O c e H k = (exec O loopL c e H).bind fun x => k x.1 x.2.1 x.2.2 := by
  intro c
  induction c with
  | skip => intro β e H k; rfl
  | ops l outs =>
    intro β e H k
    simp only [execC, exec, opsC, runC_eq]
    cases runItems O l e H <;> rfl
  | seq a b iha ihb =>
    intro β e H k
    simp only [execC, exec, seqC, iha]
    cases exec O loopL a e H with
    | none => rfl
    | some q =>
      obtain ⟨x, e1, H1⟩ := q
      cases x with
      | normal => simp only [Option.bind_some, andThen]; exact ihb _ _ _
      | _ => rfl
  | cond c a b iha ihb =>
    intro β e H k
    simp only [execC, exec, condC, iha, ihb]
    generalize opd e c = v
    cases v with
    | bool t => cases t <;> rfl
    | _ => rfl
  | block id a iha =>
    intro β e H k
    simp only [execC, exec, blockC, iha]
    cases exec O loopL a e H with
    | none => rfl
    | some q =>
      obtain ⟨x, e1, H1⟩ := q
      cases x with
      | exit j =>
        simp only [Option.bind_some, leave]
        split <;> rfl
      | _ => rfl
  | loop a iha =>
    intro β e H k
    have hb : (fun (e : Env) (H : Heap) => execC O a e H fun x e1 H1 => some (x, e1, H1)) = exec O loopL a := by
      funext e H
      rw [iha]
      cases exec O loopL a e H <;> rfl
    simp only [execC, exec, hb]
    cases h : loopL (exec O loopL a) e H with
    | none => rfl
    | some q =>
      obtain ⟨x, e1, H1⟩ := q
      cases x with
      | normal => exact absurd h loopL_ne
      | _ => rfl
  | exit id => intro β e H k; rfl
  | ret => intro β e H k; rfl

def retK (res : List Res) (x : Ex) (e : Env) (H : Heap) : Option (Value × Heap) :=
  match x with
  | .exit _ => none
  | _ => (resV e H res).map fun l => (pack l, H)

theorem call_eqC {tbl : FuncId → Option AF} {f : FuncId} {F : AF} (hF : tbl f = some F) (args : List Value) (H : Heap) :
    call tbl f args H = execC (call tbl) F.body (env0 args) H (retK F.res) := by
  rw [call_eq hF, execC_eq]
  cases exec (call tbl) loopL F.body (env0 args) H with
  | none => rfl
  | some q =>
    obtain ⟨x, e1, H1⟩ := q
    cases x <;> rfl

end Ck

/-
From the machine's answer to the row's post.
-/
set_option linter.unusedSimpArgs false
set_option linter.unusedVariables false
namespace Ck
open Go Go.RowKit Go.ChangeShapes Go.WideShapes Go.ChangeAt

theorem Rel.kept {ng : Nat} {W w' : World} {ψ : Inj} {H : Heap} (h : Rel ng W ψ H w') (may : MemPlace → Prop) : W.keptBut w' may := by
  refine ⟨h.os, h.output, fun i hi => ?_⟩
  rw [h.old i hi]
  cases hx : W.heap[i]? with
  | none => rfl
  | some o => cases o <;> simp

/-- What a call leaves when the machine says true. -/
theorem call_true {P : Program} {W : World} {φ : Inj} {H H' : Heap} {hints : FuncId → Option Hint} {f : FuncId} {args cargs : List Value} (hmix : P.follows .mixedOrders = true)
    (hR : Rel P.globals.size W φ H W) (hl : LRel φ args cargs) (h : call (tblOf P hints) f args H = some (.bool true, H')) :
    Calls P f cargs.toArray W fun e w' => e = .returned (.bool true) ∧ ∃ ψ, Rel P.globals.size W ψ H' w' := by
  obtain ⟨n, hn⟩ := call_some.1 h
  refine ((call_ok (hints := hints) (w0 := W) rfl hmix n f args H _ _ hn).2 φ W cargs hR hl).mono ?_
  rintro e w' ⟨c, ψ, rfl, _, hv, hR', _⟩
  cases hv
  exact ⟨rfl, ψ, hR'⟩

end Ck

namespace Ck
open Go Go.RowKit Go.ChangeShapes Go.WideShapes Go.ChangeAt
variable {H : Type} {enc : TypeId × Value → H} {P : Program}

/-- The row's post, where what stood before stands as it stood; new memory may be anything. -/
theorem post_of_old {f : Func} {s : ChangeSpec} {apart fresh handsOn again : Bool} {W W' : World} {args : Array Value} {v : Value} {ds gs : List (DataW H)} {before pa pv : List MemPlace}
    (hW : DataW.Whole enc P f.params.toList s.vars apart W args.toList ds gs before)
    (hres : ∀ (b : Nat) (sp : Nat → Bool) (hd : Bool), DataW.TrodAll enc P W' b sp hd f.resultTypes.toList (v.resultList f.resultTypes.size) (s.fn H (ds ++ gs)).results [])
    (hargs : ∀ sp : Nat → Bool, (∀ p ∈ before, sp p.block = true) → DataW.TrodAll enc P W' 0 sp true f.params.toList args.toList (s.fn H (ds ++ gs)).args pa)
    (hvars : ∀ sp : Nat → Bool, (∀ p ∈ before, sp p.block = true) → DataW.TrodVars enc P W' sp s.vars (s.fn H (ds ++ gs)).vars pv)
    (hps : before = pa ++ pv) (hk : W.keptBut W' (· ∈ before)) (hfz : ∀ a : Addr, a.block < W.heap.size → W'.frozen? a = W.frozen? a)
    (hok : ∀ (j : Nat) (t : TypeId) (r : Value), f.resultTypes[j]? = some t → (v.resultList f.resultTypes.size)[j]? = some r → Value.okWide P W' .any 0 t r) :
    s.post enc P f apart fresh handsOn again W args v W' := by
  have hlt := hW.lt
  have hold : ∀ p ∈ before, (fun b => decide (b < W.heap.size)) p.block = true := fun p hp => by simpa using hlt p hp
  refine ⟨ds, gs, before, [], pa, pv, hW, hres _ _ _, hargs _ hold, hvars _ hold, World.keptBut_mono (fun p hp => ⟨hp, .inr (by rw [hps, List.mem_append] at hp; exact hp)⟩) hk, fun _ => ?_⟩
  obtain ⟨_, _, _, _, _, hz, hn⟩ := hW
  refine ⟨hok, _, _, pa ++ pv, ⟨pa, pv, by simpa using trodAll_append (hargs _ (fun _ _ => rfl)) (hres 0 (fun _ => true) true), hvars _ (fun _ _ => rfl), rfl, ?_, ?_⟩, fun p hp _ => by rw [hps]; exact hp⟩
  · intro b off hp
    have hm : MemPlace.cell b off ∈ before := by rw [hps]; exact hp
    rw [hfz _ (hlt _ hm)]
    exact hz b off hm
  · intro ha
    rw [← hps]
    exact hn ha

theorem Rel.frozenOld {ng : Nat} {W w' : World} {ψ : Inj} {K : Heap} (h : Rel ng W ψ K w') (a : Addr) (ha : a.block < W.heap.size) : w'.frozen? a = W.frozen? a := by
  unfold World.frozen?
  rw [h.old _ ha]
end Ck

/-
The first relation: globals, and arguments that are rows of integers.
-/
set_option linter.unusedSimpArgs false
set_option linter.unusedVariables false
namespace Ck
open Go

def plainInt : Value → Bool
  | .int _ _ => true
  | .bool _ => true
  | _ => false

/-- A row of the world's, read alone: which block, from where, what stands there. -/
structure InRow where
  cb : Nat
  lo : Nat
  cs : List Value

/-- It stands there. -/
def InRow.ok (W : World) (r : InRow) : Prop :=
  ∃ c t fr, W.heap[r.cb]? = some (.cells c t fr) ∧ r.lo + r.cs.length ≤ c.size ∧ (∀ k, k < r.cs.length → c[r.lo + k]? = r.cs[k]?) ∧ r.cs.all plainInt = true

def inj0 (ng : Nat) (rows : List InRow) : Inj := fun b =>
  if b < ng then some ⟨b, 0, 0, 1⟩ else (rows[b - ng]?).map fun r => ⟨r.cb, r.lo, r.lo + r.cs.length, 1⟩
def heap0 (ng : Nat) (rows : List InRow) : Heap := ⟨ng + rows.length, fun b => if b < ng then none else (rows[b - ng]?).map fun r => .cells 1 true r.cs⟩

theorem plain_rel {φ : Inj} : ∀ {l : List Value}, l.all plainInt = true → LRel φ l l
  | [], _ => .nil
  | v :: l, h => by
    simp only [List.all_cons, Bool.and_eq_true] at h
    refine .cons ?_ (plain_rel h.2)
    cases v <;> first | exact .int _ _ | exact .bool _ | (simp [plainInt] at h)

theorem plain_flat {l : List Value} (h : l.all plainInt = true) : l.all flat = true := by
  rw [List.all_eq_true] at h ⊢
  intro v hv
  have := h v hv
  cases v <;> first | rfl | (simp [plainInt] at this)

theorem rel0 {ng : Nat} {W : World} {rows : List InRow} (h : ∀ r ∈ rows, r.ok W) : Rel ng W (inj0 ng rows) (heap0 ng rows) W := by
  refine ⟨?_, ?_, ?_, ?_, ?_, ?_, fun _ _ => rfl, Nat.le_refl _, rfl, rfl⟩
  · intro b i hb
    unfold inj0 at hb
    simp only [heap0]
    split at hb
    · omega
    · simp only [Option.map_eq_some_iff] at hb
      obtain ⟨r, hr, _⟩ := hb
      have := (List.getElem?_eq_some_iff.1 hr).1
      omega
  · intro b x hb
    simp only [heap0] at hb ⊢
    split at hb
    · simp at hb
    · simp only [Option.map_eq_some_iff] at hb
      obtain ⟨r, hr, _⟩ := hb
      have := (List.getElem?_eq_some_iff.1 hr).1
      omega
  · intro b x i hb hi
    simp only [heap0] at hb
    unfold inj0 at hi
    split at hb
    · simp at hb
    · rename_i hlt
      rw [if_neg hlt] at hi
      simp only [Option.map_eq_some_iff] at hb hi
      obtain ⟨r, hr, rfl⟩ := hb
      obtain ⟨r', hr', rfl⟩ := hi
      rw [hr] at hr'
      simp only [Option.some.injEq] at hr'
      subst hr'
      obtain ⟨c, t, fr, h1, h2, h3, h4⟩ := h r (List.mem_of_getElem? hr)
      refine ⟨_, h1, ?_⟩
      unfold BRel
      refine ⟨rfl, Nat.le_refl _, h2, ?_, plain_flat h4, fun hh => by simp at hh⟩
      have : (c.toList.drop r.lo).take r.cs.length = r.cs := by
        refine List.ext_getElem? fun k => ?_
        rw [List.getElem?_take]
        split
        · rename_i hk
          rw [List.getElem?_drop, ← h3 k hk]
          simp
        · rename_i hk
          rw [List.getElem?_eq_none (by omega)]
      rw [this]
      exact plain_rel h4
  · intro b b' x x' i i' _ hb _ _ _ hw
    simp only [heap0] at hb
    split at hb
    · simp at hb
    · simp only [Option.map_eq_some_iff] at hb
      obtain ⟨r, _, rfl⟩ := hb
      simp [wr] at hw
  · intro g hg
    exact ⟨⟨g, 0, 0, 1⟩, by simp [inj0, hg], rfl, rfl⟩
  · simp [heap0]

end Ck

/-
The first relation: globals that hold known rows, and arguments that are rows of integers.
-/
set_option linter.unusedSimpArgs false
set_option linter.unusedVariables false
namespace Ck
open Go

def injR (rows : List InRow) : Inj := fun b => (rows[b]?).map fun r => ⟨r.cb, r.lo, r.lo + r.cs.length, 1⟩
def heapR (rows : List InRow) : Heap := ⟨rows.length, fun b => (rows[b]?).map fun r => .cells 1 true r.cs⟩

theorem relR {ng : Nat} {W : World} {rows : List InRow} (h : ∀ r ∈ rows, r.ok W) (hg : ∀ g, g < ng → ∃ r, rows[g]? = some r ∧ r.cb = g ∧ r.lo = 0) (hn : ng ≤ rows.length) : Rel ng W (injR rows) (heapR rows) W := by
  refine ⟨?_, ?_, ?_, ?_, ?_, hn, fun _ _ => rfl, Nat.le_refl _, rfl, rfl⟩
  · intro b i hb
    simp only [injR, Option.map_eq_some_iff] at hb
    obtain ⟨r, hr, _⟩ := hb
    exact (List.getElem?_eq_some_iff.1 hr).1
  · intro b x hb
    simp only [heapR, Option.map_eq_some_iff] at hb
    obtain ⟨r, hr, _⟩ := hb
    exact (List.getElem?_eq_some_iff.1 hr).1
  · intro b x i hb hi
    simp only [heapR, Option.map_eq_some_iff] at hb
    simp only [injR, Option.map_eq_some_iff] at hi
    obtain ⟨r, hr, rfl⟩ := hb
    obtain ⟨r', hr', rfl⟩ := hi
    rw [hr] at hr'
    simp only [Option.some.injEq] at hr'
    subst hr'
    obtain ⟨c, t, fr, h1, h2, h3, h4⟩ := h r (List.mem_of_getElem? hr)
    refine ⟨_, h1, ?_⟩
    unfold BRel
    refine ⟨rfl, Nat.le_refl _, h2, ?_, plain_flat h4, fun hh => by simp at hh⟩
    have : (c.toList.drop r.lo).take r.cs.length = r.cs := by
      refine List.ext_getElem? fun k => ?_
      rw [List.getElem?_take]
      split
      · rename_i hk
        rw [List.getElem?_drop, ← h3 k hk]
        simp
      · rename_i hk
        rw [List.getElem?_eq_none (by omega)]
    rw [this]
    exact plain_rel h4
  · intro b b' x x' i i' _ hb _ _ _ hw
    simp only [heapR, Option.map_eq_some_iff] at hb
    obtain ⟨r, _, rfl⟩ := hb
    simp [wr] at hw
  · intro g hg'
    obtain ⟨r, h1, h2, h3⟩ := hg g hg'
    exact ⟨⟨r.cb, r.lo, r.lo + r.cs.length, 1⟩, by simp [injR, h1], h2, h3⟩

theorem within_heapR (rows : List InRow) : Within (heapR rows) := fun b x hb => by
  simp only [heapR, Option.map_eq_some_iff] at hb
  obtain ⟨r, hr, _⟩ := hb
  exact (List.getElem?_eq_some_iff.1 hr).1

end Ck
