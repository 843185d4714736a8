/-
A region that draws its order: one operation done by the model.
-/
import Derived.Test.YtgopfpmkbdhnnaaGreatDoorCkSeq
import Derived.LoopN
import Derived.Test.YtgopfpmkbdhnnaaGreatDoorCkAbs
set_option linter.unusedSimpArgs false
set_option linter.unusedVariables false
namespace Ck
open Go

section
variable {P : Program} {O : Oracle} {ops : Array Oper} {bef : Array Nat} {ng : Nat} {w0 : World} {plan : List Nat} {e0 : Env} {kn0 : Nat} {H0 : Heap} {φ0 : Inj} {a0 : Act} {eF : Env} {HF : Heap}
variable {S : Nat → Prop} {m : Nat} {done pend : List Nat} {β : Nat → Nat} {A : Nat → Prop} {e : Env} {H : Heap} {φ : Inj} {a : Act} {w : World}

/-- What an operation looks at stands for what the model has there. -/
theorem Inv.looks_rel (hp : PlanOk P ops bef plan) (h : Inv P O ops bef plan ng w0 e0 kn0 H0 φ0 a0 eF HF S m done pend β A e H φ a w)
    {i : Nat} {o : Oper} {ei : Env} (hi : i ∈ plan) (ho : ops[i]? = some o) (hL : LooksOk plan ops e0 kn0 i o ei e) (hnS : ¬ S i) (hr : ∀ j, (bef.getD i 0).testBit j = true → S j) :
    ∀ t ∈ looks ops o, VRel φ (ei t) (a.tmps.getD t undef) := by
  intro t ht
  rcases hL t ht with ⟨p, q, h1, h2, h3, h4, h5⟩ | ⟨h1, h2, h3⟩
  · obtain ⟨a', b', ha', hb', _, _, _, _, hc⟩ := pairB_spec (hp.pair p i h1 hi h2)
    rw [h3] at ha'; rw [ho] at hb'
    simp only [Option.some.injEq] at ha' hb'
    subst ha'; subst hb'
    rw [h5]
    exact h.c1 p q t (hr p (hc (.inl ⟨t, h4, ht⟩))) h3 h4
  · rw [h2]
    refine h.c2 t h3 (fun j oj hj hoj hdj => ?_)
    have hjp := ((h.done_iff hp j).1 (h.sd j hj)).1
    rcases Nat.lt_trichotomy (ix plan j) (ix plan i) with hlt | heq | hgt
    · exact h1 j oj hjp hlt hoj hdj
    · exact hnS (ix_inj hjp hi heq ▸ hj)
    · obtain ⟨a', b', ha', hb', _, _, _, _, hc⟩ := pairB_spec (hp.pair i j hi hjp hgt)
      rw [ho] at ha'; rw [hoj] at hb'
      simp only [Option.some.injEq] at ha' hb'
      subst ha'; subst hb'
      exact hnS (h.closed j hj i (hc (.inr ⟨t, hdj, ht⟩)))

/-- One that waited is done. -/
theorem Inv.finish (hp : PlanOk P ops bef plan) (h : Inv P O ops bef plan ng w0 e0 kn0 H0 φ0 a0 eF HF S m done pend β A e H φ a w)
    {i : Nat} {o : Oper} {v c : Value} {ψ : Inj} {w' : World} (hi : i ∈ pend) (ho : ops[i]? = some o) (hev : ∀ t, o.dst = some t → e t = v) (hr : ∀ j, (bef.getD i 0).testBit j = true → S j)
    (hf : Fits ops a) (hle : Inj.le φ ψ) (hvc : VRel ψ v c) (hR : Rel ng w0 ψ H w') (hβ : ∀ j ∈ pend, j ≠ i → A j → φ (β j) = none → β j < H.next → ψ (β j) = none) (hk : Keep φ0 ψ H0 H) :
    Inv P O ops bef plan ng w0 e0 kn0 H0 φ0 a0 eF HF (fun j => S j ∨ j = i) m done (pend.filter (· ≠ i)) β A e H ψ (a.put o.dst c) w' := by
  have hid := (h.done_iff hp i).1 (h.pd i hi).1
  refine ⟨h.le, h.dn, h.runs, ?_, ?_, ?_, ?_, ?_, ?_, h.eold, ?_, ?_, hR, h.fle.trans hle, hk, by rw [put_defers]; exact h.dfs, by rw [put_size]; exact h.size, ?_⟩
  · intro j hj
    simp only [List.mem_filter, decide_eq_true_eq] at hj
    refine ⟨(h.pd j hj.1).1, ?_⟩
    rintro (hs | hs)
    · exact (h.pd j hj.1).2 hs
    · exact hj.2 hs
  · rintro j (hs | rfl)
    · exact h.sd j hs
    · exact (h.pd _ hi).1
  · intro j hj hjn
    by_cases hji : j = i
    · exact .inr hji
    · refine .inl (h.ds j hj fun hh => hjn ?_)
      simp [hh, hji]
  · intro j hj
    simp only [List.mem_filter, decide_eq_true_eq] at hj
    obtain ⟨oj, aj, ej, vj, p1, p2, p3, p4, p5⟩ := h.pok j hj.1
    refine ⟨oj, aj, ej, vj, p1, p2, p3, p4, ?_⟩
    rcases p5 with p5 | p5 | p5 | ⟨k, x, r1, r2, r3, r4, r5, r6, r7, r8⟩
    · exact .inl p5
    · exact .inr (.inl p5)
    · exact .inr (.inr (.inl p5))
    · exact .inr (.inr (.inr ⟨k, x, r1, r2, r3, r4, r5, r6, hβ j hj.1 hj.2 r1 r7 r6, r8⟩))
  · intro j hj k hk'
    simp only [List.mem_filter, decide_eq_true_eq] at hj hk'
    exact h.inj j hj.1 k hk'.1
  · intro j hj
    simp only [List.mem_filter, decide_eq_true_eq] at hj
    exact h.ab j hj.1
  · rintro j oj t (hs | rfl) hoj hd
    · rw [put_getD, if_neg]
      · exact (h.c1 j oj t hs hoj hd).mono hle
      · rintro ⟨hd', _⟩
        have hjd := (h.done_iff hp j).1 (h.sd j hs)
        have hne : j ≠ i := fun hh => (h.pd i hi).2 (hh ▸ hs)
        exact hp.dst_ne hjd.1 hid.1 hne hoj ho hd hd'
    · rw [ho] at hoj
      simp only [Option.some.injEq] at hoj
      subst hoj
      rw [put_getD, if_pos ⟨hd, hf _ _ ho t hd⟩, hev t hd]
      exact hvc
  · intro t hkn hnw
    rw [put_getD, if_neg]
    · exact (h.c2 t hkn (fun j oj hj hoj => hnw j oj (.inl hj) hoj)).mono hle
    · rintro ⟨hd', _⟩
      exact hnw i o (.inr rfl) ho hd'
  · rintro j (hs | rfl) k hk'
    · exact .inl (h.closed j hs k hk')
    · exact .inl (hr k hk')

/-- What waits is done by the model. -/
theorem Inv.pend_ok (hp : PlanOk P ops bef plan) (hO : True_ P ng w0 O) (hng : ng = P.globals.size) (h : Inv P O ops bef plan ng w0 e0 kn0 H0 φ0 a0 eF HF S m done pend β A e H φ a w)
    {i : Nat} (hi : i ∈ pend) (hr : ∀ j, (bef.getD i 0).testBit j = true → S j) (hf : Fits ops a) {Q : Exit → Act → World → Prop} {K : Act → World → Prop}
    (hK : ∀ ψ a' w' o c, a' = a.put o c → Inv P O ops bef plan ng w0 e0 kn0 H0 φ0 a0 eF HF (fun j => S j ∨ j = i) m done (pend.filter (· ≠ i)) β A e H ψ a' w' → K a' w') : wpOp P ops Q i K a w := by
  obtain ⟨o, ao, ei, v, ho, ha, hL, hv, hcase⟩ := h.pok i hi
  have hid := (h.done_iff hp i).1 (h.pd i hi).1
  have hl := h.looks_rel hp hid.1 ho hL (h.pd i hi).2 hr
  have hK' : Next_ ng w0 φ H o a v H K := by
    intro c w' ψ hle hvc hR hkeep
    refine hK ψ _ w' _ c rfl (h.finish hp hi ho hv hr hf hle hvc hR (fun j _ _ _ h1 h2 => (hkeep.2 _ h2 h1).1) (h.keep.trans hkeep))
  rcases hcase with ⟨k, hk, hg⟩ | ⟨k, hk, hg⟩ | ⟨k, hk, hoff, rfl⟩ | ⟨k, x, r1, hk, hg, r4, r5, r6, r7, r8⟩
  · exact step_ok (Q := Q) hO hng ho ha h.rel hl (v := v) (H' := H) (by simp [evOp, hk, hg]) hK'
  · exact step_ok (Q := Q) hO hng ho ha h.rel hl (v := v) (H' := H) (by simp [evOp, hk, hg]) hK'
  · exact step_ok (Q := Q) hO hng ho ha h.rel hl (v := undef) (H' := H) (by simp [evOp, hk, hoff.h]) hK'
  · obtain ⟨hok, hdst, hkk, _⟩ := aopOf_spec ha
    have hops := operands_rel h.rel hng ha hl
    have hdone : Region.wanted o (yielded ops a.tmps) = true := by
      rcases wanted_of ha hl with ⟨_, hw⟩ | ⟨gv, want, hg', hb, _⟩
      · exact hw
      · rcases hg with hg | ⟨b, hg⟩
        · rw [hg] at hg'; simp at hg'
        · rw [hg] at hg'
          simp only [Option.some.injEq, Prod.mk.injEq] at hg'
          obtain ⟨rfl, rfl⟩ := hg'
          rw [hb b rfl]; simp
    refine wpOp_of ho (fun _ => ?_) (fun hw => by rw [hdone] at hw; simp at hw)
    unfold Oper.wp
    obtain ⟨c, ob, inf, hc, hcb, hbr, hvc⟩ := opN_ok (P := P) h.rel.size (hkk ▸ hk) hops r4
    rw [hc, Oper.upon_value]
    have hR' := h.rel.give r8 r7 hcb hbr
    have hle := Inj.le_put (i := inf) r7
    refine hK _ _ _ _ c rfl (h.finish hp hi ho hv hr hf hle (hvc _ (by simp [Inj.put])) hR' ?_ ?_)
    · intro j hj hji hAj h1 h2
      simp only [Inj.put]
      rw [if_neg (h.inj j hj i hi hji hAj r1)]
      exact h1
    · refine ⟨h.keep.1, fun b hb hφ => ?_⟩
      obtain ⟨k1, k2⟩ := h.keep.2 b hb hφ
      refine ⟨?_, k2⟩
      simp only [Inj.put]
      rw [if_neg (by omega)]
      exact k1

end
end Ck

/-
A region that draws its order: what acts, and the whole.
-/
set_option linter.unusedSimpArgs false
set_option linter.unusedVariables false
namespace Ck
open Go

section
variable {P : Program} {O : Oracle} {ops : Array Oper} {bef : Array Nat} {ng : Nat} {w0 : World} {plan : List Nat} {e0 : Env} {kn0 : Nat} {H0 : Heap} {φ0 : Inj} {a0 : Act} {eF : Env} {HF : Heap}
variable {S : Nat → Prop} {m : Nat} {done pend : List Nat} {β : Nat → Nat} {A : Nat → Prop} {e : Env} {H : Heap} {φ : Inj} {a : Act} {w : World}

/-- What acts is done by both. -/
theorem Inv.head_ok (hp : PlanOk P ops bef plan) (hO : True_ P ng w0 O) (hng : ng = P.globals.size) (hkn : knownB ops kn0 plan = true)
    (h : Inv P O ops bef plan ng w0 e0 kn0 H0 φ0 a0 eF HF S m done pend β A e H φ a w)
    {i : Nat} {rest : List Nat} {o : Oper} (hd : plan.drop m = i :: rest) (ho : ops[i]? = some o) (hE : isE (kOf P o) = true) (hr : ∀ j, (bef.getD i 0).testBit j = true → S j) (hf : Fits ops a)
    {Q : Exit → Act → World → Prop} {K : Act → World → Prop}
    (hK : ∀ ψ a' w' e' H' o c, a' = a.put o c → Inv P O ops bef plan ng w0 e0 kn0 H0 φ0 a0 eF HF (fun j => S j ∨ j = i) (m + 1) (i :: done) pend β A e' H' ψ a' w' → K a' w') : wpOp P ops Q i K a w := by
  obtain ⟨hi, hix, hlook⟩ := h.looks_head hp hkn hd ho
  have hruns := h.runs
  rw [hd] at hruns
  cases hruns with
  | cons ho' ha hb hv hc hrr =>
    rename_i o' ao H1 v
    rw [ho] at ho'
    simp only [Option.some.injEq] at ho'
    subst ho'
    obtain ⟨_, hdst, hkk, _⟩ := aopOf_spec ha
    have hmlt : m < plan.length := by
      rcases Nat.lt_or_ge m plan.length with hh | hh
      · exact hh
      · rw [List.drop_of_length_le hh] at hd; simp at hd
    have hmem : plan[m]? = some i := by
      have := congrArg (fun l => l[0]?) hd
      simpa using this
    have hnd : i ∉ done := fun hh => by have := ((h.done_iff hp i).1 hh).2; omega
    have hnS : ¬ S i := fun hh => hnd (h.sd i hh)
    have hl := h.looks_rel hp hi ho hlook hnS hr
    refine step_ok (Q := Q) hO hng ho ha h.rel hl hv ?_
    intro c w' ψ hle hvc hR hkeep
    refine hK ψ _ w' (Ck.put e o.dst v) H1 _ c rfl ?_
    have hdi : ∀ {j oj t}, j ∈ done → ops[j]? = some oj → oj.dst = some t → o.dst ≠ some t := by
      intro j oj t hj hoj hdj
      have hjd := (h.done_iff hp j).1 hj
      exact hp.dst_ne hjd.1 hi (by rintro rfl; omega) hoj ho hdj
    refine ⟨hmlt, ?_, ?_, ?_, ?_, ?_, ?_, h.inj, fun j hj hAj => Nat.lt_of_lt_of_le (h.ab j hj hAj) hkeep.1, ?_, ?_, ?_, hR, h.fle.trans hle, h.keep.trans hkeep, by rw [put_defers]; exact h.dfs, by rw [put_size]; exact h.size, ?_⟩
    · rw [List.reverse_cons, h.dn, List.take_succ_eq_append_getElem hmlt]
      congr 2
      have := hmem
      rw [List.getElem?_eq_getElem hmlt] at this
      simpa using this.symm
    · have : plan.drop (m + 1) = rest := by rw [← List.drop_drop, hd]; rfl
      rw [this]
      exact hrr
    · intro j hj
      refine ⟨List.mem_cons_of_mem _ (h.pd j hj).1, ?_⟩
      rintro (hs | rfl)
      · exact (h.pd j hj).2 hs
      · exact hnd (h.pd _ hj).1
    · rintro j (hs | rfl)
      · exact List.mem_cons_of_mem _ (h.sd j hs)
      · exact List.mem_cons_self
    · intro j hj hjn
      rcases List.mem_cons.1 hj with rfl | hj
      · exact .inr rfl
      · exact .inl (h.ds j hj hjn)
    · -- those that wait
      intro j hj
      obtain ⟨oj, aj, ej, vj, p1, p2, p3, p4, p5⟩ := h.pok j hj
      have hjdn := (h.pd j hj).1
      have hjd := (h.done_iff hp j).1 hjdn
      refine ⟨oj, aj, ej, vj, p1, p2, p3.put hp hi ho (by omega), fun t ht => ?_, ?_⟩
      · rw [put_env, if_neg (hdi hjdn p1 ht)]
        exact p4 t ht
      · rcases p5 with p5 | ⟨k, hk, hg⟩ | p5 | ⟨k, x, r1, r2, r3, r4, r5, r6, r7, r8⟩
        · exact .inl p5
        · refine .inr (.inl ⟨k, hk, ?_⟩)
          have hkj := (aopOf_spec p2).2.2.1
          have hRj : isR (kOf P oj) = true := by rw [← hkj, hk]; rfl
          have hnb : (bef.getD i 0).testBit j = false := by
            cases hbb : (bef.getD i 0).testBit j with
            | false => rfl
            | true => exact absurd (hr j hbb) (h.pd j hj).2
          obtain ⟨⟨ar, t, k', q1, q2, q3, q4⟩, hqi, hqj, hql⟩ := hc (by rw [hkk]; exact hE) j oj hjdn p1 hRj hnb
          rw [p2] at q1
          simp only [Option.some.injEq] at q1
          subst q1
          rw [hk] at q2
          simp only [Ck.K.r.injEq] at q2
          subst q2
          -- no one between writes what it looks at
          have quiet : ∀ {q qo u}, quietFor ops oj q = true → ops[q]? = some qo → qo.dst = some u → u ∉ looks ops oj := by
            intro q qo u hq hqo hqd hu
            unfold quietFor at hq
            rw [hqo] at hq
            simp only [hqd, Bool.not_eq_true'] at hq
            have : (looks ops oj).contains u = true := List.contains_iff_mem.2 hu
            rw [hq] at this
            simp at this
          have same : ∀ u ∈ looks ops oj, ej u = Ck.put e o.dst v u := by
            intro u hu
            have hnw : o.dst ≠ some u := fun hh => quiet hqi ho hh hu
            rw [put_env, if_neg hnw]
            rcases p3 u hu with ⟨_, _, _, _, _, _, h5⟩ | ⟨h1, h2, h3⟩
            · exact h5
            · rw [h2]
              refine (h.eold u (fun p po hpd hpo hpw => ?_)).symm
              have hpp := (h.done_iff hp p).1 hpd
              rcases Nat.lt_trichotomy (ix plan p) (ix plan j) with hlt | heq | hgt
              · exact h1 p po hpp.1 hlt hpo hpw
              · have := ix_inj hpp.1 hjd.1 heq
                subst this
                exact quiet hqj hpo hpw hu
              · -- it stands between
                obtain ⟨l1, l2, hsplit⟩ := List.append_of_mem hjdn
                have hpl : p ∈ l1 := by
                  rw [hsplit] at hpd
                  rcases List.mem_append.1 hpd with hh | hh
                  · exact hh
                  · rcases List.mem_cons.1 hh with rfl | hh
                    · omega
                    · exfalso
                      have htake : plan.take m = l2.reverse ++ (j :: l1.reverse) := by rw [← h.dn, hsplit]; simp
                      have hpix : p ∈ l2.reverse := by simpa using hh
                      obtain ⟨kp, hkp⟩ := List.getElem?_of_mem hpix
                      have hkpl : kp < l2.reverse.length := by
                        rcases Nat.lt_or_ge kp l2.reverse.length with h9 | h9
                        · exact h9
                        · rw [List.getElem?_eq_none h9] at hkp; simp at hkp
                      have hP : plan = l2.reverse ++ (j :: l1.reverse) ++ plan.drop m := by rw [← htake, List.take_append_drop]
                      have g1 : plan[kp]? = some p := by rw [hP, List.append_assoc, List.getElem?_append_left hkpl, hkp]
                      have g2 : plan[l2.reverse.length]? = some j := by rw [hP, List.append_assoc, List.getElem?_append_right (Nat.le_refl _)]; simp
                      have i1 := ix_of_get hp.nodup g1
                      have i2 := ix_of_get hp.nodup g2
                      omega
                exact quiet (hql l1 l2 hsplit p hpl) hpo hpw hu
          have hev : evR k ej H1 = evR k (Ck.put e o.dst v) H1 := by
            refine evR_congr (fun x hx => ?_)
            have hxm := rOpds_mem (hkj ▸ hk) x hx
            cases x with
            | tmp u => exact same u (mem_tmpsOf hxm)
            | _ => rfl
          have hgv : aj.gv ej = aj.gv (Ck.put e o.dst v) := by
            have hgs := (aopOf_spec p2).2.2.2
            unfold AOp.gv
            split at hgs
            · rw [hgs]; rfl
            · rename_i jg wg hgo
              obtain ⟨u, hu, hgu⟩ := hgs
              rw [hgu]
              simp only [Option.map_some, Option.some.injEq, Prod.mk.injEq, and_true]
              refine same u ?_
              unfold looks
              refine List.mem_append_right _ ?_
              rw [hgo]
              simp [hu]
          rw [hev, hgv, q4, put_env, if_neg (hdi hjdn p1 q3), p4 t q3]
        · exact .inr (.inr (.inl p5))
        · obtain ⟨k1, k2⟩ := hkeep.2 _ r6 r7
          exact .inr (.inr (.inr ⟨k, x, r1, r2, r3, r4, r5, Nat.lt_of_lt_of_le r6 hkeep.1, k1, by rw [k2]; exact r8⟩))
    · intro t ht
      rw [put_env, if_neg (ht i o List.mem_cons_self ho)]
      exact h.eold t (fun p q hpd hq => ht p q (List.mem_cons_of_mem _ hpd) hq)
    · rintro j oj t (hs | rfl) hoj hdj
      · have hne := hdi (h.sd j hs) hoj hdj
        rw [put_env, if_neg hne, put_getD, if_neg (fun hh => hne hh.1)]
        exact (h.c1 j oj t hs hoj hdj).mono hle
      · rw [ho] at hoj
        simp only [Option.some.injEq] at hoj
        subst hoj
        rw [put_env, if_pos hdj, put_getD, if_pos ⟨hdj, hf _ _ ho t hdj⟩]
        exact hvc
    · intro t hkt hnw
      rw [put_getD, if_neg (fun hh => hnw i o (.inr rfl) ho hh.1)]
      exact (h.c2 t hkt (fun j oj hj hoj => hnw j oj (.inl hj) hoj)).mono hle
    · rintro j (hs | rfl) k hk'
      · exact .inl (h.closed j hs k hk')
      · exact .inl (hr k hk')

/-- The model does one that it may do. -/
theorem Inv.step (hp : PlanOk P ops bef plan) (hO : True_ P ng w0 O) (hng : ng = P.globals.size) (hkn : knownB ops kn0 plan = true) {i : Nat} {o : Oper} (hi : i ∈ plan) (ho : ops[i]? = some o)
    (hr : ∀ j, (bef.getD i 0).testBit j = true → S j) (hnS : ¬ S i) {Q : Exit → Act → World → Prop} {K : Act → World → Prop} (hf : Fits ops a)
    (hK : ∀ m' done' pend' β' A' ψ a' w' e' H' o c, a' = a.put o c → Inv P O ops bef plan ng w0 e0 kn0 H0 φ0 a0 eF HF (fun j => S j ∨ j = i) m' done' pend' β' A' e' H' ψ a' w' → K a' w') :
    ∀ (d m : Nat) (done pend : List Nat) (β : Nat → Nat) (A : Nat → Prop) (e : Env) (H : Heap), ix plan i + 1 - m = d → Inv P O ops bef plan ng w0 e0 kn0 H0 φ0 a0 eF HF S m done pend β A e H φ a w → wpOp P ops Q i K a w := by
  intro d
  induction d with
  | zero =>
    intro m done pend β A e H hdm h
    have hdn : i ∈ done := (h.done_iff hp i).2 ⟨hi, by omega⟩
    have hpn : i ∈ pend := Classical.byContradiction fun hh => hnS (h.ds i hdn hh)
    exact h.pend_ok hp hO hng hpn hr hf (fun ψ a' w' o c ha h' => hK _ _ _ _ _ ψ a' w' _ _ o c ha h')
  | succ d ih =>
    intro m done pend β A e H hdm h
    have hget := ix_get hi
    have hlen : ix plan i < plan.length := by
      rcases Nat.lt_or_ge (ix plan i) plan.length with hh | hh
      · exact hh
      · rw [List.getElem?_eq_none hh] at hget; simp at hget
    have hmlt : m < plan.length := by omega
    have hd : plan.drop m = plan[m] :: plan.drop (m + 1) := List.drop_eq_getElem_cons hmlt
    have hxm : plan[m] ∈ plan := List.getElem_mem hmlt
    have hxix : ix plan plan[m] = m := ix_of_get hp.nodup (List.getElem?_eq_getElem hmlt)
    have hxlt := hp.lt _ hxm
    have hox : ops[plan[m]]? = some ops[plan[m]] := Array.getElem?_eq_getElem hxlt
    cases hE : isE (kOf P ops[plan[m]]) with
    | false =>
      obtain ⟨β', A', e', H', h'⟩ := h.advance hp hkn hd hox hE
      exact ih (m + 1) _ _ β' A' e' H' (by omega) h'
    | true =>
      by_cases hxi : plan[m] = i
      · have hoo : ops[plan[m]] = o := by
          have : ops[plan[m]]? = some o := by rw [hxi]; exact ho
          rw [hox] at this
          simpa using this
        rw [hxi] at hd
        exact h.head_ok hp hO hng hkn hd ho (hoo ▸ hE) hr hf (fun ψ a' w' e' H' o c ha h' => hK _ _ _ _ _ ψ a' w' e' H' o c ha h')
      · have hlt : ix plan plan[m] < ix plan i := by
          rw [hxix]
          rcases Nat.lt_or_ge m (ix plan i) with hh | hh
          · exact hh
          · have : m = ix plan i := by omega
            exact absurd (ix_inj hxm hi (by rw [hxix]; exact this)) hxi
        obtain ⟨a', b', ha', hb', _, _, hEE, _, _⟩ := pairB_spec (hp.pair _ i hxm hi hlt)
        rw [hox] at ha'
        simp only [Option.some.injEq] at ha'
        subst ha'
        have hS := hr _ (hEE hE)
        have := ((h.done_iff hp _).1 (h.sd _ hS)).2
        omega

end
end Ck

/-
A region that draws its order: the whole.
-/
set_option linter.unusedSimpArgs false
set_option linter.unusedVariables false
namespace Ck
open Go

section
variable {P : Program} {O : Oracle} {ops : Array Oper} {bef : Array Nat} {ng : Nat} {w0 : World} {plan : List Nat} {e0 : Env} {kn0 : Nat} {H0 : Heap} {φ0 : Inj} {a0 : Act} {eF : Env} {HF : Heap}

def isIn (listed : Array Bool) (i : Nat) : Prop := listed.getD i false = true

theorem ready_iff {listed : Array Bool} (hsz : listed.size = ops.size) (i : Nat) : i ∈ Region.ready .any ops listed ↔
    i < ops.size ∧ ¬ isIn listed i ∧ ∃ o, ops[i]? = some o ∧ ∀ e ∈ o.after.toList, Region.binds .any e = true → isIn listed e.on := by
  unfold Region.ready isIn
  simp only [List.mem_filter, List.mem_range, Bool.and_eq_true, Bool.not_eq_true']
  constructor
  · rintro ⟨h1, h2, h3⟩
    refine ⟨h1, ?_, ops[i], Array.getElem?_eq_getElem h1, ?_⟩
    · simp only [Array.getD_eq_getD_getElem?] at h2 ⊢
      rw [Array.getElem?_eq_getElem (by omega)] at h2 ⊢
      simpa using h2
    · rw [Array.getElem?_eq_getElem h1] at h3
      simp only [Option.map_some, Option.getD_some] at h3
      rw [Array.all_eq_true_iff_forall_mem] at h3
      intro e he hb
      have := h3 e (Array.mem_toList_iff.1 he)
      simpa [hb] using this
  · rintro ⟨h1, h2, o, ho, h3⟩
    refine ⟨h1, ?_, ?_⟩
    · simp only [Array.getD_eq_getD_getElem?] at h2 ⊢
      rw [Array.getElem?_eq_getElem (by omega)] at h2 ⊢
      simpa using h2
    · rw [ho]
      simp only [Option.map_some, Option.getD_some]
      rw [Array.all_eq_true_iff_forall_mem]
      intro e he
      by_cases hb : Region.binds .any e = true
      · have := h3 e (Array.mem_toList_iff.2 he) hb
        simp [this]
      · simp [hb]

/-- When none may be done, all are. -/
theorem all_in {listed : Array Bool} (hp : PlanOk P ops bef plan) (hsz : listed.size = ops.size) (h : Region.ready .any ops listed = []) : ∀ i, i < ops.size → isIn listed i := by
  intro i
  induction i using Nat.strongRecOn with
  | _ i ih =>
    intro hi
    refine Classical.byContradiction fun hn => ?_
    have : i ∈ Region.ready .any ops listed := by
      refine (ready_iff hsz i).2 ⟨hi, hn, ops[i], Array.getElem?_eq_getElem hi, fun e he hb => ?_⟩
      have := ((hp.edges i _ (Array.getElem?_eq_getElem hi)).1 e he hb).1
      exact ih e.on this (by omega)
    rw [h] at this
    simp at this

theorem isIn_set {listed : Array Bool} {i j : Nat} (hi : i < listed.size) : isIn (listed.setIfInBounds i true) j ↔ isIn listed j ∨ j = i := by
  unfold isIn
  simp only [Array.getD_eq_getD_getElem?]
  by_cases h : i = j
  · subst h; simp [hi]
  · rw [Array.getElem?_setIfInBounds_ne h]
    simp [Ne.symm h]

/-- How many are left. -/
def left (listed : Array Bool) (n : Nat) : Nat := (List.range n).countP fun i => !listed.getD i false

theorem left_set {listed : Array Bool} {n i : Nat} (hsz : listed.size = n) (hi : i < n) (hn : ¬ isIn listed i) : left (listed.setIfInBounds i true) n + 1 ≤ left listed n := by
  unfold left
  have : ∀ l : List Nat, i ∈ l → (l.countP fun i_1 => !(listed.setIfInBounds i true).getD i_1 false) + 1 ≤ l.countP fun i => !listed.getD i false := by
    have mono : ∀ l : List Nat, (l.countP fun i_1 => !(listed.setIfInBounds i true).getD i_1 false) ≤ l.countP fun i => !listed.getD i false := by
      intro l
      refine List.countP_mono_left fun x _ hx => ?_
      have := (isIn_set (listed := listed) (i := i) (j := x) (by omega))
      unfold isIn at this
      cases hl : listed.getD x false with
      | false => rfl
      | true =>
        rw [this.2 (.inl hl)] at hx
        simp at hx
    intro l
    induction l with
    | nil => intro h; simp at h
    | cons x l ih =>
      intro h
      rw [List.countP_cons, List.countP_cons]
      by_cases hx : x = i
      · subst hx
        have h1 : (listed.setIfInBounds x true).getD x false = true := (isIn_set (listed := listed) (i := x) (j := x) (by omega)).2 (.inr rfl)
        have h2 : listed.getD x false = false := by unfold isIn at hn; simpa using hn
        rw [h1, h2, if_neg (by simp), if_pos (by simp)]
        exact Nat.add_le_add_right (mono l) 1
      · have hm : i ∈ l := by rcases List.mem_cons.1 h with hh | hh; exact absurd hh.symm hx; exact hh
        have h1 := ih hm
        have h2 : (listed.setIfInBounds i true).getD x false = listed.getD x false := by
          simp only [Array.getD_eq_getD_getElem?]
          rw [Array.getElem?_setIfInBounds_ne (Ne.symm hx)]
        rw [h2]
        omega
  exact this _ (List.mem_range.2 hi)

theorem left_zero {listed : Array Bool} {n : Nat} (h : left listed n = 0) : ∀ i, i < n → isIn listed i := by
  intro i hi
  unfold left at h
  rw [List.countP_eq_zero] at h
  have := h i (List.mem_range.2 hi)
  unfold isIn
  simpa using this

theorem Inv.end_ok {S : Nat → Prop} {m : Nat} {done pend : List Nat} {β : Nat → Nat} {A : Nat → Prop} {e : Env} {H : Heap} {φ : Inj} {a : Act} {w : World}
    (hp : PlanOk P ops bef plan) (h : Inv P O ops bef plan ng w0 e0 kn0 H0 φ0 a0 eF HF S m done pend β A e H φ a w) (hall : ∀ i, i < ops.size → S i) :
    ERel φ kn0 eF a ∧ Rel ng w0 φ HF w := by
  have hm : plan.drop m = [] := by
    rcases Nat.lt_or_ge m plan.length with hh | hh
    · exfalso
      have hxm : plan[m] ∈ plan := List.getElem_mem hh
      have hxix : ix plan plan[m] = m := ix_of_get hp.nodup (List.getElem?_eq_getElem hh)
      have := ((h.done_iff hp _).1 (h.sd _ (hall _ (hp.lt _ hxm)))).2
      omega
    · exact List.drop_of_length_le hh
  have hr := h.runs
  rw [hm] at hr
  cases hr
  refine ⟨fun t ht => ?_, h.rel⟩
  by_cases hex : ∃ (i : Nat) (o : Oper), ops[i]? = some o ∧ o.dst = some t
  · obtain ⟨i, o, ho, hd⟩ := hex
    have hlt : i < ops.size := by
      rcases Nat.lt_or_ge i ops.size with hh | hh
      · exact hh
      · rw [Array.getElem?_eq_none hh] at ho; simp at ho
    exact h.c1 i o t (hall i hlt) ho hd
  · have hno : ∀ (i : Nat) (o : Oper), ops[i]? = some o → o.dst ≠ some t := fun i o ho hd => hex ⟨i, o, ho, hd⟩
    rw [h.eold t (fun p q _ hq => hno p q hq)]
    exact h.c2 t ht (fun i o _ ho => hno i o ho)

theorem any_ok (hp : PlanOk P ops bef plan) (hO : True_ P ng w0 O) (hng : ng = P.globals.size) (hkn : knownB ops kn0 plan = true) {Q : Exit → Act → World → Prop}
    (hQ : ∀ a' w' ψ, Inj.le φ0 ψ → ERel ψ kn0 eF a' → Rel ng w0 ψ HF w' → Keep φ0 ψ H0 HF → a'.defers = a0.defers → a'.tmps.size = a0.tmps.size → Q .normal a' w') :
    ∀ (fuel : Nat) (listed : Array Bool) (m : Nat) (done pend : List Nat) (β : Nat → Nat) (A : Nat → Prop) (e : Env) (H : Heap) (φ : Inj) (a : Act) (w : World),
      listed.size = ops.size → left listed ops.size ≤ fuel → Fits ops a → Inv P O ops bef plan ng w0 e0 kn0 H0 φ0 a0 eF HF (isIn listed) m done pend β A e H φ a w →
      wpAny P .any ops Q fuel listed a w := by
  have fin : ∀ (listed : Array Bool) (m : Nat) (done pend : List Nat) (β : Nat → Nat) (A : Nat → Prop) (e : Env) (H : Heap) (φ : Inj) (a : Act) (w : World),
      (∀ i, i < ops.size → isIn listed i) → Inv P O ops bef plan ng w0 e0 kn0 H0 φ0 a0 eF HF (isIn listed) m done pend β A e H φ a w → Q .normal a w := by
    intro listed m done pend β A e H φ a w hall h
    obtain ⟨h1, h2⟩ := h.end_ok hp hall
    have hHF : H = HF := by
      have hm : plan.drop m = [] := by
        rcases Nat.lt_or_ge m plan.length with hh | hh
        · exfalso
          have hxm : plan[m] ∈ plan := List.getElem_mem hh
          have hxix : ix plan plan[m] = m := ix_of_get hp.nodup (List.getElem?_eq_getElem hh)
          have := ((h.done_iff hp _).1 (h.sd _ (hall _ (hp.lt _ hxm)))).2
          omega
        · exact List.drop_of_length_le hh
      have hr := h.runs
      rw [hm] at hr
      cases hr
      rfl
    exact hQ a w φ h.fle h1 h2 (hHF ▸ h.keep) h.dfs h.size
  intro fuel
  induction fuel with
  | zero =>
    intro listed m done pend β A e H φ a w hsz hl hf h
    have hall := left_zero (Nat.le_zero.1 hl)
    refine ⟨?_, fin listed m done pend β A e H φ a w hall h⟩
    refine List.eq_nil_iff_forall_not_mem.2 fun i hi => ?_
    obtain ⟨h1, h2, _⟩ := (ready_iff hsz i).1 hi
    exact h2 (hall i h1)
  | succ fuel ih =>
    intro listed m done pend β A e H φ a w hsz hl hf h
    refine ⟨fun hnil => fin listed m done pend β A e H φ a w (all_in hp hsz hnil) h, fun i hi => ?_⟩
    obtain ⟨h1, h2, o, ho, h3⟩ := (ready_iff hsz i).1 hi
    have hr : ∀ j, (bef.getD i 0).testBit j = true → isIn listed j := by
      intro j hj
      obtain ⟨ed, he, hb, hor⟩ := (hp.edges i o ho).2 j hj
      have hed := h3 ed he hb
      rcases hor with rfl | hor
      · exact hed
      · exact h.closed ed.on hed j hor
    refine Inv.step (Q := Q) hp hO hng hkn (hp.all i h1) ho hr h2 hf ?_ _ m done pend β A e H rfl h
    intro m' done' pend' β' A' ψ a' w' e' H' o' c ha' h'
    refine ih (listed.setIfInBounds i true) m' done' pend' β' A' e' H' ψ a' w' (by simp [hsz]) ?_ ?_ ?_
    · have := left_set hsz h1 h2
      omega
    · rw [ha']
      intro j o2 ho2 t ht
      rw [put_size]
      exact hf j o2 ho2 t ht
    · have : (fun j => isIn listed j ∨ j = i) = isIn (listed.setIfInBounds i true) := by
        funext j
        exact propext (isIn_set (by omega)).symm
      rw [← this]
      exact h'

theorem Runs.lt {l done : List Nat} {e e1 : Env} {H H1 : Heap} (h : Runs P O ops bef done l e H e1 H1) : ∀ i ∈ l, i < ops.size := by
  induction h with
  | nil => intro i hi; simp at hi
  | cons ho _ _ _ _ _ ih =>
    intro i hi
    rcases List.mem_cons.1 hi with rfl | hi
    · rcases Nat.lt_or_ge i ops.size with hh | hh
      · exact hh
      · rw [Array.getElem?_eq_none hh] at ho; simp at ho
    · exact ih i hi

theorem Runs.same {l done : List Nat} {e e1 : Env} {H H1 : Heap} {t : Nat} (h : Runs P O ops bef done l e H e1 H1) (hno : ∀ (i : Nat) (o : Oper), ops[i]? = some o → o.dst ≠ some t) : e1 t = e t := by
  induction h with
  | nil => rfl
  | cons ho _ _ _ _ _ ih => rw [ih, put_env, if_neg (hno _ _ ho)]

theorem draw_ok {items : List Item} {H1 : Heap} {e1 : Env} {w : World} (hO : True_ P ng w0 O) (hng : ng = P.globals.size) (hlen : plan.length = ops.size) (hall : (List.range ops.size).all plan.contains = true)
    (hkn : knownB ops kn0 plan = true) (hpairs : pairsB P ops (Region.before ops) plan = true) (hedges : edgesB 0 ops.toList = true)
    (hi : itemsOf P ops (Region.before ops) [] plan = some items) (hr : runItems O items e0 H0 = some (e1, H1)) (he : ERel φ0 kn0 e0 a0) (hR : Rel ng w0 φ0 H0 w) (hf : Fits ops a0) {Q : Exit → Act → World → Prop}
    (hQ : ∀ a' w' ψ, Inj.le φ0 ψ → ERel ψ kn0 e1 a' → Rel ng w0 ψ H1 w' → Keep φ0 ψ H0 H1 → a'.defers = a0.defers → a'.tmps.size = a0.tmps.size → Q .normal a' w') :
    wpAny P .any ops Q ops.size (Array.replicate ops.size false) a0 w := by
  have hpw := pairsB_spec hpairs
  have hnd := pairwise_nodup hpw
  have hall' : ∀ i, i < ops.size → i ∈ plan := fun i hi => by
    have := List.all_eq_true.1 hall i (List.mem_range.2 hi)
    simpa using this
  have hruns := itemsOf_runs plan [] items hi (by simpa using hnd) e0 e1 H0 H1 hr
  have hlt := hruns.lt
  have hp : PlanOk P ops (Region.before ops) plan := ⟨hnd, hall', hlt, fun p q h1 h2 h3 => pairwise_ix hpw h1 h2 h3, before_spec ops hedges⟩
  have hno : ∀ i, ¬ isIn (Array.replicate ops.size false) i := by
    intro i h
    unfold isIn at h
    simp only [Array.getD_eq_getD_getElem?, Array.getElem?_replicate] at h
    split at h <;> simp at h
  refine any_ok (e0 := e0) hp hO hng hkn hQ ops.size _ 0 [] [] (fun _ => 0) (fun _ => False) e0 H0 φ0 a0 w (by simp) ?_ hf ?_
  · unfold left
    exact Nat.le_trans List.countP_le_length (by simp)
  · refine ⟨Nat.zero_le _, by simp, by simpa using hruns, by simp, fun i hi => absurd hi (hno i), by simp, by simp, by simp, by simp, fun t _ => rfl, fun i o t hi => absurd hi (hno i), fun t ht _ => he t ht, hR, .refl _, .refl _ _, rfl, rfl, fun j hj => absurd hj (hno j)⟩

end
end Ck

/-
Code, and functions: what the machine computes is what a call returns.
-/
set_option linter.unusedSimpArgs false
set_option linter.unusedVariables false
namespace Ck
open Go

def toExit : Ex → Exit
  | .normal => .normal
  | .exit id => .exit id
  | .ret => .ret

/-- What is asked of an ending. -/
def Post (ng : Nat) (w0 : World) (kn : Nat) (φ : Inj) (H : Heap) (a : Act) (x : Ex) (e1 : Env) (H1 : Heap) (Q : Exit → Act → World → Prop) : Prop :=
  ∀ a' w' ψ, Inj.le φ ψ → ERel ψ kn e1 a' → Rel ng w0 ψ H1 w' → Keep φ ψ H H1 → a'.defers = a.defers → a'.tmps.size = a.tmps.size → Q (toExit x) a' w'

section
variable {P : Program} {ng : Nat} {w0 : World} {φ : Inj} {H : Heap} {w : World} {e : Env} {O : Oracle}

theorem Rel.drawn (h : Rel ng w0 φ H w) (n : Nat) : Rel ng w0 φ H { w with drawn := n } :=
  ⟨h.dom, h.live, h.blk, h.apart, h.glob, h.ng, h.old, h.size, h.os, h.output⟩

theorem region_ok (hO : True_ P ng w0 O) (hng : ng = P.globals.size) (hmix : P.follows .mixedOrders = true) {h : Hint} {nt id : Nat} {ops : Array Oper} {draw : Bool} {ac : AC}
    (hc : regionOf P h nt id ops draw = some ac) {L : Cd → Cd} {a : Act} {x : Ex} {e1 : Env} {H1 : Heap} (hx : exec O L ac e H = some (x, e1, H1)) (he : ERel φ h.keep e a) (hR : Rel ng w0 φ H w)
    (hsz : nt ≤ a.tmps.size) {Q : Exit → Act → World → Prop} (hQ : Post ng w0 h.keep φ H a x e1 H1 Q) : (Code.region id ops draw).wp P Q a w := by
  unfold regionOf at hc
  split at hc
  · rename_i hfit
    have hf : Fits ops a := by
      intro i o ho t ht
      have hm : o ∈ ops.toList := by
        have : ops.toList[i]? = some o := by simpa using ho
        exact List.mem_of_getElem? this
      have := List.all_eq_true.1 hfit o hm
      rw [ht] at this
      exact Nat.lt_of_lt_of_le (by simpa using this) hsz
    split at hc
    · rename_i hdraw
      subst hdraw
      simp only [Option.bind_eq_some_iff] at hc
      obtain ⟨plan, _, hc⟩ := hc
      split at hc
      · rename_i hok
        obtain ⟨h1, h2, h3, h4, h5⟩ := hok
        simp only [Option.map_eq_some_iff] at hc
        obtain ⟨items, hi, rfl⟩ := hc
        simp only [exec, opsC, Option.map_eq_some_iff] at hx
        obtain ⟨⟨e2, H2⟩, hr, hx⟩ := hx
        simp only [Prod.mk.injEq] at hx
        obtain ⟨rfl, rfl, rfl⟩ := hx
        refine wp_region_any hmix (draw_ok hO hng h1 h2 h3 h4 h5 hi hr he (hR.drawn _) hf ?_)
        intro a' w' ψ hle he' hR' hk hdf hs
        refine hQ a' w' ψ hle (fun t ht => ?_) hR' hk hdf hs
        rw [outs_ok ht]
        · exact he' t ht
        · intro hno
          have hnd := pairwise_nodup (pairsB_spec h4)
          have hruns := itemsOf_runs plan [] items hi (by simpa using hnd) e e2 H H2 hr
          exact hruns.same hno
      · simp at hc
    · rename_i hdraw
      have hdraw' : draw = false := by simpa using hdraw
      subst hdraw'
      split at hc
      · rename_i hkn
        simp only [Option.map_eq_some_iff] at hc
        obtain ⟨items, hi, rfl⟩ := hc
        simp only [exec, opsC, Option.map_eq_some_iff] at hx
        obtain ⟨⟨e2, H2⟩, hr, hx⟩ := hx
        simp only [Prod.mk.injEq] at hx
        obtain ⟨rfl, rfl, rfl⟩ := hx
        refine wp_region (seq_ok hO hng _ items h.keep e H φ a w e2 H2 hi hr hkn he hR hf ?_)
        intro a' w' ψ hle he' hR' hk hdf hs
        refine hQ a' w' ψ hle (fun t ht => ?_) hR' hk hdf hs
        rw [outs_ok ht]
        · exact he' t ht
        · intro hno
          refine runItems_keeps items e H e2 H2 hr (fun o ho hd => ?_)
          obtain ⟨i, o', _, h2, h3⟩ := itemsIn_dst _ items hi o ho (by rw [hd]; simp)
          exact hno i o' h2 (h3 ▸ hd)
      · simp at hc
  · simp at hc

theorem code_ok (hO : True_ P ng w0 O) (hng : ng = P.globals.size) (hmix : P.follows .mixedOrders = true) {h : Hint} {nt : Nat} (n : Nat) : ∀ (c : Code) (ac : AC), codeOf P h nt c = some ac →
    ∀ (e : Env) (H : Heap) (φ : Inj) (a : Act) (w : World) (x : Ex) (e1 : Env) (H1 : Heap) (Q : Exit → Act → World → Prop), exec O (iter n) ac e H = some (x, e1, H1) → ERel φ h.keep e a → Rel ng w0 φ H w →
      nt ≤ a.tmps.size → Post ng w0 h.keep φ H a x e1 H1 Q → c.wp P Q a w := by
  intro c
  induction c with
  | skip =>
    intro ac hc e H φ a w x e1 H1 Q hx he hR hsz hQ
    simp only [codeOf, Option.some.injEq] at hc
    subst hc
    simp only [exec, skipC, Option.some.injEq, Prod.mk.injEq] at hx
    obtain ⟨rfl, rfl, rfl⟩ := hx
    exact wp_skip (hQ a w φ (.refl _) he hR (.refl _ _) rfl rfl)
  | region id ops draw =>
    intro ac hc e H φ a w x e1 H1 Q hx he hR hsz hQ
    exact region_ok hO hng hmix hc hx he hR hsz hQ
  | seq c1 c2 ih1 ih2 =>
    intro ac hc e H φ a w x e1 H1 Q hx he hR hsz hQ
    simp only [codeOf, Option.bind_eq_some_iff, Option.map_eq_some_iff] at hc
    obtain ⟨x1, h1, x2, h2, rfl⟩ := hc
    simp only [exec, seqC] at hx
    refine wp_seq ?_
    cases hm : exec O (iter n) x1 e H with
    | none => rw [hm] at hx; simp [andThen] at hx
    | some r =>
      obtain ⟨y, e2, H2⟩ := r
      rw [hm] at hx
      refine ih1 x1 h1 e H φ a w y e2 H2 _ hm he hR hsz ?_
      intro a' w' ψ hle he' hR' hk hdf hs
      cases y with
      | normal =>
        simp only [andThen] at hx
        refine ih2 x2 h2 e2 H2 ψ a' w' x e1 H1 _ hx he' hR' (by omega) ?_
        intro a'' w'' χ hle2 he2 hR2 hk2 hdf2 hs2
        exact hQ a'' w'' χ (hle.trans hle2) he2 hR2 (hk.trans hk2) (hdf2.trans hdf) (hs2.trans hs)
      | exit id =>
        simp only [andThen, Option.some.injEq, Prod.mk.injEq] at hx
        obtain ⟨rfl, rfl, rfl⟩ := hx
        exact hQ a' w' ψ hle he' hR' hk hdf hs
      | ret =>
        simp only [andThen, Option.some.injEq, Prod.mk.injEq] at hx
        obtain ⟨rfl, rfl, rfl⟩ := hx
        exact hQ a' w' ψ hle he' hR' hk hdf hs
  | cond cnd c1 c2 ih1 ih2 =>
    intro ac hc e H φ a w x e1 H1 Q hx he hR hsz hQ
    cases cnd with
    | tmp t =>
      simp only [codeOf] at hc
      by_cases hkeep : h.keep.testBit t = true
      · rw [if_pos hkeep] at hc
        simp only [Option.bind_eq_some_iff, Option.map_eq_some_iff] at hc
        obtain ⟨x1, h1, x2, h2, rfl⟩ := hc
        have hv := he t hkeep
        simp only [exec, condC, opd] at hx
        unfold ifV at hx
        have hev : a.eval (.tmp t) = a.tmps.getD t undef := rfl
        split at hx
        · rename_i ht
          rw [ht] at hv
          refine wp_cond (t := true) ?_ (ih1 x1 h1 e H φ a w x e1 H1 _ hx he hR hsz hQ)
          rw [hev]
          generalize a.tmps.getD t undef = q at hv
          cases hv; rfl
        · rename_i ht
          rw [ht] at hv
          refine wp_cond (t := false) ?_ (ih2 x2 h2 e H φ a w x e1 H1 _ hx he hR hsz hQ)
          rw [hev]
          generalize a.tmps.getD t undef = q at hv
          cases hv; rfl
        · simp at hx
      · rw [if_neg hkeep] at hc; simp at hc
    | const v =>
      cases v with
      | bool b =>
        cases b with
        | true =>
          simp only [codeOf] at hc
          exact wp_cond (t := true) rfl (ih1 ac hc e H φ a w x e1 H1 _ hx he hR hsz hQ)
        | false =>
          simp only [codeOf] at hc
          exact wp_cond (t := false) rfl (ih2 ac hc e H φ a w x e1 H1 _ hx he hR hsz hQ)
      | _ => simp [codeOf] at hc
    | global g => simp [codeOf] at hc
    | func f => simp [codeOf] at hc
  | block id c1 ih =>
    intro ac hc e H φ a w x e1 H1 Q hx he hR hsz hQ
    simp only [codeOf, Option.map_eq_some_iff] at hc
    obtain ⟨x1, h1, rfl⟩ := hc
    simp only [exec, blockC] at hx
    refine wp_block ?_
    cases hm : exec O (iter n) x1 e H with
    | none => rw [hm] at hx; simp [leave] at hx
    | some r =>
      obtain ⟨y, e2, H2⟩ := r
      rw [hm] at hx
      refine ih x1 h1 e H φ a w y e2 H2 _ hm he hR hsz ?_
      intro a' w' ψ hle he' hR' hk hdf hs
      cases y with
      | normal =>
        simp only [leave, Option.some.injEq, Prod.mk.injEq] at hx
        obtain ⟨rfl, rfl, rfl⟩ := hx
        exact hQ a' w' ψ hle he' hR' hk hdf hs
      | exit j =>
        simp only [leave] at hx
        change (if j = id then Q .normal a' w' else Q (.exit j) a' w')
        split at hx
        · rename_i hj
          simp only [Option.some.injEq, Prod.mk.injEq] at hx
          obtain ⟨rfl, rfl, rfl⟩ := hx
          rw [if_pos hj]
          exact hQ a' w' ψ hle he' hR' hk hdf hs
        · rename_i hj
          simp only [Option.some.injEq, Prod.mk.injEq] at hx
          obtain ⟨rfl, rfl, rfl⟩ := hx
          rw [if_neg hj]
          exact hQ a' w' ψ hle he' hR' hk hdf hs
      | ret =>
        simp only [leave, Option.some.injEq, Prod.mk.injEq] at hx
        obtain ⟨rfl, rfl, rfl⟩ := hx
        exact hQ a' w' ψ hle he' hR' hk hdf hs
  | loop c1 ih =>
    intro ac hc e H φ a w x e1 H1 Q hx he hR hsz hQ
    simp only [codeOf, Option.map_eq_some_iff] at hc
    obtain ⟨x1, h1, rfl⟩ := hc
    simp only [exec] at hx
    have rounds : ∀ (m : Nat) (e : Env) (H : Heap) (φ : Inj) (a : Act) (w : World), iter m (exec O (iter n) x1) e H = some (x, e1, H1) → ERel φ h.keep e a → Rel ng w0 φ H w → nt ≤ a.tmps.size →
        Post ng w0 h.keep φ H a x e1 H1 Q → Code.rounds P c1 Q m a w := by
      intro m
      induction m with
      | zero => intro e H φ a w hx; simp [iter] at hx
      | succ m ihm =>
        intro e H φ a w hx he hR hsz hQ
        rw [rounds_succ]
        simp only [iter] at hx
        cases hm : exec O (iter n) x1 e H with
        | none => rw [hm] at hx; simp [andThen] at hx
        | some r =>
          obtain ⟨y, e2, H2⟩ := r
          rw [hm] at hx
          refine ih x1 h1 e H φ a w y e2 H2 _ hm he hR hsz ?_
          intro a' w' ψ hle he' hR' hk hdf hs
          cases y with
          | normal =>
            simp only [andThen] at hx
            refine ihm e2 H2 ψ a' w' hx he' hR' (by omega) ?_
            intro a'' w'' χ hle2 he2 hR2 hk2 hdf2 hs2
            exact hQ a'' w'' χ (hle.trans hle2) he2 hR2 (hk.trans hk2) (hdf2.trans hdf) (hs2.trans hs)
          | exit id =>
            simp only [andThen, Option.some.injEq, Prod.mk.injEq] at hx
            obtain ⟨rfl, rfl, rfl⟩ := hx
            exact hQ a' w' ψ hle he' hR' hk hdf hs
          | ret =>
            simp only [andThen, Option.some.injEq, Prod.mk.injEq] at hx
            obtain ⟨rfl, rfl, rfl⟩ := hx
            exact hQ a' w' ψ hle he' hR' hk hdf hs
    exact wp_loop_rounds n (rounds n e H φ a w hx he hR hsz hQ)
  | exit id =>
    intro ac hc e H φ a w x e1 H1 Q hx he hR hsz hQ
    simp only [codeOf, Option.some.injEq] at hc
    subst hc
    simp only [exec, exitC, Option.some.injEq, Prod.mk.injEq] at hx
    obtain ⟨rfl, rfl, rfl⟩ := hx
    exact wp_exit (hQ a w φ (.refl _) he hR (.refl _ _) rfl rfl)
  | ret =>
    intro ac hc e H φ a w x e1 H1 Q hx he hR hsz hQ
    simp only [codeOf, Option.some.injEq] at hc
    subst hc
    simp only [exec, retC, Option.some.injEq, Prod.mk.injEq] at hx
    obtain ⟨rfl, rfl, rfl⟩ := hx
    exact wp_ret (hQ a w φ (.refl _) he hR (.refl _ _) rfl rfl)
  | _ => intro ac hc; simp [codeOf] at hc

end
end Ck

/-
Functions: what the machine's calls say is so.
-/
set_option linter.unusedSimpArgs false
set_option linter.unusedVariables false
namespace Ck
open Go

section
variable {P : Program} {ng : Nat} {w0 : World} {φ : Inj} {H : Heap} {w : World} {e : Env} {O : Oracle}

def resSem (tmps : Array Value) : ResultVar → Sem Value
  | .tmp t => pure (tmps.getD t undef)
  | .cell a t => do loadVar t (← asAddr (tmps.getD a undef))

theorem cell_ok {a : Act} {g : Bool} {n t : Nat} {ty : TypeId} {v : Value} (hR : Rel ng w0 φ H w) (ha : VRel φ (e t) (a.tmps.getD t undef)) (hg : aggT P ty = some g) (hn : sz P ty = some n)
    (h : ldV g n (e t) H = some v) : Gives P φ w (resSem a.tmps (.cell t ty)) v := by
  obtain ⟨c, hc, hv⟩ := ld_ok hR ha hg hn h
  refine ⟨c, ?_, hv⟩
  unfold resSem
  simp only
  unfold ldV at h
  split at h
  · rename_i b o heq
    rw [heq] at ha
    generalize a.tmps.getD t undef = q at ha hc ⊢
    cases ha
    simpa [Instr.loadAt, Instr.sureAddr, asAddr] using hc
  · simp at h

theorem resV_ok {keep : Nat} {a : Act} (hR : Rel ng w0 φ H w) (he : ERel φ keep e a) : ∀ (l : List ResultVar) (res : List Res) (vs : List Value), resOf P keep l = some res → resV e H res = some vs →
    ∃ cs, (l.mapM (resSem a.tmps)).run P w = .ok cs w ∧ LRel φ vs cs := by
  intro l
  induction l with
  | nil =>
    intro res vs hr hv
    simp only [resOf, Option.some.injEq] at hr
    subst hr
    simp only [resV, Option.some.injEq] at hv
    subst hv
    exact ⟨[], by simp, .nil⟩
  | cons r l ih =>
    intro res vs hr hv
    cases r with
    | tmp t =>
      simp only [resOf] at hr
      split at hr
      · rename_i hk
        simp only [Option.map_eq_some_iff] at hr
        obtain ⟨res', hr', rfl⟩ := hr
        simp only [resV, Option.map_eq_some_iff] at hv
        obtain ⟨vs', hv', rfl⟩ := hv
        obtain ⟨cs, hc, hl⟩ := ih res' vs' hr' hv'
        exact ⟨a.tmps.getD t undef :: cs, by simp [List.mapM_cons, resSem, hc], .cons (he t hk) hl⟩
      · simp at hr
    | cell t ty =>
      simp only [resOf] at hr
      split at hr
      · rename_i hk
        split at hr
        · rename_i g n hg hn
          simp only [Option.map_eq_some_iff] at hr
          obtain ⟨res', hr', rfl⟩ := hr
          simp only [resV, Option.bind_eq_some_iff, Option.map_eq_some_iff] at hv
          obtain ⟨v, hv1, vs', hv', rfl⟩ := hv
          obtain ⟨cs, hc, hl⟩ := ih res' vs' hr' hv'
          obtain ⟨c, hc1, hv2⟩ := cell_ok hR (he t hk) hg hn hv1
          exact ⟨c :: cs, by simp [List.mapM_cons, hc1, hc], .cons hv2 hl⟩
        · simp at hr
      · simp at hr

theorem pack_rel {vs cs : List Value} (h : LRel φ vs cs) : VRel φ (pack vs) (if h : cs.toArray.size = 1 then cs.toArray[0] else .tuple cs.toArray) := by
  cases h with
  | nil => exact .tuple (xs := []) (ys := []) .nil
  | cons hx h =>
    cases h with
    | nil => simpa [pack] using hx
    | cons hy h => simpa [pack] using VRel.tuple (.cons hx (.cons hy h))

theorem results_ok {fn : Func} {keep : Nat} {a : Act} {res : List Res} {vs : List Value} (hR : Rel ng w0 φ H w) (he : ERel φ keep e a) (hr : resOf P keep fn.results.toList = some res) (hv : resV e H res = some vs) :
    Gives P φ w (results fn a.tmps) (pack vs) := by
  obtain ⟨cs, hc, hl⟩ := resV_ok hR he _ _ _ hr hv
  refine ⟨_, ?_, pack_rel hl⟩
  have : results fn a.tmps = (do
      let vs ← List.toArray <$> fn.results.toList.mapM (resSem a.tmps)
      pure (if h : vs.size = 1 then vs[0] else .tuple vs)) := by
    unfold results
    rw [Array.mapM_eq_mapM_toList]
    rfl
  rw [this]
  simp [hc]

theorem call_ok {hints : FuncId → Option Hint} (hng : ng = P.globals.size) (hmix : P.follows .mixedOrders = true) : ∀ n, True_ P ng w0 (callN (tblOf P hints) n) := by
  intro n
  induction n with
  | zero => intro f args H v H' h; simp [callN] at h
  | succ n ih =>
    intro f args H v H' h
    simp only [callN, Option.bind_eq_some_iff] at h
    obtain ⟨F, hF, h⟩ := h
    simp only [tblOf, Option.bind_eq_some_iff] at hF
    obtain ⟨hi, _, fn, hfn, hF⟩ := hF
    unfold funcOf at hF
    split at hF
    · simp at hF
    · rename_i hname
      simp only [Option.bind_eq_some_iff, Option.map_eq_some_iff] at hF
      obtain ⟨c, hc, ac, hac, res, hres, rfl⟩ := hF
      refine ⟨⟨fn, hfn, by rw [hc]; rfl, by simpa using hname⟩, fun φ w cargs hR hl => ?_⟩
      refine calls_of_wp hfn hc ?_
      have hE : ERel φ hi.keep (env0 args) { tmps := cargs.toArray ++ Array.replicate (fn.ntmps - cargs.toArray.size) undef, defers := [] } := by
        intro t _
        unfold env0
        simp only [List.getD_eq_getElem?_getD, Array.getD_eq_getD_getElem?]
        rcases Nat.lt_or_ge t args.length with hlt | hge
        · obtain ⟨y, hy, hv⟩ := hl.get (List.getElem?_eq_getElem hlt)
          have hlt' : t < cargs.length := by rw [← hl.length]; exact hlt
          rw [List.getElem?_eq_getElem hlt, Array.getElem?_append_left (by simpa using hlt')]
          simp only [List.getElem?_toArray]
          rw [hy]
          exact hv
        · rw [List.getElem?_eq_none hge, Array.getElem?_append_right (by simp; rw [← hl.length]; exact hge)]
          simp only [Array.getElem?_replicate]
          split <;> exact VRel.undef
      cases hm : exec (callN (tblOf P hints) n) (iter n) ac (env0 args) H with
      | none => rw [hm] at h; simp [endsV] at h
      | some r =>
        obtain ⟨x, e1, H1⟩ := r
        rw [hm] at h
        refine code_ok ih hng hmix n c ac hac (env0 args) H φ _ w x e1 H1 _ hm hE hR (by simp; omega) ?_
        intro a' w' ψ hle he' hR' hk hdf hs
        have fin : (resV e1 H1 res).map (fun l => (pack l, H1)) = some (v, H') → ∃ u, (results fn a'.tmps).run P w' = .ok u w' ∧ Ret ng w0 φ H v H' (.returned u) w' := by
          intro h
          simp only [Option.map_eq_some_iff, Prod.mk.injEq] at h
          obtain ⟨vs, hvs, rfl, rfl⟩ := h
          obtain ⟨u, hu, hv⟩ := results_ok hR' he' hres hvs
          exact ⟨u, hu, u, ψ, rfl, hle, hv, hR', hk⟩
        cases x with
        | normal =>
          simp only [endsV] at h
          obtain ⟨u, h1, h2⟩ := fin h
          exact ⟨by simpa using hdf, u, h1, h2⟩
        | exit id => simp [endsV] at h
        | ret =>
          simp only [endsV] at h
          obtain ⟨u, h1, h2⟩ := fin h
          exact ⟨by simpa using hdf, u, h1, h2⟩

end
end Ck

/-
The machine once more, so that the kernel computes it: what is said again is compared by a look at the values.
-/
set_option linter.unusedSimpArgs false
set_option linter.unusedVariables false
namespace Ck
open Go

def eqA : Option Addr → Option Addr → Bool
  | none, none => true
  | some ⟨b, o, none⟩, some ⟨b', o', none⟩ => Nat.beq b b' && Nat.beq o o'
  | _, _ => false

/-- Are they the same? (It may say no though they are.) -/
def eqAtom : Value → Value → Bool
  | .bool a, .bool b => a == b
  | .int k a, .int l b => decide (k = l) && decide (a = b)
  | .pointer a, .pointer b => eqA a b
  | .slice a n c, .slice b m d => eqA a b && Nat.beq n m && Nat.beq c d
  | .map none, .map none => true
  | .map (some a), .map (some b) => Nat.beq a b
  | .nilFunc, .nilFunc => true
  | .nilIface, .nilIface => true
  | _, _ => false

def eqAtoms : List Value → List Value → Bool
  | [], [] => true
  | a :: l, b :: r => eqAtom a b && eqAtoms l r
  | _, _ => false

def eqV : Value → Value → Bool
  | .agg a, .agg b => eqAtoms a.toList b.toList
  | a, b => eqAtom a b

theorem eqA_ok {a b : Option Addr} (h : eqA a b = true) : a = b := by
  unfold eqA at h
  split at h
  · rfl
  · simp only [Bool.and_eq_true] at h
    rw [Nat.eq_of_beq_eq_true h.1, Nat.eq_of_beq_eq_true h.2]
  · simp at h

theorem eqAtom_ok {a b : Value} (h : eqAtom a b = true) : a = b := by
  unfold eqAtom at h
  split at h
  · simp at h; rw [h]
  · simp at h; rw [h.1, h.2]
  · rw [eqA_ok h]
  · simp only [Bool.and_eq_true] at h
    rw [eqA_ok h.1.1, Nat.eq_of_beq_eq_true h.1.2, Nat.eq_of_beq_eq_true h.2]
  · rfl
  · rw [Nat.eq_of_beq_eq_true h]
  · rfl
  · rfl
  · simp at h

theorem eqAtoms_ok : ∀ {a b : List Value}, eqAtoms a b = true → a = b
  | [], [], _ => rfl
  | x :: l, y :: r, h => by
    simp only [eqAtoms, Bool.and_eq_true] at h
    rw [eqAtom_ok h.1, eqAtoms_ok h.2]
  | [], _ :: _, h => by simp [eqAtoms] at h
  | _ :: _, [], h => by simp [eqAtoms] at h

theorem eqV_ok {a b : Value} (h : eqV a b = true) : a = b := by
  unfold eqV at h
  split at h
  · have := eqAtoms_ok h
    rename_i x y
    rw [show x = y from Array.toList_inj.1 this]
  · exact eqAtom_ok h

def againK {α : Type} (x : Option Value) (v : Value) (k : Option α) : Option α :=
  match x with
  | some u => if eqV u v = true then k else none
  | none => none

def runItemsK (O : Oracle) : List Item → Env → Heap → Option (Env × Heap)
  | [], e, H => some (e, H)
  | .op o :: r, e, H =>
    match o.k with
    | .p k => (guardV (o.gv e) (evP k e)).bind fun v => runItemsK O r (put e o.dst v) H
    | .r k => (guardV (o.gv e) (evR k e H)).bind fun v => runItemsK O r (put e o.dst v) H
    | .n k => (guardH (o.gv e) (evN k e H) H).bind fun x => runItemsK O r (put e o.dst x.1) x.2
    | .e k => (guardH (o.gv e) (evE O k e H) H).bind fun x => runItemsK O r (put e o.dst x.1) x.2
    | .bad => none
  | .chk o v :: r, e, H =>
    match o.k with
    | .r k => againK (guardV (o.gv e) (evR k e H)) (e v) (runItemsK O r e H)
    | _ => none

theorem againK_ok {α : Type} {x : Option Value} {v : Value} {k : Option α} {y : α} (h : againK x v k = some y) : again x v k = some y := by
  unfold againK at h
  split at h
  · split at h
    · rename_i u hu
      unfold again
      rw [if_pos (by rw [eqV_ok hu]), h]
    · simp at h
  · simp at h

theorem runItemsK_ok {O O' : Oracle} (hO : ∀ f a H r, O f a H = some r → O' f a H = some r) : ∀ (l : List Item) (e : Env) (H : Heap) (r : Env × Heap), runItemsK O l e H = some r → runItems O' l e H = some r := by
  intro l
  induction l with
  | nil => intro e H r h; exact h
  | cons i l ih =>
    intro e H r h
    cases i with
    | op o =>
      unfold runItemsK at h
      unfold runItems
      cases hk : o.k with
      | p k =>
        simp only [hk, Option.bind_eq_some_iff] at h ⊢
        obtain ⟨v, hv, h⟩ := h
        exact ⟨v, hv, ih _ _ _ h⟩
      | r k =>
        simp only [hk, Option.bind_eq_some_iff] at h ⊢
        obtain ⟨v, hv, h⟩ := h
        exact ⟨v, hv, ih _ _ _ h⟩
      | n k =>
        simp only [hk, Option.bind_eq_some_iff] at h ⊢
        obtain ⟨v, hv, h⟩ := h
        exact ⟨v, hv, ih _ _ _ h⟩
      | e k =>
        simp only [hk, Option.bind_eq_some_iff] at h ⊢
        obtain ⟨v, hv, h⟩ := h
        refine ⟨v, ?_, ih _ _ _ h⟩
        have hE : ∀ x, evE O k e H = some x → evE O' k e H = some x := by
          intro x hx
          cases k with
          | call f args => exact hO _ _ _ _ hx
          | dyn f args =>
            simp only [evE, dynV] at hx ⊢
            split at hx
            · exact hO _ _ _ _ hx
            · simp at hx
          | _ => exact hx
        unfold guardH at hv ⊢
        split at hv
        · exact hE _ hv
        · split at hv
          · rename_i hb; rw [if_pos hb]; exact hE _ hv
          · rename_i hb; rw [if_neg hb]; exact hv
        · exact hv
        · simp at hv
      | bad => simp [hk] at h
    | chk o v =>
      unfold runItemsK at h
      unfold runItems
      cases hk : o.k with
      | r k =>
        simp only [hk] at h ⊢
        refine againK_ok ?_
        unfold againK at h ⊢
        split at h
        · split at h
          · rename_i hu
            rw [if_pos hu]
            exact ih _ _ _ h
          · simp at h
        · simp at h
      | _ => simp [hk] at h

def opsCK (O : Oracle) (l : List Item) (outs : List Nat) : Cd := fun e H =>
  (runItemsK O l e H).map fun x => (.normal, outE outs e x.1, x.2)

def execK (O : Oracle) (L : Cd → Cd) : AC → Cd
  | .skip => skipC
  | .ops l outs => opsCK O l outs
  | .seq a b => seqC (execK O L a) (execK O L b)
  | .cond x a b => condC x (execK O L a) (execK O L b)
  | .block id a => blockC id (execK O L a)
  | .loop a => L (execK O L a)
  | .exit id => exitC id
  | .ret => retC

def callK (tbl : FuncId → Option AF) : Nat → Oracle
  | 0 => fun _ _ _ => none
  | n + 1 => fun f args H => (tbl f).bind fun F => endsV F.res (execK (callK tbl n) (iter n) F.body (env0 args) H)

def Sub (a b : Cd) : Prop := ∀ e H r, a e H = some r → b e H = some r

theorem andThen_sub {x y : Out} {k k' : Cd} (h : ∀ r, x = some r → y = some r) (hk : Sub k k') : ∀ r, andThen x k = some r → andThen y k' = some r := by
  intro r hr
  cases x with
  | none => simp [andThen] at hr
  | some q =>
    rw [h q rfl]
    obtain ⟨z, e, H⟩ := q
    cases z with
    | normal => exact hk _ _ _ hr
    | _ => exact hr

theorem ends_sub {res : List Res} {x y : Out} (h : ∀ r, x = some r → y = some r) : ∀ r, endsV res x = some r → endsV res y = some r := by
  intro r hr
  cases x with
  | none => simp [endsV] at hr
  | some q => rw [h q rfl]; exact hr

theorem iter_sub {a b : Cd} (h : Sub a b) : ∀ n m, n ≤ m → Sub (iter n a) (iter m b) := by
  intro n
  induction n with
  | zero => intro m _ e H r hr; simp [iter] at hr
  | succ n ih =>
    intro m hm e H r hr
    obtain ⟨m, rfl⟩ : ∃ k, m = k + 1 := ⟨m - 1, by omega⟩
    exact andThen_sub (fun r hr => h _ _ _ hr) (ih m (by omega)) r hr

theorem execK_sub {O O' : Oracle} (hO : ∀ f a H r, O f a H = some r → O' f a H = some r) {L L' : Cd → Cd} (hL : ∀ a b, Sub a b → Sub (L a) (L' b)) : ∀ c : AC, Sub (execK O L c) (exec O' L' c) := by
  intro c
  induction c with
  | skip => exact fun e H r h => h
  | ops l outs =>
    intro e H r h
    simp only [execK, opsCK, exec, opsC, Option.map_eq_some_iff] at h ⊢
    obtain ⟨x, hx, h⟩ := h
    exact ⟨x, runItemsK_ok hO _ _ _ _ hx, h⟩
  | seq a b iha ihb => exact fun e H r h => andThen_sub (fun r hr => iha _ _ _ hr) ihb r h
  | cond x a b iha ihb =>
    intro e H r h
    simp only [execK, condC, exec] at h ⊢
    unfold ifV at h ⊢
    split at h
    · exact iha _ _ _ h
    · exact ihb _ _ _ h
    · simp at h
  | block id a iha =>
    intro e H r h
    simp only [execK, blockC, exec] at h ⊢
    cases hx : execK O L a e H with
    | none => rw [hx] at h; simp [leave] at h
    | some q => rw [iha _ _ _ hx]; rw [hx] at h; exact h
  | loop a iha => exact hL _ _ iha
  | exit id => exact fun e H r h => h
  | ret => exact fun e H r h => h

theorem callK_ok {tbl : FuncId → Option AF} : ∀ n f args H r, callK tbl n f args H = some r → callN tbl n f args H = some r := by
  intro n
  induction n with
  | zero => intro f args H r h; simp [callK] at h
  | succ n ih =>
    intro f args H r h
    simp only [callK, callN, Option.bind_eq_some_iff] at h ⊢
    obtain ⟨F, hF, h⟩ := h
    exact ⟨F, hF, ends_sub (fun r hr => execK_sub ih (fun a b hab => iter_sub hab n n (Nat.le_refl _)) F.body _ _ _ hr) r h⟩

end Ck
