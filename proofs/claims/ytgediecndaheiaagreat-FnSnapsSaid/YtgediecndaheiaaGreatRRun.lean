/- The steps of a region are what its operations do; regions in the order of the text. Conditions: the types lie as the context says; functions do what the evaluator says. -/
import Derived.Test.YtgediecndaheiaaGreatRGroup
set_option linter.all false
namespace Go.Proofs.YtgediecndaheiaaGreat.R
open Go.RowKit
variable {P : Program} {C : Ctx} {w0 : World} {lent : Nat → Prop} {H0 : Base} {s : St} {a : Act} {w : World} {G : Gh} {call : C.Sem} {ops : Array Oper} {K : Act → World → Prop} {Q : Exit → Act → World → Prop}
theorem Rel.kill (h : Rel P w0 lent H0 s a w G) (d : Nat) : Rel P w0 lent H0 (s.put (some d) .dead) a w G := by
 refine { h with defers := h.defers, len := by simpa [St.put] using h.len, slots := fun i y hy => ?_ }
 have hy' : (s.t.set d .dead)[i]? = some y := hy
 by_cases hi : i = d
 ·subst hi
  have hlt : i < s.t.length := by
   have := (List.getElem?_eq_some_iff.1 hy').1
   simpa using this
  rw [List.getElem?_set_self hlt] at hy'
  injection hy' with hy'
  subst hy'
  trivial
 ·rw [List.getElem?_set_ne (Ne.symm hi)] at hy'
  exact h.slots i y hy'
theorem Rel.kills : ∀ (D : List Nat) {s : St}, Rel P w0 lent H0 s a w G → Rel P w0 lent H0 (Y0 s D) a w G
 | [], _, h => h
 | d :: D, _, h => Rel.kills D (h.kill d)
theorem Agree.refl (G : Gh) (i : Nat) : Agree G G i := ⟨Hp.le.refl _, fun _ _ => rfl, fun _ _ => rfl, fun _ _ => rfl, rfl⟩
theorem Rel.forgets : ∀ (M : List Nat) {s : St}, Rel P w0 lent H0 s a w G → Rel P w0 lent H0 (s.forgetAll M) a w G
 | [], _, h => h
 | i :: M, _, h => Rel.forgets M (h.forget (Agree.refl G i) rfl)
theorem y6l (h : Rel P w0 lent H0 s a w G) {c : Nat} {x : A} (hx : s.t[c]? = some x) : ∃ v, a.tmps[c]? = some v ∧ RA G x v := by
 have hlt : c < a.tmps.size := Nat.lt_of_lt_of_le (List.getElem?_eq_some_iff.1 hx).1 h.len
 have := h.slots c x hx
 rw [Array.getD_eq_getD_getElem?] at this
 rw [Array.getElem?_eq_getElem hlt] at this ⊢
 exact ⟨_, rfl, this⟩
theorem ye5 {s : St} {c : Nat} {x : A} (hx : s.F.opd (.tmp c) = x) (hne : x ≠ .dead) : s.t[c]? = some x := by
 have hx' : s.t.getD c .dead = x := hx
 rcases ydH hx' with h | h
 ·exact h
 ·exact absurd h hne
theorem y5E (h : Rel P w0 lent H0 s a w G) {o : Oper} {g : Option (Nat × Bool)} (hg : ZP ops o = some g) (hm : met s.F g = true) : Region.wanted o (yielded ops a.tmps) = true := by
 unfold ZP at hg
 unfold Region.wanted
 cases ho : o.guard with
 | none => rfl
 | some p =>
  obtain ⟨j, want⟩ := p
  simp only [ho] at hg ⊢
  cases hj : ops[j]? with
  | none => simp [hj] at hg
  | some q =>
   simp only [hj] at hg
   cases hd : q.dst with
   | none => simp [hd] at hg
   | some d =>
    simp only [hd, Option.some.injEq] at hg
    subst hg
    have hb : s.F.bool (.tmp d) = some want := by simpa [met] using hm
    rw [y3Y, y3h] at hb
    obtain ⟨v, hv, hr⟩ := y6l h hb
    have hr' : v = .bool want := hr
    subst hr'
    simp [yielded, hj, hd, hv]
theorem y8m (h : Rel P w0 lent H0 s a w G) {o : Oper} {g : Option (Nat × Bool)} (hg : ZP ops o = some g) (hm : y3Z s.F g = true) : Region.wanted o (yielded ops a.tmps) = false := by
 unfold ZP at hg
 unfold Region.wanted
 cases ho : o.guard with
 | none =>
  simp only [ho, Option.some.injEq] at hg
  subst hg
  simp [y3Z] at hm
 | some p =>
  obtain ⟨j, want⟩ := p
  simp only [ho] at hg ⊢
  cases hj : ops[j]? with
  | none => simp [hj] at hg
  | some q =>
   simp only [hj] at hg
   cases hd : q.dst with
   | none => simp [hd] at hg
   | some d =>
    simp only [hd, Option.some.injEq] at hg
    subst hg
    unfold y3Z at hm
    split at hm
    ·cases hm
    ·rename_i c v hcv
     injection hcv with hcv
     injection hcv with e1 e2
     subst e1 e2
     split at hm
     ·rename_i b hb
      obtain ⟨u, hv, hr⟩ := y6l h (ye5 hb (by simp))
      have hr' : u = .bool b := hr
      subst hr'
      have hne : ∀ x y : Bool, (x != y) = true → ((some x : Option Bool) == some y) = false := by decide
      have := hne b want hm
      simp only [yielded, hj, hd, Option.bind_some, hv]
      exact this
     ·rename_i hb
      obtain ⟨u, hv, hr⟩ := y6l h (ye5 hb (by simp))
      have hr' : u = undef := hr
      subst hr'
      simp [yielded, hj, hd, hv, undef]
     ·cases hm
theorem yga (x : Dop) (s : St) : y4T (x.see (z4 s.o)) s := by
 intro i ob h
 unfold Dop.see at h
 cases hb : Vi x.bad i with
 | true => simp [hb] at h
 | false =>
  simp only [hb, cond_false] at h
  split at h
  ·cases h
  ·cases hl : z4 s.o i with
   | none => simp [hl] at h
   | some y => cases y <;> simp [hl] at h ⊢ <;> exact h
  ·cases hl : z4 s.o i with
   | none => simp [hl] at h
   | some y => cases y <;> simp [hl] at h ⊢ <;> exact h
  ·exact h
theorem y5F (hT : TOk C P) (hC : v8 H0 C P call) {i : Nat} {t : TS} (hout : Out t.x.o) (hi : ops[i]? = some t.x.o) (hg : ZP ops t.x.o = some t.x.g) (h : Rel P w0 lent H0 s a w G) {z : FS} (hs : kI C call t s.F = some z)
  (hK : ∀ s' a' w' G', s'.F = z → Rel P w0 lent H0 s' a' w' G' → K a' w') : wpOp P ops Q i K a w := by
 unfold wpOp
 rw [hi]
 dsimp only
 cases t with
 | run x =>
  simp only [kI] at hs
  split at hs
  ·rename_i hm
   rw [if_pos (y5E h hg hm)]
   refine .inl ?_
   rw [yg7] at hs
   rw [← y3T] at hs
   refine yg6 hT hC h (fun e a1 w1 G1 hk hr => hK _ a1 w1 G1 ?_ hr) hout (yga x s) hs
   split at hk
   ·injection hk with hk
    rw [ya0]
    exact hk
   ·cases hk
  ·cases hs
 | skip x =>
  simp only [kI] at hs
  split at hs
  ·rename_i hm
   rw [if_neg (by rw [y8m h hg hm]; simp)]
   injection hs with hs
   exact hK (s.put x.o.dst .und) _ _ G (by rw [ye0]; exact hs) (h.put x.o.dst rfl)
  ·cases hs
 | pick x M D =>
  simp only [kI] at hs
  split at hs
  ·rename_i hm
   rw [if_pos (y5E h hg hm)]
   refine .inl ?_
   split at hs
   ·rename_i c x1 x2 hop
    cases hc : s.F.bool c with
    | none => simp [hc] at hs
    | some v =>
     cases hu : s.F.bool (if v then x1 else x2) with
     | none => simp [hc, hu] at hs
     | some u =>
      simp only [hc, hu, Option.bind_some, Option.some.injEq] at hs
      have hb : ∀ (y : Operand) (b : Bool), s.F.bool y = some b → a.eval y = .bool b := fun y b hy => by
       rw [y3Y] at hy
       have hr := h.opd y
       unfold z6 at hy
       split at hy
       ·rename_i b' hb'
        injection hy with hy
        subst hy
        rw [hb'] at hr
        exact hr
       ·cases hy
      have hrun : (execOp a.eval x.o).run P w = .ok (.value (.bool u)) w := by
       have h1 := hb c v hc
       have h2 := hb _ u hu
       simp only [execOp, hop, h1]
       cases v with
       | true =>
        simp only [if_true] at h2
        simp [asBool, h2]
       | false =>
        simp only [Bool.false_eq_true, if_false] at h2
        simp [asBool, h2]
      refine jo hrun (hK ((Y0 (s.forgetAll M) D).put x.o.dst (.val .bool u)) _ _ G ?_ (((h.forgets M).kills D).put x.o.dst rfl))
      rw [ye0, ye1, qH]
      exact hs
   ·cases hs
  ·cases hs
def yxp (ops : Array Oper) (L : List Dop) : Prop := L.length = ops.size ∧ ∀ (i : Nat) (x : Dop), L[i]? = some x → ops[i]? = some x.o ∧ ZP ops x.o = some x.g
theorem ybv (hT : TOk C P) (hC : v8 H0 C P call) (hout : ∀ (i : Nat) (o : Oper), ops[i]? = some o → Out o) {z : FS} (hQ : ∀ s' a' w' G', s'.F = z → Rel P w0 lent H0 s' a' w' G' → Q .normal a' w') : ∀ (T : List TS) (i : Nat) {s : St} {a : Act} {w : World} {G : Gh}, (∀ (j : Nat) (t : TS), T[j]? = some t → ops[i + j]? = some t.x.o ∧ ZP ops t.x.o = some t.x.g) →
  Rel P w0 lent H0 s a w G → wo C call T s.F = some z → wpOps P ops Q (List.range' i T.length) a w
 | [], i, s, a, w, G, hf, h, hs => by
  injection hs with hs
  exact hQ s a w G hs h
 | t :: T, i, s, a, w, G, hf, h, hs => by
  rw [wo] at hs
  cases hz : kI C call t s.F with
  | none => simp [hz] at hs
  | some z1 =>
   rw [hz, Option.bind_some] at hs
   rw [List.length_cons, List.range'_succ, wpOps_cons]
   have h0 := hf 0 t rfl
   refine y5F hT hC (hout _ _ h0.1) h0.1 h0.2 h hz fun s' a' w' G' hF hr => ?_
   refine ybv hT hC hout hQ T (i + 1) (fun j t hj => ?_) hr (by rw [hF]; exact hs)
   have := hf (j + 1) t (by simpa using hj)
   rw [show i + (j + 1) = i + 1 + j by omega] at this
   exact this
theorem y8n (l : List Dop) : l.map (YP []) = l := by
 have : YP [] = id := funext fun x => by
  unfold YP
  split
  ·simp
  ·rfl
 rw [this, List.map_id]
theorem ya3 (hT : TOk C P) (hC : v8 H0 C P call) (hout : ∀ (i : Nat) (o : Oper), ops[i]? = some o → Out o) {L : List Dop} (hfit : yxp ops L) {R : Type} {k : St → Option R} {r : R} {n : Nat} (h : Rel P w0 lent H0 s a w G) (he : kE C call false n L s k = some r)
  (hQ : ∀ s' a' w' G', k s' = some r → Rel P w0 lent H0 s' a' w' G' → Q .normal a' w') : wpOps P ops Q (List.range ops.size) a w := by
 obtain ⟨T, s', hf, hk⟩ := ye4 n false L [] s k r (by rw [y8n]; exact he) (by simp)
 have hlen : T.length = ops.size := by
  rw [← hfit.1, ← hf.x, List.length_map]
 rw [List.range_eq_range', ← hlen]
 refine ybv hT hC hout (z := s'.F) (fun s2 a2 w2 G2 hF hr => hQ s' a2 w2 G2 hk ?_) T 0 (fun j t hj => ?_) h hf.steps
 ·have ht : s2.t = s'.t := congrArg FS.t hF
  have ho : z4 s2.o = z4 s'.o := congrArg FS.lk hF
  exact hr.congr ht.symm fun i => (congrFun ho i).symm
 ·rw [Nat.zero_add]
  refine hfit.2 j t.x ?_
  rw [← hf.x, List.getElem?_map, hj]
  rfl
end Go.Proofs.YtgediecndaheiaaGreat.R
