/- Behind a call. No condition. -/
import Derived.Test.YtgediecndaheiaaGreatRContract
set_option linter.all false
namespace Go.Proofs.YtgediecndaheiaaGreat.R
open Go.RowKit
variable {P : Program} {C : Ctx} {w0 : World} {lent : Nat → Prop} {H0 : Base} {s : St} {a : Act} {w : World} {G : Gh}
theorem y6f {G : Gh} {l : List A} {vs1 vs' : List Value} {n : Nat} (hr : RL G l (vs1 ++ vs')) (hn : vs1.length = n) : RL G (l.take n) vs1 ∧ RL G (l.drop n) vs' := by
 subst hn
 have h1 := RL.take vs1.length hr
 have h2 := RL.drop vs1.length hr
 rw [List.take_left' rfl] at h1
 rw [List.drop_left' rfl] at h2
 exact ⟨h1, h2⟩
theorem y2D {G : Gh} : ∀ (rs : List RK) (l as rl : List A) (vs cs rest : List Value), qY rs l = some (as, rl) → RL G l vs → Qq rs vs cs rest → RL G as cs ∧ RL G rl rest := by
 intro rs
 induction rs with
 | nil =>
  intro l as rl vs cs rest h hr hs
  simp only [qY, Option.some.injEq, Prod.mk.injEq] at h
  obtain ⟨rfl, rfl⟩ := h
  obtain ⟨rfl, rfl⟩ := hs
  exact ⟨trivial, hr⟩
 | cons r rs ih =>
  intro l as rl vs cs rest h hr hs
  simp only [qY] at h
  cases hm : mkA r.agg (l.take r.ts.length) with
  | none => simp [hm] at h
  | some x =>
   simp only [hm] at h
   cases hsh : qY rs (l.drop r.ts.length) with
   | none => simp [hsh] at h
   | some p =>
    obtain ⟨as', rl'⟩ := p
    simp only [hsh, Option.some.injEq, Prod.mk.injEq] at h
    obtain ⟨rfl, rfl⟩ := h
    obtain ⟨vs1, vs', c, cs', rfl, hl, rfl, hc, hs'⟩ := hs
    obtain ⟨h1, h2⟩ := y6f hr hl
    obtain ⟨i1, i2⟩ := ih _ as' rl' vs' cs' rest hsh h2 hs'
    refine ⟨⟨?_, i1⟩, i2⟩
    have := y9G hm h1
    cases ha : r.agg with
    | true =>
     rw [ha] at this hc
     rw [show c = _ from hc]
     exact this
    | false =>
     rw [ha] at this hc
     rw [show vs1 = _ from hc] at this
     exact this
theorem ycW {G : Gh} {wr : Option Nat} {x : A} {b : Nat} {v : Value} (h : qz wr x = some b) (hr : RA G x v) : v = y9U wr (.pointer (some ⟨(G.g b).1, (G.g b).2, none⟩)) := by
 cases wr with
 | none =>
  cases x with
  | box b' off =>
   simp only [qz] at h
   cases ho : Nat.beq off 0 with
   | false => simp [ho] at h
   | true =>
    have := Nat.eq_of_beq_eq_true ho
    subst this
    simp only [ho, cond_true, Option.some.injEq] at h
    subst h
    exact hr
  | _ => simp [qz] at h
 | some f =>
  cases x with
  | clo f' b' =>
   simp only [qz] at h
   cases hf : Nat.blt f 1000000000 with
   | false => simp [hf] at h
   | true =>
    cases ho : Nat.beq f f' with
    | false => simp [ho] at h
    | true =>
     have := Nat.eq_of_beq_eq_true ho
     subst this
     simp only [ho, hf, Bool.and_self, cond_true, Option.some.injEq] at h
     subst h
     simp only [y9U, hf, cond_true]
     exact hr
  | box b' off =>
   simp only [qz] at h
   cases ho : Nat.beq f (1000000000 + off) with
   | false => simp [ho] at h
   | true =>
    have := Nat.eq_of_beq_eq_true ho
    subst this
    simp only [ho, cond_true, Option.some.injEq] at h
    subst h
    have hb : Nat.blt (1000000000 + off) 1000000000 = false := by
     cases hc : Nat.blt (1000000000 + off) 1000000000 with
     | false => rfl
     | true =>
      have := Nat.le_of_ble_eq_true (show Nat.ble (1000000000 + off + 1) 1000000000 = true from hc)
      omega
    simp only [y9U, hb, cond_false, show 1000000000 + off - 1000000000 = off by omega]
    exact hr
  | _ => simp [qz] at h
theorem ycX {G : Gh} {x : A} {g : Nat} {ex : List A} {v : Value} (h : y20 x = some (g, ex)) (hr : RA G x v) : ∃ exv, RL G ex exv ∧ v = .func (.func g) #[] exv.toArray := by
 cases x with
 | fn f =>
  simp only [y20, Option.some.injEq, Prod.mk.injEq] at h
  obtain ⟨rfl, rfl⟩ := h
  exact ⟨[], trivial, hr⟩
 | clo f b =>
  simp only [y20, Option.some.injEq, Prod.mk.injEq] at h
  obtain ⟨rfl, rfl⟩ := h
  exact ⟨[.pointer (some ⟨(G.g b).1, (G.g b).2 + 0, none⟩)], ⟨rfl, trivial⟩, hr⟩
 | _ => simp [y20] at h
theorem y8g (h : Rel P w0 lent H0 s a w G) {lk : Lk} (hlk : y4T lk s) : ∀ (ps : List PK) (as : List A) (args : List Value) (l : List A) (bs : List (Nat × Nat)), Je lk ps as = some (l, bs) → RL G as args →
  ∃ vs, RL G l vs ∧ VY w ps args vs (bs.map fun p => G.g p.1) ∧ ∀ p ∈ bs, ∃ cs, z4 s.o p.1 = some (.box cs) ∧ cs.length = p.2 := by
 intro ps
 induction ps with
 | nil =>
  intro as args l bs hg hr
  cases as with
  | nil =>
   simp only [Je, Option.some.injEq, Prod.mk.injEq] at hg
   obtain ⟨rfl, rfl⟩ := hg
   cases args with
   | nil => exact ⟨[], trivial, ⟨rfl, rfl, rfl⟩, by simp⟩
   | cons _ _ => exact hr.elim
  | cons _ _ => simp [Je] at hg
 | cons p ps ih =>
  intro as args l bs hg hr
  cases as with
  | nil => cases p <;> simp [Je] at hg
  | cons x as =>
   cases args with
   | nil => exact hr.elim
   | cons v args =>
    cases p with
    | v agg ts os =>
     simp only [Je] at hg
     cases hc : J7 agg x with
     | none => simp [hc] at hg
     | some c =>
      cases hga : Je lk ps as with
      | none => simp [hc, hga] at hg
      | some q =>
       obtain ⟨l', bs'⟩ := q
       simp only [hc, hga] at hg
       cases hb : Nat.beq c.length ts.length with
       | false => simp [hb] at hg
       | true =>
        simp only [hb, cond_true, Option.some.injEq, Prod.mk.injEq] at hg
        obtain ⟨rfl, rfl⟩ := hg
        obtain ⟨vs', i1, i2, i3⟩ := ih as args l' bs' hga hr.2
        have key : ∃ vs1, RL G c vs1 ∧ (if agg then v = .agg vs1.toArray else vs1 = [v]) := by
         cases agg with
         | true =>
          cases x with
          | agg l0 =>
           simp only [J7, Option.some.injEq] at hc
           subst hc
           obtain ⟨cs, hv, hl⟩ := hr.1
           exact ⟨cs, hl, hv⟩
          | _ => simp [J7] at hc
         | false =>
          have : c = [x] := by
           cases x <;> simp [J7] at hc <;> exact hc.symm
          subst this
          exact ⟨[v], ⟨hr.1, trivial⟩, rfl⟩
        obtain ⟨vs1, k1, k2⟩ := key
        exact ⟨vs1 ++ vs', RL.append k1 i1, ⟨v, vs1, args, vs', rfl, rfl, by rw [← k1.length]; exact Nat.eq_of_beq_eq_true hb, k2, i2⟩, i3⟩
    | k f =>
     simp only [Je] at hg
     cases x with
     | fn f' =>
      simp only at hg
      cases hb : Nat.beq f f' with
      | false => simp [hb] at hg
      | true =>
       simp only [hb, cond_true] at hg
       obtain ⟨vs, i1, i2, i3⟩ := ih as args l bs hg hr.2
       exact ⟨vs, i1, ⟨args, by rw [show v = _ from hr.1, Nat.eq_of_beq_eq_true hb], i2⟩, i3⟩
     | _ => simp at hg
    | p wr ts os =>
     simp only [Je] at hg
     cases hu : qz wr x with
     | none => simp [hu] at hg
     | some b =>
      simp only [hu] at hg
      have hv := ycW hu hr.1
      cases hb : lk b with
      | none => simp [hb] at hg
      | some ob =>
       cases ob with
       | box cs =>
        simp only [hb] at hg
        cases hga : Je lk ps as with
        | none => simp [hga] at hg
        | some q =>
         obtain ⟨l', bs'⟩ := q
         simp only [hga] at hg
         cases hbb : Nat.beq ts.length cs.length with
         | false => simp [hbb] at hg
         | true =>
          simp only [hbb, cond_true, Option.some.injEq, Prod.mk.injEq] at hg
          obtain ⟨rfl, rfl⟩ := hg
          have hl := Nat.eq_of_beq_eq_true hbb
          obtain ⟨vs', i1, i2, i3⟩ := ih as args l' bs' hga hr.2
          have hro := h.objs b _ (hlk b _ hb)
          obtain ⟨vs1, c1, c2, c3, c4⟩ := y1o (G := G) cs (fun j => w.cell? ⟨(G.g b).1, (G.g b).2 + j, none⟩) (fun i c hc => (hro.2 i c hc).2)
          refine ⟨vs1 ++ vs', RL.append c4 i1, ⟨(G.g b).1, (G.g b).2, vs1, args, vs', bs'.map fun p => G.g p.1, by rw [hv], rfl, by rw [c1, hl], rfl, ⟨hro.1, fun j u hu => ?_⟩, i2⟩, fun p hp => ?_⟩
          ·have hj : j < cs.length := by
            have := (List.getElem?_eq_some_iff.1 hu).1
            omega
           exact ⟨(hro.2 j _ (List.getElem?_eq_getElem hj)).1, c2 j u hu, c3 u (List.mem_of_getElem? hu)⟩
          ·rcases List.mem_cons.1 hp with rfl | hp
           ·exact ⟨cs, hlk b _ hb, hl.symm⟩
           ·exact i3 p hp
       | _ => simp [hb] at hg
end Go.Proofs.YtgediecndaheiaaGreat.R
