/- Regions in whatever order. Conditions: the types lie as the context says; functions do what the evaluator says. -/
import Derived.Test.YtgediecndaheiaaGreatRSwap2
set_option linter.all false
namespace Go.Proofs.YtgediecndaheiaaGreat.R
open Go.RowKit
variable {P : Program} {C : Ctx} {w0 : World} {lent : Nat → Prop} {H0 : Base} {s : St} {a : Act} {w : World} {G : Gh} {call : C.Sem} {ops : Array Oper} {K : Act → World → Prop} {Q : Exit → Act → World → Prop}
theorem y2J : ∀ (l l' : List Oper) (acc : List Nat), vh (l ++ l') acc = vh l' (vh l acc)
 | [], _, _ => rfl
 | o :: l, l', acc => y2J l l' _
theorem y44 : ∀ (l : List Oper) (acc : List Nat), ∃ t, vh l acc = acc ++ t ∧ t.length = l.length
 | [], acc => ⟨[], by simp [vh], rfl⟩
 | o :: l, acc => by
  obtain ⟨t, h, hl⟩ := y44 l (acc ++ [y22 acc o.after.toList])
  exact ⟨y22 acc o.after.toList :: t, by rw [vh, h]; simp, by simp [hl]⟩
theorem y2a {acc : List Nat} {j : Nat} : ∀ (es : List Edge), (y22 acc es).testBit j = true → ∃ e ∈ es, Region.binds .any e = true ∧ (e.on = j ∨ (acc.getD e.on 0).testBit j = true)
 | [], h => by simp [y22] at h
 | e :: es, h => by
  rw [y22] at h
  cases hb : Region.binds .any e with
  | false =>
   rw [hb, cond_false] at h
   obtain ⟨e', h1, h2⟩ := y2a es h
   exact ⟨e', by simp [h1], h2⟩
  | true =>
   rw [hb, cond_true, Nat.testBit_or, Nat.testBit_or, Bool.or_eq_true, Bool.or_eq_true] at h
   rcases h with (h | h) | h
   ·refine ⟨e, by simp, hb, .inl ?_⟩
    rw [Nat.testBit_two_pow] at h
    simpa using h
   ·exact ⟨e, by simp, hb, .inr h⟩
   ·obtain ⟨e', h1, h2⟩ := y2a es h
    exact ⟨e', by simp [h1], h2⟩
theorem ybx {acc : List Nat} {e : Edge} (hb : Region.binds .any e = true) : ∀ (es : List Edge), e ∈ es → (y22 acc es).testBit e.on = true
 | f :: es, h => by
  rw [y22]
  rcases List.mem_cons.1 h with rfl | h
  ·rw [hb, cond_true, Nat.testBit_or, Nat.testBit_or, Nat.testBit_two_pow_self]
   rfl
  ·have := ybx (acc := acc) hb es h
   cases Region.binds .any f with
   | false => exact this
   | true => rw [cond_true, Nat.testBit_or, this, Bool.or_true]
theorem yby {ops : Array Oper} {i : Nat} {o : Oper} (h : ops[i]? = some o) : ∃ acc : List Nat, (vh ops.toList []).getD i 0 = y22 acc o.after.toList ∧ ∀ j, (acc.getD j 0) = if j < i then (vh ops.toList []).getD j 0 else 0 := by
 have hl : ops.toList[i]? = some o := by simpa using h
 obtain ⟨l1, l2, hs, hlen⟩ : ∃ l1 l2, ops.toList = l1 ++ o :: l2 ∧ l1.length = i := by
  have hlt := (List.getElem?_eq_some_iff.1 hl).1
  refine ⟨ops.toList.take i, ops.toList.drop (i + 1), ?_, by rw [List.length_take]; omega⟩
  have h2 := (List.getElem?_eq_some_iff.1 hl).2
  rw [← h2, List.getElem_cons_drop, List.take_append_drop]
 obtain ⟨t1, h1, k1⟩ := y44 l1 []
 rw [List.nil_append] at h1
 obtain ⟨t2, h2, k2⟩ := y44 l2 (t1 ++ [y22 t1 o.after.toList])
 have hm : vh ops.toList [] = t1 ++ [y22 t1 o.after.toList] ++ t2 := by rw [hs, y2J, h1, vh, h2]
 have hi : t1.length = i := by rw [k1, hlen]
 refine ⟨t1, ?_, fun j => ?_⟩
 ·rw [hm, List.append_assoc, List.getD_eq_getElem?_getD, List.getElem?_append_right (by omega)]
  simp [hi]
 ·split
  ·rename_i hj
   rw [hm, List.append_assoc, List.getD_eq_getElem?_getD, List.getD_eq_getElem?_getD, List.getElem?_append_left (by omega)]
  ·rename_i hj
   rw [List.getD_eq_getElem?_getD, List.getElem?_eq_none (by omega)]
   rfl
structure Drawn (C : Ctx) (ops : Array Oper) (L : List Dop) : Prop where
 fit : yxp ops L
 mine : ∀ (i : Nat) (x : Dop), L[i]? = some x → x.mine = VV C x.o
 loose : ∀ (i j : Nat) (x y : Dop), L[i]? = some x → L[j]? = some y → i ≠ j → yhV (vh ops.toList []) i j = false → Loose ops x y
 later : ∀ (i j : Nat) (x y : Dop), L[i]? = some x → L[j]? = some y → i ≠ j → ((vh ops.toList []).getD i 0).testBit j = false → ∀ m ∈ y.mine, m ∈ x.later
 lt : ∀ (i : Nat) (x : Dop), L[i]? = some x → (vh ops.toList []).getD i 0 < 2 ^ i
def yi0 (a t : Nat) : Prop := a = 0 ∨ a = t ∨ yhU t = 0
theorem ye7 (a b : Nat) : yi0 a (ydD a b) := by
 unfold ydD yi0
 cases a with
 | zero => exact .inl rfl
 | succ a =>
  cases b with
  | zero => exact .inr (.inl rfl)
  | succ b =>
   by_cases h : a + 1 = b + 1
   ·rw [h]
    simp [yw]
   ·simp [yF h, yhU]
theorem yd1 {a b c : Nat} (h : yi0 a b) : yi0 a (ydD c b) := by
 unfold ydD
 cases c with
 | zero => exact h
 | succ c =>
  cases b with
  | zero =>
   rcases h with h | h | h
   ·exact .inl h
   ·exact .inl h
   ·simp [yhU] at h
  | succ b =>
   by_cases hcb : c + 1 = b + 1
   ·simp only [hcb, yw, cond_true]
    exact h
   ·simp only [yF hcb, cond_false]
    exact .inr (.inr rfl)
theorem yjl {a t v : Nat} (hv : v = yhU t) (h : yi0 a t) : a = 0 ∨ (a = 1 ∧ (v = 0 ∨ v = 1)) ∨ (a = 3 ∧ (v = 0 ∨ v = 3)) ∨ v = 0 := by
 subst hv
 rcases h with h | rfl | h
 ·exact .inl h
 ·unfold yhU
  split
  ·exact .inl rfl
  ·exact .inr (.inl ⟨rfl, .inr rfl⟩)
  ·exact .inr (.inr (.inl ⟨rfl, .inr rfl⟩))
  ·exact .inr (.inr (.inr rfl))
 ·exact .inr (.inr (.inr h))
theorem ym3 {a b : Nat} {X Y : List Nat} (h : (Nat.beq a 0 = true ∨ Nat.beq b 0 = true) ∨ (Nat.beq a 4 = true ∧ Nat.beq b 4 = true) ∧ y0z X Y = true) : a = 0 ∨ b = 0 ∨ (a = 4 ∧ b = 4 ∧ ∀ i ∈ X, i ∉ Y) := by
 rcases h with (h | h) | ⟨⟨h1, h2⟩, h3⟩
 ·exact .inl (Nat.eq_of_beq_eq_true h)
 ·exact .inr (.inl (Nat.eq_of_beq_eq_true h))
 ·exact .inr (.inr ⟨Nat.eq_of_beq_eq_true h1, Nat.eq_of_beq_eq_true h2, fun i hi => vp h3 i hi⟩)
theorem yjm {a t v : Nat} (hv : v = yhU t) (h : yi0 (ylH a) t) : a = 0 ∨ (a = 1 ∧ (v = 0 ∨ v = 1)) ∨ (a = 3 ∧ (v = 0 ∨ v = 3)) ∨ v = 0 ∨ a = 4 := by
 by_cases ha : a = 4
 ·exact .inr (.inr (.inr (.inr ha)))
 ·have hn : ylH a = a := by simp [ylH, yF ha]
  rw [hn] at h
  rcases yjl hv h with h | h | h | h
  ·exact .inl h
  ·exact .inr (.inl h)
  ·exact .inr (.inr (.inl h))
  ·exact .inr (.inr (.inr (.inl h)))
theorem y5K {h0 : List Nat} {ms : List Nat} : ∀ (l : List Oper) (i : Nat) (L : List Dop), y83 C h0 ops ms i l = some L → L.length = l.length ∧ ∀ (k : Nat) (x : Dop), L[k]? = some x → l[k]? = some x.o ∧ ZP ops x.o = some x.g ∧
  (vi C h0 ops ms (i + k) x.o 0 ops.toList).ok = true ∧ x.vis = yhU (vi C h0 ops ms (i + k) x.o 0 ops.toList).top ∧ x.cls = Ql C h0 x.o ∧ x.bad = (vi C h0 ops ms (i + k) x.o 0 ops.toList).bad ∧ x.later = (vi C h0 ops ms (i + k) x.o 0 ops.toList).later ∧ x.mine = VV C x.o ∧ x.fp = fpO h0 x.o ∧ ms.getD (i + k) 0 < 2 ^ (i + k)
 | [], i, L, h => by
  simp only [y83, Option.some.injEq] at h
  subst h
  exact ⟨rfl, fun k x hk => by simp at hk⟩
 | o :: r, i, L, h => by
  simp only [y83] at h
  cases hg : ZP ops o with
  | none => simp [hg] at h
  | some g =>
   cases hl : y83 C h0 ops ms (i + 1) r with
   | none => simp [hg, hl] at h
   | some l =>
    simp only [hg, hl] at h
    cases hb : (vi C h0 ops ms i o 0 ops.toList).ok && Nat.blt (ms.getD i 0) (2 ^ i) with
    | false =>
     rw [hb, cond_false] at h
     cases h
    | true =>
     rw [hb, cond_true] at h
     injection h with h
     subst h
     simp only [Bool.and_eq_true] at hb
     obtain ⟨h1, h2⟩ := y5K r (i + 1) l hl
     refine ⟨by simp [h1], fun k x hk => ?_⟩
     cases k with
     | zero =>
      simp only [List.getElem?_cons_zero, Option.some.injEq] at hk
      subst hk
      exact ⟨rfl, hg, hb.1, rfl, rfl, rfl, rfl, rfl, rfl, kD hb.2⟩
     | succ k =>
      have := h2 k x (by simpa using hk)
      rw [show i + 1 + k = i + (k + 1) by omega] at this
      simpa using this
theorem y10 {h0 : List Nat} {ms : List Nat} {i : Nat} {o : Oper} : ∀ (l : List Oper) (j : Nat), (vi C h0 ops ms i o j l).ok = true → ∀ (k : Nat) (y : Oper), l[k]? = some y → i ≠ j + k →
  (yhV ms i (j + k) = false → y5k ops o y = true ∧ y1k o = false ∧ y1k y = false ∧ (Ql C h0 o = 0 ∨ Ql C h0 y = 0 ∨ (Ql C h0 o = 4 ∧ Ql C h0 y = 4 ∧ ∀ i ∈ fpO h0 o, i ∉ fpO h0 y)) ∧ yi0 (ylH (Ql C h0 y)) (vi C h0 ops ms i o j l).top ∧ (∀ m ∈ VV C y, m ∈ (vi C h0 ops ms i o j l).bad) ∧ (∀ m ∈ fpO h0 y, m ∈ (vi C h0 ops ms i o j l).bad)) ∧
  ((ms.getD i 0).testBit (j + k) = false → ∀ m ∈ VV C y, m ∈ (vi C h0 ops ms i o j l).later)
 | [], j, _, k, y, hk, _ => by simp at hk
 | z :: l, j, hok, k, y, hk, hne => by
  rw [vi] at hok ⊢
  have rest : ∀ (g : Gathered), g = vi C h0 ops ms i o (j + 1) l → g.ok = true → ∀ (k : Nat), l[k]? = some y → i ≠ j + (k + 1) →
    (yhV ms i (j + (k + 1)) = false → y5k ops o y = true ∧ y1k o = false ∧ y1k y = false ∧ (Ql C h0 o = 0 ∨ Ql C h0 y = 0 ∨ (Ql C h0 o = 4 ∧ Ql C h0 y = 4 ∧ ∀ i ∈ fpO h0 o, i ∉ fpO h0 y)) ∧ yi0 (ylH (Ql C h0 y)) g.top ∧ (∀ m ∈ VV C y, m ∈ g.bad) ∧ (∀ m ∈ fpO h0 y, m ∈ g.bad)) ∧ ((ms.getD i 0).testBit (j + (k + 1)) = false → ∀ m ∈ VV C y, m ∈ g.later) := by
   intro g hg hgok k hk hne
   subst hg
   have := y10 l (j + 1) hgok k y hk (by omega)
   rw [show j + 1 + k = j + (k + 1) by omega] at this
   exact this
  generalize hgg : vi C h0 ops ms i o (j + 1) l = g at hok ⊢
  cases hij : Nat.beq i j with
  | true =>
   have := Nat.eq_of_beq_eq_true hij
   subst this
   simp only [hij, cond_true] at hok ⊢
   cases k with
   | zero => exact absurd rfl hne
   | succ k => exact rest g hgg.symm hok k (by simpa using hk) hne
  | false =>
   simp only [hij, cond_false] at hok ⊢
   cases ht : yhV ms i j with
   | true =>
    simp only [ht, cond_true] at hok ⊢
    cases hb : (ms.getD i 0).testBit j with
    | true =>
     simp only [hb, cond_true] at hok ⊢
     cases k with
     | zero => exact ⟨fun h => (by rw [Nat.add_zero, ht] at h; cases h), fun h => (by rw [Nat.add_zero, hb] at h; cases h)⟩
     | succ k => exact rest g hgg.symm hok k (by simpa using hk) hne
    | false =>
     simp only [hb, cond_false] at hok ⊢
     cases k with
     | zero =>
      simp only [List.getElem?_cons_zero, Option.some.injEq] at hk
      subst hk
      exact ⟨fun h => (by rw [Nat.add_zero, ht] at h; cases h), fun _ m hm => List.mem_append_left _ hm⟩
     | succ k =>
      obtain ⟨r1, r2⟩ := rest g hgg.symm hok k (by simpa using hk) hne
      exact ⟨r1, fun h m hm => List.mem_append_right _ (r2 h m hm)⟩
   | false =>
    simp only [ht, cond_false, Bool.and_eq_true, Bool.not_eq_true', Bool.or_eq_true] at hok ⊢
    obtain ⟨⟨⟨⟨hgok, hap⟩, hpo⟩, hpy⟩, hcl⟩ := hok
    cases k with
    | zero =>
     simp only [List.getElem?_cons_zero, Option.some.injEq] at hk
     subst hk
     exact ⟨fun _ => ⟨hap, hpo, hpy, ym3 hcl, ye7 _ _, fun m hm => List.mem_append_left _ hm, fun m hm => List.mem_append_right _ (List.mem_append_left _ hm)⟩, fun _ m hm => List.mem_append_left _ hm⟩
    | succ k =>
     obtain ⟨r1, r2⟩ := rest g hgg.symm hgok k (by simpa using hk) hne
     refine ⟨fun h => ?_, fun h m hm => List.mem_append_right _ (r2 h m hm)⟩
     obtain ⟨a1, a2, a3, a4, a5, a6, a7⟩ := r1 h
     exact ⟨a1, a2, a3, a4, yd1 a5, fun m hm => List.mem_append_right _ (List.mem_append_right _ (a6 m hm)), fun m hm => List.mem_append_right _ (List.mem_append_right _ (a7 m hm))⟩
theorem ygd {h0 : List Nat} {L : List Dop} (h : y83 C h0 ops (vh ops.toList []) 0 ops.toList = some L) : Drawn C ops L := by
 obtain ⟨hlen, hsp⟩ := y5K _ _ _ h
 have hat : ∀ (i : Nat) (x : Dop), L[i]? = some x → ops.toList[i]? = some x.o := fun i x hx => (hsp i x hx).1
 refine ⟨⟨by simpa using hlen, fun i x hx => ⟨by simpa using hat i x hx, (hsp i x hx).2.1⟩⟩, fun i x hx => (hsp i x hx).2.2.2.2.2.2.2.1, fun i j x y hx hy hne ht => ?_, fun i j x y hx hy hne hb m hm => ?_, fun i x hx => ?_⟩
 ·obtain ⟨_, _, hok, hvis, hcls, hbad, hlater, hmine, hfp, _⟩ := hsp i x hx
  obtain ⟨_, _, _, _, hcls', _, _, hmine', hfp', _⟩ := hsp j y hy
  rw [Nat.zero_add] at hok hvis hbad hlater
  have := y10 (C := C) (ops := ops) ops.toList 0 hok j y.o (hat j y hy) (by omega)
  rw [Nat.zero_add] at this
  obtain ⟨h1, h2⟩ := this
  obtain ⟨a1, a2, a3, a4, a5, a6, a7⟩ := h1 ht
  have htb : ((vh ops.toList []).getD i 0).testBit j = false := by
   unfold yhV at ht
   simp only [Bool.or_eq_false_iff] at ht
   exact ht.1
  exact ⟨a1, a2, by rw [hcls, hcls', hfp, hfp']; exact a4, by rw [hcls']; exact yjm hvis a5, fun m hm => by rw [hbad]; exact a7 m (by rw [← hfp']; exact hm), fun m hm => by rw [hbad]; exact a6 m (by rw [← hmine']; exact hm), fun m hm => by rw [hlater]; exact h2 htb m (by rw [← hmine']; exact hm)⟩
 ·obtain ⟨_, _, hok, hvis, hcls, hbad, hlater, hmine, hfp, _⟩ := hsp i x hx
  obtain ⟨_, _, _, _, hcls', _, _, hmine', hfp', _⟩ := hsp j y hy
  rw [Nat.zero_add] at hok hlater
  have := y10 (C := C) (ops := ops) ops.toList 0 hok j y.o (hat j y hy) (by omega)
  rw [Nat.zero_add] at this
  rw [hlater]
  exact this.2 hb m (by rw [← hmine']; exact hm)
 ·have := (hsp i x hx).2.2.2.2.2.2.2.2.2
  rwa [Nat.zero_add] at this
theorem NM.step {t : TS} {z z1 : FS} (h : kI C call t z = some z1) {m : Nat} (nm : NM z m) (hm : m ∈ t.x.later) : NM z1 m := by
 cases hp : t.isP with
 | false =>
  rw [Qs hp] at h
  obtain ⟨e, he, rfl⟩ := Option.map_eq_some_iff.1 h
  exact nm.apply ((y6m he).later m hm)
 | true =>
  cases t with
  | pick x M D =>
   simp only [kI] at h
   split at h
   ·split at h
    ·rename_i c x1 x2 hop
     cases hc : z.bool c with
     | none => simp [hc] at h
     | some v =>
      cases hu : z.bool (if v then x1 else x2) with
      | none => simp [hc, hu] at h
      | some u =>
       simp only [hc, hu, Option.bind_some, Option.some.injEq] at h
       subst h
       exact ((nm.forgetAll M).kill D).put _ (by simp [A.ids])
    ·cases h
   ·cases h
  | _ => simp [TS.isP] at hp
theorem yi1 {t : TS} (hgt : ZP ops t.x.o = some t.x.g) (B : List TS) {zf : FS} : ∀ (A : List TS) (z : FS), wo C call (A ++ t :: B) z = some zf → (∀ p ∈ A, ZP ops p.x.o = some p.x.g ∧ Loose ops p.x t.x ∧ Loose ops t.x p.x) → (∀ m ∈ t.x.mine, NM z m) → (∀ p ∈ A, ∀ m ∈ p.x.mine, NM z m) →
  A.Pairwise (fun p q => ∀ m ∈ q.x.mine, m ∈ p.x.later) → wo C call (t :: (A ++ B)) z = some zf
 | [], z, h, _, _, _, _ => h
 | p :: A, z, h, hA, hn, hnA, hpw => by
  rw [List.cons_append, wo] at h
  cases hz : kI C call p z with
  | none => simp [hz] at h
  | some z1 =>
   rw [hz, Option.bind_some] at h
   have hpw' := List.pairwise_cons.1 hpw
   obtain ⟨hgp, hpt, htp⟩ := hA p (by simp)
   have ih := yi1 hgt B A z1 h (fun q hq => hA q (by simp [hq])) (fun m hm => NM.step hz (hn m hm) (hpt.later m hm)) (fun q hq m hm => NM.step hz (hnA q (by simp [hq]) m hm) (hpw'.1 q hq m hm)) hpw'.2
   rw [wo] at ih
   cases hz2 : kI C call t z1 with
   | none => simp [hz2] at ih
   | some z2 =>
    rw [hz2, Option.bind_some] at ih
    obtain ⟨z1', h1, h2⟩ := yAm hgp hgt hpt htp (hnA p (by simp)) hn hz hz2
    rw [wo, h1, Option.bind_some, List.cons_append, wo, h2, Option.bind_some]
    exact ih
structure Pend (ops : Array Oper) (L : List Dop) (listed : Array Bool) (Tp : List (Nat × TS)) (z : FS) : Prop where
 idx : Tp.Pairwise (fun p q => p.1 < q.1)
 mem : ∀ p ∈ Tp, L[p.1]? = some p.2.x
 un : ∀ p ∈ Tp, listed.getD p.1 true = false
 all : ∀ i, i < ops.size → listed.getD i true = false → ∃ t, (i, t) ∈ Tp
 size : listed.size = ops.size
 dn : ∀ i, listed.getD i false = true → ∀ j, ((vh ops.toList []).getD i 0).testBit j = true → listed.getD j false = true
 nm : ∀ p ∈ Tp, ∀ m ∈ p.2.x.mine, NM z m
theorem y8t {l : Array Bool} {i : Nat} (h : i < l.size) : l.getD i true = l.getD i false := by simp [Array.getD_eq_getD_getElem?, h]
theorem ye8 (hT : TOk C P) (hC : v8 H0 C P call) (hout : ∀ (i : Nat) (o : Oper), ops[i]? = some o → Out o) {L : List Dop} (hD : Drawn C ops L) {zf : FS} (hQ : ∀ s' a' w' G', s'.F = zf → Rel P w0 lent H0 s' a' w' G' → Q .normal a' w') : ∀ (fuel : Nat) (listed : Array Bool) (Tp : List (Nat × TS)) {s : St} {a : Act} {w : World} {G : Gh},
  Pend ops L listed Tp s.F → Tp.length = fuel → wo C call (Tp.map (·.2)) s.F = some zf → Rel P w0 lent H0 s a w G → wpAny P .any ops Q fuel listed a w := by
 intro fuel
 induction fuel with
 | zero =>
  intro listed Tp s a w G hp hl hs hr
  have : Tp = [] := List.length_eq_zero_iff.1 hl
  subst this
  refine ⟨?_, hQ s a w G (by injection hs) hr⟩
  cases hrd : Region.ready .any ops listed with
  | nil => rfl
  | cons i r =>
   have hi : i ∈ Region.ready .any ops listed := by rw [hrd]; simp
   obtain ⟨h1, o, ho, _⟩ := mem_ready.1 hi
   obtain ⟨t, ht⟩ := hp.all i (Array.getElem?_eq_some_iff.1 ho).1 h1
   simp at ht
 | succ fuel ih =>
  intro listed Tp s a w G hp hl hs hr
  have hbit : ∀ (i : Nat) (x : Dop), L[i]? = some x → ∀ j, i ≤ j → ((vh ops.toList []).getD i 0).testBit j = false := fun i x hx j hj =>
   Nat.testBit_lt_two_pow (Nat.lt_of_lt_of_le (hD.lt i x hx) (Nat.pow_le_pow_right (by omega) hj))
  have hsz : ∀ (i : Nat) (x : Dop), L[i]? = some x → i < ops.size := fun i x hx => (Array.getElem?_eq_some_iff.1 (hD.fit.2 i x hx).1).1
  refine ⟨fun hnil => ?_, fun i hi => ?_⟩
  ·cases Tp with
   | nil => simp at hl
   | cons p0 Tp =>
    obtain ⟨i0, t0⟩ := p0
    have hx0 := hp.mem (i0, t0) (by simp)
    have ho0 := (hD.fit.2 i0 t0.x hx0).1
    have : i0 ∈ Region.ready .any ops listed := by
     refine mem_ready.2 ⟨hp.un (i0, t0) (by simp), t0.x.o, ho0, fun e he hb => ?_⟩
     obtain ⟨acc, hacc, _⟩ := yby ho0
     have hup := ybx (acc := acc) hb t0.x.o.after.toList (by simpa using he)
     rw [← hacc] at hup
     have hlt : e.on < i0 := by
      rcases Nat.lt_or_ge e.on i0 with h | h
      ·exact h
      ·rw [hbit i0 _ hx0 e.on h] at hup
       cases hup
     have hlt2 : e.on < listed.size := by
      rw [hp.size]
      exact Nat.lt_trans hlt (hsz i0 _ hx0)
     cases hle : listed.getD e.on false with
     | true => rfl
     | false =>
      rw [← y8t hlt2] at hle
      obtain ⟨t, ht⟩ := hp.all e.on (by rw [← hp.size]; exact hlt2) hle
      rcases List.mem_cons.1 ht with ht | ht
      ·injection ht with h1 _
       omega
      ·have := (List.pairwise_cons.1 hp.idx).1 _ ht
       simp only at this
       omega
    rw [hnil] at this
    simp at this
  ·obtain ⟨hun, o, ho, hall⟩ := mem_ready.1 hi
   obtain ⟨t, ht⟩ := hp.all i (Array.getElem?_eq_some_iff.1 ho).1 hun
   obtain ⟨A, B, rfl⟩ := List.append_of_mem ht
   have hxi := hp.mem (i, t) ht
   obtain ⟨hoi, hgi⟩ := hD.fit.2 i t.x hxi
   have hidx := List.pairwise_append.1 hp.idx
   have hA : ∀ p ∈ A, p.1 < i := fun p hpA => hidx.2.2 p hpA (i, t) (by simp)
   have hB : ∀ p ∈ B, i < p.1 := fun p hpB => (List.pairwise_cons.1 hidx.2.1).1 p hpB
   have hmA : ∀ p ∈ A, L[p.1]? = some p.2.x := fun p hpA => hp.mem p (by simp [hpA])
   have hmB : ∀ p ∈ B, L[p.1]? = some p.2.x := fun p hpB => hp.mem p (by simp [hpB])
   have hdone : ∀ j, ((vh ops.toList []).getD i 0).testBit j = true → listed.getD j false = true := fun j hj => by
    obtain ⟨acc, hacc, hacc2⟩ := yby ho
    rw [hacc] at hj
    obtain ⟨e, he, hb, hj⟩ := y2a _ hj
    have hon := hall e (by simpa using he) hb
    rcases hj with rfl | hj
    ·exact hon
    ·rw [hacc2] at hj
     split at hj
     ·exact hp.dn e.on hon j hj
     ·simp at hj
   have hnot : ∀ p ∈ A, ((vh ops.toList []).getD i 0).testBit p.1 = false := fun p hpA => by
    cases hb : ((vh ops.toList []).getD i 0).testBit p.1 with
    | false => rfl
    | true =>
     have h1 := hdone p.1 hb
     have h2 := hp.un p (by simp [hpA])
     rw [y8t (by rw [hp.size]; exact hsz _ _ (hmA p hpA)), h1] at h2
     cases h2
   have hloose : ∀ p ∈ A, ZP ops p.2.x.o = some p.2.x.g ∧ Loose ops p.2.x t.x ∧ Loose ops t.x p.2.x := fun p hpA => by
    have hlt := hA p hpA
    have h1 := hbit p.1 _ (hmA p hpA) i (by omega)
    refine ⟨(hD.fit.2 _ _ (hmA p hpA)).2, hD.loose p.1 i _ _ (hmA p hpA) hxi (by omega) ?_, hD.loose i p.1 _ _ hxi (hmA p hpA) (by omega) ?_⟩
    ·simp [yhV, h1, hnot p hpA, -List.getD_eq_getElem?_getD]
    ·simp [yhV, h1, hnot p hpA, -List.getD_eq_getElem?_getD]
   rw [List.map_append, List.map_cons] at hs
   have hbub := yi1 (C := C) (call := call) hgi (B.map (·.2)) (A.map (·.2)) s.F hs (fun q hq => by
    obtain ⟨p, hpA, rfl⟩ := List.mem_map.1 hq
    exact hloose p hpA) (hp.nm (i, t) ht) (fun q hq => by
    obtain ⟨p, hpA, rfl⟩ := List.mem_map.1 hq
    exact hp.nm p (by simp [hpA])) (by
    rw [List.pairwise_map]
    exact hidx.1.imp_of_mem fun {p q} hpA hqA hlt => hD.later p.1 q.1 _ _ (hmA p hpA) (hmA q hqA) (by omega) (hbit p.1 _ (hmA p hpA) q.1 (by omega)))
   rw [wo] at hbub
   cases hz : kI C call t s.F with
   | none => simp [hz] at hbub
   | some z1 =>
    rw [hz, Option.bind_some] at hbub
    refine y5F hT hC (hout _ _ hoi) hoi hgi hr hz fun s' a' w' G' hF hr' => ?_
    refine ih (listed.setIfInBounds i true) (A ++ B) ⟨?_, fun p hpm => ?_, fun p hpm => ?_, fun j hj hju => ?_, by simp [hp.size], fun j hj m hm => ?_, fun p hpm m hm => ?_⟩ ?_ ?_ hr'
    ·exact List.pairwise_append.2 ⟨hidx.1, (List.pairwise_cons.1 hidx.2.1).2, fun p hpA q hqB => hidx.2.2 p hpA q (by simp [hqB])⟩
    ·rcases List.mem_append.1 hpm with h | h
     ·exact hmA p h
     ·exact hmB p h
    ·have hne : i ≠ p.1 := by
      rcases List.mem_append.1 hpm with h | h
      ·have := hA p h; omega
      ·have := hB p h; omega
     rw [getD_set_ne true hne]
     refine hp.un p ?_
     rcases List.mem_append.1 hpm with h | h <;> simp [h]
    ·have hne : i ≠ j := fun e => by
      subst e
      have hlt : i < listed.size := by rw [hp.size]; exact hj
      simp [Array.getD_eq_getD_getElem?, hlt] at hju
     rw [getD_set_ne true hne] at hju
     obtain ⟨t', ht'⟩ := hp.all j hj hju
     refine ⟨t', ?_⟩
     rcases List.mem_append.1 ht' with h | h
     ·simp [h]
     ·rcases List.mem_cons.1 h with h | h
      ·injection h with h1 _
       exact absurd h1.symm hne
      ·simp [h]
    ·by_cases hij : i = j
     ·subst hij
      exact getD_set_true (hdone m hm)
     ·rw [getD_set_ne false hij] at hj
      exact getD_set_true (hp.dn j hj m hm)
    ·rw [hF]
     refine NM.step hz (hp.nm p (by rcases List.mem_append.1 hpm with h | h <;> simp [h]) m hm) ?_
     rcases List.mem_append.1 hpm with h | h
     ·exact hD.later i p.1 _ _ hxi (hmA p h) (by have := hA p h; omega) (hnot p h) m hm
     ·exact hD.later i p.1 _ _ hxi (hmB p h) (by have := hB p h; omega) (hbit i _ hxi p.1 (by have := hB p h; omega)) m hm
    ·simp only [List.length_append, List.length_cons] at hl ⊢
     omega
    ·rw [hF, List.map_append]
     exact hbub
def num : Nat → List TS → List (Nat × TS)
 | _, [] => []
 | i, t :: T => (i, t) :: num (i + 1) T
theorem ye9 : ∀ (T : List TS) (i : Nat), (num i T).map (·.2) = T
 | [], _ => rfl
 | t :: T, i => by simp [num, ye9 T]
theorem yea : ∀ (T : List TS) (i : Nat), (num i T).length = T.length
 | [], _ => rfl
 | t :: T, i => by simp [num, yea T]
theorem y6n (T : List TS) : ∀ (i : Nat) (p : Nat × TS), p ∈ num i T → ∃ k, p.1 = i + k ∧ T[k]? = some p.2 := by
 induction T with
 | nil => intro i p h; simp [num] at h
 | cons t T ih =>
  intro i p h
  rw [num] at h
  rcases List.mem_cons.1 h with h | h
  ·exact ⟨0, by rw [h, Nat.add_zero], by rw [h]; rfl⟩
  ·obtain ⟨k, h1, h2⟩ := ih (i + 1) p h
   exact ⟨k + 1, by omega, by rw [List.getElem?_cons_succ]; exact h2⟩
theorem ym4 (T : List TS) : ∀ (i k : Nat) (t : TS), T[k]? = some t → (i + k, t) ∈ num i T := by
 induction T with
 | nil => intro i k t h; simp at h
 | cons u T ih =>
  intro i k t h
  cases k with
  | zero =>
   rw [List.getElem?_cons_zero] at h
   injection h with h
   rw [h, num]
   exact List.mem_cons_self
  | succ k =>
   rw [List.getElem?_cons_succ] at h
   have := ih (i + 1) k t h
   rw [show i + 1 + k = i + (k + 1) by omega] at this
   rw [num]
   exact List.mem_cons_of_mem _ this
theorem ym5 (T : List TS) : ∀ i : Nat, (num i T).Pairwise (fun p q => p.1 < q.1) := by
 induction T with
 | nil => intro i; exact List.Pairwise.nil
 | cons t T ih =>
  intro i
  rw [num]
  refine List.pairwise_cons.2 ⟨fun p hp => ?_, ih (i + 1)⟩
  obtain ⟨k, h1, _⟩ := y6n T (i + 1) p hp
  show i < p.1
  omega
theorem yd2 (l : List Oper) (o : Oper) (m : Nat) (ho : o ∈ l) (hm : m ∈ VV C o) : m ∈ y5l C l := by
 induction l with
 | nil => simp at ho
 | cons x l ih =>
  rw [y5l, List.mem_append]
  rcases List.mem_cons.1 ho with h | h
  ·rw [← h]
   exact .inl hm
  ·exact .inr (ih h)
theorem yd3 (hT : TOk C P) (hC : v8 H0 C P call) (hout : ∀ (i : Nat) (o : Oper), ops[i]? = some o → Out o) {h0 : List Nat} {L : List Dop} (hp : y83 C h0 ops (vh ops.toList []) 0 ops.toList = some L) {R : Type} {k : St → Option R} {r : R} {n : Nat} (h : Rel P w0 lent H0 s a w G) (he : kE C call false n L (s.forgetAll (y5l C ops.toList)) k = some r)
  (hQ : ∀ s' a' w' G', k s' = some r → Rel P w0 lent H0 s' a' w' G' → Q .normal a' w') : wpAny P .any ops Q ops.size (Array.replicate ops.size false) a { w with drawn := w.drawn + 1 } := by
 have hD := ygd hp
 obtain ⟨T, s', hf, hk⟩ := ye4 n false L [] _ k r (by rw [y8n]; exact he) (by simp)
 have hlen : T.length = ops.size := by rw [← hD.fit.1, ← hf.x, List.length_map]
 have hat : ∀ (i : Nat) (t : TS), T[i]? = some t → L[i]? = some t.x := fun i t ht => by
  rw [← hf.x, List.getElem?_map, ht]
  rfl
 have hr := (h.forgets (y5l C ops.toList)).heap (w' := { w with drawn := w.drawn + 1 }) rfl rfl rfl (Nat.le_refl _) (fun _ _ => .inl rfl)
 refine ye8 hT hC hout hD (zf := s'.F) (fun s2 a2 w2 G2 hF hr2 => hQ s' a2 w2 G2 hk ?_) ops.size _ (num 0 T) ⟨ym5 T 0, fun p hpm => ?_, fun p hpm => ?_, fun i hi _ => ?_, by simp, fun i hi j _ => ?_, fun p hpm m hm => ?_⟩ (by rw [yea, hlen]) (by rw [ye9]; exact hf.steps) hr
 ·have ht : s2.t = s'.t := congrArg FS.t hF
  have ho : z4 s2.o = z4 s'.o := congrArg FS.lk hF
  exact hr2.congr ht.symm fun i => (congrFun ho i).symm
 ·obtain ⟨k, h1, h2⟩ := y6n T 0 p hpm
  rw [h1, Nat.zero_add]
  exact hat k p.2 h2
 ·obtain ⟨k, h1, h2⟩ := y6n T 0 p hpm
  have := (List.getElem?_eq_some_iff.1 h2).1
  simp [Array.getD_eq_getD_getElem?, show p.1 < ops.size by omega]
 ·have hlt : i < T.length := by omega
  exact ⟨T[i], by simpa using ym4 T 0 i T[i] (List.getElem?_eq_getElem hlt)⟩
 ·rw [Array.getD_eq_getD_getElem?] at hi
  by_cases hlt : i < ops.size <;> simp [hlt] at hi
 ·obtain ⟨k, h1, h2⟩ := y6n T 0 p hpm
  have hx := hat k p.2 h2
  rw [qH]
  refine NM.forgetAll_self _ _ (yd2 _ _ _ ?_ (by rw [← hD.mine k _ hx]; exact hm))
  have := (hD.fit.2 k _ hx).1
  exact List.mem_of_getElem? (by simpa using this)
end Go.Proofs.YtgediecndaheiaaGreat.R
