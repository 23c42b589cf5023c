/- How what is said of slots and objects is carried over changes of the ghost and of memory. No condition. -/
import Derived.Test.YtgediecndaheiaaGreatRRel
set_option linter.all false
namespace Go.Proofs.YtgediecndaheiaaGreat.R
open Go.RowKit
theorem yF {a b : Nat} (h : a ≠ b) : Nat.beq a b = false := by
 cases hb : Nat.beq a b with
 | false => rfl
 | true => exact absurd (Nat.eq_of_beq_eq_true hb) h
theorem yw (a : Nat) : Nat.beq a a = true := Nat.beq_refl a
structure Agree (G G' : Gh) (i : Nat) : Prop where
 H : G.H.le G'.H
 g : ∀ j, j ≠ i → G'.g j = G.g j
 sv : ∀ j, j ≠ i → G'.sv j = G.sv j
 sz : ∀ j, j ≠ i → G'.sz j = G.sz j
 pv : G'.pv = G.pv
mutual
theorem RA.forget {G G' : Gh} {i : Nat} (h : Agree G G' i) : ∀ (x : A) (v : Value), RA G x v → RA G' (x.forget i) v
 | .dead, _, _ => trivial
 | .und, _, hr => hr
 | .val t x, v, hr => RdT.mono h.H t x v hr
 | .nils, _, hr => hr
 | .nilp, _, hr => hr
 | .fn _, _, hr => hr
 | .own o, v, hr => by
  by_cases ho : o = i
  ·subst ho
   simp [A.forget, yw, RA]
  ·simp only [A.forget, yF ho, cond_false, RA] at *
   rw [h.sv o ho]
   exact hr
 | .box b off, v, hr => by
  by_cases ho : b = i
  ·subst ho
   simp [A.forget, yw, RA]
  ·simp only [A.forget, yF ho, cond_false, RA] at *
   rw [h.g b ho, hr]
 | .clo f b, v, hr => by
  by_cases ho : b = i
  ·subst ho
   simp [A.forget, yw, RA]
  ·simp only [A.forget, yF ho, cond_false, RA] at *
   rw [h.g b ho, hr]
 | .rtp o j c, v, hr => by
  by_cases ho : o = i
  ·subst ho
   simp [A.forget, yw, RA]
  ·simp only [A.forget, yF ho, cond_false, RA] at *
   rw [h.g o ho, h.sz o ho]
   exact hr
 | .top e ts xs, v, hr => by
  show RdR G'.H G'.pv ts xs v
  rw [h.pv]
  exact RdR.mono h.H hr
 | .win o q, v, hr => by
  by_cases ho : o = i
  ·subst ho
   simp [A.forget, yw, RA]
  ·simp only [A.forget, yF ho, cond_false, RA] at *
   rw [h.sv o ho]
   exact hr
 | .tl o q, v, hr => by
  by_cases ho : o = i
  ·subst ho
   simp [A.forget, yw, RA]
  ·simp only [A.forget, yF ho, cond_false, RA] at *
   rw [h.sv o ho, h.sz o ho]
   exact hr
 | .elp e ts xs j c, v, hr => by
  obtain ⟨ad, e1, hlt, h1⟩ := hr
  exact ⟨ad, e1, hlt, fun k x hk => RdE.mono h.H ts x _ _ (fun m u hu => qB h.H hu) (h1 k x hk)⟩
 | .agg l, v, hr => by
  obtain ⟨cs, rfl, hl⟩ := hr
  exact ⟨cs, rfl, RL.forget h l cs hl⟩
 | .tup l, v, hr => by
  obtain ⟨cs, rfl, hl⟩ := hr
  exact ⟨cs, rfl, RL.forget h l cs hl⟩
theorem RL.forget {G G' : Gh} {i : Nat} (h : Agree G G' i) : ∀ (l : List A) (vs : List Value), RL G l vs → RL G' (za i l) vs
 | [], [], _ => trivial
 | a :: l, v :: vs, hr => ⟨RA.forget h a v hr.1, RL.forget h l vs hr.2⟩
end
mutual
theorem RA.mono {G G' : Gh} (hH : G.H.le G'.H) (hg : G'.g = G.g) (hs : G'.sv = G.sv) (hz : G'.sz = G.sz) (hp : G'.pv = G.pv) : ∀ (x : A) (v : Value), RA G x v → RA G' x v
 | .dead, _, _ => trivial
 | .und, _, hr => hr
 | .val t x, v, hr => RdT.mono hH t x v hr
 | .nils, _, hr => hr
 | .nilp, _, hr => hr
 | .fn _, _, hr => hr
 | .own o, v, hr => by simp only [RA] at *; rw [hs]; exact hr
 | .box b off, v, hr => by simp only [RA] at *; rw [hg, hr]
 | .clo f b, v, hr => by simp only [RA] at *; rw [hg, hr]
 | .rtp o j c, v, hr => by simp only [RA] at *; rw [hg, hz]; exact hr
 | .win o q, v, hr => by simp only [RA] at *; rw [hs]; exact hr
 | .tl o q, v, hr => by simp only [RA] at *; rw [hs, hz]; exact hr
 | .top e ts xs, v, hr => by
  show RdR G'.H G'.pv ts xs v
  rw [hp]
  exact RdR.mono hH hr
 | .elp e ts xs j c, v, hr => by
  obtain ⟨ad, e1, hlt, h1⟩ := hr
  exact ⟨ad, e1, hlt, fun k x hk => RdE.mono hH ts x _ _ (fun m u hu => qB hH hu) (h1 k x hk)⟩
 | .agg l, v, hr => by
  obtain ⟨cs, rfl, hl⟩ := hr
  exact ⟨cs, rfl, RL.mono hH hg hs hz hp l cs hl⟩
 | .tup l, v, hr => by
  obtain ⟨cs, rfl, hl⟩ := hr
  exact ⟨cs, rfl, RL.mono hH hg hs hz hp l cs hl⟩
theorem RL.mono {G G' : Gh} (hH : G.H.le G'.H) (hg : G'.g = G.g) (hs : G'.sv = G.sv) (hz : G'.sz = G.sz) (hp : G'.pv = G.pv) : ∀ (l : List A) (vs : List Value), RL G l vs → RL G' l vs
 | [], [], _ => trivial
 | a :: l, v :: vs, hr => ⟨RA.mono hH hg hs hz hp a v hr.1, RL.mono hH hg hs hz hp l vs hr.2⟩
end
theorem ybi (g o j : Nat) : (⟨g, o, none⟩ : Addr).add j = ⟨g, o + j, none⟩ := by unfold Addr.add; split <;> simp_all
theorem kF (i j : Nat) : ∀ (o : List (Nat × Ob)), z4 (Yk i o) j = if j = i then none else (z4 o j).map (·.forget i)
 | [] => by simp [Yk, z4]
 | (m, x) :: r => by
  have ih := kF i j r
  by_cases hm : m = i
  ·subst hm
   simp only [Yk, yw, cond_true, ih]
   by_cases hj : j = m
   ·simp [hj]
   ·simp only [hj, if_false, z4, yF (show m ≠ j from fun h => hj h.symm), cond_false]
  ·simp only [Yk, yF hm, cond_false, z4]
   by_cases hj : m = j
   ·subst hj
    simp [yw, hm]
   ·simp only [yF hj, cond_false, ih]
theorem wM (i j : Nat) (y : Ob) : ∀ (o : List (Nat × Ob)), z4 (qW o i y) j = if j = i then (z4 o i).map (fun _ => y) else z4 o j
 | [] => by simp [qW, z4]
 | (m, x) :: r => by
  have ih := wM i j y r
  by_cases hm : m = i
  ·subst hm
   simp only [qW, yw, cond_true, z4]
   by_cases hj : m = j
   ·subst hj
    simp [yw]
   ·simp [yF hj, show j ≠ m from fun h => hj h.symm]
  ·simp only [qW, yF hm, cond_false, z4]
   by_cases hj : m = j
   ·subst hj
    simp [yw, hm]
   ·simp only [yF hj, cond_false, ih]
theorem Kf (i : Nat) : ∀ l : List A, (za i l).length = l.length
 | [] => rfl
 | a :: l => by simp [za, Kf i l]
theorem kG (i : Nat) : ∀ (l : List A) (j : Nat), (za i l)[j]? = (l[j]?).map (A.forget i)
 | [], j => by simp [za]
 | a :: l, 0 => by simp [za]
 | a :: l, j + 1 => by simpa [za] using kG i l j
theorem ydG {w w' : World} {b : Nat} (h : w'.heap[b]? = w.heap[b]?) (o : Nat) : w'.cell? ⟨b, o, none⟩ = w.cell? ⟨b, o, none⟩ := by simp only [World.cell?, h]
theorem y9F {w w' : World} {b : Nat} (h : w'.heap[b]? = w.heap[b]?) (o : Nat) : w'.frozen? ⟨b, o, none⟩ = w.frozen? ⟨b, o, none⟩ := by simp only [World.frozen?, h]
theorem RO.heap {G : Gh} {w w' : World} {i : Nat} (hsz : w.heap.size ≤ w'.heap.size) : ∀ {ob : Ob}, (∀ k, zR G i ob k → w'.heap[k]? = w.heap[k]?) → RO G w i ob → RO G w' i ob
 | .box cells, h, hr => ⟨Nat.lt_of_lt_of_le hr.1 hsz, fun j a ha => by
  have hb := h _ rfl
  rw [ydG hb, y9F hb]
  exact hr.2 j a ha⟩
 | .root true e ts xs, h, hr => by
  obtain ⟨h1, h2, cells, hown, h3, h4, h5⟩ := hr
  refine ⟨h1, h2, cells, ⟨hown.1, ?_⟩, h3, h4, h5⟩
  rcases hown.2 with h6 | ⟨g, cap, cur, hv, hg, hh, r⟩
  ·exact .inl h6
  ·exact .inr ⟨g, cap, cur, hv, hg, (h g (by simp [zR, hv, Value.ownBlock])).trans hh, r⟩
 | .root false e ts xs, h, hr => hr
 | .gone, _, _ => trivial
theorem Vl {G G' : Gh} {i j : Nat} (h : Agree G G' i) (hj : j ≠ i) : ∀ (ob : Ob), zR G' j (ob.forget i) = zR G j ob
 | .box _ => by funext k; simp [zR, Ob.forget, h.g j hj]
 | .root true _ _ _ => by funext k; simp [zR, Ob.forget, h.sv j hj]
 | .root false _ _ _ => rfl
 | .gone => rfl
theorem RO.forget {G G' : Gh} {w : World} {i j : Nat} (h : Agree G G' i) (hj : j ≠ i) : ∀ {ob : Ob}, RO G w j ob → RO G' w j (ob.forget i)
 | .box cells, hr => ⟨by rw [h.g j hj]; exact hr.1, fun m a ha => by
  rw [kG] at ha
  obtain ⟨b, hb, rfl⟩ := Option.map_eq_some_iff.1 ha
  obtain ⟨h1, v, h2, h3, h4⟩ := hr.2 m b hb
  rw [h.g j hj]
  exact ⟨h1, v, h2, h3, RA.forget h b v h4⟩⟩
 | .root true e ts xs, hr => by
  obtain ⟨h1, h2, cells, hown, h3, h4, h5⟩ := hr
  refine ⟨by rw [h.sz j hj]; exact h1, h2, cells, by rw [h.sv j hj]; exact hown, h3, by rw [h.sv j hj, h.g j hj]; exact h4, fun m x hm => RdE.mono h.H ts x _ _ (fun _ _ hu => hu) (h5 m x hm)⟩
 | .root false e ts xs, hr => by
  obtain ⟨h1, h2, h3, h4⟩ := hr
  exact ⟨by rw [h.sz j hj]; exact h1, h2, by rw [h.sv j hj]; exact RdT.mono h.H _ _ _ h3, by rw [h.sv j hj, h.g j hj]; exact h4⟩
 | .gone, _ => trivial
theorem vd {G G' : Gh} (hg : G'.g = G.g) (hs : G'.sv = G.sv) {j : Nat} : ∀ (ob : Ob), zR G' j ob = zR G j ob
 | .box _ => by funext k; simp [zR, hg]
 | .root true _ _ _ => by funext k; simp [zR, hs]
 | .root false _ _ _ => rfl
 | .gone => rfl
theorem RO.mono {G G' : Gh} {w : World} {j : Nat} (hH : G.H.le G'.H) (hg : G'.g = G.g) (hs : G'.sv = G.sv) (hz : G'.sz = G.sz) (hp : G'.pv = G.pv) : ∀ {ob : Ob}, RO G w j ob → RO G' w j ob
 | .box cells, hr => ⟨by rw [hg]; exact hr.1, fun m a ha => by
  obtain ⟨h1, v, h2, h3, h4⟩ := hr.2 m a ha
  rw [hg]
  exact ⟨h1, v, h2, h3, RA.mono hH hg hs hz hp a v h4⟩⟩
 | .root true e' ts' xs', hr => by
  obtain ⟨h1, h2, cells, hown, h3, h4, h5⟩ := hr
  refine ⟨by rw [hz]; exact h1, h2, cells, by rw [hs]; exact hown, h3, by rw [hs, hg]; exact h4, fun m x hm => RdE.mono hH ts' x _ _ (fun _ _ hu => hu) (h5 m x hm)⟩
 | .root false e' ts' xs', hr => by
  obtain ⟨h1, h2, h3, h4⟩ := hr
  exact ⟨by rw [hz]; exact h1, h2, by rw [hs]; exact RdT.mono hH _ _ _ h3, by rw [hs, hg]; exact h4⟩
 | .gone, _ => trivial
theorem RO.blk {G : Gh} {w : World} {i : Nat} : ∀ {ob : Ob} {k : Nat}, RO G w i ob → zR G i ob k → k < w.heap.size
 | .box cells, k, hr, hb => by
  have : (G.g i).1 = k := by simpa [zR] using hb
  exact this ▸ hr.1
 | .root true e ts xs, k, hr, hb => by
  obtain ⟨_, _, cells, hown, _, _, _⟩ := hr
  rcases hown.2 with ⟨hv, _⟩ | ⟨g, cap, cur, hv, _, hh, _⟩
  ·simp [zR, hv, Value.ownBlock] at hb
  ·have : g = k := by simpa [zR, hv, Value.ownBlock] using hb
   subst this
   exact (Array.getElem?_eq_some_iff.1 hh).1
 | .root false _ _ _, _, _, hb => by simp [zR] at hb
 | .gone, _, _, hb => by simp [zR] at hb
section
variable {P : Program} {w0 : World} {lent : Nat → Prop} {H0 : Base} {s : St} {a : Act} {w : World} {G : Gh}
theorem ydH {l : List A} {i : Nat} {x : A} (h : l.getD i .dead = x) : l[i]? = some x ∨ x = .dead := by
 rw [List.getD_eq_getElem?_getD] at h
 cases hl : l[i]? with
 | none => exact .inr (by simpa [hl] using h.symm)
 | some y => exact .inl (by simpa [hl] using h)
theorem Rel.tmp (h : Rel P w0 lent H0 s a w G) (i : Nat) : RA G (s.t.getD i .dead) (a.tmps.getD i undef) := by
 rcases ydH (rfl : s.t.getD i .dead = _) with h1 | h1
 ·exact h.slots i _ h1
 ·rw [h1]
  trivial
theorem ydI {G : Gh} : ∀ v : Value, RA G (y81 v) v := by
 intro v
 unfold y81
 split <;> first | rfl | trivial
theorem ybj {G : Gh} : ∀ l : List Value, RL G (l.map y81) l
 | [] => trivial
 | v :: l => ⟨ydI v, ybj l⟩
theorem yfK {G : Gh} (v : Value) : RA G (y68 v) v := by
 unfold y68
 split
 ·rename_i cs
  exact ⟨cs.toList, by simp, ybj _⟩
 ·exact ydI v
theorem Rel.opd (h : Rel P w0 lent H0 s a w G) : ∀ (x : Operand), RA G (s.opd x) (a.eval x)
 | .tmp i => h.tmp i
 | .const v => yfK v
 | .func f => rfl
 | .global g => trivial
theorem Rel.put (h : Rel P w0 lent H0 s a w G) (d : Option Nat) {x : A} {v : Value} (hx : RA G x v) : Rel P w0 lent H0 (s.put d x) (a.put d v) w G := by
 cases d with
 | none => exact h
 | some d =>
  refine { h with defers := h.defers, len := by simpa [St.put, Act.put] using h.len, slots := fun i y hy => ?_ }
  have hy' : (s.t.set d x)[i]? = some y := hy
  show RA G y ((a.tmps.setIfInBounds d v).getD i undef)
  by_cases hi : i = d
  ·subst hi
   have hlt : i < s.t.length := by
    have := (List.getElem?_eq_some_iff.1 hy').1
    simpa using this
   have hxy : x = y := by simpa [List.getElem?_set_self hlt] using hy'
   subst hxy
   have hlt' : i < a.tmps.size := Nat.lt_of_lt_of_le hlt h.len
   simpa [Array.getD_eq_getD_getElem?, hlt'] using hx
  ·rw [List.getElem?_set_ne (Ne.symm hi)] at hy'
   have := h.slots i y hy'
   simpa [Array.getD_eq_getD_getElem?, Array.getElem?_setIfInBounds_ne (Ne.symm hi)] using this
def VQ (w0 : World) (lent : Nat → Prop) (s : St) (G : Gh) (k : Nat) : Prop :=
 G.H k = none ∧ (w0.heap.size ≤ k ∨ lent k) ∧ ∀ (j : Nat) (oj : Ob), z4 s.o j = some oj → ¬ zR G j oj k
theorem Rel.free_new (h : Rel P w0 lent H0 s a w G) {k : Nat} (hk : w.heap.size ≤ k) : VQ w0 lent s G k := by
 refine ⟨?_, .inl (Nat.le_trans h.size hk), fun j oj hj hb => ?_⟩
 ·cases hH : G.H k with
  | none => rfl
  | some o => exact absurd (Array.getElem?_eq_some_iff.1 (h.inH k o hH)).1 (Nat.not_lt.2 hk)
 ·exact absurd ((h.objs j oj hj).blk hb) (Nat.not_lt.2 hk)
theorem Rel.heap (h : Rel P w0 lent H0 s a w G) {w' : World} (hos : w'.os = w.os) (htape : w'.tape = w.tape) (hout : w'.output = w.output) (hsz : w.heap.size ≤ w'.heap.size)
  (hk : ∀ k, k < w.heap.size → w'.heap[k]? = w.heap[k]? ∨ VQ w0 lent s G k) : Rel P w0 lent H0 s a w' G := by
 refine { h with os := hos.trans h.os, tape := htape.trans h.tape, output := hout.trans h.output, size := Nat.le_trans h.size hsz, old := fun k hlt hl => ?_, inH := fun k o hH => ?_, defers := h.defers, len := h.len, slots := h.slots, objs := fun i ob hi => (h.objs i ob hi).heap hsz fun k hb => ?_ }
 ·rcases hk k (Nat.lt_of_lt_of_le hlt h.size) with h1 | h1
  ·rw [h1]
   exact h.old k hlt hl
  ·rcases h1.2.1 with h2 | h2
   ·exact absurd hlt (Nat.not_lt.2 h2)
   ·exact absurd h2 hl
 ·have hw := h.inH k o hH
  rcases hk k (Array.getElem?_eq_some_iff.1 hw).1 with h1 | h1
  ·show w'.heap[k]? = _
   rw [h1]
   exact hw
  ·rw [h1.1] at hH
   cases hH
 ·rcases hk k ((h.objs i ob hi).blk hb) with h1 | h1
  ·exact h1
  ·exact absurd hb (h1.2.2 i ob hi)
theorem Rel.forget (h : Rel P w0 lent H0 s a w G) {i : Nat} {G' : Gh} (hag : Agree G G' i) (hH : G'.H = G.H) : Rel P w0 lent H0 (s.forget i) a w G' := by
 have hl : ∀ (j : Nat) (ob : Ob), z4 (Yk i s.o) j = some ob → j ≠ i ∧ ∃ o1, z4 s.o j = some o1 ∧ ob = o1.forget i := by
  intro j ob hj
  rw [kF] at hj
  by_cases hji : j = i
  ·simp [hji] at hj
  ·simp only [hji, if_false] at hj
   obtain ⟨o1, h1, rfl⟩ := Option.map_eq_some_iff.1 hj
   exact ⟨hji, o1, h1, rfl⟩
 refine { h with inH := by rw [hH]; exact h.inH, base := by rw [hH]; exact h.base, pv := hag.pv.trans h.pv, hnew := by rw [hH]; exact h.hnew, defers := h.defers, len := by simpa [St.forget, Kf] using h.len, slots := fun j x hx => ?_, objs := fun j ob hj => ?_, away := fun j ob k hj hb => ?_, apart := fun j m oj om k hj hm hb hb' => ?_, pin := fun j ob b hj hp => ?_ }
 ·have hx' : (za i s.t)[j]? = some x := hx
  rw [kG] at hx'
  obtain ⟨y, hy, rfl⟩ := Option.map_eq_some_iff.1 hx'
  exact RA.forget hag y _ (h.slots j y hy)
 ·obtain ⟨hji, o1, h1, rfl⟩ := hl j ob hj
  exact RO.forget hag hji (h.objs j o1 h1)
 ·obtain ⟨hji, o1, h1, rfl⟩ := hl j ob hj
  rw [Vl hag hji] at hb
  rw [hH]
  exact h.away j o1 k h1 hb
 ·obtain ⟨hji, o1, h1, rfl⟩ := hl j oj hj
  obtain ⟨hmi, o2, h2, rfl⟩ := hl m om hm
  rw [Vl hag hji] at hb
  rw [Vl hag hmi] at hb'
  exact h.apart j m o1 o2 k h1 h2 hb hb'
 ·obtain ⟨hji, o1, h1, rfl⟩ := hl j ob hj
  rw [hag.g j hji]
  exact h.pin j o1 b h1 hp
theorem Rel.add (h : Rel P w0 lent H0 s a w G) {i : Nat} {ob : Ob} (hn : z4 s.o i = none) (hro : RO G w i ob) (hb : ∀ k, zR G i ob k → VQ w0 lent s G k) (hp : ∀ b, H0.pin i = some b → G.g i = b) :
  Rel P w0 lent H0 ⟨s.t, (i, ob) :: s.o⟩ a w G := by
 have hl : ∀ (j : Nat) (oj : Ob), z4 ((i, ob) :: s.o) j = some oj → (j = i ∧ oj = ob) ∨ (j ≠ i ∧ z4 s.o j = some oj) := by
  intro j oj hj
  by_cases hji : i = j
  ·subst hji
   simp only [z4, yw, cond_true, Option.some.injEq] at hj
   exact .inl ⟨rfl, hj.symm⟩
  ·simp only [z4, yF hji, cond_false] at hj
   exact .inr ⟨fun e => hji e.symm, hj⟩
 refine { h with defers := h.defers, len := h.len, slots := h.slots, objs := fun j oj hj => ?_, away := fun j oj k hj hbj => ?_, apart := fun j m oj om k hj hm hbj hbm => ?_, pin := fun j oj b hj hpb => ?_ }
 ·rcases hl j oj hj with ⟨rfl, rfl⟩ | ⟨_, h1⟩
  ·exact hro
  ·exact h.objs j oj h1
 ·rcases hl j oj hj with ⟨rfl, rfl⟩ | ⟨_, h1⟩
  ·exact ⟨(hb k hbj).1, (hb k hbj).2.1⟩
  ·exact h.away j oj k h1 hbj
 ·rcases hl j oj hj with ⟨rfl, rfl⟩ | ⟨hji, h1⟩ <;> rcases hl m om hm with ⟨rfl, rfl⟩ | ⟨hmi, h2⟩
  ·rfl
  ·exact absurd hbm ((hb k hbj).2.2 m om h2)
  ·exact absurd hbj ((hb k hbm).2.2 j oj h1)
  ·exact h.apart j m oj om k h1 h2 hbj hbm
 ·rcases hl j oj hj with ⟨rfl, rfl⟩ | ⟨_, h1⟩
  ·exact hp b hpb
  ·exact h.pin j oj b h1 hpb
theorem Rel.set (h : Rel P w0 lent H0 s a w G) {i : Nat} {ob : Ob} (hro : RO G w i ob)
  (hb : ∀ k, zR G i ob k → G.H k = none ∧ (w0.heap.size ≤ k ∨ lent k) ∧ ∀ (j : Nat) (oj : Ob), j ≠ i → z4 s.o j = some oj → ¬ zR G j oj k) : Rel P w0 lent H0 (s.set i ob) a w G := by
 have hl : ∀ (j : Nat) (oj : Ob), z4 (qW s.o i ob) j = some oj → (j = i ∧ oj = ob) ∨ (j ≠ i ∧ z4 s.o j = some oj) := by
  intro j oj hj
  rw [wM] at hj
  by_cases hji : j = i
  ·simp only [hji, if_true] at hj
   obtain ⟨_, _, h2⟩ := Option.map_eq_some_iff.1 hj
   exact .inl ⟨hji, h2.symm⟩
  ·simp only [hji, if_false] at hj
   exact .inr ⟨hji, hj⟩
 refine { h with defers := h.defers, len := h.len, slots := h.slots, objs := fun j oj hj => ?_, away := fun j oj k hj hbj => ?_, apart := fun j m oj om k hj hm hbj hbm => ?_, pin := fun j oj b hj hpb => ?_ }
 ·rcases hl j oj hj with ⟨rfl, rfl⟩ | ⟨_, h1⟩
  ·exact hro
  ·exact h.objs j oj h1
 ·rcases hl j oj hj with ⟨rfl, rfl⟩ | ⟨_, h1⟩
  ·exact ⟨(hb k hbj).1, (hb k hbj).2.1⟩
  ·exact h.away j oj k h1 hbj
 ·rcases hl j oj hj with ⟨rfl, rfl⟩ | ⟨hji, h1⟩ <;> rcases hl m om hm with ⟨rfl, rfl⟩ | ⟨hmi, h2⟩
  ·rfl
  ·exact absurd hbm ((hb k hbj).2.2 m om hmi h2)
  ·exact absurd hbj ((hb k hbm).2.2 j oj hji h1)
  ·exact h.apart j m oj om k h1 h2 hbj hbm
 ·have hj' : z4 (qW s.o i ob) j = some oj := hj
  rw [wM] at hj'
  by_cases hji : j = i
  ·subst hji
   simp only [if_true] at hj'
   obtain ⟨o1, h1, _⟩ := Option.map_eq_some_iff.1 hj'
   exact h.pin j o1 b h1 hpb
  ·simp only [hji, if_false] at hj'
   exact h.pin j oj b hj' hpb
theorem Rel.gone (h : Rel P w0 lent H0 s a w G) (i : Nat) : Rel P w0 lent H0 (s.set i .gone) a w G := h.set trivial (fun k hk => by simp [zR] at hk)
theorem y84 (i : Nat) (x y : Ob) : ∀ o : List (Nat × Ob), qW (qW o i x) i y = qW o i y
 | [] => rfl
 | (j, z) :: r => by
  by_cases hj : j = i
  ·subst hj
   simp [qW, yw]
  ·simp [qW, yF hj, y84 i x y r]
theorem St.set_set (s : St) (i : Nat) (x y : Ob) : (s.set i x).set i y = s.set i y := by simp [St.set, y84]
theorem Rel.grow (h : Rel P w0 lent H0 s a w G) {H' : Hp} (hH : G.H.le H') (hin : H'.le (ZQ w)) (haw : ∀ (j : Nat) (oj : Ob) (k : Nat), z4 s.o j = some oj → zR G j oj k → H' k = none) (hnw : ∀ k ob, H' k = some ob → G.H k = some ob ∨ w0.heap.size ≤ k ∨ lent k) :
  Rel P w0 lent H0 s a w { G with H := H' } := by
 refine { h with inH := hin, base := h.base.trans hH, hnew := fun k ob hk => (hnw k ob hk).elim (h.hnew k ob) .inr, defers := h.defers, len := h.len, slots := fun i x hx => RA.mono (G' := { G with H := H' }) hH rfl rfl rfl rfl x _ (h.slots i x hx), objs := fun i ob hi => RO.mono (G' := { G with H := H' }) hH rfl rfl rfl rfl (h.objs i ob hi), away := fun i ob k hi hb => ?_, apart := fun i j oi oj k hi hj hb hb' => ?_ }
 ·rw [vd (G := G) (G' := { G with H := H' }) rfl rfl] at hb
  exact ⟨haw i ob k hi hb, (h.away i ob k hi hb).2⟩
 ·rw [vd (G := G) (G' := { G with H := H' }) rfl rfl] at hb hb'
  exact h.apart i j oi oj k hi hj hb hb'
end
end Go.Proofs.YtgediecndaheiaaGreat.R
