/- RdImpl, RdImpl2, RdImpl3, RdImpl4, CopyPool, Next, NodePut, JoinT, TreePut, CutAge, Calm, Prune, Prune2, EntDraw, Apply, Apply2, Apply3, DrawP, DrawQ, Same, EncFew, Images. No condition. -/
import Derived.Test.YthgdjjdigalckaaGreatPRdBack
set_option linter.all false
namespace Go.Proofs.YthgdjjdigalckaaGreat.Pl
open Go.Proofs.YthgdjjdigalckaaGreat.R Go.Proofs.YthgdjjdigalckaaGreat.XI
section
variable {T A R : Type} {step : (T → Option R) → T → Option R} {l : List Int} {rd : Rd A} {enc : A → List Int}
theorem ybA (St : Nat → Int → Bool → List A → T) (k : Int → Bool → List A → Option R)
  (hbb : ∀ again m i o, m < 300 → 0 ≤ i → i ≤ (l.length : Int) → List.length o ≤ 1000 → ∃ j y, 0 ≤ j ∧ j ≤ (l.length : Int) ∧ step again (St (m + 1) i true o) = again (St m j true (o ++ [y])))
  (hstop : ∀ again i b o, step again (St 0 i b o) = k i b o) :
  ∀ (n : Nat) (i : Int) (o : List A) (f : Nat), n < 300 → 0 ≤ i → i ≤ (l.length : Int) → List.length o + n ≤ 1000 → n + 1 ≤ f → ∃ j o', 0 ≤ j ∧ j ≤ (l.length : Int) ∧ zh step f (St n i true o) = k j true o' := by
 intro n
 induction n with
 | zero =>
  intro i o f _ i0 i1 _ hf
  obtain ⟨f', rfl⟩ : ∃ f', f = f' + 1 := ⟨f - 1, by omega⟩
  exact ⟨i, o, i0, i1, by rw [zh, hstop]⟩
 | succ n ih =>
  intro i o f hn i0 i1 ho hf
  obtain ⟨f', rfl⟩ : ∃ f', f = f' + 1 := ⟨f - 1, by omega⟩
  obtain ⟨j, y, j0, j1, e⟩ := hbb (zh step f') n i o (by omega) i0 i1 (by omega)
  rw [zh, e]
  exact ih j (o ++ [y]) f' (by omega) j0 j1 (by rw [List.length_append]; simp only [List.length_cons, List.length_nil]; omega) (by omega)
theorem yfg (hg : y9S l rd enc) (St : Nat → Int → Bool → List A → T) (k : Int → Bool → List A → Option R)
  (hgo : ∀ again m i o x j, m < 300 → 0 ≤ i → i ≤ (l.length : Int) → List.length o ≤ 1000 → rd i = some (x, j) → step again (St (m + 1) i false o) = again (St m j false (o ++ [x])))
  (hbad : ∀ again m i o, m < 300 → 0 ≤ i → i ≤ (l.length : Int) → List.length o ≤ 1000 → rd i = none → ∃ j y, 0 ≤ j ∧ j ≤ (l.length : Int) ∧ step again (St (m + 1) i false o) = again (St m j true (o ++ [y])))
  (hbb : ∀ again m i o, m < 300 → 0 ≤ i → i ≤ (l.length : Int) → List.length o ≤ 1000 → ∃ j y, 0 ≤ j ∧ j ≤ (l.length : Int) ∧ step again (St (m + 1) i true o) = again (St m j true (o ++ [y])))
  (hstop : ∀ again i b o, step again (St 0 i b o) = k i b o) :
  ∀ (n : Nat) (i : Int) (o : List A) (f : Nat), n < 300 → 0 ≤ i → i ≤ (l.length : Int) → List.length o + n ≤ 1000 → n + 1 ≤ f →
   (∀ xs j, wY rd n i = some (xs, j) → zh step f (St n i false o) = k j false (o ++ xs)) ∧ (wY rd n i = none → ∃ j o', 0 ≤ j ∧ j ≤ (l.length : Int) ∧ zh step f (St n i false o) = k j true o') := by
 intro n
 induction n with
 | zero =>
  intro i o f _ i0 i1 _ hf
  obtain ⟨f', rfl⟩ : ∃ f', f = f' + 1 := ⟨f - 1, by omega⟩
  refine ⟨fun xs j h => ?_, fun h => ?_⟩
  ·unfold wY at h
   injection h with h
   injection h with ha hb
   subst ha hb
   rw [zh, hstop, List.append_nil]
  ·unfold wY at h
   cases h
 | succ n ih =>
  intro i o f hn i0 i1 ho hf
  obtain ⟨f', rfl⟩ : ∃ f', f = f' + 1 := ⟨f - 1, by omega⟩
  rw [zh]
  unfold wY
  cases hr : rd i with
  | none =>
   refine ⟨fun xs j h => by simp at h, fun _ => ?_⟩
   obtain ⟨j, y, j0, j1, e⟩ := hbad (zh step f') n i o (by omega) i0 i1 (by omega) hr
   rw [e]
   exact ybA St k hbb hstop n j _ f' (by omega) j0 j1 (by rw [List.length_append]; simp only [List.length_cons, List.length_nil]; omega) (by omega)
  | some xj =>
   obtain ⟨x, j⟩ := xj
   have hs := hg i x j i0 i1 hr
   obtain ⟨h1, h2⟩ := ih j (o ++ [x]) f' (by omega) hs.j0 hs.le (by rw [List.length_append]; simp only [List.length_cons, List.length_nil]; omega) (by omega)
   rw [hgo _ n i o x j (by omega) i0 i1 (by omega) hr]
   simp only
   cases hm : wY rd n j with
   | none => exact ⟨fun xs k h => by simp at h, fun _ => h2 hm⟩
   | some yk =>
    obtain ⟨ys, k'⟩ := yk
    refine ⟨fun xs k2 h => ?_, fun h => by simp at h⟩
    simp only at h
    injection h with h
    injection h with ha hb
    subst ha hb
    rw [h1 ys k' hm, List.append_assoc]
    rfl
theorem qt (hg : y9S l rd enc) (St : Nat → Int → Bool → List A → T) (k : Int → Bool → List A → Option R)
  (hgo : ∀ again m i o x j, m < 300 → 0 ≤ i → i ≤ (l.length : Int) → List.length o ≤ 1000 → rd i = some (x, j) → step again (St (m + 1) i false o) = again (St m j false (o ++ [x])))
  (hbad : ∀ again m i o, m < 300 → 0 ≤ i → i ≤ (l.length : Int) → List.length o ≤ 1000 → rd i = none → ∃ j y, 0 ≤ j ∧ j ≤ (l.length : Int) ∧ step again (St (m + 1) i false o) = again (St m j true (o ++ [y])))
  (hbb : ∀ again m i o, m < 300 → 0 ≤ i → i ≤ (l.length : Int) → List.length o ≤ 1000 → ∃ j y, 0 ≤ j ∧ j ≤ (l.length : Int) ∧ step again (St (m + 1) i true o) = again (St m j true (o ++ [y])))
  (hstop : ∀ again i b o, step again (St 0 i b o) = k i b o) (n : Nat) (hn : n < 300) (i : Int) (i0 : 0 ≤ i) (i1 : i ≤ (l.length : Int)) :
  ((∀ xs j, wY rd n i = some (xs, j) → zh step zu (St n i false []) = k j false xs) ∧ (wY rd n i = none → ∃ j o', 0 ≤ j ∧ j ≤ (l.length : Int) ∧ zh step zu (St n i false []) = k j true o')) ∧
  ∃ j o', 0 ≤ j ∧ j ≤ (l.length : Int) ∧ zh step zu (St n i true []) = k j true o' := by
 have h1 := yfg hg St k hgo hbad hbb hstop n i [] zu hn i0 i1 (by simp; omega) (by rw [JG]; omega)
 have h2 := ybA St k hbb hstop n i [] zu hn i0 i1 (by simp; omega) (by rw [JG]; omega)
 exact ⟨by simpa using h1, h2⟩
end
section
variable {l : List Int} (hb : isBytes l) (hl : l.length ≤ 1048576)
include hb hl
theorem Vh (i : Int) (h0 : 0 ≤ i) (h1 : i < (l.length : Int)) : yc (l, i, false) = some (by_ l i, l, i + 1, false) := by
 rw [yhj l i false hb (by omega) h0 (by omega), if_pos ⟨rfl, h1⟩]
theorem Wy (i : Int) (h0 : 0 ≤ i) (h1 : i = (l.length : Int)) : yc (l, i, false) = some (0, l, i, true) := by
 rw [yhj l i false hb (by omega) h0 (by omega), if_neg (fun h => by have := h.2; omega)]
theorem Y0 (i : Int) (h0 : 0 ≤ i) (h1 : i ≤ (l.length : Int)) : yc (l, i, true) = some (0, l, i, true) := ypN l i hb (by omega) h0 (by omega)
theorem JA (i : Int) (h0 : 0 ≤ i) (h1 : i ≤ (l.length : Int)) : Sim l (p1 l i) (yc (l, i, false)) := by
 unfold p1
 by_cases ha : i < (l.length : Int)
 ·rw [if_pos ha, Vh hb hl i h0 ha]
  refine ⟨fun x j h => ?_, fun h => by (cases h)⟩
  injection h with h
  injection h with h2 h3
  subst h2 h3
  rfl
 ·rw [if_neg ha, Wy hb hl i h0 (by omega)]
  exact ⟨fun x j h => by (cases h), fun _ => ⟨_, _, rfl, h0, h1⟩⟩
theorem Wn (i : Int) (h0 : 0 ≤ i) (h1 : i ≤ (l.length : Int)) : yx (l, i, true) = some (0, l, i, true) := yk3 l i hb (by omega) h0 (by omega)
theorem vW (i : Int) (h0 : 0 ≤ i) (h1 : i ≤ (l.length : Int)) : Sim l (p2 l i) (yx (l, i, false)) := by
 rw [ycK l i false hb (by omega) h0 (by omega)]
 unfold p2
 by_cases ha : i + 2 ≤ (l.length : Int)
 ·rw [if_pos ha, if_pos ⟨rfl, ha⟩]
  refine ⟨fun x j h => ?_, fun h => by (cases h)⟩
  injection h with h
  injection h with h2 h3
  subst h2 h3
  rfl
 ·rw [if_neg ha, if_neg (fun h => ha h.2)]
  exact ⟨fun x j h => by (cases h), fun _ => ⟨_, _, rfl, h0, h1⟩⟩
theorem Qx (i : Int) (h0 : 0 ≤ i) (h1 : i ≤ (l.length : Int)) : zb (l, i, true) = some (false, l, i, true) := by
 unfold zb
 simp only [Y0 hb hl i h0 h1, Option.bind_some]
 rfl
theorem y2R (i : Int) (h0 : 0 ≤ i) (h1 : i ≤ (l.length : Int)) : Sim l (pF l i) (zb (l, i, false)) := by
 unfold zb pF
 by_cases ha : i < (l.length : Int)
 ·simp only [Vh hb hl i h0 ha, Option.bind_some]
  by_cases hc : by_ l i ≤ 1
  ·rw [if_pos ⟨ha, hc⟩, decide_eq_false (show ¬ by_ l i > 1 by omega)]
   refine ⟨fun x j h => ?_, fun h => by (cases h)⟩
   injection h with h
   injection h with h2 h3
   subst h2 h3
   rfl
  ·rw [if_neg (fun h => hc h.2), decide_eq_true (show by_ l i > 1 by omega)]
   exact ⟨fun x j h => by (cases h), fun _ => ⟨_, _, rfl, by omega, by omega⟩⟩
 ·rw [if_neg (fun h => ha h.1)]
  simp only [Wy hb hl i h0 (by omega), Option.bind_some]
  exact ⟨fun x j h => by (cases h), fun _ => ⟨_, _, rfl, by omega, by omega⟩⟩
theorem yed (i : Int) (h0 : 0 ≤ i) (h1 : i ≤ (l.length : Int)) : yD (l, i, true) = some (0, 0, 0, 0, 0, l, i, true) := by
 unfold yD
 simp only [Y0 hb hl i h0 h1, Wn hb hl i h0 h1, Option.bind_some, cond_true]
theorem y4N (i : Int) (h0 : 0 ≤ i) (h1 : i ≤ (l.length : Int)) :
  (∀ x j, pK l i = some (x, j) → yD (l, i, false) = some (x.1, x.2.1, x.2.2.1, x.2.2.2.1, x.2.2.2.2, l, j, false)) ∧ (pK l i = none → ∃ y : y9, ∃ j, yD (l, i, false) = some (y.1, y.2.1, y.2.2.1, y.2.2.2.1, y.2.2.2.2, l, j, true) ∧ 0 ≤ j ∧ j ≤ (l.length : Int)) := by
 have no : ∀ j, 0 ≤ j → j ≤ (l.length : Int) → pK l i = none → yD (l, i, false) = some (0, 0, 0, 0, 0, l, j, true) → (∀ x j, pK l i = some (x, j) → yD (l, i, false) = some (x.1, x.2.1, x.2.2.1, x.2.2.2.1, x.2.2.2.2, l, j, false)) ∧ (pK l i = none → ∃ y : y9, ∃ j, yD (l, i, false) = some (y.1, y.2.1, y.2.2.1, y.2.2.2.1, y.2.2.2.2, l, j, true) ∧ 0 ≤ j ∧ j ≤ (l.length : Int)) := fun j j0 j1 hn he => ⟨fun x j h => by (rw [hn] at h; cases h), fun _ => ⟨(0, 0, 0, 0, 0), j, he, j0, j1⟩⟩
 have far : ¬ i + 6 ≤ (l.length : Int) → pK l i = none := fun h => by
  unfold pK
  rw [if_neg (fun hh => h hh.1)]
 by_cases a1 : i < (l.length : Int)
 ·by_cases a2 : i + 1 < (l.length : Int)
  ·by_cases a3 : i + 2 < (l.length : Int)
   ·by_cases a4 : i + 3 < (l.length : Int)
    ·have e1 := Vh hb hl i h0 a1
     have e2 := Vh hb hl (i + 1) (by omega) a2
     have e3 := Vh hb hl (i + 2) (by omega) a3
     have e4 := Vh hb hl (i + 3) (by omega) a4
     rw [show i + 1 + 1 = i + 2 by omega] at e2
     rw [show i + 2 + 1 = i + 3 by omega] at e3
     rw [show i + 3 + 1 = i + 4 by omega] at e4
     have e5 := ycK l (i + 4) false hb (by omega) (by omega) (by omega)
     by_cases a5 : i + 6 ≤ (l.length : Int)
     ·rw [if_pos ⟨rfl, by omega⟩, show i + 4 + 2 = i + 6 by omega] at e5
      cases hk : zV (by_ l i, by_ l (i + 1), by_ l (i + 2), by_ l (i + 3), w2 l (i + 4)) with
      | false =>
       refine no (i + 6) (by omega) (by omega) ?_ ?_
       ·unfold pK
        rw [if_neg (fun h => by rw [show zV (ycQ l i) = false from hk] at h; cases h.2)]
       ·unfold yD
        simp only [e1, e2, e3, e4, e5, Option.bind_some, Vu, hk, cond_false, Bool.not_false, cond_true]
      | true =>
       have hp : pK l i = some (ycQ l i, i + 6) := if_pos ⟨a5, hk⟩
       rw [hp]
       refine ⟨fun x j h => ?_, fun h => by (cases h)⟩
       injection h with h
       injection h with h2 h3
       subst h2 h3
       unfold yD
       simp only [e1, e2, e3, e4, e5, Option.bind_some, Vu, hk, cond_false, Bool.not_true]
       rfl
     ·rw [if_neg (fun h => by have := h.2; omega)] at e5
      refine no (i + 4) (by omega) (by omega) (far a5) ?_
      unfold yD
      simp only [e1, e2, e3, e4, e5, Option.bind_some, cond_true]
    ·have e1 := Vh hb hl i h0 a1
     have e2 := Vh hb hl (i + 1) (by omega) a2
     have e3 := Vh hb hl (i + 2) (by omega) a3
     have e4 := Wy hb hl (i + 3) (by omega) (by omega)
     rw [show i + 1 + 1 = i + 2 by omega] at e2
     rw [show i + 2 + 1 = i + 3 by omega] at e3
     refine no (i + 3) (by omega) (by omega) (far (by omega)) ?_
     unfold yD
     simp only [e1, e2, e3, e4, Wn hb hl (i + 3) (by omega) (by omega), Option.bind_some, cond_true]
   ·have e1 := Vh hb hl i h0 a1
    have e2 := Vh hb hl (i + 1) (by omega) a2
    have e3 := Wy hb hl (i + 2) (by omega) (by omega)
    rw [show i + 1 + 1 = i + 2 by omega] at e2
    refine no (i + 2) (by omega) (by omega) (far (by omega)) ?_
    unfold yD
    simp only [e1, e2, e3, Y0 hb hl (i + 2) (by omega) (by omega), Wn hb hl (i + 2) (by omega) (by omega), Option.bind_some, cond_true]
  ·have e1 := Vh hb hl i h0 a1
   have e2 := Wy hb hl (i + 1) (by omega) (by omega)
   refine no (i + 1) (by omega) (by omega) (far (by omega)) ?_
   unfold yD
   simp only [e1, e2, Y0 hb hl (i + 1) (by omega) (by omega), Wn hb hl (i + 1) (by omega) (by omega), Option.bind_some, cond_true]
 ·have e1 := Wy hb hl i h0 (by omega)
  refine no i h0 h1 (far (by omega)) ?_
  unfold yD
  simp only [e1, Y0 hb hl i h0 h1, Wn hb hl i h0 h1, Option.bind_some, cond_true]
end
end Go.Proofs.YthgdjjdigalckaaGreat.Pl
namespace Go.Proofs.YthgdjjdigalckaaGreat.Pl
open Go.Proofs.YthgdjjdigalckaaGreat.R Go.Proofs.YthgdjjdigalckaaGreat.XI
theorem y3o {l : List Int} {i : Int} (h1 : i ≤ (l.length : Int)) (h : p1 l i = none) : i = (l.length : Int) := by
 unfold p1 at h
 split at h
 ·cases h
 ·omega
theorem vi (N m : Nat) : decide (((N : Nat) : Int) - ((m + 1 : Nat) : Int) < ((N : Nat) : Int)) = true := decide_eq_true (by omega)
theorem y9Y (N : Nat) : decide (((N : Nat) : Int) - ((0 : Nat) : Int) < ((N : Nat) : Int)) = false := decide_eq_false (by omega)
theorem wX (N m : Nat) (hN : N < 1000) (hm : m < 300) : Go.IntKind.wrap .i64 (((N : Nat) : Int) - ((m + 1 : Nat) : Int) + 1) = ((N : Nat) : Int) - ((m : Nat) : Int) := by
 rw [w64 (by omega) (by omega)]
 omega
section
variable {R : Type} {l : List Int} (hb : isBytes l) (hl : l.length ≤ 1048576)
include hb hl
abbrev K6 : Type := Int × Int × List za × Int × Bool × List y9
abbrev K7 : Type := Int × Int × List za × Int × Bool × List y9 × List y7
theorem yGU (k0 : K6 → Option R) (k1 : K7 → Option R) (n c : Int) (N : Nat) (hN : N < 300) (i : Int) (h0 : 0 ≤ i) (h1 : i ≤ (l.length : Int)) :
  ((∀ x j, wY (pK l) N i = some (x, j) → yA k0 k1 (Sum.inl (n, c, ((N : Nat) : Int), 0, l, i, false, [])) = k0 (n, c, l, j, false, x)) ∧ (wY (pK l) N i = none → ∃ j x, 0 ≤ j ∧ j ≤ (l.length : Int) ∧ yA k0 k1 (Sum.inl (n, c, ((N : Nat) : Int), 0, l, i, false, [])) = k0 (n, c, l, j, true, x))) ∧
  ∃ j x, 0 ≤ j ∧ j ≤ (l.length : Int) ∧ yA k0 k1 (Sum.inl (n, c, ((N : Nat) : Int), 0, l, i, true, [])) = k0 (n, c, l, j, true, x) := by
 unfold yA
 have := qt (step := yO k0 k1) (y9U hb) (fun m i b o => .inl (n, c, ((N : Nat) : Int), ((N : Nat) : Int) - ((m : Nat) : Int), l, i, b, o)) (fun i b o => k0 (n, c, l, i, b, o)) ?_ ?_ ?_ ?_ N hN i h0 h1
 ·rw [show ((N : Nat) : Int) - ((N : Nat) : Int) = 0 by omega] at this
  exact this
 ·intro again m i o x j hm i0 i1 ho hr
  simp only [yO, vi, wX N m (by omega) hm, cond_true, Option.bind_some, (y4N hb hl i i0 i1).1 x j hr]
  rw [if_pos (by simp only [List.length_cons, List.length_nil]; omega)]
 ·intro again m i o hm i0 i1 ho hr
  obtain ⟨y, j, e, j0, j1⟩ := (y4N hb hl i i0 i1).2 hr
  refine ⟨j, y, j0, j1, ?_⟩
  simp only [yO, vi, wX N m (by omega) hm, cond_true, Option.bind_some, e]
  rw [if_pos (by simp only [List.length_cons, List.length_nil]; omega)]
 ·intro again m i o hm i0 i1 ho
  refine ⟨i, (0, 0, 0, 0, 0), i0, i1, ?_⟩
  simp only [yO, vi, wX N m (by omega) hm, cond_true, Option.bind_some, yed hb hl i i0 i1]
  rw [if_pos (by simp only [List.length_cons, List.length_nil]; omega)]
 ·intro again i b o
  simp only [yO, y9Y, cond_false]
theorem yGV (k0 : K6 → Option R) (k1 : K7 → Option R) (n c : Int) (ss : List y7) (N : Nat) (hN : N < 300) (i : Int) (h0 : 0 ≤ i) (h1 : i ≤ (l.length : Int)) :
  ((∀ x j, wY (pK l) N i = some (x, j) → yA k0 k1 (Sum.inr (n, c, ((N : Nat) : Int), 0, l, i, false, [], ss)) = k1 (n, c, l, j, false, x, ss)) ∧ (wY (pK l) N i = none → ∃ j x, 0 ≤ j ∧ j ≤ (l.length : Int) ∧ yA k0 k1 (Sum.inr (n, c, ((N : Nat) : Int), 0, l, i, false, [], ss)) = k1 (n, c, l, j, true, x, ss))) ∧
  ∃ j x, 0 ≤ j ∧ j ≤ (l.length : Int) ∧ yA k0 k1 (Sum.inr (n, c, ((N : Nat) : Int), 0, l, i, true, [], ss)) = k1 (n, c, l, j, true, x, ss) := by
 unfold yA
 have := qt (step := yO k0 k1) (y9U hb) (fun m i b o => .inr (n, c, ((N : Nat) : Int), ((N : Nat) : Int) - ((m : Nat) : Int), l, i, b, o, ss)) (fun i b o => k1 (n, c, l, i, b, o, ss)) ?_ ?_ ?_ ?_ N hN i h0 h1
 ·rw [show ((N : Nat) : Int) - ((N : Nat) : Int) = 0 by omega] at this
  exact this
 ·intro again m i o x j hm i0 i1 ho hr
  simp only [yO, vi, wX N m (by omega) hm, cond_true, Option.bind_some, (y4N hb hl i i0 i1).1 x j hr]
  rw [if_pos (by simp only [List.length_cons, List.length_nil]; omega)]
 ·intro again m i o hm i0 i1 ho hr
  obtain ⟨y, j, e, j0, j1⟩ := (y4N hb hl i i0 i1).2 hr
  refine ⟨j, y, j0, j1, ?_⟩
  simp only [yO, vi, wX N m (by omega) hm, cond_true, Option.bind_some, e]
  rw [if_pos (by simp only [List.length_cons, List.length_nil]; omega)]
 ·intro again m i o hm i0 i1 ho
  refine ⟨i, (0, 0, 0, 0, 0), i0, i1, ?_⟩
  simp only [yO, vi, wX N m (by omega) hm, cond_true, Option.bind_some, yed hb hl i i0 i1]
  rw [if_pos (by simp only [List.length_cons, List.length_nil]; omega)]
 ·intro again i b o
  simp only [yO, y9Y, cond_false]
theorem ypT (k0 : K6 → Option R) (k1 : K7 → Option R) (n c : Int) (i : Int) (h0 : 0 ≤ i) (h1 : i ≤ (l.length : Int)) :
  ((∀ x j, pS l i = some (x, j) → (Option.bind (yc (l, i, false)) fun r2 => yA k0 k1 (Sum.inl (n, c, r2.1, 0, r2.2.1, r2.2.2.1, r2.2.2.2, []))) = k0 (n, c, l, j, false, x)) ∧ (pS l i = none → ∃ j x, 0 ≤ j ∧ j ≤ (l.length : Int) ∧ (Option.bind (yc (l, i, false)) fun r2 => yA k0 k1 (Sum.inl (n, c, r2.1, 0, r2.2.1, r2.2.2.1, r2.2.2.2, []))) = k0 (n, c, l, j, true, x))) ∧
  ∃ j x, 0 ≤ j ∧ j ≤ (l.length : Int) ∧ (Option.bind (yc (l, i, true)) fun r2 => yA k0 k1 (Sum.inl (n, c, r2.1, 0, r2.2.1, r2.2.2.1, r2.2.2.2, []))) = k0 (n, c, l, j, true, x) := by
 have hbad := (yGU hb hl k0 k1 n c 0 (by omega) i h0 h1).2
 refine ⟨?_, ?_⟩
 ·unfold pS
  cases e1 : p1 l i with
  | none =>
   simp only [Wy hb hl i h0 (y3o h1 e1), Option.bind_some, Option.bind_none]
   exact ⟨fun x j h => by (cases h), fun _ => hbad⟩
  | some x1 =>
   have c1 := y0q hb (n := x1.1) (j := x1.2) e1
   have s1 := YU hb i x1.1 x1.2 h0 h1 e1
   have := (yGU hb hl k0 k1 n c x1.1.toNat (by omega) x1.2 s1.j0 s1.le).1
   rw [show ((x1.1.toNat : Nat) : Int) = x1.1 by omega] at this
   simp only [(JA hb hl i h0 h1).1 x1.1 x1.2 e1, Option.bind_some]
   exact this
 ·simp only [Y0 hb hl i h0 h1, Option.bind_some]
  exact hbad
theorem ypU (k0 : K6 → Option R) (k1 : K7 → Option R) (n c : Int) (ss : List y7) (i : Int) (h0 : 0 ≤ i) (h1 : i ≤ (l.length : Int)) :
  ((∀ x j, pS l i = some (x, j) → (Option.bind (yc (l, i, false)) fun r2 => yA k0 k1 (Sum.inr (n, c, r2.1, 0, r2.2.1, r2.2.2.1, r2.2.2.2, [], ss))) = k1 (n, c, l, j, false, x, ss)) ∧ (pS l i = none → ∃ j x, 0 ≤ j ∧ j ≤ (l.length : Int) ∧ (Option.bind (yc (l, i, false)) fun r2 => yA k0 k1 (Sum.inr (n, c, r2.1, 0, r2.2.1, r2.2.2.1, r2.2.2.2, [], ss))) = k1 (n, c, l, j, true, x, ss))) ∧
  ∃ j x, 0 ≤ j ∧ j ≤ (l.length : Int) ∧ (Option.bind (yc (l, i, true)) fun r2 => yA k0 k1 (Sum.inr (n, c, r2.1, 0, r2.2.1, r2.2.2.1, r2.2.2.2, [], ss))) = k1 (n, c, l, j, true, x, ss) := by
 have hbad := (yGV hb hl k0 k1 n c ss 0 (by omega) i h0 h1).2
 refine ⟨?_, ?_⟩
 ·unfold pS
  cases e1 : p1 l i with
  | none =>
   simp only [Wy hb hl i h0 (y3o h1 e1), Option.bind_some, Option.bind_none]
   exact ⟨fun x j h => by (cases h), fun _ => hbad⟩
  | some x1 =>
   have c1 := y0q hb (n := x1.1) (j := x1.2) e1
   have s1 := YU hb i x1.1 x1.2 h0 h1 e1
   have := (yGV hb hl k0 k1 n c ss x1.1.toNat (by omega) x1.2 s1.j0 s1.le).1
   rw [show ((x1.1.toNat : Nat) : Int) = x1.1 by omega] at this
   simp only [(JA hb hl i h0 h1).1 x1.1 x1.2 e1, Option.bind_some]
   exact this
 ·simp only [Y0 hb hl i h0 h1, Option.bind_some]
  exact hbad
omit hb hl
def yhR (N : Nat) (l : List Int) (m : Nat) (i : Int) (b : Bool) : List y7 → j6
 | [] => .inl (((N : Nat) : Int), ((N : Nat) : Int) - ((m : Nat) : Int), l, i, b)
 | a :: r => .inr (((N : Nat) : Int), ((N : Nat) : Int) - ((m : Nat) : Int), l, i, b, a :: r)
include hb hl
theorem ymE (N : Nat) (hN : N < 300) (i : Int) (h0 : 0 ≤ i) (h1 : i ≤ (l.length : Int)) :
  ((∀ x j, wY (pS l) N i = some (x, j) → YL (fun x12 => some (([] : List y7), x12.1, x12.2.1, x12.2.2)) (fun x13 => some (x13.2.2.2, x13.1, x13.2.1, x13.2.2.1)) (Sum.inl (((N : Nat) : Int), 0, l, i, false)) = some (x, l, j, false)) ∧ (wY (pS l) N i = none → ∃ j x, 0 ≤ j ∧ j ≤ (l.length : Int) ∧ YL (fun x12 => some (([] : List y7), x12.1, x12.2.1, x12.2.2)) (fun x13 => some (x13.2.2.2, x13.1, x13.2.1, x13.2.2.1)) (Sum.inl (((N : Nat) : Int), 0, l, i, false)) = some (x, l, j, true))) ∧
  ∃ j x, 0 ≤ j ∧ j ≤ (l.length : Int) ∧ YL (fun x12 => some (([] : List y7), x12.1, x12.2.1, x12.2.2)) (fun x13 => some (x13.2.2.2, x13.1, x13.2.1, x13.2.2.1)) (Sum.inl (((N : Nat) : Int), 0, l, i, true)) = some (x, l, j, true) := by
 unfold YL
 have := qt (step := z4 (fun x12 => some (([] : List y7), x12.1, x12.2.1, x12.2.2)) (fun x13 => some (x13.2.2.2, x13.1, x13.2.1, x13.2.2.1))) (ycR hb) (fun m i b o => yhR N l m i b o) (fun i b o => some (o, l, i, b)) ?_ ?_ ?_ ?_ N hN i h0 h1
 ·have e0 : ∀ b, yhR N l N i b [] = .inl (((N : Nat) : Int), 0, l, i, b) := fun b => by
   unfold yhR
   rw [show ((N : Nat) : Int) - ((N : Nat) : Int) = 0 by omega]
  rw [e0, e0] at this
  exact this
 ·intro again m i o x j hm i0 i1 ho hr
  cases o with
  | nil =>
   simp only [yhR, z4, vi, wX N m (by omega) hm, cond_true]
   rw [(ypT hb hl _ _ _ _ i i0 i1).1.1 x j hr]
   simp only [wX N m (by omega) hm]
   rw [if_pos (yfv _ _ (by decide))]
   rfl
  | cons a r =>
   simp only [yhR, z4, vi, wX N m (by omega) hm, cond_true]
   rw [(ypU hb hl _ _ _ _ (a :: r) i i0 i1).1.1 x j hr]
   simp only [wX N m (by omega) hm]
   rw [if_pos (by simp only [List.length_cons, List.length_nil] at ho ⊢; omega)]
   rfl
 ·intro again m i o hm i0 i1 ho hr
  cases o with
  | nil =>
   simp only [yhR, z4, vi, wX N m (by omega) hm, cond_true]
   obtain ⟨j, x, j0, j1, e⟩ := (ypT hb hl (fun x5 => if List.length ([x5.2.2.2.2.2] : List y7) * 24 < 140737488355328 then again (Sum.inr (x5.1, (Go.IntKind.wrap .i64 (x5.2.1 + (1 : Int))), x5.2.2.1, x5.2.2.2.1, x5.2.2.2.2.1, ([x5.2.2.2.2.2] : List y7))) else none) (fun x6 => if (List.length x6.2.2.2.2.2.2 + List.length ([x6.2.2.2.2.2.1] : List y7)) * 24 < 140737488355328 then again (Sum.inr (x6.1, (Go.IntKind.wrap .i64 (x6.2.1 + (1 : Int))), x6.2.2.1, x6.2.2.2.1, x6.2.2.2.2.1, (x6.2.2.2.2.2.2 ++ ([x6.2.2.2.2.2.1] : List y7)))) else none) ((N : Nat) : Int) (((N : Nat) : Int) - ((m + 1 : Nat) : Int)) i i0 i1).1.2 hr
   refine ⟨j, x, j0, j1, ?_⟩
   rw [e]
   simp only [wX N m (by omega) hm]
   rw [if_pos (yfv _ _ (by decide))]
   rfl
  | cons a r =>
   simp only [yhR, z4, vi, wX N m (by omega) hm, cond_true]
   obtain ⟨j, x, j0, j1, e⟩ := (ypU hb hl (fun x5 => if List.length ([x5.2.2.2.2.2] : List y7) * 24 < 140737488355328 then again (Sum.inr (x5.1, (Go.IntKind.wrap .i64 (x5.2.1 + (1 : Int))), x5.2.2.1, x5.2.2.2.1, x5.2.2.2.2.1, ([x5.2.2.2.2.2] : List y7))) else none) (fun x6 => if (List.length x6.2.2.2.2.2.2 + List.length ([x6.2.2.2.2.2.1] : List y7)) * 24 < 140737488355328 then again (Sum.inr (x6.1, (Go.IntKind.wrap .i64 (x6.2.1 + (1 : Int))), x6.2.2.1, x6.2.2.2.1, x6.2.2.2.2.1, (x6.2.2.2.2.2.2 ++ ([x6.2.2.2.2.2.1] : List y7)))) else none) ((N : Nat) : Int) (((N : Nat) : Int) - ((m + 1 : Nat) : Int)) (a :: r) i i0 i1).1.2 hr
   refine ⟨j, x, j0, j1, ?_⟩
   rw [e]
   simp only [wX N m (by omega) hm]
   rw [if_pos (by simp only [List.length_cons, List.length_nil] at ho ⊢; omega)]
   rfl
 ·intro again m i o hm i0 i1 ho
  cases o with
  | nil =>
   simp only [yhR, z4, vi, wX N m (by omega) hm, cond_true]
   obtain ⟨j, x, j0, j1, e⟩ := (ypT hb hl (fun x5 => if List.length ([x5.2.2.2.2.2] : List y7) * 24 < 140737488355328 then again (Sum.inr (x5.1, (Go.IntKind.wrap .i64 (x5.2.1 + (1 : Int))), x5.2.2.1, x5.2.2.2.1, x5.2.2.2.2.1, ([x5.2.2.2.2.2] : List y7))) else none) (fun x6 => if (List.length x6.2.2.2.2.2.2 + List.length ([x6.2.2.2.2.2.1] : List y7)) * 24 < 140737488355328 then again (Sum.inr (x6.1, (Go.IntKind.wrap .i64 (x6.2.1 + (1 : Int))), x6.2.2.1, x6.2.2.2.1, x6.2.2.2.2.1, (x6.2.2.2.2.2.2 ++ ([x6.2.2.2.2.2.1] : List y7)))) else none) ((N : Nat) : Int) (((N : Nat) : Int) - ((m + 1 : Nat) : Int)) i i0 i1).2
   refine ⟨j, x, j0, j1, ?_⟩
   rw [e]
   simp only [wX N m (by omega) hm]
   rw [if_pos (yfv _ _ (by decide))]
   rfl
  | cons a r =>
   simp only [yhR, z4, vi, wX N m (by omega) hm, cond_true]
   obtain ⟨j, x, j0, j1, e⟩ := (ypU hb hl (fun x5 => if List.length ([x5.2.2.2.2.2] : List y7) * 24 < 140737488355328 then again (Sum.inr (x5.1, (Go.IntKind.wrap .i64 (x5.2.1 + (1 : Int))), x5.2.2.1, x5.2.2.2.1, x5.2.2.2.2.1, ([x5.2.2.2.2.2] : List y7))) else none) (fun x6 => if (List.length x6.2.2.2.2.2.2 + List.length ([x6.2.2.2.2.2.1] : List y7)) * 24 < 140737488355328 then again (Sum.inr (x6.1, (Go.IntKind.wrap .i64 (x6.2.1 + (1 : Int))), x6.2.2.1, x6.2.2.2.1, x6.2.2.2.2.1, (x6.2.2.2.2.2.2 ++ ([x6.2.2.2.2.2.1] : List y7)))) else none) ((N : Nat) : Int) (((N : Nat) : Int) - ((m + 1 : Nat) : Int)) (a :: r) i i0 i1).2
   refine ⟨j, x, j0, j1, ?_⟩
   rw [e]
   simp only [wX N m (by omega) hm]
   rw [if_pos (by simp only [List.length_cons, List.length_nil] at ho ⊢; omega)]
   rfl
 ·intro again i b o
  cases o with
  | nil => simp only [yhR, z4, y9Y, cond_false]
  | cons a r => simp only [yhR, z4, y9Y, cond_false]
theorem y2S (i : Int) (h0 : 0 ≤ i) (h1 : i ≤ (l.length : Int)) : Sim l (pNd l i) (zq (l, i, false)) ∧ ∃ y j, zq (l, i, true) = some (y, l, j, true) ∧ 0 ≤ j ∧ j ≤ (l.length : Int) := by
 obtain ⟨jb, xb, jb0, jb1, eb⟩ := (ymE hb hl 0 (by omega) i h0 h1).2
 refine ⟨?_, ?_⟩
 ·unfold zq pNd
  cases e1 : p1 l i with
  | none =>
   simp only [Wy hb hl i h0 (y3o h1 e1), Option.bind_some, Option.bind_none]
   exact ⟨fun x j h => by (cases h), fun _ => ⟨xb, jb, eb, jb0, jb1⟩⟩
  | some x1 =>
   have c1 := y0q hb (n := x1.1) (j := x1.2) e1
   have s1 := YU hb i x1.1 x1.2 h0 h1 e1
   have := (ymE hb hl x1.1.toNat (by omega) x1.2 s1.j0 s1.le).1
   rw [show ((x1.1.toNat : Nat) : Int) = x1.1 by omega] at this
   simp only [(JA hb hl i h0 h1).1 x1.1 x1.2 e1, Option.bind_some]
   refine ⟨this.1, fun h => ?_⟩
   obtain ⟨j, x, j0, j1, e⟩ := this.2 h
   exact ⟨x, j, e, j0, j1⟩
 ·unfold zq
  simp only [Y0 hb hl i h0 h1, Option.bind_some]
  exact ⟨xb, jb, eb, jb0, jb1⟩
end
end Go.Proofs.YthgdjjdigalckaaGreat.Pl
namespace Go.Proofs.YthgdjjdigalckaaGreat.Pl
open Go.Proofs.YthgdjjdigalckaaGreat.R Go.Proofs.YthgdjjdigalckaaGreat.XI
abbrev S9 : Type := List za × Int × Bool × Int × Int × List ye × List ya × List y8 × List yf
abbrev S9n : Type := List za × Int × Bool × Int × Int × List ye × List y0 × List ya × List y8 × List yf
section
variable {R : Type} {l : List Int} (hb : isBytes l) (hl : l.length ≤ 1048576) (z : Int)
include hb hl
theorem yGW (i : Int) (i0 : 0 ≤ i) (i1 : i ≤ (l.length : Int)) :
  (∀ x j, pA l i = some (x, j) → ∃ j1, yc (l, i, false) = some (x.1, l, j1, false) ∧ yc (l, j1, false) = some (x.2, l, j, false)) ∧
  (pA l i = none → ∃ y : ya, ∃ j j1 b1, yc (l, i, false) = some (y.1, l, j1, b1) ∧ yc (l, j1, b1) = some (y.2, l, j, true) ∧ 0 ≤ j ∧ j ≤ (l.length : Int)) := by
 unfold pA
 cases e1 : p1 l i with
 | none =>
  obtain ⟨y1, j1, f1, a1, b1⟩ := (JA hb hl _ i0 i1).2 e1
  exact ⟨fun x j h => by (cases h), fun _ => ⟨(y1, 0), j1, j1, true, f1, Y0 hb hl j1 a1 b1, a1, b1⟩⟩
 | some x1 =>
  have f1 := (JA hb hl _ i0 i1).1 x1.1 x1.2 e1
  have s1 := YU hb _ x1.1 x1.2 i0 i1 e1
  simp only [Option.bind_some]
  cases e2 : p1 l x1.2 with
  | none =>
   obtain ⟨y1, j1, f2, a1, b1⟩ := (JA hb hl _ s1.j0 s1.le).2 e2
   exact ⟨fun x j h => by (cases h), fun _ => ⟨(x1.1, y1), j1, x1.2, false, f1, f2, a1, b1⟩⟩
  | some x2 =>
   have f2 := (JA hb hl _ s1.j0 s1.le).1 x2.1 x2.2 e2
   refine ⟨fun x j h => ?_, fun h => by (cases h)⟩
   simp only [Option.bind_some] at h
   injection h with h
   injection h with h2 h3
   subst h2 h3
   exact ⟨x1.2, f1, f2⟩
theorem ip5 (k0 : S9 → Option R) (N : Nat) (hN : N < 300) (i : Int) (h0 : 0 ≤ i) (h1 : i ≤ (l.length : Int)) :
  ((∀ a j, wY (pA l) N i = some (a, j) → Ya k0 (((N : Nat) : Int), 0, l, i, false, 0, z, [], [], [], []) = k0 (l, j, false, 0, z, [], a, [], [])) ∧ (wY (pA l) N i = none → ∃ j a, 0 ≤ j ∧ j ≤ (l.length : Int) ∧ Ya k0 (((N : Nat) : Int), 0, l, i, false, 0, z, [], [], [], []) = k0 (l, j, true, 0, z, [], a, [], []))) ∧
  ∃ j a, 0 ≤ j ∧ j ≤ (l.length : Int) ∧ Ya k0 (((N : Nat) : Int), 0, l, i, true, 0, z, [], [], [], []) = k0 (l, j, true, 0, z, [], a, [], []) := by
 unfold Ya
 have := qt (step := zO k0) (y60 hb) (fun m i b o => (((N : Nat) : Int), ((N : Nat) : Int) - ((m : Nat) : Int), l, i, b, 0, z, [], o, [], [])) (fun i b o => k0 (l, i, b, 0, z, [], o, [], [])) ?_ ?_ ?_ ?_ N hN i h0 h1
 ·rw [show ((N : Nat) : Int) - ((N : Nat) : Int) = 0 by omega] at this
  exact this
 ·intro again m i o x j hm i0 i1 ho hr
  obtain ⟨j1, f1, f2⟩ := (yGW hb hl i i0 i1).1 x j hr
  unfold zO
  simp only [vi, wX N m (by omega) hm, cond_true, Option.bind_some, f1, f2]
  rw [if_pos (by simp only [List.length_cons, List.length_nil]; omega)]
 ·intro again m i o hm i0 i1 ho hr
  obtain ⟨y, j, j1, b1, f1, f2, j0, jl⟩ := (yGW hb hl i i0 i1).2 hr
  refine ⟨j, y, j0, jl, ?_⟩
  unfold zO
  simp only [vi, wX N m (by omega) hm, cond_true, Option.bind_some, f1, f2]
  rw [if_pos (by simp only [List.length_cons, List.length_nil]; omega)]
 ·intro again m i o hm i0 i1 ho
  refine ⟨i, (0, 0), i0, i1, ?_⟩
  unfold zO
  simp only [vi, wX N m (by omega) hm, cond_true, Option.bind_some, Y0 hb hl i i0 i1]
  rw [if_pos (by simp only [List.length_cons, List.length_nil]; omega)]
 ·intro again i b o
  unfold zO
  simp only [y9Y, cond_false]
theorem yhS (i : Int) (i0 : 0 ≤ i) (i1 : i ≤ (l.length : Int)) : zD (l, i, true) = some (noB, l, i, true) := by
 rw [yhA l i true hb (by omega) i0 (by omega), if_neg (fun h => by (cases h.1))]
theorem ybB (i : Int) (h0 : 0 ≤ i) (h1 : i ≤ (l.length : Int)) : Sim l (pT l i) (zD (l, i, false)) := by
 rw [yhA l i false hb (by omega) h0 (by omega)]
 unfold pT
 by_cases ht : (y4L l i).2.2 = true
 ·rw [if_pos ht, if_pos ⟨rfl, ht⟩]
  refine ⟨fun x j h => ?_, fun h => by (cases h)⟩
  injection h with h
  injection h with h2 h3
  subst h2 h3
  rfl
 ·rw [if_neg ht, if_neg (fun h => ht h.2)]
  exact ⟨fun x j h => by (cases h), fun _ => ⟨_, _, rfl, h0, h1⟩⟩
theorem yGX (i : Int) (i0 : 0 ≤ i) (i1 : i ≤ (l.length : Int)) :
  (∀ x j, pV l i = some (x, j) → ∃ j1 j2 j3, zD (l, i, false) = some (x.1, l, j1, false) ∧ yc (l, j1, false) = some (x.2.1, l, j2, false) ∧ yc (l, j2, false) = some (x.2.2.1, l, j3, false) ∧ zb (l, j3, false) = some (x.2.2.2, l, j, false)) ∧
  (pV l i = none → ∃ y : yf, ∃ j j1 b1 j2 b2 j3 b3, zD (l, i, false) = some (y.1, l, j1, b1) ∧ yc (l, j1, b1) = some (y.2.1, l, j2, b2) ∧ yc (l, j2, b2) = some (y.2.2.1, l, j3, b3) ∧ zb (l, j3, b3) = some (y.2.2.2, l, j, true) ∧ 0 ≤ j ∧ j ≤ (l.length : Int)) := by
 unfold pV
 cases e0 : pT l i with
 | none =>
  obtain ⟨y1, j1, f1, a1, b1⟩ := (ybB hb hl _ i0 i1).2 e0
  exact ⟨fun x j h => by (cases h), fun _ => ⟨(y1, 0, 0, false), j1, j1, true, j1, true, j1, true, f1, Y0 hb hl j1 a1 b1, Y0 hb hl j1 a1 b1, Qx hb hl j1 a1 b1, a1, b1⟩⟩
 | some x0 =>
  have f0 := (ybB hb hl _ i0 i1).1 x0.1 x0.2 e0
  have s0 := yhC hb _ x0.1 x0.2 i0 i1 e0
  simp only [Option.bind_some]
  cases e1 : p1 l x0.2 with
  | none =>
   obtain ⟨y1, j1, f1, a1, b1⟩ := (JA hb hl _ s0.j0 s0.le).2 e1
   exact ⟨fun x j h => by (cases h), fun _ => ⟨(x0.1, y1, 0, false), j1, x0.2, false, j1, true, j1, true, f0, f1, Y0 hb hl j1 a1 b1, Qx hb hl j1 a1 b1, a1, b1⟩⟩
  | some x1 =>
   have f1 := (JA hb hl _ s0.j0 s0.le).1 x1.1 x1.2 e1
   have s1 := YU hb _ x1.1 x1.2 s0.j0 s0.le e1
   simp only [Option.bind_some]
   cases e2 : p1 l x1.2 with
   | none =>
    obtain ⟨y1, j1, f2, a1, b1⟩ := (JA hb hl _ s1.j0 s1.le).2 e2
    exact ⟨fun x j h => by (cases h), fun _ => ⟨(x0.1, x1.1, y1, false), j1, x0.2, false, x1.2, false, j1, true, f0, f1, f2, Qx hb hl j1 a1 b1, a1, b1⟩⟩
   | some x2 =>
    have f2 := (JA hb hl _ s1.j0 s1.le).1 x2.1 x2.2 e2
    have s2 := YU hb _ x2.1 x2.2 s1.j0 s1.le e2
    simp only [Option.bind_some]
    cases e3 : pF l x2.2 with
    | none =>
     obtain ⟨y1, j1, f3, a1, b1⟩ := (y2R hb hl _ s2.j0 s2.le).2 e3
     exact ⟨fun x j h => by (cases h), fun _ => ⟨(x0.1, x1.1, x2.1, y1), j1, x0.2, false, x1.2, false, x2.2, false, f0, f1, f2, f3, a1, b1⟩⟩
    | some x3 =>
     have f3 := (y2R hb hl _ s2.j0 s2.le).1 x3.1 x3.2 e3
     refine ⟨fun x j h => ?_, fun h => by (cases h)⟩
     simp only [Option.bind_some] at h
     injection h with h
     injection h with h2 h3
     subst h2 h3
     exact ⟨x0.2, x1.2, x2.2, f0, f1, f2, f3⟩
theorem yGY (k0 : S9 → Option R) (a : List ya) (N : Nat) (hN : N < 300) (i : Int) (h0 : 0 ≤ i) (h1 : i ≤ (l.length : Int)) :
  ((∀ v j, wY (pV l) N i = some (v, j) → zW k0 (((N : Nat) : Int), 0, l, i, false, 0, z, [], a, [], []) = k0 (l, j, false, 0, z, [], a, [], v)) ∧ (wY (pV l) N i = none → ∃ j v, 0 ≤ j ∧ j ≤ (l.length : Int) ∧ zW k0 (((N : Nat) : Int), 0, l, i, false, 0, z, [], a, [], []) = k0 (l, j, true, 0, z, [], a, [], v))) ∧
  ∃ j v, 0 ≤ j ∧ j ≤ (l.length : Int) ∧ zW k0 (((N : Nat) : Int), 0, l, i, true, 0, z, [], a, [], []) = k0 (l, j, true, 0, z, [], a, [], v) := by
 unfold zW
 have := qt (step := zF k0) (y61 hb) (fun m i b o => (((N : Nat) : Int), ((N : Nat) : Int) - ((m : Nat) : Int), l, i, b, 0, z, [], a, [], o)) (fun i b o => k0 (l, i, b, 0, z, [], a, [], o)) ?_ ?_ ?_ ?_ N hN i h0 h1
 ·rw [show ((N : Nat) : Int) - ((N : Nat) : Int) = 0 by omega] at this
  exact this
 ·intro again m i o x j hm i0 i1 ho hr
  obtain ⟨j1, j2, j3, f1, f2, f3, f4⟩ := (yGX hb hl i i0 i1).1 x j hr
  unfold zF
  simp only [vi, wX N m (by omega) hm, cond_true, Option.bind_some, f1, f2, f3, f4]
  rw [if_pos (by simp only [List.length_cons, List.length_nil]; omega)]
 ·intro again m i o hm i0 i1 ho hr
  obtain ⟨y, j, j1, b1, j2, b2, j3, b3, f1, f2, f3, f4, j0, jl⟩ := (yGX hb hl i i0 i1).2 hr
  refine ⟨j, y, j0, jl, ?_⟩
  unfold zF
  simp only [vi, wX N m (by omega) hm, cond_true, Option.bind_some, f1, f2, f3, f4]
  rw [if_pos (by simp only [List.length_cons, List.length_nil]; omega)]
 ·intro again m i o hm i0 i1 ho
  refine ⟨i, (noB, 0, 0, false), i0, i1, ?_⟩
  unfold zF
  simp only [vi, wX N m (by omega) hm, cond_true, Option.bind_some, yhS hb hl i i0 i1, Y0 hb hl i i0 i1, Qx hb hl i i0 i1]
  rw [if_pos (by simp only [List.length_cons, List.length_nil]; omega)]
 ·intro again i b o
  unfold zF
  simp only [y9Y, cond_false]
theorem yyi (i : Int) (i0 : 0 ≤ i) (i1 : i ≤ (l.length : Int)) :
  (∀ x j, pC l i = some (x, j) → ∃ j1 j2, yx (l, i, false) = some (x.1, l, j1, false) ∧ zb (l, j1, false) = some (x.2.1, l, j2, false) ∧ yx (l, j2, false) = some (x.2.2, l, j, false)) ∧
  (pC l i = none → ∃ y : y8, ∃ j j1 b1 j2 b2, yx (l, i, false) = some (y.1, l, j1, b1) ∧ zb (l, j1, b1) = some (y.2.1, l, j2, b2) ∧ yx (l, j2, b2) = some (y.2.2, l, j, true) ∧ 0 ≤ j ∧ j ≤ (l.length : Int)) := by
 unfold pC
 cases e1 : p2 l i with
 | none =>
  obtain ⟨y1, j1, f1, a1, b1⟩ := (vW hb hl _ i0 i1).2 e1
  exact ⟨fun x j h => by (cases h), fun _ => ⟨(y1, false, 0), j1, j1, true, j1, true, f1, Qx hb hl j1 a1 b1, Wn hb hl j1 a1 b1, a1, b1⟩⟩
 | some x1 =>
  have f1 := (vW hb hl _ i0 i1).1 x1.1 x1.2 e1
  have s1 := Q4 hb _ x1.1 x1.2 i0 i1 e1
  simp only [Option.bind_some]
  cases e2 : pF l x1.2 with
  | none =>
   obtain ⟨y1, j1, f2, a1, b1⟩ := (y2R hb hl _ s1.j0 s1.le).2 e2
   exact ⟨fun x j h => by (cases h), fun _ => ⟨(x1.1, y1, 0), j1, x1.2, false, j1, true, f1, f2, Wn hb hl j1 a1 b1, a1, b1⟩⟩
  | some x2 =>
   have f2 := (y2R hb hl _ s1.j0 s1.le).1 x2.1 x2.2 e2
   have s2 := y9T hb _ x2.1 x2.2 s1.j0 s1.le e2
   simp only [Option.bind_some]
   cases e3 : p2 l x2.2 with
   | none =>
    obtain ⟨y1, j1, f3, a1, b1⟩ := (vW hb hl _ s2.j0 s2.le).2 e3
    exact ⟨fun x j h => by (cases h), fun _ => ⟨(x1.1, x2.1, y1), j1, x1.2, false, x2.2, false, f1, f2, f3, a1, b1⟩⟩
   | some x3 =>
    have f3 := (vW hb hl _ s2.j0 s2.le).1 x3.1 x3.2 e3
    refine ⟨fun x j h => ?_, fun h => by (cases h)⟩
    simp only [Option.bind_some] at h
    injection h with h
    injection h with h2 h3
    subst h2 h3
    exact ⟨x1.2, x2.2, f1, f2, f3⟩
theorem yEy (k0 : S9 → Option R) (a : List ya) (v : List yf) (i : Int) (h0 : 0 ≤ i) (h1 : i ≤ (l.length : Int)) :
  ((∀ c j, wY (pC l) 24 i = some (c, j) → zX k0 (0, l, i, false, 0, z, [], a, [], v) = k0 (l, j, false, 0, z, [], a, c, v)) ∧ (wY (pC l) 24 i = none → ∃ j c, 0 ≤ j ∧ j ≤ (l.length : Int) ∧ zX k0 (0, l, i, false, 0, z, [], a, [], v) = k0 (l, j, true, 0, z, [], a, c, v))) ∧
  ∃ j c, 0 ≤ j ∧ j ≤ (l.length : Int) ∧ zX k0 (0, l, i, true, 0, z, [], a, [], v) = k0 (l, j, true, 0, z, [], a, c, v) := by
 unfold zX
 have := qt (step := zG k0) (y62 hb) (fun m i b o => (((24 : Nat) : Int) - ((m : Nat) : Int), l, i, b, 0, z, [], a, o, v)) (fun i b o => k0 (l, i, b, 0, z, [], a, o, v)) ?_ ?_ ?_ ?_ 24 (by omega) i h0 h1
 ·exact this
 ·intro again m i o x j hm i0 i1 ho hr
  obtain ⟨j1, j2, f1, f2, f3⟩ := (yyi hb hl i i0 i1).1 x j hr
  unfold zG
  have hlt : decide (((24 : Nat) : Int) - ((m + 1 : Nat) : Int) < (24 : Int)) = true := vi 24 m
  simp only [hlt, wX 24 m (by omega) hm, cond_true, Option.bind_some, f1, f2, f3]
  rw [if_pos (by simp only [List.length_cons, List.length_nil]; omega)]
 ·intro again m i o hm i0 i1 ho hr
  obtain ⟨y, j, j1, b1, j2, b2, f1, f2, f3, j0, jl⟩ := (yyi hb hl i i0 i1).2 hr
  refine ⟨j, y, j0, jl, ?_⟩
  unfold zG
  have hlt : decide (((24 : Nat) : Int) - ((m + 1 : Nat) : Int) < (24 : Int)) = true := vi 24 m
  simp only [hlt, wX 24 m (by omega) hm, cond_true, Option.bind_some, f1, f2, f3]
  rw [if_pos (by simp only [List.length_cons, List.length_nil]; omega)]
 ·intro again m i o hm i0 i1 ho
  refine ⟨i, (0, false, 0), i0, i1, ?_⟩
  unfold zG
  have hlt : decide (((24 : Nat) : Int) - ((m + 1 : Nat) : Int) < (24 : Int)) = true := vi 24 m
  simp only [hlt, wX 24 m (by omega) hm, cond_true, Option.bind_some, Wn hb hl i i0 i1, Qx hb hl i i0 i1]
  rw [if_pos (by simp only [List.length_cons, List.length_nil]; omega)]
 ·intro again i b o
  unfold zG
  have hlt : decide (((24 : Nat) : Int) - ((0 : Nat) : Int) < (24 : Int)) = false := y9Y 24
  simp only [hlt, cond_false]
omit hb hl
def y2T (N : Nat) (l : List Int) (z : Int) (a : List ya) (c : List y8) (v : List yf) (m : Nat) (i : Int) (b : Bool) : List (Int × y0) → ZF
 | [] => .inl (((N : Nat) : Int), ((N : Nat) : Int) - ((m : Nat) : Int), l, i, b, 0, z, [], a, c, v)
 | p :: r => .inr (((N : Nat) : Int), ((N : Nat) : Int) - ((m : Nat) : Int), l, i, b, 0, z, (p :: r).map Prod.fst, (p :: r).map Prod.snd, a, c, v)
def yfh (k0 : S9 → Option R) (k1 : S9n → Option R) (l : List Int) (z : Int) (a : List ya) (c : List y8) (v : List yf) (i : Int) (b : Bool) : List (Int × y0) → Option R
 | [] => k0 (l, i, b, 0, z, [], a, c, v)
 | p :: r => k1 (l, i, b, 0, z, (p :: r).map Prod.fst, (p :: r).map Prod.snd, a, c, v)
include hb hl
theorem yGZ (i : Int) (i0 : 0 ≤ i) (i1 : i ≤ (l.length : Int)) :
  (∀ x j, pL l i = some (x, j) → ∃ j1, yx (l, i, false) = some (x.1, l, j1, false) ∧ zq (l, j1, false) = some (x.2, l, j, false)) ∧
  (pL l i = none → ∃ y : Int × y0, ∃ j j1 b1, yx (l, i, false) = some (y.1, l, j1, b1) ∧ zq (l, j1, b1) = some (y.2, l, j, true) ∧ 0 ≤ j ∧ j ≤ (l.length : Int)) := by
 unfold pL
 cases e1 : p2 l i with
 | none =>
  obtain ⟨y1, j1, f1, a1, b1⟩ := (vW hb hl _ i0 i1).2 e1
  obtain ⟨y2, j2, f2, a2, b2⟩ := (y2S hb hl j1 a1 b1).2
  exact ⟨fun x j h => by (cases h), fun _ => ⟨(y1, y2), j2, j1, true, f1, f2, a2, b2⟩⟩
 | some x1 =>
  have f1 := (vW hb hl _ i0 i1).1 x1.1 x1.2 e1
  have s1 := Q4 hb _ x1.1 x1.2 i0 i1 e1
  simp only [Option.bind_some]
  cases e2 : pNd l x1.2 with
  | none =>
   obtain ⟨y1, j1, f2, a1, b1⟩ := (y2S hb hl _ s1.j0 s1.le).1.2 e2
   exact ⟨fun x j h => by (cases h), fun _ => ⟨(x1.1, y1), j1, x1.2, false, f1, f2, a1, b1⟩⟩
  | some x2 =>
   have f2 := (y2S hb hl _ s1.j0 s1.le).1.1 x2.1 x2.2 e2
   refine ⟨fun x j h => ?_, fun h => by (cases h)⟩
   simp only [Option.bind_some] at h
   injection h with h
   injection h with h2 h3
   subst h2 h3
   exact ⟨x1.2, f1, f2⟩
theorem yH0 (k0 : S9 → Option R) (k1 : S9n → Option R) (a : List ya) (v : List yf) (c : List y8) (N : Nat) (hN : N < 300) (i : Int) (h0 : 0 ≤ i) (h1 : i ≤ (l.length : Int)) :
  ((∀ t j, wY (pL l) N i = some (t, j) → zY k0 k1 (Sum.inl (((N : Nat) : Int), 0, l, i, false, 0, z, [], a, c, v)) = yfh k0 k1 l z a c v j false t) ∧ (wY (pL l) N i = none → ∃ j t, 0 ≤ j ∧ j ≤ (l.length : Int) ∧ zY k0 k1 (Sum.inl (((N : Nat) : Int), 0, l, i, false, 0, z, [], a, c, v)) = yfh k0 k1 l z a c v j true t)) ∧
  ∃ j t, 0 ≤ j ∧ j ≤ (l.length : Int) ∧ zY k0 k1 (Sum.inl (((N : Nat) : Int), 0, l, i, true, 0, z, [], a, c, v)) = yfh k0 k1 l z a c v j true t := by
 unfold zY
 have := qt (step := yQ k0 k1) (ycS hb) (fun m i b o => y2T N l z a c v m i b o) (fun i b o => yfh k0 k1 l z a c v i b o) ?_ ?_ ?_ ?_ N hN i h0 h1
 ·have e0 : ∀ b, y2T N l z a c v N i b [] = .inl (((N : Nat) : Int), 0, l, i, b, 0, z, [], a, c, v) := fun b => by
   unfold y2T
   rw [show ((N : Nat) : Int) - ((N : Nat) : Int) = 0 by omega]
  rw [e0, e0] at this
  exact this
 ·intro again m i o x j hm i0 i1 ho hr
  obtain ⟨j1, f1, f2⟩ := (yGZ hb hl i i0 i1).1 x j hr
  cases o with
  | nil =>
   simp only [y2T, yQ, vi, wX N m (by omega) hm, cond_true, Option.bind_some, f1, f2]
   rw [if_pos (by simp only [List.length_cons, List.length_nil]; omega), if_pos (yfv _ _ (by decide))]
   rfl
  | cons p r =>
   simp only [y2T, yQ, vi, wX N m (by omega) hm, cond_true, Option.bind_some, f1, f2]
   rw [if_pos (by simp only [List.length_map, List.length_cons, List.length_nil] at ho ⊢; omega), if_pos (by simp only [List.length_map, List.length_cons, List.length_nil] at ho ⊢; omega)]
   simp only [List.cons_append, y2T, List.map_cons, List.map_append, List.map_nil]
 ·intro again m i o hm i0 i1 ho hr
  obtain ⟨y, j, j1, b1, f1, f2, j0, jl⟩ := (yGZ hb hl i i0 i1).2 hr
  refine ⟨j, y, j0, jl, ?_⟩
  cases o with
  | nil =>
   simp only [y2T, yQ, vi, wX N m (by omega) hm, cond_true, Option.bind_some, f1, f2]
   rw [if_pos (by simp only [List.length_cons, List.length_nil]; omega), if_pos (yfv _ _ (by decide))]
   rfl
  | cons p r =>
   simp only [y2T, yQ, vi, wX N m (by omega) hm, cond_true, Option.bind_some, f1, f2]
   rw [if_pos (by simp only [List.length_map, List.length_cons, List.length_nil] at ho ⊢; omega), if_pos (by simp only [List.length_map, List.length_cons, List.length_nil] at ho ⊢; omega)]
   simp only [List.cons_append, y2T, List.map_cons, List.map_append, List.map_nil]
 ·intro again m i o hm i0 i1 ho
  obtain ⟨y2, j2, f2, a2, b2⟩ := (y2S hb hl i i0 i1).2
  refine ⟨j2, (0, y2), a2, b2, ?_⟩
  cases o with
  | nil =>
   simp only [y2T, yQ, vi, wX N m (by omega) hm, cond_true, Option.bind_some, Wn hb hl i i0 i1, f2]
   rw [if_pos (by simp only [List.length_cons, List.length_nil]; omega), if_pos (yfv _ _ (by decide))]
   rfl
  | cons p r =>
   simp only [y2T, yQ, vi, wX N m (by omega) hm, cond_true, Option.bind_some, Wn hb hl i i0 i1, f2]
   rw [if_pos (by simp only [List.length_map, List.length_cons, List.length_nil] at ho ⊢; omega), if_pos (by simp only [List.length_map, List.length_cons, List.length_nil] at ho ⊢; omega)]
   simp only [List.cons_append, y2T, List.map_cons, List.map_append, List.map_nil]
 ·intro again i b o
  cases o with
  | nil => simp only [y2T, yfh, yQ, y9Y, cond_false]
  | cons p r => simp only [y2T, yfh, yQ, y9Y, cond_false]
abbrev P9 : Type := List ye × List y0 × List ya × List y8 × List yf × Int × List za × Int × Bool
def yEz (l : List Int) (o : Option P9) : Prop := ∃ q t a c v z j, o = some (q, t, a, c, v, z, l, j, true)
theorem ycX (a : List ya) (v : List yf) (c : List y8) (i : Int) (h0 : 0 ≤ i) (h1 : i ≤ (l.length : Int)) :
  yEz l (zY (fun x21 => some (x21.2.2.2.2.2.1, ([] : List y0), x21.2.2.2.2.2.2.1, x21.2.2.2.2.2.2.2.1, x21.2.2.2.2.2.2.2.2, x21.2.2.2.2.1, x21.1, x21.2.1, x21.2.2.1)) (fun x22 => some (x22.2.2.2.2.2.1, x22.2.2.2.2.2.2.1, x22.2.2.2.2.2.2.2.1, x22.2.2.2.2.2.2.2.2.1, x22.2.2.2.2.2.2.2.2.2, x22.2.2.2.2.1, x22.1, x22.2.1, x22.2.2.1)) (Sum.inl (0, 0, l, i, true, 0, z, [], a, c, v))) := by
 obtain ⟨j, t, _, _, e⟩ := (yH0 hb hl z (fun x21 => some (x21.2.2.2.2.2.1, ([] : List y0), x21.2.2.2.2.2.2.1, x21.2.2.2.2.2.2.2.1, x21.2.2.2.2.2.2.2.2, x21.2.2.2.2.1, x21.1, x21.2.1, x21.2.2.1)) (fun x22 => some (x22.2.2.2.2.2.1, x22.2.2.2.2.2.2.1, x22.2.2.2.2.2.2.2.1, x22.2.2.2.2.2.2.2.2.1, x22.2.2.2.2.2.2.2.2.2, x22.2.2.2.2.1, x22.1, x22.2.1, x22.2.2.1)) a v c 0 (by omega) i h0 h1).2
 have e' := e
 unfold yEz
 cases t with
 | nil => exact ⟨_, _, _, _, _, _, _, e⟩
 | cons p r => exact ⟨_, _, _, _, _, _, _, e⟩
end
end Go.Proofs.YthgdjjdigalckaaGreat.Pl
namespace Go.Proofs.YthgdjjdigalckaaGreat.Pl
open Go.Proofs.YthgdjjdigalckaaGreat.R Go.Proofs.YthgdjjdigalckaaGreat.XI
section
variable {R : Type} {l : List Int} (hb : isBytes l) (hl : l.length ≤ 1048576) (z : Int)
include hb hl
theorem yyj (k0 : S9 → Option R) (i : Int) (h0 : 0 ≤ i) (h1 : i ≤ (l.length : Int)) : ∃ j a, 0 ≤ j ∧ j ≤ (l.length : Int) ∧ Ya k0 (0, 0, l, i, true, 0, z, [], [], [], []) = k0 (l, j, true, 0, z, [], a, [], []) := (ip5 hb hl z k0 0 (by omega) i h0 h1).2
theorem yee (k0 : S9 → Option R) (a : List ya) (i : Int) (h0 : 0 ≤ i) (h1 : i ≤ (l.length : Int)) : ∃ j v, 0 ≤ j ∧ j ≤ (l.length : Int) ∧ zW k0 (0, 0, l, i, true, 0, z, [], a, [], []) = k0 (l, j, true, 0, z, [], a, [], v) := (yGY hb hl z k0 a 0 (by omega) i h0 h1).2
theorem ybC (k0 : S9 → Option R) (a : List ya) (v : List yf) (i : Int) (h0 : 0 ≤ i) (h1 : i ≤ (l.length : Int)) : ∃ j c, 0 ≤ j ∧ j ≤ (l.length : Int) ∧ zX k0 (0, l, i, true, 0, z, [], a, [], v) = k0 (l, j, true, 0, z, [], a, c, v) := (yEy hb hl z k0 a v i h0 h1).2
theorem ybD : (∀ p j, pP l = some (p, j) → Yz (l, 0, false) = some (p.2.2.2.2.map Prod.fst, p.2.2.2.2.map Prod.snd, p.2.1, p.2.2.2.1, p.2.2.1, p.1, l, j, false)) ∧ (pP l = none → yEz l (Yz (l, 0, false))) := by
 have z0 : (0 : Int) ≤ (l.length : Int) := by omega
 unfold Yz pP
 cases e0 : p2 l 0 with
 | none =>
  obtain ⟨y, j, f, a1, b1⟩ := (vW hb hl 0 (Int.le_refl _) z0).2 e0
  refine ⟨fun p j h => by (cases h), fun _ => ?_⟩
  simp only [f, Option.bind_some, Y0 hb hl j a1 b1]
  obtain ⟨j2, a, a2, b2, f2⟩ := yyj hb hl y _ j a1 b1
  rw [f2]
  simp only [Option.bind_some, Y0 hb hl j2 a2 b2]
  obtain ⟨j3, v, a3, b3, f3⟩ := yee hb hl y _ a j2 a2 b2
  rw [f3]
  simp only []
  obtain ⟨j4, c, a4, b4, f4⟩ := ybC hb hl y _ a v j3 a3 b3
  rw [f4]
  simp only [Option.bind_some, Y0 hb hl j4 a4 b4]
  exact ycX hb hl y a v c j4 a4 b4
 | some z =>
  have f0 := (vW hb hl 0 (Int.le_refl _) z0).1 z.1 z.2 e0
  have s0 := Q4 hb 0 z.1 z.2 (Int.le_refl _) z0 e0
  simp only [f0, Option.bind_some]
  cases e1 : p1 l z.2 with
  | none =>
   refine ⟨fun p j h => by (cases h), fun _ => ?_⟩
   simp only [Wy hb hl z.2 s0.j0 (y3o s0.le e1), Option.bind_some]
   obtain ⟨j2, a, a2, b2, f2⟩ := yyj hb hl z.1 _ z.2 s0.j0 s0.le
   rw [f2]
   simp only [Option.bind_some, Y0 hb hl j2 a2 b2]
   obtain ⟨j3, v, a3, b3, f3⟩ := yee hb hl z.1 _ a j2 a2 b2
   rw [f3]
   simp only []
   obtain ⟨j4, c, a4, b4, f4⟩ := ybC hb hl z.1 _ a v j3 a3 b3
   rw [f4]
   simp only [Option.bind_some, Y0 hb hl j4 a4 b4]
   exact ycX hb hl z.1 a v c j4 a4 b4
  | some n1 =>
   have f1 := (JA hb hl _ s0.j0 s0.le).1 n1.1 n1.2 e1
   have s1 := YU hb _ n1.1 n1.2 s0.j0 s0.le e1
   have c1 := y0q hb (n := n1.1) (j := n1.2) e1
   have g1 : ((n1.1.toNat : Nat) : Int) = n1.1 := by omega
   simp only [f1, Option.bind_some]
   have hA := fun {R : Type} (k0 : S9 → Option R) => (ip5 hb hl z.1 k0 n1.1.toNat (by omega) n1.2 s1.j0 s1.le).1
   simp only [g1] at hA
   cases ea : wY (pA l) n1.1.toNat n1.2 with
   | none =>
    refine ⟨fun p j h => by (cases h), fun _ => ?_⟩
    obtain ⟨j2, a, a2, b2, f2⟩ := (hA _).2 ea
    rw [f2]
    simp only [Option.bind_some, Y0 hb hl j2 a2 b2]
    obtain ⟨j3, v, a3, b3, f3⟩ := yee hb hl z.1 _ a j2 a2 b2
    rw [f3]
    simp only []
    obtain ⟨j4, c, a4, b4, f4⟩ := ybC hb hl z.1 _ a v j3 a3 b3
    rw [f4]
    simp only [Option.bind_some, Y0 hb hl j4 a4 b4]
    exact ycX hb hl z.1 a v c j4 a4 b4
   | some a =>
    have sa := Kb (y60 hb) _ _ a.1 a.2 s1.j0 s1.le ea
    rw [(hA _).1 a.1 a.2 ea]
    simp only [Option.bind_some]
    cases e2 : p1 l a.2 with
    | none =>
     refine ⟨fun p j h => by (cases h), fun _ => ?_⟩
     simp only [Wy hb hl a.2 sa.j0 (y3o sa.le e2), Option.bind_some]
     obtain ⟨j3, v, a3, b3, f3⟩ := yee hb hl z.1 _ a.1 a.2 sa.j0 sa.le
     rw [f3]
     simp only []
     obtain ⟨j4, c, a4, b4, f4⟩ := ybC hb hl z.1 _ a.1 v j3 a3 b3
     rw [f4]
     simp only [Option.bind_some, Y0 hb hl j4 a4 b4]
     exact ycX hb hl z.1 a.1 v c j4 a4 b4
    | some n2 =>
     have f2 := (JA hb hl _ sa.j0 sa.le).1 n2.1 n2.2 e2
     have s2 := YU hb _ n2.1 n2.2 sa.j0 sa.le e2
     have c2 := y0q hb (n := n2.1) (j := n2.2) e2
     have g2 : ((n2.1.toNat : Nat) : Int) = n2.1 := by omega
     simp only [f2, Option.bind_some]
     have hV := fun {R : Type} (k0 : S9 → Option R) => (yGY hb hl z.1 k0 a.1 n2.1.toNat (by omega) n2.2 s2.j0 s2.le).1
     simp only [g2] at hV
     cases ev : wY (pV l) n2.1.toNat n2.2 with
     | none =>
      refine ⟨fun p j h => by (cases h), fun _ => ?_⟩
      obtain ⟨j3, v, a3, b3, f3⟩ := (hV _).2 ev
      rw [f3]
      simp only []
      obtain ⟨j4, c, a4, b4, f4⟩ := ybC hb hl z.1 _ a.1 v j3 a3 b3
      rw [f4]
      simp only [Option.bind_some, Y0 hb hl j4 a4 b4]
      exact ycX hb hl z.1 a.1 v c j4 a4 b4
     | some v =>
      have sv := Kb (y61 hb) _ _ v.1 v.2 s2.j0 s2.le ev
      rw [(hV _).1 v.1 v.2 ev]
      simp only [Option.bind_some]
      cases ec : wY (pC l) 24 v.2 with
      | none =>
       refine ⟨fun p j h => by (cases h), fun _ => ?_⟩
       obtain ⟨j4, c, a4, b4, f4⟩ := (yEy hb hl z.1 _ a.1 v.1 v.2 sv.j0 sv.le).1.2 ec
       rw [f4]
       simp only [Option.bind_some, Y0 hb hl j4 a4 b4]
       exact ycX hb hl z.1 a.1 v.1 c j4 a4 b4
      | some c =>
       have sc := Kb (y62 hb) _ _ c.1 c.2 sv.j0 sv.le ec
       rw [(yEy hb hl z.1 _ a.1 v.1 v.2 sv.j0 sv.le).1.1 c.1 c.2 ec]
       simp only [Option.bind_some]
       cases e3 : p1 l c.2 with
       | none =>
        refine ⟨fun p j h => by (cases h), fun _ => ?_⟩
        simp only [Wy hb hl c.2 sc.j0 (y3o sc.le e3), Option.bind_some]
        exact ycX hb hl z.1 a.1 v.1 c.1 c.2 sc.j0 sc.le
       | some n3 =>
        have f3 := (JA hb hl _ sc.j0 sc.le).1 n3.1 n3.2 e3
        have s3 := YU hb _ n3.1 n3.2 sc.j0 sc.le e3
        have c3 := y0q hb (n := n3.1) (j := n3.2) e3
        have g3 : ((n3.1.toNat : Nat) : Int) = n3.1 := by omega
        simp only [f3, Option.bind_some]
        have hN := fun {R : Type} (k0 : S9 → Option R) (k1 : S9n → Option R) => (yH0 hb hl z.1 k0 k1 a.1 v.1 c.1 n3.1.toNat (by omega) n3.2 s3.j0 s3.le).1
        simp only [g3] at hN
        cases et : wY (pL l) n3.1.toNat n3.2 with
        | none =>
         refine ⟨fun p j h => by (cases h), fun _ => ?_⟩
         obtain ⟨j, t, a1, b1, f⟩ := (hN _ _).2 et
         rw [f]
         cases t with
         | nil => exact ⟨_, _, _, _, _, _, _, rfl⟩
         | cons p r => exact ⟨_, _, _, _, _, _, _, rfl⟩
        | some t =>
         refine ⟨fun p j h => ?_, fun h => by (cases h)⟩
         simp only [Option.bind_some] at h
         injection h with h
         injection h with h2 h3
         subst h2 h3
         rw [(hN _ _).1 t.1 t.2 et]
         simp only
         generalize t.1 = ps
         cases ps with
         | nil => rfl
         | cons p r => rfl
theorem y1k : ZX l = some (y6E l) := by
 have hsm := @ye6 l hb hl
 unfold ZX y6E
 obtain ⟨h1, h2⟩ := ybD hb hl
 cases hp : pP l with
 | none =>
  obtain ⟨q, t, a, c, v, z, j, e⟩ := h2 hp
  simp only [e, Option.bind_some, yhk]
  rfl
 | some pj =>
  obtain ⟨p, j⟩ := pj
  obtain ⟨m1, m2, m3⟩ := hsm hp
  have hseg := yhD hb hp
  simp only [h1 p j hp, Option.bind_some, yhk]
  by_cases hj : j = (l.length : Int)
  ·have hje : (j == ((List.length l : Nat) : Int)) = true := by simpa using hj
   simp only [hje, Bool.not_false, Bool.and_self, Bool.not_true, cond_false, Q3 _ _ _ _ _ p.1 m2 m1.2.2.2.1 m1.2.2.2.2.1 m1.2.2.2.2.2 m3, y1i _ _ _ _ _ p.1 m2 m1.2.2.2.1 m1.2.2.2.2.1 m1.2.2.2.2.2 m3, Option.bind_some]
   cases hok : yT (p.2.2.2.2.map Prod.fst) (p.2.2.2.2.map Prod.snd) p.2.1 p.2.2.2.1 p.2.2.1 p.1 with
   | false =>
    rw [if_neg (fun h => by (cases h.2))]
    rfl
   | true =>
    rw [if_pos ⟨hj, rfl⟩]
    have henc : Yq (p.2.2.2.2.map Prod.fst) (p.2.2.2.2.map Prod.snd) p.2.1 p.2.2.2.1 p.2.2.1 p.1 = l := by
     unfold Yq
     rw [if_pos hok]
     have := hseg.eq
     have h0 : l.drop (0 : Int).toNat = l := rfl
     have h1 : l.drop j.toNat = [] := List.drop_of_length_le (by omega)
     rw [h0, h1, List.append_nil] at this
     exact this.symm
    simp only [henc, Vs, Bool.not_true, cond_false, Option.bind_some, beq_self_eq_true]
  ·have hje : (j == ((List.length l : Nat) : Int)) = false := by simpa using hj
   rw [if_neg (fun h => hj h.1)]
   simp only [hje, Bool.and_false, Bool.not_false, cond_true, Option.bind_some]
   rfl
end
end Go.Proofs.YthgdjjdigalckaaGreat.Pl
namespace Go.Proofs.YthgdjjdigalckaaGreat.Pl
open Go.Proofs.YthgdjjdigalckaaGreat.R Go.Proofs.YthgdjjdigalckaaGreat.XI
def ycY (n : y0) : Prop := List.length n ≤ 1048576 ∧ ∀ b ∈ (show List y7 from n), List.length b ≤ 1048576
theorem Q5 (n : List y7) (h : ycY n) : zo n = some n := by
 have h1 : n.length ≤ 1048576 := h.1
 have e : zo n = if n.length = 0 then some ([] : List y7) else some n := by
  unfold zo y0O
  refine ye1 (step := Z7 _ _) zi n (fun i => Sum.inl (i, n)) (fun i o => Sum.inr (i, n, o)) _ (fun o => some o) (by omega) ?_ ?_ ?_ ?_
  ·intro again i i0 i1
   have hw : Go.IntKind.wrap .i64 (i + 1) = i + 1 := w64 (by omega) (by omega)
   have hr : List.length (yr n i) ≤ 1048576 := h.2 _ (zA zi n i i0 i1)
   simp only [Z7, Bool.cond_eq_ite, decide_eq_true_eq, i0, i1, if_true, hw]
   rw [if_pos (by simp only [List.length_nil]; omega), if_pos (yfv _ _ (by decide))]
   rfl
  ·intro again i o i0 i1 i2
   have hw : Go.IntKind.wrap .i64 (i + 1) = i + 1 := w64 (by omega) (by omega)
   have hr : List.length (yr n i) ≤ 1048576 := h.2 _ (zA zi n i i0 i1)
   simp only [Z7, Bool.cond_eq_ite, decide_eq_true_eq, i0, i1, if_true, hw]
   rw [if_pos (by simp only [List.length_nil]; omega), if_pos (by simp only [List.length_cons, List.length_nil]; omega)]
   rfl
  ·intro again i hi
   simp only [Z7, Bool.cond_eq_ite, decide_eq_true_eq, if_neg hi]
  ·intro again i o hi
   simp only [Z7, Bool.cond_eq_ite, decide_eq_true_eq, if_neg hi]
 rw [e]
 split
 ·rename_i h0
  rw [List.length_eq_zero_iff.1 h0]
 ·rfl
theorem Q6 (q : List ye) (t : List y0) (hq : q.length ≤ 1048576) (ht : t.length ≤ 1048576) (hn : ∀ n ∈ t, ycY n) : Zu (q, t) = some (q, t) := by
 have e : Zu (q, t) = if t.length = 0 then some (q, ([] : List y0)) else some (q, t) := by
  unfold Zu y0P
  simp only [List.length_nil, List.nil_append]
  rw [if_pos (by omega)]
  refine ye1 (step := Z8 _ _) yL t (fun i => Sum.inl (i, q, t, q)) (fun i o => Sum.inr (i, q, t, q, o)) _ (fun o => some (q, o)) (by omega) ?_ ?_ ?_ ?_
  ·intro again i i0 i1
   have hw : Go.IntKind.wrap .i64 (i + 1) = i + 1 := w64 (by omega) (by omega)
   have hr : ycY (yg t i) := hn _ (zA yL t i i0 i1)
   simp only [Z8, Bool.cond_eq_ite, decide_eq_true_eq, i0, i1, if_true, hw, Q5 _ hr, Option.bind_some]
   rw [if_pos (yfv _ _ (by decide))]
   rfl
  ·intro again i o i0 i1 i2
   have hw : Go.IntKind.wrap .i64 (i + 1) = i + 1 := w64 (by omega) (by omega)
   have hr : ycY (yg t i) := hn _ (zA yL t i i0 i1)
   simp only [Z8, Bool.cond_eq_ite, decide_eq_true_eq, i0, i1, if_true, hw, Q5 _ hr, Option.bind_some]
   rw [if_pos (by simp only [List.length_cons, List.length_nil]; omega)]
   rfl
  ·intro again i hi
   simp only [Z8, Bool.cond_eq_ite, decide_eq_true_eq, if_neg hi]
  ·intro again i o hi
   simp only [Z8, Bool.cond_eq_ite, decide_eq_true_eq, if_neg hi]
 rw [e]
 split
 ·rename_i h0
  rw [List.length_eq_zero_iff.1 h0]
 ·rfl
theorem y1l (q : List ye) (t : List y0) (l : List ya) (cs : List y8) (vs : List yf) (z : Int) (h : small q t l cs vs) : yq (q, t, l, cs, vs, z) = some (q, t, l, cs, vs, z) := by
 obtain ⟨h1, h2, h3, h4, h5, h6⟩ := h
 unfold yq YQ
 simp only [Q6 q t h1 h2 (fun n hn => wM h3 hn), Option.bind_some, List.length_nil, List.nil_append]
 rw [if_pos (by omega), if_pos (by omega)]
 simp only [Option.bind_some]
 rw [if_pos (by omega)]
end Go.Proofs.YthgdjjdigalckaaGreat.Pl
namespace Go.Proofs.YthgdjjdigalckaaGreat.Pl
open Go.Proofs.YthgdjjdigalckaaGreat.R Go.Proofs.YthgdjjdigalckaaGreat.XI
def yef (t : List y0) (l : List ya) (blk id : Int) : Bool × y9 := y3m (y3J (Y3 t) blk) ((y5E l id).drop 1)
theorem ycZ (ks : List y9) : y3m ks [] = (false, (0, 0, 0, 0, 0)) := by
 unfold y3m
 induction ks with
 | nil => rfl
 | cons a ks ih =>
  rw [List.foldl_cons, show y5H [] (false, ((0 : Int), (0 : Int), (0 : Int), (0 : Int), (0 : Int))) a = (false, (0, 0, 0, 0, 0)) by
   unfold y5H yy9 jJ
   simp]
  exact ih
theorem y2U (q : List Int) (t : List y0) (l : List ya) (blk id : Int) (ht : TOk t) (hl : l.length ≤ 1048576) : Zm (q, t, l, blk, id) = some (ans (yef t l blk id)) := by
 unfold Zm yef
 have hp := y7k l id hl
 simp only [y1V l id hl, Option.bind_some]
 generalize y5E l id = p at hp
 cases p with
 | nil =>
  rw [show List.drop 1 ([] : List Int) = [] from rfl, ycZ]
  rfl
 | cons a p =>
  have h1 : (((a :: p).length : Int) == 0) = false := by
   simp only [List.length_cons, beq_eq_false_iff_ne, ne_eq]
   omega
  have h2 : (1 : Int) ≤ ((a :: p).length : Int) := by
   simp only [List.length_cons]
   omega
  have e : jU (q, t, blk, List.drop (Int.toNat (1 : Int)) (List.take (Int.toNat ((a :: p).length : Int)) (a :: p))) = some (ans (y3m (y3J (Y3 t) blk) (List.drop 1 (a :: p)))) := by
   rw [show Int.toNat ((a :: p).length : Int) = (a :: p).length by omega, List.take_length]
   exact y3K q t blk _ ht (by simp only [List.length_drop]; omega)
  simp only [h1, cond_false, h2, Int.le_refl, if_true, e, Option.bind_some]
  rw [if_pos (by omega)]
def ybE (vs : List yf) (id : Int) : Bool := !YI (Ka id) vs 0
theorem y1m (q : List Int) (t : List y0) (l : List ya) (cs : List y8) (vs : List yf) (z id : Int) (hv : vs.length ≤ 1048576) : KH (q, t, l, cs, vs, z, id) = some (ybE vs id) := by
 unfold KH y2B ybE
 refine (zS (step := kH _ _) (fun i => (id, i, q, t, l, cs, vs, z)) (Ka id) (some false) (some true) wQ vs (by omega) ?_ ?_).trans ?_
 ·intro again i h0 h1
  have hw : Go.IntKind.wrap .i64 (i + 1) = i + 1 := w64 (by omega) (by omega)
  unfold kH Ka
  have hx : vs.getD i.toNat wQ = yl vs i := rfl
  rw [hx]
  simp only [Bool.cond_eq_ite, decide_eq_true_eq, h0, h1, if_true, hw]
 ·intro again i hi
  unfold kH
  simp only [Bool.cond_eq_ite, decide_eq_true_eq, if_neg hi]
 ·cases YI (Ka id) vs 0 <;> rfl
def Qy (q : List Int) (sp : Int) : Nat → Int
 | 0 => -1
 | n + 1 => if q.getD n 0 ≤ sp then (n : Int) else Qy q sp n
def Vm (blk age : Int) : Int := Go.IntKind.wrap .i64 (Go.IntKind.wrap .i64 ((64 : Int) * blk) + age)
theorem y7v (q : List Int) (sp : Int) : ∀ n, -1 ≤ Qy q sp n ∧ Qy q sp n < n
 | 0 => by simp [Qy]
 | n + 1 => by
  have := y7v q sp n
  rw [Qy]
  split <;> omega
theorem y1n (q : List Int) (t : List y0) (blk age : Int) (hq : q.length ≤ 1048576) : Jk (q, t, blk, age) = some (Qy q (Vm blk age) q.length) := by
 unfold Jk y0k
 have h := vT (step := Wq (fun x2 => some x2)) (fun u : Wp => q.length - u.2.2.2.1.toNat) (fun u => ∃ n : Nat, n ≤ q.length ∧ u = (blk, age, Qy q (Vm blk age) n, (n : Int), q, t)) (fun _ => some (Qy q (Vm blk age) q.length)) ?_ (blk, age, -1, 0, q, t) ⟨0, by omega, rfl⟩ (by simp; omega)
 ·exact h
 ·rintro again u ⟨n, hn, rfl⟩ hag
  have hw : Go.IntKind.wrap .i64 ((n : Int) + 1) = ((n + 1 : Nat) : Int) := by rw [w64 (by omega) (by omega)]; omega
  unfold Wq ww
  have h0 : 0 ≤ (n : Int) := by omega
  by_cases hlt : (n : Int) < (q.length : Int)
  ·have hx : zL q (n : Int) = q.getD n 0 := rfl
   simp only [Bool.cond_eq_ite, decide_eq_true_eq, hlt, h0, if_true, Option.bind_some, hw, hx]
   have e := hag (blk, age, Qy q (Vm blk age) (n + 1), ((n + 1 : Nat) : Int), q, t) ⟨n + 1, by omega, rfl⟩ (by simp only; omega)
   rw [Qy] at e
   unfold Vm at e ⊢
   split
   ·rename_i hc
    rw [if_pos hc] at e
    exact e
   ·rename_i hc
    rw [if_neg hc] at e
    exact e
  ·rw [show n = q.length by omega]
   simp
abbrev Ans : Type := Int × Int × Int × Int × Int × Bool
def yfi : Ans := (0, 0, 0, 0, 0, false)
def atP (blk age : Int) (a : y9) : Bool := a.1 == blk && a.2.1 == age
def yhT (a : y9) : Ans := (a.1, a.2.1, a.2.2.1, a.2.2.2.1, a.2.2.2.2, true)
def y2V (l : List y9) (blk age : Int) : Ans := if jJ (atP blk age) l 0 < 0 then yfi else yhT (y6 l (jJ (atP blk age) l 0))
theorem y2W (l : List y9) (blk age : Int) (hl : l.length ≤ 1073741824) : WL (l, blk, age) = some (y2V l blk age) := by
 unfold WL y1T y2V
 refine (K9 (step := Wb _ _) (fun i => (l, blk, age, i, 0, 0, 0, 0, 0)) (atP blk age) (fun i => some (yhT (y6 l i))) (some yfi) zx l (by omega) ?_ ?_).trans ?_
 ·intro again i h0 h1
  have hw : Go.IntKind.wrap .i64 (i + 1) = i + 1 := w64 (by omega) (by omega)
  unfold Wb atP yhT
  obtain ⟨⟨x1, x2, x3, x4, x5⟩, hx⟩ : ∃ x, y6 l i = x := ⟨_, rfl⟩
  have hx' : l.getD i.toNat zx = (x1, x2, x3, x4, x5) := hx
  rw [hx']
  simp only [Bool.cond_eq_ite, decide_eq_true_eq, h0, h1, if_true, hw, hx]
  cases (x1 == blk) <;> cases (x2 == age) <;> rfl
 ·intro again i hi
  unfold Wb
  simp only [Bool.cond_eq_ite, decide_eq_true_eq, if_neg hi]
  rfl
 ·split <;> rfl
def y2X (n : List y7) (blk age : Int) : Nat → Ans
 | 0 => yfi
 | m + 1 => if (y2V (n.getD m zi) blk age).2.2.2.2.2 = true then (if ((y2V (n.getD m zi) blk age).2.2.1 == 0) = true then yfi else y2V (n.getD m zi) blk age) else y2X n blk age m
theorem y6F (n : List y7) (blk age : Int) (hn : n.length ≤ 1048576) (hs : ∀ s ∈ n, List.length s ≤ 1073741824) : kx (n, blk, age) = some (y2X n blk age n.length) := by
 unfold kx y0Z
 rw [w64 (n := (n.length : Int) - 1) (by omega) (by omega)]
 refine (vT (step := kw _ _) (fun u : kv => (u.2.2.1 + 1).toNat) (fun u => ∃ m : Nat, m ≤ n.length ∧ u = (blk, age, (m : Int) - 1, n, 0, 0, 0, 0, 0)) (fun u => some (y2X n blk age (u.2.2.1 + 1).toNat)) ?_ (blk, age, (n.length : Int) - 1, n, 0, 0, 0, 0, 0) ⟨n.length, by omega, rfl⟩ (by simp; omega)).trans ?_
 ·rintro again u ⟨m, hm, rfl⟩ hag
  unfold kw
  cases m with
  | zero => rfl
  | succ m =>
   have e1 : ((m + 1 : Nat) : Int) - 1 = (m : Int) := by omega
   have hw : Go.IntKind.wrap .i64 ((m : Int) - 1) = (m : Int) - 1 := w64 (by omega) (by omega)
   have h0 : 0 ≤ (m : Int) := by omega
   have h1 : (m : Int) < (n.length : Int) := by omega
   have e := y2W (yr n (m : Int)) blk age (hs _ (zA zi n (m : Int) h0 h1))
   have hx : n.getD m zi = yr n (m : Int) := rfl
   rw [e1]
   simp only [Bool.cond_eq_ite, decide_eq_true_eq, ge_iff_le, h0, h1, if_true, Option.bind_some, hw, e]
   have e' := hag (blk, age, (m : Int) - 1, n, 0, 0, 0, 0, 0) ⟨m, by omega, rfl⟩ (by simp only; omega)
   rw [e', show ((m : Int) + 1).toNat = m + 1 by omega, y2X, hx]
   simp only
   rw [show ((m : Int) - 1 + 1).toNat = m by omega]
   obtain ⟨r1, r2, r3, r4, r5, r6⟩ := y2V (yr n (m : Int)) blk age
   cases r6
   ·rfl
   ·cases h3 : (r3 == 0) <;> simp [h3, yfi]
 ·simp only
  rw [show ((n.length : Int) - 1 + 1).toNat = n.length by omega]
def vj (q : List Int) (t : List y0) (blk age : Int) : Ans :=
 if inR (Qy q (Vm blk age) q.length) 0 ((t.length : Int) - 1) = true then y2X (yg t (Qy q (Vm blk age) q.length)) blk age (yg t (Qy q (Vm blk age) q.length)).length else yfi
theorem vz (q : List Int) (t : List y0) (blk age : Int) (ht : TOk t) (hq : q.length ≤ 1048576) : jT (q, t, blk, age) = some (vj q t blk age) := by
 unfold jT vj
 have hlen := ht.len
 rw [w64 (n := (t.length : Int) - 1) (by omega) (by omega)]
 simp only [y1n q t blk age hq, Zg, Option.bind_some]
 generalize Qy q (Vm blk age) q.length = i
 by_cases h : inR i 0 ((t.length : Int) - 1) = true
 ·obtain ⟨h0, h1⟩ := YE.1 h
  have hmem : yg t i ∈ t := zA yL t i h0 (by omega)
  obtain ⟨a1, a2⟩ := ht.node hmem
  have e := y6F (yg t i) blk age a1 (fun s hs => by have := a2 s hs; omega)
  rw [h, if_pos h0, if_pos (by omega), e]
  rfl
 ·have : inR i 0 ((t.length : Int) - 1) = false := by simpa using h
  rw [this]
  rfl
end Go.Proofs.YthgdjjdigalckaaGreat.Pl
namespace Go.Proofs.YthgdjjdigalckaaGreat.Pl
open Go.Proofs.YthgdjjdigalckaaGreat.R Go.Proofs.YthgdjjdigalckaaGreat.XI
structure NS (n : List y7) : Prop where
 len : n.length ≤ 1000
 sum : wO qy n ≤ 1000
theorem NS.mem {n : List y7} (h : NS n) {s : y7} (hs : s ∈ n) : List.length s ≤ 1000 := by
 have h1 := (y1y vg hs).1
 have h2 := h.sum
 have h3 : qy s = (List.length s : Int) := rfl
 omega
theorem NS.q {n : List y7} (h : NS n) : ycY n := ⟨Nat.le_trans h.len (by decide), fun b hb => Nat.le_trans (h.mem hb) (by decide)⟩
theorem NS.keys {n : List y7} (h : NS n) : (zt n).length ≤ 1000 := by
 have h1 := qr n
 have h2 := h.sum
 omega
def Qz (n : List y7) : y7 := n.getD (n.length - 1) zi
theorem yhU {n : List y7} (h : 0 < n.length) : Qz n ∈ n := by
 unfold Qz
 rw [y1j _ _ _ (by omega)]
 exact List.getElem_mem _
def y0r (n : List y7) (k : y9) : List y7 :=
 if 0 < n.length ∧ (List.length (Qz n) < 4 ∨ (y2V (Qz n) k.1 k.2.1).2.2.2.2.2 = true) then n.set (n.length - 1) (Wi (Qz n) k) else n ++ [[k]]
def vX (n : List y7) (k : y9) : List y9 := y5C (Wi (zt n) k)
def YC (n : List y7) (k : y9) : List y7 × Bool :=
 if YH (y0r n k) = true then (y0r n k, true) else if (vX n k).length > 8 then (n, false) else if YH (Y9 (vX n k)) = true then (Y9 (vX n k), true) else (n, false)
theorem yhV (l : List y9) : (y5C l).length ≤ l.length := by
 have := y5D l []
 simpa [y5C] using this
theorem y68 (n : List y7) (k : y9) : (vX n k).length ≤ (zt n).length + 1 := by
 have h1 := yhV (Wi (zt n) k)
 have h2 := WO (zt n) k
 unfold vX
 omega
theorem wq (l : List y9) (h : l.length ≤ 1048576) : yY l = some (Y9 l) := by
 unfold yY Y9
 by_cases h0 : l.length = 0
 ·rw [if_pos h0, show (((List.length l : Nat) : Int) == 0) = true from beq_iff_eq.2 (by omega)]
  rfl
 ·rw [if_neg h0, show (((List.length l : Nat) : Int) == 0) = false from beq_eq_false_iff_ne.2 (by omega), cond_false, if_pos (by simp only [List.length_nil]; omega)]
  rfl
theorem QA {l : List y9} (h : l.length ≤ 1000) : NS (Y9 l) := by
 unfold Y9
 split
 ·exact ⟨by simp, by simp [wO]⟩
 ·exact ⟨by simp, by simp [wO, qy]; omega⟩
theorem yd0 (l : List y9) : (Y9 l).length ≤ 1 ∧ wO qy (Y9 l) ≤ l.length := by
 unfold Y9
 split
 ·exact ⟨by simp, by simp [wO]⟩
 ·exact ⟨by simp, by simp [wO, qy]⟩
theorem ypV {n : List y7} (i : Nat) (s : y7) (hi : i < n.length) : wO qy (n.set i s) = wO qy n - qy (n.getD i zi) + qy s := by
 induction n generalizing i with
 | nil => simp at hi
 | cons a n ih =>
  cases i with
  | zero =>
   rw [List.set_cons_zero, zZ, zZ]
   simp
   omega
  | succ i =>
   rw [List.set_cons_succ, zZ, zZ, ih i (by simpa using hi), List.getD_cons_succ]
   omega
theorem y2Y {A : Type} (w : A → Int) (l : List A) (a : A) : wO w (l ++ [a]) = wO w l + w a := by
 induction l with
 | nil => simp [wO]
 | cons b l ih =>
  rw [List.cons_append, zZ, zZ, ih]
  omega
theorem y7w (n : List y7) (k : y9) : (y0r n k).length ≤ n.length + 1 ∧ wO qy (y0r n k) ≤ wO qy n + 1 := by
 unfold y0r
 split
 ·rename_i h
  have h1 := WO (Qz n) k
  have h2 : qy (Wi (Qz n) k) ≤ qy (Qz n) + 1 := by
   unfold qy
   have : List.length (Wi (Qz n) k) ≤ List.length (Qz n) + 1 := h1
   omega
  rw [List.length_set, ypV _ _ (by omega)]
  have e : n.getD (n.length - 1) zi = Qz n := rfl
  rw [e]
  constructor <;> omega
 ·rw [y2Y, List.length_append]
  have e : qy [k] = 1 := rfl
  rw [e]
  exact ⟨Nat.le_refl _, Int.le_refl _⟩
theorem NS.small {n : List y7} (h1 : n.length ≤ 1001) (h2 : wO qy n ≤ 1001) : n.length ≤ 1073741824 ∧ ∀ s ∈ n, List.length s ≤ 1073741824 := by
 refine ⟨by omega, fun s hs => ?_⟩
 have h3 := (y1y vg hs).1
 have h4 : qy s = (List.length s : Int) := rfl
 omega
section
variable (n : List y7) (a b c d e : Int) (h : NS n)
include h
theorem y1o : YW (n, a, b, c, d, e) = some (YC n (a, b, c, d, e)) := by
 have hk := h.keys
 have hl := h.len
 have hs := h.sum
 have hW := y68 n (a, b, c, d, e)
 have hN := yd0 (vX n (a, b, c, d, e))
 have hN2 := NS.small (n := Y9 (vX n (a, b, c, d, e))) (by omega) (by omega)
 have hO := y7w n (a, b, c, d, e)
 have hO2 := NS.small (n := y0r n (a, b, c, d, e)) (by omega) (by omega)
 have hw : Go.IntKind.wrap .i64 ((n.length : Int) - 1) = (n.length : Int) - 1 := w64 (by omega) (by omega)
 have hT : ∀ out, out = y0r n (a, b, c, d, e) → (Option.bind (zv out) fun r6 => bif r6 then some (out, true) else Option.bind (yE n) fun r7 => Option.bind (zC (r7, a, b, c, d, e)) fun r8 => Option.bind (Y6 r8) fun r9 => bif (decide (((List.length r9 : Nat) : Int) > (8 : Int))) then some (n, false) else Option.bind (yY r9) fun r11 => Option.bind (zv r11) fun r12 => bif (!r12) then some (n, false) else Option.bind (yY r9) fun r14 => some (r14, true)) = some (YC n (a, b, c, d, e)) := by
  rintro out rfl
  have e1 : Y6 (Wi (zt n) (a, b, c, d, e)) = some (vX n (a, b, c, d, e)) := y1f _ (by have := WO (zt n) (a, b, c, d, e); omega)
  simp only [qZ _ hO2.1 hO2.2, Zp n (by omega) (by omega), Wj (zt n) a b c d e (by omega), e1, wq (vX n (a, b, c, d, e)) (by omega), qZ _ hN2.1 hN2.2, Option.bind_some]
  unfold YC
  cases YH (y0r n (a, b, c, d, e)) with
  | true => rfl
  | false =>
   by_cases h8 : (vX n (a, b, c, d, e)).length > 8
   ·rw [decide_eq_true (show ((List.length (vX n (a, b, c, d, e)) : Nat) : Int) > 8 by omega), if_pos h8]
    rfl
   ·rw [decide_eq_false (show ¬ ((List.length (vX n (a, b, c, d, e)) : Nat) : Int) > 8 by omega), if_neg h8]
    cases YH (Y9 (vX n (a, b, c, d, e))) <;> rfl
 unfold YW
 simp only [Q5 n h.q, Option.bind_some, hw]
 by_cases h0 : n.length = 0
 ·have e1 : ¬ (0 < n.length ∧ (List.length (Qz n) < 4 ∨ (y2V (Qz n) a b).2.2.2.2.2 = true)) := fun hh => by omega
  simp only [decide_eq_false (show ¬ ((n.length : Int) - 1 ≥ 0) by omega), cond_false, Option.bind_some]
  rw [if_pos (by simp only [List.length_cons, List.length_nil]; omega)]
  exact hT _ (by unfold y0r; rw [if_neg e1])
 ·have i0 : 0 ≤ (n.length : Int) - 1 := by omega
  have i1 : (n.length : Int) - 1 < ((List.length n : Nat) : Int) := by omega
  have hlm := h.mem (yhU (n := n) (by omega))
  have erd : yr n ((n.length : Int) - 1) = Qz n := by
   show n.getD ((n.length : Int) - 1).toNat zi = n.getD (n.length - 1) zi
   congr 1
   omega
  have etn : ((n.length : Int) - 1).toNat = n.length - 1 := by omega
  rw [decide_eq_true (show (n.length : Int) - 1 ≥ 0 from i0)]
  simp only [cond_true, i0, i1, if_true, erd, etn, y2W (Qz n) a b (by omega), Wj (Qz n) a b c d e (by omega), Option.bind_some]
  by_cases h4 : List.length (Qz n) < 4
  ·rw [decide_eq_true (show ((List.length (Qz n) : Nat) : Int) < 4 by omega)]
   exact hT _ (by unfold y0r; rw [if_pos ⟨by omega, .inl h4⟩])
  ·rw [decide_eq_false (show ¬ ((List.length (Qz n) : Nat) : Int) < 4 by omega)]
   cases hA : (y2V (Qz n) a b).2.2.2.2.2 with
   | true => exact hT _ (by unfold y0r; rw [if_pos ⟨by omega, .inr hA⟩])
   | false =>
    simp only [cond_false, Option.bind_some]
    rw [if_pos (by simp only [List.length_cons, List.length_nil]; omega)]
    exact hT _ (by
     unfold y0r
     rw [if_neg fun hh => ?_]
     rcases hh.2 with hh | hh
     ·exact h4 hh
     ·rw [hA] at hh
      cases hh)
end
end Go.Proofs.YthgdjjdigalckaaGreat.Pl
namespace Go.Proofs.YthgdjjdigalckaaGreat.Pl
open Go.Proofs.YthgdjjdigalckaaGreat.R Go.Proofs.YthgdjjdigalckaaGreat.XI
structure TS (t : List y0) : Prop where
 len : t.length ≤ 100
 node : ∀ n ∈ t, NS n
theorem TS.ok {t : List y0} (h : TS t) : TOk t := by
 have hl := h.len
 refine ⟨by omega, fun n hn => Nat.le_trans (h.node n hn).len (by decide), ?_⟩
 have hb : ∀ (t : List y0), (∀ n ∈ t, NS n) → wO qY t ≤ 2000 * t.length := by
  intro t
  induction t with
  | nil => intro _; simp [wO]
  | cons a t ih =>
   intro hn
   have h1 := ih fun n h => hn n (by simp [h])
   have h2 := hn a (by simp)
   have h3 : qY a = (List.length a : Int) + wO qy a := rfl
   have h4 : List.length a ≤ 1000 := h2.len
   have h5 : wO qy a ≤ 1000 := h2.sum
   rw [zZ, List.length_cons]
   omega
 have := hb t h.node
 omega
def Y2 {A : Type} (l : List A) (i c : Nat) (m : List A) : List A := l.take i ++ m ++ l.drop (i + c)
theorem wN {A : Type} (l : List A) (i c : Nat) (m : List A) (h : i + c ≤ l.length) : (Y2 l i c m).length = l.length + m.length - c := by
 unfold Y2
 simp only [List.length_append, List.length_take, List.length_drop]
 omega
theorem yfj {A : Type} {l : List A} {i c : Nat} {m : List A} {x : A} (h : x ∈ Y2 l i c m) : x ∈ l ∨ x ∈ m := by
 unfold Y2 at h
 rcases List.mem_append.1 h with h | h
 ·rcases List.mem_append.1 h with h | h
  ·exact .inl (List.mem_of_mem_take h)
  ·exact .inr h
 ·exact .inl (List.mem_of_mem_drop h)
theorem y7x {A : Type} (l : List A) (i : Nat) (x : A) (h : i < l.length) : Y2 l i 1 [x] = l.set i x := by
 unfold Y2
 rw [List.set_eq_take_append_cons_drop, if_pos h]
 simp
theorem yfk {A : Type} (d : A) (l : List A) (i : Nat) (h : i + 2 ≤ l.length) : Y2 l i 2 [l.getD i d] = l.take (i + 1) ++ l.drop (i + 2) := by
 unfold Y2
 rw [y1j _ _ _ (by omega), List.take_succ_eq_append_getElem (by omega)]
theorem TS.splice {t : List y0} (h : TS t) {i c : Nat} {m : List y0} (hl : (Y2 t i c m).length ≤ 100) (hm : ∀ n ∈ m, NS n) : TS (Y2 t i c m) :=
 ⟨hl, fun n hn => (yfj hn).elim (h.node n) (hm n)⟩
theorem y03 (q : List Int) (t : List y0) (i : Int) (ql : List Int) (tl : List y0) (h0 : 0 ≤ i) (h1 : i < (q.length : Int)) (h2 : i < (t.length : Int)) (hq : q.length ≤ 1000) (ht : t.length ≤ 1000) (hql : ql.length ≤ 1000) (htl : tl.length ≤ 1000) :
  w5 (q, t, i, ql, tl) = some (Y2 q i.toNat 1 ql, Y2 t i.toNat 1 tl) := by
 have hw : Go.IntKind.wrap .i64 (i + 1) = i + 1 := w64 (by omega) (by omega)
 have e1 : (i + 1).toNat = i.toNat + 1 := by omega
 unfold w5
 simp only [hw]
 iterate 18 rw [if_pos (by first | omega | (simp only [List.length_append, List.length_drop, List.length_take, List.length_nil]; omega))]
 simp [Y2, e1]
def zy : List y0 → Int → Int
 | a :: b :: r, i => if (zt a).length + (zt b).length ≤ 6 then i else zy (b :: r) (i + 1)
 | _, _ => -1
theorem yd1 (l : List y0) (i : Int) (h : l.length ≤ 1) : zy l i = -1 := by
 match l, h with
 | [], _ => rfl
 | [_], _ => rfl
theorem y7y : ∀ (l : List y0) (i : Int), zy l i = -1 ∨ i ≤ zy l i ∧ zy l i + 2 ≤ i + l.length ∧ (zt (l.getD (zy l i - i).toNat yL)).length + (zt (l.getD (zy l i - i + 1).toNat yL)).length ≤ 6
 | [], _ => .inl rfl
 | [_], _ => .inl rfl
 | a :: b :: r, i => by
  rw [zy]
  by_cases h : (zt a).length + (zt b).length ≤ 6
  ·rw [if_pos h]
   refine .inr ⟨Int.le_refl _, by simp only [List.length_cons]; omega, ?_⟩
   rw [show (i - i).toNat = 0 by omega, show (i - i + 1).toNat = 1 by omega]
   exact h
  ·rw [if_neg h]
   rcases y7y (b :: r) (i + 1) with h1 | ⟨h1, h2, h3⟩
   ·exact .inl h1
   ·refine .inr ⟨by omega, by simp only [List.length_cons] at h2 ⊢; omega, ?_⟩
    rw [show (zy (b :: r) (i + 1) - i).toNat = (zy (b :: r) (i + 1) - (i + 1)).toNat + 1 by omega, show (zy (b :: r) (i + 1) - i + 1).toNat = (zy (b :: r) (i + 1) - (i + 1) + 1).toNat + 1 by omega, List.getD_cons_succ, List.getD_cons_succ]
    exact h3
theorem ykb (t : List y0) (i : Int) (h0 : 0 ≤ i) (h1 : i + 1 < (t.length : Int)) : zy (t.drop i.toNat) i = if (zt (yg t i)).length + (zt (yg t (i + 1))).length ≤ 6 then i else zy (t.drop (i + 1).toNat) (i + 1) := by
 rw [wl yL t i h0 (by omega), wl yL t (i + 1) (by omega) h1, zy]
 rfl
theorem nk {t : List y0} (h : TS t) {i : Int} (h0 : 0 ≤ i) (h1 : i < (t.length : Int)) : NS (yg t i) := h.node _ (zA yL t i h0 h1)
theorem qu {t : List y0} (h : TS t) {i : Int} (h0 : 0 ≤ i) (h1 : i < (t.length : Int)) : yE (yg t i) = some (zt (yg t i)) := by
 have hn := nk h h0 h1
 exact Zp _ (Nat.le_trans hn.len (by decide)) (Int.le_trans hn.sum (by decide))
theorem y3N (q : List Int) (t : List y0) (h : TS t) : wD (q, t) = some (zy t 0) := by
 have hl := h.len
 unfold wD y0X
 refine vT (step := kt _ _) (fun x : Int × List Int × List y0 => t.length - x.1.toNat) (fun x => x.2.2 = t ∧ 0 ≤ x.1 ∧ x.1 ≤ (t.length : Int)) (fun x => some (zy (t.drop x.1.toNat) x.1)) ?_ (0, q, t) ⟨rfl, Int.le_refl _, by simp⟩ (by simp; omega)
 rintro again ⟨i, q', t'⟩ ⟨rfl, i0, i1⟩ hag
 simp only at i0 i1 hl h ⊢
 unfold kt
 by_cases hi : i + 1 < (t'.length : Int)
 ·have hw : Go.IntKind.wrap .i64 (i + 1) = i + 1 := w64 (by omega) (by omega)
  have k1 := nk h i0 (show i < (t'.length : Int) by omega)
  have k2 := nk h (show 0 ≤ i + 1 by omega) hi
  have hw2 : Go.IntKind.wrap .i64 (((List.length (zt (yg t' i)) : Nat) : Int) + ((List.length (zt (yg t' (i + 1))) : Nat) : Int)) = ((List.length (zt (yg t' i)) : Nat) : Int) + ((List.length (zt (yg t' (i + 1))) : Nat) : Int) := w64 (by omega) (by have := k1.keys; have := k2.keys; omega)
  simp only [hw, qu h i0 (show i < (t'.length : Int) by omega), qu h (show 0 ≤ i + 1 by omega) hi, Option.bind_some, hw2]
  rw [decide_eq_true hi, cond_true, if_pos i0, if_pos (by omega), if_pos (by omega), if_pos hi, ykb t' i i0 hi]
  by_cases h6 : (zt (yg t' i)).length + (zt (yg t' (i + 1))).length ≤ 6
  ·rw [decide_eq_true (show ((List.length (zt (yg t' i)) : Nat) : Int) + ((List.length (zt (yg t' (i + 1))) : Nat) : Int) ≤ 6 by omega), if_pos h6]
   rfl
  ·rw [decide_eq_false (show ¬ ((List.length (zt (yg t' i)) : Nat) : Int) + ((List.length (zt (yg t' (i + 1))) : Nat) : Int) ≤ 6 by omega), if_neg h6]
   exact hag _ ⟨rfl, by simp only; omega, by simp only; omega⟩ (by simp only; omega)
 ·have hw : ¬ Go.IntKind.wrap .i64 (i + 1) < (t'.length : Int) := by
   rw [w64 (by omega) (by omega)]
   exact hi
  rw [decide_eq_false hw, yd1 _ _ (by rw [List.length_drop]; omega)]
  rfl
def QB : Nat → List Int → List y0 → List Int × List y0
 | 0, q, t => (q, t)
 | m + 1, q, t => if zy t 0 < 0 then (q, t) else QB m (Y2 q (zy t 0).toNat 2 [q.getD (zy t 0).toNat 0]) (Y2 t (zy t 0).toNat 2 [Y9 (zt (t.getD (zy t 0).toNat yL) ++ zt (t.getD (zy t 0 + 1).toNat yL))])
section
variable {q : List Int} {t : List y0} (h : TS t) (hq : q.length = t.length) (hp : ¬ zy t 0 < 0)
include h hp
omit h in
theorem y9Z : 0 ≤ zy t 0 ∧ zy t 0 + 2 ≤ (t.length : Int) ∧ (zt (yg t (zy t 0))).length + (zt (yg t (zy t 0 + 1))).length ≤ 6 := by
 rcases y7y t 0 with h1 | ⟨h1, h2, h3⟩
 ·omega
 ·refine ⟨h1, by omega, ?_⟩
  rw [Int.sub_zero] at h3
  exact h3
theorem yhW : TS (Y2 t (zy t 0).toNat 2 [Y9 (zt (yg t (zy t 0)) ++ zt (yg t (zy t 0 + 1)))]) := by
 obtain ⟨h1, h2, h3⟩ := y9Z hp
 have hl := h.len
 refine h.splice (by rw [wN _ _ _ _ (by omega)]; simp only [List.length_cons, List.length_nil]; omega) fun n hn => ?_
 obtain rfl := List.mem_singleton.1 hn
 exact QA (by rw [List.length_append]; omega)
include hq
theorem ykc : (Y2 t (zy t 0).toNat 2 [Y9 (zt (yg t (zy t 0)) ++ zt (yg t (zy t 0 + 1)))]).length = t.length - 1 ∧ (Y2 q (zy t 0).toNat 2 [q.getD (zy t 0).toNat 0]).length = t.length - 1 := by
 obtain ⟨h1, h2, h3⟩ := y9Z hp
 rw [wN _ _ _ _ (by omega), wN _ _ _ _ (by omega)]
 simp only [List.length_cons, List.length_nil]
 omega
theorem yfl : QB t.length q t = QB (t.length - 1) (Y2 q (zy t 0).toNat 2 [q.getD (zy t 0).toNat 0]) (Y2 t (zy t 0).toNat 2 [Y9 (zt (yg t (zy t 0)) ++ zt (yg t (zy t 0 + 1)))]) := by
 obtain ⟨h1, h2, h3⟩ := y9Z hp
 rw [show t.length = (t.length - 1) + 1 by omega, QB, if_neg hp]
 rfl
end
theorem yhX {q : List Int} {t : List y0} (m : Nat) (hp : zy t 0 < 0) : QB m q t = (q, t) := by
 cases m with
 | zero => rfl
 | succ m => rw [QB, if_pos hp]
theorem ybF (q : List Int) (t : List y0) (h : TS t) (hq : q.length = t.length) : Zz (q, t) = some (QB t.length q t) := by
 have hl := h.len
 unfold Zz y0Y
 simp only [y3N q t h, Option.bind_some]
 refine vT (step := ku _) (fun x : Int × List Int × List y0 => x.2.2.length) (fun x => TS x.2.2 ∧ x.2.1.length = x.2.2.length ∧ x.1 = zy x.2.2 0) (fun x => some (QB x.2.2.length x.2.1 x.2.2)) ?_ (zy t 0, q, t) ⟨h, hq, rfl⟩ (by simp only; omega)
 rintro again ⟨i, q, t⟩ ⟨h, hq, hi⟩ hag
 simp only at h hq hi ⊢
 subst hi
 have hl := h.len
 unfold ku
 by_cases hp : zy t 0 < 0
 ·rw [decide_eq_false (show ¬ zy t 0 ≥ 0 by omega), yhX _ hp]
  rfl
 ·obtain ⟨h1, h2, h3⟩ := y9Z hp
  have hw : Go.IntKind.wrap .i64 (zy t 0 + 1) = zy t 0 + 1 := w64 (by omega) (by omega)
  have hw2 : Go.IntKind.wrap .i64 (zy t 0 + 2) = zy t 0 + 2 := w64 (by omega) (by omega)
  have hT := yhW h hp
  have hL := ykc h hq hp
  have eq1 : ([] ++ List.drop (Int.toNat 0) (List.take (Int.toNat (zy t 0 + 1)) q)) ++ List.drop (Int.toNat (zy t 0 + 2)) (List.take (Int.toNat (q.length : Int)) q) = Y2 q (zy t 0).toNat 2 [q.getD (zy t 0).toNat 0] := by
   rw [yfk 0 q _ (by omega), show (zy t 0 + 1).toNat = (zy t 0).toNat + 1 by omega, show (zy t 0 + 2).toNat = (zy t 0).toNat + 2 by omega]
   simp
  have eq2 : ∀ n : y0, (([] ++ List.drop (Int.toNat 0) (List.take (Int.toNat (zy t 0)) t)) ++ [n]) ++ List.drop (Int.toNat (zy t 0 + 2)) (List.take (Int.toNat (t.length : Int)) t) = Y2 t (zy t 0).toNat 2 [n] := fun n => by
   rw [show (zy t 0 + 2).toNat = (zy t 0).toNat + 2 by omega]
   simp [Y2]
  simp only [hw, hw2, qu h h1 (show zy t 0 < (t.length : Int) by omega), qu h (show 0 ≤ zy t 0 + 1 by omega) (show zy t 0 + 1 < (t.length : Int) by omega), wq (zt (yg t (zy t 0)) ++ zt (yg t (zy t 0 + 1))) (by rw [List.length_append]; omega), Option.bind_some, eq1, eq2, y3N _ _ hT]
  rw [decide_eq_true (show zy t 0 ≥ 0 from h1), cond_true]
  iterate 22 rw [if_pos (by first | omega | (simp only [List.length_append, List.length_drop, List.length_take, List.length_nil, List.length_cons]; omega))]
  rw [yfl h hq hp, ← hL.1]
  exact hag (zy (Y2 t (zy t 0).toNat 2 [Y9 (zt (yg t (zy t 0)) ++ zt (yg t (zy t 0 + 1)))]) 0, Y2 q (zy t 0).toNat 2 [q.getD (zy t 0).toNat 0], Y2 t (zy t 0).toNat 2 [Y9 (zt (yg t (zy t 0)) ++ zt (yg t (zy t 0 + 1)))]) ⟨hT, hL.2.trans hL.1.symm, rfl⟩ (by simp only; omega)
end Go.Proofs.YthgdjjdigalckaaGreat.Pl
namespace Go.Proofs.YthgdjjdigalckaaGreat.Pl
open Go.Proofs.YthgdjjdigalckaaGreat.R Go.Proofs.YthgdjjdigalckaaGreat.XI
theorem yeg : ∀ (n : List y7) (s : Int), 0 ≤ s → s + 60 * n.length ≤ 1000 → (∀ a ∈ n, List.length a ≤ 60) → n.foldl y0p s = s + wO qy n
 | [], s, _, _, _ => by simp [wO]
 | a :: n, s, h0, hb, ha => by
  have h1 := ha a (by simp)
  rw [List.length_cons] at hb
  have hw : y0p s a = s + (List.length a : Int) := w64 (by omega) (by omega)
  have e : qy a = (List.length a : Int) := rfl
  rw [List.foldl_cons, hw, yeg n _ (by omega) (by omega) fun b hm => ha b (by simp [hm]), zZ, e]
  omega
theorem Jr {n : List y7} (h : YH n = true) : n.length ≤ 3 ∧ wO qy n ≤ 8 ∧ ∀ s ∈ n, ∀ k ∈ (show List y9 from s), zV k = true := by
 obtain ⟨h1, h2⟩ := y1h h
 have h3 := yeg n 0 (Int.le_refl _) (by omega) fun a ha => (y2J (h2 a ha)).1
 unfold YH at h
 simp only [Bool.and_eq_true, decide_eq_true_eq] at h
 exact ⟨h1, by omega, fun s hs => (y2J (h2 s hs)).2⟩
theorem y69 {n : List y7} (h : YH n = true) : NS n := ⟨by have := (Jr h).1; omega, by have := (Jr h).2.1; omega⟩
theorem y2Z {q : List Int} {t : List y0} (h : YS q t = true) : TS t := by
 obtain ⟨h1, h2, h3, h4⟩ := wo h
 exact ⟨by omega, fun n hn => y69 (h4 n hn)⟩
theorem yd2 {q : List Int} {t : List y0} (h : YS q t = true) : q.getD 0 0 = 0 := by
 unfold YS at h
 simp only [Bool.and_eq_true, beq_iff_eq] at h
 exact h.2.2.1
theorem y3O (q : List Int) (sp : Int) (h : q.getD 0 0 ≤ sp) : ∀ n, 0 ≤ Qy q sp (n + 1)
 | 0 => by
  rw [Qy, if_pos h]
  simp
 | n + 1 => by
  rw [Qy]
  split
  ·omega
  ·exact y3O q sp h n
theorem ykd {k : y9} (h : zV k = true) : 0 ≤ Vm k.1 k.2.1 := by
 unfold zV at h
 simp only [Bool.and_eq_true, YE] at h
 obtain ⟨h1, h2, _⟩ := h
 unfold Vm
 rw [w64 (n := (64 : Int) * k.1) (by omega) (by omega), w64 (by omega) (by omega)]
 omega
theorem yke {n : List y7} {k : y9} (hn : YH n = true) (hk : zV k = true) (h : (YC n k).2 = false) : 8 < (vX n k).length := by
 unfold YC at h
 split at h
 ·cases h
 ·split at h
  ·assumption
  ·rename_i h8
   have hok : YH (Y9 (vX n k)) = true := yff (ybu (y7r k (yhJ n))) (fun x hx => by
    rcases y7s (ybv hx) with rfl | hx
    ·exact hk
    ·obtain ⟨c, hc, hx⟩ := yby hx
     exact (Jr hn).2.2 c hc x hx) (by omega)
   rw [if_pos hok] at h
   cases h
theorem y7z {n : List y7} (k : y9) (h : NS n) (h2 : n.length ≤ 900 ∧ wO qy n ≤ 900) : NS (YC n k).1 := by
 have h1 := y7w n k
 have h3 := y68 n k
 have h4 := qr n
 unfold YC
 split
 ·exact ⟨by simp only; omega, by simp only; omega⟩
 ·split
  ·exact h
  ·split
   ·exact QA (by omega)
   ·exact h
def Yj (q : List Int) (k : y9) : Nat := (Qy q (Vm k.1 k.2.1) q.length).toNat
def y1I (l : List y9) : Nat := (l.length + 1) / 2
def zr (q : List Int) (t : List y0) (k : y9) : List Int × List y0 :=
 if (YC (t.getD (Yj q k) yL) k).2 = false then
  (Y2 q (Yj q k) 1 [q.getD (Yj q k) 0, ycH ((vX (t.getD (Yj q k) yL) k).getD (y1I (vX (t.getD (Yj q k) yL) k)) zx)],
   Y2 t (Yj q k) 1 [Y9 ((vX (t.getD (Yj q k) yL) k).take (y1I (vX (t.getD (Yj q k) yL) k))), Y9 ((vX (t.getD (Yj q k) yL) k).drop (y1I (vX (t.getD (Yj q k) yL) k)))])
 else if 0 < Yj q k ∧ (zt (YC (t.getD (Yj q k) yL) k).1).length = 0 then (Y2 q (Yj q k) 1 [], Y2 t (Yj q k) 1 [])
 else (q, t.set (Yj q k) (YC (t.getD (Yj q k) yL) k).1)
def yX (q : List Int) (t : List y0) (k : y9) : List Int × List y0 × Bool :=
 if (YS q t && zV k) = true then
  (if YS (QB (zr q t k).2.length (zr q t k).1 (zr q t k).2).1 (QB (zr q t k).2.length (zr q t k).1 (zr q t k).2).2 = true then
   ((QB (zr q t k).2.length (zr q t k).1 (zr q t k).2).1, (QB (zr q t k).2.length (zr q t k).1 (zr q t k).2).2, true) else (q, t, false))
 else (q, t, false)
theorem yeh : ∀ (m : Nat) (q : List Int) (t : List y0), TS t → TS (QB m q t).2
 | 0, _, _, h => h
 | m + 1, q, t, h => by
  rw [QB]
  split
  ·exact h
  ·rename_i hp
   exact yeh m _ _ (yhW h hp)
section
variable {q : List Int} {t : List y0} {k : y9} (h : YS q t = true) (hk : zV k = true)
include h hk
theorem ya0 : (Qy q (Vm k.1 k.2.1) q.length) = (Yj q k : Int) ∧ Yj q k < t.length ∧ Yj q k < q.length := by
 obtain ⟨h1, h2, h3, h4⟩ := wo h
 have h5 := y3O q (Vm k.1 k.2.1) (by rw [yd2 h]; exact ykd hk) (q.length - 1)
 rw [show q.length - 1 + 1 = q.length by omega] at h5
 have h6 := y7v q (Vm k.1 k.2.1) q.length
 unfold Yj
 omega
theorem y3p : YH (t.getD (Yj q k) yL) = true := by
 have h1 := (ya0 h hk).2.1
 rw [y1j _ _ _ h1]
 exact (wo h).2.2.2 _ (List.getElem_mem _)
theorem yhY (hm : (YC (t.getD (Yj q k) yL) k).2 = false) : y1I (vX (t.getD (Yj q k) yL) k) < (vX (t.getD (Yj q k) yL) k).length ∧ (vX (t.getD (Yj q k) yL) k).length ≤ 9 := by
 have h1 := yke (y3p h hk) hk hm
 have h2 := y68 (t.getD (Yj q k) yL) k
 have h3 := qr (t.getD (Yj q k) yL)
 have h4 := (Jr (y3p h hk)).2.1
 unfold y1I
 omega
theorem yfm : TS (zr q t k).2 ∧ (zr q t k).1.length = (zr q t k).2.length := by
 obtain ⟨h1, h2, h3, h4⟩ := wo h
 obtain ⟨g0, g1, g2⟩ := ya0 h hk
 have hT := y2Z h
 have hn := Jr (y3p h hk)
 unfold zr
 split
 ·rename_i hm
  have hh := yhY h hk hm
  refine ⟨hT.splice (by rw [wN _ _ _ _ (by omega)]; simp only [List.length_cons, List.length_nil]; omega) fun n hn => ?_, by rw [wN _ _ _ _ (by omega), wN _ _ _ _ (by omega)]; simp only [List.length_cons, List.length_nil]; omega⟩
  simp only [List.mem_cons, List.mem_nil_iff, or_false] at hn
  rcases hn with rfl | rfl
  ·exact QA (by rw [List.length_take]; omega)
  ·exact QA (by rw [List.length_drop]; omega)
 ·split
  ·refine ⟨hT.splice (by rw [wN _ _ _ _ (by omega)]; simp only [List.length_nil]; omega) (fun n hn => by cases hn), by rw [wN _ _ _ _ (by omega), wN _ _ _ _ (by omega)]; simp only [List.length_nil]; omega⟩
  ·refine ⟨⟨by simp only [List.length_set]; omega, fun n hn2 => (List.mem_or_eq_of_mem_set hn2).elim (hT.node n) fun e => e ▸ y7z k (y69 (y3p h hk)) (by omega)⟩, by simp only [List.length_set]; omega⟩
end
theorem jH (q : List Int) (t : List y0) (a b c d e : Int) (hT : TOk t) (hQ : ∀ n ∈ t, ycY n) (hq : q.length ≤ 1048576) : zR (q, t, a, b, c, d, e) = some (yX q t (a, b, c, d, e)) := by
 unfold zR yX
 simp only [Q6 q t hq hT.len hQ, Q1 q t hT, Vt, Option.bind_some]
 cases h : YS q t with
 | false => rfl
 | true =>
  cases hk : zV (a, b, c, d, e) with
  | false => rfl
  | true =>
   obtain ⟨h1, h2, h3, h4⟩ := wo h
   obtain ⟨g0, g1, g2⟩ := ya0 h hk
   have hNS := y69 (y3p h hk)
   have hnf := Jr (y3p h hk)
   have hP := yfm h hk
   have hJ := yeh (zr q t (a, b, c, d, e)).2.length (zr q t (a, b, c, d, e)).1 (zr q t (a, b, c, d, e)).2 hP.1
   have ern : yg t (Yj q (a, b, c, d, e) : Int) = t.getD (Yj q (a, b, c, d, e)) yL := by
    show t.getD ((Yj q (a, b, c, d, e) : Int)).toNat yL = _
    rw [Int.toNat_natCast]
   have erq : zL q (Yj q (a, b, c, d, e) : Int) = q.getD (Yj q (a, b, c, d, e)) 0 := by
    show q.getD ((Yj q (a, b, c, d, e) : Int)).toNat 0 = _
    rw [Int.toNat_natCast]
   have hfin : ∀ p : List Int × List y0, p = zr q t (a, b, c, d, e) → (Option.bind (Zz (p.1, p.2)) fun r15 => Option.bind (Yn (r15.1, r15.2)) fun r16 => bif (!r16) then some (q, t, false) else some (r15.1, r15.2, true)) = some (if YS (QB (zr q t (a, b, c, d, e)).2.length (zr q t (a, b, c, d, e)).1 (zr q t (a, b, c, d, e)).2).1 (QB (zr q t (a, b, c, d, e)).2.length (zr q t (a, b, c, d, e)).1 (zr q t (a, b, c, d, e)).2).2 = true then ((QB (zr q t (a, b, c, d, e)).2.length (zr q t (a, b, c, d, e)).1 (zr q t (a, b, c, d, e)).2).1, (QB (zr q t (a, b, c, d, e)).2.length (zr q t (a, b, c, d, e)).1 (zr q t (a, b, c, d, e)).2).2, true) else (q, t, false)) := by
    rintro p rfl
    simp only [ybF _ _ hP.1 hP.2, Option.bind_some, Q1 _ _ hJ.ok]
    cases YS (QB (zr q t (a, b, c, d, e)).2.length (zr q t (a, b, c, d, e)).1 (zr q t (a, b, c, d, e)).2).1 (QB (zr q t (a, b, c, d, e)).2.length (zr q t (a, b, c, d, e)).1 (zr q t (a, b, c, d, e)).2).2 <;> rfl
   simp only [Bool.not_true, cond_false, Option.bind_some, y1n q t a b hq, show Qy q (Vm a b) q.length = (Yj q (a, b, c, d, e) : Int) from g0, ern, erq, Bool.and_self, if_true]
   rw [if_pos (by omega), if_pos (by omega), y1o _ a b c d e hNS]
   simp only [Option.bind_some]
   rw [if_pos (by omega), if_pos (by omega), y03 q t _ _ _ (by omega) (by omega) (by omega) (by omega) (by omega) (by simp) (by simp)]
   simp only [Option.bind_some, Int.toNat_natCast]
   cases hm : (YC (t.getD (Yj q (a, b, c, d, e)) yL) (a, b, c, d, e)).2 with
   | false =>
    have hh := yhY h hk hm
    have hkn := (hNS.keys)
    have hsl := WO (zt (t.getD (Yj q (a, b, c, d, e)) yL)) (a, b, c, d, e)
    have e1 : Y6 (Wi (zt (t.getD (Yj q (a, b, c, d, e)) yL)) (a, b, c, d, e)) = some (vX (t.getD (Yj q (a, b, c, d, e)) yL) (a, b, c, d, e)) := y1f _ (by omega)
    have hput := zr.eq_1 q t (a, b, c, d, e)
    rw [if_pos hm] at hput
    generalize hW : vX (t.getD (Yj q (a, b, c, d, e)) yL) (a, b, c, d, e) = W at hh e1 hput
    have hwr : Go.IntKind.wrap .i64 (Int.tdiv (Go.IntKind.wrap .i64 (((List.length W : Nat) : Int) + (1 : Int))) (2 : Int)) = (y1I W : Int) := by
     rw [w64 (n := ((List.length W : Nat) : Int) + 1) (by omega) (by omega), Int.tdiv_eq_ediv_of_nonneg (by omega)]
     unfold y1I
     rw [w64 (by omega) (by omega)]
     omega
    simp only [Bool.not_false, cond_true, Zp _ (Nat.le_trans hNS.len (by decide)) (Int.le_trans hNS.sum (by decide)), Wj _ a b c d e (show (zt (t.getD (Yj q (a, b, c, d, e)) yL)).length ≤ 1073741824 by omega), e1, Option.bind_some, hwr, Int.toNat_natCast]
    rw [if_pos (by omega), if_pos (by omega), if_pos (by omega), if_pos (by omega), if_pos (by omega), if_pos (by omega)]
    have e2 : wx ((y6 W (y1I W : Int)).1, (y6 W (y1I W : Int)).2.1, (y6 W (y1I W : Int)).2.2.1, (y6 W (y1I W : Int)).2.2.2.1, (y6 W (y1I W : Int)).2.2.2.2) = some (ycH (W.getD (y1I W) zx)) := by
     have e3 : y6 W (y1I W : Int) = W.getD (y1I W) zx := by
      show W.getD ((y1I W : Int)).toNat zx = _
      rw [Int.toNat_natCast]
     rw [e3]
     rfl
    rw [e2]
    simp only [Option.bind_some]
    rw [if_pos (by omega), if_pos (by omega), if_pos (by omega), wq _ (by simp only [List.length_drop, List.length_take]; omega)]
    simp only [Option.bind_some]
    rw [if_pos (by omega), if_pos (by omega), if_pos (by omega), wq _ (by simp only [List.length_drop, List.length_take]; omega)]
    simp only [Option.bind_some]
    rw [y03 q t _ _ _ (by omega) (by omega) (by omega) (by omega) (by omega) (by simp) (by simp)]
    simp only [Option.bind_some, Int.toNat_natCast, List.take_length]
    exact hfin _ hput.symm
   | true =>
    have hP2 := y7z (a, b, c, d, e) hNS (by omega)
    have hnm : ¬ (YC (t.getD (Yj q (a, b, c, d, e)) yL) (a, b, c, d, e)).2 = false := by rw [hm]; simp
    simp only [Bool.not_true, cond_false, Zp _ (Nat.le_trans hP2.len (by decide)) (Int.le_trans hP2.sum (by decide)), Option.bind_some]
    have hput := zr.eq_1 q t (a, b, c, d, e)
    rw [if_neg hnm] at hput
    have h3 : (bif decide ((Yj q (a, b, c, d, e) : Int) > 0) then some (((List.length (zt (YC (t.getD (Yj q (a, b, c, d, e)) yL) (a, b, c, d, e)).1) : Nat) : Int) == 0) else some false) = some (decide (0 < Yj q (a, b, c, d, e) ∧ (zt (YC (t.getD (Yj q (a, b, c, d, e)) yL) (a, b, c, d, e)).1).length = 0)) := by
     by_cases i0 : 0 < Yj q (a, b, c, d, e)
     ·rw [decide_eq_true (show (Yj q (a, b, c, d, e) : Int) > 0 by omega), cond_true]
      congr 1
      by_cases i1 : (zt (YC (t.getD (Yj q (a, b, c, d, e)) yL) (a, b, c, d, e)).1).length = 0
      ·rw [decide_eq_true ⟨i0, i1⟩]
       exact beq_iff_eq.2 (by omega)
      ·rw [decide_eq_false (fun hh => i1 hh.2)]
       exact beq_eq_false_iff_ne.2 (by omega)
     ·rw [decide_eq_false (show ¬ (Yj q (a, b, c, d, e) : Int) > 0 by omega), decide_eq_false (fun hh => i0 hh.1)]
      rfl
    rw [h3]
    simp only [Option.bind_some]
    by_cases hz : 0 < Yj q (a, b, c, d, e) ∧ (zt (YC (t.getD (Yj q (a, b, c, d, e)) yL) (a, b, c, d, e)).1).length = 0
    ·rw [if_pos hz] at hput
     rw [decide_eq_true hz, cond_true, y03 q t _ _ _ (by omega) (by omega) (by omega) (by omega) (by omega) (by simp) (by simp)]
     simp only [Option.bind_some, Int.toNat_natCast]
     exact hfin _ hput.symm
    ·rw [if_neg hz] at hput
     rw [decide_eq_false hz, cond_false]
     rw [y7x q _ _ (by omega), y7x t _ _ (by omega)]
     refine hfin (q.set (Yj q (a, b, c, d, e)) (q.getD (Yj q (a, b, c, d, e)) 0), t.set (Yj q (a, b, c, d, e)) (YC (t.getD (Yj q (a, b, c, d, e)) yL) (a, b, c, d, e)).1) ?_
     rw [hput, y1j _ _ _ (by omega), List.set_getElem_self]
end Go.Proofs.YthgdjjdigalckaaGreat.Pl
namespace Go.Proofs.YthgdjjdigalckaaGreat.Pl
open Go.Proofs.YthgdjjdigalckaaGreat.R Go.Proofs.YthgdjjdigalckaaGreat.XI
def y30 (fr id : Int) (x : ya) : ya := if (x.2 == id) = true then (x.1, fr) else x
def yH1 (l : List ya) (i : Nat) (id : Int) : List ya := (l.map (y30 (l.getD i Yx).2 id)).eraseIdx i
def y6a (l : List ya) (id : Int) : List ya × Bool := if YG l id < 0 then (l, false) else if jW l = true then (yH1 l (YG l id).toNat id, true) else (l, false)
theorem ya1 {A : Type} (p : A → Bool) : ∀ (l : List A) (i : Int), jJ p l i = -1 ∨ i ≤ jJ p l i ∧ jJ p l i < i + l.length
 | [], _ => .inl rfl
 | a :: l, i => by
  rw [jJ]
  split
  ·refine .inr ⟨Int.le_refl _, by simp only [List.length_cons]; omega⟩
  ·rcases ya1 p l (i + 1) with h | ⟨h1, h2⟩
   ·exact .inl h
   ·exact .inr ⟨by omega, by simp only [List.length_cons]; omega⟩
theorem y6G (l : List ya) (id : Int) (hl : l.length ≤ 1048576) : wG (l, id) = some (y6a l id) := by
 unfold wG y6a
 simp only [ZM l id (by omega), vv l hl, Option.bind_some]
 by_cases h0 : YG l id < 0
 ·rw [decide_eq_true h0, if_pos h0]
  simp only [cond_true, Option.bind_some]
  rw [if_pos (by simp only [List.length_nil]; omega)]
  rfl
 ·rw [decide_eq_false h0, if_neg h0]
  cases hA : jW l with
  | false =>
   simp only [cond_false, Bool.not_false, Option.bind_some, cond_true]
   rw [if_pos (by simp only [List.length_nil]; omega)]
   rfl
  | true =>
   simp only [cond_false, Bool.not_true, Option.bind_some, if_true]
   have hi1 : YG l id < (l.length : Int) := by
    rcases ya1 (fun a : ya => a.1 == id) l 0 with h | ⟨h1, h2⟩
    ·have : YG l id = -1 := h
     omega
    ·have : YG l id = jJ (fun a : ya => a.1 == id) l 0 := rfl
     omega
   generalize YG l id = i at h0 hi1
   unfold y15
   have key := vT (step := kL (fun x4 => some (x4, true))) (fun x : List ya × Int × Int × Int × List ya => l.length - x.2.2.2.1.toNat) (fun x => x.1 = l ∧ x.2.1 = id ∧ x.2.2.1 = i ∧ 0 ≤ x.2.2.2.1 ∧ x.2.2.2.1 ≤ (l.length : Int) ∧ x.2.2.2.2.length ≤ x.2.2.2.1.toNat)
    (fun x => some (x.2.2.2.2 ++ (if x.2.2.2.1 ≤ i then ((l.drop x.2.2.2.1.toNat).map (y30 (l.getD i.toNat Yx).2 id)).eraseIdx (i - x.2.2.2.1).toNat else (l.drop x.2.2.2.1.toNat).map (y30 (l.getD i.toNat Yx).2 id)), true)) ?_ (l, id, i, 0, []) ⟨rfl, rfl, rfl, Int.le_refl _, by simp, by simp⟩ (by simp; omega)
   ·rw [key]
    simp only [List.nil_append]
    rw [if_pos (by omega), Int.sub_zero]
    rfl
   ·rintro again ⟨l', id', i', j, o⟩ ⟨rfl, rfl, rfl, j0, j1, ho⟩ hag
    simp only at j0 j1 ho hl hi1 h0 ⊢
    unfold kL
    by_cases hj : j < (l'.length : Int)
    ·have hw : Go.IntKind.wrap .i64 (j + 1) = j + 1 := w64 (by omega) (by omega)
     have hd := wl Yx l' j j0 hj
     have e1 : (j + 1).toNat = j.toNat + 1 := by omega
     have hlen : ∀ y : ya, (List.length o + List.length ([y] : List ya)) * 16 < 140737488355328 := fun y => by simp only [List.length_cons, List.length_nil]; omega
     have hstep : ∀ y, y = y30 (l'.getD i'.toNat Yx).2 id' (l'.getD j.toNat Yx) → (bif (j != i') then if (List.length o + List.length ([y] : List ya)) * 16 < 140737488355328 then again (l', id', i', j + 1, o ++ [y]) else none else again (l', id', i', j + 1, o)) = some (o ++ (if j ≤ i' then ((l'.drop j.toNat).map (y30 (l'.getD i'.toNat Yx).2 id')).eraseIdx (i' - j).toNat else (l'.drop j.toNat).map (y30 (l'.getD i'.toNat Yx).2 id')), true) := by
      rintro y rfl
      rw [hd, List.map_cons]
      by_cases hji : j = i'
      ·rw [show (j != i') = false by simp [hji], cond_false, if_pos (by omega), show (i' - j).toNat = 0 by omega, List.eraseIdx_zero, List.tail_cons]
       have := hag (l', id', i', j + 1, o) ⟨rfl, rfl, rfl, by simp only; omega, by simp only; omega, by simp only; omega⟩ (by simp only; omega)
       rw [this]
       simp only
       rw [if_neg (by omega)]
      ·rw [show (j != i') = true by simpa using hji, cond_true, if_pos (hlen _)]
       have := hag (l', id', i', j + 1, o ++ [y30 (l'.getD i'.toNat Yx).2 id' (l'.getD j.toNat Yx)]) ⟨rfl, rfl, rfl, by simp only; omega, by simp only; omega, by simp only [List.length_append, List.length_cons, List.length_nil]; omega⟩ (by simp only; omega)
       rw [this]
       simp only
       by_cases hlt : j ≤ i'
       ·rw [if_pos hlt, if_pos (by omega), show (i' - j).toNat = (i' - (j + 1)).toNat + 1 by omega, List.eraseIdx_cons_succ, List.append_assoc]
        rfl
       ·rw [if_neg hlt, if_neg (by omega), List.append_assoc]
        rfl
     have hrd : yG l' j = l'.getD j.toNat Yx := rfl
     simp only [hw]
     rw [decide_eq_true hj, cond_true, if_pos j0, if_pos hj]
     by_cases hid : (l'.getD j.toNat Yx).2 = id'
     ·have hb : ((yG l' j).2 == id') = true := beq_iff_eq.2 hid
      rw [hb, cond_true, if_pos (by omega), if_pos hi1]
      exact hstep _ (by unfold y30; rw [if_pos (beq_iff_eq.2 hid)]; rfl)
     ·have hb : ((yG l' j).2 == id') = false := beq_eq_false_iff_ne.2 hid
      rw [hb, cond_false]
      exact hstep _ (by unfold y30; rw [if_neg (by simpa using hid)]; rfl)
    ·rw [decide_eq_false hj, cond_false, List.drop_of_length_le (by omega)]
     simp
def ya2 (cs : List y8) (i : Int) : List y8 := if YT cs = true ∧ 0 ≤ i ∧ i ≤ 23 ∧ (cs.getD i.toNat Z4).2.1 = true then cs.set i.toNat (Int.tmod (Go.IntKind.wrap .i64 ((cs.getD i.toNat Z4).1 + 1)) 1000, false, 0) else cs
theorem y31 (cs : List y8) (i : Int) : (ya2 cs i).length = cs.length := by
 unfold ya2
 split
 ·simp
 ·rfl
theorem ypW {cs : List y8} (h : YT cs = true) : cs.length = 24 := by
 unfold YT at h
 simp only [Bool.and_eq_true, beq_iff_eq] at h
 omega
theorem ya3 {cs : List y8} {i : Int} (h : ¬ (YT cs = true ∧ 0 ≤ i ∧ i ≤ 23 ∧ (cs.getD i.toNat Z4).2.1 = true)) : ya2 cs i = cs := if_neg h
theorem yhZ {cs : List y8} {i : Int} (h : YT cs = true ∧ 0 ≤ i ∧ i ≤ 23 ∧ (cs.getD i.toNat Z4).2.1 = true) : ya2 cs i = cs.set i.toNat (Int.tmod (Go.IntKind.wrap .i64 ((cs.getD i.toNat Z4).1 + 1)) 1000, false, 0) := if_pos h
theorem Wz (cs : List y8) (i : Int) (hc : cs.length ≤ 1048576) : Zb (cs, i) = some (ya2 cs i) := by
 have e1 : YQ cs = some cs := by
  unfold YQ
  rw [if_pos (by simp only [List.length_nil]; omega)]
  rfl
 unfold Zb
 simp only [e1, qs cs hc, Zg, Option.bind_some]
 cases hk : YT cs with
 | false =>
  rw [ya3 fun h => by rw [hk] at h; cases h.1]
  rfl
 | true =>
  have h24 := ypW hk
  have hw : Go.IntKind.wrap .i64 ((cs.length : Int) - 1) = 23 := by rw [w64 (by omega) (by omega)]; omega
  simp only [hw, cond_true, Option.bind_some]
  cases hi : inR i 0 23 with
  | false =>
   have : ¬ (0 ≤ i ∧ i ≤ 23) := fun h => by rw [YE.2 h] at hi; cases hi
   rw [ya3 fun h => this ⟨h.2.1, h.2.2.1⟩]
   rfl
  | true =>
   obtain ⟨i0, i1⟩ := YE.1 hi
   rw [cond_true, if_pos i0, if_pos (by omega)]
   have hrd : yp cs i = cs.getD i.toNat Z4 := rfl
   rw [hrd]
   cases hu : (cs.getD i.toNat Z4).2.1 with
   | false =>
    rw [ya3 fun h => by have := h.2.2.2; rw [hu] at this; cases this]
    rfl
   | true =>
    simp only [Option.bind_some, cond_true]
    rw [if_pos i0, if_pos (by omega), if_pos i0, if_pos (by omega), yhZ ⟨hk, i0, i1, hu⟩]
end Go.Proofs.YthgdjjdigalckaaGreat.Pl
namespace Go.Proofs.YthgdjjdigalckaaGreat.Pl
open Go.Proofs.YthgdjjdigalckaaGreat.R Go.Proofs.YthgdjjdigalckaaGreat.XI
def yi0 (l : List ya) (vs : List yf) (id : Int) : Bool := ybE vs id && ((YB l id).length : Int) == 1
def JB (q : List Int) (t : List y0) (l : List ya) (vs : List yf) (step : Int) (k : y9) : Bool :=
 if step = 1 then !ycG t l vs k else if step = 2 then (k.2.2.1 == 2) && !(yef t l k.1 k.2.1).1 else
  yi0 l vs k.2.1 && !(vj q t k.1 ((YB l k.2.1).getD 0 0)).2.2.2.2.2
theorem ykf (l : List ya) (id : Int) : ∀ x ∈ YB l id, ∃ a ∈ l, a.1 = x := by
 have : ∀ (l : List ya) (s : List Int) (x : Int), x ∈ l.foldl (y1g id) s → x ∈ s ∨ ∃ a ∈ l, a.1 = x := by
  intro l
  induction l with
  | nil => intro s x h; exact .inl h
  | cons a l ih =>
   intro s x h
   rw [List.foldl_cons] at h
   rcases ih _ x h with h | ⟨b, hb, e⟩
   ·unfold y1g at h
    split at h
    ·rcases List.mem_append.1 h with h | h
     ·exact .inl h
     ·exact .inr ⟨a, by simp, (by simpa using h : x = a.1).symm⟩
    ·exact .inl h
   ·exact .inr ⟨b, by simp [hb], e⟩
 intro x hx
 rcases this l [] x hx with h | h
 ·simp at h
 ·exact h
theorem yei {A : Type} {p : A → Bool} : ∀ (l : List A) (i : Int), YI (fun _ a => p a) l i = false → ∀ a ∈ l, p a = false
 | b :: l, i, h, a, ha => by
  rw [YI, Bool.or_eq_false_iff] at h
  rcases List.mem_cons.1 ha with rfl | ha
  ·exact h.1
  ·exact yei l (i + 1) h.2 a ha
theorem ykg {l : List ya} (h : jW l = true) : ∀ a ∈ l, 1 ≤ a.1 := by
 unfold jW y6y at h
 simp only [Bool.and_eq_true, Bool.not_eq_true'] at h
 have h1 := h.1
 rw [ycF, Bool.or_eq_false_iff] at h1
 intro a ha
 have := yei (p := fun a : ya => !inR a.1 1 60) l 0 h1.1 a ha
 simp only [Bool.not_eq_false'] at this
 exact (YE.1 this).1
section
variable (q : List Int) (t : List y0) (l : List ya) (cs : List y8) (vs : List yf) (z : Int)
theorem y6b (ht : TOk t) (hq : q.length ≤ 1048576) (hl : l.length ≤ 1048576) (hv : vs.length ≤ 1048576) (hpos : ∀ a ∈ l, 1 ≤ a.1) (step : Int) (k1 k2 k3 k4 k5 : Int) : kI (q, t, l, cs, vs, z, step, k1, k2, k3, k4, k5) = some (JB q t l vs step (k1, k2, k3, k4, k5)) := by
 unfold kI JB
 simp only [Bool.cond_eq_ite, beq_iff_eq, y3n q t l cs vs z k1 k2 k3 k4 k5 ht hl hv, y2U q t l k1 k2 ht hl, Option.bind_some]
 by_cases h1 : step = 1
 ·simp only [h1, if_true]
 by_cases h2 : step = 2
 ·subst h2
  simp only [if_true, if_neg (show ¬ (2 : Int) = 1 by omega)]
  by_cases h3 : k3 = 2
  ·have : (k3 == 2) = true := by simp [h3]
   rw [this, if_pos h3]
   rfl
  ·have : (k3 == 2) = false := by simpa using h3
   rw [this, if_neg h3]
   rfl
 simp only [h1, h2, if_false]
 unfold vt ZB yi0
 simp only [vw l k2 hl, y1m q t l cs vs z k2 hv, Option.bind_some]
 cases ybE vs k2
 ·rfl
 by_cases hk : ((YB l k2).length : Int) = 1
 ·have g1 : (((YB l k2).length : Int) != 1) = false := by simp [hk]
  have g2 : (((YB l k2).length : Int) == 1) = true := by simp [hk]
  have hlt : (0 : Int) < ((YB l k2).length : Int) := by omega
  have hne : ((YB l k2).getD 0 0 == 0) = false := by
   have hm : (YB l k2).getD 0 0 ∈ YB l k2 := zA 0 (YB l k2) 0 (Int.le_refl _) hlt
   obtain ⟨a, ha, e⟩ := ykf l k2 _ hm
   have := hpos a ha
   simp only [beq_eq_false_iff_ne, ne_eq]
   omega
  have hx : zL (YB l k2) 0 = (YB l k2).getD 0 0 := rfl
  simp only [g1, g2, hlt, Bool.not_true, cond_false, cond_true, Option.bind_some, Int.le_refl, if_true, hx, hne, vz q t k1 _ ht hq, Bool.true_and, Bool.and_self, Bool.and_true, Bool.true_and]
 ·have g1 : (((YB l k2).length : Int) != 1) = true := by simpa using hk
  have g2 : (((YB l k2).length : Int) == 1) = false := by simpa using hk
  simp only [g1, g2]
  rfl
def ykh (id : Int) (_ : Int) (k : y9) : Bool := k.2.1 == id
def yqg (ks : List y9) (l : List ya) (vs : List yf) (a : ya) : Bool := !YI (ykh a.1) ks 0 && (ybE vs a.1 && decide (((YB l a.1).length : Int) ≤ 1))
theorem yd3 (ht : TOk t) (hl : l.length ≤ 1048576) (hv : vs.length ≤ 1048576) (a : ya) : kJ (q, t, l, cs, vs, z, a.1) = some (yqg (Y3 t) l vs a) := by
 unfold kJ y14 yqg
 have hk := ht.keys
 have e : yP (q, t) = some (Y3 t) := YF q t (by have := ht.len; omega) ht.nodes ht.sum
 simp only [e, Option.bind_some]
 generalize Y3 t = ks at hk
 refine (zS (step := w8 _ _) (fun i => (a.1, i, q, t, l, cs, vs, z, ks)) (ykh a.1) (some false) (some (ybE vs a.1 && decide (((YB l a.1).length : Int) ≤ 1))) zx ks (by omega) ?_ ?_).trans ?_
 ·intro again i h0 h1
  have hw : Go.IntKind.wrap .i64 (i + 1) = i + 1 := w64 (by omega) (by omega)
  unfold w8 ykh
  have hx : ks.getD i.toNat zx = y6 ks i := rfl
  rw [hx]
  simp only [Bool.cond_eq_ite, decide_eq_true_eq, h0, h1, if_true, hw]
 ·intro again i hi
  unfold w8
  simp only [Bool.cond_eq_ite, decide_eq_true_eq, if_neg hi, y1m q t l cs vs z a.1 hv, vw l a.1 hl, Option.bind_some]
  cases ybE vs a.1 <;> rfl
 ·cases YI (ykh a.1) ks 0 <;> rfl
def ybG (q : List Int) (t : List y0) (l : List ya) (vs : List yf) (_ : Int) (_ : Unit) (step : Int) : Except (Option (Int × Int)) Unit :=
 if jJ (JB q t l vs step) (Y3 t) 0 < 0 then .ok () else .error (some (step, jJ (JB q t l vs step) (Y3 t) 0))
def y4O (t : List y0) (l : List ya) (vs : List yf) : Int × Int :=
 if jJ (yqg (Y3 t) l vs) l 0 < 0 then (0, 0) else (4, jJ (yqg (Y3 t) l vs) l 0)
def yd4 (q : List Int) (t : List y0) (l : List ya) (cs : List y8) (vs : List yf) (z : Int) : Option (Int × Int) :=
 if yT q t l cs vs z = true then yaZ (ybG q t l vs) (fun _ => some (y4O t l vs)) ([1, 2, 3] : List Int) 0 () else some (0, 0)
theorem yEA (i : Int) (h0 : 0 ≤ i) (h1 : i < 3) : ([1, 2, 3] : List Int).getD i.toNat 0 = i + 1 := by
 have : i = 0 ∨ i = 1 ∨ i = 2 := by omega
 rcases this with rfl | rfl | rfl <;> rfl
theorem ybH (ht : TOk t) (hq : q.length ≤ 1048576) (hl : l.length ≤ 1048576) (hc : cs.length ≤ 1048576) (hv : vs.length ≤ 1048576) (hvn : ∀ v ∈ vs, ByteArray.size v.1 ≤ maxLen) : w9 (q, t, l, cs, vs, z) = yd4 q t l cs vs z := by
 unfold w9 yd4
 have hk := ht.keys
 have e : yP (q, t) = some (Y3 t) := YF q t (by have := ht.len; omega) ht.nodes ht.sum
 simp only [vx q t l cs vs z ht hl hc hv hvn, e, Option.bind_some]
 cases hp : yT q t l cs vs z
 ·rfl
 have hpos : ∀ a ∈ l, 1 ≤ a.1 := by
  refine ykg ?_
  unfold yT at hp
  simp only [Bool.and_eq_true] at hp
  exact hp.2.1
 simp only [Bool.not_true, cond_false, if_true]
 unfold Qt
 refine yb0 (step := ju _ _) (fun i (_ : Unit) => (i + 1, q, t, l, cs, vs, z, Y3 t)) (ybG q t l vs) (fun _ => some (y4O t l vs)) 0 ([1, 2, 3] : List Int) (by decide) (fun _ _ => True) (fun again i s h0 h1 _ => ⟨?_, fun _ _ => trivial⟩) ?_ () trivial
 ·have h1' : i < 3 := h1
  rw [yEA i h0 h1']
  have hw : Go.IntKind.wrap .i64 (i + 1 + 1) = i + 1 + 1 := w64 (by omega) (by omega)
  unfold ju ybG
  have hle : i + 1 ≤ 3 := by omega
  simp only [Bool.cond_eq_ite, decide_eq_true_eq, hle, if_true]
  unfold Qs
  refine (K9 (step := jt _ _) (fun j => (i + 1, j, q, t, l, cs, vs, z, Y3 t)) (JB q t l vs (i + 1)) (fun j => some (i + 1, j)) (again (i + 1 + 1, q, t, l, cs, vs, z, Y3 t)) zx (Y3 t) (by omega) ?_ ?_).trans ?_
  ·intro again' j j0 j1
   have hwj : Go.IntKind.wrap .i64 (j + 1) = j + 1 := w64 (by omega) (by omega)
   unfold jt
   obtain ⟨⟨x1, x2, x3, x4, x5⟩, hx⟩ : ∃ x, y6 (Y3 t) j = x := ⟨_, rfl⟩
   have hx' : (Y3 t).getD j.toNat zx = (x1, x2, x3, x4, x5) := hx
   rw [hx']
   simp only [Bool.cond_eq_ite, decide_eq_true_eq, j0, j1, if_true, hwj, hx, y6b q t l cs vs z ht hq hl hv hpos (i + 1) x1 x2 x3 x4 x5, Option.bind_some]
  ·intro again' j hj
   unfold jt
   simp only [Bool.cond_eq_ite, decide_eq_true_eq, if_neg hj, hw]
  ·split <;> rfl
 ·intro again i s hi
  have hi' : ¬ i < 3 := hi
  have hle : ¬ i + 1 ≤ 3 := by omega
  unfold ju
  simp only [Bool.cond_eq_ite, decide_eq_true_eq, if_neg hle]
  unfold qN y4O
  refine (K9 (step := ZC _ _) (fun j => (j, q, t, l, cs, vs, z)) (yqg (Y3 t) l vs) (fun j => some (4, j)) (some (0, 0)) Yx l (by omega) ?_ ?_).trans ?_
  ·intro again' j j0 j1
   have hwj : Go.IntKind.wrap .i64 (j + 1) = j + 1 := w64 (by omega) (by omega)
   unfold ZC
   have hx : l.getD j.toNat Yx = yG l j := rfl
   rw [hx]
   simp only [Bool.cond_eq_ite, decide_eq_true_eq, j0, j1, if_true, hwj, yd3 q t l cs vs z ht hl hv (yG l j), Option.bind_some]
  ·intro again' j hj
   unfold ZC
   simp only [Bool.cond_eq_ite, decide_eq_true_eq, if_neg hj]
  ·split <;> rfl
theorem ybI {S A R : Type} (g : Int → S → A → Except (Option R) S) (k : S → Option R) (hg : ∀ i s a r, g i s a = .error r → ∃ x, r = some x) (hk : ∀ s, ∃ x, k s = some x) : ∀ (l : List A) (i : Int) (s : S), ∃ x, yaZ g k l i s = some x
 | [], i, s => hk s
 | a :: l, i, s => by
  rw [yaZ]
  cases h : g i s a with
  | error r => exact hg i s a r h
  | ok s' => exact ybI g k hg hk l (i + 1) s'
theorem yfn : ∃ r, yd4 q t l cs vs z = some r := by
 unfold yd4
 split
 ·refine ybI _ _ (fun i s a r h => ?_) (fun s => ⟨_, rfl⟩) _ _ _
  unfold ybG at h
  split at h
  ·cases h
  ·injection h with h
   exact ⟨_, h.symm⟩
 ·exact ⟨_, rfl⟩
end
end Go.Proofs.YthgdjjdigalckaaGreat.Pl
namespace Go.Proofs.YthgdjjdigalckaaGreat.Pl
open Go.Proofs.YthgdjjdigalckaaGreat.R Go.Proofs.YthgdjjdigalckaaGreat.XI
structure SP (q : List ye) (t : List y0) (l : List ya) (cs : List y8) (vs : List yf) : Prop where
 S : small q t l cs vs
 N : ∀ v ∈ vs, ByteArray.size v.1 ≤ maxLen
structure TQ (q : List ye) (t : List y0) : Prop where
 T : TOk t
 Q : ∀ n ∈ t, ycY n
 q : q.length ≤ 1048576
theorem SP.tq {q : List ye} {t : List y0} {l : List ya} {cs : List y8} {vs : List yf} (h : SP q t l cs vs) : TQ q t :=
 ⟨⟨h.S.2.1, fun n hn => by have := (wM h.S.2.2.1 hn).1; omega, h.S.2.2.1⟩, fun n hn => wM h.S.2.2.1 hn, h.S.1⟩
theorem TQ.sp {q q' : List ye} {t t' : List y0} {l l' : List ya} {cs cs' : List y8} {vs : List yf} (h : TQ q' t') (h2 : SP q t l cs vs) (hl : l'.length ≤ 1048576) (hc : cs'.length ≤ 1048576) : SP q' t' l' cs' vs :=
 ⟨⟨h.q, h.T.len, h.T.sum, hl, hc, h2.S.2.2.2.2.2⟩, h2.N⟩
theorem TS.tq {q : List ye} {t : List y0} (h : TS t) (hq : q.length ≤ 1048576) : TQ q t := ⟨h.ok, fun n hn => (h.node n hn).q, hq⟩
theorem Vx {q : List ye} {t : List y0} (k : y9) (h : TQ q t) : TQ (yX q t k).1 (yX q t k).2.1 := by
 unfold yX
 split
 ·rename_i hh
  rw [Bool.and_eq_true] at hh
  split
  ·rename_i hj
   have hT := y2Z hj
   have := (wo hj)
   exact hT.tq (by simp only; omega)
  ·exact h
 ·exact h
def y3q (k : y9) : y9 := (k.1, k.2.1, 0, 0, 0)
def y6c (q : List ye) (t : List y0) (cs : List y8) (k : y9) : List y8 := if (vj q t k.1 k.2.1).2.2.2.2.2 = true ∧ (vj q t k.1 k.2.1).2.2.1 = 1 then ya2 cs (vj q t k.1 k.2.1).2.2.2.1 else cs
theorem yd5 (q : List ye) (t : List y0) (cs : List y8) (k : y9) : (y6c q t cs k).length = cs.length := by
 unfold y6c
 split
 ·exact y31 _ _
 ·rfl
abbrev PO : Type := List ye × List y0 × List ya × List y8 × List yf × Int
section
variable (q : List ye) (t : List y0) (l : List ya) (cs : List y8) (vs : List yf) (z : Int)
def ws (t : List y0) (i : Int) : y9 := (Y3 t).getD i.toNat zx
def WA (step i : Int) : PO × Bool :=
 if step = 1 ∨ step = 2 then (((yX q t (y3q (ws t i))).1, (yX q t (y3q (ws t i))).2.1, l, y6c q t cs (ws t i), vs, z), (yX q t (y3q (ws t i))).2.2)
 else if step = 3 then
  (((yX (yX q t (y3q (ws t i))).1 (yX q t (y3q (ws t i))).2.1 ((ws t i).1, (YB l (ws t i).2.1).getD 0 0, (ws t i).2.2)).1,
   (yX (yX q t (y3q (ws t i))).1 (yX q t (y3q (ws t i))).2.1 ((ws t i).1, (YB l (ws t i).2.1).getD 0 0, (ws t i).2.2)).2.1, l, cs, vs, z),
   (yX q t (y3q (ws t i))).2.2 && (yX (yX q t (y3q (ws t i))).1 (yX q t (y3q (ws t i))).2.1 ((ws t i).1, (YB l (ws t i).2.1).getD 0 0, (ws t i).2.2)).2.2)
 else ((q, t, (y6a l (l.getD i.toNat Yx).1).1, cs, vs, z), (y6a l (l.getD i.toNat Yx).1).2)
noncomputable def ypX (p : PO) : Bool := yT p.1 p.2.1 p.2.2.1 p.2.2.2.1 p.2.2.2.2.1 p.2.2.2.2.2
noncomputable def yqh (p : PO) (r : PO × Bool) : PO × Bool := if (r.2 && ypX r.1) = true then (r.1, true) else (p, false)
noncomputable def y7A : PO × Bool := match yd4 q t l cs vs z with
 | some (step, i) => if step = 0 then ((q, t, l, cs, vs, z), false) else yqh (q, t, l, cs, vs, z) (WA q t l cs vs z step i)
 | none => ((q, t, l, cs, vs, z), false)
def yi1 (r : PO × Bool) : List ye × List y0 × List ya × List y8 × List yf × Int × Bool := (r.1.1, r.1.2.1, r.1.2.2.1, r.1.2.2.2.1, r.1.2.2.2.2.1, r.1.2.2.2.2.2, r.2)
theorem yfo {step i : Int} (h : yd4 q t l cs vs z = some (step, i)) : step = 0 ∨ ((step = 1 ∨ step = 2 ∨ step = 3) ∧ 0 ≤ i ∧ i < ((Y3 t).length : Int) ∧ JB q t l vs step (ws t i) = true) ∨ (step = 4 ∧ 0 ≤ i ∧ i < (l.length : Int)) := by
 have hfind : ∀ s, (s = 1 ∨ s = 2 ∨ s = 3) → ¬ jJ (JB q t l vs s) (Y3 t) 0 < 0 → (step, i) = (s, jJ (JB q t l vs s) (Y3 t) 0) → step = 0 ∨ ((step = 1 ∨ step = 2 ∨ step = 3) ∧ 0 ≤ i ∧ i < ((Y3 t).length : Int) ∧ JB q t l vs step (ws t i) = true) ∨ (step = 4 ∧ 0 ≤ i ∧ i < (l.length : Int)) := by
  intro s hs h0 he
  injection he with h1 h2
  subst h1 h2
  rcases Qu (JB q t l vs step) zx (Y3 t) 0 (Int.le_refl _) with h | ⟨h1, h2, h3⟩
  ·omega
  ·rw [Int.sub_zero] at h3
   exact .inr (.inl ⟨hs, h1, by omega, h3⟩)
 unfold yd4 at h
 split at h
 ·simp only [yaZ, ybG] at h
  by_cases h1 : jJ (JB q t l vs 1) (Y3 t) 0 < 0
  ·simp only [if_pos h1] at h
   by_cases h2 : jJ (JB q t l vs 2) (Y3 t) 0 < 0
   ·simp only [if_pos h2] at h
    by_cases h3 : jJ (JB q t l vs 3) (Y3 t) 0 < 0
    ·simp only [if_pos h3] at h
     injection h with h
     unfold y4O at h
     split at h
     ·injection h with h4 h5
      exact .inl h4.symm
     ·rename_i h4
      injection h with h5 h6
      rcases ya1 (yqg (Y3 t) l vs) l 0 with h | ⟨h7, h8⟩
      ·omega
      ·exact .inr (.inr ⟨h5.symm, by omega, by omega⟩)
    ·simp only [if_neg h3] at h
     injection h with h
     exact hfind 3 (by simp) h3 h.symm
   ·simp only [if_neg h2] at h
    injection h with h
    exact hfind 2 (by simp) h2 h.symm
  ·simp only [if_neg h1] at h
   injection h with h
   exact hfind 1 (by simp) h1 h.symm
 ·injection h with h
  injection h with h1 h2
  exact .inl h1.symm
variable {q t l cs vs} (h : SP q t l cs vs)
include h
theorem yi2 (step i : Int) : SP (WA q t l cs vs z step i).1.1 (WA q t l cs vs z step i).1.2.1 (WA q t l cs vs z step i).1.2.2.1 (WA q t l cs vs z step i).1.2.2.2.1 (WA q t l cs vs z step i).1.2.2.2.2.1 := by
 have hl := h.S.2.2.2.1
 have hc := h.S.2.2.2.2.1
 unfold WA
 split
 ·exact (Vx _ h.tq).sp h hl (by rw [yd5]; exact hc)
 ·split
  ·exact (Vx _ (Vx _ h.tq)).sp h hl hc
  ·refine h.tq.sp h ?_ hc
   unfold y6a
   split
   ·exact hl
   ·split
    ·unfold yH1
     exact Nat.le_trans (List.length_eraseIdx_le _ _) (by simpa using hl)
    ·exact hl
theorem ybJ (a b c d e : Int) : ZU (q, t, l, cs, vs, z, a, b, c, d, e) = some (if (yX q t (a, b, 0, 0, 0)).2.2 = true then (true, (yX q t (a, b, 0, 0, 0)).1, (yX q t (a, b, 0, 0, 0)).2.1, l, y6c q t cs (a, b, c, d, e), vs, z) else (false, q, t, l, cs, vs, z)) := by
 have hq := h.tq
 unfold ZU zK
 simp only [vz q t a b hq.T hq.q, jH q t a b 0 0 0 hq.T hq.Q hq.q, Option.bind_some]
 cases hr : (yX q t (a, b, 0, 0, 0)).2.2 with
 | false => rfl
 | true =>
  unfold Wc y6c
  simp only [Bool.not_true, cond_false, if_true, Wz cs _ h.S.2.2.2.2.1, Option.bind_some]
  cases (vj q t a b).2.2.2.2.2 with
  | false => rfl
  | true =>
   by_cases h1 : (vj q t a b).2.2.1 = 1
   ·rw [if_pos ⟨rfl, h1⟩]
    simp only [h1, cond_true, Option.bind_some, beq_self_eq_true]
   ·rw [if_neg fun hh => h1 hh.2]
    simp only [cond_true, Option.bind_some, beq_eq_false_iff_ne.2 h1, cond_false]
theorem ZZ : yF (q, t, l, cs, vs, z) = some (yT q t l cs vs z) := vx q t l cs vs z h.tq.T h.S.2.2.2.1 h.S.2.2.2.2.1 h.S.2.2.2.2.2 h.N
theorem y1X : Ym (q, t, l, cs, vs, z) = some (yT q t l cs vs z) := Q3 q t l cs vs z h.tq.T h.S.2.2.2.1 h.S.2.2.2.2.1 h.S.2.2.2.2.2 h.N
end
end Go.Proofs.YthgdjjdigalckaaGreat.Pl
namespace Go.Proofs.YthgdjjdigalckaaGreat.Pl
open Go.Proofs.YthgdjjdigalckaaGreat.R Go.Proofs.YthgdjjdigalckaaGreat.XI
theorem yki : (((0 : Int)) == 0) = true := rfl
theorem ykj : (((0 : Int)) == 1) = false := rfl
theorem ykk : (((0 : Int)) == 2) = false := rfl
theorem ykl : (((0 : Int)) == 3) = false := rfl
theorem ykm : (((0 : Int)) == 4) = false := rfl
theorem ykn : (((1 : Int)) == 0) = false := rfl
theorem yko : (((1 : Int)) == 1) = true := rfl
theorem ykp : (((1 : Int)) == 2) = false := rfl
theorem ykq : (((1 : Int)) == 3) = false := rfl
theorem ykr : (((1 : Int)) == 4) = false := rfl
theorem yks : (((2 : Int)) == 0) = false := rfl
theorem ykt : (((2 : Int)) == 1) = false := rfl
theorem yku : (((2 : Int)) == 2) = true := rfl
theorem ykv : (((2 : Int)) == 3) = false := rfl
theorem ykw : (((2 : Int)) == 4) = false := rfl
theorem ykx : (((3 : Int)) == 0) = false := rfl
theorem yky : (((3 : Int)) == 1) = false := rfl
theorem ykz : (((3 : Int)) == 2) = false := rfl
theorem ykA : (((3 : Int)) == 3) = true := rfl
theorem ykB : (((3 : Int)) == 4) = false := rfl
theorem ykC : (((4 : Int)) == 0) = false := rfl
theorem ykD : (((4 : Int)) == 1) = false := rfl
theorem ykE : (((4 : Int)) == 2) = false := rfl
theorem ykF : (((4 : Int)) == 3) = false := rfl
theorem ykG : (((4 : Int)) == 4) = true := rfl
theorem yz6 : (((0 : Int)) != 0) = false := rfl
theorem yej : (((0 : Int)) != 3) = true := rfl
theorem yz7 : (((1 : Int)) != 0) = true := rfl
theorem yek : (((1 : Int)) != 3) = true := rfl
theorem yz8 : (((2 : Int)) != 0) = true := rfl
theorem yel : (((2 : Int)) != 3) = true := rfl
theorem yz9 : (((3 : Int)) != 0) = true := rfl
theorem yem : (((3 : Int)) != 3) = false := rfl
theorem yza : (((4 : Int)) != 0) = true := rfl
theorem yen : (((4 : Int)) != 3) = true := rfl
section
variable {q : List ye} {t : List y0} {l : List ya} {cs : List y8} {vs : List yf} (z : Int) (h : SP q t l cs vs)
theorem ya4 {q' : List ye} {t' : List y0} {l' : List ya} {cs' : List y8} (ok : Bool) (h' : SP q' t' l' cs' vs) : (Option.bind (bif (!ok) then some true else Option.bind (yF (q', t', l', cs', vs, z)) fun r6 => some (!r6)) fun u5 => bif u5 then some (q, t, l, cs, vs, z, false) else some (q', t', l', cs', vs, z, true)) = some (yi1 (yqh (q, t, l, cs, vs, z) ((q', t', l', cs', vs, z), ok))) := by
 rw [ZZ z h']
 unfold yqh ypX yi1
 cases ok with
 | false => rfl
 | true =>
  simp only [Option.bind_some, Bool.not_true, cond_false, Bool.true_and]
  cases yT q' t' l' cs' vs z <;> rfl
include h
theorem y3r : Yb (q, t, l, cs, vs, z) = some (yi1 (y7A q t l cs vs z)) := by
 have hq := h.tq
 have hl := h.S.2.2.2.1
 have hc := h.S.2.2.2.2.1
 have hv := h.S.2.2.2.2.2
 obtain ⟨⟨step, i⟩, hn⟩ := yfn q t l cs vs z
 have eK : yP (q, t) = some (Y3 t) := YF q t (by have := hq.T.len; omega) hq.T.nodes hq.T.sum
 unfold Yb
 simp only [y1l q t l cs vs z h.S, ybH q t l cs vs z hq.T hq.q hl hc hv h.N, hn, eK, Option.bind_some]
 have hp : y7A q t l cs vs z = if step = 0 then ((q, t, l, cs, vs, z), false) else yqh (q, t, l, cs, vs, z) (WA q t l cs vs z step i) := by
  unfold y7A
  rw [hn]
 have erd : y6 (Y3 t) i = ws t i := rfl
 have h12 : ∀ s : Int, s = 1 ∨ s = 2 → (Option.bind (ZU (q, t, l, cs, vs, z, (ws t i).1, (ws t i).2.1, (ws t i).2.2.1, (ws t i).2.2.2.1, (ws t i).2.2.2.2)) fun r4 => Option.bind (bif (!r4.1) then some true else Option.bind (yF (r4.2.1, r4.2.2.1, r4.2.2.2.1, r4.2.2.2.2.1, r4.2.2.2.2.2.1, r4.2.2.2.2.2.2)) fun r6 => some (!r6)) fun u5 => bif u5 then some (q, t, l, cs, vs, z, false) else some (r4.2.1, r4.2.2.1, r4.2.2.2.1, r4.2.2.2.2.1, r4.2.2.2.2.2.1, r4.2.2.2.2.2.2, true)) = some (yi1 (yqh (q, t, l, cs, vs, z) (WA q t l cs vs z s i))) := by
  intro s hs
  have hT := yi2 z h s i
  unfold WA at hT ⊢
  rw [if_pos hs] at hT ⊢
  rw [ybJ z h]
  change Option.bind (some (if (yX q t (y3q (ws t i))).2.2 = true then _ else _)) _ = _
  cases hr : (yX q t (y3q (ws t i))).2.2 with
  | false => rfl
  | true => exact ya4 z true hT
 rcases yfo q t l cs vs z hn with rfl | ⟨hs, i0, i1, hk⟩ | ⟨rfl, i0, i1⟩
 ·rw [hp, if_pos rfl]
  rfl
 ·rcases hs with rfl | rfl | rfl
  ·rw [hp, if_neg (show ¬ ((1 : Int) = 0) by decide)]
   simp only [yki, ykj, ykk, ykl, ykm, ykn, yko, ykp, ykq, ykr, yks, ykt, yku, ykv, ykw, ykx, yky, ykz, ykA, ykB, ykC, ykD, ykE, ykF, ykG, yz6, yej, yz7, yek, yz8, yel, yz9, yem, yza, yen, cond_true, cond_false, erd]
   rw [if_pos i0, if_pos i1]
   exact h12 1 (.inl rfl)
  ·rw [hp, if_neg (show ¬ ((2 : Int) = 0) by decide)]
   simp only [yki, ykj, ykk, ykl, ykm, ykn, yko, ykp, ykq, ykr, yks, ykt, yku, ykv, ykw, ykx, yky, ykz, ykA, ykB, ykC, ykD, ykE, ykF, ykG, yz6, yej, yz7, yek, yz8, yel, yz9, yem, yza, yen, cond_true, cond_false, erd]
   rw [if_pos i0, if_pos i1]
   exact h12 2 (.inr rfl)
  ·rw [hp, if_neg (show ¬ ((3 : Int) = 0) by decide)]
   have hT := yi2 z h 3 i
   unfold WA at hT ⊢
   rw [if_neg (show ¬ ((3 : Int) = 1 ∨ (3 : Int) = 2) by decide), if_pos (show (3 : Int) = 3 from rfl)] at hT ⊢
   simp only [yki, ykj, ykk, ykl, ykm, ykn, yko, ykp, ykq, ykr, yks, ykt, yku, ykv, ykw, ykx, yky, ykz, ykA, ykB, ykC, ykD, ykE, ykF, ykG, yz6, yej, yz7, yek, yz8, yel, yz9, yem, yza, yen, cond_true, cond_false, erd]
   rw [if_pos i0, if_pos i1]
   obtain ⟨⟨a, b, c, d, e⟩, hx⟩ : ∃ x, ws t i = x := ⟨_, rfl⟩
   rw [hx] at hk hT ⊢
   have h1 := Vx (a, b, 0, 0, 0) hq
   have hone : ybE vs b = true ∧ ((YB l b).length : Int) = 1 := by
    unfold JB yi0 at hk
    rw [if_neg (show ¬ (3 : Int) = 1 by decide), if_neg (show ¬ (3 : Int) = 2 by decide)] at hk
    simp only [Bool.and_eq_true, beq_iff_eq] at hk
    exact hk.1
   have eKid : ZB (q, t, l, cs, vs, z, b) = some ((YB l b).getD 0 0) := by
    unfold ZB
    simp only [vw l b hl, y1m q t l cs vs z b hv, hone.1, Bool.not_true, cond_false, Option.bind_some]
    rw [show (((List.length (YB l b) : Nat) : Int) != 1) = false by rw [hone.2]; rfl, cond_false, if_pos (by omega), if_pos (by omega)]
    rfl
   simp only [y3q] at hT ⊢
   simp only [jH q t a b 0 0 0 hq.T hq.Q hq.q, eKid, Option.bind_some]
   rw [jH _ _ a ((YB l b).getD 0 0) c d e h1.T h1.Q h1.q]
   simp only [Option.bind_some]
   cases (yX q t (a, b, 0, 0, 0)).2.2 with
   | false => rfl
   | true =>
    simp only [cond_true, Option.bind_some, Bool.true_and]
    exact ya4 z _ hT
 ·rw [hp, if_neg (show ¬ ((4 : Int) = 0) by decide)]
  have hT := yi2 z h 4 i
  unfold WA at hT ⊢
  rw [if_neg (show ¬ ((4 : Int) = 1 ∨ (4 : Int) = 2) by decide), if_neg (show ¬ (4 : Int) = 3 by decide)] at hT ⊢
  simp only [yki, ykj, ykk, ykl, ykm, ykn, yko, ykp, ykq, ykr, yks, ykt, yku, ykv, ykw, ykx, yky, ykz, ykA, ykB, ykC, ykD, ykE, ykF, ykG, yz6, yej, yz7, yek, yz8, yel, yz9, yem, yza, yen, cond_true, cond_false]
  rw [if_pos i0, if_pos i1, y6G l _ hl]
  simp only [Option.bind_some]
  exact ya4 z _ hT
end
end Go.Proofs.YthgdjjdigalckaaGreat.Pl
namespace Go.Proofs.YthgdjjdigalckaaGreat.Pl
open Go.Proofs.YthgdjjdigalckaaGreat.R Go.Proofs.YthgdjjdigalckaaGreat.XI
theorem yi3 (c : List Int) (p s : Int) (L : List ByteArray) (hL : 0 < L.length) (hL2 : L.length ≤ 1048576) (hs : ∀ t ∈ L, t.size ≤ 60) (h : Yw c p) : Ju (w4 (c, p, s, L)) c (fun v => v.size ≤ 60) := by
 obtain ⟨v, p1, s1, e1, h1, q1⟩ := yZ c p s (L.length : Int) h
 have := q1.2 (by omega)
 unfold w4
 rw [e1]
 simp only [Option.bind_some]
 rw [if_pos q1.1, if_pos this]
 exact ⟨_, _, _, rfl, h1, hs _ (zA yiU L v q1.1 this)⟩
theorem yi4 (c : List Int) (p s : Int) (h : Yw c p) : Ju (zT (c, p, s)) c (fun v => v.size ≤ 60) := by
 obtain ⟨v, p1, s1, e1, h1, q1⟩ := yi3 c p s [{ data := #[97] }, { data := #[98] }, { data := #[99] }, { data := #[100] }, { data := #[101, 53] }] (by simp) (by simp) (by decide) h
 unfold zT
 rw [e1]
 exact ⟨_, _, _, rfl, h1, q1⟩
theorem ykH (c : List Int) (p s : Int) (h : Yw c p) : Ju (YR (c, p, s)) c (fun _ => True) := by
 obtain ⟨v, p1, s1, e1, h1, q1⟩ := yZ c p s 200 h
 unfold YR
 rw [e1]
 simp only [Option.bind_some]
 obtain ⟨v2, p2, s2, e2, h2, q2⟩ := WQ c p1 s1 [0, 1, 2, 7, 65535, Go.IntKind.wrap .i64 (1 + v)] (by simp) (by simp) h1
 rw [e2]
 exact ⟨_, _, _, rfl, h2, trivial⟩
def y6d (o : Option (Int × ByteArray × ByteArray × Int × Int × List Int × Int × Int)) (c : List Int) : Prop := ∃ k n t a b p s, o = some (k, n, t, a, b, c, p, s) ∧ Yw c p ∧ ByteArray.size n ≤ 60 ∧ ByteArray.size t ≤ 60
theorem yyk {c : List Int} {p s : Int} {L : List Int} {k b : Int} {n t : ByteArray} (hL : 0 < L.length) (hL2 : L.length ≤ 1048576) (h : Yw c p) (hn : n.size ≤ 60) (ht : t.size ≤ 60) :
  y6d (Option.bind (yz (c, p, s, L)) fun r => some (k, n, t, r.1, b, r.2.1, r.2.2.1, r.2.2.2)) c := by
 obtain ⟨v, p1, s1, e1, h1, _⟩ := WQ c p s L hL hL2 h
 rw [e1]
 exact ⟨_, _, _, _, _, _, _, rfl, h1, hn, ht⟩
theorem yyl {c : List Int} {p s m : Int} {k b : Int} {n t : ByteArray} (h : Yw c p) (hn : n.size ≤ 60) (ht : t.size ≤ 60) :
  y6d (Option.bind (yb (c, p, s, m)) fun r => some (k, n, t, r.1, b, r.2.1, r.2.2.1, r.2.2.2)) c := by
 obtain ⟨v, p1, s1, e1, h1, _⟩ := yZ c p s m h
 rw [e1]
 exact ⟨_, _, _, _, _, _, _, rfl, h1, hn, ht⟩
theorem yym {c : List Int} {p s : Int} {L : List Int} {k a : Int} {n : ByteArray} (hL : 0 < L.length) (hL2 : L.length ≤ 1048576) (h : Yw c p) (hn : n.size ≤ 60) :
  y6d (Option.bind (zT (c, p, s)) fun r4 => Option.bind (yz (r4.2.1, r4.2.2.1, r4.2.2.2, L)) fun r5 => some (k, n, r4.1, a, r5.1, r5.2.1, r5.2.2.1, r5.2.2.2)) c := by
 obtain ⟨v, p1, s1, e1, h1, q1⟩ := yi4 c p s h
 rw [e1]
 simp only [Option.bind_some]
 obtain ⟨v2, p2, s2, e2, h2, _⟩ := WQ c p1 s1 L hL hL2 h1
 rw [e2]
 exact ⟨_, _, _, _, _, _, _, rfl, h2, hn, q1⟩
theorem yyn {c : List Int} {p s m : Int} {k : Int} {n t : ByteArray} (h : Yw c p) (hn : n.size ≤ 60) (ht : t.size ≤ 60) :
  y6d (Option.bind (yb (c, p, s, m)) fun r6 => Option.bind (YR (r6.2.1, r6.2.2.1, r6.2.2.2)) fun r7 => some (k, n, t, r6.1, r7.1, r7.2.1, r7.2.2.1, r7.2.2.2)) c := by
 obtain ⟨v, p1, s1, e1, h1, _⟩ := yZ c p s m h
 rw [e1]
 simp only [Option.bind_some]
 obtain ⟨v2, p2, s2, e2, h2, _⟩ := ykH c p1 s1 h1
 rw [e2]
 exact ⟨_, _, _, _, _, _, _, rfl, h2, hn, ht⟩
theorem yyo {c : List Int} {p s k a b : Int} {n t : ByteArray} (h : Yw c p) (hn : n.size ≤ 60) (ht : t.size ≤ 60) : y6d (some (k, n, t, a, b, c, p, s)) c := ⟨_, _, _, _, _, _, _, rfl, h, hn, ht⟩
theorem yEB : (⟨#[]⟩ : ByteArray).size ≤ 60 := by decide
theorem yK {A : Type} {P : A → Prop} (b : Bool) {x y : A} (hx : P x) (hy : P y) : P (bif b then x else y) := by cases b <;> assumption
theorem yEC (c : List Int) (p s : Int) (h : Yw c p) : y6d (ZT (c, p, s)) c := by
 unfold ZT
 obtain ⟨v, p1, s1, e1, h1, _⟩ := WQ c p s [1, 1, 1, 2, 2, 3, 4, 4, 4, 4, 4, 4, 5, 6, 7, 7, 8, 9] (by simp) (by simp) h
 rw [e1]
 simp only [Option.bind_some]
 obtain ⟨n, p2, s2, e2, h2, hn⟩ := yi3 c p1 s1 [{ data := #[97] }, { data := #[97] }, { data := #[98] }, { data := #[99] }, { data := #[100] }] (by simp) (by simp) (by decide) h1
 rw [e2]
 simp only [Option.bind_some]
 have hz := yEB
 repeat' (first
  | with_reducible refine yK (P := fun o => y6d o c) _ ?_ ?_
  | with_reducible exact yyk (by simp) (by simp) h2 hn hz
  | with_reducible exact yyk (by simp) (by simp) h1 hz hz
  | with_reducible exact yym (by simp) (by simp) h2 hn
  | with_reducible exact yym (by simp) (by simp) h1 hz
  | with_reducible exact yyn h2 hn hz
  | with_reducible exact yyn h1 hz hz
  | with_reducible exact yyl h2 hn hz
  | with_reducible exact yyl h1 hz hz
  | with_reducible exact yyo h2 hn hz
  | with_reducible exact yyo h1 hz hz)
end Go.Proofs.YthgdjjdigalckaaGreat.Pl
namespace Go.Proofs.YthgdjjdigalckaaGreat.Pl
open Go.Proofs.YthgdjjdigalckaaGreat.R Go.Proofs.YthgdjjdigalckaaGreat.XI
abbrev P7a : Type := List ye × List y0 × List ya × List y8 × List yf × Int × Int
theorem ymF {A : Type} {o : Option A} : (Option.bind o fun r => some r) = o := by cases o <;> rfl
theorem ypY {o : Option P7a} : (Option.bind o fun r => some (r.1, r.2.1, r.2.2.1, r.2.2.2.1, r.2.2.2.2.1, r.2.2.2.2.2.1, r.2.2.2.2.2.2)) = o := by cases o <;> rfl
theorem yED {o : Option (List ye × List y0 × List ya × List y8 × List yf × Int × Bool)} : (Option.bind o fun r => some (r.1, r.2.1, r.2.2.1, r.2.2.2.1, r.2.2.2.2.1, r.2.2.2.2.2.1, r.2.2.2.2.2.2)) = o := by cases o <;> rfl
theorem yEE {o : Option (Bool × List ye × List y0 × List ya × List y8 × List yf × Int)} : (Option.bind o fun r => some (r.1, r.2.1, r.2.2.1, r.2.2.2.1, r.2.2.2.2.1, r.2.2.2.2.2.1, r.2.2.2.2.2.2)) = o := by cases o <;> rfl
theorem Zi {A : Type} {P : A → Prop} (b : Bool) {x y : A} (hx : b = true → P x) (hy : b = false → P y) : P (bif b then x else y) := by cases b <;> first | exact hx rfl | exact hy rfl
structure Tn (q : List ye) (t : List y0) (l : List ya) (cs : List y8) (vs : List yf) : Prop where
 ql : q.length ≤ 100
 T : TS t
 ll : l.length ≤ 100
 cl : cs.length = 24
 vl : vs.length ≤ 100
 N : ∀ v ∈ vs, ByteArray.size v.1 ≤ 60
 e : q.length = t.length
 p : 0 < t.length
theorem Tn.sp {q : List ye} {t : List y0} {l : List ya} {cs : List y8} {vs : List yf} (h : Tn q t l cs vs) : SP q t l cs vs := by
 have hT := h.T.ok
 refine ⟨⟨Nat.le_trans h.ql (by decide), hT.len, hT.sum, Nat.le_trans h.ll (by decide), by rw [h.cl]; decide, Nat.le_trans h.vl (by decide)⟩, fun v hv => Nat.le_trans (h.N v hv) (by decide)⟩
theorem y04 {q : List ye} {t : List y0} {l : List ya} {cs : List y8} {vs : List yf} {z : Int} (h : yT q t l cs vs z = true) : Tn q t l cs vs := by
 have hF := ycM h
 unfold yT at h
 rw [Bool.and_eq_true] at h
 have h1 := wo h.1
 exact ⟨by have := hF.ql; have := hF.tl; omega, y2Z h.1, by have := hF.ll; omega, hF.cl, by have := hF.vl; omega, fun v hv => by have := hF.nm v hv; omega, hF.ql, by omega⟩
def Res (q : List ye) (t : List y0) (l : List ya) (cs : List y8) (vs : List yf) (z : Int) (o : Option P7a) : Prop :=
 ∃ q' t' l' cs' vs' z' c, o = some (q', t', l', cs', vs', z', c) ∧ (yT q' t' l' cs' vs' z' = true ∨ (q', t', l', cs', vs', z') = (q, t, l, cs, vs, z))
def YV (vs : List yf) (n : ByteArray) : Int := jJ (fun v : yf => ByteArray.toList v.1 == ByteArray.toList n) vs 0
theorem vk (vs : List yf) (n : ByteArray) : YV vs n = -1 ∨ (0 ≤ YV vs n ∧ YV vs n < vs.length) := by
 rcases Qu (fun v : yf => ByteArray.toList v.1 == ByteArray.toList n) wQ vs 0 (Int.le_refl _) with h | ⟨h1, h2, h3⟩
 ·exact .inl h
 ·exact .inr ⟨h1, by simpa [YV] using h2⟩
section
variable (q : List ye) (t : List y0) (l : List ya) (cs : List y8) (vs : List yf) (z : Int)
theorem ZN (n : ByteArray) (hv : vs.length ≤ 1048576) : zs (q, t, l, cs, vs, z, n) = some (YV vs n) := by
 unfold zs y1Q
 refine (K9 (step := W4 _ _) (fun i => (n, i, q, t, l, cs, vs, z)) (fun v : yf => ByteArray.toList v.1 == ByteArray.toList n) (fun x => some x) (some (-1)) wQ vs (by omega) ?_ ?_).trans ?_
 ·intro again i h0 h1
  have hw : Go.IntKind.wrap .i64 (i + 1) = i + 1 := w64 (by omega) (by omega)
  unfold W4
  simp only [Bool.cond_eq_ite, decide_eq_true_eq, h0, h1, if_true, hw]
  rfl
 ·intro again i hi
  unfold W4
  simp only [Bool.cond_eq_ite, decide_eq_true_eq, if_neg hi]
 ·rcases vk vs n with h | ⟨h1, h2⟩ <;> unfold YV at *
  ·rw [h]
   rfl
  ·rw [if_neg (by omega)]
def yfp (n : ByteArray) : Int := if yT q t l cs vs z = true ∧ Jz n = true then 0 else 1
noncomputable def yzb (n : ByteArray) : Int := if yT q t l cs vs z = true ∧ Jz n = true then (if YV vs n < 0 then 2 else 0) else 1
noncomputable def qv (n : ByteArray) (b : Int) : Int := if yT q t l cs vs z = true ∧ Jz n = true then (if YV vs n < 0 then 2 else if (yl vs (YV vs n)).2.2.2 = true then 5 else if inR b 0 (Go.IntKind.wrap .i64 ((yl vs (YV vs n)).2.2.1 - 1)) = true then 0 else 4) else 1
variable {q t l cs vs} (h : SP q t l cs vs)
include h
theorem y1p (n : ByteArray) (hn : n.size ≤ maxLen) : ZS (q, t, l, cs, vs, z, n) = some (yfp q t l cs vs z n) := by
 unfold ZS yfp
 simp only [ZZ z h, Wl n hn, Option.bind_some]
 cases yT q t l cs vs z <;> cases Jz n <;> rfl
theorem y6e (n : ByteArray) (hn : n.size ≤ maxLen) : wz (q, t, l, cs, vs, z, n) = some (yzb q t l cs vs z n) := by
 unfold wz yzb
 simp only [y1p z h n hn, ZN q t l cs vs z n h.S.2.2.2.2.2, Option.bind_some]
 unfold yfp
 by_cases hc : yT q t l cs vs z = true ∧ Jz n = true
 ·simp only [if_pos hc, beq_self_eq_true, cond_true, Option.bind_some]
  by_cases hv : YV vs n < 0
  ·simp only [if_pos hv, decide_eq_true hv]
   rfl
  ·simp only [if_neg hv, decide_eq_false hv]
   rfl
 ·simp only [if_neg hc]
  rfl
theorem y05 (n : ByteArray) (hn : n.size ≤ maxLen) (b : Int) : Za (q, t, l, cs, vs, z, n, b) = some (qv q t l cs vs z n b) := by
 unfold Za qv
 simp only [y6e z h n hn, ZN q t l cs vs z n h.S.2.2.2.2.2, Zg, Option.bind_some]
 unfold yzb
 by_cases hc : yT q t l cs vs z = true ∧ Jz n = true
 ·simp only [if_pos hc]
  by_cases hv : YV vs n < 0
  ·simp only [if_pos hv]
   rfl
  ·have h2 := vk vs n
   simp only [if_neg hv, show ((0 : Int) != 0) = false from rfl, cond_false, if_pos (show (0 : Int) ≤ YV vs n by omega), if_pos (show YV vs n < ((List.length vs : Nat) : Int) by omega)]
   cases (yl vs (YV vs n)).2.2.2 with
   | true => rfl
   | false => cases inR b 0 (Go.IntKind.wrap .i64 ((yl vs (YV vs n)).2.2.1 - 1)) <;> rfl
 ·simp only [if_neg hc]
  rfl
theorem qw : yq (q, t, l, cs, vs, z) = some (q, t, l, cs, vs, z) := y1l q t l cs vs z h.S
omit h in
theorem Res.same (c : Int) : Res q t l cs vs z (some (q, t, l, cs, vs, z, c)) := ⟨_, _, _, _, _, _, c, rfl, .inr rfl⟩
theorem yyp {q' : List ye} {t' : List y0} {l' : List ya} {cs' : List y8} {vs' : List yf} {z' : Int} (hx : SP q' t' l' cs' vs') (b : Bool) : yV (q, t, l, cs, vs, z, q', t', l', cs', vs', z', b) = some (if b = true ∧ yT q' t' l' cs' vs' z' = true then (q', t', l', cs', vs', z', 0) else (q, t, l, cs, vs, z, 6)) := by
 unfold yV
 simp only [ZZ z' hx, qw z h, Option.bind_some]
 cases b <;> cases hp : yT q' t' l' cs' vs' z' <;> simp
theorem Res.fin {q' : List ye} {t' : List y0} {l' : List ya} {cs' : List y8} {vs' : List yf} {z' : Int} (hx : SP q' t' l' cs' vs') (b : Bool) : Res q t l cs vs z (yV (q, t, l, cs, vs, z, q', t', l', cs', vs', z', b)) := by
 rw [yyp z h hx b]
 by_cases hc : b = true ∧ yT q' t' l' cs' vs' z' = true
 ·rw [if_pos hc]
  exact ⟨_, _, _, _, _, _, _, rfl, .inl hc.2⟩
 ·rw [if_neg hc]
  exact ⟨_, _, _, _, _, _, _, rfl, .inr rfl⟩
end
theorem y32 (l : List ya) (id fr : Int) (hl : l.length ≤ 1000) : ∃ l' b, Y7 (l, id, fr) = some (l', b) ∧ l'.length ≤ l.length + 1 := by
 unfold Y7 y0W
 rw [ZM l id (by omega)]
 simp only [Option.bind_some]
 refine ZL (step := kr _) (fun u : kq => l.length - u.2.2.2.2.1.toNat) (fun u => u.1 = l ∧ u.2.1 = id ∧ 0 ≤ u.2.2.2.2.1 ∧ u.2.2.2.2.1 ≤ l.length ∧ (u.2.2.2.2.2.length : Int) ≤ u.2.2.2.2.1 + (if u.2.2.2.1 = true then 1 else 0)) (fun _ (res : Option (List ya × Bool)) => ∃ (l' : List ya) (b : Bool), res = some (l', b) ∧ l'.length ≤ l.length + 1) ?_ (l, id, fr, decide (YG l id ≥ 0), 0, []) ⟨rfl, rfl, Int.le_refl _, by simp, by simp; split <;> omega⟩ (by simp; omega)
 ·rintro again ⟨l1, id1, fr1, d, i, o⟩ ⟨rfl, rfl, h0, h1, ho⟩ hag
  simp only at h0 h1 ho hl hag ⊢
  unfold kr
  simp only [Bool.cond_eq_ite, decide_eq_true_eq]
  by_cases hi : i < (l1.length : Int)
  ·have hw : Go.IntKind.wrap .i64 (i + 1) = i + 1 := w64 (by omega) (by omega)
   have ho2 : o.length ≤ 1001 := by split at ho <;> omega
   simp only [if_pos hi, if_pos h0, hw, List.length_append, List.length_cons, List.length_nil]
   cases d with
   | true =>
    simp only [Bool.not_true, Bool.false_eq_true, if_false, Option.bind_some]
    rw [if_pos (by omega)]
    exact hag _ ⟨rfl, rfl, by simp only; omega, by simp only; omega, by simp at ho ⊢; omega⟩ (by simp only; omega)
   | false =>
    simp only [Bool.not_false, if_true, Option.bind_some, decide_eq_true_eq]
    split
    ·rw [if_pos (by omega), if_pos (by omega)]
     exact hag _ ⟨rfl, rfl, by simp only; omega, by simp only; omega, by simp at ho ⊢; omega⟩ (by simp only; omega)
    ·rw [if_pos (by omega)]
     exact hag _ ⟨rfl, rfl, by simp only; omega, by simp only; omega, by simp at ho ⊢; omega⟩ (by simp only; omega)
  ·have ho2 : o.length ≤ 1001 := by split at ho <;> omega
   simp only [if_neg hi, List.length_append, List.length_cons, List.length_nil, ZM l1 id1 (by omega), Option.bind_some, vv o (by omega), vv (o ++ [(id1, fr1)]) (by simp; omega)]
   cases d with
   | true =>
    have e1 : ∀ u : Bool, ∃ (l' : List ya) (b : Bool), (if u = true then (if (0 + l1.length) * 16 < 140737488355328 then some ([] ++ l1, false) else none) else some (o, true)) = some (l', b) ∧ l'.length ≤ l1.length + 1 := fun u => by
     rw [if_pos (show (0 + l1.length) * 16 < 140737488355328 by omega)]
     cases u
     ·exact ⟨_, _, rfl, by simp at ho; omega⟩
     ·exact ⟨_, _, rfl, by simp⟩
    simp only [Bool.not_true, Bool.false_eq_true, if_false]
    by_cases ha : YG l1 id1 ≥ 0
    ·rw [if_pos ha]
     exact e1 true
    ·rw [if_neg ha]
     exact e1 _
   | false =>
    have e1 : ∀ u : Bool, ∃ (l' : List ya) (b : Bool), (if u = true then (if (0 + l1.length) * 16 < 140737488355328 then some ([] ++ l1, false) else none) else some (o ++ [(id1, fr1)], true)) = some (l', b) ∧ l'.length ≤ l1.length + 1 := fun u => by
     rw [if_pos (show (0 + l1.length) * 16 < 140737488355328 by omega)]
     cases u
     ·exact ⟨_, _, rfl, by simp at ho ⊢; omega⟩
     ·exact ⟨_, _, rfl, by simp⟩
    simp only [Bool.not_false, if_true]
    rw [if_pos (by omega)]
    by_cases ha : YG l1 id1 ≥ 0
    ·rw [if_pos ha]
     exact e1 true
    ·rw [if_neg ha]
     exact e1 _
theorem ybK (vs : List yf) (n : ByteArray) (a s : Int) (f : Bool) (hv : vs.length ≤ 1000) (hN : ∀ v ∈ vs, ByteArray.size v.1 ≤ 60) (hn : n.size ≤ 60) : ∃ vs', Zl (vs, n, a, s, f) = some vs' ∧ vs'.length = vs.length + 1 ∧ ∀ v ∈ vs', ByteArray.size v.1 ≤ 60 := by
 unfold Zl qL
 simp only [List.nil_append, List.length_nil, List.length_append, List.length_cons]
 rw [if_pos (by omega), if_pos (by omega), w64 (by omega) (by omega)]
 refine ZL (step := Jy _) (fun u : Jx => u.1.toNat) (fun u => 0 ≤ u.1 ∧ u.1 ≤ vs.length ∧ u.2.1 = n ∧ u.2.2.2.2.2.length = vs.length + 1 ∧ ∀ v ∈ u.2.2.2.2.2, ByteArray.size v.1 ≤ 60) (fun _ (res : Option (List yf)) => ∃ vs' : List yf, res = some vs' ∧ vs'.length = vs.length + 1 ∧ ∀ v ∈ vs', ByteArray.size v.1 ≤ 60) ?_ (((vs.length + (0 + 1) : Nat) : Int) - 1, n, a, s, f, vs ++ [(n, a, s, f)]) ⟨by simp only; omega, by simp only; omega, rfl, by simp, fun v hv => ?_⟩ (by simp only; omega)
 ·rintro again ⟨k, n1, a1, s1, f1, o⟩ ⟨h0, h1, rfl, ho, hoN⟩ hag
  simp only at h0 h1 ho hoN hag ⊢
  unfold Jy
  simp only [Bool.cond_eq_ite, decide_eq_true_eq]
  by_cases hk : k > 0
  ·have hw : Go.IntKind.wrap .i64 (k - 1) = k - 1 := w64 (by omega) (by omega)
   simp only [if_pos hk, hw, if_pos (show (0 : Int) ≤ k - 1 by omega), if_pos (show k - 1 < ((List.length o : Nat) : Int) by omega), if_pos h0, if_pos (show k < ((List.length o : Nat) : Int) by omega), Option.bind_some]
   split
   ·refine hag _ ⟨by simp only; omega, by simp only; omega, rfl, by simp only [List.length_set]; exact ho, fun v hv => ?_⟩ (by simp only; omega)
    rcases List.mem_or_eq_of_mem_set hv with h | rfl
    ·exact hoN v h
    ·exact hoN _ (zA wQ o (k - 1) (by omega) (by omega))
   ·refine ⟨_, rfl, by rw [List.length_set]; exact ho, fun v hv => ?_⟩
    rcases List.mem_or_eq_of_mem_set hv with h | rfl
    ·exact hoN v h
    ·exact hn
  ·simp only [if_neg hk, Option.bind_some, Bool.false_eq_true, if_false, if_pos h0, if_pos (show k < ((List.length o : Nat) : Int) by omega)]
   refine ⟨_, rfl, by rw [List.length_set]; exact ho, fun v hv => ?_⟩
   rcases List.mem_or_eq_of_mem_set hv with h | rfl
   ·exact hoN v h
   ·exact hn
 ·rcases List.mem_append.1 hv with h | h
  ·exact hN v h
  ·rw [List.mem_singleton.1 h]
   exact hn
theorem y2b (cs : List y8) (n : Int) (hc : cs.length ≤ 1048576) : ∃ cs' i b, Ys (cs, n) = some (cs', i, b) ∧ cs'.length = cs.length ∧ (b = true → 0 ≤ i ∧ i < cs.length) := by
 unfold Ys YQ Qr
 simp only [List.nil_append, List.length_nil]
 rw [if_pos (by omega)]
 simp only [Option.bind_some]
 refine ZL (step := wC _ _) (fun u : wB => cs.length - u.2.2.1.toNat) (fun u => u.1 = cs ∧ 0 ≤ u.2.2.1 ∧ u.2.2.1 ≤ cs.length ∧ u.2.2.2 = cs) (fun _ (res : Option (List y8 × Int × Bool)) => ∃ (cs' : List y8) (i : Int) (b : Bool), res = some (cs', i, b) ∧ cs'.length = cs.length ∧ (b = true → 0 ≤ i ∧ i < cs.length)) ?_ (cs, n, 0, cs) ⟨rfl, Int.le_refl _, by simp, rfl⟩ (by simp; omega)
 ·rintro again ⟨l1, n1, i, o⟩ ⟨e1, h0, h1, e2⟩ hag
  simp only at e1 e2 h0 h1 hag ⊢
  subst e1
  subst e2
  unfold wC
  simp only [Bool.cond_eq_ite, decide_eq_true_eq, qs o hc, y2I, Option.bind_some]
  by_cases hi : i < (o.length : Int)
  ·have hw : Go.IntKind.wrap .i64 (i + 1) = i + 1 := w64 (by omega) (by omega)
   simp only [if_pos hi, if_pos h0, hw, List.length_set, Option.bind_some]
   split
   ·simp only [Option.bind_some]
    split
    ·split
     ·exact ⟨_, _, _, rfl, by simp, fun _ => ⟨h0, hi⟩⟩
     ·exact hag _ ⟨rfl, by simp only; omega, by simp only; omega, rfl⟩ (by simp only; omega)
    ·exact ⟨_, _, _, rfl, rfl, fun h => by cases h⟩
   ·simp only [Option.bind_some, Bool.false_eq_true, if_false]
    exact ⟨_, _, _, rfl, rfl, fun h => by cases h⟩
  ·simp only [if_neg hi, Option.bind_some, Bool.false_eq_true, if_false]
   exact ⟨_, _, _, rfl, rfl, fun h => by cases h⟩
end Go.Proofs.YthgdjjdigalckaaGreat.Pl
namespace Go.Proofs.YthgdjjdigalckaaGreat.Pl
open Go.Proofs.YthgdjjdigalckaaGreat.R Go.Proofs.YthgdjjdigalckaaGreat.XI
theorem SP.of {q : List ye} {t : List y0} {l : List ya} {cs : List y8} {vs : List yf} (h : TQ q t) (hl : l.length ≤ 1048576) (hc : cs.length ≤ 1048576) (hv : vs.length ≤ 1048576) (hN : ∀ v ∈ vs, ByteArray.size v.1 ≤ maxLen) : SP q t l cs vs :=
 ⟨⟨h.q, h.T.len, h.T.sum, hl, hc, hv⟩, hN⟩
theorem y42 {n : Nat} (h : n ≤ 60) : n ≤ maxLen := Nat.le_trans h (by decide)
section
variable {q : List ye} {t : List y0} {l : List ya} {cs : List y8} {vs : List yf} (z : Int) (h : SP q t l cs vs)
include h
theorem yi5 (n : ByteArray) (s : Int) (hn : n.size ≤ 60) : Res q t l cs vs z (wA (q, t, l, cs, vs, z, n, s)) := by
 unfold wA
 simp only [y1p z h n (y42 hn), qw z h, ZN q t l cs vs z n h.S.2.2.2.2.2, Zg, Option.bind_some, ypY, ymF]
 refine Zi (P := Res q t l cs vs z) _ (fun _ => Res.same z _) fun hf => Zi (P := Res q t l cs vs z) _ (fun _ => Res.same z _) fun _ => Zi (P := Res q t l cs vs z) _ (fun _ => Res.same z _) fun _ => ?_
 have hp : yT q t l cs vs z = true := by
  unfold yfp at hf
  by_cases hc : yT q t l cs vs z = true ∧ Jz n = true
  ·exact hc.1
  ·rw [if_neg hc] at hf
   cases hf
 have hT := y04 hp
 obtain ⟨l', b, e1, h1⟩ := y32 l z 0 (by have := hT.ll; omega)
 obtain ⟨vs', e2, h2, h3⟩ := ybK vs n z s false (by have := hT.vl; omega) hT.N hn
 rw [e1]
 simp only [Option.bind_some]
 rw [e2]
 simp only [Option.bind_some]
 exact Res.fin z h (SP.of h.tq (by have := hT.ll; omega) h.S.2.2.2.2.1 (by have := hT.vl; omega) fun v hv => y42 (h3 v hv)) b
theorem ypZ (n m : ByteArray) (f : Bool) (hn : n.size ≤ 60) (hm : m.size ≤ 60) : Res q t l cs vs z (KG (q, t, l, cs, vs, z, n, m, f)) := by
 unfold KG
 simp only [y1p z h n (y42 hn), qw z h, ZN q t l cs vs z _ h.S.2.2.2.2.2, Wl m (y42 hm), Option.bind_some, ypY, ymF]
 cases hf : yfp q t l cs vs z n != 0 with
 | true =>
  simp only [cond_true, Option.bind_some]
  exact Res.same z _
 | false =>
 simp only [cond_false, Option.bind_some]
 have hp : yT q t l cs vs z = true := by
  unfold yfp at hf
  by_cases hc : yT q t l cs vs z = true ∧ Jz n = true
  ·exact hc.1
  ·rw [if_neg hc] at hf
   cases hf
 have hT := y04 hp
 refine Zi (P := Res q t l cs vs z) _ (fun _ => Res.same z _) fun _ => Zi (P := Res q t l cs vs z) _ (fun _ => Res.same z _) fun hi => Zi (P := Res q t l cs vs z) _ (fun _ => Res.same z _) fun _ => ?_
 have hi' : 0 ≤ YV vs n ∧ YV vs n < ((List.length vs : Nat) : Int) := by
  have := of_decide_eq_false hi
  have := vk vs n
  omega
 obtain ⟨l', b, e1, h1⟩ := y32 l z (yl vs (YV vs n)).2.1 (by have := hT.ll; omega)
 obtain ⟨l2, b2, e2, h2⟩ := y32 l' (Go.IntKind.wrap .i64 (z + 1)) (yl vs (YV vs n)).2.1 (by have := hT.ll; omega)
 obtain ⟨vs', e3, h3, h4⟩ := ybK (vs.set (Int.toNat (YV vs n)) ((yl vs (YV vs n)).1, z, (yl vs (YV vs n)).2.2)) m (Go.IntKind.wrap .i64 (z + 1)) (yl vs (YV vs n)).2.2.1 f (by rw [List.length_set]; have := hT.vl; omega) (fun v hv => by
  rcases List.mem_or_eq_of_mem_set hv with hv | rfl
  ·exact hT.N v hv
  ·exact hT.N (yl vs (YV vs n)) (zA wQ vs _ hi'.1 hi'.2)) hm
 simp only [if_pos hi'.1, if_pos hi'.2]
 rw [e1]
 simp only [Option.bind_some]
 rw [e2]
 simp only [Option.bind_some]
 rw [e3]
 simp only [Option.bind_some]
 rw [List.length_set] at h3
 have hS : SP q t l2 cs vs' := SP.of h.tq (by have := hT.ll; omega) h.S.2.2.2.2.1 (by have := hT.vl; omega) fun v hv => y42 (h4 v hv)
 cases b <;> simp only [cond_true, cond_false, Option.bind_some] <;> exact Res.fin z h hS _
theorem yi6 (n : ByteArray) (hn : n.size ≤ 60) : Res q t l cs vs z (jR (q, t, l, cs, vs, z, n)) := by
 unfold jR
 simp only [y6e z h n (y42 hn), qw z h, ZN q t l cs vs z _ h.S.2.2.2.2.2, Option.bind_some, ypY, ymF]
 refine Zi (P := Res q t l cs vs z) _ (fun _ => Res.same z _) fun hf => ?_
 have hi : 0 ≤ YV vs n ∧ YV vs n < ((List.length vs : Nat) : Int) := by
  unfold yzb at hf
  have := vk vs n
  by_cases hc : yT q t l cs vs z = true ∧ Jz n = true
  ·rw [if_pos hc] at hf
   by_cases hv : YV vs n < 0
   ·rw [if_pos hv] at hf
    cases hf
   ·omega
  ·rw [if_neg hc] at hf
   cases hf
 have hv := h.S.2.2.2.2.2
 have hw : Go.IntKind.wrap .i64 (YV vs n + 1) = YV vs n + 1 := w64 (by omega) (by omega)
 simp only [hw]
 rw [if_pos (Int.le_refl _), if_pos hi.1, if_pos (by omega), if_pos (by simp only [List.length_nil, List.length_drop, List.length_take]; omega), if_pos (by omega), if_pos (by omega), if_pos (Int.le_refl _), if_pos (by simp only [List.length_append, List.length_nil, List.length_drop, List.length_take]; omega)]
 refine Res.fin z h (SP.of h.tq h.S.2.2.2.1 h.S.2.2.2.2.1 (by simp only [List.length_append, List.length_nil, List.length_drop, List.length_take]; omega) fun v hv => ?_) true
 simp only [List.nil_append, List.mem_append] at hv
 rcases hv with hv | hv
 ·exact h.N v (List.mem_of_mem_take (List.mem_of_mem_drop hv))
 ·exact h.N v (List.mem_of_mem_take (List.mem_of_mem_drop hv))
theorem yi7 (a b c d e : Int) : ∃ r q' t' cs', zK (q, t, l, cs, vs, z, a, b, c, d, e) = some (r, q', t', l, cs', vs, z) ∧ SP q' t' l cs' vs := by
 have hq := h.tq
 unfold zK
 simp only [vz q t a b hq.T hq.q, jH q t a b c d e hq.T hq.Q hq.q, Option.bind_some]
 cases (yX q t (a, b, c, d, e)).2.2 with
 | false => exact ⟨_, _, _, _, rfl, h⟩
 | true =>
  unfold Wc
  simp only [Bool.not_true, cond_false, Wz cs _ h.S.2.2.2.2.1]
  have hT := Vx (a, b, c, d, e) hq
  have key : ∀ u : Bool, ∃ r q' t' cs', (Option.bind (bif u then Option.bind (some (ya2 cs (vj q t a b).2.2.2.1)) fun r2 => some ((yX q t (a, b, c, d, e)).1, (yX q t (a, b, c, d, e)).2.1, l, r2, vs, z) else some ((yX q t (a, b, c, d, e)).1, (yX q t (a, b, c, d, e)).2.1, l, cs, vs, z)) fun r3 => some (true, r3.1, r3.2.1, r3.2.2.1, r3.2.2.2.1, r3.2.2.2.2.1, r3.2.2.2.2.2)) = some (r, q', t', l, cs', vs, z) ∧ SP q' t' l cs' vs := fun u => by
   cases u
   ·exact ⟨_, _, _, _, rfl, hT.sp h h.S.2.2.2.1 h.S.2.2.2.2.1⟩
   ·exact ⟨_, _, _, _, rfl, hT.sp h h.S.2.2.2.1 (by rw [y31]; exact h.S.2.2.2.2.1)⟩
  cases (vj q t a b).2.2.2.2.2
  ·exact key false
  ·exact key ((vj q t a b).2.2.1 == 1)
theorem ykI (n : ByteArray) (b w : Int) (hn : n.size ≤ 60) : Res q t l cs vs z (WM (q, t, l, cs, vs, z, n, b, w)) := by
 obtain ⟨cs', i, u, e1, h1, h2⟩ := y2b cs w h.S.2.2.2.2.1
 have hS : SP q t l cs' vs := SP.of h.tq h.S.2.2.2.1 (by rw [h1]; exact h.S.2.2.2.2.1) h.S.2.2.2.2.2 h.N
 have main : qv q t l cs vs z n b = 0 → Res q t l cs vs z (bif u then if (0 : Int) ≤ YV vs n then if YV vs n < ((List.length vs : Nat) : Int) then if (0 : Int) ≤ i then if i < ((List.length cs' : Nat) : Int) then Option.bind (zK (q, t, l, cs', vs, z, b, (yl vs (YV vs n)).2.1, (1 : Int), i, (yp cs' i).1)) fun r7 => yV (q, t, l, cs, vs, z, r7.2.1, r7.2.2.1, r7.2.2.2.1, r7.2.2.2.2.1, r7.2.2.2.2.2.1, r7.2.2.2.2.2.2, r7.1) else none else none else none else none else yV (q, t, l, cs, vs, z, q, t, l, cs', vs, z, false)) := by
  intro hb
  have hi : 0 ≤ YV vs n ∧ YV vs n < ((List.length vs : Nat) : Int) := by
   unfold qv at hb
   have := vk vs n
   by_cases hc : yT q t l cs vs z = true ∧ Jz n = true
   ·rw [if_pos hc] at hb
    by_cases hv : YV vs n < 0
    ·rw [if_pos hv] at hb
     cases hb
    ·omega
   ·rw [if_neg hc] at hb
    cases hb
  cases u with
  | false => exact Res.fin z h hS false
  | true =>
   have h3 := h2 rfl
   obtain ⟨r, q', t', cs2, e2, h4⟩ := yi7 z hS b (yl vs (YV vs n)).2.1 1 i (yp cs' i).1
   simp only [cond_true, if_pos hi.1, if_pos hi.2, if_pos h3.1, if_pos (show i < ((List.length cs' : Nat) : Int) by rw [h1]; exact h3.2), e2, Option.bind_some]
   exact Res.fin z h h4 r
 unfold WM
 simp only [y05 z h n (y42 hn), qw z h, ZN q t l cs vs z _ h.S.2.2.2.2.2, y2I, e1, Option.bind_some, ypY, ymF]
 cases hb : qv q t l cs vs z n b == 0 with
 | false =>
  have hne : (qv q t l cs vs z n b != 0) = true := by
   rw [bne, hb]
   rfl
  simp only [cond_false, Option.bind_some, hne, cond_true]
  exact Res.same z _
 | true =>
  have h0 : qv q t l cs vs z n b = 0 := by simpa using hb
  cases hw : isW w with
  | false =>
   simp only [cond_true, Option.bind_some, Bool.not_false, show ((4 : Int) != 0) = true from rfl]
   exact Res.same z _
  | true =>
   have hne : (qv q t l cs vs z n b != 0) = false := by
    rw [bne, hb]
    rfl
   simp only [cond_true, Option.bind_some, Bool.not_true, cond_false, hne]
   exact main h0
theorem y1q (i b : Int) (h0 : 0 ≤ i) (h1 : i < (vs.length : Int)) : ∃ r q' t' cs', Yf (q, t, l, cs, vs, z, i, b) = some (r, q', t', l, cs', vs, z) ∧ SP q' t' l cs' vs := by
 have hq := h.tq
 unfold Yf
 simp only [if_pos h0, if_pos h1, y2U q t l _ _ hq.T h.S.2.2.2.1, vz q t _ _ hq.T hq.q, Option.bind_some, yEE, ymF]
 have key : ∀ u : Bool, ∃ r q' t' cs', (bif u then zK (q, t, l, cs, vs, z, b, (yl vs i).2.1, (2 : Int), (0 : Int), (0 : Int)) else bif (!(vj q t b (yl vs i).2.1).2.2.2.2.2) then some (true, q, t, l, cs, vs, z) else zK (q, t, l, cs, vs, z, b, (yl vs i).2.1, (0 : Int), (0 : Int), (0 : Int))) = some (r, q', t', l, cs', vs, z) ∧ SP q' t' l cs' vs := fun u => by
  cases u
  ·cases (vj q t b (yl vs i).2.1).2.2.2.2.2
   ·exact ⟨_, _, _, _, rfl, h⟩
   ·exact yi7 z h _ _ _ _ _
  ·exact yi7 z h _ _ _ _ _
 cases (ans (yef t l b (yl vs i).2.1)).2.2.2.2.2
 ·exact key false
 ·exact key _
theorem yfq (n : ByteArray) (b : Int) (hn : n.size ≤ 60) : Res q t l cs vs z (Jl (q, t, l, cs, vs, z, n, b)) := by
 unfold Jl
 simp only [y05 z h n (y42 hn), qw z h, ZN q t l cs vs z _ h.S.2.2.2.2.2, Option.bind_some, ypY, ymF]
 refine Zi (P := Res q t l cs vs z) _ (fun _ => Res.same z _) fun hb => ?_
 have hi : 0 ≤ YV vs n ∧ YV vs n < ((List.length vs : Nat) : Int) := by
  unfold qv at hb
  have := vk vs n
  by_cases hc : yT q t l cs vs z = true ∧ Jz n = true
  ·rw [if_pos hc] at hb
   by_cases hv : YV vs n < 0
   ·rw [if_pos hv] at hb
    cases hb
   ·omega
  ·rw [if_neg hc] at hb
   cases hb
 obtain ⟨r, q', t', cs', e1, h1⟩ := y1q z h (YV vs n) b hi.1 hi.2
 rw [e1]
 exact Res.fin z h h1 r
omit h in
theorem ykJ {n : ByteArray} {b : Int} (hb : qv q t l cs vs z n b = 0) : (0 ≤ YV vs n ∧ YV vs n < ((List.length vs : Nat) : Int)) ∧ yT q t l cs vs z = true := by
 unfold qv at hb
 have := vk vs n
 by_cases hc : yT q t l cs vs z = true ∧ Jz n = true
 ·rw [if_pos hc] at hb
  by_cases hv : YV vs n < 0
  ·rw [if_pos hv] at hb
   cases hb
  ·exact ⟨by omega, hc.1⟩
 ·rw [if_neg hc] at hb
  cases hb
theorem yi8 (n : ByteArray) (s : Int) (hn : n.size ≤ 60) : Res q t l cs vs z (wF (q, t, l, cs, vs, z, n, s)) := by
 have fin : ∀ (i : Int) (s : Int) (ok : Bool) (q' : List ye) (t' : List y0) (cs' : List y8), 0 ≤ i → i < (vs.length : Int) → SP q' t' l cs' vs → Res q t l cs vs z (if (0 : Int) ≤ i then if i < ((List.length vs : Nat) : Int) then yV (q, t, l, cs, vs, z, q', t', l, cs', List.set vs (Int.toNat i) ((yl vs i).1, (yl vs i).2.1, s, (yl vs i).2.2.2), z, ok) else none else none) := by
  intro i s ok q' t' cs' h0 h1 hS
  rw [if_pos h0, if_pos h1]
  refine Res.fin z h ⟨⟨hS.S.1, hS.S.2.1, hS.S.2.2.1, hS.S.2.2.2.1, hS.S.2.2.2.2.1, by rw [List.length_set]; exact h.S.2.2.2.2.2⟩, fun v hv => ?_⟩ ok
  rcases List.mem_or_eq_of_mem_set hv with hv | rfl
  ·exact h.N v hv
  ·exact h.N (yl vs i) (zA wQ vs i h0 h1)
 have loop : ∀ (k0 : Int × Int × Bool × List ye × List y0 × List ya × List y8 × List yf × Int × Int × Int × List ye × List y0 × List ya × List y8 × List yf → Option P7a) (k1 : Int × Int × Bool × List ye × List y0 × List ya × List y8 × List yf × Int × Int × List ye × List y0 × List ya × Int × List y8 × List yf → Option P7a) (s i b : Int) (ok : Bool) (y : Int), 0 ≤ i → i < (vs.length : Int) → b ≤ 1000 → -1000 ≤ b → 0 ≤ s →
   (∀ ok q' t' cs', SP q' t' l cs' vs → Res q t l cs vs z (k0 (s, i, ok, q, t, l, cs, vs, z, y, z, q', t', l, cs', vs))) →
   (∀ ok q' t' cs', SP q' t' l cs' vs → Res q t l cs vs z (k1 (s, i, ok, q, t, l, cs, vs, z, y, q', t', l, z, cs', vs))) →
   Res q t l cs vs z (Ws k0 k1 (Sum.inl (s, i, ok, b, q, t, l, cs, vs, z, y, z, q, t, l, cs, vs))) := by
  intro k0 k1 s i b ok y h0 h1 hb hb0 hs f0 f1
  unfold Ws
  refine ZL (step := Jb k0 k1) (fun u : Wr => match u with | .inl u => (u.2.2.2.1 + 1).toNat + 1 | .inr u => (u.2.2.2.1 + 1).toNat)
   (fun u => match u with
    | .inl u => ∃ b ok q' t' cs', b ≤ 1000 ∧ -1000 ≤ b ∧ SP q' t' l cs' vs ∧ u = (s, i, ok, b, q, t, l, cs, vs, z, y, z, q', t', l, cs', vs)
    | .inr u => ∃ b ok q' t' cs', b ≤ 1000 ∧ -1001 ≤ b ∧ SP q' t' l cs' vs ∧ u = (s, i, ok, b, q, t, l, cs, vs, z, y, q', t', l, z, cs', vs))
   (fun _ res => Res q t l cs vs z res) ?_ _ ⟨b, ok, q, t, cs, hb, hb0, h, rfl⟩ (by simp only; omega)
  intro again u hu hag
  cases u with
  | inl u =>
   obtain ⟨b, ok, q', t', cs', k1', k2', hS, rfl⟩ := hu
   unfold Jb
   simp only at hag ⊢
   by_cases hbs : b ≥ s
   ·cases ok with
    | false =>
     simp only [decide_eq_true hbs, cond_true, Option.bind_some, cond_false]
     exact f0 _ _ _ _ hS
    | true =>
     obtain ⟨r, q2, t2, cs2, e1, h2⟩ := y1q z hS i b h0 h1
     have hw : Go.IntKind.wrap .i64 (b - 1) = b - 1 := w64 (by omega) (by omega)
     simp only [decide_eq_true hbs, cond_true, Option.bind_some, e1, hw]
     exact hag _ ⟨b - 1, r, q2, t2, cs2, by omega, by omega, h2, rfl⟩ (by simp only; omega)
   ·simp only [decide_eq_false hbs, cond_false, Option.bind_some]
    exact f0 _ _ _ _ hS
  | inr u =>
   obtain ⟨b, ok, q', t', cs', k1', k2', hS, rfl⟩ := hu
   unfold Jb
   simp only at hag ⊢
   by_cases hbs : b ≥ s
   ·cases ok with
    | false =>
     simp only [decide_eq_true hbs, cond_true, Option.bind_some, cond_false]
     exact f1 _ _ _ _ hS
    | true =>
     obtain ⟨r, q2, t2, cs2, e1, h2⟩ := y1q z hS i b h0 h1
     have hw : Go.IntKind.wrap .i64 (b - 1) = b - 1 := w64 (by omega) (by omega)
     simp only [decide_eq_true hbs, cond_true, Option.bind_some, e1, hw]
     exact hag _ ⟨b - 1, r, q2, t2, cs2, by omega, by omega, h2, rfl⟩ (by simp only; omega)
   ·simp only [decide_eq_false hbs, cond_false, Option.bind_some]
    exact f1 _ _ _ _ hS
 unfold wF
 simp only [y05 z h n (y42 hn), qw z h, ZN q t l cs vs z _ h.S.2.2.2.2.2, Zg, Option.bind_some, ypY, ymF]
 cases hb : qv q t l cs vs z n 0 == 0 with
 | false =>
  have hne : (qv q t l cs vs z n 0 != 0) = true := by
   rw [bne, hb]
   rfl
  simp only [cond_false, Option.bind_some, hne, cond_true]
  exact Res.same z _
 | true =>
  have h0 : qv q t l cs vs z n 0 = 0 := by simpa using hb
  cases hs : inR s 1 12 with
  | false =>
   simp only [cond_true, Option.bind_some, Bool.not_false, show ((4 : Int) != 0) = true from rfl]
   exact Res.same z _
  | true =>
   have hne : (qv q t l cs vs z n 0 != 0) = false := by
    rw [bne, hb]
    rfl
   simp only [cond_true, Option.bind_some, Bool.not_true, cond_false, hne]
   obtain ⟨hi, hp⟩ := ykJ z h0
   rw [if_pos hi.1, if_pos hi.2]
   have hs' := YE.1 hs
   have hr : 1 ≤ (yl vs (YV vs n)).2.2.1 ∧ (yl vs (YV vs n)).2.2.1 ≤ 12 := by
    unfold yT at hp
    simp only [Bool.and_eq_true] at hp
    have hv := hp.2.2.2.2.2.1
    unfold vh at hv
    simp only [Bool.and_eq_true, Bool.not_eq_true'] at hv
    obtain ⟨j, hj⟩ := Vg _ vs 0 hv.1 _ (zA wQ vs _ hi.1 hi.2)
    unfold yif at hj
    simp only [Bool.or_eq_false_iff, Bool.not_eq_false', YE] at hj
    exact hj.2.1
   have hw : Go.IntKind.wrap .i64 ((yl vs (YV vs n)).2.2.1 - 1) = (yl vs (YV vs n)).2.2.1 - 1 := w64 (by omega) (by omega)
   rw [hw]
   exact loop _ _ s (YV vs n) _ true 0 hi.1 hi.2 (by omega) (by omega) (by omega) (fun ok q' t' cs' hS => fin _ s ok q' t' cs' hi.1 hi.2 hS) (fun ok q' t' cs' hS => fin _ s ok q' t' cs' hi.1 hi.2 hS)
end
end Go.Proofs.YthgdjjdigalckaaGreat.Pl
namespace Go.Proofs.YthgdjjdigalckaaGreat.Pl
open Go.Proofs.YthgdjjdigalckaaGreat.R Go.Proofs.YthgdjjdigalckaaGreat.XI
def y1C {A : Type} (q : List ye) (t : List y0) (l : List ya) (cs : List y8) (vs : List yf) (z : Int) (o : Option (List ye × List y0 × List ya × List y8 × List yf × Int × A)) : Prop :=
 ∃ q' t' l' cs' vs' z' c, o = some (q', t', l', cs', vs', z', c) ∧ (Tn q' t' l' cs' vs' ∨ (q', t', l', cs', vs', z') = (q, t, l, cs, vs, z))
section
variable {q : List ye} {t : List y0} {l : List ya} {cs : List y8} {vs : List yf} {z : Int}
theorem Res.a {o : Option P7a} (h : Res q t l cs vs z o) : y1C q t l cs vs z o := by
 obtain ⟨q', t', l', cs', vs', z', c, e, hc⟩ := h
 exact ⟨q', t', l', cs', vs', z', c, e, hc.imp y04 id⟩
theorem y1C.same {A : Type} (c : A) : y1C q t l cs vs z (some (q, t, l, cs, vs, z, c)) := ⟨_, _, _, _, _, _, c, rfl, .inr rfl⟩
theorem y1C.tn {A : Type} (c : A) {q' : List ye} {t' : List y0} {l' : List ya} {cs' : List y8} {vs' : List yf} {z' : Int} (h : Tn q' t' l' cs' vs') : y1C q t l cs vs z (some (q', t', l', cs', vs', z', c)) := ⟨_, _, _, _, _, _, c, rfl, .inl h⟩
theorem Tn.pack (h : Tn q t l cs vs) {i : Int} (h0 : 0 ≤ i) (h1 : i < (t.length : Int)) : Tn q (t.set i.toNat (Y9 (zt (yg t i)))) l cs vs := by
 refine ⟨h.ql, ⟨by rw [List.length_set]; exact h.T.len, fun n hn => ?_⟩, h.ll, h.cl, h.vl, h.N, by rw [List.length_set]; exact h.e, by rw [List.length_set]; exact h.p⟩
 rcases List.mem_or_eq_of_mem_set hn with hn | rfl
 ·exact h.T.node n hn
 ·exact QA (nk h.T h0 h1).keys
end
section
variable {q : List ye} {t : List y0} {l : List ya} {cs : List y8} {vs : List yf} (z : Int) (h : SP q t l cs vs)
include h
theorem yd6 (i : Int) : y1C q t l cs vs z (Zc (q, t, l, cs, vs, z, i)) := by
 unfold Zc
 simp only [qw z h, ZZ z h, Zg, Option.bind_some]
 cases hp : yT q t l cs vs z with
 | false =>
  simp only [Bool.not_false, cond_true, Option.bind_some]
  exact y1C.same _
 | true =>
  have hT := y04 hp
  simp only [Bool.not_true, cond_false, Option.bind_some]
  cases hi : inR i 0 (Go.IntKind.wrap .i64 (((List.length t : Nat) : Int) - (1 : Int))) with
  | false =>
   simp only [Bool.not_false, cond_true]
   exact y1C.same _
  | true =>
   have hl := hT.T.len
   have hw : Go.IntKind.wrap .i64 (((List.length t : Nat) : Int) - (1 : Int)) = ((List.length t : Nat) : Int) - 1 := w64 (by omega) (by omega)
   have hi2 := hi
   rw [hw, YE] at hi
   simp only [Bool.not_true, cond_false]
   unfold kC kB
   have hk := nk hT.T hi.1 (show i < (t.length : Int) by omega)
   simp only [Q6 q t h.S.1 h.S.2.1 (fun n hn => wM h.S.2.2.1 hn), Zg, hi2, Option.bind_some, cond_true]
   simp only [if_pos hi.1, if_pos (show i < ((List.length t : Nat) : Int) by omega), qu hT.T hi.1 (show i < (t.length : Int) by omega), wq (zt (yg t i)) (Nat.le_trans hk.keys (by decide)), Option.bind_some]
   exact y1C.tn _ (hT.pack hi.1 (by omega))
theorem ykK (i : Int) : ∃ a b c d e, kF (q, t, l, cs, vs, z, i) = some (a, b, c, d, e) := by
 have hq := h.tq
 have hk := yb5 t
 have hs3 := h.S.2.2.1
 unfold kF y13
 simp only [YF q t (by have := h.S.2.1; omega) (fun n hn => by have := (wM h.S.2.2.1 hn).1; omega) h.S.2.2.1, Option.bind_some]
 refine ZL (step := kE _ _) (fun u : kD => (Y3 t).length - u.2.1.toNat) (fun u => u.2.2.2.2.2.2.2 = Y3 t ∧ 0 ≤ u.2.1 ∧ u.2.1 ≤ (Y3 t).length) (fun _ (res : Option (Int × Int × Int × Int × Int)) => ∃ a b c d e : Int, res = some (a, b, c, d, e)) ?_ (i, 0, 0, 0, 0, 0, 0, Y3 t) ⟨rfl, Int.le_refl _, by simp⟩ (by simp only; omega)
 rintro again ⟨i1, j, a, b, c, d, e, ks⟩ ⟨e1, h0, h1⟩ hag
 simp only at e1 h0 h1 hag ⊢
 subst e1
 unfold kE
 simp only [Bool.cond_eq_ite, decide_eq_true_eq]
 by_cases hj : j < ((Y3 t).length : Int)
 ·have hw : Go.IntKind.wrap .i64 (j + 1) = j + 1 := w64 (by omega) (by omega)
  simp only [if_pos hj, if_pos h0, hw, Option.bind_some]
  split
  ·simp only [Option.bind_some]
   split
   ·exact ⟨_, _, _, _, _, rfl⟩
   ·exact hag _ ⟨rfl, by simp only; omega, by simp only; omega⟩ (by simp only; omega)
  ·simp only [Option.bind_some, Bool.false_eq_true, if_false]
   exact hag _ ⟨rfl, by simp only; omega, by simp only; omega⟩ (by simp only; omega)
 ·simp only [if_neg hj]
  exact ⟨_, _, _, _, _, rfl⟩
theorem yd7 (i : Int) : y1C q t l cs vs z (Zd (q, t, l, cs, vs, z, i)) := by
 unfold Zd
 simp only [qw z h, ZZ z h, Zg, Option.bind_some]
 cases hp : yT q t l cs vs z with
 | false =>
  simp only [Bool.not_false, cond_true, Option.bind_some]
  exact y1C.same _
 | true =>
  have hT := y04 hp
  have hcl := hT.cl
  simp only [Bool.not_true, cond_false, Option.bind_some]
  have hw : Go.IntKind.wrap .i64 (((List.length cs : Nat) : Int) - (1 : Int)) = ((List.length cs : Nat) : Int) - 1 := w64 (by omega) (by omega)
  rw [hw]
  cases hi : inR i 0 (((List.length cs : Nat) : Int) - 1) with
  | false =>
   simp only [Bool.not_false, cond_true, Option.bind_some]
   exact y1C.same _
  | true =>
   rw [YE] at hi
   simp only [Bool.not_true, cond_false, if_pos hi.1, if_pos (show i < ((List.length cs : Nat) : Int) by omega), Option.bind_some]
   obtain ⟨a, b, c, d, e, e1⟩ := ykK z h i
   obtain ⟨cs', j, u, e2, h1, h2⟩ := y2b cs (yp cs i).2.2 h.S.2.2.2.2.1
   have hq := h.tq
   have hT2 := Vx (a, b, c, j, (yp cs' j).1) hq
   have hc' : cs'.length ≤ 1048576 := by rw [h1]; exact h.S.2.2.2.2.1
   cases (yp cs i).2.1 with
   | false =>
    simp only [Bool.not_false, cond_true]
    exact y1C.same _
   | true =>
    simp only [Bool.not_true, cond_false, e1, e2, Option.bind_some]
    cases u with
    | false =>
     simp only [Bool.not_false, cond_true, Option.bind_some]
     exact y1C.same _
    | true =>
     have h3 := h2 rfl
     simp only [Bool.not_true, cond_false, Option.bind_some]
     cases decide (j > i) with
     | true =>
      simp only [cond_true]
      exact y1C.same _
     | false =>
      have hx : SP (yX q t (a, b, c, j, (yp cs' j).1)).1 (yX q t (a, b, c, j, (yp cs' j).1)).2.1 l (ya2 cs' i) vs := hT2.sp h h.S.2.2.2.1 (by rw [y31]; exact hc')
      simp only [cond_false, if_pos h3.1, if_pos (show j < ((List.length cs' : Nat) : Int) by rw [h1]; exact h3.2), jH q t a b c j (yp cs' j).1 hq.T hq.Q hq.q, Wz cs' i hc', ZZ z hx, Option.bind_some]
      cases (yX q t (a, b, c, j, (yp cs' j).1)).2.2 with
      | false =>
       simp only [Bool.not_false, cond_true, Option.bind_some]
       exact y1C.same _
      | true =>
       simp only [Bool.not_true, cond_false, Option.bind_some]
       cases hp2 : yT (yX q t (a, b, c, j, (yp cs' j).1)).1 (yX q t (a, b, c, j, (yp cs' j).1)).2.1 l (ya2 cs' i) vs z with
       | false =>
        simp only [Bool.not_false, cond_true]
        exact y1C.same _
       | true =>
        simp only [Bool.not_true, cond_false]
        exact y1C.tn _ (y04 hp2)
theorem ybL : y1C q t l cs vs z (Yb (q, t, l, cs, vs, z)) := by
 rw [y3r z h]
 have key : ypX (y7A q t l cs vs z).1 = true ∨ (y7A q t l cs vs z).1 = (q, t, l, cs, vs, z) := by
  unfold y7A
  split
  ·split
   ·exact .inr rfl
   ·unfold yqh
    split
    ·rename_i hh
     rw [Bool.and_eq_true] at hh
     exact .inl hh.2
    ·exact .inr rfl
  ·exact .inr rfl
 unfold yi1
 rcases key with hk | hk
 ·exact y1C.tn _ (y04 hk)
 ·rw [hk]
  exact y1C.same _
theorem ykL (k : Int) (n m : ByteArray) (a b : Int) (hn : n.size ≤ 60) (hm : m.size ≤ 60) : y1C q t l cs vs z (wc (q, t, l, cs, vs, z, k, n, m, a, b)) := by
 unfold wc vu
 simp only [ybn k n m a b (y42 hn) (y42 hm), ZZ z h, qw z h, Option.bind_some, ypY, yED, ymF]
 have key : ∀ u : Bool, y1C q t l cs vs z (bif u then some (q, t, l, cs, vs, z, (1 : Int)) else bif (k == (1 : Int)) then wA (q, t, l, cs, vs, z, n, a) else bif (k == (2 : Int)) then KG (q, t, l, cs, vs, z, n, m, (b == (1 : Int))) else bif (k == (3 : Int)) then jR (q, t, l, cs, vs, z, n) else bif (k == (4 : Int)) then WM (q, t, l, cs, vs, z, n, a, b) else bif (k == (5 : Int)) then Jl (q, t, l, cs, vs, z, n, a) else bif (k == (6 : Int)) then wF (q, t, l, cs, vs, z, n, a) else
   Option.bind (bif (k == (7 : Int)) then Yb (q, t, l, cs, vs, z) else bif (k == (8 : Int)) then Zc (q, t, l, cs, vs, z, a) else Zd (q, t, l, cs, vs, z, a)) fun r11 => bif (!r11.2.2.2.2.2.2) then some (r11.1, r11.2.1, r11.2.2.1, r11.2.2.2.1, r11.2.2.2.2.1, r11.2.2.2.2.2.1, (2 : Int)) else some (r11.1, r11.2.1, r11.2.2.1, r11.2.2.2.1, r11.2.2.2.2.1, r11.2.2.2.2.2.1, (0 : Int))) := by
  intro u
  refine Zi (P := y1C q t l cs vs z) _ (fun _ => y1C.same _) fun _ => Zi (P := y1C q t l cs vs z) _ (fun _ => (yi5 z h n a hn).a) fun _ => Zi (P := y1C q t l cs vs z) _ (fun _ => (ypZ z h n m _ hn hm).a) fun _ => Zi (P := y1C q t l cs vs z) _ (fun _ => (yi6 z h n hn).a) fun _ => Zi (P := y1C q t l cs vs z) _ (fun _ => (ykI z h n a b hn).a) fun _ => Zi (P := y1C q t l cs vs z) _ (fun _ => (yfq z h n a hn).a) fun _ => Zi (P := y1C q t l cs vs z) _ (fun _ => (yi8 z h n a hn).a) fun _ => ?_
  have hs : y1C q t l cs vs z (bif (k == (7 : Int)) then Yb (q, t, l, cs, vs, z) else bif (k == (8 : Int)) then Zc (q, t, l, cs, vs, z, a) else Zd (q, t, l, cs, vs, z, a)) :=
   Zi (P := y1C q t l cs vs z) _ (fun _ => ybL z h) fun _ => Zi (P := y1C q t l cs vs z) _ (fun _ => yd6 z h a) fun _ => yd7 z h a
  obtain ⟨q', t', l', cs', vs', z', c, e, hc⟩ := hs
  rw [e]
  cases c
  ·exact ⟨_, _, _, _, _, _, _, rfl, hc⟩
  ·exact ⟨_, _, _, _, _, _, _, rfl, hc⟩
 cases yEp k n m a b
 ·exact key true
 ·exact key _
end
end Go.Proofs.YthgdjjdigalckaaGreat.Pl
namespace Go.Proofs.YthgdjjdigalckaaGreat.Pl
open Go.Proofs.YthgdjjdigalckaaGreat.R Go.Proofs.YthgdjjdigalckaaGreat.XI
def y06 (o : Option (Int × Int × Int × Int × Int × List Int × Int × Int)) (c : List Int) : Prop := ∃ a b k d g p s, o = some (a, b, k, d, g, c, p, s) ∧ Yw c p
theorem y1D (c : List Int) (p s : Int) (h : Yw c p) : y06 (zU (c, p, s)) c := by
 obtain ⟨v1, p1, s1, e1, h1, q1⟩ := yZ c p s 4 h
 obtain ⟨v2, p2, s2, e2, h2, q2⟩ := yZ c p1 s1 5 h1
 obtain ⟨v3, p3, s3, e3, h3, q3⟩ := WQ c p2 s2 [0, 1, 1, 1, 2] (by simp) (by simp) h2
 obtain ⟨v4, p4, s4, e4, h4, q4⟩ := yZ c p3 s3 24 h3
 obtain ⟨v5, p5, s5, e5, h5, q5⟩ := WQ c p4 s4 [0, 1, 256, 999] (by simp) (by simp) h4
 unfold zU
 simp only [e1, e2, e3, e4, e5, Option.bind_some]
 exact yK (P := fun o => y06 o c) _ ⟨_, _, _, _, _, _, _, rfl, h5⟩ ⟨_, _, _, _, _, _, _, rfl, h3⟩
theorem yq0 (c : List Int) (p s : Int) (h : Yw c p) : y06 (vM (c, p, s)) c := by
 obtain ⟨a, b, k, d, g, p1, s1, e1, h1⟩ := y1D c p s h
 obtain ⟨v2, p2, s2, e2, h2, q2⟩ := yZ c p1 s1 12 h1
 obtain ⟨v3, p3, s3, e3, h3, q3⟩ := WQ c p2 s2 [-1, 15, 16] (by simp) (by simp) h2
 obtain ⟨v4, p4, s4, e4, h4, q4⟩ := WQ c p2 s2 [0, 60, 61] (by simp) (by simp) h2
 obtain ⟨v5, p5, s5, e5, h5, q5⟩ := WQ c p2 s2 [-1, 3] (by simp) (by simp) h2
 obtain ⟨v6, p6, s6, e6, h6, q6⟩ := WQ c p2 s2 [-1, 1, 23, 24] (by simp) (by simp) h2
 obtain ⟨v7, p7, s7, e7, h7, q7⟩ := WQ c p2 s2 [-1, 1, 999, 1000] (by simp) (by simp) h2
 unfold vM
 simp only [e1, e2, e3, e4, e5, e6, e7, Option.bind_some]
 exact yK (P := fun o => y06 o c) _ ⟨_, _, _, _, _, _, _, rfl, h3⟩ (yK (P := fun o => y06 o c) _ ⟨_, _, _, _, _, _, _, rfl, h4⟩ (yK (P := fun o => y06 o c) _ ⟨_, _, _, _, _, _, _, rfl, h5⟩ (yK (P := fun o => y06 o c) _ ⟨_, _, _, _, _, _, _, rfl, h6⟩ (yK (P := fun o => y06 o c) _ ⟨_, _, _, _, _, _, _, rfl, h7⟩ ⟨_, _, _, _, _, _, _, rfl, h2⟩))))
theorem yEF (c : List Int) (p s : Int) (h : Yw c p) : y06 (vL (c, p, s)) c := by
 obtain ⟨a, b, k, d, g, p1, s1, e1, h1⟩ := y1D c p s h
 obtain ⟨v2, p2, s2, e2, h2, q2⟩ := yZ c p1 s1 12 h1
 unfold vL
 simp only [e1, e2, Option.bind_some]
 exact ⟨_, _, _, _, _, _, _, rfl, h2⟩
theorem yq1 (c : List Int) (p s m : Int) (h : Yw c p) (m0 : 0 ≤ m) (m1 : m ≤ 100) : Ju (kT (c, p, s, m)) c (fun l => l.length ≤ 101) := by
 obtain ⟨v1, p1, s1, e1, h1, q1⟩ := yZ c p s (m + 1) h
 have b1 := q1.2 (by omega)
 unfold kT y18
 try simp only []
 rw [show Go.IntKind.wrap .i64 (m + 1) = m + 1 from w64 (by omega) (by omega), e1]
 simp only [Option.bind_some]
 refine ZL (step := kS _) (fun u : kR => u.1.toNat) (fun u => ∃ k l p s, u = (k, c, p, s, l) ∧ Yw c p ∧ 0 ≤ k ∧ (List.length l : Int) + k ≤ 101) (fun _ (res : Option (List y9 × List Int × Int × Int)) => Ju res c (fun l : List y9 => l.length ≤ 101)) ?_ (v1, c, p1, s1, []) ⟨v1, [], p1, s1, rfl, h1, q1.1, by simp; omega⟩ (by simp only; omega)
 rintro again _ ⟨k, l, p, s, rfl, hc, hk, hl⟩ hag
 unfold kS
 simp only [Bool.cond_eq_ite, decide_eq_true_eq]
 by_cases hk2 : k > 0
 ·obtain ⟨a, b, kk, d, g, p2, s2, e2, h2⟩ := y1D c p s hc
  have hs := WO l (a, b, kk, d, g)
  have hw : Go.IntKind.wrap .i64 (k - 1) = k - 1 := w64 (by omega) (by omega)
  simp only [if_pos hk2, e2, Option.bind_some, Wj l a b kk d g (by omega), hw]
  exact hag _ ⟨_, _, _, _, rfl, h2, by omega, by omega⟩ (by simp only; omega)
 ·simp only [if_neg hk2]
  exact ⟨_, _, _, rfl, hc, by simp only; omega⟩
theorem yfr (c : List Int) (p s m : Int) (h : Yw c p) (m0 : 0 ≤ m) (m1 : m ≤ 100) : Ju (vN (c, p, s, m)) c (fun l => l.length ≤ 102) := by
 obtain ⟨l, p1, s1, e1, h1, q1⟩ := yq1 c p s m h m0 m1
 obtain ⟨v2, p2, s2, e2, h2, q2⟩ := yZ c p1 s1 8 h1
 obtain ⟨a, b, k, d, g, p3, s3, e3, h3⟩ := yq0 c p2 s2 h2
 unfold vN
 simp only [e1, e2, e3, Option.bind_some]
 refine yK (P := fun o => Ju o c (fun l : List y9 => l.length ≤ 102)) _ ?_ (yK (P := fun o => Ju o c (fun l : List y9 => l.length ≤ 102)) _ (Zi (P := fun o => Ju o c (fun l : List y9 => l.length ≤ 102)) _ (fun hh => ?_) fun _ => ⟨_, _, _, rfl, h2, by omega⟩) ⟨_, _, _, rfl, h2, by omega⟩)
 ·rw [if_pos (by simp only [List.length_cons, List.length_nil]; omega)]
  exact ⟨_, _, _, rfl, h3, by simp only [List.length_append, List.length_cons, List.length_nil]; omega⟩
 ·have hh := of_decide_eq_true hh
  simp only [List.length_set, if_pos (Int.le_refl (0 : Int)), if_pos (show (0 : Int) < ((List.length l : Nat) : Int) by omega), if_pos (show (0 : Int) ≤ 1 by omega), if_pos (show (1 : Int) < ((List.length l : Nat) : Int) by omega)]
  exact ⟨_, _, _, rfl, h2, by simp only [List.length_set]; omega⟩
def Nsm (n : List y7) (a : Nat) (b : Int) : Prop := n.length ≤ a ∧ wO qy n ≤ b
theorem Nsm.ns {n : List y7} {a : Nat} {b : Int} (h : Nsm n a b) (ha : a ≤ 900) (hb : b ≤ 900) : NS n := ⟨Nat.le_trans h.1 (by omega), by have := h.2; omega⟩
theorem yd8 (n : List y7) (k : y9) (h : Nsm n 3 8) : Nsm (YC n k).1 3 8 := by
 unfold YC
 split
 ·rename_i hh
  exact ⟨(Jr hh).1, (Jr hh).2.1⟩
 ·split
  ·exact h
  ·split
   ·rename_i hh
    exact ⟨(Jr hh).1, (Jr hh).2.1⟩
   ·exact h
theorem ykM (c : List Int) (p s : Int) (h : Yw c p) : Ju (kQ (c, p, s)) c (fun n : List y7 => Nsm n 3 8) := by
 obtain ⟨v1, p1, s1, e1, h1, q1⟩ := yZ c p s 12 h
 have b1 := q1.2 (by omega)
 have z0 : Nsm [] 3 8 := ⟨by simp, by simp [wO]⟩
 unfold kQ y17
 rw [e1]
 simp only [Option.bind_some]
 refine ZL (step := wd _ _) (fun u : kP => match u with | .inl u => u.1.toNat | .inr u => u.1.toNat) (fun u => match u with | .inl u => ∃ k p s, u = (k, c, p, s) ∧ Yw c p ∧ 0 ≤ k ∧ k ≤ 100 | .inr u => ∃ k n p s, u = (k, c, p, s, n) ∧ Yw c p ∧ 0 ≤ k ∧ k ≤ 100 ∧ Nsm n 3 8) (fun _ (res : Option (List y7 × List Int × Int × Int)) => Ju res c (fun n : List y7 => Nsm n 3 8)) ?_ (Sum.inl (v1, c, p1, s1)) ⟨v1, p1, s1, rfl, h1, q1.1, by omega⟩ (by simp only; omega)
 intro again u hu hag
 have step : ∀ (k : Int) (n : List y7) (p s : Int), Yw c p → 0 ≤ k → k ≤ 100 → Nsm n 3 8 → k > 0 → (∀ k' n' p' s', Yw c p' → 0 ≤ k' → k' < k → Nsm n' 3 8 → Ju (again (Sum.inr (k', c, p', s', n'))) c (fun n : List y7 => Nsm n 3 8)) → Ju (Option.bind (zU (c, p, s)) fun r2 => Option.bind (YW (n, r2.1, r2.2.1, r2.2.2.1, r2.2.2.2.1, r2.2.2.2.2.1)) fun r3 => again (Sum.inr ((Go.IntKind.wrap .i64 (k - (1 : Int))), r2.2.2.2.2.2.1, r2.2.2.2.2.2.2.1, r2.2.2.2.2.2.2.2, r3.1))) c (fun n : List y7 => Nsm n 3 8) := by
  intro k n p s hc k0 k1 hn hk hag2
  obtain ⟨a, b, kk, d, g, p2, s2, e2, h2⟩ := y1D c p s hc
  have hw : Go.IntKind.wrap .i64 (k - 1) = k - 1 := w64 (by omega) (by omega)
  simp only [e2, Option.bind_some, y1o n a b kk d g (hn.ns (by omega) (by omega)), hw]
  exact hag2 _ _ _ _ h2 (by omega) (by omega) (yd8 n _ hn)
 cases u with
 | inl u =>
  obtain ⟨k, p, s, rfl, hc, k0, k1⟩ := hu
  unfold wd
  simp only [Bool.cond_eq_ite, decide_eq_true_eq]
  by_cases hk : k > 0
  ·simp only [if_pos hk]
   exact step k [] p s hc k0 k1 z0 hk fun k' n' p' s' g1 g2 g3 g4 => hag _ ⟨_, _, _, _, rfl, g1, g2, by omega, g4⟩ (by simp only; omega)
  ·simp only [if_neg hk]
   exact ⟨_, _, _, rfl, hc, z0⟩
 | inr u =>
  obtain ⟨k, n, p, s, rfl, hc, k0, k1, hn⟩ := hu
  unfold wd
  simp only [Bool.cond_eq_ite, decide_eq_true_eq]
  by_cases hk : k > 0
  ·simp only [if_pos hk]
   exact step k n p s hc k0 k1 hn hk fun k' n' p' s' g1 g2 g3 g4 => hag _ ⟨_, _, _, _, rfl, g1, g2, by omega, g4⟩ (by simp only; omega)
  ·simp only [if_neg hk]
   exact ⟨_, _, _, rfl, hc, hn⟩
theorem y6f (c : List Int) (p s : Int) (h : Yw c p) : Ju (WN (c, p, s)) c (fun n : List y7 => NS n) := by
 obtain ⟨n, p1, s1, e1, h1, q1⟩ := ykM c p s h
 obtain ⟨v2, p2, s2, e2, h2, q2⟩ := yZ c p1 s1 8 h1
 obtain ⟨l, p3, s3, e3, h3, q3⟩ := yfr c p2 s2 6 h2 (by omega) (by omega)
 obtain ⟨a, b, k, d, g, p4, s4, e4, h4⟩ := y1D c p2 s2 h2
 obtain ⟨a5, b5, k5, d5, g5, p5, s5, e5, h5⟩ := y1D c p4 s4 h4
 have hl := q1.1
 have hs := q1.2
 unfold WN
 simp only [e1, e2, e3, e4, e5, Option.bind_some]
 refine yK (P := fun o => Ju o c (fun n : List y7 => NS n)) _ ?_ (yK (P := fun o => Ju o c (fun n : List y7 => NS n)) _ ?_ ⟨_, _, _, rfl, h2, q1.ns (by omega) (by omega)⟩)
 ·rw [if_pos (by simp only [List.length_cons, List.length_nil]; omega)]
  refine ⟨_, _, _, rfl, h3, ⟨by rw [List.length_append]; simp only [List.length_cons, List.length_nil]; omega, ?_⟩⟩
  rw [y2Y]
  have : qy l = (List.length l : Int) := rfl
  omega
 ·rw [if_pos (by simp only [List.length_cons, List.length_nil]; omega)]
  refine ⟨_, _, _, rfl, h5, ⟨by rw [List.length_append]; simp only [List.length_cons, List.length_nil]; omega, ?_⟩⟩
  rw [show n ++ [[(a, b, k, d, g)], [(a5, b5, k5, d5, g5)]] = (n ++ [[(a, b, k, d, g)]]) ++ [[(a5, b5, k5, d5, g5)]] by simp, y2Y, y2Y]
  have e1 : qy [(a, b, k, d, g)] = 1 := rfl
  have e2 : qy [(a5, b5, k5, d5, g5)] = 1 := rfl
  omega
theorem yi9 (q : List ye) (t : List y0) (k : y9) (h : TS t ∧ q.length = t.length ∧ 1 ≤ t.length ∧ t.length ≤ 20) : TS (yX q t k).2.1 ∧ (yX q t k).1.length = (yX q t k).2.1.length ∧ 1 ≤ (yX q t k).2.1.length ∧ (yX q t k).2.1.length ≤ 20 := by
 unfold yX
 split
 ·split
  ·rename_i hj
   have h1 := wo hj
   exact ⟨y2Z hj, h1.1, h1.2.1, h1.2.2.1⟩
  ·exact h
 ·exact h
def y6g (o : Option (List ye × List y0 × List Int × Int × Int)) (c : List Int) (Q : List ye → List y0 → Prop) : Prop := ∃ q t p s, o = some (q, t, c, p, s) ∧ Yw c p ∧ Q q t
def yzc (q : List ye) (t : List y0) : Prop := TS t ∧ q.length = t.length ∧ 1 ≤ t.length ∧ t.length ≤ 20
theorem ykN (c : List Int) (p s m : Int) (h : Yw c p) (m0 : 0 ≤ m) (m1 : m ≤ 1000) : y6g (kO (c, p, s, m)) c yzc := by
 obtain ⟨v1, p1, s1, e1, h1, q1⟩ := yZ c p s (m + 1) h
 have b1 := q1.2 (by omega)
 have z0 : yzc [0] [[]] := ⟨⟨by simp, fun n hn => by
  rw [List.mem_singleton.1 hn]
  exact ⟨by simp, by simp [wO]⟩⟩, rfl, by simp, by simp⟩
 unfold kO y16 Jj
 simp only [Option.bind_some]
 try simp only []
 rw [show Go.IntKind.wrap .i64 (m + 1) = m + 1 from w64 (by omega) (by omega), e1]
 simp only [Option.bind_some]
 refine ZL (step := kN _) (fun u : kM => u.1.toNat) (fun u => ∃ k q t p s, u = (k, c, p, s, q, t) ∧ Yw c p ∧ 0 ≤ k ∧ k ≤ 1000 ∧ yzc q t) (fun _ (res : Option (List ye × List y0 × List Int × Int × Int)) => y6g res c yzc) ?_ (v1, c, p1, s1, [0], [[]]) ⟨v1, _, _, p1, s1, rfl, h1, q1.1, by omega, z0⟩ (by simp only; omega)
 rintro again _ ⟨k, q, t, p, s, rfl, hc, k0, k1, hT⟩ hag
 unfold kN
 simp only [Bool.cond_eq_ite, decide_eq_true_eq]
 by_cases hk : k > 0
 ·obtain ⟨a, b, kk, d, g, p2, s2, e2, h2⟩ := yEF c p s hc
  have hw : Go.IntKind.wrap .i64 (k - 1) = k - 1 := w64 (by omega) (by omega)
  have hq := hT.1.tq (q := q) (by have := hT.2.1; have := hT.2.2.2; omega)
  simp only [if_pos hk, e2, Option.bind_some, jH q t a b kk d g hq.T hq.Q hq.q, hw]
  exact hag _ ⟨_, _, _, _, _, rfl, h2, by omega, by omega, yi9 q t _ hT⟩ (by simp only; omega)
 ·simp only [if_neg hk]
  exact ⟨_, _, _, _, rfl, hc, hT⟩
theorem yd9 (c : List Int) (p s m : Int) (h : Yw c p) (m0 : 0 ≤ m) (m1 : m ≤ 1000) : y6g (vO (c, p, s, m)) c TQ := by
 obtain ⟨q, t, p1, s1, e1, h1, q1⟩ := ykN c p s m h m0 m1
 obtain ⟨v2, p2, s2, e2, h2, q2⟩ := yZ c p1 s1 12 h1
 obtain ⟨v3, p3, s3, e3, h3, q3⟩ := yZ c p2 s2 (q.length : Int) h2
 obtain ⟨v4, p4, s4, e4, h4, q4⟩ := WQ c p3 s3 [0, -1, 1, 300] (by simp) (by simp) h3
 obtain ⟨n5, p5, s5, e5, h5, q5⟩ := y6f c p2 s2 h2
 obtain ⟨v6, p6, s6, e6, h6, q6⟩ := yZ c p2 s2 (t.length : Int) h2
 obtain ⟨n7, p7, s7, e7, h7, q7⟩ := y6f c p6 s6 h6
 obtain ⟨hT, hql, t1, t2⟩ := q1
 have b3 := q3.2 (by omega)
 have b6 := q6.2 (by omega)
 unfold vO
 simp only [e1, e2, e3, e4, e5, e6, e7, Option.bind_some]
 refine yK (P := fun o => y6g o c TQ) _ ?_ (yK (P := fun o => y6g o c TQ) _ ?_ (yK (P := fun o => y6g o c TQ) _ ?_ (yK (P := fun o => y6g o c TQ) _ ?_ ?_)))
 ·rw [if_pos q3.1, if_pos b3]
  exact ⟨_, _, _, _, rfl, h4, hT.tq (by rw [List.length_set]; omega)⟩
 ·rw [if_pos (by simp only [List.length_cons, List.length_nil]; omega)]
  refine ⟨_, _, _, _, rfl, h5, TS.tq ⟨by rw [List.length_append]; simp only [List.length_cons, List.length_nil]; omega, fun n hn => ?_⟩ (by omega)⟩
  rcases List.mem_append.1 hn with hn | hn
  ·exact hT.node n hn
  ·rw [List.mem_singleton.1 hn]
   exact q5
 ·rw [if_pos q6.1, if_pos b6]
  refine ⟨_, _, _, _, rfl, h7, TS.tq ⟨by rw [List.length_set]; omega, fun n hn => ?_⟩ (by omega)⟩
  rcases List.mem_or_eq_of_mem_set hn with hn | rfl
  ·exact hT.node n hn
  ·exact q7
 ·exact ⟨_, _, _, _, rfl, h2, TS.tq ⟨by simp, fun n hn => by cases hn⟩ (by simp)⟩
 ·exact ⟨_, _, _, _, rfl, h2, hT.tq (by omega)⟩
end Go.Proofs.YthgdjjdigalckaaGreat.Pl
namespace Go.Proofs.YthgdjjdigalckaaGreat.Pl
open Go.Proofs.YthgdjjdigalckaaGreat.R Go.Proofs.YthgdjjdigalckaaGreat.XI
theorem yia (c : List Int) (p s n : Int) (h : Yw c p) : Ju (wH (c, p, s, n)) c (fun _ => True) := by
 obtain ⟨v, p1, s1, e1, h1, q1⟩ := yZ c p s n h
 unfold wH
 rw [e1]
 exact ⟨_, _, _, rfl, h1, trivial⟩
abbrev AL : Type := List ya × List Int × Int × Int
theorem ykO (c : List Int) (p s : Int) (h : Yw c p) : Ju (kW (c, p, s)) c (fun l : List ya => l.length ≤ 8) := by
 obtain ⟨v1, p1, s1, e1, h1, q1⟩ := yZ c p s 8 h
 have b1 := q1.2 (by omega)
 unfold kW y19
 rw [e1]
 simp only [Option.bind_some]
 refine ZL (step := kV _) (fun u : kU => u.1.toNat) (fun u => ∃ k l p s, u = (k, c, p, s, l) ∧ Yw c p ∧ 0 ≤ k ∧ (List.length l : Int) + k ≤ 8) (fun _ (res : Option AL) => Ju res c (fun l : List ya => l.length ≤ 8)) ?_ (v1, c, p1, s1, []) ⟨v1, [], p1, s1, rfl, h1, q1.1, by simp; omega⟩ (by simp only; omega)
 rintro again _ ⟨k, l, p, s, rfl, hc, hk, hl⟩ hag
 unfold kV
 simp only [Bool.cond_eq_ite, decide_eq_true_eq]
 by_cases hk2 : k > 0
 ·have hw : Go.IntKind.wrap .i64 (k - 1) = k - 1 := w64 (by omega) (by omega)
  have step : ∀ (p s id fr : Int), Yw c p → Ju (Option.bind (Y7 (l, id, fr)) fun r => again (k - 1, c, p, s, r.1)) c (fun l : List ya => l.length ≤ 8) := fun p s id fr hp => by
   obtain ⟨l', b, e2, h2⟩ := y32 l id fr (by omega)
   rw [e2]
   exact hag (k - 1, c, p, s, l') ⟨k - 1, l', p, s, rfl, hp, by omega, by omega⟩ (by simp only; omega)
  obtain ⟨v2, p2, s2, e2, h2, _⟩ := yia c p s 4 hc
  obtain ⟨v3, p3, s3, e3, h3, q3⟩ := yZ c p2 s2 (l.length : Int) h2
  obtain ⟨v4, p4, s4, e4, h4, _⟩ := yZ c p3 s3 8 h3
  obtain ⟨v6, p6, s6, e6, h6, _⟩ := yZ c p2 s2 8 h2
  obtain ⟨v8, p8, s8, e8, h8, _⟩ := yZ c p s 8 hc
  simp only [if_pos hk2, hw, e2, e3, e6, e8, Option.bind_some]
  split
  ·rename_i hlen
   split
   ·rw [if_pos q3.1, if_pos (q3.2 hlen), e4]
    exact step _ _ _ _ h4
   ·exact step _ _ _ _ h6
  ·exact step _ _ _ _ h8
 ·simp only [if_neg hk2]
  exact ⟨_, _, _, rfl, hc, by simp only; omega⟩
theorem yda (c : List Int) (p s : Int) (h : Yw c p) : Ju (vP (c, p, s)) c (fun l : List ya => l.length ≤ 100) := by
 obtain ⟨l, p1, s1, e1, h1, q1⟩ := ykO c p s h
 obtain ⟨v2, p2, s2, e2, h2, q2⟩ := yZ c p1 s1 8 h1
 obtain ⟨v3, p3, s3, e3, h3, q3⟩ := WQ c p2 s2 [0, 3, 60, 61] (by simp) (by simp) h2
 obtain ⟨v4, p4, s4, e4, h4, q4⟩ := WQ c p3 s3 [0, 1, 9, -1] (by simp) (by simp) h3
 obtain ⟨v5, p5, s5, e5, h5, q5⟩ := WQ c p2 s2 [1, 2, 3] (by simp) (by simp) h2
 unfold vP
 simp only [e1, e2, e3, e4, e5, Option.bind_some]
 refine yK (P := fun o => Ju o c (fun l : List ya => l.length ≤ 100)) _ ?_ (yK (P := fun o => Ju o c (fun l : List ya => l.length ≤ 100)) _ (Zi (P := fun o => Ju o c (fun l : List ya => l.length ≤ 100)) _ (fun hh => ?_) fun _ => ⟨_, _, _, rfl, h2, by omega⟩) (yK (P := fun o => Ju o c (fun l : List ya => l.length ≤ 100)) _ ?_ ⟨_, _, _, rfl, h2, by omega⟩))
 ·rw [if_pos (by simp only [List.length_cons, List.length_nil]; omega)]
  exact ⟨_, _, _, rfl, h4, by simp only [List.length_append, List.length_cons, List.length_nil]; omega⟩
 ·have hh := of_decide_eq_true hh
  rw [if_pos (Int.le_refl _), if_pos (show (0 : Int) < ((List.length l : Nat) : Int) by omega)]
  exact ⟨_, _, _, rfl, h5, by simp only [List.length_set]; omega⟩
 ·unfold y1a
  refine ZL (step := kY _) (fun u : kX => (14 - u.1).toNat) (fun u => ∃ k l p s, u = (k, c, p, s, l) ∧ Yw c p ∧ 0 ≤ k ∧ k ≤ 14 ∧ (List.length l : Int) ≤ 8 + k) (fun _ (res : Option AL) => Ju res c (fun l : List ya => l.length ≤ 100)) ?_ (0, c, p2, s2, l) ⟨0, l, p2, s2, rfl, h2, Int.le_refl _, by omega, by omega⟩ (by simp only; omega)
  rintro again _ ⟨k, l, p, s, rfl, hc, k0, k1, hl⟩ hag
  unfold kY
  simp only [Bool.cond_eq_ite, decide_eq_true_eq]
  by_cases hk2 : k < 14
  ·have hw : Go.IntKind.wrap .i64 (k + 1) = k + 1 := w64 (by omega) (by omega)
   simp only [if_pos hk2, hw, List.length_cons, List.length_nil]
   rw [if_pos (by omega)]
   exact hag _ ⟨_, _, _, _, rfl, hc, by omega, by omega, by simp only [List.length_append, List.length_cons, List.length_nil]; omega⟩ (by simp only; omega)
  ·simp only [if_neg hk2]
   exact ⟨_, _, _, rfl, hc, by simp only; omega⟩
abbrev CL : Type := List y8 × List Int × Int × Int
theorem yib (c : List Int) (p s : Int) (h : Yw c p) : Ju (K1 (c, p, s)) c (fun l : List y8 => l.length = 24) := by
 obtain ⟨v1, p1, s1, e1, h1, q1⟩ := yZ c p s 30 h
 have b1 := q1.2 (by omega)
 unfold K1 y1b jr
 rw [if_pos (by omega), if_pos (by omega), if_pos (by decide)]
 simp only [Option.bind_some]
 rw [e1]
 simp only [Option.bind_some]
 refine ZL (step := K0 _) (fun u : kZ => u.1.toNat) (fun u => ∃ k l p s, u = (k, c, p, s, l) ∧ Yw c p ∧ 0 ≤ k ∧ k ≤ 30 ∧ List.length l = 24) (fun _ (res : Option CL) => Ju res c (fun l : List y8 => l.length = 24)) ?_ (v1, c, p1, s1, List.replicate (Int.toNat (24 : Int)) Z4) ⟨v1, _, p1, s1, rfl, h1, q1.1, by omega, by simp⟩ (by simp only; omega)
 rintro again _ ⟨k, l, p, s, rfl, hc, k0, k1, hl⟩ hag
 unfold K0
 simp only [Bool.cond_eq_ite, decide_eq_true_eq]
 by_cases hk2 : k > 0
 ·have hw : Go.IntKind.wrap .i64 (k - 1) = k - 1 := w64 (by omega) (by omega)
  obtain ⟨v2, p2, s2, e2, h2, _⟩ := yia c p s 3 hc
  obtain ⟨v3, p3, s3, e3, h3, q3⟩ := yZ c p2 s2 6 h2
  obtain ⟨v4, p4, s4, e4, h4, q4⟩ := WQ c p2 s2 [0, 5, 65535] (by simp) (by simp) h2
  obtain ⟨l', i, b, e5, h5, _⟩ := y2b l v4 (by omega)
  simp only [if_pos hk2, hw, e2, e3, e4, e5, Option.bind_some, Wz l v3 (by omega)]
  split
  ·exact hag _ ⟨_, _, _, _, rfl, h3, by omega, by omega, by rw [y31]; exact hl⟩ (by simp only; omega)
  ·exact hag _ ⟨_, _, _, _, rfl, h4, by omega, by omega, by rw [h5]; exact hl⟩ (by simp only; omega)
 ·simp only [if_neg hk2]
  exact ⟨_, _, _, rfl, hc, hl⟩
theorem ybM (c : List Int) (p s : Int) (h : Yw c p) : Ju (vQ (c, p, s)) c (fun l : List y8 => l.length ≤ 24) := by
 obtain ⟨l, p1, s1, e1, h1, q1⟩ := yib c p s h
 obtain ⟨v2, p2, s2, e2, h2, q2⟩ := yZ c p1 s1 10 h1
 obtain ⟨v3, p3, s3, e3, h3, q3⟩ := yZ c p2 s2 (l.length : Int) h2
 obtain ⟨v4, p4, s4, e4, h4, q4⟩ := WQ c p3 s3 [-1, 999, 1000] (by simp) (by simp) h3
 obtain ⟨v5, p5, s5, e5, h5, q5⟩ := WQ c p3 s3 [-1, 5, 65536] (by simp) (by simp) h3
 have b3 := q3.2 (by omega)
 unfold vQ
 simp only [e1, e2, e3, e4, e5, Option.bind_some]
 refine yK (P := fun o => Ju o c (fun l : List y8 => l.length ≤ 24)) _ ?_ (yK (P := fun o => Ju o c (fun l : List y8 => l.length ≤ 24)) _ ?_ (yK (P := fun o => Ju o c (fun l : List y8 => l.length ≤ 24)) _ ?_ (yK (P := fun o => Ju o c (fun l : List y8 => l.length ≤ 24)) _ ?_ ⟨_, _, _, rfl, h2, by omega⟩)))
 ·rw [if_pos (by omega), if_pos (by omega), if_pos (by omega)]
  exact ⟨_, _, _, rfl, h2, by simp only [List.length_drop, List.length_take]; omega⟩
 ·rw [if_pos q3.1, if_pos b3]
  exact ⟨_, _, _, rfl, h4, by simp only [List.length_set]; omega⟩
 ·rw [if_pos q3.1, if_pos b3]
  exact ⟨_, _, _, rfl, h5, by simp only [List.length_set]; omega⟩
 ·rw [if_pos (by omega), if_pos (by omega)]
  exact ⟨_, _, _, rfl, h2, by simp only [List.length_set]; omega⟩
def QC (o : Option (List ye × List y0 × List ya × List y8 × List yf × Int × List Int × Int × Int)) (c : List Int) (Q : List ye → List y0 → List ya → List y8 → List yf → Prop) : Prop := ∃ q t l cs vs z p s, o = some (q, t, l, cs, vs, z, c, p, s) ∧ Yw c p ∧ Q q t l cs vs
theorem Tn0 : Tn [0] [[]] [] (List.replicate (Int.toNat (24 : Int)) Z4) [] := by
 have hT : TS [[]] := ⟨by simp, fun n hn => by
  rw [List.mem_singleton.1 hn]
  exact ⟨by simp, by simp [wO]⟩⟩
 have hN : ∀ v ∈ ([] : List yf), ByteArray.size v.1 ≤ 60 := fun v hv => nomatch hv
 exact ⟨by simp, hT, by simp, by simp, by simp, hN, rfl, by simp⟩
theorem ybN (c : List Int) (p s m : Int) (h : Yw c p) (m0 : 0 ≤ m) (m1 : m ≤ 1000) : QC (Jm (c, p, s, m)) c Tn := by
 obtain ⟨v1, p1, s1, e1, h1, q1⟩ := yZ c p s (m + 1) h
 have b1 := q1.2 (by omega)
 unfold Jm y0l vr Jj jr
 rw [if_pos (by omega), if_pos (by omega), if_pos (by decide)]
 simp only [Option.bind_some]
 rw [show Go.IntKind.wrap .i64 (m + 1) = m + 1 from w64 (by omega) (by omega), e1]
 simp only [Option.bind_some]
 refine ZL (step := Jd _ _) (fun u : Wt => match u with | .inl u => u.1.toNat | .inr u => u.1.toNat) (fun u => match u with | .inl u => ∃ k y q t l cs vs z p s, u = (k, c, p, s, y, z, q, t, l, cs, vs) ∧ Yw c p ∧ 0 ≤ k ∧ k ≤ 1000 ∧ Tn q t l cs vs | .inr u => ∃ k y q t l cs vs z p s, u = (k, c, p, s, y, q, t, l, z, cs, vs) ∧ Yw c p ∧ 0 ≤ k ∧ k ≤ 1000 ∧ Tn q t l cs vs) (fun _ (res : Option (List ye × List y0 × List ya × List y8 × List yf × Int × List Int × Int × Int)) => QC res c Tn) ?_ _ ⟨v1, 0, _, _, _, _, _, 1, p1, s1, rfl, h1, q1.1, by omega, Tn0⟩ (by simp only; omega)
 intro again u hu hag
 have step : ∀ (k y : Int) q t l cs vs (z p s : Int), Yw c p → 0 ≤ k → k ≤ 1000 → Tn q t l cs vs → k > 0 → (∀ k' q' t' l' cs' vs' z' p' s', Yw c p' → 0 ≤ k' → k' < k → Tn q' t' l' cs' vs' → QC (again (Sum.inr (k', c, p', s', y, q', t', l', z', cs', vs'))) c Tn) → QC (Option.bind (ZT (c, p, s)) fun r3 => Option.bind (wc (q, t, l, cs, vs, z, r3.1, r3.2.1, r3.2.2.1, r3.2.2.2.1, r3.2.2.2.2.1)) fun r4 => again (Sum.inr ((Go.IntKind.wrap .i64 (k - (1 : Int))), r3.2.2.2.2.2.1, r3.2.2.2.2.2.2.1, r3.2.2.2.2.2.2.2, y, r4.1, r4.2.1, r4.2.2.1, r4.2.2.2.2.2.1, r4.2.2.2.1, r4.2.2.2.2.1))) c Tn := by
  intro k y q t l cs vs z p s hc k0 k1 hT hk hag2
  obtain ⟨kd, n, m, a, b, p2, s2, e2, h2, hn, hm⟩ := yEC c p s hc
  obtain ⟨q', t', l', cs', vs', z', cc, e3, h3⟩ := ykL z hT.sp kd n m a b hn hm
  have hw : Go.IntKind.wrap .i64 (k - 1) = k - 1 := w64 (by omega) (by omega)
  simp only [e2, e3, Option.bind_some, hw]
  refine hag2 _ _ _ _ _ _ _ _ _ h2 (by omega) (by omega) ?_
  rcases h3 with h3 | h3
  ·exact h3
  ·simp only [Prod.mk.injEq] at h3
   obtain ⟨rfl, rfl, rfl, rfl, rfl, rfl⟩ := h3
   exact hT
 cases u with
 | inl u =>
  obtain ⟨k, y, q, t, l, cs, vs, z, p, s, rfl, hc, k0, k1, hT⟩ := hu
  unfold Jd
  simp only [Bool.cond_eq_ite, decide_eq_true_eq]
  by_cases hk : k > 0
  ·simp only [if_pos hk]
   exact step k y q t l cs vs z p s hc k0 k1 hT hk fun k' q' t' l' cs' vs' z' p' s' g1 g2 g3 g4 => hag _ ⟨_, _, _, _, _, _, _, _, _, _, rfl, g1, g2, by omega, g4⟩ (by simp only; omega)
  ·simp only [if_neg hk]
   exact ⟨_, _, _, _, _, _, _, _, rfl, hc, hT⟩
 | inr u =>
  obtain ⟨k, y, q, t, l, cs, vs, z, p, s, rfl, hc, k0, k1, hT⟩ := hu
  unfold Jd
  simp only [Bool.cond_eq_ite, decide_eq_true_eq]
  by_cases hk : k > 0
  ·simp only [if_pos hk]
   exact step k y q t l cs vs z p s hc k0 k1 hT hk fun k' q' t' l' cs' vs' z' p' s' g1 g2 g3 g4 => hag _ ⟨_, _, _, _, _, _, _, _, _, _, rfl, g1, g2, by omega, g4⟩ (by simp only; omega)
  ·simp only [if_neg hk]
   exact ⟨_, _, _, _, _, _, _, _, rfl, hc, hT⟩
theorem y1r (c : List Int) (p s m : Int) (h : Yw c p) (m0 : 0 ≤ m) (m1 : m ≤ 1000) : QC (jV (c, p, s, m)) c SP := by
 obtain ⟨q, t, l, cs, vs, z, p1, s1, e1, h1, hT⟩ := ybN c p s m h m0 m1
 obtain ⟨v2, p2, s2, e2, h2, _⟩ := yZ c p1 s1 20 h1
 obtain ⟨q3, t3, p3, s3, e3, h3, hq3⟩ := yd9 c p2 s2 6 h2 (by omega) (by omega)
 obtain ⟨l4, p4, s4, e4, h4, hl4⟩ := yda c p2 s2 h2
 obtain ⟨c5, p5, s5, e5, h5, hc5⟩ := ybM c p2 s2 h2
 obtain ⟨v6, p6, s6, e6, h6, hv6⟩ := yi3 c p2 s2 [{ data := #[97] }, { data := #[122, 122] }, { data := #[65] }] (by simp) (by simp) (by decide) h2
 obtain ⟨v7, p7, s7, e7, h7, _⟩ := yZ c p6 s6 4 h6
 obtain ⟨v8, p8, s8, e8, h8, _⟩ := WQ c p7 s7 [0, 1, 13] (by simp) (by simp) h7
 obtain ⟨v9, p9, s9, e9, h9, _⟩ := WQ c p2 s2 [0, 1, 60, 61, 62] (by simp) (by simp) h2
 obtain ⟨vA, pA, sA, eA, hA, qA⟩ := yZ c p2 s2 (cs.length : Int) h2
 obtain ⟨vB, pB, sB, eB, hB, _⟩ := yZ c p2 s2 6 h2
 have hS := hT.sp
 have hcl := hT.cl
 have hvl := hT.vl
 have bA := qA.2 (by omega)
 unfold jV
 simp only [e1, e2, e3, e4, e5, e6, e7, e8, e9, eA, eB, Option.bind_some]
 refine yK (P := fun o => QC o c SP) _ ?_ (yK (P := fun o => QC o c SP) _ ?_ (yK (P := fun o => QC o c SP) _ ?_ (yK (P := fun o => QC o c SP) _ ?_ (yK (P := fun o => QC o c SP) _ ?_ (yK (P := fun o => QC o c SP) _ ?_ (yK (P := fun o => QC o c SP) _ (Zi (P := fun o => QC o c SP) _ (fun hh => ?_) fun _ => ?_) ?_))))))
 ·exact ⟨_, _, _, _, _, _, _, _, rfl, h3, hq3.sp hS hS.S.2.2.2.1 hS.S.2.2.2.2.1⟩
 ·exact ⟨_, _, _, _, _, _, _, _, rfl, h4, hS.tq.sp hS (by omega) hS.S.2.2.2.2.1⟩
 ·exact ⟨_, _, _, _, _, _, _, _, rfl, h5, hS.tq.sp hS hS.S.2.2.2.1 (by omega)⟩
 ·rw [if_pos (by simp only [List.length_cons, List.length_nil]; omega)]
  refine ⟨_, _, _, _, _, _, _, _, rfl, h8, SP.of hS.tq hS.S.2.2.2.1 hS.S.2.2.2.2.1 (by simp only [List.length_append, List.length_cons, List.length_nil]; omega) fun v hv => ?_⟩
  rcases List.mem_append.1 hv with hv | hv
  ·exact hS.N v hv
  ·rw [List.mem_singleton.1 hv]
   exact y42 hv6
 ·exact ⟨_, _, _, _, _, _, _, _, rfl, h9, hS⟩
 ·rw [if_pos qA.1, if_pos bA]
  exact ⟨_, _, _, _, _, _, _, _, rfl, hA, hS.tq.sp hS hS.S.2.2.2.1 (by rw [List.length_set]; omega)⟩
 ·have hh := of_decide_eq_true hh
  rw [if_pos (Int.le_refl _), if_pos (show (0 : Int) < ((List.length vs : Nat) : Int) by omega)]
  refine ⟨_, _, _, _, _, _, _, _, rfl, hB, SP.of hS.tq hS.S.2.2.2.1 hS.S.2.2.2.2.1 (by rw [List.length_set]; omega) fun v hv => ?_⟩
  rcases List.mem_or_eq_of_mem_set hv with hv | rfl
  ·exact hS.N v hv
  ·exact hS.N (yl vs 0) (zA wQ vs 0 (Int.le_refl _) (by omega))
 ·exact ⟨_, _, _, _, _, _, _, _, rfl, h2, hS⟩
 ·exact ⟨_, _, _, _, _, _, _, _, rfl, h2, hS⟩
theorem ydb (x : List Int) (m : Int) (hx : x.length ≤ 1099511627776) (hm : 3 ≤ m) : ∃ n, jS (x, m) = some n ∧ 0 ≤ n ∧ n ≤ m := by
 unfold jS
 have hd : Int.tdiv ((List.length x : Nat) : Int) 12 = ((List.length x : Nat) : Int) / 12 := Int.tdiv_eq_ediv_of_nonneg (by omega)
 simp only [hd]
 rw [show Go.IntKind.wrap .i64 (((List.length x : Nat) : Int) / 12) = ((List.length x : Nat) : Int) / 12 from w64 (by omega) (by omega), show Go.IntKind.wrap .i64 (3 + ((List.length x : Nat) : Int) / 12) = 3 + ((List.length x : Nat) : Int) / 12 from w64 (by omega) (by omega)]
 by_cases h : 3 + ((List.length x : Nat) : Int) / 12 > m
 ·rw [decide_eq_true h]
  exact ⟨_, rfl, by omega, Int.le_refl _⟩
 ·rw [decide_eq_false h]
  exact ⟨_, rfl, by omega, by omega⟩
def y6h (o : Option (List ye × List y0 × List ya × List y8 × List yf × Int)) : Prop := ∃ q t l cs vs z, o = some (q, t, l, cs, vs, z) ∧ SP q t l cs vs
theorem yic (x : List Int) (hx : x.length ≤ 1099511627776) : y6h (We x) := by
 obtain ⟨s0, e0⟩ := yhg x hx
 obtain ⟨m, e1, m0, m1⟩ := ydb x 24 hx (by omega)
 obtain ⟨q, t, l, cs, vs, z, p3, s3, e3, h3, hS⟩ := y1r x 0 s0 (6 + m) (yEo x hx) (by omega) (by omega)
 obtain ⟨v4, p4, s4, e4, h4, q4⟩ := yZ x p3 s3 3 h3
 have b4 := q4.2 (by omega)
 unfold We y0m
 simp only [e0, e1, Option.bind_some]
 rw [show Go.IntKind.wrap .i64 (6 + m) = 6 + m from w64 (by omega) (by omega)]
 simp only [e3, e4, Option.bind_some]
 refine ZL (step := Je _ _) (fun u : Wu => match u with | .inl u => u.1.toNat | .inr u => u.1.toNat) (fun u => match u with | .inl u => ∃ k y q t l cs vs z p s, u = (k, y, x, p, s, q, t, l, cs, z, vs) ∧ Yw x p ∧ 0 ≤ k ∧ k ≤ 1000 ∧ SP q t l cs vs | .inr u => ∃ k y q t l cs vs z p s, u = (k, y, x, p, s, q, t, l, z, cs, vs) ∧ Yw x p ∧ 0 ≤ k ∧ k ≤ 1000 ∧ SP q t l cs vs) (fun _ (res : Option (List ye × List y0 × List ya × List y8 × List yf × Int)) => y6h res) ?_ _ ⟨v4, 0, _, _, _, _, _, z, p4, s4, rfl, h4, q4.1, by omega, hS⟩ (by simp only; omega)
 intro again u hu hag
 have step : ∀ (k y : Int) q t l cs vs (z p s : Int), Yw x p → 0 ≤ k → k ≤ 1000 → SP q t l cs vs → k > 0 → (∀ k' q' t' l' cs' vs' z' p' s', Yw x p' → 0 ≤ k' → k' < k → SP q' t' l' cs' vs' → y6h (again (Sum.inr (k', y, x, p', s', q', t', l', z', cs', vs')))) → y6h (Option.bind (zT (x, p, s)) fun r5 => Option.bind (jR (q, t, l, cs, vs, z, r5.1)) fun r6 => again (Sum.inr ((Go.IntKind.wrap .i64 (k - (1 : Int))), y, r5.2.1, r5.2.2.1, r5.2.2.2, r6.1, r6.2.1, r6.2.2.1, r6.2.2.2.2.2.1, r6.2.2.2.1, r6.2.2.2.2.1))) := by
  intro k y q t l cs vs z p s hc k0 k1 hS hk hag2
  obtain ⟨n, p2, s2, e2, h2, hn⟩ := yi4 x p s hc
  obtain ⟨q', t', l', cs', vs', z', cc, e3, h3⟩ := yi6 z hS n hn
  have hw : Go.IntKind.wrap .i64 (k - 1) = k - 1 := w64 (by omega) (by omega)
  simp only [e2, e3, Option.bind_some, hw]
  refine hag2 _ _ _ _ _ _ _ _ _ h2 (by omega) (by omega) ?_
  rcases h3 with h3 | h3
  ·exact (y04 h3).sp
  ·simp only [Prod.mk.injEq] at h3
   obtain ⟨rfl, rfl, rfl, rfl, rfl, rfl⟩ := h3
   exact hS
 cases u with
 | inl u =>
  obtain ⟨k, y, q, t, l, cs, vs, z, p, s, rfl, hc, k0, k1, hS⟩ := hu
  unfold Je
  simp only [Bool.cond_eq_ite, decide_eq_true_eq]
  by_cases hk : k > 0
  ·simp only [if_pos hk]
   exact step k y q t l cs vs z p s hc k0 k1 hS hk fun k' q' t' l' cs' vs' z' p' s' g1 g2 g3 g4 => hag _ ⟨_, _, _, _, _, _, _, _, _, _, rfl, g1, g2, by omega, g4⟩ (by simp only; omega)
  ·simp only [if_neg hk]
   exact ⟨_, _, _, _, _, _, rfl, hS⟩
 | inr u =>
  obtain ⟨k, y, q, t, l, cs, vs, z, p, s, rfl, hc, k0, k1, hS⟩ := hu
  unfold Je
  simp only [Bool.cond_eq_ite, decide_eq_true_eq]
  by_cases hk : k > 0
  ·simp only [if_pos hk]
   exact step k y q t l cs vs z p s hc k0 k1 hS hk fun k' q' t' l' cs' vs' z' p' s' g1 g2 g3 g4 => hag _ ⟨_, _, _, _, _, _, _, _, _, _, rfl, g1, g2, by omega, g4⟩ (by simp only; omega)
  ·simp only [if_neg hk]
   exact ⟨_, _, _, _, _, _, rfl, hS⟩
end Go.Proofs.YthgdjjdigalckaaGreat.Pl
namespace Go.Proofs.YthgdjjdigalckaaGreat.Pl
open Go.Proofs.YthgdjjdigalckaaGreat.R Go.Proofs.YthgdjjdigalckaaGreat.XI
def Z0 {A : Type} (eq : A → A → Bool) (da : A) (a b : List A) : Bool := decide (a.length = b.length) && !YI (fun i x => !eq x (b.getD i.toNat da)) a 0
theorem JC {A : Type} (eq : A → A → Bool) (da : A) {a b : List A} (h : a.length ≠ b.length) : Z0 eq da a b = false := by
 unfold Z0
 rw [decide_eq_false h]
 rfl
theorem qO {A B : Type} {a : List A} {b : List B} (h : a.length = b.length) : (((List.length a : Nat) : Int) != ((List.length b : Nat) : Int)) = false := by
 rw [h]
 simp
theorem qP {A B : Type} {a : List A} {b : List B} (h : a.length ≠ b.length) : (((List.length a : Nat) : Int) != ((List.length b : Nat) : Int)) = true := by
 simp only [bne_iff_ne]
 omega
theorem ZO {T A : Type} {step : (T → Option Bool) → T → Option Bool} (mk : Int → T) (eq : A → A → Bool) (da : A) (a b : List A) (hl : a.length ≤ 1048576) (he : a.length = b.length)
  (h : ∀ again i, 0 ≤ i → i < ((List.length a : Nat) : Int) → i < ((List.length b : Nat) : Int) → a.getD i.toNat da ∈ a → b.getD i.toNat da ∈ b → step again (mk i) = bif (!eq (a.getD i.toNat da) (b.getD i.toNat da)) then some false else again (mk (i + 1)))
  (hd : ∀ again i, ¬ i < ((List.length a : Nat) : Int) → step again (mk i) = some true) : zh step zu (mk 0) = some (Z0 eq da a b) := by
 refine (zS (step := step) mk (fun i x => !eq x (b.getD i.toNat da)) (some false) (some true) da a (by omega) (fun again i h0 h1 => ?_) hd).trans ?_
 ·rw [h again i h0 h1 (by omega) (zA da a i h0 h1) (zA da b i h0 (by omega)), Bool.cond_eq_ite]
 ·unfold Z0
  rw [decide_eq_true he]
  cases YI (fun i x => !eq x (b.getD i.toNat da)) a 0 <;> rfl
theorem vm {A : Type} {eq : A → A → Bool} (da : A) (a : List A) (h : ∀ x, eq x x = true) : Z0 eq da a a = true := by
 unfold Z0
 rw [decide_eq_true rfl, y2Q da a 0 fun j hj => by
  rw [show (0 + (j : Int)).toNat = j by omega, h]
  rfl]
 rfl
def eqI (x y : Int) : Bool := x == y
def eqK (x y : y9) : Bool := (x.1 == y.1) && ((x.2.1 == y.2.1) && ((x.2.2.1 == y.2.2.1) && ((x.2.2.2.1 == y.2.2.2.1) && ((x.2.2.2.2 == y.2.2.2.2) && true))))
def eqA (x y : ya) : Bool := (x.1 == y.1) && ((x.2 == y.2) && true)
def eqC (x y : y8) : Bool := (x.1 == y.1) && ((x.2.1 == y.2.1) && ((x.2.2 == y.2.2) && true))
def eqV (x y : yf) : Bool := (ByteArray.toList x.1 == ByteArray.toList y.1) && ((x.2.1 == y.2.1) && ((x.2.2.1 == y.2.2.1) && ((x.2.2.2 == y.2.2.2) && true)))
def eqS (x y : y7) : Bool := Z0 eqK zx x y
def eqN (x y : y0) : Bool := Z0 eqS zi x y
theorem ykP (x : Int) : eqI x x = true := by simp [eqI]
theorem ykQ (x : y9) : eqK x x = true := by simp [eqK]
theorem ykR (x : ya) : eqA x x = true := by simp [eqA]
theorem ykS (x : y8) : eqC x x = true := by simp [eqC]
theorem ykT (x : yf) : eqV x x = true := by simp [eqV]
theorem ykU (x : y7) : eqS x x = true := vm _ _ ykQ
theorem ykV (x : y0) : eqN x x = true := vm _ _ ykU
def QD (q : List ye) (t : List y0) (l : List ya) (cs : List y8) (vs : List yf) (z : Int) (q' : List ye) (t' : List y0) (l' : List ya) (cs' : List y8) (vs' : List yf) (z' : Int) : Bool :=
 Z0 eqI y5j q q' && (Z0 eqN yL t t' && (Z0 eqA Yx l l' && (Z0 eqC Z4 cs cs' && (Z0 eqV wQ vs vs' && (z == z')))))
theorem y6H (q : List ye) (t : List y0) (l : List ya) (cs : List y8) (vs : List yf) (z : Int) : QD q t l cs vs z q t l cs vs z = true := by
 unfold QD
 rw [vm _ _ ykP, vm _ _ ykV, vm _ _ ykR, vm _ _ ykS, vm _ _ ykT]
 simp
theorem y43 (a b : List ye) (hl : a.length ≤ 1048576) : JH (a, b) = some (Z0 eqI y5j a b) := by
 unfold JH Qh
 by_cases he : a.length = b.length
 ·simp only [qO he, cond_false]
  refine ZO (step := j8 _ _) (fun i => (a, b, i)) eqI y5j a b hl he (fun again i h0 h1 h2 _ _ => ?_) fun again i hi => ?_
  ·have hw : Go.IntKind.wrap .i64 (i + 1) = i + 1 := w64 (by omega) (by omega)
   unfold j8
   simp only [decide_eq_true h1, cond_true, if_pos h0, if_pos h1, if_pos h2, hw]
   rfl
  ·unfold j8
   simp only [decide_eq_false hi, cond_false]
 ·simp only [qP he, cond_true, JC _ _ he]
theorem y44 (a b : List y9) (hl : a.length ≤ 1048576) : JI (a, b) = some (Z0 eqK zx a b) := by
 unfold JI Qi
 by_cases he : a.length = b.length
 ·simp only [qO he, cond_false]
  refine ZO (step := j9 _ _) (fun i => (a, b, i)) eqK zx a b hl he (fun again i h0 h1 h2 _ _ => ?_) fun again i hi => ?_
  ·have hw : Go.IntKind.wrap .i64 (i + 1) = i + 1 := w64 (by omega) (by omega)
   unfold j9
   simp only [decide_eq_true h1, cond_true, if_pos h0, if_pos h1, if_pos h2, hw]
   rfl
  ·unfold j9
   simp only [decide_eq_false hi, cond_false]
 ·simp only [qP he, cond_true, JC _ _ he]
theorem y45 (a b : List ya) (hl : a.length ≤ 1048576) : JL (a, b) = some (Z0 eqA Yx a b) := by
 unfold JL Ql
 by_cases he : a.length = b.length
 ·simp only [qO he, cond_false]
  refine ZO (step := jd _ _) (fun i => (a, b, i)) eqA Yx a b hl he (fun again i h0 h1 h2 _ _ => ?_) fun again i hi => ?_
  ·have hw : Go.IntKind.wrap .i64 (i + 1) = i + 1 := w64 (by omega) (by omega)
   unfold jd
   simp only [decide_eq_true h1, cond_true, if_pos h0, if_pos h1, if_pos h2, hw]
   rfl
  ·unfold jd
   simp only [decide_eq_false hi, cond_false]
 ·simp only [qP he, cond_true, JC _ _ he]
theorem y3s (a b : List y8) (hl : a.length ≤ 1048576) : J0 (a, b) = some (Z0 eqC Z4 a b) := by
 unfold J0 qG
 by_cases he : a.length = b.length
 ·simp only [qO he, cond_false]
  refine ZO (step := Zr _ _) (fun i => (a, b, i)) eqC Z4 a b hl he (fun again i h0 h1 h2 _ _ => ?_) fun again i hi => ?_
  ·have hw : Go.IntKind.wrap .i64 (i + 1) = i + 1 := w64 (by omega) (by omega)
   unfold Zr
   simp only [decide_eq_true h1, cond_true, if_pos h0, if_pos h1, if_pos h2, hw]
   rfl
  ·unfold Zr
   simp only [decide_eq_false hi, cond_false]
 ·simp only [qP he, cond_true, JC _ _ he]
theorem ya5 (a b : List ye) (hl : a.length ≤ 1048576) : ZH (a, b) = some (Z0 eqI y5j a b) := by
 unfold ZH Vi
 by_cases he : a.length = b.length
 ·simp only [qO he, cond_false]
  refine ZO (step := YM _ _) (fun i => (a, b, ((List.length a : Nat) : Int), i)) eqI y5j a b hl he (fun again i h0 h1 h2 _ _ => ?_) fun again i hi => ?_
  ·have hw : Go.IntKind.wrap .i64 (i + 1) = i + 1 := w64 (by omega) (by omega)
   unfold YM
   simp only [decide_eq_true h1, cond_true, if_pos h0, if_pos h1, if_pos h2, hw]
   rfl
  ·unfold YM
   simp only [decide_eq_false hi, cond_false]
 ·simp only [qP he, cond_true, JC _ _ he]
theorem ya6 (a b : List y9) (hl : a.length ≤ 1048576) : ZI (a, b) = some (Z0 eqK zx a b) := by
 unfold ZI Vj
 by_cases he : a.length = b.length
 ·simp only [qO he, cond_false]
  refine ZO (step := YN _ _) (fun i => (a, b, ((List.length a : Nat) : Int), i)) eqK zx a b hl he (fun again i h0 h1 h2 _ _ => ?_) fun again i hi => ?_
  ·have hw : Go.IntKind.wrap .i64 (i + 1) = i + 1 := w64 (by omega) (by omega)
   unfold YN
   simp only [decide_eq_true h1, cond_true, if_pos h0, if_pos h1, if_pos h2, hw]
   rfl
  ·unfold YN
   simp only [decide_eq_false hi, cond_false]
 ·simp only [qP he, cond_true, JC _ _ he]
theorem ya7 (a b : List ya) (hl : a.length ≤ 1048576) : ZJ (a, b) = some (Z0 eqA Yx a b) := by
 unfold ZJ Vk
 by_cases he : a.length = b.length
 ·simp only [qO he, cond_false]
  refine ZO (step := YO _ _) (fun i => (a, b, ((List.length a : Nat) : Int), i)) eqA Yx a b hl he (fun again i h0 h1 h2 _ _ => ?_) fun again i hi => ?_
  ·have hw : Go.IntKind.wrap .i64 (i + 1) = i + 1 := w64 (by omega) (by omega)
   unfold YO
   simp only [decide_eq_true h1, cond_true, if_pos h0, if_pos h1, if_pos h2, hw]
   rfl
  ·unfold YO
   simp only [decide_eq_false hi, cond_false]
 ·simp only [qP he, cond_true, JC _ _ he]
theorem y6I (a b : List y8) (hl : a.length ≤ 1048576) : Yi (a, b) = some (Z0 eqC Z4 a b) := by
 unfold Yi vR
 by_cases he : a.length = b.length
 ·simp only [qO he, cond_false]
  refine ZO (step := Yt _ _) (fun i => (a, b, ((List.length a : Nat) : Int), i)) eqC Z4 a b hl he (fun again i h0 h1 h2 _ _ => ?_) fun again i hi => ?_
  ·have hw : Go.IntKind.wrap .i64 (i + 1) = i + 1 := w64 (by omega) (by omega)
   unfold Yt
   simp only [decide_eq_true h1, cond_true, if_pos h0, if_pos h1, if_pos h2, hw]
   rfl
  ·unfold Yt
   simp only [decide_eq_false hi, cond_false]
 ·simp only [qP he, cond_true, JC _ _ he]
theorem ya8 (a b : List yf) (hl : a.length ≤ 1048576) : YA (a, b) = some (Z0 eqV wQ a b) := by
 unfold YA Vl
 by_cases he : a.length = b.length
 ·simp only [qO he, cond_false]
  refine ZO (step := YP _ _) (fun i => (a, b, ((List.length a : Nat) : Int), i)) eqV wQ a b hl he (fun again i h0 h1 h2 _ _ => ?_) fun again i hi => ?_
  ·have hw : Go.IntKind.wrap .i64 (i + 1) = i + 1 := w64 (by omega) (by omega)
   unfold YP
   simp only [decide_eq_true h1, cond_true, if_pos h0, if_pos h1, if_pos h2, hw]
   rfl
  ·unfold YP
   simp only [decide_eq_false hi, cond_false]
 ·simp only [qP he, cond_true, JC _ _ he]
theorem y46 (a b : List y7) (hl : a.length ≤ 1048576) (hs : ∀ s ∈ a, List.length s ≤ 1048576) : JJ (a, b) = some (Z0 eqS zi a b) := by
 unfold JJ Qj
 by_cases he : a.length = b.length
 ·simp only [qO he, cond_false]
  refine ZO (step := ja _ _) (fun i => (i, a, b)) eqS zi a b hl he (fun again i h0 h1 h2 hm _ => ?_) fun again i hi => ?_
  ·have hw : Go.IntKind.wrap .i64 (i + 1) = i + 1 := w64 (by omega) (by omega)
   unfold ja
   simp only [decide_eq_true h1, cond_true, if_pos h0, if_pos h1, if_pos h2, hw]
   rw [y44 (yr a i) (yr b i) (hs _ hm)]
   rfl
  ·unfold ja
   simp only [decide_eq_false hi, cond_false]
 ·simp only [qP he, cond_true, JC _ _ he]
theorem y47 (q q' : List ye) (t t' : List y0) (hq : q.length ≤ 1048576) (ht : t.length ≤ 1048576) (hn : ∀ n ∈ t, List.length n ≤ 1048576 ∧ ∀ s ∈ (show List y7 from n), List.length s ≤ 1048576) : JK (q, t, q', t') = some (Z0 eqI y5j q q' && Z0 eqN yL t t') := by
 unfold JK Qk
 simp only [y43 q q' hq, Option.bind_some]
 cases Z0 eqI y5j q q' with
 | false => rfl
 | true =>
  simp only [Bool.not_true, cond_false, Option.bind_some, Bool.true_and]
  by_cases he : t.length = t'.length
  ·simp only [qO he, cond_false]
   refine ZO (step := jc _ _) (fun i => (i, q, t, q', t')) eqN yL t t' ht he (fun again i h0 h1 h2 hm _ => ?_) fun again i hi => ?_
   ·have hw : Go.IntKind.wrap .i64 (i + 1) = i + 1 := w64 (by omega) (by omega)
    unfold jc
    simp only [decide_eq_true h1, cond_true, if_pos h0, if_pos h1, if_pos h2, hw]
    rw [y46 (yg t i) (yg t' i) (hn _ hm).1 (hn _ hm).2]
    rfl
   ·unfold jc
    simp only [decide_eq_false hi, cond_false]
  ·simp only [qP he, cond_true, JC _ _ he]
theorem y48 (a b : List y7) (hl : a.length ≤ 1048576) (hs : ∀ s ∈ a, List.length s ≤ 1048576) : wi (a, b) = some (Z0 eqS zi a b) := by
 have key : yW (a, b) = some (Z0 eqS zi a b) := by
  unfold yW Yk
  by_cases he : a.length = b.length
  ·simp only [qO he, cond_false]
   refine ZO (step := yN _ _) (fun i => (b, a, ((List.length a : Nat) : Int), i)) eqS zi a b hl he (fun again i h0 h1 h2 hm _ => ?_) fun again i hi => ?_
   ·have hw : Go.IntKind.wrap .i64 (i + 1) = i + 1 := w64 (by omega) (by omega)
    unfold yN wL
    simp only [decide_eq_true h1, cond_true, if_pos h0, if_pos h1, if_pos h2, hw]
    rw [ya6 (yr a i) (yr b i) (hs _ hm)]
    rfl
   ·unfold yN
    simp only [decide_eq_false hi, cond_false]
  ·simp only [qP he, cond_true, JC _ _ he]
 unfold wi
 rw [key]
 rfl
theorem y3t (t t' : List y0) (ht : t.length ≤ 1048576) (hn : ∀ n ∈ t, List.length n ≤ 1048576 ∧ ∀ s ∈ (show List y7 from n), List.length s ≤ 1048576) : z5 (t, t') = some (Z0 eqN yL t t') := by
 unfold z5 Yu
 by_cases he : t.length = t'.length
 ·simp only [qO he, cond_false]
  refine ZO (step := yR _ _) (fun i => (t', t, ((List.length t : Nat) : Int), i)) eqN yL t t' ht he (fun again i h0 h1 h2 hm _ => ?_) fun again i hi => ?_
  ·have hw : Go.IntKind.wrap .i64 (i + 1) = i + 1 := w64 (by omega) (by omega)
   unfold yR
   simp only [decide_eq_true h1, cond_true, if_pos h0, if_pos h1, if_pos h2, hw]
   rw [y48 (yg t i) (yg t' i) (hn _ hm).1 (hn _ hm).2]
   rfl
  ·unfold yR
   simp only [decide_eq_false hi, cond_false]
 ·simp only [qP he, cond_true, JC _ _ he]
section
variable {q : List ye} {t : List y0} {l : List ya} {cs : List y8} {vs : List yf} (z : Int) (hs : small q t l cs vs) (q' : List ye) (t' : List y0) (l' : List ya) (cs' : List y8) (vs' : List yf) (z' : Int)
include hs
theorem y0s : Z5 (q, t, l, cs, vs, z, q', t', l', cs', vs', z') = some (QD q t l cs vs z q' t' l' cs' vs' z') := by
 have hv : vs.length ≤ 1048576 := hs.2.2.2.2.2
 have loop : vs.length = vs'.length → Kv (fun x8 => some x8) (fun x9 => some true) ((0 : Int), q, t, l, cs, vs, z, q', t', l', cs', vs', z') = some (Z0 eqV wQ vs vs') := by
  intro he
  unfold Kv
  refine ZO (step := je _ _) (fun i => (i, q, t, l, cs, vs, z, q', t', l', cs', vs', z')) eqV wQ vs vs' hv he (fun again i h0 h1 h2 _ _ => ?_) fun again i hi => ?_
  ·have hw : Go.IntKind.wrap .i64 (i + 1) = i + 1 := w64 (by omega) (by omega)
   unfold je
   simp only [decide_eq_true h1, cond_true, if_pos h0, if_pos h1, if_pos h2, hw]
   rfl
  ·unfold je
   simp only [decide_eq_false hi, cond_false]
 unfold Z5 QD
 simp only [y47 q q' t t' hs.1 hs.2.1 (fun n hn => wM hs.2.2.1 hn), y45 l l' hs.2.2.2.1, y3s cs cs' hs.2.2.2.2.1, Option.bind_some]
 cases Z0 eqI y5j q q' <;> cases Z0 eqN yL t t' <;> try rfl
 cases Z0 eqA Yx l l' <;> cases Z0 eqC Z4 cs cs' <;> try rfl
 by_cases he : vs.length = vs'.length
 ·simp only [qO he, loop he]
  cases hz : z == z'
  ·simp [bne, hz]
  ·simp [bne, hz]
 ·simp only [qP he, JC _ _ he]
  rfl
theorem y49 : wk (q, t, l, cs, vs, z, q', t', l', cs', vs', z') = some (QD q t l cs vs z q' t' l' cs' vs' z') := by
 unfold wk QD
 simp only [ya5 q q' hs.1, y3t t t' hs.2.1 (fun n hn => wM hs.2.2.1 hn), ya7 l l' hs.2.2.2.1, y6I cs cs' hs.2.2.2.2.1, ya8 vs vs' hs.2.2.2.2.2, Option.bind_some]
 cases Z0 eqI y5j q q' <;> cases Z0 eqN yL t t' <;> cases Z0 eqA Yx l l' <;> cases Z0 eqC Z4 cs cs' <;> cases Z0 eqV wQ vs vs' <;> rfl
end
end Go.Proofs.YthgdjjdigalckaaGreat.Pl
namespace Go.Proofs.YthgdjjdigalckaaGreat.Pl
open Go.Proofs.YthgdjjdigalckaaGreat.R Go.Proofs.YthgdjjdigalckaaGreat.XI
theorem ybO : ∀ (s : List y9) (i : Int), (Kc Wm s i).length = 6 * s.length
 | [], _ => rfl
 | a :: s, i => by
  rw [Kc, List.length_append, ybO s (i + 1), y7n, List.length_cons]
  omega
theorem yeo : ∀ (n : List y7) (s : Int), 0 ≤ s → s + 60 * n.length ≤ 1000 → (∀ a ∈ n, List.length a ≤ 60) → ∃ k : Nat, n.foldl y0p s = s + k ∧ ∀ i, (Kc Zh n i).length = n.length + 6 * k
 | [], s, _, _, _ => ⟨0, by simp, fun _ => rfl⟩
 | a :: n, s, h0, hb, ha => by
  have h1 := ha a (by simp)
  rw [List.length_cons] at hb
  have hw : y0p s a = s + (List.length a : Int) := w64 (by omega) (by omega)
  obtain ⟨k, e1, e2⟩ := yeo n (s + (List.length a : Int)) (by omega) (by omega) fun b hm => ha b (by simp [hm])
  refine ⟨List.length a + k, ?_, fun i => ?_⟩
  ·rw [List.foldl_cons, hw, e1]
   omega
  ·have h6 := ybO a 0
   rw [Kc, List.length_append, e2, Zh, List.length_append, List.length_cons]
   simp only [List.length_cons, List.length_nil]
   omega
theorem ykW (q : List Int) (i : Int) (n : y0) (h : YH n = true) : (ZY q i n).length ≤ 54 := by
 obtain ⟨h1, h2⟩ := y1h h
 unfold YH at h
 simp only [Bool.and_eq_true, decide_eq_true_eq] at h
 obtain ⟨k, e1, e2⟩ := yeo n 0 (Int.le_refl _) (by omega) fun a ha => (y2J (h2 a ha)).1
 have h3 := h.2.2
 unfold ZY
 rw [List.length_append, List.length_append, e2]
 simp only [two, List.length_cons, List.length_nil]
 omega
theorem ydc {q : List Int} {t : List y0} {l : List ya} {cs : List y8} {vs : List yf} {z : Int} (h : yT q t l cs vs z = true) : (jX q t l cs vs z).length ≤ 1680 := by
 have hF := ycM h
 unfold yT at h
 simp only [Bool.and_eq_true] at h
 obtain ⟨t1, t2, t3, t4⟩ := wo h.1
 have h1 := y4J hF
 have h2 := y4K hF
 have h3 := y2K hF
 have h4 := vy (ZY q) 54 t 0 fun n hn j => ykW q j n (t4 n hn)
 unfold jX
 simp only [List.length_append, two, List.length_cons, List.length_nil]
 omega
theorem y07 {a : Int} {l : List Int} (h : 0 ≤ a ∧ a < 256) (hl : isBytes l) : isBytes (a :: l) := fun x hx => (List.mem_cons.1 hx).elim (fun e => e ▸ h) (hl x)
theorem ybP : isBytes [] := fun x hx => by cases hx
theorem y6i (x : Int) : 0 ≤ b8 x ∧ b8 x < 256 := by
 unfold b8
 rw [y2a]
 omega
theorem ymG (b : Bool) : 0 ≤ bit b ∧ bit b < 256 := by cases b <;> decide
theorem vn {A : Type} (f : Int → A → List Int) (h : ∀ i a, isBytes (f i a)) : ∀ (l : List A) (i : Int), isBytes (Kc f l i)
 | [], _ => ybP
 | a :: l, i => zj (h i a) (vn f h l (i + 1))
theorem y33 (q : List Int) (t : List y0) (l : List ya) (cs : List y8) (vs : List yf) (z : Int) : isBytes (jX q t l cs vs z) := by
 have b1 := fun x => y07 (y6i x) ybP
 have bk : ∀ i a, isBytes (Wm i a) := fun i a => zj (y07 (y6i _) (y07 (y6i _) (y07 (y6i _) (b1 _)))) (Qv _)
 have bs : ∀ i a, isBytes (Zh i a) := fun i a => zj (b1 _) (vn Wm bk a 0)
 have bn : ∀ i a, isBytes (ZY q i a) := fun i a => zj (Qv _) (zj (b1 _) (vn Zh bs a 0))
 have ba : ∀ i a, isBytes (Kg i a) := fun i a => y07 (y6i _) (b1 _)
 have bv : ∀ i a, isBytes (WT i a) := fun i a => zj (yk4 _) (y07 (y6i _) (y07 (y6i _) (y07 (ymG _) ybP)))
 have bc : ∀ i a, isBytes (jE i a) := fun i a => zj (Qv _) (zj (y07 (ymG _) ybP) (Qv _))
 unfold jX
 exact zj (zj (zj (zj (zj (zj (zj (Qv _) (b1 _)) (vn Kg ba l 0)) (b1 _)) (vn WT bv vs 0)) (vn jE bc cs 0)) (b1 _)) (vn (ZY q) bn t 0)
end Go.Proofs.YthgdjjdigalckaaGreat.Pl
namespace Go.Proofs.YthgdjjdigalckaaGreat.Pl
open Go.Proofs.YthgdjjdigalckaaGreat.R Go.Proofs.YthgdjjdigalckaaGreat.XI
theorem yfs (x : List Int) (hx : x.length ≤ 1099511627776) : y6h (ZD x) := by
 obtain ⟨q, t, l, cs, vs, z, e, h⟩ := yic x hx
 unfold ZD
 rw [e]
 exact ⟨_, _, _, _, _, _, rfl, h⟩
theorem y6j {q : List ye} {t : List y0} {l : List ya} {cs : List y8} {vs : List yf} (z : Int) (h : SP q t l cs vs) : Jn (q, t, l, cs, vs, z) = some (Yq q t l cs vs z) := y5V q t l cs vs z h.tq.T h.S.2.2.2.1 h.S.2.2.2.2.1 h.S.2.2.2.2.2 h.N
theorem y1s {q : List ye} {t : List y0} {l : List ya} {cs : List y8} {vs : List yf} (z : Int) (h : SP q t l cs vs) : YY (q, t, l, cs, vs, z) = some (Yq q t l cs vs z) := y1i q t l cs vs z h.tq.T h.S.2.2.2.1 h.S.2.2.2.2.1 h.S.2.2.2.2.2 h.N
theorem y6J (q : List Int) (t : List y0) (l : List ya) (cs : List y8) (vs : List yf) (z : Int) : isBytes (Yq q t l cs vs z) := by
 unfold Yq
 split
 ·exact y33 q t l cs vs z
 ·exact ybP
theorem yft (x : List Int) (hx : x.length ≤ 1099511627776) : ∃ o, ZE x = some o ∧ isBytes o ∧ o.length ≤ 22000 := by
 obtain ⟨s0, e0⟩ := yhg x hx
 obtain ⟨m, e1, m0, m1⟩ := ydb x 16 hx (by omega)
 obtain ⟨q, t, l, cs, vs, z, p3, s3, e3, h3, hT⟩ := ybN x 0 s0 m (yEo x hx) (by omega) (by omega)
 have hlen := ybl q t l cs vs z
 obtain ⟨o, p5, s5, e5, h5, hb, hl⟩ := ypO x p3 s3 (Yq q t l cs vs z) h3 (y6J q t l cs vs z) (by omega)
 unfold ZE
 simp only [e0, e1, e3, e5, y6j z hT.sp, Option.bind_some]
 exact ⟨_, rfl, hb, by omega⟩
def y08 (o : Option (List ye × List y0 × List ya × List y8 × List yf × Int × List ye × List y0 × List ya × List y8 × List yf × Int)) : Prop := ∃ q t l cs vs z q' t' l' cs' vs' z', o = some (q, t, l, cs, vs, z, q', t', l', cs', vs', z') ∧ SP q t l cs vs
theorem ydd (x : List Int) (hx : x.length ≤ 1099511627776) : y08 (Ze x) := by
 obtain ⟨s0, e0⟩ := yhg x hx
 obtain ⟨m, e1, m0, m1⟩ := ydb x 12 hx (by omega)
 obtain ⟨q, t, l, cs, vs, z, p3, s3, e3, h3, hS⟩ := y1r x 0 s0 m (yEo x hx) (by omega) (by omega)
 obtain ⟨v5, p5, s5, e5, h5, _⟩ := yZ x p3 s3 6 h3
 obtain ⟨q6, t6, l6, cs6, vs6, z6, p6, s6, e6, h6, hS6⟩ := y1r x p5 s5 6 h5 (by omega) (by omega)
 unfold Ze
 simp only [e0, e1, e3, e5, e6, qw z hS, Option.bind_some]
 refine yK (P := y08) _ ?_ (yK (P := y08) _ ?_ (yK (P := y08) _ (Zi (P := y08) _ (fun hh => ?_) fun _ => ?_) (yK (P := y08) _ (Zi (P := y08) _ (fun hh => ?_) fun _ => ?_) ?_)))
 ·exact ⟨_, _, _, _, _, _, _, _, _, _, _, _, rfl, hS⟩
 ·exact ⟨_, _, _, _, _, _, _, _, _, _, _, _, rfl, hS⟩
 ·have hh := of_decide_eq_true hh
  simp only [if_pos (Int.le_refl (0 : Int)), if_pos (show (0 : Int) < ((List.length cs : Nat) : Int) by omega)]
  exact ⟨_, _, _, _, _, _, _, _, _, _, _, _, rfl, hS⟩
 ·exact ⟨_, _, _, _, _, _, _, _, _, _, _, _, rfl, hS⟩
 ·have hh := of_decide_eq_true hh
  simp only [if_pos (Int.le_refl (0 : Int)), if_pos (show (0 : Int) < ((List.length vs : Nat) : Int) by omega)]
  exact ⟨_, _, _, _, _, _, _, _, _, _, _, _, rfl, hS⟩
 ·exact ⟨_, _, _, _, _, _, _, _, _, _, _, _, rfl, hS⟩
 ·exact ⟨_, _, _, _, _, _, _, _, _, _, _, _, rfl, hS⟩
theorem ykX {b : List Int} (hb : isBytes b) (h : (y6E b).2.2.2.2.2.2 = true) : yT (y6E b).1 (y6E b).2.1 (y6E b).2.2.1 (y6E b).2.2.2.1 (y6E b).2.2.2.2.1 (y6E b).2.2.2.2.2.1 = true ∧ Yq (y6E b).1 (y6E b).2.1 (y6E b).2.2.1 (y6E b).2.2.2.1 (y6E b).2.2.2.2.1 (y6E b).2.2.2.2.2.1 = b := by
 unfold y6E at h ⊢
 split at h
 ·rename_i p j hp
  by_cases hc : j = (b.length : Int) ∧ yT (p.2.2.2.2.map Prod.fst) (p.2.2.2.2.map Prod.snd) p.2.1 p.2.2.2.1 p.2.2.1 p.1 = true
  ·simp only [if_pos hc]
   refine ⟨hc.2, ?_⟩
   unfold Yq
   rw [if_pos hc.2]
   have hs := (yhD hb hp).eq
   rw [hc.1] at hs
   simpa using hs.symm
  ·rw [if_neg hc] at h
   cases h
 ·cases h
theorem law_Images (x : List Int) (hb : isBytes x) : Zf x = some true := by
 unfold Zf y1x
 simp only [Option.bind_some]
 cases hbig : decide (((List.length x : Nat) : Int) > (1048576 : Int)) with
 | true => rfl
 | false =>
  have hx : x.length ≤ 1099511627776 := by
   have := of_decide_eq_false hbig
   omega
  obtain ⟨q, t, l, cs, vs, z, e1, hS⟩ := yfs x hx
  obtain ⟨b, e2, hbb, hbl⟩ := yft x hx
  obtain ⟨q', t', l', cs', vs', z', u1, u2, u3, u4, u5, u6, e3, hS3⟩ := ydd x hx
  have hg := y1k hbb (by omega)
  have hg2 := y66 hbb (by omega)
  have hput := ykX hbb
  rcases hgk : y6E b with ⟨g1, g2, g3, g4, g5, g6, g7⟩
  rw [hgk] at hg hg2 hput
  have main : (Option.bind (Ym (q, t, l, cs, vs, z)) fun r16 => bif (!r16) then some (((List.length (Yq q t l cs vs z) : Nat) : Int) == (0 : Int)) else Option.bind (ZX (Yq q t l cs vs z)) fun r17 => Option.bind (bif r17.2.2.2.2.2.2 then Option.bind (Z5 (r17.1, r17.2.1, r17.2.2.1, r17.2.2.2.1, r17.2.2.2.2.1, r17.2.2.2.2.2.1, q, t, l, cs, vs, z)) fun r19 => some r19 else some false) fun u18 => Option.bind (bif u18 then some (decide (((List.length (Yq q t l cs vs z) : Nat) : Int) ≤ (1680 : Int))) else some false) fun u20 => some u20) = some true := by
   rw [y1X z hS]
   simp only [Option.bind_some]
   cases hp : yT q t l cs vs z with
   | false =>
    unfold Yq
    rw [hp]
    rfl
   | true =>
    have hk : Yq q t l cs vs z = jX q t l cs vs z := by
     unfold Yq
     rw [if_pos hp]
    have hfew := ydc hp
    rw [hk, y1k (y33 q t l cs vs z) (by omega), yhQ hp]
    simp only [Bool.not_true, cond_false, Option.bind_some, cond_true, y0s z hS.S, y6H]
    rw [decide_eq_true (by omega)]
  simp only [e1, e2, e3, y1s z hS, hg, hg2, y49 z' hS3.S, y0s z' hS3.S, Option.bind_some, beq_self_eq_true, Bool.not_true, cond_false]
  cases g7 with
  | false =>
   simp only [cond_false, Option.bind_some]
   exact main
  | true =>
   obtain ⟨p1, p2⟩ := hput rfl
   have hSg := (y04 p1).sp
   simp only [cond_true, y1X g6 hSg, p1, y1s g6 hSg, p2, Option.bind_some, beq_self_eq_true, Bool.not_true, cond_false]
   exact main
end Go.Proofs.YthgdjjdigalckaaGreat.Pl
