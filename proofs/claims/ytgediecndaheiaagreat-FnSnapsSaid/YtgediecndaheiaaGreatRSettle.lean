/- Rows that nobody writes any more; cells as plain values. Conditions: none. -/
import Derived.Test.YtgediecndaheiaaGreatROp
set_option linter.all false
namespace Go.Proofs.YtgediecndaheiaaGreat.R
open Go.RowKit
variable {P : Program} {C : Ctx} {w0 : World} {lent : Nat → Prop} {H0 : Base} {s : St} {a : Act} {w : World} {G : Gh} {o : Oper} {K : Act → World → Prop} {Q : Exit → Act → World → Prop} {R : Type} {k : Eff → Option R} {r : R} {lk : Lk} {call : C.Sem}
def ydS (lk : Lk) (s : St) : Prop := ∀ i ob e ts xs, lk i = some ob → Rw ob e ts xs → ∃ ob', z4 s.o i = some ob' ∧ Rw ob' e ts xs
theorem y4T.rows (h : y4T lk s) : ydS lk s := fun i ob e ts xs hi hw => ⟨ob, h i _ hi, hw⟩
def jr (lk : Lk) (G : Gh) (is : List Nat) : Prop := ∀ i ∈ is, ∀ ob e ts xs, lk i = some ob → Rw ob e ts xs → RdT G.H (.sl e ts) xs (G.sv i)
theorem jr.grown {G G' : Gh} {is : List Nat} (h : jr lk G is) (hg : Grown G G') : jr lk G' is := fun i hi ob e ts xs hl hw => by
 rw [hg.sv]
 exact RdT.mono hg.H _ _ _ (h i hi ob e ts xs hl hw)
theorem ydS.set {i e : Nat} {ob : Ob} {ts : List Ty} {xs : List (z8 ts)} (h : ydS lk s) (hi : z4 s.o i = some ob) (hw : Rw ob e ts xs) : ydS lk (s.set i (.root false e ts xs)) := by
 intro j ob' e' ts' xs' hj hw'
 obtain ⟨ob2, h2, hw2⟩ := h j ob' e' ts' xs' hj hw'
 show ∃ ob', z4 (qW s.o i _) j = _ ∧ _
 rw [wM]
 by_cases hji : j = i
 ·subst hji
  rw [hi] at h2
  injection h2 with h2
  subst h2
  obtain ⟨rfl, rfl, rfl⟩ := hw.same hw2
  exact ⟨_, by simp [hi], .inl ⟨false, rfl⟩⟩
 ·exact ⟨ob2, by simp [hji, h2], hw2⟩
theorem Rel.settles (hs : ydS lk s) (h : Rel P w0 lent H0 s a w G) : ∀ (is : List Nat), ∃ G', Grown G G' ∧ Rel P w0 lent H0 (s.setAll (settles lk is)) a w G' ∧ jr lk G' is := by
 intro is
 induction is generalizing s G with
 | nil => exact ⟨G, Grown.refl G, h, fun i hi => by simp at hi⟩
 | cons i is ih =>
  have row : ∀ (ob : Ob) (e : Nat) (ts : List Ty) (xs : List (z8 ts)), lk i = some ob → Rw ob e ts xs → Go.Proofs.YtgediecndaheiaaGreat.R.settles lk (i :: is) = (i, .root false e ts xs) :: Go.Proofs.YtgediecndaheiaaGreat.R.settles lk is → ∃ G', Grown G G' ∧ Rel P w0 lent H0 (s.setAll (Go.Proofs.YtgediecndaheiaaGreat.R.settles lk (i :: is))) a w G' ∧ jr lk G' (i :: is) := by
   intro ob e ts xs hi hw he
   obtain ⟨ob', hl, hw'⟩ := hs i ob e ts xs hi hw
   obtain ⟨G1, hg1, hr1, hrd⟩ := h.settleW hl hw'
   obtain ⟨G', hg, hr, hset⟩ := ih (hs.set hl hw') hr1
   refine ⟨G', hg1.trans hg, by rw [he]; exact hr, fun j hj ob2 e2 ts2 xs2 hl2 hw2 => ?_⟩
   rcases List.mem_cons.1 hj with rfl | hj
   ·rw [hi] at hl2
    injection hl2 with hl2
    subst hl2
    obtain ⟨rfl, rfl, rfl⟩ := hw.same hw2
    rw [hg.sv]
    exact RdT.mono hg.H _ _ _ hrd
   ·exact hset j hj ob2 e2 ts2 xs2 hl2 hw2
  have no : (∀ ob e ts (xs : List (z8 ts)), lk i = some ob → ¬ Rw ob e ts xs) → Go.Proofs.YtgediecndaheiaaGreat.R.settles lk (i :: is) = Go.Proofs.YtgediecndaheiaaGreat.R.settles lk is → ∃ G', Grown G G' ∧ Rel P w0 lent H0 (s.setAll (Go.Proofs.YtgediecndaheiaaGreat.R.settles lk (i :: is))) a w G' ∧ jr lk G' (i :: is) := by
   intro hn he
   obtain ⟨G', hg, hr, hset⟩ := ih hs h
   refine ⟨G', hg, by rw [he]; exact hr, fun j hj ob e ts xs hl hw => ?_⟩
   rcases List.mem_cons.1 hj with rfl | hj
   ·exact absurd hw (hn ob e ts xs hl)
   ·exact hset j hj ob e ts xs hl hw
  cases hi : lk i with
  | none => exact no (fun ob e ts xs hl => by rw [hi] at hl; cases hl) (by simp [Go.Proofs.YtgediecndaheiaaGreat.R.settles, hi])
  | some ob =>
   cases ob with
   | root own e ts xs => exact row _ e ts xs hi (.inl ⟨own, rfl⟩) (by simp [Go.Proofs.YtgediecndaheiaaGreat.R.settles, hi])
   | _ =>
    refine no (fun ob e ts xs hl hw => ?_) (by simp [Go.Proofs.YtgediecndaheiaaGreat.R.settles, hi])
    rw [hi] at hl
    injection hl with hl
    subst hl
    rcases hw with ⟨_, hw⟩ | ⟨_, _, hw⟩ <;> cases hw
theorem y0j {H : Hp} {t t' : Ty} {x : El t} {y : El t'} {v : Value} (h : Qh t t' x = some y) (hr : RdT H t x v) : RdT H t' y v := by
 unfold Qh at h
 split at h
 ·rename_i he
  have := Ty.eqb_eq t t' he
  subst this
  injection h with h
  subst h
  exact hr
 ·cases h
theorem y9N {H : Hp} : ∀ t : Ty, RdT H t (y67 t) (y0B t)
 | .int _ => rfl
 | .bool => rfl
 | .str => rfl
 | .sl e ts => ⟨none, 0, rfl, Nat.le_refl _, by simp [y67], fun h => by simp [y67] at h⟩
theorem y1p {t : Ty} {x : A} {y : El t} {is : List Nat} (h : toT lk t x = some (y, is)) (hs : jr lk G is) {v : Value} (hr : RA G x v) : RdT G.H t y v := by
 cases x with
 | val t' x =>
  simp only [toT, Option.map_eq_some_iff] at h
  obtain ⟨z, hz, he⟩ := h
  injection he with he _
  subst he
  exact y0j hz hr
 | nils =>
  cases t with
  | sl e ts =>
   simp only [toT, Option.some.injEq, Prod.mk.injEq] at h
   rw [← h.1, show v = .slice none 0 0 from hr]
   exact y9N (.sl e ts)
  | _ => simp [toT] at h
 | win q m =>
  cases hq : lk q with
  | none => simp [toT, hq] at h
  | some ob =>
   cases ob with
   | root own e ts xs =>
    simp only [toT, hq, Option.map_eq_some_iff] at h
    obtain ⟨z, hz, he⟩ := h
    injection he with he hi
    subst he hi
    have hrd := hs q (by simp) _ e ts xs hq (.inl ⟨own, rfl⟩)
    obtain ⟨A, n, c, e1, e2, e3⟩ := hr
    obtain ⟨A2, c2, f1, f2, f3, f4⟩ := hrd
    rw [e1] at f1
    injection f1 with g1 g2 g3
    subst g1 g2 g3
    refine y0j hz ?_
    rw [e2]
    have hlen : (xs.take (Int.toNat m)).length = Int.toNat m := by rw [List.length_take]; omega
    refine ⟨A, c, by rw [show List.length (List.take (Int.toNat m) xs) = Int.toNat m from hlen], by rw [show List.length (List.take (Int.toNat m) xs) = Int.toNat m from hlen]; omega, by rw [show List.length (List.take (Int.toNat m) xs) = Int.toNat m from hlen]; omega, fun hp => ?_⟩
    rw [show List.length (List.take (Int.toNat m) xs) = Int.toNat m from hlen] at hp
    obtain ⟨ad, ea, hx⟩ := f4 (by omega)
    refine ⟨ad, ea, fun j x hj => hx j x ?_⟩
    have hj' : (xs.take (Int.toNat m))[j]? = some x := hj
    rw [List.getElem?_take] at hj'
    split at hj'
    ·exact hj'
    ·cases hj'
   | _ => simp [toT, hq] at h
 | own q =>
  cases hq : lk q with
  | none => simp [toT, hq] at h
  | some ob =>
   cases ob with
   | root own e ts xs =>
    simp only [toT, hq, Option.map_eq_some_iff] at h
    obtain ⟨z, hz, he⟩ := h
    injection he with he hi
    subst he hi
    rw [show v = G.sv q from hr.1]
    exact y0j hz (hs q (by simp) _ e ts xs hq (.inl ⟨own, rfl⟩))
   | _ => simp [toT, hq] at h
 | _ => simp [toT] at h
theorem jr.left {is js : List Nat} (h : jr lk G (is ++ js)) : jr lk G is := fun i hi => h i (by simp [hi])
theorem jr.right {is js : List Nat} (h : jr lk G (is ++ js)) : jr lk G js := fun i hi => h i (by simp [hi])
theorem ydT : ∀ (ts : List Ty) (l : List A) (y : z8 ts) (is : List Nat), toE lk ts l = some (y, is) → jr lk G is → ∀ (vs : List Value), RL G l vs → RdE G.H ts y (fun i => vs[i]?) ∧ vs.length = ts.length := by
 intro ts
 induction ts with
 | nil =>
  intro l y is h hs vs hr
  cases l with
  | nil =>
   cases vs with
   | nil => exact ⟨trivial, rfl⟩
   | cons _ _ => exact hr.elim
  | cons x l => exact absurd h (by rw [show toE lk [] (x :: l) = none from rfl]; exact fun h => by cases h)
 | cons t ts ih =>
  intro l y is h hs vs hr
  cases ts with
  | nil =>
   cases l with
   | nil => exact absurd h (by rw [show toE lk [t] [] = none from rfl]; exact fun h => by cases h)
   | cons x l =>
    cases l with
    | nil =>
     have h' : toT lk t x = some (y, is) := h
     cases vs with
     | nil => exact hr.elim
     | cons v vs =>
      cases vs with
      | nil => exact ⟨⟨v, rfl, y1p h' hs hr.1⟩, rfl⟩
      | cons _ _ => exact hr.2.elim
    | cons x2 l => exact absurd h (by rw [show toE lk [t] (x :: x2 :: l) = none from rfl]; exact fun h => by cases h)
  | cons u r =>
   cases l with
   | nil => exact absurd h (by rw [show toE lk (t :: u :: r) [] = none from rfl]; exact fun h => by cases h)
   | cons x l =>
    have h' : (match toT lk t x with
     | some (x, is) => match toE lk (u :: r) l with
      | some (y, js) => some (((x, y) : z8 (t :: u :: r)), is ++ js)
      | none => none
     | none => none) = some (y, is) := h
    cases hx : toT lk t x with
    | none =>
     rw [hx] at h'
     cases h'
    | some p =>
     obtain ⟨x', js⟩ := p
     rw [hx] at h'
     cases hl : toE lk (u :: r) l with
     | none =>
      rw [hl] at h'
      cases h'
     | some q =>
      obtain ⟨y', js'⟩ := q
      rw [hl] at h'
      injection h' with h'
      injection h' with h1 h2
      subst h1 h2
      cases vs with
      | nil => exact hr.elim
      | cons v vs =>
       obtain ⟨h1, h2⟩ := ih l y' js' hl hs.right vs hr.2
       exact ⟨⟨⟨v, rfl, y1p hx hs.left hr.1⟩, h1⟩, by simp [h2]⟩
end Go.Proofs.YtgediecndaheiaaGreat.R
