/- Rows of one's own with rows inside. No condition. -/
import Derived.Test.YthgdjjdigalckaaGreatRSettle
set_option linter.all false
namespace Go.Proofs.YthgdjjdigalckaaGreat.R
open Go.RowKit
variable {P : Program} {C : Ctx} {w0 : World} {lent : Nat → Prop} {H0 : Base} {s : St} {a : Act} {w : World} {G : Gh} {o : Oper} {K : Act → World → Prop} {Q : Exit → Act → World → Prop} {R : Type} {k : Eff → Option R} {r : R} {lk : Lk} {call : C.Sem} {ct wn : Bool}
theorem ZQ {i : Nat} : ∀ (l : List (Nat × Ob)) (s : St), qz (zp l) i = false → zd (s.setAll l).o i = zd s.o i
 | [], _, _ => rfl
 | (j, x) :: l, s, h => by
  simp only [zp, qz, Bool.or_eq_false_iff] at h
  rw [St.setAll, ZQ l (s.set j x) h.2]
  show zd (y09 s.o j x) i = _
  rw [Wo, if_neg]
  intro e
  subst e
  rw [yC] at h
  exact absurd h.1 (by simp)
theorem y3v (lk : Lk) {i : Nat} : ∀ is : List Nat, qz is i = false → qz (zp (settles lk is)) i = false
 | [], _ => rfl
 | j :: is, h => by
  simp only [qz, Bool.or_eq_false_iff] at h
  have ih := y3v lk is h.2
  unfold settles
  split
  ·simp only [zp, qz, h.1, ih, Bool.or_false]
  ·simp only [zp, qz, h.1, ih, Bool.or_false]
theorem St.setAll_append : ∀ (l l' : List (Nat × Ob)) (s : St), s.setAll (l ++ l') = (s.setAll l).setAll l'
 | [], _, _ => rfl
 | (i, x) :: l, l', s => St.setAll_append l l' (s.set i x)
theorem wu {l : List Nat} {i : Nat} : qz l i = true ↔ i ∈ l := by
 induction l with
 | nil => simp [qz]
 | cons j r ih =>
  simp only [qz, Bool.or_eq_true, ih, List.mem_cons]
  constructor
  ·rintro (h | h)
   ·exact .inl (Nat.eq_of_beq_eq_true h).symm
   ·exact .inr h
  ·rintro (rfl | h)
   ·exact .inl (yC _)
   ·exact .inr h
theorem y1u : ∀ {l : List Nat}, y2d l = true → l.Nodup
 | [], _ => List.nodup_nil
 | i :: r, h => by
  simp only [y2d, Bool.and_eq_true, Bool.not_eq_true'] at h
  refine List.nodup_cons.2 ⟨fun hi => ?_, y1u h.2⟩
  rw [wu.2 hi] at h
  exact absurd h.1 (by simp)
theorem Rel.gones : ∀ (gs : List Nat) {s : St}, Rel P w0 lent H0 s a w G → Rel P w0 lent H0 (s.setAll (JD gs)) a w G
 | [], _, h => h
 | i :: gs, _, h => Rel.gones gs (h.gone i)
theorem y39 : ∀ (gs : List Nat) (s : St) (i : Nat), zd (s.setAll (JD gs)).o i = if i ∈ gs then (zd s.o i).map (fun _ => .gone) else zd s.o i
 | [], s, i => by simp [JD, St.setAll]
 | j :: gs, s, i => by
  have hs : zd (s.set j .gone).o i = if i = j then (zd s.o j).map (fun _ => .gone) else zd s.o i := Wo j i .gone s.o
  rw [JD, St.setAll, y39 gs, hs]
  by_cases hij : i = j
  ·subst hij
   by_cases hg : i ∈ gs
   ·cases zd s.o i <;> simp [hg]
   ·simp [hg]
  ·simp [hij]
def In (bs : List (Nat → Prop)) (k : Nat) : Prop := ∃ b ∈ bs, b k
def y7I (bs : List (Nat → Prop)) : Prop := bs.Pairwise fun b c => ∀ k, b k → ¬ c k
def y3a (s : St) (G : Gh) (gs : List Nat) (bs : List (Nat → Prop)) : Prop := ∀ k, In bs k → ∃ q ∈ gs, ∃ ob, zd s.o q = some ob ∧ zQ G q ob k
theorem In.cons {b : Nat → Prop} {bs : List (Nat → Prop)} {k : Nat} : In (b :: bs) k ↔ b k ∨ In bs k := by simp [In]
theorem In.append {bs cs : List (Nat → Prop)} {k : Nat} : In (bs ++ cs) k ↔ In bs k ∨ In cs k := by simp [In, or_and_right, exists_or]
theorem In.nil {k : Nat} : ¬ In [] k := by simp [In]
theorem yc5 (h : Rel P w0 lent H0 s a w G) {gs hs : List Nat} {bs cs : List (Nat → Prop)} (hb : y3a s G gs bs) (hc : y3a s G hs cs) (hd : ∀ q ∈ gs, q ∉ hs) : ∀ k, In bs k → ¬ In cs k := by
 intro k h1 h2
 obtain ⟨q, hq, ob, hl, hbq⟩ := hb k h1
 obtain ⟨q', hq', ob', hl', hbq'⟩ := hc k h2
 have := h.apart q q' _ _ k hl hl' hbq hbq'
 subst this
 exact hd q hq hq'
theorem y3a.mono {gs hs : List Nat} {bs : List (Nat → Prop)} (h : y3a s G gs bs) (hm : ∀ q ∈ gs, q ∈ hs) : y3a s G hs bs := fun k hk => by
 obtain ⟨q, hq, r⟩ := h k hk
 exact ⟨q, hm q hq, r⟩
end Go.Proofs.YthgdjjdigalckaaGreat.R
