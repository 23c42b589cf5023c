/- Rows of one's own with rows inside. No condition. -/
import Derived.Test.YthgdjjdigalckaaGreatRSettle
set_option linter.all false
namespace Go.Proofs.YthgdjjdigalckaaGreat.R
open Go.RowKit
variable {P : Program} {C : Ctx} {w0 : World} {lent : Nat → Prop} {H0 : Base} {s : St} {a : Act} {w : World} {G : Gh} {o : Oper} {K : Act → World → Prop} {Q : Exit → Act → World → Prop} {R : Type} {k : Eff → Option R} {r : R} {lk : Lk} {call : C.Sem} {ct wn : Bool}
theorem Zy {i : Nat} : ∀ (l : List (Nat × Ob)) (s : St), Vp (ze l) i = false → yX (s.setAll l).o i = yX s.o i
 | [], _, _ => rfl
 | (j, x) :: l, s, h => by
  simp only [ze, Vp, Bool.or_eq_false_iff] at h
  rw [St.setAll, Zy l (s.set j x) h.2]
  show yX (Q5 s.o j x) i = _
  rw [wU, if_neg]
  intro e
  subst e
  rw [yt] at h
  exact absurd h.1 (by simp)
theorem y2B (lk : Lk) {i : Nat} : ∀ is : List Nat, Vp is i = false → Vp (ze (settles lk is)) i = false
 | [], _ => rfl
 | j :: is, h => by
  simp only [Vp, Bool.or_eq_false_iff] at h
  have ih := y2B lk is h.2
  unfold settles
  split
  ·simp only [ze, Vp, h.1, ih, Bool.or_false]
  ·simp only [ze, Vp, h.1, ih, Bool.or_false]
theorem St.setAll_append : ∀ (l l' : List (Nat × Ob)) (s : St), s.setAll (l ++ l') = (s.setAll l).setAll l'
 | [], _, _ => rfl
 | (i, x) :: l, l', s => St.setAll_append l l' (s.set i x)
theorem w3 {l : List Nat} {i : Nat} : Vp l i = true ↔ i ∈ l := by
 induction l with
 | nil => simp [Vp]
 | cons j r ih =>
  simp only [Vp, Bool.or_eq_true, ih, List.mem_cons]
  constructor
  ·rintro (h | h)
   ·exact .inl (Nat.eq_of_beq_eq_true h).symm
   ·exact .inr h
  ·rintro (rfl | h)
   ·exact .inl (yt _)
   ·exact .inr h
theorem y0u : ∀ {l : List Nat}, y1r l = true → l.Nodup
 | [], _ => List.nodup_nil
 | i :: r, h => by
  simp only [y1r, Bool.and_eq_true, Bool.not_eq_true'] at h
  refine List.nodup_cons.2 ⟨fun hi => ?_, y0u h.2⟩
  rw [w3.2 hi] at h
  exact absurd h.1 (by simp)
theorem Rel.gones : ∀ (gs : List Nat) {s : St}, Rel P w0 lent H0 s a w G → Rel P w0 lent H0 (s.setAll (Jg gs)) a w G
 | [], _, h => h
 | i :: gs, _, h => Rel.gones gs (h.gone i)
theorem y2c : ∀ (gs : List Nat) (s : St) (i : Nat), yX (s.setAll (Jg gs)).o i = if i ∈ gs then (yX s.o i).map (fun _ => .gone) else yX s.o i
 | [], s, i => by simp [Jg, St.setAll]
 | j :: gs, s, i => by
  have hs : yX (s.set j .gone).o i = if i = j then (yX s.o j).map (fun _ => .gone) else yX s.o i := wU j i .gone s.o
  rw [Jg, St.setAll, y2c gs, hs]
  by_cases hij : i = j
  ·subst hij
   by_cases hg : i ∈ gs
   ·cases yX s.o i <;> simp [hg]
   ·simp [hg]
  ·simp [hij]
def In (bs : List (Nat → Prop)) (k : Nat) : Prop := ∃ b ∈ bs, b k
def y4U (bs : List (Nat → Prop)) : Prop := bs.Pairwise fun b c => ∀ k, b k → ¬ c k
def y2d (s : St) (G : Gh) (gs : List Nat) (bs : List (Nat → Prop)) : Prop := ∀ k, In bs k → ∃ q ∈ gs, ∃ ob, yX s.o q = some ob ∧ zJ G q ob k
theorem In.cons {b : Nat → Prop} {bs : List (Nat → Prop)} {k : Nat} : In (b :: bs) k ↔ b k ∨ In bs k := by simp [In]
theorem In.append {bs cs : List (Nat → Prop)} {k : Nat} : In (bs ++ cs) k ↔ In bs k ∨ In cs k := by simp [In, or_and_right, exists_or]
theorem In.nil {k : Nat} : ¬ In [] k := by simp [In]
theorem ya2 (h : Rel P w0 lent H0 s a w G) {gs hs : List Nat} {bs cs : List (Nat → Prop)} (hb : y2d s G gs bs) (hc : y2d s G hs cs) (hd : ∀ q ∈ gs, q ∉ hs) : ∀ k, In bs k → ¬ In cs k := by
 intro k h1 h2
 obtain ⟨q, hq, ob, hl, hbq⟩ := hb k h1
 obtain ⟨q', hq', ob', hl', hbq'⟩ := hc k h2
 have := h.apart q q' _ _ k hl hl' hbq hbq'
 subst this
 exact hd q hq hq'
theorem y2d.mono {gs hs : List Nat} {bs : List (Nat → Prop)} (h : y2d s G gs bs) (hm : ∀ q ∈ gs, q ∈ hs) : y2d s G hs bs := fun k hk => by
 obtain ⟨q, hq, r⟩ := h k hk
 exact ⟨q, hm q hq, r⟩
end Go.Proofs.YthgdjjdigalckaaGreat.R
