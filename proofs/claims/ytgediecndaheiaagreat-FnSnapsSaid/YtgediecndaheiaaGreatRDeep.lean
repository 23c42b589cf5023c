/- Rows of one's own with rows inside. No condition. -/
import Derived.Test.YtgediecndaheiaaGreatRSettle
set_option linter.all false
namespace Go.Proofs.YtgediecndaheiaaGreat.R
open Go.RowKit
variable {P : Program} {C : Ctx} {w0 : World} {lent : Nat → Prop} {H0 : Base} {s : St} {a : Act} {w : World} {G : Gh} {o : Oper} {K : Act → World → Prop} {Q : Exit → Act → World → Prop} {R : Type} {k : Eff → Option R} {r : R} {lk : Lk} {call : C.Sem} {ct wn : Bool}
theorem ZI {i : Nat} : ∀ (l : List (Nat × Ob)) (s : St), Vi (zh l) i = false → z4 (s.setAll l).o i = z4 s.o i
 | [], _, _ => rfl
 | (j, x) :: l, s, h => by
  simp only [zh, Vi, Bool.or_eq_false_iff] at h
  rw [St.setAll, ZI l (s.set j x) h.2]
  show z4 (qW s.o j x) i = _
  rw [wM, if_neg]
  intro e
  subst e
  rw [yw] at h
  exact absurd h.1 (by simp)
theorem y2z (lk : Lk) {i : Nat} : ∀ is : List Nat, Vi is i = false → Vi (zh (settles lk is)) i = false
 | [], _ => rfl
 | j :: is, h => by
  simp only [Vi, Bool.or_eq_false_iff] at h
  have ih := y2z lk is h.2
  unfold settles
  split
  ·simp only [zh, Vi, h.1, ih, Bool.or_false]
  ·simp only [zh, Vi, h.1, ih, Bool.or_false]
theorem St.setAll_append : ∀ (l l' : List (Nat × Ob)) (s : St), s.setAll (l ++ l') = (s.setAll l).setAll l'
 | [], _, _ => rfl
 | (i, x) :: l, l', s => St.setAll_append l l' (s.set i x)
theorem JV {l : List Nat} {i : Nat} : Vi l i = true ↔ i ∈ l := by
 induction l with
 | nil => simp [Vi]
 | cons j r ih =>
  simp only [Vi, Bool.or_eq_true, ih, List.mem_cons]
  constructor
  ·rintro (h | h)
   ·exact .inl (Nat.eq_of_beq_eq_true h).symm
   ·exact .inr h
  ·rintro (rfl | h)
   ·exact .inl (yw _)
   ·exact .inr h
theorem y0k : ∀ {l : List Nat}, y1h l = true → l.Nodup
 | [], _ => List.nodup_nil
 | i :: r, h => by
  simp only [y1h, Bool.and_eq_true, Bool.not_eq_true'] at h
  refine List.nodup_cons.2 ⟨fun hi => ?_, y0k h.2⟩
  rw [JV.2 hi] at h
  exact absurd h.1 (by simp)
theorem Rel.gones : ∀ (gs : List Nat) {s : St}, Rel P w0 lent H0 s a w G → Rel P w0 lent H0 (s.setAll (Jd gs)) a w G
 | [], _, h => h
 | i :: gs, _, h => Rel.gones gs (h.gone i)
theorem y25 : ∀ (gs : List Nat) (s : St) (i : Nat), z4 (s.setAll (Jd gs)).o i = if i ∈ gs then (z4 s.o i).map (fun _ => .gone) else z4 s.o i
 | [], s, i => by simp [Jd, St.setAll]
 | j :: gs, s, i => by
  have hs : z4 (s.set j .gone).o i = if i = j then (z4 s.o j).map (fun _ => .gone) else z4 s.o i := wM j i .gone s.o
  rw [Jd, St.setAll, y25 gs, hs]
  by_cases hij : i = j
  ·subst hij
   by_cases hg : i ∈ gs
   ·cases z4 s.o i <;> simp [hg]
   ·simp [hg]
  ·simp [hij]
def In (bs : List (Nat → Prop)) (k : Nat) : Prop := ∃ b ∈ bs, b k
def y4Y (bs : List (Nat → Prop)) : Prop := bs.Pairwise fun b c => ∀ k, b k → ¬ c k
def y26 (s : St) (G : Gh) (gs : List Nat) (bs : List (Nat → Prop)) : Prop := ∀ k, In bs k → ∃ q ∈ gs, ∃ ob, z4 s.o q = some ob ∧ zR G q ob k
theorem In.cons {b : Nat → Prop} {bs : List (Nat → Prop)} {k : Nat} : In (b :: bs) k ↔ b k ∨ In bs k := by simp [In]
theorem In.append {bs cs : List (Nat → Prop)} {k : Nat} : In (bs ++ cs) k ↔ In bs k ∨ In cs k := by simp [In, or_and_right, exists_or]
theorem In.nil {k : Nat} : ¬ In [] k := by simp [In]
theorem y9O (h : Rel P w0 lent H0 s a w G) {gs hs : List Nat} {bs cs : List (Nat → Prop)} (hb : y26 s G gs bs) (hc : y26 s G hs cs) (hd : ∀ q ∈ gs, q ∉ hs) : ∀ k, In bs k → ¬ In cs k := by
 intro k h1 h2
 obtain ⟨q, hq, ob, hl, hbq⟩ := hb k h1
 obtain ⟨q', hq', ob', hl', hbq'⟩ := hc k h2
 have := h.apart q q' _ _ k hl hl' hbq hbq'
 subst this
 exact hd q hq hq'
theorem y26.mono {gs hs : List Nat} {bs : List (Nat → Prop)} (h : y26 s G gs bs) (hm : ∀ q ∈ gs, q ∈ hs) : y26 s G hs bs := fun k hk => by
 obtain ⟨q, hq, r⟩ := h k hk
 exact ⟨q, hm q hq, r⟩
end Go.Proofs.YtgediecndaheiaaGreat.R
