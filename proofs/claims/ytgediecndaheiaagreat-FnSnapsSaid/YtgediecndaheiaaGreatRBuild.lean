/- Literals. Conditions: the types lie as the context says. -/
import Derived.Test.YtgediecndaheiaaGreatRApp
import Derived.Laws.Tables
import Derived.Great.BuildSlice
set_option linter.all false
namespace Go.Proofs.YtgediecndaheiaaGreat.R
open Go.RowKit
variable {P : Program} {C : Ctx} {w0 : World} {lent : Nat → Prop} {H0 : Base} {s : St} {a : Act} {w : World} {G : Gh} {o : Oper} {K : Act → World → Prop} {Q : Exit → Act → World → Prop} {R : Type} {k : Eff → Option R} {r : R} {lk : Lk} {call : C.Sem} {ct wn : Bool}
theorem y5s (off : Nat) : ∀ (l : List Value) (arr : Array Value) (j : Nat), (l.zipIdx j).foldl (fun cs p => cs.setIfInBounds (off + p.2) p.1) arr = J5 arr (off + j) l
 | [], _, _ => rfl
 | v :: l, arr, j => by
  simp only [List.zipIdx_cons, List.foldl_cons, J5]
  exact y5s off l _ (j + 1)
theorem y8a (place : Nat → Option (Nat × Nat)) (arr : Array Value) (i off size : Nat) (v : Value) (rest : List (Nat × Value)) (hp : place i = some (off, size)) (h1 : v.cells.size = size) (h2 : off + size ≤ arr.size) :
  Instr.fill place arr ((i, v) :: rest) = Instr.fill place (J5 arr off v.cells.toList) rest := by
 have e : v.cells.zipIdx.foldl (fun cs (c, j) => cs.setIfInBounds (off + j) c) arr = J5 arr off v.cells.toList := by
  rw [← Array.foldl_toList, Array.toList_zipIdx]
  exact y5s off _ arr 0
 rw [Instr.fill]
 simp only [hp]
 rw [if_neg (by simp [h1]; omega), e]
theorem y9S {G : Gh} {cs l cs' : List A} {off : Nat} {arr : Array Value} {vs : List Value} (hs : jm cs off l = some cs') (hc : RL G cs arr.toList) (hl : RL G l vs) : RL G cs' (J5 arr off vs).toList ∧ (J5 arr off vs).size = arr.size := by
 obtain ⟨hlen, hfit, hget⟩ := Wl cs off l cs' hs
 have h1 := hc.length
 have h2 := hl.length
 have hsz := Yc vs arr off
 refine ⟨RL.of ?_ fun i x v hx hv => ?_, hsz⟩
 ·rw [hlen, h1, Array.length_toList, Array.length_toList, hsz]
 ·rcases hfit with rfl | hfit
  ·cases vs with
   | cons _ _ => simp at h2
   | nil =>
    have e1 := hget i
    rw [if_neg (by simp only [List.length_nil]; omega)] at e1
    rw [e1] at hx
    obtain ⟨u, hu, hr⟩ := hc.get i x hx
    have : u = v := by
     have hv' : arr.toList[i]? = some v := hv
     rw [hu] at hv'
     injection hv'
    exact this ▸ hr
  ·have h1' : cs.length = arr.size := by rw [h1, Array.length_toList]
   have e2 := jp vs arr off i (by omega)
   rw [hget i] at hx
   rw [Array.getElem?_toList, e2, ← h2] at hv
   by_cases hi : off ≤ i ∧ i < off + l.length
   ·rw [if_pos hi] at hx hv
    obtain ⟨u, hu, hr⟩ := hl.get (i - off) x hx
    rw [hu] at hv
    injection hv with hv
    exact hv ▸ hr
   ·rw [if_neg hi] at hx hv
    obtain ⟨u, hu, hr⟩ := hc.get i x hx
    rw [Array.getElem?_toList, hv] at hu
    injection hu with hu
    exact hu ▸ hr
theorem y3N (hT : TOk C P) (h : Rel P w0 lent H0 s a w G) {fs : List (Nat × Nat)} {places : Array (Nat × Nat)} (hpl : ∀ (i off t : Nat) (ti : TI), fs[i]? = some (off, t) → C.info t = some ti → places[i]? = some (off, ti.ts.length)) :
  ∀ (parts : List (Nat × Operand)) (cs l : List A) (arr : Array Value), y1i C s.opd fs cs parts = some l → RL G cs arr.toList → ∃ arr', Instr.fill (places[·]?) arr (parts.map fun (i, x) => (i, a.eval x)) = some arr' ∧ RL G l arr'.toList
 | [], cs, l, arr, hp, hr => by
  have : cs = l := by simpa [y1i] using hp
  subst this
  exact ⟨arr, rfl, hr⟩
 | (i, x) :: parts, cs, l, arr, hp, hr => by
  simp only [y1i] at hp
  cases hf : fs[i]? with
  | none => simp [hf] at hp
  | some ot =>
   obtain ⟨off, t⟩ := ot
   simp only [hf] at hp
   cases ht : C.info t with
   | none => simp [ht] at hp
   | some ti =>
    simp only [ht] at hp
    cases hb : Nat.beq (s.opd x).cells.length ti.ts.length && Ku (s.opd x).cells with
    | false => simp [hb] at hp
    | true =>
     simp only [hb, cond_true] at hp
     simp only [Bool.and_eq_true] at hb
     cases hs : jm cs off (s.opd x).cells with
     | none => simp [hs] at hp
     | some cs' =>
      simp only [hs] at hp
      have hx := Qn hb.2 (h.opd x)
      have hxl := hx.length
      have hbl := Nat.eq_of_beq_eq_true hb.1
      obtain ⟨hr', hsz⟩ := y9S hs hr hx
      obtain ⟨arr', h1, h2⟩ := y3N hT h hpl parts cs' l _ hp hr'
      refine ⟨arr', ?_, h2⟩
      rw [List.map_cons]
      have hv : (a.eval x).cells.size = ti.ts.length := by rw [← Array.length_toList, ← hxl, hbl]
      obtain ⟨_, hfit, _⟩ := Wl cs off _ cs' hs
      have hle : off + ti.ts.length ≤ arr.size ∨ (s.opd x).cells = [] := by
       have e0 : cs.length = arr.size := by rw [hr.length, Array.length_toList]
       rcases hfit with h0 | h0
       ·exact .inr h0
       ·exact .inl (by omega)
      rcases hle with hle | hle
      ·rw [y8a _ _ _ _ _ _ _ (hpl i off t ti hf ht) hv hle]
       exact h1
      ·rw [hle] at hbl
       obtain ⟨_, _, _, _, _, _, _, hp0, _⟩ := hT.info t ti ht
       rw [← hbl] at hp0
       exact absurd hp0 (Nat.lt_irrefl 0)
theorem ybl {α β : Type} {f : α → Option β} (d : β) : ∀ {l : List α}, (∀ x ∈ l, ∃ y, f x = some y) → l.mapM f = some (l.map fun x => (f x).getD d)
 | [], _ => rfl
 | x :: l, h => by
  obtain ⟨b, hb⟩ := h x (by simp)
  rw [List.mapM_cons, hb, ybl d (l := l) (fun y hy => h y (by simp [hy]))]
  simp [hb]
end Go.Proofs.YtgediecndaheiaaGreat.R
