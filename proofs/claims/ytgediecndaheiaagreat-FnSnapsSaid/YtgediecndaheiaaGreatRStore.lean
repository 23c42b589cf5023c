/- Stores. Conditions: the types lie as the context says. -/
import Derived.Test.YtgediecndaheiaaGreatRNew
import Derived.Laws.IdiomCopy
set_option linter.all false
namespace Go.Proofs.YtgediecndaheiaaGreat.R
open Go.RowKit
variable {P : Program} {C : Ctx} {w0 : World} {lent : Nat → Prop} {H0 : Base} {s : St} {a : Act} {w : World} {G : Gh} {o : Oper} {K : Act → World → Prop} {Q : Exit → Act → World → Prop}
def J5 (cur : Array Value) (o : Nat) : List Value → Array Value
 | [] => cur
 | v :: r => J5 (cur.setIfInBounds o v) (o + 1) r
theorem Yc : ∀ (vs : List Value) (cur : Array Value) (o : Nat), (J5 cur o vs).size = cur.size
 | [], _, _ => rfl
 | v :: r, cur, o => by simp [J5, Yc r]
theorem jp : ∀ (vs : List Value) (cur : Array Value) (o j : Nat), o + vs.length ≤ cur.size → (J5 cur o vs)[j]? = if o ≤ j ∧ j < o + vs.length then vs[j - o]? else cur[j]?
 | [], cur, o, j, _ => by
  simp only [J5, List.length_nil, Nat.add_zero]
  rw [if_neg (by omega)]
 | v :: r, cur, o, j, h => by
  simp only [List.length_cons] at h
  rw [J5, jp r _ (o + 1) j (by simp; omega)]
  by_cases h1 : o + 1 ≤ j ∧ j < o + 1 + r.length
  ·rw [if_pos h1, if_pos (by simp; omega), show j - o = (j - (o + 1)) + 1 by omega, List.getElem?_cons_succ]
  ·rw [if_neg h1]
   by_cases h2 : j = o
   ·subst h2
    rw [if_pos (by simp), Array.getElem?_setIfInBounds_self_of_lt (by omega)]
    simp
   ·rw [if_neg (by simp; omega), Array.getElem?_setIfInBounds_ne (fun e => h2 e.symm)]
theorem jq (b : Nat) {e : Nat} {fz : Nat × Nat} : ∀ (vs : List Value) (o : Nat) (w : World) (cur : Array Value), w.heap[b]? = some (.cells cur e fz) → (w.setCells b o vs).heap[b]? = some (.cells (J5 cur o vs) e fz)
 | [], _, _, _, h => h
 | v :: r, o, w, cur, h => jq b r (o + 1) _ _ (by
   have hlt := (Array.getElem?_eq_some_iff.1 h).1
   simp only [World.setCell, Array.getElem?_modify, if_true, h, Option.map_some]
   rfl)
theorem YY (b : Nat) : ∀ (vs : List Value) (o : Nat) (w : World) (k : Nat), k ≠ b → (w.setCells b o vs).heap[k]? = w.heap[k]?
 | [], _, _, _, _ => rfl
 | v :: r, o, w, k, h => by
  rw [World.setCells, YY b r (o + 1) _ k h]
  simp only [World.setCell, Array.getElem?_modify]
  rw [if_neg (Ne.symm h)]
theorem Zh (b : Nat) : ∀ (vs : List Value) (o : Nat) (w : World), (w.setCells b o vs).os = w.os ∧ (w.setCells b o vs).tape = w.tape ∧ (w.setCells b o vs).output = w.output ∧ (w.setCells b o vs).heap.size = w.heap.size
 | [], _, _ => ⟨rfl, rfl, rfl, rfl⟩
 | v :: r, o, w => by
  obtain ⟨h1, h2, h3, h4⟩ := Zh b r (o + 1) (w.setCell ⟨b, o, none⟩ v)
  exact ⟨h1, h2, h3, h4.trans (by simp [World.setCell])⟩
theorem Wl {α : Type} : ∀ (l : List α) (o : Nat) (xs l' : List α), jm l o xs = some l' → l'.length = l.length ∧ (xs = [] ∨ o + xs.length ≤ l.length) ∧ ∀ j : Nat, l'[j]? = if o ≤ j ∧ j < o + xs.length then xs[j - o]? else l[j]?
 | l, o, [], l', h => by
  have : l = l' := by simpa [jm] using h
  subst this
  refine ⟨rfl, .inl rfl, fun j => ?_⟩
  rw [if_neg (by simp only [List.length_nil]; omega)]
 | [], o, _ :: _, l', h => by simp [jm] at h
 | a :: l, 0, x :: xs, l', h => by
  simp only [jm] at h
  cases hr : jm l 0 xs with
  | none => simp [hr] at h
  | some r =>
   simp only [hr, Option.some.injEq] at h
   subst h
   obtain ⟨h1, h2, h3⟩ := Wl l 0 xs r hr
   refine ⟨by simp [h1], .inr ?_, fun j => ?_⟩
   ·rcases h2 with rfl | h2
    ·simp
    ·simp only [List.length_cons]
     omega
   ·cases j with
    | zero => simp
    | succ j =>
     simp only [List.getElem?_cons_succ, h3 j]
     by_cases hj : 0 ≤ j ∧ j < 0 + xs.length
     ·rw [if_pos hj, if_pos (by simp; omega)]
      simp
     ·rw [if_neg hj, if_neg (by simp; omega)]
 | a :: l, o + 1, x :: xs, l', h => by
  simp only [jm] at h
  cases hr : jm l o (x :: xs) with
  | none => simp [hr] at h
  | some r =>
   simp only [hr, Option.some.injEq] at h
   subst h
   obtain ⟨h1, h2, h3⟩ := Wl l o (x :: xs) r hr
   refine ⟨by simp [h1], .inr ?_, fun j => ?_⟩
   ·rcases h2 with h2 | h2
    ·simp at h2
    ·simp only [List.length_cons] at h2 ⊢
     omega
   ·cases j with
    | zero => simp
    | succ j =>
     simp only [List.getElem?_cons_succ, h3 j]
     by_cases hj : o ≤ j ∧ j < o + (x :: xs).length
     ·rw [if_pos hj, if_pos (by simp at hj ⊢; omega), show j + 1 - (o + 1) = j - o by omega]
     ·rw [if_neg hj, if_neg (by simp at hj ⊢; omega)]
theorem Qm {G : Gh} : ∀ {l : List A} {vs : List Value}, Ku l = true → RL G l vs → ∀ v ∈ vs, v.oneCell' = true
 | [], [], _, _, v, hv => by simp at hv
 | x :: l, u :: vs, h, hr, v, hv => by
  simp only [Ku, Bool.and_eq_true] at h
  rcases List.mem_cons.1 hv with rfl | hv
  ·exact (y3H h.1 hr.1).1
  ·exact Qm h.2 hr.2 v hv
theorem Qn {G : Gh} {x : A} {v : Value} (h1 : Ku x.cells = true) (hr : RA G x v) : RL G x.cells v.cells.toList := by
 cases x with
 | agg l =>
  obtain ⟨cs, rfl, hl⟩ := hr
  simpa [A.cells, Value.cells] using hl
 | _ =>
  simp only [A.cells, Ku, Bool.and_true] at h1
  have := (y3H h1 hr).2
  rw [this]
  exact ⟨hr, trivial⟩
theorem Kx (h : Rel P w0 lent H0 s a w G) {i k : Nat} {ob : Ob} (hi : z4 s.o i = some ob) (hb : zR G i ob k) : VQ w0 lent (s.set i .gone) G k := by
 obtain ⟨h1, h2⟩ := h.away i ob k hi hb
 refine ⟨h1, h2, fun j oj hj hbj => ?_⟩
 have hj' : z4 (qW s.o i .gone) j = some oj := hj
 rw [wM] at hj'
 by_cases hji : j = i
 ·simp only [hji, if_true] at hj'
  obtain ⟨_, _, rfl⟩ := Option.map_eq_some_iff.1 hj'
  simp [zR] at hbj
 ·simp only [hji, if_false] at hj'
  exact hji (h.apart j i oj ob k hj' hi hbj hb)
theorem Rel.setBox (h : Rel P w0 lent H0 s a w G) {b off : Nat} {cs cs' l : List A} {vs : List Value} (hb : z4 s.o b = some (.box cs)) (hr : jm cs off l = some cs') (hl : RL G l vs) (h1 : ∀ v ∈ vs, v.oneCell' = true) :
  Rel P w0 lent H0 (s.set b (.box cs')) a (w.setCells (G.g b).1 ((G.g b).2 + off) vs) G ∧
  (∀ j, j < vs.length → (w.cell? ⟨(G.g b).1, (G.g b).2 + off + j, none⟩).isSome = true ∧ w.frozen? ⟨(G.g b).1, (G.g b).2 + off + j, none⟩ = false) := by
 obtain ⟨hlen, hfit, hget⟩ := Wl cs off l cs' hr
 have hro := h.objs b _ hb
 have hll := hl.length
 have hin : ∀ j, j < vs.length → (w.cell? ⟨(G.g b).1, (G.g b).2 + off + j, none⟩).isSome = true ∧ w.frozen? ⟨(G.g b).1, (G.g b).2 + off + j, none⟩ = false := by
  intro j hj
  have hlt : off + j < cs.length := by
   rcases hfit with rfl | hfit
   ·simp at hll
    omega
   ·omega
  obtain ⟨hf, v, hv, _⟩ := hro.2 (off + j) _ (List.getElem?_eq_getElem hlt)
  rw [← Nat.add_assoc] at hf hv
  exact ⟨by rw [hv]; rfl, hf⟩
 refine ⟨?_, hin⟩
 obtain ⟨e1, e2, e3, e4⟩ := Zh (G.g b).1 vs ((G.g b).2 + off) w
 have h2 := (h.gone b).heap (w' := w.setCells (G.g b).1 ((G.g b).2 + off) vs) e1 e2 e3 (by omega) (fun k hk => by
  by_cases hkb : k = (G.g b).1
  ·subst hkb
   exact .inr (Kx h hb rfl)
  ·exact .inl (YY _ _ _ _ _ hkb))
 have h3 := h2.set (i := b) (ob := .box cs') ⟨by rw [e4]; exact hro.1, fun j x hx => ?_⟩ (fun k hk => ?_)
 ·rw [St.set_set] at h3
  exact h3
 ·rw [World.frozen?_setCells]
  rw [hget j] at hx
  by_cases hj : off ≤ j ∧ j < off + l.length
  ·rw [if_pos hj] at hx
   obtain ⟨v, hv, hrv⟩ := hl.get (j - off) x hx
   have hlt : j - off < vs.length := by omega
   have hcell := World.cell?_setCells_in (G.g b).1 vs ((G.g b).2 + off) w (fun i hi => (hin i hi).1) (j - off) hlt
   rw [show (G.g b).2 + off + (j - off) = (G.g b).2 + j by omega] at hcell
   have hvv : vs[j - off] = v := by
    rw [List.getElem?_eq_getElem hlt] at hv
    injection hv
   rw [hvv] at hcell
   refine ⟨?_, v, hcell, h1 v (List.mem_of_getElem? hv), hrv⟩
   have := (hin (j - off) hlt).2
   rwa [show (G.g b).2 + off + (j - off) = (G.g b).2 + j by omega] at this
  ·rw [if_neg hj] at hx
   obtain ⟨hf, v, hv, h1v, hrv⟩ := hro.2 j x hx
   refine ⟨hf, v, ?_, h1v, hrv⟩
   rw [World.cell?_setCells_out (G.g b).1 vs ((G.g b).2 + off) w _ (fun _ _ => by simp only; omega)]
   exact hv
 ·have hk' : (G.g b).1 = k := by simpa [zR] using hk
  subst hk'
  obtain ⟨f1, f2, f3⟩ := Kx h hb rfl
  exact ⟨f1, f2, fun j oj _ hj => f3 j oj hj⟩
theorem y87 (hT : TOk C P) {t : Nat} {ti : TI} (ht : C.info t = some ti) (b o : Nat) (v : Value) (hl : v.cells.toList.length = ti.ts.length) (hin : ∀ j, j < v.cells.toList.length → (w.cell? ⟨b, o + j, none⟩).isSome = true ∧ w.frozen? ⟨b, o + j, none⟩ = false) (h1 : ∀ u ∈ v.cells.toList, u.oneCell' = true) :
  (Instr.storeAt t (.pointer (some ⟨b, o, none⟩)) v).run P w = .ok () (w.setCells b o v.cells.toList) := by
 have h2 := run_storeCells_cells (P := P) b o v.cells.toList 0 w (fun j hj => by simpa using (hin j hj).1) (fun j hj => by simpa using (hin j hj).2) h1
 have hl' : v.cells.size = ti.ts.length := by simpa using hl
 simp only [Nat.add_zero] at h2
 simp [Instr.storeAt, Instr.sureAddr, storeVar, Vm hT ht, hl', h2]
end Go.Proofs.YtgediecndaheiaaGreat.R
