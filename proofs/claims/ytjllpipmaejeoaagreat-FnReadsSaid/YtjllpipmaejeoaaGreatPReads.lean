/- CutAge, Calm, Prune, Prune2, Draw, Crc, ReadW, Four, Crc1, Draw2, Put4, Txt, PutPool, Ops, Apply, Apply2, Take, Do1, Do2, Do3, Sem1, Move, Move2, Apply3, EntDraw, DrawP, DrawQ, Sem2, Sem3, Sem4, Same, Reads. No condition. -/
import Derived.Test.YtjllpipmaejeoaaGreatPKeySem2
set_option linter.all false
namespace Go.Proofs.YtjllpipmaejeoaaGreat.Pl
open Go.Proofs.YtjllpipmaejeoaaGreat.R Go.Proofs.YtjllpipmaejeoaaGreat.XR
def y1f (fr id : Int) (x : ya) : ya := if (x.2 == id) = true then (x.1, fr) else x
def yyf (l : List ya) (i : Nat) (id : Int) : List ya := (l.map (y1f (l.getD i zq).2 id)).eraseIdx i
def y3K (l : List ya) (id : Int) : List ya × Bool := if zi l id < 0 then (l, false) else if jA l = true then (yyf l (zi l id).toNat id, true) else (l, false)
theorem y2M {A : Type} (p : A → Bool) : ∀ (l : List A) (i : Int), zX p l i = -1 ∨ i ≤ zX p l i ∧ zX p l i < i + l.length
 | [], _ => .inl rfl
 | a :: l, i => by
  rw [zX]
  split
  ·refine .inr ⟨Int.le_refl _, by simp only [List.length_cons]; omega⟩
  ·rcases y2M p l (i + 1) with h | ⟨h1, h2⟩
   ·exact .inl h
   ·exact .inr ⟨by omega, by simp only [List.length_cons]; omega⟩
theorem y4j (l : List ya) (id : Int) (hl : l.length ≤ 1048576) : JA (l, id) = some (y3K l id) := by
 unfold JA y3K
 simp only [Z9 l id (by omega), kK l hl, Option.bind_some]
 by_cases h0 : zi l id < 0
 ·rw [decide_eq_true h0, if_pos h0]
  simp only [cond_true, Option.bind_some]
  rw [if_pos (by simp only [List.length_nil]; omega)]
  rfl
 ·rw [decide_eq_false h0, if_neg h0]
  cases hA : jA l with
  | false =>
   simp only [cond_false, Bool.not_false, Option.bind_some, cond_true]
   rw [if_pos (by simp only [List.length_nil]; omega)]
   rfl
  | true =>
   simp only [cond_false, Bool.not_true, Option.bind_some, if_true]
   have hi1 : zi l id < (l.length : Int) := by
    rcases y2M (fun a : ya => a.1 == id) l 0 with h | ⟨h1, h2⟩
    ·have : zi l id = -1 := h
     omega
    ·have : zi l id = zX (fun a : ya => a.1 == id) l 0 := rfl
     omega
   generalize zi l id = i at h0 hi1
   unfold qW
   have key := ZH (step := Wl (fun x4 => some (x4, true))) (fun x : List ya × Int × Int × Int × List ya => l.length - x.2.2.2.1.toNat) (fun x => x.1 = l ∧ x.2.1 = id ∧ x.2.2.1 = i ∧ 0 ≤ x.2.2.2.1 ∧ x.2.2.2.1 ≤ (l.length : Int) ∧ x.2.2.2.2.length ≤ x.2.2.2.1.toNat)
    (fun x => some (x.2.2.2.2 ++ (if x.2.2.2.1 ≤ i then ((l.drop x.2.2.2.1.toNat).map (y1f (l.getD i.toNat zq).2 id)).eraseIdx (i - x.2.2.2.1).toNat else (l.drop x.2.2.2.1.toNat).map (y1f (l.getD i.toNat zq).2 id)), true)) ?_ (l, id, i, 0, []) ⟨rfl, rfl, rfl, Int.le_refl _, by simp, by simp⟩ (by simp; omega)
   ·rw [key]
    simp only [List.nil_append]
    rw [if_pos (by omega), Int.sub_zero]
    rfl
   ·rintro again ⟨l', id', i', j, o⟩ ⟨rfl, rfl, rfl, j0, j1, ho⟩ hag
    simp only at j0 j1 ho hl hi1 h0 ⊢
    unfold Wl
    by_cases hj : j < (l'.length : Int)
    ·have hw : Go.IntKind.wrap .i64 (j + 1) = j + 1 := w64 (by omega) (by omega)
     have hd := we zq l' j j0 hj
     have e1 : (j + 1).toNat = j.toNat + 1 := by omega
     have hlen : ∀ y : ya, (List.length o + List.length ([y] : List ya)) * 16 < 140737488355328 := fun y => by simp only [List.length_cons, List.length_nil]; omega
     have hstep : ∀ y, y = y1f (l'.getD i'.toNat zq).2 id' (l'.getD j.toNat zq) → (bif (j != i') then if (List.length o + List.length ([y] : List ya)) * 16 < 140737488355328 then again (l', id', i', j + 1, o ++ [y]) else none else again (l', id', i', j + 1, o)) = some (o ++ (if j ≤ i' then ((l'.drop j.toNat).map (y1f (l'.getD i'.toNat zq).2 id')).eraseIdx (i' - j).toNat else (l'.drop j.toNat).map (y1f (l'.getD i'.toNat zq).2 id')), true) := by
      rintro y rfl
      rw [hd, List.map_cons]
      by_cases hji : j = i'
      ·rw [show (j != i') = false by simp [hji], cond_false, if_pos (by omega), show (i' - j).toNat = 0 by omega, List.eraseIdx_zero, List.tail_cons]
       have := hag (l', id', i', j + 1, o) ⟨rfl, rfl, rfl, by simp only; omega, by simp only; omega, by simp only; omega⟩ (by simp only; omega)
       rw [this]
       simp only
       rw [if_neg (by omega)]
      ·rw [show (j != i') = true by simpa using hji, cond_true, if_pos (hlen _)]
       have := hag (l', id', i', j + 1, o ++ [y1f (l'.getD i'.toNat zq).2 id' (l'.getD j.toNat zq)]) ⟨rfl, rfl, rfl, by simp only; omega, by simp only; omega, by simp only [List.length_append, List.length_cons, List.length_nil]; omega⟩ (by simp only; omega)
       rw [this]
       simp only
       by_cases hlt : j ≤ i'
       ·rw [if_pos hlt, if_pos (by omega), show (i' - j).toNat = (i' - (j + 1)).toNat + 1 by omega, List.eraseIdx_cons_succ, List.append_assoc]
        rfl
       ·rw [if_neg hlt, if_neg (by omega), List.append_assoc]
        rfl
     have hrd : yK l' j = l'.getD j.toNat zq := rfl
     simp only [hw]
     rw [decide_eq_true hj, cond_true, if_pos j0, if_pos hj]
     by_cases hid : (l'.getD j.toNat zq).2 = id'
     ·have hb : ((yK l' j).2 == id') = true := beq_iff_eq.2 hid
      rw [hb, cond_true, if_pos (by omega), if_pos hi1]
      exact hstep _ (by unfold y1f; rw [if_pos (beq_iff_eq.2 hid)]; rfl)
     ·have hb : ((yK l' j).2 == id') = false := beq_eq_false_iff_ne.2 hid
      rw [hb, cond_false]
      exact hstep _ (by unfold y1f; rw [if_neg (by simpa using hid)]; rfl)
    ·rw [decide_eq_false hj, cond_false, List.drop_of_length_le (by omega)]
     simp
def y2j (cs : List y8) (i : Int) : List y8 := if zr cs = true ∧ 0 ≤ i ∧ i ≤ 23 ∧ (cs.getD i.toNat yN).2.1 = true then cs.set i.toNat (Int.tmod (Go.IntKind.wrap .i64 ((cs.getD i.toNat yN).1 + 1)) 1000, false, 0) else cs
theorem y3L (cs : List y8) (i : Int) : (y2j cs i).length = cs.length := by
 unfold y2j
 split
 ·simp
 ·rfl
theorem y9O {cs : List y8} (h : zr cs = true) : cs.length = 24 := by
 unfold zr at h
 simp only [Bool.and_eq_true, beq_iff_eq] at h
 omega
theorem QK {cs : List y8} {i : Int} (h : ¬ (zr cs = true ∧ 0 ≤ i ∧ i ≤ 23 ∧ (cs.getD i.toNat yN).2.1 = true)) : y2j cs i = cs := if_neg h
theorem y8e {cs : List y8} {i : Int} (h : zr cs = true ∧ 0 ≤ i ∧ i ≤ 23 ∧ (cs.getD i.toNat yN).2.1 = true) : y2j cs i = cs.set i.toNat (Int.tmod (Go.IntKind.wrap .i64 ((cs.getD i.toNat yN).1 + 1)) 1000, false, 0) := if_pos h
theorem Kh (cs : List y8) (i : Int) (hc : cs.length ≤ 1048576) : Zq (cs, i) = some (y2j cs i) := by
 have e1 : zS cs = some cs := by
  unfold zS
  rw [if_pos (by simp only [List.length_nil]; omega)]
  rfl
 unfold Zq
 simp only [e1, Ji cs hc, Zj, Option.bind_some]
 cases hk : zr cs with
 | false =>
  rw [QK fun h => by rw [hk] at h; cases h.1]
  rfl
 | true =>
  have h24 := y9O hk
  have hw : Go.IntKind.wrap .i64 ((cs.length : Int) - 1) = 23 := by rw [w64 (by omega) (by omega)]; omega
  simp only [hw, cond_true, Option.bind_some]
  cases hi : inR i 0 23 with
  | false =>
   have : ¬ (0 ≤ i ∧ i ≤ 23) := fun h => by rw [zo.2 h] at hi; cases hi
   rw [QK fun h => this ⟨h.2.1, h.2.2.1⟩]
   rfl
  | true =>
   obtain ⟨i0, i1⟩ := zo.1 hi
   rw [cond_true, if_pos i0, if_pos (by omega)]
   have hrd : ym cs i = cs.getD i.toNat yN := rfl
   rw [hrd]
   cases hu : (cs.getD i.toNat yN).2.1 with
   | false =>
    rw [QK fun h => by have := h.2.2.2; rw [hu] at this; cases this]
    rfl
   | true =>
    simp only [Option.bind_some, cond_true]
    rw [if_pos i0, if_pos (by omega), if_pos i0, if_pos (by omega), y8e ⟨hk, i0, i1, hu⟩]
theorem y2k (cs : List y8) (i : Int) (hc : cs.length ≤ 1048576) : Jc (cs, i) = some (y2j cs i) := by
 have e1 : zw cs = some cs := by
  unfold zw
  rw [if_pos (by simp only [List.length_nil]; omega)]
  rfl
 unfold Jc
 simp only [e1, vj cs hc, Za, Option.bind_some]
 cases hk : zr cs with
 | false =>
  rw [QK fun h => by rw [hk] at h; cases h.1]
  rfl
 | true =>
  have h24 := y9O hk
  simp only [Bool.not_true, cond_false, Option.bind_some]
  cases hi : inR i 0 23 with
  | false =>
   have : ¬ (0 ≤ i ∧ i ≤ 23) := fun h => by rw [zo.2 h] at hi; cases hi
   rw [QK fun h => this ⟨h.2.1, h.2.2.1⟩]
   rfl
  | true =>
   obtain ⟨i0, i1⟩ := zo.1 hi
   rw [Bool.not_true, cond_false, if_pos i0, if_pos (by omega)]
   have hrd : ym cs i = cs.getD i.toNat yN := rfl
   rw [hrd]
   cases hu : (cs.getD i.toNat yN).2.1 with
   | false =>
    rw [QK fun h => by have := h.2.2.2; rw [hu] at this; cases this]
    rfl
   | true =>
    simp only [Option.bind_some, Bool.not_true, cond_false]
    rw [if_pos i0, if_pos (by omega), if_pos i0, if_pos (by omega), y8e ⟨hk, i0, i1, hu⟩]
end Go.Proofs.YtjllpipmaejeoaaGreat.Pl
namespace Go.Proofs.YtjllpipmaejeoaaGreat.Pl
open Go.Proofs.YtjllpipmaejeoaaGreat.R Go.Proofs.YtjllpipmaejeoaaGreat.XR
def ydL (l : List ya) (vs : List yh) (id : Int) : Bool := y88 vs id && ((Y2 l id).length : Int) == 1
def jG (q : List Int) (t : List y0) (l : List ya) (vs : List yh) (step : Int) (k : y7) : Bool :=
 if step = 1 then !y9F t l vs k else if step = 2 then (k.2.2.1 == 2) && !(jE t l k.1 k.2.1).1 else
  ydL l vs k.2.1 && !(YL q t k.1 ((Y2 l k.2.1).getD 0 0)).2.2.2.2.2
theorem yfz (l : List ya) (id : Int) : ∀ x ∈ Y2 l id, ∃ a ∈ l, a.1 = x := by
 have : ∀ (l : List ya) (s : List Int) (x : Int), x ∈ l.foldl (Vu id) s → x ∈ s ∨ ∃ a ∈ l, a.1 = x := by
  intro l
  induction l with
  | nil => intro s x h; exact .inl h
  | cons a l ih =>
   intro s x h
   rw [List.foldl_cons] at h
   rcases ih _ x h with h | ⟨b, hb, e⟩
   ·unfold Vu at h
    split at h
    ·rcases List.mem_append.1 h with h | h
     ·exact .inl h
     ·exact .inr ⟨a, by simp, (by simpa using h : x = a.1).symm⟩
    ·exact .inl h
   ·exact .inr ⟨b, by simp [hb], e⟩
 intro x hx
 rcases this l [] x hx with h | h
 ·simp at h
 ·exact h
theorem yaY {A : Type} {p : A → Bool} : ∀ (l : List A) (i : Int), Yo (fun _ a => p a) l i = false → ∀ a ∈ l, p a = false
 | b :: l, i, h, a, ha => by
  rw [Yo, Bool.or_eq_false_iff] at h
  rcases List.mem_cons.1 ha with rfl | ha
  ·exact h.1
  ·exact yaY l (i + 1) h.2 a ha
theorem yfA {l : List ya} (h : jA l = true) : ∀ a ∈ l, 1 ≤ a.1 := by
 unfold jA y2h at h
 simp only [Bool.and_eq_true, Bool.not_eq_true'] at h
 have h1 := h.1
 rw [y9E, Bool.or_eq_false_iff] at h1
 intro a ha
 have := yaY (p := fun a : ya => !inR a.1 1 60) l 0 h1.1 a ha
 simp only [Bool.not_eq_false'] at this
 exact (zo.1 this).1
section
variable (q : List Int) (t : List y0) (l : List ya) (cs : List y8) (vs : List yh) (z : Int)
theorem y3M (ht : TOk t) (hq : q.length ≤ 1048576) (hl : l.length ≤ 1048576) (hv : vs.length ≤ 1048576) (hpos : ∀ a ∈ l, 1 ≤ a.1) (step : Int) (k1 k2 k3 k4 k5 : Int) : Wi (q, t, l, cs, vs, z, step, k1, k2, k3, k4, k5) = some (jG q t l vs step (k1, k2, k3, k4, k5)) := by
 unfold Wi jG
 simp only [Bool.cond_eq_ite, beq_iff_eq, y1C q t l cs vs z k1 k2 k3 k4 k5 ht hl hv, y15 q t l k1 k2 ht hl, Option.bind_some]
 by_cases h1 : step = 1
 ·simp only [h1, if_true]
 by_cases h2 : step = 2
 ·subst h2
  simp only [if_true, if_neg (show ¬ (2 : Int) = 1 by omega)]
  by_cases h3 : k3 = 2
  ·have : (k3 == 2) = true := by simp [h3]
   rw [this, if_pos h3]
   rfl
  ·have : (k3 == 2) = false := by simpa using h3
   rw [this, if_neg h3]
   rfl
 simp only [h1, h2, if_false]
 unfold kF Z0 ydL
 simp only [kL l k2 hl, Qj q t l cs vs z k2 hv, Option.bind_some]
 cases y88 vs k2
 ·rfl
 by_cases hk : ((Y2 l k2).length : Int) = 1
 ·have g1 : (((Y2 l k2).length : Int) != 1) = false := by simp [hk]
  have g2 : (((Y2 l k2).length : Int) == 1) = true := by simp [hk]
  have hlt : (0 : Int) < ((Y2 l k2).length : Int) := by omega
  have hne : ((Y2 l k2).getD 0 0 == 0) = false := by
   have hm : (Y2 l k2).getD 0 0 ∈ Y2 l k2 := z4 0 (Y2 l k2) 0 (Int.le_refl _) hlt
   obtain ⟨a, ha, e⟩ := yfz l k2 _ hm
   have := hpos a ha
   simp only [beq_eq_false_iff_ne, ne_eq]
   omega
  have hx : zt (Y2 l k2) 0 = (Y2 l k2).getD 0 0 := rfl
  simp only [g1, g2, hlt, Bool.not_true, cond_false, cond_true, Option.bind_some, Int.le_refl, if_true, hx, hne, kM q t k1 _ ht hq, Bool.true_and, Bool.and_self, Bool.and_true, Bool.true_and]
 ·have g1 : (((Y2 l k2).length : Int) != 1) = true := by simpa using hk
  have g2 : (((Y2 l k2).length : Int) == 1) = false := by simpa using hk
  simp only [g1, g2]
  rfl
def yfB (id : Int) (_ : Int) (k : y7) : Bool := k.2.1 == id
def ykj (ks : List y7) (l : List ya) (vs : List yh) (a : ya) : Bool := !Yo (yfB a.1) ks 0 && (y88 vs a.1 && decide (((Y2 l a.1).length : Int) ≤ 1))
theorem y9P (ht : TOk t) (hl : l.length ≤ 1048576) (hv : vs.length ≤ 1048576) (a : ya) : Wj (q, t, l, cs, vs, z, a.1) = some (ykj (yu t) l vs a) := by
 unfold Wj qV ykj
 have hk := ht.keys
 have e : yI (q, t) = some (yu t) := Yr q t (by have := ht.len; omega) ht.nodes ht.sum
 simp only [e, Option.bind_some]
 generalize yu t = ks at hk
 refine (zK (step := jV _ _) (fun i => (a.1, i, q, t, l, cs, vs, z, ks)) (yfB a.1) (some false) (some (y88 vs a.1 && decide (((Y2 l a.1).length : Int) ≤ 1))) yH ks (by omega) ?_ ?_).trans ?_
 ·intro again i h0 h1
  have hw : Go.IntKind.wrap .i64 (i + 1) = i + 1 := w64 (by omega) (by omega)
  unfold jV yfB
  have hx : ks.getD i.toNat yH = y6 ks i := rfl
  rw [hx]
  simp only [Bool.cond_eq_ite, decide_eq_true_eq, h0, h1, if_true, hw]
 ·intro again i hi
  unfold jV
  simp only [Bool.cond_eq_ite, decide_eq_true_eq, if_neg hi, Qj q t l cs vs z a.1 hv, kL l a.1 hl, Option.bind_some]
  cases y88 vs a.1 <;> rfl
 ·cases Yo (yfB a.1) ks 0 <;> rfl
def y8f (q : List Int) (t : List y0) (l : List ya) (vs : List yh) (_ : Int) (_ : Unit) (step : Int) : Except (Option (Int × Int)) Unit :=
 if zX (jG q t l vs step) (yu t) 0 < 0 then .ok () else .error (some (step, zX (jG q t l vs step) (yu t) 0))
def y2N (t : List y0) (l : List ya) (vs : List yh) : Int × Int :=
 if zX (ykj (yu t) l vs) l 0 < 0 then (0, 0) else (4, zX (ykj (yu t) l vs) l 0)
def y9Q (q : List Int) (t : List y0) (l : List ya) (cs : List y8) (vs : List yh) (z : Int) : Option (Int × Int) :=
 if yr q t l cs vs z = true then y7Q (y8f q t l vs) (fun _ => some (y2N t l vs)) ([1, 2, 3] : List Int) 0 () else some (0, 0)
theorem yvt (i : Int) (h0 : 0 ≤ i) (h1 : i < 3) : ([1, 2, 3] : List Int).getD i.toNat 0 = i + 1 := by
 have : i = 0 ∨ i = 1 ∨ i = 2 := by omega
 rcases this with rfl | rfl | rfl <;> rfl
theorem y8g (ht : TOk t) (hq : q.length ≤ 1048576) (hl : l.length ≤ 1048576) (hc : cs.length ≤ 1048576) (hv : vs.length ≤ 1048576) (hvn : ∀ v ∈ vs, ByteArray.size v.1 ≤ maxLen) : jW (q, t, l, cs, vs, z) = y9Q q t l cs vs z := by
 unfold jW y9Q
 have hk := ht.keys
 have e : yI (q, t) = some (yu t) := Yr q t (by have := ht.len; omega) ht.nodes ht.sum
 simp only [y0c q t l cs vs z ht hl hc hv hvn, e, Option.bind_some]
 cases hp : yr q t l cs vs z
 ·rfl
 have hpos : ∀ a ∈ l, 1 ≤ a.1 := by
  refine yfA ?_
  unfold yr at hp
  simp only [Bool.and_eq_true] at hp
  exact hp.2.1
 simp only [Bool.not_true, cond_false, if_true]
 unfold Vi
 refine y7R (step := Zs _ _) (fun i (_ : Unit) => (i + 1, q, t, l, cs, vs, z, yu t)) (y8f q t l vs) (fun _ => some (y2N t l vs)) 0 ([1, 2, 3] : List Int) (by decide) (fun _ _ => True) (fun again i s h0 h1 _ => ⟨?_, fun _ _ => trivial⟩) ?_ () trivial
 ·have h1' : i < 3 := h1
  rw [yvt i h0 h1']
  have hw : Go.IntKind.wrap .i64 (i + 1 + 1) = i + 1 + 1 := w64 (by omega) (by omega)
  unfold Zs y8f
  have hle : i + 1 ≤ 3 := by omega
  simp only [Bool.cond_eq_ite, decide_eq_true_eq, hle, if_true]
  unfold Vh
  refine (YK (step := Zr _ _) (fun j => (i + 1, j, q, t, l, cs, vs, z, yu t)) (jG q t l vs (i + 1)) (fun j => some (i + 1, j)) (again (i + 1 + 1, q, t, l, cs, vs, z, yu t)) yH (yu t) (by omega) ?_ ?_).trans ?_
  ·intro again' j j0 j1
   have hwj : Go.IntKind.wrap .i64 (j + 1) = j + 1 := w64 (by omega) (by omega)
   unfold Zr
   obtain ⟨⟨x1, x2, x3, x4, x5⟩, hx⟩ : ∃ x, y6 (yu t) j = x := ⟨_, rfl⟩
   have hx' : (yu t).getD j.toNat yH = (x1, x2, x3, x4, x5) := hx
   rw [hx']
   simp only [Bool.cond_eq_ite, decide_eq_true_eq, j0, j1, if_true, hwj, hx, y3M q t l cs vs z ht hq hl hv hpos (i + 1) x1 x2 x3 x4 x5, Option.bind_some]
  ·intro again' j hj
   unfold Zr
   simp only [Bool.cond_eq_ite, decide_eq_true_eq, if_neg hj, hw]
  ·split <;> rfl
 ·intro again i s hi
  have hi' : ¬ i < 3 := hi
  have hle : ¬ i + 1 ≤ 3 := by omega
  unfold Zs
  simp only [Bool.cond_eq_ite, decide_eq_true_eq, if_neg hle]
  unfold vF y2N
  refine (YK (step := Z1 _ _) (fun j => (j, q, t, l, cs, vs, z)) (ykj (yu t) l vs) (fun j => some (4, j)) (some (0, 0)) zq l (by omega) ?_ ?_).trans ?_
  ·intro again' j j0 j1
   have hwj : Go.IntKind.wrap .i64 (j + 1) = j + 1 := w64 (by omega) (by omega)
   unfold Z1
   have hx : l.getD j.toNat zq = yK l j := rfl
   rw [hx]
   simp only [Bool.cond_eq_ite, decide_eq_true_eq, j0, j1, if_true, hwj, y9P q t l cs vs z ht hl hv (yK l j), Option.bind_some]
  ·intro again' j hj
   unfold Z1
   simp only [Bool.cond_eq_ite, decide_eq_true_eq, if_neg hj]
  ·split <;> rfl
theorem y8h {S A R : Type} (g : Int → S → A → Except (Option R) S) (k : S → Option R) (hg : ∀ i s a r, g i s a = .error r → ∃ x, r = some x) (hk : ∀ s, ∃ x, k s = some x) : ∀ (l : List A) (i : Int) (s : S), ∃ x, y7Q g k l i s = some x
 | [], i, s => hk s
 | a :: l, i, s => by
  rw [y7Q]
  cases h : g i s a with
  | error r => exact hg i s a r h
  | ok s' => exact y8h g k hg hk l (i + 1) s'
theorem yc1 : ∃ r, y9Q q t l cs vs z = some r := by
 unfold y9Q
 split
 ·refine y8h _ _ (fun i s a r h => ?_) (fun s => ⟨_, rfl⟩) _ _ _
  unfold y8f at h
  split at h
  ·cases h
  ·injection h with h
   exact ⟨_, h.symm⟩
 ·exact ⟨_, rfl⟩
end
end Go.Proofs.YtjllpipmaejeoaaGreat.Pl
namespace Go.Proofs.YtjllpipmaejeoaaGreat.Pl
open Go.Proofs.YtjllpipmaejeoaaGreat.R Go.Proofs.YtjllpipmaejeoaaGreat.XR
structure SP (q : List yb) (t : List y0) (l : List ya) (cs : List y8) (vs : List yh) : Prop where
 S : small q t l cs vs
 N : ∀ v ∈ vs, ByteArray.size v.1 ≤ maxLen
structure TQ (q : List yb) (t : List y0) : Prop where
 T : TOk t
 Q : ∀ n ∈ t, y2i n
 q : q.length ≤ 1048576
theorem SP.tq {q : List yb} {t : List y0} {l : List ya} {cs : List y8} {vs : List yh} (h : SP q t l cs vs) : TQ q t :=
 ⟨⟨h.S.2.1, fun n hn => by have := (Kr h.S.2.2.1 hn).1; omega, h.S.2.2.1⟩, fun n hn => Kr h.S.2.2.1 hn, h.S.1⟩
theorem TQ.sp {q q' : List yb} {t t' : List y0} {l l' : List ya} {cs cs' : List y8} {vs : List yh} (h : TQ q' t') (h2 : SP q t l cs vs) (hl : l'.length ≤ 1048576) (hc : cs'.length ≤ 1048576) : SP q' t' l' cs' vs :=
 ⟨⟨h.q, h.T.len, h.T.sum, hl, hc, h2.S.2.2.2.2.2⟩, h2.N⟩
theorem TS.tq {q : List yb} {t : List y0} (h : TS t) (hq : q.length ≤ 1048576) : TQ q t := ⟨h.ok, fun n hn => (h.node n hn).q, hq⟩
theorem kz {q : List yb} {t : List y0} (k : y7) (h : TQ q t) : TQ (yo q t k).1 (yo q t k).2.1 := by
 unfold yo
 split
 ·rename_i hh
  rw [Bool.and_eq_true] at hh
  split
  ·rename_i hj
   have hT := y1a hj
   have := (Jj hj)
   exact hT.tq (by simp only; omega)
  ·exact h
 ·exact h
def y1H (k : y7) : y7 := (k.1, k.2.1, 0, 0, 0)
def Jm (q : List yb) (t : List y0) (cs : List y8) (k : y7) : List y8 := if (YL q t k.1 k.2.1).2.2.2.2.2 = true ∧ (YL q t k.1 k.2.1).2.2.1 = 1 then y2j cs (YL q t k.1 k.2.1).2.2.2.1 else cs
theorem VT (q : List yb) (t : List y0) (cs : List y8) (k : y7) : (Jm q t cs k).length = cs.length := by
 unfold Jm
 split
 ·exact y3L _ _
 ·rfl
abbrev PO : Type := List yb × List y0 × List ya × List y8 × List yh × Int
section
variable (q : List yb) (t : List y0) (l : List ya) (cs : List y8) (vs : List yh) (z : Int)
def Jo (t : List y0) (i : Int) : y7 := (yu t).getD i.toNat yH
def ww (step i : Int) : PO × Bool :=
 if step = 1 ∨ step = 2 then (((yo q t (y1H (Jo t i))).1, (yo q t (y1H (Jo t i))).2.1, l, Jm q t cs (Jo t i), vs, z), (yo q t (y1H (Jo t i))).2.2)
 else if step = 3 then
  (((yo (yo q t (y1H (Jo t i))).1 (yo q t (y1H (Jo t i))).2.1 ((Jo t i).1, (Y2 l (Jo t i).2.1).getD 0 0, (Jo t i).2.2)).1,
   (yo (yo q t (y1H (Jo t i))).1 (yo q t (y1H (Jo t i))).2.1 ((Jo t i).1, (Y2 l (Jo t i).2.1).getD 0 0, (Jo t i).2.2)).2.1, l, cs, vs, z),
   (yo q t (y1H (Jo t i))).2.2 && (yo (yo q t (y1H (Jo t i))).1 (yo q t (y1H (Jo t i))).2.1 ((Jo t i).1, (Y2 l (Jo t i).2.1).getD 0 0, (Jo t i).2.2)).2.2)
 else ((q, t, (y3K l (l.getD i.toNat zq).1).1, cs, vs, z), (y3K l (l.getD i.toNat zq).1).2)
noncomputable def y9R (p : PO) : Bool := yr p.1 p.2.1 p.2.2.1 p.2.2.2.1 p.2.2.2.2.1 p.2.2.2.2.2
noncomputable def yei (p : PO) (r : PO × Bool) : PO × Bool := if (r.2 && y9R r.1) = true then (r.1, true) else (p, false)
noncomputable def y8i : PO × Bool := match y9Q q t l cs vs z with
 | some (step, i) => if step = 0 then ((q, t, l, cs, vs, z), false) else yei (q, t, l, cs, vs, z) (ww q t l cs vs z step i)
 | none => ((q, t, l, cs, vs, z), false)
def yc2 (r : PO × Bool) : List yb × List y0 × List ya × List y8 × List yh × Int × Bool := (r.1.1, r.1.2.1, r.1.2.2.1, r.1.2.2.2.1, r.1.2.2.2.2.1, r.1.2.2.2.2.2, r.2)
theorem yc3 {step i : Int} (h : y9Q q t l cs vs z = some (step, i)) : step = 0 ∨ ((step = 1 ∨ step = 2 ∨ step = 3) ∧ 0 ≤ i ∧ i < ((yu t).length : Int) ∧ jG q t l vs step (Jo t i) = true) ∨ (step = 4 ∧ 0 ≤ i ∧ i < (l.length : Int)) := by
 have hfind : ∀ s, (s = 1 ∨ s = 2 ∨ s = 3) → ¬ zX (jG q t l vs s) (yu t) 0 < 0 → (step, i) = (s, zX (jG q t l vs s) (yu t) 0) → step = 0 ∨ ((step = 1 ∨ step = 2 ∨ step = 3) ∧ 0 ≤ i ∧ i < ((yu t).length : Int) ∧ jG q t l vs step (Jo t i) = true) ∨ (step = 4 ∧ 0 ≤ i ∧ i < (l.length : Int)) := by
  intro s hs h0 he
  injection he with h1 h2
  subst h1 h2
  rcases YS (jG q t l vs step) yH (yu t) 0 (Int.le_refl _) with h | ⟨h1, h2, h3⟩
  ·omega
  ·rw [Int.sub_zero] at h3
   exact .inr (.inl ⟨hs, h1, by omega, h3⟩)
 unfold y9Q at h
 split at h
 ·simp only [y7Q, y8f] at h
  by_cases h1 : zX (jG q t l vs 1) (yu t) 0 < 0
  ·simp only [if_pos h1] at h
   by_cases h2 : zX (jG q t l vs 2) (yu t) 0 < 0
   ·simp only [if_pos h2] at h
    by_cases h3 : zX (jG q t l vs 3) (yu t) 0 < 0
    ·simp only [if_pos h3] at h
     injection h with h
     unfold y2N at h
     split at h
     ·injection h with h4 h5
      exact .inl h4.symm
     ·rename_i h4
      injection h with h5 h6
      rcases y2M (ykj (yu t) l vs) l 0 with h | ⟨h7, h8⟩
      ·omega
      ·exact .inr (.inr ⟨h5.symm, by omega, by omega⟩)
    ·simp only [if_neg h3] at h
     injection h with h
     exact hfind 3 (by simp) h3 h.symm
   ·simp only [if_neg h2] at h
    injection h with h
    exact hfind 2 (by simp) h2 h.symm
  ·simp only [if_neg h1] at h
   injection h with h
   exact hfind 1 (by simp) h1 h.symm
 ·injection h with h
  injection h with h1 h2
  exact .inl h1.symm
variable {q t l cs vs} (h : SP q t l cs vs)
include h
theorem ydM (step i : Int) : SP (ww q t l cs vs z step i).1.1 (ww q t l cs vs z step i).1.2.1 (ww q t l cs vs z step i).1.2.2.1 (ww q t l cs vs z step i).1.2.2.2.1 (ww q t l cs vs z step i).1.2.2.2.2.1 := by
 have hl := h.S.2.2.2.1
 have hc := h.S.2.2.2.2.1
 unfold ww
 split
 ·exact (kz _ h.tq).sp h hl (by rw [VT]; exact hc)
 ·split
  ·exact (kz _ (kz _ h.tq)).sp h hl hc
  ·refine h.tq.sp h ?_ hc
   unfold y3K
   split
   ·exact hl
   ·split
    ·unfold yyf
     exact Nat.le_trans (List.length_eraseIdx_le _ _) (by simpa using hl)
    ·exact hl
theorem y8j (a b c d e : Int) : Zg (q, t, l, cs, vs, z, a, b, c, d, e) = some (if (yo q t (a, b, 0, 0, 0)).2.2 = true then (true, (yo q t (a, b, 0, 0, 0)).1, (yo q t (a, b, 0, 0, 0)).2.1, l, Jm q t cs (a, b, c, d, e), vs, z) else (false, q, t, l, cs, vs, z)) := by
 have hq := h.tq
 unfold Zg zA
 simp only [kM q t a b hq.T hq.q, Jl q t a b 0 0 0 hq.T hq.Q hq.q, Option.bind_some]
 cases hr : (yo q t (a, b, 0, 0, 0)).2.2 with
 | false => rfl
 | true =>
  unfold JZ Jm
  simp only [Bool.not_true, cond_false, if_true, Kh cs _ h.S.2.2.2.2.1, Option.bind_some]
  cases (YL q t a b).2.2.2.2.2 with
  | false => rfl
  | true =>
   by_cases h1 : (YL q t a b).2.2.1 = 1
   ·rw [if_pos ⟨rfl, h1⟩]
    simp only [h1, cond_true, Option.bind_some, beq_self_eq_true]
   ·rw [if_neg fun hh => h1 hh.2]
    simp only [cond_true, Option.bind_some, beq_eq_false_iff_ne.2 h1, cond_false]
theorem Zk : yG (q, t, l, cs, vs, z) = some (yr q t l cs vs z) := y0c q t l cs vs z h.tq.T h.S.2.2.2.1 h.S.2.2.2.2.1 h.S.2.2.2.2.2 h.N
theorem y0e : ZV (q, t, l, cs, vs, z) = some (yr q t l cs vs z) := y4f q t l cs vs z h.tq.T h.S.2.2.2.1 h.S.2.2.2.2.1 h.S.2.2.2.2.2 h.N
end
end Go.Proofs.YtjllpipmaejeoaaGreat.Pl
namespace Go.Proofs.YtjllpipmaejeoaaGreat.Pl
open Go.Proofs.YtjllpipmaejeoaaGreat.R Go.Proofs.YtjllpipmaejeoaaGreat.XR
theorem yfC : (((0 : Int)) == 0) = true := rfl
theorem yfD : (((0 : Int)) == 1) = false := rfl
theorem yfE : (((0 : Int)) == 2) = false := rfl
theorem yfF : (((0 : Int)) == 3) = false := rfl
theorem yfG : (((0 : Int)) == 4) = false := rfl
theorem yfH : (((1 : Int)) == 0) = false := rfl
theorem yfI : (((1 : Int)) == 1) = true := rfl
theorem yfJ : (((1 : Int)) == 2) = false := rfl
theorem yfK : (((1 : Int)) == 3) = false := rfl
theorem yfL : (((1 : Int)) == 4) = false := rfl
theorem yfM : (((2 : Int)) == 0) = false := rfl
theorem yfN : (((2 : Int)) == 1) = false := rfl
theorem yfO : (((2 : Int)) == 2) = true := rfl
theorem yfP : (((2 : Int)) == 3) = false := rfl
theorem yfQ : (((2 : Int)) == 4) = false := rfl
theorem yfR : (((3 : Int)) == 0) = false := rfl
theorem yfS : (((3 : Int)) == 1) = false := rfl
theorem yfT : (((3 : Int)) == 2) = false := rfl
theorem yfU : (((3 : Int)) == 3) = true := rfl
theorem yfV : (((3 : Int)) == 4) = false := rfl
theorem yfW : (((4 : Int)) == 0) = false := rfl
theorem yfX : (((4 : Int)) == 1) = false := rfl
theorem yfY : (((4 : Int)) == 2) = false := rfl
theorem yfZ : (((4 : Int)) == 3) = false := rfl
theorem yg0 : (((4 : Int)) == 4) = true := rfl
theorem yqJ : (((0 : Int)) != 0) = false := rfl
theorem yaZ : (((0 : Int)) != 3) = true := rfl
theorem yqK : (((1 : Int)) != 0) = true := rfl
theorem yb0 : (((1 : Int)) != 3) = true := rfl
theorem yqL : (((2 : Int)) != 0) = true := rfl
theorem yb1 : (((2 : Int)) != 3) = true := rfl
theorem yqM : (((3 : Int)) != 0) = true := rfl
theorem yb2 : (((3 : Int)) != 3) = false := rfl
theorem yqN : (((4 : Int)) != 0) = true := rfl
theorem yb3 : (((4 : Int)) != 3) = true := rfl
section
variable {q : List yb} {t : List y0} {l : List ya} {cs : List y8} {vs : List yh} (z : Int) (h : SP q t l cs vs)
theorem y6X {q' : List yb} {t' : List y0} {l' : List ya} {cs' : List y8} (ok : Bool) (h' : SP q' t' l' cs' vs) : (Option.bind (bif (!ok) then some true else Option.bind (yG (q', t', l', cs', vs, z)) fun r6 => some (!r6)) fun u5 => bif u5 then some (q, t, l, cs, vs, z, false) else some (q', t', l', cs', vs, z, true)) = some (yc2 (yei (q, t, l, cs, vs, z) ((q', t', l', cs', vs, z), ok))) := by
 rw [Zk z h']
 unfold yei y9R yc2
 cases ok with
 | false => rfl
 | true =>
  simp only [Option.bind_some, Bool.not_true, cond_false, Bool.true_and]
  cases yr q' t' l' cs' vs z <;> rfl
include h
theorem y1I : zY (q, t, l, cs, vs, z) = some (yc2 (y8i q t l cs vs z)) := by
 have hq := h.tq
 have hl := h.S.2.2.2.1
 have hc := h.S.2.2.2.2.1
 have hv := h.S.2.2.2.2.2
 obtain ⟨⟨step, i⟩, hn⟩ := yc1 q t l cs vs z
 have eK : yI (q, t) = some (yu t) := Yr q t (by have := hq.T.len; omega) hq.T.nodes hq.T.sum
 unfold zY
 simp only [WJ q t l cs vs z h.S, y8g q t l cs vs z hq.T hq.q hl hc hv h.N, hn, eK, Option.bind_some]
 have hp : y8i q t l cs vs z = if step = 0 then ((q, t, l, cs, vs, z), false) else yei (q, t, l, cs, vs, z) (ww q t l cs vs z step i) := by
  unfold y8i
  rw [hn]
 have erd : y6 (yu t) i = Jo t i := rfl
 have h12 : ∀ s : Int, s = 1 ∨ s = 2 → (Option.bind (Zg (q, t, l, cs, vs, z, (Jo t i).1, (Jo t i).2.1, (Jo t i).2.2.1, (Jo t i).2.2.2.1, (Jo t i).2.2.2.2)) fun r4 => Option.bind (bif (!r4.1) then some true else Option.bind (yG (r4.2.1, r4.2.2.1, r4.2.2.2.1, r4.2.2.2.2.1, r4.2.2.2.2.2.1, r4.2.2.2.2.2.2)) fun r6 => some (!r6)) fun u5 => bif u5 then some (q, t, l, cs, vs, z, false) else some (r4.2.1, r4.2.2.1, r4.2.2.2.1, r4.2.2.2.2.1, r4.2.2.2.2.2.1, r4.2.2.2.2.2.2, true)) = some (yc2 (yei (q, t, l, cs, vs, z) (ww q t l cs vs z s i))) := by
  intro s hs
  have hT := ydM z h s i
  unfold ww at hT ⊢
  rw [if_pos hs] at hT ⊢
  rw [y8j z h]
  change Option.bind (some (if (yo q t (y1H (Jo t i))).2.2 = true then _ else _)) _ = _
  cases hr : (yo q t (y1H (Jo t i))).2.2 with
  | false => rfl
  | true => exact y6X z true hT
 rcases yc3 q t l cs vs z hn with rfl | ⟨hs, i0, i1, hk⟩ | ⟨rfl, i0, i1⟩
 ·rw [hp, if_pos rfl]
  rfl
 ·rcases hs with rfl | rfl | rfl
  ·rw [hp, if_neg (show ¬ ((1 : Int) = 0) by decide)]
   simp only [yfC, yfD, yfE, yfF, yfG, yfH, yfI, yfJ, yfK, yfL, yfM, yfN, yfO, yfP, yfQ, yfR, yfS, yfT, yfU, yfV, yfW, yfX, yfY, yfZ, yg0, yqJ, yaZ, yqK, yb0, yqL, yb1, yqM, yb2, yqN, yb3, cond_true, cond_false, erd]
   rw [if_pos i0, if_pos i1]
   exact h12 1 (.inl rfl)
  ·rw [hp, if_neg (show ¬ ((2 : Int) = 0) by decide)]
   simp only [yfC, yfD, yfE, yfF, yfG, yfH, yfI, yfJ, yfK, yfL, yfM, yfN, yfO, yfP, yfQ, yfR, yfS, yfT, yfU, yfV, yfW, yfX, yfY, yfZ, yg0, yqJ, yaZ, yqK, yb0, yqL, yb1, yqM, yb2, yqN, yb3, cond_true, cond_false, erd]
   rw [if_pos i0, if_pos i1]
   exact h12 2 (.inr rfl)
  ·rw [hp, if_neg (show ¬ ((3 : Int) = 0) by decide)]
   have hT := ydM z h 3 i
   unfold ww at hT ⊢
   rw [if_neg (show ¬ ((3 : Int) = 1 ∨ (3 : Int) = 2) by decide), if_pos (show (3 : Int) = 3 from rfl)] at hT ⊢
   simp only [yfC, yfD, yfE, yfF, yfG, yfH, yfI, yfJ, yfK, yfL, yfM, yfN, yfO, yfP, yfQ, yfR, yfS, yfT, yfU, yfV, yfW, yfX, yfY, yfZ, yg0, yqJ, yaZ, yqK, yb0, yqL, yb1, yqM, yb2, yqN, yb3, cond_true, cond_false, erd]
   rw [if_pos i0, if_pos i1]
   obtain ⟨⟨a, b, c, d, e⟩, hx⟩ : ∃ x, Jo t i = x := ⟨_, rfl⟩
   rw [hx] at hk hT ⊢
   have h1 := kz (a, b, 0, 0, 0) hq
   have hone : y88 vs b = true ∧ ((Y2 l b).length : Int) = 1 := by
    unfold jG ydL at hk
    rw [if_neg (show ¬ (3 : Int) = 1 by decide), if_neg (show ¬ (3 : Int) = 2 by decide)] at hk
    simp only [Bool.and_eq_true, beq_iff_eq] at hk
    exact hk.1
   have eKid : Z0 (q, t, l, cs, vs, z, b) = some ((Y2 l b).getD 0 0) := by
    unfold Z0
    simp only [kL l b hl, Qj q t l cs vs z b hv, hone.1, Bool.not_true, cond_false, Option.bind_some]
    rw [show (((List.length (Y2 l b) : Nat) : Int) != 1) = false by rw [hone.2]; rfl, cond_false, if_pos (by omega), if_pos (by omega)]
    rfl
   simp only [y1H] at hT ⊢
   simp only [Jl q t a b 0 0 0 hq.T hq.Q hq.q, eKid, Option.bind_some]
   rw [Jl _ _ a ((Y2 l b).getD 0 0) c d e h1.T h1.Q h1.q]
   simp only [Option.bind_some]
   cases (yo q t (a, b, 0, 0, 0)).2.2 with
   | false => rfl
   | true =>
    simp only [cond_true, Option.bind_some, Bool.true_and]
    exact y6X z _ hT
 ·rw [hp, if_neg (show ¬ ((4 : Int) = 0) by decide)]
  have hT := ydM z h 4 i
  unfold ww at hT ⊢
  rw [if_neg (show ¬ ((4 : Int) = 1 ∨ (4 : Int) = 2) by decide), if_neg (show ¬ (4 : Int) = 3 by decide)] at hT ⊢
  simp only [yfC, yfD, yfE, yfF, yfG, yfH, yfI, yfJ, yfK, yfL, yfM, yfN, yfO, yfP, yfQ, yfR, yfS, yfT, yfU, yfV, yfW, yfX, yfY, yfZ, yg0, yqJ, yaZ, yqK, yb0, yqL, yb1, yqM, yb2, yqN, yb3, cond_true, cond_false]
  rw [if_pos i0, if_pos i1, y4j l _ hl]
  simp only [Option.bind_some]
  exact y6X z _ hT
end
end Go.Proofs.YtjllpipmaejeoaaGreat.Pl
namespace Go.Proofs.YtjllpipmaejeoaaGreat.Pl
open Go.Proofs.YtjllpipmaejeoaaGreat.R Go.Proofs.YtjllpipmaejeoaaGreat.XR
def V5 (c : List Int) (p : Int) : Prop := c.length ≤ 1099511627776 ∧ 0 ≤ p ∧ p ≤ c.length
def yc4 {A : Type} (o : Option (A × List Int × Int × Int)) (c : List Int) (Q : A → Prop) : Prop := ∃ v p s, o = some (v, c, p, s) ∧ V5 c p ∧ Q v
theorem y9S (c : List Int) (p s : Int) (h : V5 c p) : yc4 (YT (c, p, s)) c (fun v => 0 ≤ v ∧ v < 256) := by
 obtain ⟨h1, h2, h3⟩ := h
 unfold YT
 simp only [Bool.cond_eq_ite, decide_eq_true_eq, yq3]
 by_cases hp : p < (c.length : Int)
 ·rw [if_pos hp, if_pos h2, if_pos hp]
  refine ⟨_, _, _, rfl, ⟨h1, ?_, ?_⟩, by omega⟩
  ·rw [w64 (by omega) (by omega)]
   omega
  ·rw [w64 (by omega) (by omega)]
   omega
 ·rw [if_neg hp]
  exact ⟨_, _, _, rfl, ⟨h1, h2, h3⟩, by omega⟩
theorem QL (c : List Int) (p s n : Int) (h : V5 c p) : yc4 (yt (c, p, s, n)) c (fun v => 0 ≤ v ∧ (0 < n → v < n)) := by
 unfold yt
 simp only [Bool.cond_eq_ite, decide_eq_true_eq]
 by_cases hn : n ≤ 0
 ·rw [if_pos hn]
  exact ⟨_, _, _, rfl, h, Int.le_refl _, fun hh => by omega⟩
 ·rw [if_neg hn]
  obtain ⟨v1, p1, s1, e1, h1, q1⟩ := y9S c p s h
  obtain ⟨v2, p2, s2, e2, h2, q2⟩ := y9S c p1 s1 h1
  obtain ⟨v3, p3, s3, e3, h3, q3⟩ := y9S c p2 s2 h2
  rw [e1]
  simp only [Option.bind_some]
  have mod : ∀ v : Int, 0 ≤ v → 0 ≤ Int.tmod v n ∧ (0 < n → Int.tmod v n < n) := fun v hv => by
   rw [Int.tmod_eq_emod_of_nonneg hv]
   exact ⟨Int.emod_nonneg _ (by omega), fun hh => Int.emod_lt_of_pos _ hh⟩
  by_cases h6 : n ≤ 256
  ·rw [if_pos h6, if_neg (by omega)]
   exact ⟨_, _, _, rfl, h1, mod _ q1.1⟩
  ·rw [if_neg h6, e2]
   simp only [Option.bind_some]
   rw [e3]
   simp only [Option.bind_some]
   rw [if_neg (by omega)]
   rw [w64 (n := v1 * 65536) (by omega) (by omega), w64 (n := v2 * 256) (by omega) (by omega), w64 (n := v1 * 65536 + v2 * 256) (by omega) (by omega), w64 (n := v1 * 65536 + v2 * 256 + v3) (by omega) (by omega)]
   exact ⟨_, _, _, rfl, h3, mod _ (by omega)⟩
theorem yb4 (c : List Int) (p s : Int) (L : List Int) (hL : 0 < L.length) (hL2 : L.length ≤ 1048576) (h : V5 c p) : yc4 (zn (c, p, s, L)) c (fun v => v ∈ L) := by
 obtain ⟨v, p1, s1, e1, h1, q1⟩ := QL c p s (L.length : Int) h
 have := q1.2 (by omega)
 unfold zn
 rw [e1]
 simp only [Option.bind_some]
 rw [if_pos q1.1, if_pos this]
 exact ⟨_, _, _, rfl, h1, z4 y1y L v q1.1 this⟩
theorem yq5 (c : List Int) (hc : c.length ≤ 1099511627776) : ∃ s, vz c = some (c, 0, s) := by
 have key := kY (step := kC (fun x2 : List Int × Int => some (x2.1, (0 : Int), x2.2))) (fun t : List Int × Int × Int => c.length - t.2.2.toNat) (fun t => t.1 = c ∧ 0 ≤ t.2.2 ∧ t.2.2 ≤ c.length) (fun _ res => ∃ s, res = some (c, 0, s)) ?_ (c, (Go.IntKind.wrap .i64 ((941941 : Int) + ((List.length c : Nat) : Int))), (0 : Int)) ⟨rfl, Int.le_refl _, by simp⟩ (by simp; omega)
 ·exact key
 ·rintro again ⟨c', s, i⟩ ⟨rfl, h0, h1⟩ hag
  simp only at h0 h1
  unfold kC
  simp only [Bool.cond_eq_ite, decide_eq_true_eq]
  by_cases hi : i < (c'.length : Int)
  ·rw [if_pos hi]
   simp only [Option.bind_some, decide_eq_true_eq]
   by_cases h4 : i < 4000
   ·rw [if_pos h4, if_pos h0, if_pos hi]
    have hw : Go.IntKind.wrap .i64 (i + 1) = i + 1 := w64 (by omega) (by omega)
    rw [hw]
    exact hag _ ⟨rfl, by simp only; omega, by simp only; omega⟩ (by simp only; omega)
   ·rw [if_neg h4]
    exact ⟨_, rfl⟩
  ·rw [if_neg hi]
   exact ⟨_, rfl⟩
end Go.Proofs.YtjllpipmaejeoaaGreat.Pl
namespace Go.Proofs.YtjllpipmaejeoaaGreat.Pl
open Go.Proofs.YtjllpipmaejeoaaGreat.R Go.Proofs.YtjllpipmaejeoaaGreat.XR
theorem yvu (l : List Int) (i : Int) : yeY l i = by_ l i := rfl
theorem yq6 {l : List Int} (h : isBytes l) (i : Int) : Go.IntKind.wrap .i64 (by_ l i) = by_ l i := by
 have := yaG h i
 exact w64 (by omega) (by omega)
end Go.Proofs.YtjllpipmaejeoaaGreat.Pl
namespace Go.Proofs.YtjllpipmaejeoaaGreat.Pl
open Go.Proofs.YtjllpipmaejeoaaGreat.R Go.Proofs.YtjllpipmaejeoaaGreat.XR
def w2 (l : List Int) (i : Int) : Int := by_ l i * 256 + by_ l (i + 1)
end Go.Proofs.YtjllpipmaejeoaaGreat.Pl
namespace Go.Proofs.YtjllpipmaejeoaaGreat.Pl
open Go.Proofs.YtjllpipmaejeoaaGreat.R Go.Proofs.YtjllpipmaejeoaaGreat.XR
end Go.Proofs.YtjllpipmaejeoaaGreat.Pl
namespace Go.Proofs.YtjllpipmaejeoaaGreat.Pl
open Go.Proofs.YtjllpipmaejeoaaGreat.R Go.Proofs.YtjllpipmaejeoaaGreat.XR
end Go.Proofs.YtjllpipmaejeoaaGreat.Pl
namespace Go.Proofs.YtjllpipmaejeoaaGreat.Pl
open Go.Proofs.YtjllpipmaejeoaaGreat.R Go.Proofs.YtjllpipmaejeoaaGreat.XR
theorem yAw (x : List Int) (hx : x.length ≤ 1099511627776) : V5 x 0 := ⟨hx, Int.le_refl _, by omega⟩
end Go.Proofs.YtjllpipmaejeoaaGreat.Pl
namespace Go.Proofs.YtjllpipmaejeoaaGreat.Pl
open Go.Proofs.YtjllpipmaejeoaaGreat.R Go.Proofs.YtjllpipmaejeoaaGreat.XR
def two (x : Int) : List Int := [x / 256 % 256, x % 256]
end Go.Proofs.YtjllpipmaejeoaaGreat.Pl
namespace Go.Proofs.YtjllpipmaejeoaaGreat.Pl
open Go.Proofs.YtjllpipmaejeoaaGreat.R Go.Proofs.YtjllpipmaejeoaaGreat.XR
def tx (s : ByteArray) : List Int := two (s.size : Int) ++ vt s
end Go.Proofs.YtjllpipmaejeoaaGreat.Pl
namespace Go.Proofs.YtjllpipmaejeoaaGreat.Pl
open Go.Proofs.YtjllpipmaejeoaaGreat.R Go.Proofs.YtjllpipmaejeoaaGreat.XR
structure PoolF (q : List Int) (t : List y0) (l : List ya) (cs : List y8) (vs : List yh) : Prop where
 ql : q.length = t.length
 tl : t.length ≤ 20
 ll : l.length ≤ 16
 cl : cs.length = 24
 vl : vs.length ≤ 6
 nm : ∀ v ∈ vs, ByteArray.size v.1 ≤ 6
 nl : ∀ n ∈ t, List.length n ≤ 3
 sl : ∀ n ∈ t, ∀ s ∈ (show List y9 from n), List.length s ≤ 60 ∧ ∀ k ∈ (show List y7 from s), Ym k = true
theorem yvv {q : List Int} {t : List y0} {l : List ya} {cs : List y8} {vs : List yh} {z : Int} (h : yr q t l cs vs z = true) : PoolF q t l cs vs := by
 unfold yr at h
 simp only [Bool.and_eq_true] at h
 obtain ⟨h1, h2, h3, _, _, h4, _⟩ := h
 obtain ⟨t1, t2, t3, t4⟩ := Jj h1
 unfold jA at h2
 unfold zr at h3
 unfold wD at h4
 simp only [Bool.and_eq_true, Bool.not_eq_true', decide_eq_true_eq, beq_iff_eq] at h2 h3 h4
 refine ⟨t1, t3, by omega, by omega, by omega, fun v hv => ?_, fun n hn => (y13 (t4 n hn)).1, fun n hn s hs => y2J ((y13 (t4 n hn)).2 s hs)⟩
 obtain ⟨j, hj⟩ := Kd _ vs 0 h4.1 v hv
 unfold ybW at hj
 simp only [Bool.or_eq_false_iff, Bool.not_eq_false'] at hj
 have hn := hj.1
 unfold YM at hn
 simp only [Bool.and_eq_true, zo] at hn
 omega
section
variable {q : List Int} {t : List y0} {l : List ya} {cs : List y8} {vs : List yh} (z : Int) (h : PoolF q t l cs vs)
include h
end
end Go.Proofs.YtjllpipmaejeoaaGreat.Pl
namespace Go.Proofs.YtjllpipmaejeoaaGreat.Pl
open Go.Proofs.YtjllpipmaejeoaaGreat.R Go.Proofs.YtjllpipmaejeoaaGreat.XR
def yb5 (kind a b : Int) : Bool :=
 if kind = 2 then decide (a = 0) && inR b 0 1 else if kind = 3 ∨ kind = 7 then decide (a = 0) && decide (b = 0) else if kind = 4 then true else decide (b = 0)
def ydN (s : ByteArray) : Bool := s.toList == ([] : List UInt8)
def yvw (kind : Int) (name tt : ByteArray) (a b : Int) : Bool :=
 inR kind 1 9 && (if kind ≥ 7 then ydN name else YM name) && (if kind = 2 then YM tt else ydN tt) && isW a && isW b && yb5 kind a b
theorem y3N (kind : Int) (name tt : ByteArray) (a b : Int) : YC (kind, name, tt, a, b) = some (yb5 kind a b) := by
 unfold YC yb5
 simp only [Bool.cond_eq_ite, Zj, Option.bind_some, beq_iff_eq]
 by_cases h2 : kind = 2 <;> by_cases h3 : kind = 3 <;> by_cases h7 : kind = 7 <;> by_cases h4 : kind = 4 <;> by_cases ha : a = 0 <;> by_cases hb : b = 0 <;> simp_all
theorem y8k : (ByteArray.toList { data := #[] }) = [] := by
 unfold ByteArray.toList ByteArray.toList.loop
 rfl
theorem y8l (kind : Int) (name tt : ByteArray) (a b : Int) (hn : name.size ≤ maxLen) (ht : tt.size ≤ maxLen) : KB (kind, name, tt, a, b) = some (yvw kind name tt a b) := by
 unfold KB yvw ydN
 simp only [Bool.cond_eq_ite, wg _ hn, wg _ ht, Zj, Vt, y3N, Option.bind_some, bi, y8k, decide_eq_true_eq]
 generalize (name.toList == ([] : List UInt8)) = n1
 generalize (tt.toList == ([] : List UInt8)) = n2
 generalize inR kind 1 9 = n3
 generalize yb5 kind a b = n4
 by_cases h7 : kind ≥ 7 <;> by_cases h2 : kind = 2 <;> simp only [h7, h2, if_true, if_false, Option.bind_some] <;> cases n1 <;> cases n2 <;> cases n3 <;> cases n4 <;> cases YM name <;> cases YM tt <;> cases isW a <;> cases isW b <;> rfl
end Go.Proofs.YtjllpipmaejeoaaGreat.Pl
namespace Go.Proofs.YtjllpipmaejeoaaGreat.Pl
open Go.Proofs.YtjllpipmaejeoaaGreat.R Go.Proofs.YtjllpipmaejeoaaGreat.XR
abbrev P7a : Type := List yb × List y0 × List ya × List y8 × List yh × Int × Int
theorem yej {A : Type} {o : Option A} : (Option.bind o fun r => some r) = o := by cases o <;> rfl
theorem yjW {o : Option P7a} : (Option.bind o fun r => some (r.1, r.2.1, r.2.2.1, r.2.2.2.1, r.2.2.2.2.1, r.2.2.2.2.2.1, r.2.2.2.2.2.2)) = o := by cases o <;> rfl
theorem yvx {o : Option (List yb × List y0 × List ya × List y8 × List yh × Int × Bool)} : (Option.bind o fun r => some (r.1, r.2.1, r.2.2.1, r.2.2.2.1, r.2.2.2.2.1, r.2.2.2.2.2.1, r.2.2.2.2.2.2)) = o := by cases o <;> rfl
theorem yvy {o : Option (Bool × List yb × List y0 × List ya × List y8 × List yh × Int)} : (Option.bind o fun r => some (r.1, r.2.1, r.2.2.1, r.2.2.2.1, r.2.2.2.2.1, r.2.2.2.2.2.1, r.2.2.2.2.2.2)) = o := by cases o <;> rfl
theorem Jn {A : Type} {P : A → Prop} (b : Bool) {x y : A} (hx : b = true → P x) (hy : b = false → P y) : P (bif b then x else y) := by cases b <;> first | exact hx rfl | exact hy rfl
structure Tn (q : List yb) (t : List y0) (l : List ya) (cs : List y8) (vs : List yh) : Prop where
 ql : q.length ≤ 100
 T : TS t
 ll : l.length ≤ 100
 cl : cs.length = 24
 vl : vs.length ≤ 100
 N : ∀ v ∈ vs, ByteArray.size v.1 ≤ 60
 e : q.length = t.length
 p : 0 < t.length
theorem Tn.sp {q : List yb} {t : List y0} {l : List ya} {cs : List y8} {vs : List yh} (h : Tn q t l cs vs) : SP q t l cs vs := by
 have hT := h.T.ok
 refine ⟨⟨Nat.le_trans h.ql (by decide), hT.len, hT.sum, Nat.le_trans h.ll (by decide), by rw [h.cl]; decide, Nat.le_trans h.vl (by decide)⟩, fun v hv => Nat.le_trans (h.N v hv) (by decide)⟩
theorem y0s {q : List yb} {t : List y0} {l : List ya} {cs : List y8} {vs : List yh} {z : Int} (h : yr q t l cs vs z = true) : Tn q t l cs vs := by
 have hF := yvv h
 unfold yr at h
 rw [Bool.and_eq_true] at h
 have h1 := Jj h.1
 exact ⟨by have := hF.ql; have := hF.tl; omega, y1a h.1, by have := hF.ll; omega, hF.cl, by have := hF.vl; omega, fun v hv => by have := hF.nm v hv; omega, hF.ql, by omega⟩
def Res (q : List yb) (t : List y0) (l : List ya) (cs : List y8) (vs : List yh) (z : Int) (o : Option P7a) : Prop :=
 ∃ q' t' l' cs' vs' z' c, o = some (q', t', l', cs', vs', z', c) ∧ (yr q' t' l' cs' vs' z' = true ∨ (q', t', l', cs', vs', z') = (q, t, l, cs, vs, z))
theorem VU {s : ByteArray} (h : YM s = true) : s.size ≤ 6 := by
 unfold YM at h
 simp only [Bool.and_eq_true, zo] at h
 omega
def zx (vs : List yh) (n : ByteArray) : Int := zX (fun v : yh => ByteArray.toList v.1 == ByteArray.toList n) vs 0
theorem jx (vs : List yh) (n : ByteArray) : zx vs n = -1 ∨ (0 ≤ zx vs n ∧ zx vs n < vs.length) := by
 rcases YS (fun v : yh => ByteArray.toList v.1 == ByteArray.toList n) yD vs 0 (Int.le_refl _) with h | ⟨h1, h2, h3⟩
 ·exact .inl h
 ·exact .inr ⟨h1, by simpa [zx] using h2⟩
section
variable (q : List yb) (t : List y0) (l : List ya) (cs : List y8) (vs : List yh) (z : Int)
theorem Zb (n : ByteArray) (hv : vs.length ≤ 1048576) : zd (q, t, l, cs, vs, z, n) = some (zx vs n) := by
 unfold zd y00
 refine (YK (step := JW _ _) (fun i => (n, i, q, t, l, cs, vs, z)) (fun v : yh => ByteArray.toList v.1 == ByteArray.toList n) (fun x => some x) (some (-1)) yD vs (by omega) ?_ ?_).trans ?_
 ·intro again i h0 h1
  have hw : Go.IntKind.wrap .i64 (i + 1) = i + 1 := w64 (by omega) (by omega)
  unfold JW
  simp only [Bool.cond_eq_ite, decide_eq_true_eq, h0, h1, if_true, hw]
  rfl
 ·intro again i hi
  unfold JW
  simp only [Bool.cond_eq_ite, decide_eq_true_eq, if_neg hi]
 ·rcases jx vs n with h | ⟨h1, h2⟩ <;> unfold zx at *
  ·rw [h]
   rfl
  ·rw [if_neg (by omega)]
def yc5 (n : ByteArray) : Int := if yr q t l cs vs z = true ∧ YM n = true then 0 else 1
noncomputable def yqO (n : ByteArray) : Int := if yr q t l cs vs z = true ∧ YM n = true then (if zx vs n < 0 then 2 else 0) else 1
noncomputable def WL (n : ByteArray) (b : Int) : Int := if yr q t l cs vs z = true ∧ YM n = true then (if zx vs n < 0 then 2 else if (yc vs (zx vs n)).2.2.2 = true then 5 else if inR b 0 (Go.IntKind.wrap .i64 ((yc vs (zx vs n)).2.2.1 - 1)) = true then 0 else 4) else 1
variable {q t l cs vs} (h : SP q t l cs vs)
include h
theorem Qq (n : ByteArray) (hn : n.size ≤ maxLen) : Zf (q, t, l, cs, vs, z, n) = some (yc5 q t l cs vs z n) := by
 unfold Zf yc5
 simp only [Zk z h, wg n hn, Option.bind_some]
 cases yr q t l cs vs z <;> cases YM n <;> rfl
theorem y3O (n : ByteArray) (hn : n.size ≤ maxLen) : Jv (q, t, l, cs, vs, z, n) = some (yqO q t l cs vs z n) := by
 unfold Jv yqO
 simp only [Qq z h n hn, Zb q t l cs vs z n h.S.2.2.2.2.2, Option.bind_some]
 unfold yc5
 by_cases hc : yr q t l cs vs z = true ∧ YM n = true
 ·simp only [if_pos hc, beq_self_eq_true, cond_true, Option.bind_some]
  by_cases hv : zx vs n < 0
  ·simp only [if_pos hv, decide_eq_true hv]
   rfl
  ·simp only [if_neg hv, decide_eq_false hv]
   rfl
 ·simp only [if_neg hc]
  rfl
theorem VV (n : ByteArray) (hn : n.size ≤ maxLen) (b : Int) : YH (q, t, l, cs, vs, z, n, b) = some (WL q t l cs vs z n b) := by
 unfold YH WL
 simp only [y3O z h n hn, Zb q t l cs vs z n h.S.2.2.2.2.2, Zj, Option.bind_some]
 unfold yqO
 by_cases hc : yr q t l cs vs z = true ∧ YM n = true
 ·simp only [if_pos hc]
  by_cases hv : zx vs n < 0
  ·simp only [if_pos hv]
   rfl
  ·have h2 := jx vs n
   simp only [if_neg hv, show ((0 : Int) != 0) = false from rfl, cond_false, if_pos (show (0 : Int) ≤ zx vs n by omega), if_pos (show zx vs n < ((List.length vs : Nat) : Int) by omega)]
   cases (yc vs (zx vs n)).2.2.2 with
   | true => rfl
   | false => cases inR b 0 (Go.IntKind.wrap .i64 ((yc vs (zx vs n)).2.2.1 - 1)) <;> rfl
 ·simp only [if_neg hc]
  rfl
theorem Qr : yk (q, t, l, cs, vs, z) = some (q, t, l, cs, vs, z) := WJ q t l cs vs z h.S
omit h in
theorem Res.same (c : Int) : Res q t l cs vs z (some (q, t, l, cs, vs, z, c)) := ⟨_, _, _, _, _, _, c, rfl, .inr rfl⟩
theorem yq7 {q' : List yb} {t' : List y0} {l' : List ya} {cs' : List y8} {vs' : List yh} {z' : Int} (hx : SP q' t' l' cs' vs') (b : Bool) : yP (q, t, l, cs, vs, z, q', t', l', cs', vs', z', b) = some (if b = true ∧ yr q' t' l' cs' vs' z' = true then (q', t', l', cs', vs', z', 0) else (q, t, l, cs, vs, z, 6)) := by
 unfold yP
 simp only [Zk z' hx, Qr z h, Option.bind_some]
 cases b <;> cases hp : yr q' t' l' cs' vs' z' <;> simp
theorem Res.fin {q' : List yb} {t' : List y0} {l' : List ya} {cs' : List y8} {vs' : List yh} {z' : Int} (hx : SP q' t' l' cs' vs') (b : Bool) : Res q t l cs vs z (yP (q, t, l, cs, vs, z, q', t', l', cs', vs', z', b)) := by
 rw [yq7 z h hx b]
 by_cases hc : b = true ∧ yr q' t' l' cs' vs' z' = true
 ·rw [if_pos hc]
  exact ⟨_, _, _, _, _, _, _, rfl, .inl hc.2⟩
 ·rw [if_neg hc]
  exact ⟨_, _, _, _, _, _, _, rfl, .inr rfl⟩
end
theorem y3P (l : List ya) (id fr : Int) (hl : l.length ≤ 1000) : ∃ l' b, ZQ (l, id, fr) = some (l', b) ∧ l'.length ≤ l.length + 1 := by
 unfold ZQ qO
 rw [Z9 l id (by omega)]
 simp only [Option.bind_some]
 refine kY (step := W7 _) (fun u : W6 => l.length - u.2.2.2.2.1.toNat) (fun u => u.1 = l ∧ u.2.1 = id ∧ 0 ≤ u.2.2.2.2.1 ∧ u.2.2.2.2.1 ≤ l.length ∧ (u.2.2.2.2.2.length : Int) ≤ u.2.2.2.2.1 + (if u.2.2.2.1 = true then 1 else 0)) (fun _ (res : Option (List ya × Bool)) => ∃ (l' : List ya) (b : Bool), res = some (l', b) ∧ l'.length ≤ l.length + 1) ?_ (l, id, fr, decide (zi l id ≥ 0), 0, []) ⟨rfl, rfl, Int.le_refl _, by simp, by simp; split <;> omega⟩ (by simp; omega)
 ·rintro again ⟨l1, id1, fr1, d, i, o⟩ ⟨rfl, rfl, h0, h1, ho⟩ hag
  simp only at h0 h1 ho hl hag ⊢
  unfold W7
  simp only [Bool.cond_eq_ite, decide_eq_true_eq]
  by_cases hi : i < (l1.length : Int)
  ·have hw : Go.IntKind.wrap .i64 (i + 1) = i + 1 := w64 (by omega) (by omega)
   have ho2 : o.length ≤ 1001 := by split at ho <;> omega
   simp only [if_pos hi, if_pos h0, hw, List.length_append, List.length_cons, List.length_nil]
   cases d with
   | true =>
    simp only [Bool.not_true, Bool.false_eq_true, if_false, Option.bind_some]
    rw [if_pos (by omega)]
    exact hag _ ⟨rfl, rfl, by simp only; omega, by simp only; omega, by simp at ho ⊢; omega⟩ (by simp only; omega)
   | false =>
    simp only [Bool.not_false, if_true, Option.bind_some, decide_eq_true_eq]
    split
    ·rw [if_pos (by omega), if_pos (by omega)]
     exact hag _ ⟨rfl, rfl, by simp only; omega, by simp only; omega, by simp at ho ⊢; omega⟩ (by simp only; omega)
    ·rw [if_pos (by omega)]
     exact hag _ ⟨rfl, rfl, by simp only; omega, by simp only; omega, by simp at ho ⊢; omega⟩ (by simp only; omega)
  ·have ho2 : o.length ≤ 1001 := by split at ho <;> omega
   simp only [if_neg hi, List.length_append, List.length_cons, List.length_nil, Z9 l1 id1 (by omega), Option.bind_some, kK o (by omega), kK (o ++ [(id1, fr1)]) (by simp; omega)]
   cases d with
   | true =>
    have e1 : ∀ u : Bool, ∃ (l' : List ya) (b : Bool), (if u = true then (if (0 + l1.length) * 16 < 140737488355328 then some ([] ++ l1, false) else none) else some (o, true)) = some (l', b) ∧ l'.length ≤ l1.length + 1 := fun u => by
     rw [if_pos (show (0 + l1.length) * 16 < 140737488355328 by omega)]
     cases u
     ·exact ⟨_, _, rfl, by simp at ho; omega⟩
     ·exact ⟨_, _, rfl, by simp⟩
    simp only [Bool.not_true, Bool.false_eq_true, if_false]
    by_cases ha : zi l1 id1 ≥ 0
    ·rw [if_pos ha]
     exact e1 true
    ·rw [if_neg ha]
     exact e1 _
   | false =>
    have e1 : ∀ u : Bool, ∃ (l' : List ya) (b : Bool), (if u = true then (if (0 + l1.length) * 16 < 140737488355328 then some ([] ++ l1, false) else none) else some (o ++ [(id1, fr1)], true)) = some (l', b) ∧ l'.length ≤ l1.length + 1 := fun u => by
     rw [if_pos (show (0 + l1.length) * 16 < 140737488355328 by omega)]
     cases u
     ·exact ⟨_, _, rfl, by simp at ho ⊢; omega⟩
     ·exact ⟨_, _, rfl, by simp⟩
    simp only [Bool.not_false, if_true]
    rw [if_pos (by omega)]
    by_cases ha : zi l1 id1 ≥ 0
    ·rw [if_pos ha]
     exact e1 true
    ·rw [if_neg ha]
     exact e1 _
theorem y8m (vs : List yh) (n : ByteArray) (a s : Int) (f : Bool) (hv : vs.length ≤ 1000) (hN : ∀ v ∈ vs, ByteArray.size v.1 ≤ 60) (hn : n.size ≤ 60) : ∃ vs', YO (vs, n, a, s, f) = some vs' ∧ vs'.length = vs.length + 1 ∧ ∀ v ∈ vs', ByteArray.size v.1 ≤ 60 := by
 unfold YO vD
 simp only [List.nil_append, List.length_nil, List.length_append, List.length_cons]
 rw [if_pos (by omega), if_pos (by omega), w64 (by omega) (by omega)]
 refine kY (step := jD _) (fun u : jC => u.1.toNat) (fun u => 0 ≤ u.1 ∧ u.1 ≤ vs.length ∧ u.2.1 = n ∧ u.2.2.2.2.2.length = vs.length + 1 ∧ ∀ v ∈ u.2.2.2.2.2, ByteArray.size v.1 ≤ 60) (fun _ (res : Option (List yh)) => ∃ vs' : List yh, res = some vs' ∧ vs'.length = vs.length + 1 ∧ ∀ v ∈ vs', ByteArray.size v.1 ≤ 60) ?_ (((vs.length + (0 + 1) : Nat) : Int) - 1, n, a, s, f, vs ++ [(n, a, s, f)]) ⟨by simp only; omega, by simp only; omega, rfl, by simp, fun v hv => ?_⟩ (by simp only; omega)
 ·rintro again ⟨k, n1, a1, s1, f1, o⟩ ⟨h0, h1, rfl, ho, hoN⟩ hag
  simp only at h0 h1 ho hoN hag ⊢
  unfold jD
  simp only [Bool.cond_eq_ite, decide_eq_true_eq]
  by_cases hk : k > 0
  ·have hw : Go.IntKind.wrap .i64 (k - 1) = k - 1 := w64 (by omega) (by omega)
   simp only [if_pos hk, hw, if_pos (show (0 : Int) ≤ k - 1 by omega), if_pos (show k - 1 < ((List.length o : Nat) : Int) by omega), if_pos h0, if_pos (show k < ((List.length o : Nat) : Int) by omega), Option.bind_some]
   split
   ·refine hag _ ⟨by simp only; omega, by simp only; omega, rfl, by simp only [List.length_set]; exact ho, fun v hv => ?_⟩ (by simp only; omega)
    rcases List.mem_or_eq_of_mem_set hv with h | rfl
    ·exact hoN v h
    ·exact hoN _ (z4 yD o (k - 1) (by omega) (by omega))
   ·refine ⟨_, rfl, by rw [List.length_set]; exact ho, fun v hv => ?_⟩
    rcases List.mem_or_eq_of_mem_set hv with h | rfl
    ·exact hoN v h
    ·exact hn
  ·simp only [if_neg hk, Option.bind_some, Bool.false_eq_true, if_false, if_pos h0, if_pos (show k < ((List.length o : Nat) : Int) by omega)]
   refine ⟨_, rfl, by rw [List.length_set]; exact ho, fun v hv => ?_⟩
   rcases List.mem_or_eq_of_mem_set hv with h | rfl
   ·exact hoN v h
   ·exact hn
 ·rcases List.mem_append.1 hv with h | h
  ·exact hN v h
  ·rw [List.mem_singleton.1 h]
   exact hn
theorem y9T (cs : List y8) (n : Int) (hc : cs.length ≤ 1048576) : ∃ cs' i b, zT (cs, n) = some (cs', i, b) ∧ cs'.length = cs.length ∧ (b = true → 0 ≤ i ∧ i < cs.length) := by
 unfold zT zS k6
 simp only [List.nil_append, List.length_nil]
 rw [if_pos (by omega)]
 simp only [Option.bind_some]
 refine kY (step := zz _ _) (fun u : Jw => cs.length - u.2.2.1.toNat) (fun u => u.1 = cs ∧ 0 ≤ u.2.2.1 ∧ u.2.2.1 ≤ cs.length ∧ u.2.2.2 = cs) (fun _ (res : Option (List y8 × Int × Bool)) => ∃ (cs' : List y8) (i : Int) (b : Bool), res = some (cs', i, b) ∧ cs'.length = cs.length ∧ (b = true → 0 ≤ i ∧ i < cs.length)) ?_ (cs, n, 0, cs) ⟨rfl, Int.le_refl _, by simp, rfl⟩ (by simp; omega)
 ·rintro again ⟨l1, n1, i, o⟩ ⟨e1, h0, h1, e2⟩ hag
  simp only at e1 e2 h0 h1 hag ⊢
  subst e1
  subst e2
  unfold zz
  simp only [Bool.cond_eq_ite, decide_eq_true_eq, Ji o hc, Vt, Option.bind_some]
  by_cases hi : i < (o.length : Int)
  ·have hw : Go.IntKind.wrap .i64 (i + 1) = i + 1 := w64 (by omega) (by omega)
   simp only [if_pos hi, if_pos h0, hw, List.length_set, Option.bind_some]
   split
   ·simp only [Option.bind_some]
    split
    ·split
     ·exact ⟨_, _, _, rfl, by simp, fun _ => ⟨h0, hi⟩⟩
     ·exact hag _ ⟨rfl, by simp only; omega, by simp only; omega, rfl⟩ (by simp only; omega)
    ·exact ⟨_, _, _, rfl, rfl, fun h => by cases h⟩
   ·simp only [Option.bind_some, Bool.false_eq_true, if_false]
    exact ⟨_, _, _, rfl, rfl, fun h => by cases h⟩
  ·simp only [if_neg hi, Option.bind_some, Bool.false_eq_true, if_false]
   exact ⟨_, _, _, rfl, rfl, fun h => by cases h⟩
end Go.Proofs.YtjllpipmaejeoaaGreat.Pl
namespace Go.Proofs.YtjllpipmaejeoaaGreat.Pl
open Go.Proofs.YtjllpipmaejeoaaGreat.R Go.Proofs.YtjllpipmaejeoaaGreat.XR
theorem SP.of {q : List yb} {t : List y0} {l : List ya} {cs : List y8} {vs : List yh} (h : TQ q t) (hl : l.length ≤ 1048576) (hc : cs.length ≤ 1048576) (hv : vs.length ≤ 1048576) (hN : ∀ v ∈ vs, ByteArray.size v.1 ≤ maxLen) : SP q t l cs vs :=
 ⟨⟨h.q, h.T.len, h.T.sum, hl, hc, hv⟩, hN⟩
theorem y0t {n : Nat} (h : n ≤ 60) : n ≤ maxLen := Nat.le_trans h (by decide)
section
variable {q : List yb} {t : List y0} {l : List ya} {cs : List y8} {vs : List yh} (z : Int) (h : SP q t l cs vs)
include h
theorem ydO (n : ByteArray) (s : Int) (hn : n.size ≤ 60) : Res q t l cs vs z (Ju (q, t, l, cs, vs, z, n, s)) := by
 unfold Ju
 simp only [Qq z h n (y0t hn), Qr z h, Zb q t l cs vs z n h.S.2.2.2.2.2, Zj, Option.bind_some, yjW, yej]
 refine Jn (P := Res q t l cs vs z) _ (fun _ => Res.same z _) fun hf => Jn (P := Res q t l cs vs z) _ (fun _ => Res.same z _) fun _ => Jn (P := Res q t l cs vs z) _ (fun _ => Res.same z _) fun _ => ?_
 have hp : yr q t l cs vs z = true := by
  unfold yc5 at hf
  by_cases hc : yr q t l cs vs z = true ∧ YM n = true
  ·exact hc.1
  ·rw [if_neg hc] at hf
   cases hf
 have hT := y0s hp
 obtain ⟨l', b, e1, h1⟩ := y3P l z 0 (by have := hT.ll; omega)
 obtain ⟨vs', e2, h2, h3⟩ := y8m vs n z s false (by have := hT.vl; omega) hT.N hn
 rw [e1]
 simp only [Option.bind_some]
 rw [e2]
 simp only [Option.bind_some]
 exact Res.fin z h (SP.of h.tq (by have := hT.ll; omega) h.S.2.2.2.2.1 (by have := hT.vl; omega) fun v hv => y0t (h3 v hv)) b
theorem yjX (n m : ByteArray) (f : Bool) (hn : n.size ≤ 60) (hm : m.size ≤ 60) : Res q t l cs vs z (WY (q, t, l, cs, vs, z, n, m, f)) := by
 unfold WY
 simp only [Qq z h n (y0t hn), Qr z h, Zb q t l cs vs z _ h.S.2.2.2.2.2, wg m (y0t hm), Option.bind_some, yjW, yej]
 cases hf : yc5 q t l cs vs z n != 0 with
 | true =>
  simp only [cond_true, Option.bind_some]
  exact Res.same z _
 | false =>
 simp only [cond_false, Option.bind_some]
 have hp : yr q t l cs vs z = true := by
  unfold yc5 at hf
  by_cases hc : yr q t l cs vs z = true ∧ YM n = true
  ·exact hc.1
  ·rw [if_neg hc] at hf
   cases hf
 have hT := y0s hp
 refine Jn (P := Res q t l cs vs z) _ (fun _ => Res.same z _) fun _ => Jn (P := Res q t l cs vs z) _ (fun _ => Res.same z _) fun hi => Jn (P := Res q t l cs vs z) _ (fun _ => Res.same z _) fun _ => ?_
 have hi' : 0 ≤ zx vs n ∧ zx vs n < ((List.length vs : Nat) : Int) := by
  have := of_decide_eq_false hi
  have := jx vs n
  omega
 obtain ⟨l', b, e1, h1⟩ := y3P l z (yc vs (zx vs n)).2.1 (by have := hT.ll; omega)
 obtain ⟨l2, b2, e2, h2⟩ := y3P l' (Go.IntKind.wrap .i64 (z + 1)) (yc vs (zx vs n)).2.1 (by have := hT.ll; omega)
 obtain ⟨vs', e3, h3, h4⟩ := y8m (vs.set (Int.toNat (zx vs n)) ((yc vs (zx vs n)).1, z, (yc vs (zx vs n)).2.2)) m (Go.IntKind.wrap .i64 (z + 1)) (yc vs (zx vs n)).2.2.1 f (by rw [List.length_set]; have := hT.vl; omega) (fun v hv => by
  rcases List.mem_or_eq_of_mem_set hv with hv | rfl
  ·exact hT.N v hv
  ·exact hT.N (yc vs (zx vs n)) (z4 yD vs _ hi'.1 hi'.2)) hm
 simp only [if_pos hi'.1, if_pos hi'.2]
 rw [e1]
 simp only [Option.bind_some]
 rw [e2]
 simp only [Option.bind_some]
 rw [e3]
 simp only [Option.bind_some]
 rw [List.length_set] at h3
 have hS : SP q t l2 cs vs' := SP.of h.tq (by have := hT.ll; omega) h.S.2.2.2.2.1 (by have := hT.vl; omega) fun v hv => y0t (h4 v hv)
 cases b <;> simp only [cond_true, cond_false, Option.bind_some] <;> exact Res.fin z h hS _
theorem yjY (n : ByteArray) (hn : n.size ≤ 60) : Res q t l cs vs z (WZ (q, t, l, cs, vs, z, n)) := by
 unfold WZ
 simp only [y3O z h n (y0t hn), Qr z h, Zb q t l cs vs z _ h.S.2.2.2.2.2, Option.bind_some, yjW, yej]
 refine Jn (P := Res q t l cs vs z) _ (fun _ => Res.same z _) fun hf => ?_
 have hi : 0 ≤ zx vs n ∧ zx vs n < ((List.length vs : Nat) : Int) := by
  unfold yqO at hf
  have := jx vs n
  by_cases hc : yr q t l cs vs z = true ∧ YM n = true
  ·rw [if_pos hc] at hf
   by_cases hv : zx vs n < 0
   ·rw [if_pos hv] at hf
    cases hf
   ·omega
  ·rw [if_neg hc] at hf
   cases hf
 have hv := h.S.2.2.2.2.2
 have hw : Go.IntKind.wrap .i64 (zx vs n + 1) = zx vs n + 1 := w64 (by omega) (by omega)
 simp only [hw]
 rw [if_pos (Int.le_refl _), if_pos hi.1, if_pos (by omega), if_pos (by simp only [List.length_nil, List.length_drop, List.length_take]; omega), if_pos (by omega), if_pos (by omega), if_pos (Int.le_refl _), if_pos (by simp only [List.length_append, List.length_nil, List.length_drop, List.length_take]; omega)]
 refine Res.fin z h (SP.of h.tq h.S.2.2.2.1 h.S.2.2.2.2.1 (by simp only [List.length_append, List.length_nil, List.length_drop, List.length_take]; omega) fun v hv => ?_) true
 simp only [List.nil_append, List.mem_append] at hv
 rcases hv with hv | hv
 ·exact h.N v (List.mem_of_mem_take (List.mem_of_mem_drop hv))
 ·exact h.N v (List.mem_of_mem_take (List.mem_of_mem_drop hv))
theorem ydP (a b c d e : Int) : ∃ r q' t' cs', zA (q, t, l, cs, vs, z, a, b, c, d, e) = some (r, q', t', l, cs', vs, z) ∧ SP q' t' l cs' vs := by
 have hq := h.tq
 unfold zA
 simp only [kM q t a b hq.T hq.q, Jl q t a b c d e hq.T hq.Q hq.q, Option.bind_some]
 cases (yo q t (a, b, c, d, e)).2.2 with
 | false => exact ⟨_, _, _, _, rfl, h⟩
 | true =>
  unfold JZ
  simp only [Bool.not_true, cond_false, Kh cs _ h.S.2.2.2.2.1]
  have hT := kz (a, b, c, d, e) hq
  have key : ∀ u : Bool, ∃ r q' t' cs', (Option.bind (bif u then Option.bind (some (y2j cs (YL q t a b).2.2.2.1)) fun r2 => some ((yo q t (a, b, c, d, e)).1, (yo q t (a, b, c, d, e)).2.1, l, r2, vs, z) else some ((yo q t (a, b, c, d, e)).1, (yo q t (a, b, c, d, e)).2.1, l, cs, vs, z)) fun r3 => some (true, r3.1, r3.2.1, r3.2.2.1, r3.2.2.2.1, r3.2.2.2.2.1, r3.2.2.2.2.2)) = some (r, q', t', l, cs', vs, z) ∧ SP q' t' l cs' vs := fun u => by
   cases u
   ·exact ⟨_, _, _, _, rfl, hT.sp h h.S.2.2.2.1 h.S.2.2.2.2.1⟩
   ·exact ⟨_, _, _, _, rfl, hT.sp h h.S.2.2.2.1 (by rw [y3L]; exact h.S.2.2.2.2.1)⟩
  cases (YL q t a b).2.2.2.2.2
  ·exact key false
  ·exact key ((YL q t a b).2.2.1 == 1)
theorem yg1 (n : ByteArray) (b w : Int) (hn : n.size ≤ 60) : Res q t l cs vs z (wM (q, t, l, cs, vs, z, n, b, w)) := by
 obtain ⟨cs', i, u, e1, h1, h2⟩ := y9T cs w h.S.2.2.2.2.1
 have hS : SP q t l cs' vs := SP.of h.tq h.S.2.2.2.1 (by rw [h1]; exact h.S.2.2.2.2.1) h.S.2.2.2.2.2 h.N
 have main : WL q t l cs vs z n b = 0 → Res q t l cs vs z (bif u then if (0 : Int) ≤ zx vs n then if zx vs n < ((List.length vs : Nat) : Int) then if (0 : Int) ≤ i then if i < ((List.length cs' : Nat) : Int) then Option.bind (zA (q, t, l, cs', vs, z, b, (yc vs (zx vs n)).2.1, (1 : Int), i, (ym cs' i).1)) fun r7 => yP (q, t, l, cs, vs, z, r7.2.1, r7.2.2.1, r7.2.2.2.1, r7.2.2.2.2.1, r7.2.2.2.2.2.1, r7.2.2.2.2.2.2, r7.1) else none else none else none else none else yP (q, t, l, cs, vs, z, q, t, l, cs', vs, z, false)) := by
  intro hb
  have hi : 0 ≤ zx vs n ∧ zx vs n < ((List.length vs : Nat) : Int) := by
   unfold WL at hb
   have := jx vs n
   by_cases hc : yr q t l cs vs z = true ∧ YM n = true
   ·rw [if_pos hc] at hb
    by_cases hv : zx vs n < 0
    ·rw [if_pos hv] at hb
     cases hb
    ·omega
   ·rw [if_neg hc] at hb
    cases hb
  cases u with
  | false => exact Res.fin z h hS false
  | true =>
   have h3 := h2 rfl
   obtain ⟨r, q', t', cs2, e2, h4⟩ := ydP z hS b (yc vs (zx vs n)).2.1 1 i (ym cs' i).1
   simp only [cond_true, if_pos hi.1, if_pos hi.2, if_pos h3.1, if_pos (show i < ((List.length cs' : Nat) : Int) by rw [h1]; exact h3.2), e2, Option.bind_some]
   exact Res.fin z h h4 r
 unfold wM
 simp only [VV z h n (y0t hn), Qr z h, Zb q t l cs vs z _ h.S.2.2.2.2.2, Vt, e1, Option.bind_some, yjW, yej]
 cases hb : WL q t l cs vs z n b == 0 with
 | false =>
  have hne : (WL q t l cs vs z n b != 0) = true := by
   rw [bne, hb]
   rfl
  simp only [cond_false, Option.bind_some, hne, cond_true]
  exact Res.same z _
 | true =>
  have h0 : WL q t l cs vs z n b = 0 := by simpa using hb
  cases hw : isW w with
  | false =>
   simp only [cond_true, Option.bind_some, Bool.not_false, show ((4 : Int) != 0) = true from rfl]
   exact Res.same z _
  | true =>
   have hne : (WL q t l cs vs z n b != 0) = false := by
    rw [bne, hb]
    rfl
   simp only [cond_true, Option.bind_some, Bool.not_true, cond_false, hne]
   exact main h0
theorem Qs (i b : Int) (h0 : 0 ≤ i) (h1 : i < (vs.length : Int)) : ∃ r q' t' cs', Y6 (q, t, l, cs, vs, z, i, b) = some (r, q', t', l, cs', vs, z) ∧ SP q' t' l cs' vs := by
 have hq := h.tq
 unfold Y6
 simp only [if_pos h0, if_pos h1, y15 q t l _ _ hq.T h.S.2.2.2.1, kM q t _ _ hq.T hq.q, Option.bind_some, yvy, yej]
 have key : ∀ u : Bool, ∃ r q' t' cs', (bif u then zA (q, t, l, cs, vs, z, b, (yc vs i).2.1, (2 : Int), (0 : Int), (0 : Int)) else bif (!(YL q t b (yc vs i).2.1).2.2.2.2.2) then some (true, q, t, l, cs, vs, z) else zA (q, t, l, cs, vs, z, b, (yc vs i).2.1, (0 : Int), (0 : Int), (0 : Int))) = some (r, q', t', l, cs', vs, z) ∧ SP q' t' l cs' vs := fun u => by
  cases u
  ·cases (YL q t b (yc vs i).2.1).2.2.2.2.2
   ·exact ⟨_, _, _, _, rfl, h⟩
   ·exact ydP z h _ _ _ _ _
  ·exact ydP z h _ _ _ _ _
 cases (ans (jE t l b (yc vs i).2.1)).2.2.2.2.2
 ·exact key false
 ·exact key _
theorem yc6 (n : ByteArray) (b : Int) (hn : n.size ≤ 60) : Res q t l cs vs z (jt (q, t, l, cs, vs, z, n, b)) := by
 unfold jt
 simp only [VV z h n (y0t hn), Qr z h, Zb q t l cs vs z _ h.S.2.2.2.2.2, Option.bind_some, yjW, yej]
 refine Jn (P := Res q t l cs vs z) _ (fun _ => Res.same z _) fun hb => ?_
 have hi : 0 ≤ zx vs n ∧ zx vs n < ((List.length vs : Nat) : Int) := by
  unfold WL at hb
  have := jx vs n
  by_cases hc : yr q t l cs vs z = true ∧ YM n = true
  ·rw [if_pos hc] at hb
   by_cases hv : zx vs n < 0
   ·rw [if_pos hv] at hb
    cases hb
   ·omega
  ·rw [if_neg hc] at hb
   cases hb
 obtain ⟨r, q', t', cs', e1, h1⟩ := Qs z h (zx vs n) b hi.1 hi.2
 rw [e1]
 exact Res.fin z h h1 r
omit h in
theorem yg2 {n : ByteArray} {b : Int} (hb : WL q t l cs vs z n b = 0) : (0 ≤ zx vs n ∧ zx vs n < ((List.length vs : Nat) : Int)) ∧ yr q t l cs vs z = true := by
 unfold WL at hb
 have := jx vs n
 by_cases hc : yr q t l cs vs z = true ∧ YM n = true
 ·rw [if_pos hc] at hb
  by_cases hv : zx vs n < 0
  ·rw [if_pos hv] at hb
   cases hb
  ·exact ⟨by omega, hc.1⟩
 ·rw [if_neg hc] at hb
  cases hb
theorem ydQ (n : ByteArray) (s : Int) (hn : n.size ≤ 60) : Res q t l cs vs z (Jz (q, t, l, cs, vs, z, n, s)) := by
 have fin : ∀ (i : Int) (s : Int) (ok : Bool) (q' : List yb) (t' : List y0) (cs' : List y8), 0 ≤ i → i < (vs.length : Int) → SP q' t' l cs' vs → Res q t l cs vs z (if (0 : Int) ≤ i then if i < ((List.length vs : Nat) : Int) then yP (q, t, l, cs, vs, z, q', t', l, cs', List.set vs (Int.toNat i) ((yc vs i).1, (yc vs i).2.1, s, (yc vs i).2.2.2), z, ok) else none else none) := by
  intro i s ok q' t' cs' h0 h1 hS
  rw [if_pos h0, if_pos h1]
  refine Res.fin z h ⟨⟨hS.S.1, hS.S.2.1, hS.S.2.2.1, hS.S.2.2.2.1, hS.S.2.2.2.2.1, by rw [List.length_set]; exact h.S.2.2.2.2.2⟩, fun v hv => ?_⟩ ok
  rcases List.mem_or_eq_of_mem_set hv with hv | rfl
  ·exact h.N v hv
  ·exact h.N (yc vs i) (z4 yD vs i h0 h1)
 have loop : ∀ (k0 : Int × Int × Bool × List yb × List y0 × List ya × List y8 × List yh × Int × Int × Int × List yb × List y0 × List ya × List y8 × List yh → Option P7a) (k1 : Int × Int × Bool × List yb × List y0 × List ya × List y8 × List yh × Int × Int × List yb × List y0 × List ya × Int × List y8 × List yh → Option P7a) (s i b : Int) (ok : Bool) (y : Int), 0 ≤ i → i < (vs.length : Int) → b ≤ 1000 → -1000 ≤ b → 0 ≤ s →
   (∀ ok q' t' cs', SP q' t' l cs' vs → Res q t l cs vs z (k0 (s, i, ok, q, t, l, cs, vs, z, y, z, q', t', l, cs', vs))) →
   (∀ ok q' t' cs', SP q' t' l cs' vs → Res q t l cs vs z (k1 (s, i, ok, q, t, l, cs, vs, z, y, q', t', l, z, cs', vs))) →
   Res q t l cs vs z (wm k0 k1 (Sum.inl (s, i, ok, b, q, t, l, cs, vs, z, y, z, q, t, l, cs, vs))) := by
  intro k0 k1 s i b ok y h0 h1 hb hb0 hs f0 f1
  unfold wm
  refine kY (step := jh k0 k1) (fun u : wl => match u with | .inl u => (u.2.2.2.1 + 1).toNat + 1 | .inr u => (u.2.2.2.1 + 1).toNat)
   (fun u => match u with
    | .inl u => ∃ b ok q' t' cs', b ≤ 1000 ∧ -1000 ≤ b ∧ SP q' t' l cs' vs ∧ u = (s, i, ok, b, q, t, l, cs, vs, z, y, z, q', t', l, cs', vs)
    | .inr u => ∃ b ok q' t' cs', b ≤ 1000 ∧ -1001 ≤ b ∧ SP q' t' l cs' vs ∧ u = (s, i, ok, b, q, t, l, cs, vs, z, y, q', t', l, z, cs', vs))
   (fun _ res => Res q t l cs vs z res) ?_ _ ⟨b, ok, q, t, cs, hb, hb0, h, rfl⟩ (by simp only; omega)
  intro again u hu hag
  cases u with
  | inl u =>
   obtain ⟨b, ok, q', t', cs', k1', k2', hS, rfl⟩ := hu
   unfold jh
   simp only at hag ⊢
   by_cases hbs : b ≥ s
   ·cases ok with
    | false =>
     simp only [decide_eq_true hbs, cond_true, Option.bind_some, cond_false]
     exact f0 _ _ _ _ hS
    | true =>
     obtain ⟨r, q2, t2, cs2, e1, h2⟩ := Qs z hS i b h0 h1
     have hw : Go.IntKind.wrap .i64 (b - 1) = b - 1 := w64 (by omega) (by omega)
     simp only [decide_eq_true hbs, cond_true, Option.bind_some, e1, hw]
     exact hag _ ⟨b - 1, r, q2, t2, cs2, by omega, by omega, h2, rfl⟩ (by simp only; omega)
   ·simp only [decide_eq_false hbs, cond_false, Option.bind_some]
    exact f0 _ _ _ _ hS
  | inr u =>
   obtain ⟨b, ok, q', t', cs', k1', k2', hS, rfl⟩ := hu
   unfold jh
   simp only at hag ⊢
   by_cases hbs : b ≥ s
   ·cases ok with
    | false =>
     simp only [decide_eq_true hbs, cond_true, Option.bind_some, cond_false]
     exact f1 _ _ _ _ hS
    | true =>
     obtain ⟨r, q2, t2, cs2, e1, h2⟩ := Qs z hS i b h0 h1
     have hw : Go.IntKind.wrap .i64 (b - 1) = b - 1 := w64 (by omega) (by omega)
     simp only [decide_eq_true hbs, cond_true, Option.bind_some, e1, hw]
     exact hag _ ⟨b - 1, r, q2, t2, cs2, by omega, by omega, h2, rfl⟩ (by simp only; omega)
   ·simp only [decide_eq_false hbs, cond_false, Option.bind_some]
    exact f1 _ _ _ _ hS
 unfold Jz
 simp only [VV z h n (y0t hn), Qr z h, Zb q t l cs vs z _ h.S.2.2.2.2.2, Zj, Option.bind_some, yjW, yej]
 cases hb : WL q t l cs vs z n 0 == 0 with
 | false =>
  have hne : (WL q t l cs vs z n 0 != 0) = true := by
   rw [bne, hb]
   rfl
  simp only [cond_false, Option.bind_some, hne, cond_true]
  exact Res.same z _
 | true =>
  have h0 : WL q t l cs vs z n 0 = 0 := by simpa using hb
  cases hs : inR s 1 12 with
  | false =>
   simp only [cond_true, Option.bind_some, Bool.not_false, show ((4 : Int) != 0) = true from rfl]
   exact Res.same z _
  | true =>
   have hne : (WL q t l cs vs z n 0 != 0) = false := by
    rw [bne, hb]
    rfl
   simp only [cond_true, Option.bind_some, Bool.not_true, cond_false, hne]
   obtain ⟨hi, hp⟩ := yg2 z h0
   rw [if_pos hi.1, if_pos hi.2]
   have hs' := zo.1 hs
   have hr : 1 ≤ (yc vs (zx vs n)).2.2.1 ∧ (yc vs (zx vs n)).2.2.1 ≤ 12 := by
    unfold yr at hp
    simp only [Bool.and_eq_true] at hp
    have hv := hp.2.2.2.2.2.1
    unfold wD at hv
    simp only [Bool.and_eq_true, Bool.not_eq_true'] at hv
    obtain ⟨j, hj⟩ := Kd _ vs 0 hv.1 _ (z4 yD vs _ hi.1 hi.2)
    unfold ybW at hj
    simp only [Bool.or_eq_false_iff, Bool.not_eq_false', zo] at hj
    exact hj.2.1
   have hw : Go.IntKind.wrap .i64 ((yc vs (zx vs n)).2.2.1 - 1) = (yc vs (zx vs n)).2.2.1 - 1 := w64 (by omega) (by omega)
   rw [hw]
   exact loop _ _ s (zx vs n) _ true 0 hi.1 hi.2 (by omega) (by omega) (by omega) (fun ok q' t' cs' hS => fin _ s ok q' t' cs' hi.1 hi.2 hS) (fun ok q' t' cs' hS => fin _ s ok q' t' cs' hi.1 hi.2 hS)
end
end Go.Proofs.YtjllpipmaejeoaaGreat.Pl
namespace Go.Proofs.YtjllpipmaejeoaaGreat.Pl
open Go.Proofs.YtjllpipmaejeoaaGreat.R Go.Proofs.YtjllpipmaejeoaaGreat.XR
def YA (cs : List y8) : Int := zX (fun c : y8 => !c.2.1) cs 0
def y9U (cs : List y8) (n : Int) : List y8 × Int × Bool :=
 if zr cs = true ∧ isW n = true ∧ ¬ YA cs < 0 then (cs.set (YA cs).toNat ((cs.getD (YA cs).toNat yN).1, true, n), YA cs, true) else (cs, 0, false)
theorem QM {cs : List y8} (h : ¬ YA cs < 0) : 0 ≤ YA cs ∧ YA cs < (cs.length : Int) ∧ (cs.getD (YA cs).toNat yN).2.1 = false := by
 rcases YS (fun c : y8 => !c.2.1) yN cs 0 (Int.le_refl _) with h1 | ⟨h1, h2, h3⟩
 ·exact absurd (show YA cs < 0 by unfold YA; omega) h
 ·rw [Int.sub_zero] at h3
  refine ⟨h1, by show zX (fun c : y8 => !c.2.1) cs 0 < _; omega, ?_⟩
  have : (!(cs.getD (YA cs).toNat yN).2.1) = true := h3
  simpa using this
theorem y8n (cs : List y8) (n : Int) : (y9U cs n).1.length = cs.length := by
 unfold y9U
 split <;> simp
theorem y4k (cs : List y8) (hc : cs.length ≤ 1048576) : WB cs = some (YA cs) := by
 unfold WB Q8
 refine (YK (step := Jb _ _) (fun i => (cs, (cs.length : Int), i)) (fun c : y8 => !c.2.1) (fun i => some i) (some (-1)) yN cs (by omega) ?_ ?_).trans ?_
 ·intro again i h0 h1
  have hw : Go.IntKind.wrap .i64 (i + 1) = i + 1 := w64 (by omega) (by omega)
  unfold Jb
  have hx : cs.getD i.toNat yN = ym cs i := rfl
  rw [hx]
  simp only [Bool.cond_eq_ite, decide_eq_true_eq, h0, h1, if_true, hw]
 ·intro again i hi
  unfold Jb
  simp only [Bool.cond_eq_ite, decide_eq_true_eq, if_neg hi]
 ·unfold YA
  rcases y2M (fun c : y8 => !c.2.1) cs 0 with h | ⟨h, _⟩
  ·rw [h]
   rfl
  ·rw [if_neg (by omega)]
theorem y8o (cs : List y8) (i : Int) (n : Int) (h0 : 0 ≤ i) (h1 : i < (cs.length : Int)) :
  (List.set (List.set cs (Int.toNat i) ((ym cs i).1, true, (ym cs i).2.2)) (Int.toNat i) ((ym (List.set cs (Int.toNat i) ((ym cs i).1, true, (ym cs i).2.2)) i).1, (ym (List.set cs (Int.toNat i) ((ym cs i).1, true, (ym cs i).2.2)) i).2.1, n)) = cs.set i.toNat ((cs.getD i.toNat yN).1, true, n) := by
 have hr : ym (List.set cs (Int.toNat i) ((ym cs i).1, true, (ym cs i).2.2)) i = ((ym cs i).1, true, (ym cs i).2.2) := by
  show (List.set cs (Int.toNat i) ((ym cs i).1, true, (ym cs i).2.2)).getD i.toNat yN = _
  rw [List.getD_eq_getElem?_getD, List.getElem?_set_self (by omega)]
  rfl
 rw [hr, List.set_set]
 rfl
theorem y0u {cs : List y8} {n : Int} (h : ¬ (zr cs = true ∧ isW n = true ∧ ¬ YA cs < 0)) : y9U cs n = (cs, 0, false) := if_neg h
theorem y2O {cs : List y8} {n : Int} (h : zr cs = true ∧ isW n = true ∧ ¬ YA cs < 0) : y9U cs n = (cs.set (YA cs).toNat ((cs.getD (YA cs).toNat yN).1, true, n), YA cs, true) := if_pos h
theorem y2l (cs : List y8) (n : Int) (hc : cs.length ≤ 1048576) : Zz (cs, n) = some (y9U cs n) := by
 have e1 : zw cs = some cs := by
  unfold zw
  rw [if_pos (by simp only [List.length_nil]; omega)]
  rfl
 unfold Zz
 simp only [e1, y4k cs hc, y3s, vj cs hc, Option.bind_some]
 by_cases hf : YA cs < 0
 ·rw [y0u fun h => h.2.2 hf]
  simp only [decide_eq_true hf, cond_true, Option.bind_some]
 ·obtain ⟨f0, f1, _⟩ := QM hf
  simp only [decide_eq_false hf, cond_false, Option.bind_some]
  cases hw : isW n with
  | false =>
   rw [y0u fun h => by rw [hw] at h; exact Bool.noConfusion h.2.1]
   rfl
  | true =>
   simp only [Bool.not_true, cond_false, Option.bind_some]
   cases hk : zr cs with
   | false =>
    rw [y0u fun h => by rw [hk] at h; exact Bool.noConfusion h.1]
    rfl
   | true =>
    rw [y2O ⟨hk, hw, hf⟩]
    simp only [Bool.not_true, cond_false, List.length_set, if_pos f0, if_pos f1, y8o cs _ n f0 f1]
theorem y2m (cs : List y8) (n : Int) (hc : cs.length ≤ 1048576) : zT (cs, n) = some (y9U cs n) := by
 have e1 : zS cs = some cs := by
  unfold zS
  rw [if_pos (by simp only [List.length_nil]; omega)]
  rfl
 unfold zT k6
 simp only [e1, Option.bind_some]
 by_cases hok : zr cs = true ∧ isW n = true
 ·refine (YK (step := zz _ _) (fun i => (cs, n, i, cs)) (fun c : y8 => !c.2.1) (fun i => some (cs.set i.toNat ((cs.getD i.toNat yN).1, true, n), i, true)) (some (cs, 0, false)) yN cs (by omega) ?_ ?_).trans ?_
  ·intro again i h0 h1
   have hw : Go.IntKind.wrap .i64 (i + 1) = i + 1 := w64 (by omega) (by omega)
   unfold zz
   have hx : cs.getD i.toNat yN = ym cs i := rfl
   have hs := y8o cs i n h0 h1
   rw [hx] at hs ⊢
   simp only [Bool.cond_eq_ite, decide_eq_true_eq, h0, h1, if_true, hw, Ji cs hc, Vt, hok.1, hok.2, Option.bind_some, List.length_set, hs]
  ·intro again i hi
   unfold zz
   simp only [Bool.cond_eq_ite, decide_eq_true_eq, if_neg hi, Option.bind_some, Bool.false_eq_true, if_false]
  ·show (if YA cs < 0 then _ else _) = _
   by_cases hf : YA cs < 0
   ·rw [if_pos hf, y0u fun h => h.2.2 hf]
   ·rw [if_neg hf, y2O ⟨hok.1, hok.2, hf⟩]
    rfl
 ·rw [y0u fun h => hok ⟨h.1, h.2.1⟩]
  refine ZH (step := zz _ _) (fun _ => 0) (fun u => u = (cs, n, 0, cs)) (fun _ => some (cs, 0, false)) ?_ _ rfl (by decide)
  rintro again u rfl _
  unfold zz
  simp only [Ji cs hc, Vt, Option.bind_some]
  cases hk : zr cs with
  | false => cases decide ((0 : Int) < (cs.length : Int)) <;> rfl
  | true =>
   have hw : isW n = false := by
    cases hw : isW n with
    | false => rfl
    | true => exact absurd ⟨hk, hw⟩ hok
   rw [hw]
   cases decide ((0 : Int) < (cs.length : Int)) <;> rfl
def y8p (q : List Int) (t : List y0) (i : Int) : List Int × List y0 := (q, t.set i.toNat (yR (yF (yd t i))))
theorem y8q (q : List Int) (t : List y0) (i : Int) (h : TS t) (hq : q.length ≤ 1048576) (h0 : 0 ≤ i) (h1 : i < (t.length : Int)) : jX (q, t, i) = some (y8p q t i) := by
 have ht := h.ok.len
 have hN := nk h h0 h1
 have hk := hN.keys
 have hm : Go.IntKind.wrap .i64 ((t.length : Int) - 1) = (t.length : Int) - 1 := w64 (by omega) (by omega)
 unfold jX Wm
 simp only [V4 q t hq (by omega) (fun n hn => (h.node n hn).q), Zj, hm, Option.bind_some]
 rw [zo.2 ⟨h0, by omega⟩, cond_true, if_pos h0, if_pos h1, vn h h0 h1]
 simp only [Option.bind_some]
 rw [Jk _ (by omega)]
 simp only [Option.bind_some]
 rw [if_pos h0, if_pos h1]
 rfl
end Go.Proofs.YtjllpipmaejeoaaGreat.Pl
namespace Go.Proofs.YtjllpipmaejeoaaGreat.Pl
open Go.Proofs.YtjllpipmaejeoaaGreat.R Go.Proofs.YtjllpipmaejeoaaGreat.XR
theorem y53 : ∀ (a b c : List UInt8), Go.Op.bytesLess a b = true → Go.Op.bytesLess b c = true → Go.Op.bytesLess a c = true
 | _, [], _, h, _ => by simp [Go.Op.bytesLess] at h
 | _, _ :: _, [], _, h => by simp [Go.Op.bytesLess] at h
 | [], _ :: _, _ :: _, _, _ => by simp [Go.Op.bytesLess]
 | x :: a, y :: b, z :: c, h1, h2 => by
  simp only [Go.Op.bytesLess, Bool.or_eq_true, Bool.and_eq_true, decide_eq_true_eq, beq_iff_eq] at *
  rcases h1 with h1 | ⟨rfl, h1⟩
  ·rcases h2 with h2 | ⟨rfl, h2⟩
   ·exact .inl (UInt8.lt_trans h1 h2)
   ·exact .inl h1
  ·rcases h2 with h2 | ⟨rfl, h2⟩
   ·exact .inl h2
   ·exact .inr ⟨rfl, y53 a b c h1 h2⟩
end Go.Proofs.YtjllpipmaejeoaaGreat.Pl
namespace Go.Proofs.YtjllpipmaejeoaaGreat.Pl
open Go.Proofs.YtjllpipmaejeoaaGreat.R Go.Proofs.YtjllpipmaejeoaaGreat.XR
def yqP (l : List yh) : Prop := ∀ j, j + 1 < l.length → Go.Op.bytesLess (ByteArray.toList (l.getD j yD).1) (ByteArray.toList (l.getD (j + 1) yD).1) = true
theorem yg3 {vs : List yh} {l : List ya} (h : wD vs l = true) : yqP vs := by
 intro j hj
 unfold wD at h
 simp only [Bool.and_eq_true, Bool.not_eq_true'] at h
 have := WI yD vs 0 h.1 (j + 1) hj
 unfold ybW at this
 simp only [Bool.or_eq_false_iff, Bool.not_eq_false', Bool.and_eq_false_iff] at this
 rcases this.2.2.2.2.1 with h1 | h1
 ·have := of_decide_eq_false h1
  omega
 ·rwa [show ((0 : Int) + ((j + 1 : Nat) : Int) - 1).toNat = j by omega] at h1
section
variable (q : List yb) (t : List y0) (l : List ya) (cs : List y8) (vs : List yh) (z : Int)
theorem y6Y (n : ByteArray) (hv : vs.length ≤ 1048576) : kX (q, t, l, cs, vs, z, n) = some (zx vs n) := by
 unfold kX zh Yv
 have key := YK (step := yV (fun x2 => some x2) (fun x3 => some ((-1 : Int), x3))) (fun i => (vs, (vs.length : Int), i, n)) (fun v : yh => ByteArray.toList v.1 == ByteArray.toList n) (fun i => some (i, n)) (some (-1, n)) yD vs (by omega) (fun again i h0 h1 => by
  have hw : Go.IntKind.wrap .i64 (i + 1) = i + 1 := w64 (by omega) (by omega)
  unfold yV kI
  simp only [Bool.cond_eq_ite, decide_eq_true_eq, h0, h1, if_true, hw, Option.bind_some]
  rfl) (fun again i hi => by
  unfold yV
  simp only [Bool.cond_eq_ite, decide_eq_true_eq, if_neg hi])
 simp only
 rw [key]
 rcases jx vs n with h | ⟨h1, h2⟩ <;> unfold zx at *
 ·rw [h]
  rfl
 ·rw [if_neg (by omega)]
  rfl
noncomputable def yc7 (n : ByteArray) (b : Int) : Int := if yr q t l cs vs z = true ∧ YM n = true then (if zx vs n < 0 then 2 else if inR b 0 (Go.IntKind.wrap .i64 ((yc vs (zx vs n)).2.2.1 - 1)) = true then 0 else 4) else 1
variable {q t l cs vs} (h : SP q t l cs vs)
include h
theorem ZI (n : ByteArray) (hn : n.size ≤ maxLen) (b : Int) (ch : Bool) : Yq (q, t, l, cs, vs, z, n, b, ch) = some (zx vs n, if ch = true then WL q t l cs vs z n b else yc7 q t l cs vs z n b) := by
 unfold Yq WL yc7
 simp only [y6Y q t l cs vs z n h.S.2.2.2.2.2, y0e z h, y09 n hn, Za, Option.bind_some]
 cases hp : yr q t l cs vs z with
 | false => cases ch <;> rfl
 | true =>
  cases hno : YM n with
  | false => cases ch <;> rfl
  | true =>
   simp only [Bool.not_true, cond_false, Option.bind_some, and_self, if_true]
   by_cases hv : zx vs n < 0
   ·simp only [decide_eq_true hv, cond_true, if_pos hv]
    cases ch <;> rfl
   ·have h2 := jx vs n
    simp only [decide_eq_false hv, cond_false, if_neg hv, if_pos (show (0 : Int) ≤ zx vs n by omega), if_pos (show zx vs n < ((List.length vs : Nat) : Int) by omega)]
    cases ch <;> cases (yc vs (zx vs n)).2.2.2 <;> cases inR b 0 (Go.IntKind.wrap .i64 ((yc vs (zx vs n)).2.2.1 - 1)) <;> rfl
theorem y1J {q' : List yb} {t' : List y0} {l' : List ya} {cs' : List y8} {vs' : List yh} {z' : Int} (hx : SP q' t' l' cs' vs') (b : Bool) : YD (q, t, l, cs, vs, z, q', t', l', cs', vs', z', b) = some (if b = true ∧ yr q' t' l' cs' vs' z' = true then (q', t', l', cs', vs', z', 0) else (q, t, l, cs, vs, z, 6)) := by
 have ec : z3 (q, t, l, cs, vs, z) = some (q, t, l, cs, vs, z) := qq q t l cs vs z h.S
 unfold YD
 simp only [y0e z' hx, ec, Option.bind_some]
 cases b <;> cases hp : yr q' t' l' cs' vs' z' <;> simp
omit h in
def y2P (q : List yb) (t : List y0) (l : List ya) (cs : List y8) (vs : List yh) (z : Int) (k : y7) : Bool × List yb × List y0 × List ya × List y8 × List yh × Int :=
 ((yo q t k).2.2, (yo q t k).1, (yo q t k).2.1, l, if (yo q t k).2.2 = true then Jm q t cs k else cs, vs, z)
theorem y3Q (a b c d e : Int) : zG (q, t, l, cs, vs, z, a, b, c, d, e) = some (y2P q t l cs vs z (a, b, c, d, e)) := by
 have hq := h.tq
 unfold zG y2P
 simp only [y0d q t a b hq.T hq.q, y3F q t a b c d e hq.T hq.Q hq.q, Option.bind_some]
 cases hr : (yo q t (a, b, c, d, e)).2.2 with
 | false => rfl
 | true =>
  unfold Jm
  simp only [cond_true, if_true, Option.bind_some, y2k cs _ h.S.2.2.2.2.1]
  cases (YL q t a b).2.2.2.2.2 with
  | false => rfl
  | true =>
   by_cases h1 : (YL q t a b).2.2.1 = 1
   ·rw [if_pos ⟨rfl, h1⟩]
    simp only [h1, cond_true, Option.bind_some, beq_self_eq_true]
   ·rw [if_neg fun hh => h1 hh.2]
    simp only [cond_true, Option.bind_some, beq_eq_false_iff_ne.2 h1, cond_false]
end
end Go.Proofs.YtjllpipmaejeoaaGreat.Pl
namespace Go.Proofs.YtjllpipmaejeoaaGreat.Pl
open Go.Proofs.YtjllpipmaejeoaaGreat.R Go.Proofs.YtjllpipmaejeoaaGreat.XR
section
variable {q : List yb} {t : List y0} {l : List ya} {cs : List y8} {vs : List yh} (z : Int) (h : SP q t l cs vs)
include h
theorem yjZ : z3 (q, t, l, cs, vs, z) = some (q, t, l, cs, vs, z) := qq q t l cs vs z h.S
theorem ydR (hp : yr q t l cs vs z = true) {i : Int} (h0 : 0 ≤ i) (h1 : i < (vs.length : Int)) : 1 ≤ (yc vs i).2.2.1 ∧ (yc vs i).2.2.1 ≤ 12 := by
 unfold yr at hp
 simp only [Bool.and_eq_true] at hp
 have hv := hp.2.2.2.2.2.1
 unfold wD at hv
 simp only [Bool.and_eq_true, Bool.not_eq_true'] at hv
 obtain ⟨j, hj⟩ := Kd _ vs 0 hv.1 _ (z4 yD vs _ h0 h1)
 unfold ybW at hj
 simp only [Bool.or_eq_false_iff, Bool.not_eq_false', zo] at hj
 exact hj.2.1
theorem yho (k : y7) : SP (y2P q t l cs vs z k).2.1 (y2P q t l cs vs z k).2.2.1 (y2P q t l cs vs z k).2.2.2.1 (y2P q t l cs vs z k).2.2.2.2.1 (y2P q t l cs vs z k).2.2.2.2.2.1 :=
 (kz k h.tq).sp h h.S.2.2.2.1 (by
  show (if _ then Jm q t cs k else cs).length ≤ _
  split
  ·rw [VT]
   exact h.S.2.2.2.2.1
  ·exact h.S.2.2.2.2.1)
end
end Go.Proofs.YtjllpipmaejeoaaGreat.Pl
namespace Go.Proofs.YtjllpipmaejeoaaGreat.Pl
open Go.Proofs.YtjllpipmaejeoaaGreat.R Go.Proofs.YtjllpipmaejeoaaGreat.XR
theorem yb6 {l : List Int} {v : Int} : yeg l v = true ↔ v ∈ l := by
 unfold yeg
 constructor
 ·intro h
  have h := of_decide_eq_true h
  rcases YS (fun a : Int => a == v) y1y l 0 (Int.le_refl _) with h1 | ⟨h1, h2, h3⟩
  ·omega
  ·have h4 : l.getD (zX (fun a : Int => a == v) l 0 - 0).toNat y1y = v := by simpa using h3
   rw [← h4, Int.sub_zero]
   exact z4 y1y l _ h1 (by omega)
 ·intro h
  refine decide_eq_true ?_
  refine Decidable.byContradiction fun hn => ?_
  have := QJ (p := fun a : Int => a == v) l 0 (Int.le_refl _) (by omega) v h
  simp at this
theorem yb7 (b : Int) : ∀ (l s : List y7), l.foldl (Qg b) s = s ++ l.filter fun k => k.1 == b
 | [], s => by simp
 | c :: l, s => by
  rw [List.foldl_cons, yb7 b l, List.filter_cons]
  unfold Qg
  cases c.1 == b <;> simp
theorem zH {l : List y7} {b : Int} {k : y7} : k ∈ zM l b ↔ k ∈ l ∧ k.1 = b := by
 unfold zM
 rw [yb7, List.nil_append, List.mem_filter]
 simp
theorem yk0 (path : List Int) : ∀ (l : List y7) (s : Bool × y7), (l.foldl (wB path) s = s ∧ ∀ c ∈ l, c.2.1 ∈ path → s.1 = true ∧ c.2.1 ≤ s.2.2.1) ∨
  ((l.foldl (wB path) s).1 = true ∧ (l.foldl (wB path) s).2 ∈ l ∧ (l.foldl (wB path) s).2.2.1 ∈ path ∧ (s.1 = true → s.2.2.1 ≤ (l.foldl (wB path) s).2.2.1) ∧ ∀ c ∈ l, c.2.1 ∈ path → c.2.1 ≤ (l.foldl (wB path) s).2.2.1)
 | [], s => .inl ⟨rfl, fun c hc => by simp at hc⟩
 | a :: l, s => by
  rw [List.foldl_cons]
  by_cases h : yeg path a.2.1 = true ∧ (s.1 = false ∨ s.2.2.1 < a.2.1)
  ·have e : wB path s a = (true, a) := if_pos h
   have hp := yb6.1 h.1
   have hs : s.1 = true → s.2.2.1 ≤ a.2.1 := fun h1 => by
    rcases h.2 with h2 | h2
    ·rw [h1] at h2
     cases h2
    ·omega
   rw [e]
   rcases yk0 path l (true, a) with ⟨h1, h2⟩ | ⟨h1, h2, h3, h4, h5⟩
   ·rw [h1]
    exact .inr ⟨rfl, by simp, hp, hs, fun c hc hcp => by
     rcases List.mem_cons.1 hc with rfl | hc
     ·exact Int.le_refl _
     ·exact (h2 c hc hcp).2⟩
   ·have h6 := h4 rfl
    exact .inr ⟨h1, List.mem_cons_of_mem _ h2, h3, fun h7 => Int.le_trans (hs h7) h6, fun c hc hcp => by
     rcases List.mem_cons.1 hc with rfl | hc
     ·exact h6
     ·exact h5 c hc hcp⟩
  ·have e : wB path s a = s := if_neg h
   rw [e]
   have ha : a.2.1 ∈ path → s.1 = true ∧ a.2.1 ≤ s.2.2.1 := fun hp => by
    have h1 := yb6.2 hp
    refine ⟨?_, ?_⟩
    ·cases hs : s.1 with
     | true => rfl
     | false => exact absurd ⟨h1, .inl hs⟩ h
    ·by_cases h2 : s.2.2.1 < a.2.1
     ·exact absurd ⟨h1, .inr h2⟩ h
     ·omega
   rcases yk0 path l s with ⟨h1, h2⟩ | ⟨h1, h2, h3, h4, h5⟩
   ·exact .inl ⟨h1, fun c hc hcp => by
     rcases List.mem_cons.1 hc with rfl | hc
     ·exact ha hcp
     ·exact h2 c hc hcp⟩
   ·exact .inr ⟨h1, List.mem_cons_of_mem _ h2, h3, h4, fun c hc hcp => by
     rcases List.mem_cons.1 hc with rfl | hc
     ·have := ha hcp
      exact Int.le_trans this.2 (h4 this.1)
     ·exact h5 c hc hcp⟩
theorem K2 (ks : List y7) (path : List Int) : (zO ks path = (false, (0, 0, 0, 0, 0)) ∧ ∀ c ∈ ks, c.2.1 ∉ path) ∨ ((zO ks path).1 = true ∧ (zO ks path).2 ∈ ks ∧ (zO ks path).2.2.1 ∈ path ∧ ∀ c ∈ ks, c.2.1 ∈ path → c.2.1 ≤ (zO ks path).2.2.1) := by
 rcases yk0 path ks (false, (0, 0, 0, 0, 0)) with ⟨h1, h2⟩ | ⟨h1, h2, h3, _, h5⟩
 ·exact .inl ⟨h1, fun c hc hp => by have := (h2 c hc hp).1; cases this⟩
 ·exact .inr ⟨h1, h2, h3, h5⟩
theorem ydS {K K' : List y7} {b : Int} {path : List Int} (hK : srt K) (hK' : srt K') (h : ∀ c : y7, c.1 = b → c.2.1 ∈ path → (c ∈ K ↔ c ∈ K')) : zO (zM K b) path = zO (zM K' b) path := by
 rcases K2 (zM K b) path with ⟨h1, h2⟩ | ⟨h1, h2, h3, h4⟩
 ·rcases K2 (zM K' b) path with ⟨g1, g2⟩ | ⟨g1, g2, g3, g4⟩
  ·rw [h1, g1]
  ·obtain ⟨g5, g6⟩ := zH.1 g2
   exact absurd g3 (h2 _ (zH.2 ⟨(h _ g6 g3).2 g5, g6⟩))
 ·obtain ⟨h5, h6⟩ := zH.1 h2
  rcases K2 (zM K' b) path with ⟨g1, g2⟩ | ⟨g1, g2, g3, g4⟩
  ·exact absurd h3 (g2 _ (zH.2 ⟨(h _ h6 h3).1 h5, h6⟩))
  ·obtain ⟨g5, g6⟩ := zH.1 g2
   have e1 := g4 _ (zH.2 ⟨(h _ h6 h3).1 h5, h6⟩) h3
   have e2 := h4 _ (zH.2 ⟨(h _ g6 g3).2 g5, g6⟩) g3
   have e3 := y6W hK h5 ((h _ g6 g3).2 g5) (Yx.2 ⟨h6.trans g6.symm, by omega⟩)
   exact Prod.ext (h1.trans g1.symm) e3
theorem yg4 {K : List y7} {b : Int} {path : List Int} (hK : srt K) {k : y7} (hk : k ∈ K) (hb : k.1 = b) (hp : k.2.1 ∈ path) (hmax : ∀ x ∈ path, x ≤ k.2.1) : zO (zM K b) path = (true, k) := by
 rcases K2 (zM K b) path with ⟨h1, h2⟩ | ⟨h1, h2, h3, h4⟩
 ·exact absurd hp (h2 k (zH.2 ⟨hk, hb⟩))
 ·obtain ⟨h5, h6⟩ := zH.1 h2
  have e1 := h4 k (zH.2 ⟨hk, hb⟩) hp
  have e2 := hmax _ h3
  have e3 : (zO (zM K b) path).2 = k := y6W hK h5 hk (Yx.2 ⟨h6.trans hb.symm, by omega⟩)
  exact Prod.ext h1 e3
theorem yb8 (id : Int) : ∀ (l : List ya) (s : List Int), l.foldl (Vu id) s = s ++ (l.filter fun a => a.2 == id && id != 0).map fun a => a.1
 | [], s => by simp
 | c :: l, s => by
  rw [List.foldl_cons, yb8 id l, List.filter_cons]
  unfold Vu
  cases c.2 == id && id != 0 <;> simp
theorem ydT {l : List ya} {id : Int} (h0 : id ≠ 0) {a : ya} (ha : a ∈ l) (he : a.2 = id) : 0 < (Y2 l id).length := by
 unfold Y2
 rw [yb8, List.nil_append, List.length_map]
 refine List.length_pos_of_mem (List.mem_filter.2 ⟨ha, ?_⟩)
 rw [he]
 simp [h0]
theorem vp {l : List ya} {id : Int} (h : 0 ≤ zi l id) : zi l id < l.length ∧ (l.getD (zi l id).toNat zq).1 = id := by
 rcases YS (fun a : ya => a.1 == id) zq l 0 (Int.le_refl _) with h1 | ⟨h1, h2, h3⟩
 ·unfold zi at h
  omega
 ·rw [Int.sub_zero] at h3
  exact ⟨by unfold zi; omega, by simpa [zi] using h3⟩
structure AgesR (l : List ya) : Prop where
 up : ∀ i, i + 1 < l.length → (l.getD i zq).1 < (l.getD (i + 1) zq).1
 pos : ∀ i, i < l.length → 1 ≤ (l.getD i zq).1 ∧ (l.getD i zq).1 ≤ 60
 frm : ∀ i, i < l.length → (l.getD i zq).2 ≠ 0 → ∃ j, j < i ∧ (l.getD j zq).1 = (l.getD i zq).2
theorem yb9 {l : List ya} (h : jA l = true) : AgesR l := by
 unfold jA at h
 simp only [Bool.and_eq_true, Bool.not_eq_true', decide_eq_true_eq] at h
 have hb : ∀ i, i < l.length → y2h l i (l.getD i zq) = false := fun i hi => by
  have := WI zq l 0 h.1 i hi
  rwa [show (0 : Int) + (i : Int) = i by omega] at this
 refine ⟨fun i hi => ?_, fun i hi => ?_, fun i hi h0 => ?_⟩
 ·have := hb (i + 1) hi
  unfold y2h at this
  simp only [Bool.or_eq_false_iff, Bool.and_eq_false_iff, decide_eq_false_iff_not] at this
  rcases this.2.1 with h1 | h1
  ·omega
  ·rw [show (((i + 1 : Nat) : Int) - 1).toNat = i by omega] at h1
   omega
 ·have := hb i hi
  unfold y2h at this
  simp only [Bool.or_eq_false_iff, Bool.not_eq_false', zo] at this
  exact this.1
 ·have := hb i hi
  unfold y2h at this
  simp only [Bool.or_eq_false_iff, Bool.and_eq_false_iff, decide_eq_false_iff_not, bne_eq_false_iff_eq] at this
  rcases this.2.2 with h1 | h1
  ·exact absurd h1 h0
  ·have hf : ybV l (i : Int) = l.take i := by
    unfold ybV
    simp
   rw [hf] at h1
   obtain ⟨h2, h3⟩ := vp (l := l.take i) (id := (l.getD i zq).2) (by omega)
   rw [List.length_take] at h2
   refine ⟨(zi (l.take i) (l.getD i zq).2).toNat, by omega, ?_⟩
   rw [List.getD_eq_getElem?_getD, List.getElem?_take, if_pos (by omega), ← List.getD_eq_getElem?_getD] at h3
   exact h3
theorem AgesR.lt {l : List ya} (h : AgesR l) : ∀ (d i : Nat), i + 1 + d < l.length → (l.getD i zq).1 < (l.getD (i + 1 + d) zq).1
 | 0, i, hi => h.up i hi
 | d + 1, i, hi => by
  have h1 := AgesR.lt h d i (by omega)
  have h2 := h.up (i + 1 + d) (by omega)
  rw [show i + 1 + (d + 1) = i + 1 + d + 1 by omega]
  omega
theorem y6Z {l : List ya} (h : AgesR l) : ∀ (n : Nat) (i : Int), 0 ≤ i → i < l.length → ∀ x ∈ vi l n i, x = (l.getD i.toNat zq).1 ∨ (x < (l.getD i.toNat zq).1 ∧ x ≠ 0 ∧ ∃ a ∈ l, a.2 = x)
 | 0, _, _, _, x, hx => by simp [vi] at hx
 | n + 1, i, h0, h1, x, hx => by
  rw [Qe l n i h0] at hx
  rcases List.mem_cons.1 hx with rfl | hx
  ·exact .inl rfl
  ·have hj : 0 ≤ zi l (l.getD i.toNat zq).2 := by
    refine Decidable.byContradiction fun hn => ?_
    cases n with
    | zero => simp [vi] at hx
    | succ n =>
     rw [vi, if_pos (by omega)] at hx
     simp at hx
   obtain ⟨j1, j2⟩ := vp hj
   have hp := h.pos (zi l (l.getD i.toNat zq).2).toNat (by omega)
   rw [j2] at hp
   have hlt : (l.getD i.toNat zq).2 < (l.getD i.toNat zq).1 := by
    obtain ⟨j, hj1, hj2⟩ := h.frm i.toNat (by omega) (by omega)
    rw [← hj2]
    have := h.lt (i.toNat - (j + 1)) j (by omega)
    rw [show j + 1 + (i.toNat - (j + 1)) = i.toNat by omega] at this
    exact this
   have hmem : l.getD i.toNat zq ∈ l := z4 zq l i h0 h1
   rcases y6Z h n _ hj j1 x hx with h3 | ⟨h3, h4, h5⟩
   ·rw [j2] at h3
    subst h3
    exact .inr ⟨hlt, by omega, _, hmem, rfl⟩
   ·rw [j2] at h3
    exact .inr ⟨by omega, h4, h5⟩
theorem y54 {l : List ya} (h : AgesR l) {id : Int} (hi : 0 ≤ zi l id) {x : Int} (hx : x ∈ Yl l id) : x = id ∨ (x < id ∧ x ≠ 0 ∧ ∃ a ∈ l, a.2 = x) := by
 obtain ⟨h1, h2⟩ := vp hi
 have := y6Z h _ _ hi h1 x hx
 rwa [h2] at this
theorem y9V {l : List ya} {id : Int} (hi : 0 ≤ zi l id) : id ∈ Yl l id := by
 obtain ⟨h1, h2⟩ := vp hi
 unfold Yl
 rw [Qe l _ _ hi, h2]
 simp
def y55 (K : List y7) (l : List ya) (cs : List y8) (b age : Int) : Int :=
 if ((zO (zM K b) (Yl l age)).1 && (zO (zM K b) (Yl l age)).2.2.2.1 == 1) = true then (ZZ cs (zO (zM K b) (Yl l age)).2.2.2.2.1 (zO (zM K b) (Yl l age)).2.2.2.2.2).1 else 0
section
variable {q : List yb} {t : List y0} {l : List ya} {cs : List y8} {vs : List yh} (z : Int) (h : SP q t l cs vs)
include h
theorem y2n (i b : Int) (h0 : 0 ≤ i) (h1 : i < (vs.length : Int)) (hr : 1 ≤ (yc vs i).2.2.1 ∧ (yc vs i).2.2.1 ≤ 12) (hb : inR b 0 (Go.IntKind.wrap .i64 ((yc vs i).2.2.1 - 1)) = true) : w7 (q, t, l, cs, vs, z, i, b) = some (y55 (yu t) l cs b (yc vs i).2.1) := by
 have hq := h.tq
 have hv := h.S.2.2.2.2.2
 have hm : Go.IntKind.wrap .i64 ((vs.length : Int) - 1) = (vs.length : Int) - 1 := w64 (by omega) (by omega)
 unfold w7 y55
 simp only [Za, hm, hb, zo.2 ⟨h0, show i ≤ (vs.length : Int) - 1 by omega⟩, Bool.not_true, cond_false, if_pos h0, if_pos h1, Option.bind_some, y7W q t l b _ hq.T h.S.2.2.2.1, y0b cs _ _ h.S.2.2.2.2.1]
 unfold ybS ans
 obtain ⟨r1, r2⟩ := zO (zM (yu t) b) (Yl l (yc vs i).2.1)
 cases r1 with
 | false => rfl
 | true =>
  simp only [Bool.not_true, cond_false, Bool.true_and]
  by_cases hk : r2.2.2.1 = 1
  ·rw [show (r2.2.2.1 != 1) = false by simp [hk], show (r2.2.2.1 == 1) = true by simp [hk]]
   rfl
  ·rw [show (r2.2.2.1 != 1) = true by simp [hk], show (r2.2.2.1 == 1) = false by simp [hk]]
   rfl
theorem yg5 (n : ByteArray) (b : Int) (hn : n.size ≤ 60) (hp : yr q t l cs vs z = true) (hno : YM n = true) (hv : ¬ zx vs n < 0) (hb : 0 ≤ b ∧ b < (yc vs (zx vs n)).2.2.1) : Y7 (q, t, l, cs, vs, z, n, b) = some (y55 (yu t) l cs b (yc vs (zx vs n)).2.1, 0) := by
 have h2 := jx vs n
 have hi0 : (0 : Int) ≤ zx vs n := by omega
 have hi1 : zx vs n < ((List.length vs : Nat) : Int) := by omega
 have hr := ydR z h hp hi0 hi1
 have hw : Go.IntKind.wrap .i64 ((yc vs (zx vs n)).2.2.1 - 1) = (yc vs (zx vs n)).2.2.1 - 1 := w64 (by omega) (by omega)
 have hbr : inR b 0 (Go.IntKind.wrap .i64 ((yc vs (zx vs n)).2.2.1 - 1)) = true := by
  rw [hw]
  exact zo.2 ⟨hb.1, by omega⟩
 unfold Y7
 simp only [ZI z h n (y0t hn), Option.bind_some, Bool.false_eq_true, if_false]
 have hc : yc7 q t l cs vs z n b = 0 := by
  unfold yc7
  rw [if_pos ⟨hp, hno⟩, if_neg hv, if_pos hbr]
 rw [hc]
 simp only [show ((0 : Int) != 0) = false from rfl, cond_false, y2n z h (zx vs n) b hi0 hi1 hr hbr, Option.bind_some]
end
end Go.Proofs.YtjllpipmaejeoaaGreat.Pl
namespace Go.Proofs.YtjllpipmaejeoaaGreat.Pl
open Go.Proofs.YtjllpipmaejeoaaGreat.R Go.Proofs.YtjllpipmaejeoaaGreat.XR
theorem y8r {A : Type} [BEq A] [LawfulBEq A] : ∀ (l m : List A), l.Nodup → (∀ x ∈ l, x ∈ m) → l.length ≤ m.length
 | [], _, _, _ => Nat.zero_le _
 | a :: l, m, hn, hs => by
  have h1 := List.nodup_cons.1 hn
  have ha := hs a (by simp)
  have h2 := y8r l (m.erase a) h1.2 fun x hx => (List.mem_erase_of_ne (by rintro rfl; exact h1.1 hx)).2 (hs x (by simp [hx]))
  rw [List.length_erase_of_mem ha] at h2
  have := List.length_pos_of_mem ha
  simp only [List.length_cons]
  omega
def y2o (k : y7) : Bool := k.2.2.1 == 1
def vL (ks : List y7) : List Int := (ks.filter y2o).map fun k : y7 => k.2.2.2.1
def VW : List y8 → Int → List Int
 | [], _ => []
 | c :: l, i => if c.2.1 = true then i :: VW l (i + 1) else VW l (i + 1)
theorem y0v : ∀ (l : List y8) (i : Int) (j : Nat), j < l.length → (l.getD j yN).2.1 = true → i + j ∈ VW l i
 | c :: l, i, 0, _, h => by
  have h' : c.2.1 = true := h
  rw [VW, if_pos h']
  simp
 | c :: l, i, j + 1, hj, h => by
  have := y0v l (i + 1) j (by simpa using hj) (by simpa using h)
  rw [show i + ((j + 1 : Nat) : Int) = i + 1 + j by omega, VW]
  split
  ·exact List.mem_cons_of_mem _ this
  ·exact this
theorem y70 : ∀ (l : List y8) (s i : Int), 0 ≤ s → s + l.length ≤ 1048576 → l.foldl VP s = s + (VW l i).length
 | [], s, _, _, _ => by simp [VW]
 | c :: l, s, i, h0, h1 => by
  simp only [List.length_cons] at h1
  rw [List.foldl_cons, VW]
  unfold VP
  split
  ·rw [w64 (by omega) (by omega)]
   have := y70 l (s + 1) (i + 1) (by omega) (by omega)
   unfold VP at this
   rw [this, List.length_cons]
   omega
  ·have := y70 l s (i + 1) h0 (by omega)
   unfold VP at this
   rw [this]
theorem y9W : ∀ (l : List y7) (s : Int), 0 ≤ s → s + l.length ≤ 1048576 → l.foldl Qh s = s + (vL l).length
 | [], s, _, _ => by simp [vL]
 | k :: l, s, h0, h1 => by
  simp only [List.length_cons] at h1
  rw [List.foldl_cons]
  unfold Qh
  by_cases hk : (k.2.2.1 == 1) = true
  ·rw [if_pos hk, w64 (by omega) (by omega)]
   have := y9W l (s + 1) (by omega) (by omega)
   unfold Qh at this
   rw [this]
   have hk' : y2o k = true := hk
   simp only [vL, List.filter_cons, hk', if_true, List.map_cons, List.length_cons]
   omega
  ·rw [if_neg hk]
   have := y9W l s h0 (by omega)
   unfold Qh at this
   rw [this]
   have hk' : y2o k = false := by simpa [y2o] using hk
   simp only [vL, List.filter_cons, hk', Bool.false_eq_true, if_false]
section
variable {ks : List y7} {l : List ya} {cs : List y8} (h : wu ks l cs = true)
include h
theorem ydU : Yo (ycg ks l cs) ks 0 = false ∧ ks.foldl Qh 0 = y4e cs := by
 unfold wu at h
 simp only [Bool.and_eq_true, Bool.not_eq_true', beq_iff_eq] at h
 exact h
theorem y0w (j : Nat) (hj : j < ks.length) (hd : y2o (ks.getD j yH) = true) : (0 ≤ (ks.getD j yH).2.2.2.1 ∧ (ks.getD j yH).2.2.2.1 < (cs.length : Int) ∧ (cs.getD (ks.getD j yH).2.2.2.1.toNat yN).2.1 = true) ∧ ∀ i, i < j → y2o (ks.getD i yH) = true → (ks.getD i yH).2.2.2.1 ≠ (ks.getD j yH).2.2.2.1 := by
 have h1 := WI yH ks 0 (ydU h).1 j hj
 unfold ycg at h1
 have hd' : ((ks.getD j yH).2.2.1 == 1) = true := hd
 simp only [hd', Bool.or_eq_false_iff, Bool.true_and, Bool.not_eq_false'] at h1
 obtain ⟨_, h2, h3⟩ := h1
 refine ⟨?_, fun i hi hdi he => ?_⟩
 ·unfold ZZ at h2
  split at h2
  ·rename_i hh
   simp only [Bool.and_eq_true] at hh
   have := zo.1 hh.1
   exact ⟨this.1, by omega, hh.2.1⟩
  ·cases h2
 ·have hlen : (ks.take j).length = j := by simp; omega
  rw [show ((0 : Int) + (j : Int)).toNat = j by omega] at h3
  have h4 := WI yH (ks.take j) 0 h3 i (by omega)
  unfold zj at h4
  have e : (ks.take j).getD i yH = ks.getD i yH := by
   rw [List.getD_eq_getElem?_getD, List.getD_eq_getElem?_getD, List.getElem?_take, if_pos hi]
  rw [e, show ((ks.getD i yH).2.2.1 == 1) = true from hdi, he] at h4
  simp at h4
theorem ydV : (vL ks).Nodup := by
 unfold vL List.Nodup
 rw [List.pairwise_map, List.pairwise_filter, List.pairwise_iff_getElem]
 intro i j hi hj hij h1 h2
 have ei : ks.getD i yH = ks[i] := by simp [hi]
 have ej : ks.getD j yH = ks[j] := by simp [hj]
 have := (y0w h j hj (by rw [ej]; exact h2)).2 i hij (by rw [ei]; exact h1)
 rw [ei, ej] at this
 exact this
theorem yk1 (hk : ks.length ≤ 1048576) (hc : cs.length ≤ 1048576) {i : Int} (i0 : 0 ≤ i) (i1 : i < (cs.length : Int)) (hu : (cs.getD i.toNat yN).2.1 = true) :
  ¬ zX (zj i 0) ks 0 < 0 ∧ ∀ j : Nat, j < ks.length → (j : Int) ≠ zX (zj i 0) ks 0 → zj i 0 (ks.getD j yH) = false := by
 have hmem : i ∈ vL ks := by
  refine Classical.byContradiction fun hn => ?_
  have h1 := y8r (i :: vL ks) (VW cs 0) (List.nodup_cons.2 ⟨hn, ydV h⟩) fun x hx => by
   rcases List.mem_cons.1 hx with rfl | hx
   ·have := y0v cs 0 x.toNat (by omega) hu
    rwa [show (0 : Int) + (x.toNat : Int) = x by omega] at this
   ·obtain ⟨k, hk, rfl⟩ := List.mem_map.1 hx
    obtain ⟨hk, hd⟩ := List.mem_filter.1 hk
    obtain ⟨j, hj, rfl⟩ := List.mem_iff_getElem.1 hk
    have ej : ks.getD j yH = ks[j] := by simp [hj]
    obtain ⟨⟨a1, a2, a3⟩, _⟩ := y0w h j hj (by rw [ej]; exact hd)
    rw [ej] at a1 a2 a3
    have := y0v cs 0 (ks[j].2.2.2.1).toNat (by omega) a3
    rwa [show (0 : Int) + ((ks[j].2.2.2.1).toNat : Int) = ks[j].2.2.2.1 by omega] at this
  have h2 := (ydU h).2
  unfold y4e at h2
  rw [y9W ks 0 (Int.le_refl _) (by omega), y70 cs 0 0 (Int.le_refl _) (by omega)] at h2
  simp only [List.length_cons] at h1
  omega
 obtain ⟨k, hk, rfl⟩ := List.mem_map.1 hmem
 obtain ⟨hk, hd⟩ := List.mem_filter.1 hk
 obtain ⟨j, hj, rfl⟩ := List.mem_iff_getElem.1 hk
 have ej : ks.getD j yH = ks[j] := by simp [hj]
 have hdj : zj (ks[j].2.2.2.1) 0 ks[j] = true := by
  unfold zj
  rw [show (ks[j].2.2.1 == 1) = true from hd]
  simp
 have hf : ¬ zX (zj (ks[j].2.2.2.1) 0) ks 0 < 0 := fun hneg => by
  have hall : ∀ (l : List y7) (i : Int), 0 ≤ i → zX (zj (ks[j].2.2.2.1) 0) l i < 0 → ∀ a ∈ l, zj (ks[j].2.2.2.1) 0 a = false := by
   intro l
   induction l with
   | nil => intro _ _ _ a ha; simp at ha
   | cons b l ih =>
    intro i hi hl a ha
    rw [zX] at hl
    split at hl
    ·omega
    ·rename_i hb
     rcases List.mem_cons.1 ha with rfl | ha
     ·simpa using hb
     ·exact ih (i + 1) (by omega) hl a ha
  rw [hall ks 0 (Int.le_refl _) hneg _ hk] at hdj
  cases hdj
 refine ⟨hf, fun j' hj' hne => ?_⟩
 rcases YS (zj (ks[j].2.2.2.1) 0) yH ks 0 (Int.le_refl _) with h1 | ⟨h1, h2, h3⟩
 ·omega
 ·rw [Int.sub_zero] at h3
  have hkey : ∀ k : y7, zj (ks[j].2.2.2.1) 0 k = true → y2o k = true ∧ k.2.2.2.1 = ks[j].2.2.2.1 := fun k hk => by
   unfold zj at hk
   rw [Bool.and_eq_true, beq_iff_eq (a := k.2.2.2.1)] at hk
   exact hk
  cases hdup : zj (ks[j].2.2.2.1) 0 (ks.getD j' yH) with
  | false => rfl
  | true =>
   obtain ⟨a1, a2⟩ := hkey _ hdup
   obtain ⟨b1, b2⟩ := hkey _ h3
   have hm' : (zX (zj (ks[j].2.2.2.1) 0) ks 0).toNat < ks.length := by omega
   rcases Nat.lt_or_gt_of_ne (show j' ≠ (zX (zj (ks[j].2.2.2.1) 0) ks 0).toNat by omega) with hlt | hlt
   ·exact absurd (a2.trans b2.symm) ((y0w h _ hm' b1).2 j' hlt a1)
   ·exact absurd (b2.trans a2.symm) ((y0w h j' hj' a1).2 _ hlt b1)
end
theorem y4l (q : List Int) (t : List y0) (l : List ya) (cs : List y8) (vs : List yh) (z i : Int) (ht : TOk t) : Wn (q, t, l, cs, vs, z, i) = some (if zX (zj i 0) (yu t) 0 < 0 then (0, 0, 0, 0, 0) else (yu t).getD (zX (zj i 0) (yu t) 0).toNat yH) := by
 have ek : yI (q, t) = some (yu t) := Yr q t (by have := ht.len; omega) ht.nodes ht.sum
 have hk := ht.keys
 unfold Wn qX
 simp only [ek, Option.bind_some]
 refine (YK (step := jY _ _) (fun j => (i, j, 0, 0, 0, 0, 0, yu t)) (zj i 0) (fun j => some ((yu t).getD j.toNat yH)) (some (0, 0, 0, 0, 0)) yH (yu t) (by omega) ?_ ?_).trans ?_
 ·intro again j h0 h1
  have hw : Go.IntKind.wrap .i64 (j + 1) = j + 1 := w64 (by omega) (by omega)
  unfold jY zj
  have hx : (yu t).getD j.toNat yH = y6 (yu t) j := rfl
  rw [hx]
  simp only [Bool.cond_eq_ite, decide_eq_true_eq, h0, h1, if_true, hw]
  cases ((y6 (yu t) j).2.2.1 == 1) <;> cases ((y6 (yu t) j).2.2.2.1 == i) <;> rfl
 ·intro again j hj
  unfold jY
  simp only [Bool.cond_eq_ite, decide_eq_true_eq, if_neg hj]
 ·split <;> rfl
section
variable (q : List yb) (t : List y0) (l : List ya) (cs : List y8) (vs : List yh) (z : Int)
def y3R (i : Int) : y7 := (yu t).getD (zX (zj i 0) (yu t) 0).toNat yH
def y1K (i : Int) : List y8 := (y9U cs (cs.getD i.toNat yN).2.2).1
def y3S (i : Int) : List Int × List y0 × Bool := yo q t ((y3R t i).1, (y3R t i).2.1, (y3R t i).2.2.1, YA cs, ((y1K cs i).getD (YA cs).toNat yN).1)
def Qt (i : Int) : PO × Bool := (((y3S q t cs i).1, (y3S q t cs i).2.1, l, y2j (y1K cs i) i, vs, z), (y3S q t cs i).2.2)
noncomputable def ydW (i : Int) : PO × Bool :=
 if yr q t l cs vs z = true ∧ 0 ≤ i ∧ i ≤ 23 ∧ (cs.getD i.toNat yN).2.1 = true ∧ ¬ YA cs < 0 ∧ YA cs ≤ i then yei (q, t, l, cs, vs, z) (Qt q t l cs vs z i) else ((q, t, l, cs, vs, z), false)
theorem y3T {i : Int} (h : ¬ (yr q t l cs vs z = true ∧ 0 ≤ i ∧ i ≤ 23 ∧ (cs.getD i.toNat yN).2.1 = true ∧ ¬ YA cs < 0 ∧ YA cs ≤ i)) : ydW q t l cs vs z i = ((q, t, l, cs, vs, z), false) := if_neg h
variable {q t l cs vs} (h : SP q t l cs vs)
include h
theorem ydX (i : Int) : SP (Qt q t l cs vs z i).1.1 (Qt q t l cs vs z i).1.2.1 (Qt q t l cs vs z i).1.2.2.1 (Qt q t l cs vs z i).1.2.2.2.1 (Qt q t l cs vs z i).1.2.2.2.2.1 :=
 (kz _ h.tq).sp h h.S.2.2.2.1 (by
  have h1 := y3L (y1K cs i) i
  have h2 := y8n cs (cs.getD i.toNat yN).2.2
  have h3 := h.S.2.2.2.2.1
  show (y2j (y1K cs i) i).length ≤ _
  unfold y1K at h1 ⊢
  omega)
theorem y56 (hp : yr q t l cs vs z = true) : zr cs = true ∧ wu (yu t) l cs = true ∧ zp q t = true := by
 unfold yr at hp
 simp only [Bool.and_eq_true] at hp
 exact ⟨hp.2.2.1, hp.2.2.2.2.2.2, hp.1⟩
omit h in
theorem ydY {cs : List y8} (hc : zr cs = true) (i : Nat) (hi : i < cs.length) : isW (cs.getD i yN).2.2 = true := by
 unfold zr at hc
 simp only [Bool.and_eq_true, Bool.not_eq_true'] at hc
 have := WI yN cs 0 hc.1 i hi
 unfold y7Z at this
 simp only [Bool.or_eq_false_iff, Bool.not_eq_false'] at this
 exact this.2.1
theorem y8s (i : Int) : Yi (q, t, l, cs, vs, z, i) = some (yc2 (ydW q t l cs vs z i)) := by
 have hc := h.S.2.2.2.2.1
 have hq := h.tq
 have hm : Go.IntKind.wrap .i64 ((cs.length : Int) - 1) = (cs.length : Int) - 1 := w64 (by omega) (by omega)
 have ec : yk (q, t, l, cs, vs, z) = some (q, t, l, cs, vs, z) := WJ q t l cs vs z h.S
 unfold Yi
 simp only [ec, Zk z h, Zj, hm, Option.bind_some]
 cases hp : yr q t l cs vs z with
 | false =>
  rw [y3T _ _ _ _ _ _ fun hh => by rw [hp] at hh; exact Bool.noConfusion hh.1]
  rfl
 | true =>
  obtain ⟨hcs, hfit, htr⟩ := y56 z h hp
  have h24 := y9O hcs
  simp only [Bool.not_true, cond_false, Option.bind_some]
  cases hi : inR i 0 ((cs.length : Int) - 1) with
  | false =>
   rw [y3T _ _ _ _ _ _ fun hh => by
    rw [zo.2 ⟨hh.2.1, by have := hh.2.2.1; omega⟩] at hi
    cases hi]
   rfl
  | true =>
   obtain ⟨i0, i1⟩ := zo.1 hi
   have i2 : i < (cs.length : Int) := by omega
   have hrd : ym cs i = cs.getD i.toNat yN := rfl
   simp only [Bool.not_true, cond_false, if_pos i0, if_pos i2, hrd, Option.bind_some]
   cases hu : (cs.getD i.toNat yN).2.1 with
   | false =>
    rw [y3T _ _ _ _ _ _ fun hh => by rw [hu] at hh; exact Bool.noConfusion hh.2.2.2.1]
    rfl
   | true =>
    have hw := ydY hcs i.toNat (by omega)
    obtain ⟨hf, _⟩ := yk1 hfit hq.T.keys (by omega) i0 i2 hu
    simp only [Bool.not_true, cond_false, y4l q t l cs vs z i hq.T, y2m cs _ hc, Option.bind_some, if_neg hf]
    by_cases hfree : YA cs < 0
    ·rw [y3T _ _ _ _ _ _ fun hh => hh.2.2.2.2.1 hfree, y0u fun hh => hh.2.2 hfree]
     rfl
    ·obtain ⟨f0, f1, f2⟩ := QM hfree
     have htk := y2O ⟨hcs, hw, hfree⟩
     have hcm : y1K cs i = cs.set (YA cs).toNat ((cs.getD (YA cs).toNat yN).1, true, (cs.getD i.toNat yN).2.2) := by
      unfold y1K
      rw [htk]
     rw [htk, ← hcm]
     have hcl : (y1K cs i).length = cs.length := by
      unfold y1K
      exact y8n _ _
     simp only [Bool.not_true, cond_false, Option.bind_some]
     by_cases hgt : YA cs > i
     ·rw [decide_eq_true hgt, cond_true, y3T _ _ _ _ _ _ fun hh => by have := hh.2.2.2.2.2; omega]
      rfl
     ·rw [decide_eq_false hgt, cond_false, if_pos f0, if_pos (by omega)]
      have hmk : ydW q t l cs vs z i = yei (q, t, l, cs, vs, z) (Qt q t l cs vs z i) := if_pos ⟨hp, i0, by omega, hu, hfree, by omega⟩
      rw [hmk]
      have hcell : ym (y1K cs i) (YA cs) = (y1K cs i).getD (YA cs).toNat yN := rfl
      have hput := Jl q t (y3R t i).1 (y3R t i).2.1 (y3R t i).2.2.1 (YA cs) ((y1K cs i).getD (YA cs).toNat yN).1 hq.T hq.Q hq.q
      have hSP := ydX z h i
      have hpo : yG (Qt q t l cs vs z i).1 = some (y9R (Qt q t l cs vs z i).1) := Zk z hSP
      simp only [hcell, show (yu t).getD (zX (zj i 0) (yu t) 0).toNat yH = y3R t i from rfl]
      rw [hput]
      simp only [Option.bind_some, Kh (y1K cs i) i (by omega)]
      unfold yei
      cases hok : (Qt q t l cs vs z i).2 with
      | false =>
       have hok' : (y3S q t cs i).2.2 = false := hok
       unfold y3S at hok'
       rw [hok']
       rfl
      | true =>
       have hok' : (y3S q t cs i).2.2 = true := hok
       unfold y3S at hok'
       rw [hok']
       simp only [Bool.not_true, cond_false]
       refine Eq.trans (congrArg (fun o => Option.bind (Option.bind o fun r12 => some (!r12)) _) hpo) ?_
       cases hb : y9R (Qt q t l cs vs z i).1 <;> rfl
end
end Go.Proofs.YtjllpipmaejeoaaGreat.Pl
namespace Go.Proofs.YtjllpipmaejeoaaGreat.Pl
open Go.Proofs.YtjllpipmaejeoaaGreat.R Go.Proofs.YtjllpipmaejeoaaGreat.XR
section
variable {q : List yb} {t : List y0} {l : List ya} {cs : List y8} {vs : List yh} (z : Int) (h : SP q t l cs vs)
include h
end
section
variable (q : List yb) (t : List y0) (l : List ya) (cs : List y8) (vs : List yh) (z : Int)
noncomputable def yk2 (i : Int) : PO × Bool := if yr q t l cs vs z = true ∧ 0 ≤ i ∧ i ≤ (t.length : Int) - 1 then (((y8p q t i).1, (y8p q t i).2, l, cs, vs, z), true) else ((q, t, l, cs, vs, z), false)
theorem y9X {i : Int} (h : ¬ (yr q t l cs vs z = true ∧ 0 ≤ i ∧ i ≤ (t.length : Int) - 1)) : yk2 q t l cs vs z i = ((q, t, l, cs, vs, z), false) := if_neg h
theorem yba {i : Int} (h : yr q t l cs vs z = true ∧ 0 ≤ i ∧ i ≤ (t.length : Int) - 1) : yk2 q t l cs vs z i = (((y8p q t i).1, (y8p q t i).2, l, cs, vs, z), true) := if_pos h
variable {q t l cs vs} (h : SP q t l cs vs)
include h
theorem y2p (i : Int) : Yh (q, t, l, cs, vs, z, i) = some (yc2 (yk2 q t l cs vs z i)) := by
 have hq := h.tq
 have hm : Go.IntKind.wrap .i64 ((t.length : Int) - 1) = (t.length : Int) - 1 := w64 (by have := hq.T.len; omega) (by have := hq.T.len; omega)
 have ec : yk (q, t, l, cs, vs, z) = some (q, t, l, cs, vs, z) := WJ q t l cs vs z h.S
 unfold Yh
 simp only [ec, Zk z h, Zj, hm, Option.bind_some]
 cases hp : yr q t l cs vs z with
 | false =>
  rw [y9X _ _ _ _ _ _ fun hh => by rw [hp] at hh; exact Bool.noConfusion hh.1]
  rfl
 | true =>
  simp only [Bool.not_true, cond_false, Option.bind_some]
  cases hi : inR i 0 ((t.length : Int) - 1) with
  | false =>
   rw [y9X _ _ _ _ _ _ fun hh => by
    rw [zo.2 hh.2] at hi
    cases hi]
   rfl
  | true =>
   obtain ⟨i0, i1⟩ := zo.1 hi
   rw [yba _ _ _ _ _ _ ⟨hp, i0, i1⟩, y8q q t i (y1a (y56 z h hp).2.2) h.S.1 i0 (by omega)]
   rfl
end
end Go.Proofs.YtjllpipmaejeoaaGreat.Pl
namespace Go.Proofs.YtjllpipmaejeoaaGreat.Pl
open Go.Proofs.YtjllpipmaejeoaaGreat.R Go.Proofs.YtjllpipmaejeoaaGreat.XR
def yvz {A : Type} (q : List yb) (t : List y0) (l : List ya) (cs : List y8) (vs : List yh) (z : Int) (o : Option (List yb × List y0 × List ya × List y8 × List yh × Int × A)) : Prop :=
 ∃ q' t' l' cs' vs' z' c, o = some (q', t', l', cs', vs', z', c) ∧ (Tn q' t' l' cs' vs' ∨ (q', t', l', cs', vs', z') = (q, t, l, cs, vs, z))
section
variable {q : List yb} {t : List y0} {l : List ya} {cs : List y8} {vs : List yh} {z : Int}
theorem Res.a {o : Option P7a} (h : Res q t l cs vs z o) : yvz q t l cs vs z o := by
 obtain ⟨q', t', l', cs', vs', z', c, e, hc⟩ := h
 exact ⟨q', t', l', cs', vs', z', c, e, hc.imp y0s id⟩
theorem yvz.same {A : Type} (c : A) : yvz q t l cs vs z (some (q, t, l, cs, vs, z, c)) := ⟨_, _, _, _, _, _, c, rfl, .inr rfl⟩
end
section
variable {q : List yb} {t : List y0} {l : List ya} {cs : List y8} {vs : List yh} (z : Int) (h : SP q t l cs vs)
include h
end
end Go.Proofs.YtjllpipmaejeoaaGreat.Pl
namespace Go.Proofs.YtjllpipmaejeoaaGreat.Pl
open Go.Proofs.YtjllpipmaejeoaaGreat.R Go.Proofs.YtjllpipmaejeoaaGreat.XR
theorem yhp (c : List Int) (p s : Int) (L : List ByteArray) (hL : 0 < L.length) (hL2 : L.length ≤ 1048576) (hs : ∀ t ∈ L, t.size ≤ 60) (h : V5 c p) : yc4 (wJ (c, p, s, L)) c (fun v => v.size ≤ 60) := by
 obtain ⟨v, p1, s1, e1, h1, q1⟩ := QL c p s (L.length : Int) h
 have := q1.2 (by omega)
 unfold wJ
 rw [e1]
 simp only [Option.bind_some]
 rw [if_pos q1.1, if_pos this]
 exact ⟨_, _, _, rfl, h1, hs _ (z4 yeZ L v q1.1 this)⟩
theorem yk3 (c : List Int) (p s : Int) (h : V5 c p) : yc4 (Yy (c, p, s)) c (fun v => v.size ≤ 60) := by
 obtain ⟨v, p1, s1, e1, h1, q1⟩ := yhp c p s [{ data := #[97] }, { data := #[98] }, { data := #[99] }, { data := #[100] }, { data := #[101, 53] }] (by simp) (by simp) (by decide) h
 unfold Yy
 rw [e1]
 exact ⟨_, _, _, rfl, h1, q1⟩
theorem yg6 (c : List Int) (p s : Int) (h : V5 c p) : yc4 (Yz (c, p, s)) c (fun _ => True) := by
 obtain ⟨v, p1, s1, e1, h1, q1⟩ := QL c p s 200 h
 unfold Yz
 rw [e1]
 simp only [Option.bind_some]
 obtain ⟨v2, p2, s2, e2, h2, q2⟩ := yb4 c p1 s1 [0, 1, 2, 7, 65535, Go.IntKind.wrap .i64 (1 + v)] (by simp) (by simp) h1
 rw [e2]
 exact ⟨_, _, _, rfl, h2, trivial⟩
def y3U (o : Option (Int × ByteArray × ByteArray × Int × Int × List Int × Int × Int)) (c : List Int) : Prop := ∃ k n t a b p s, o = some (k, n, t, a, b, c, p, s) ∧ V5 c p ∧ ByteArray.size n ≤ 60 ∧ ByteArray.size t ≤ 60
theorem yq8 {c : List Int} {p s : Int} {L : List Int} {k b : Int} {n t : ByteArray} (hL : 0 < L.length) (hL2 : L.length ≤ 1048576) (h : V5 c p) (hn : n.size ≤ 60) (ht : t.size ≤ 60) :
  y3U (Option.bind (zn (c, p, s, L)) fun r => some (k, n, t, r.1, b, r.2.1, r.2.2.1, r.2.2.2)) c := by
 obtain ⟨v, p1, s1, e1, h1, _⟩ := yb4 c p s L hL hL2 h
 rw [e1]
 exact ⟨_, _, _, _, _, _, _, rfl, h1, hn, ht⟩
theorem yq9 {c : List Int} {p s m : Int} {k b : Int} {n t : ByteArray} (h : V5 c p) (hn : n.size ≤ 60) (ht : t.size ≤ 60) :
  y3U (Option.bind (yt (c, p, s, m)) fun r => some (k, n, t, r.1, b, r.2.1, r.2.2.1, r.2.2.2)) c := by
 obtain ⟨v, p1, s1, e1, h1, _⟩ := QL c p s m h
 rw [e1]
 exact ⟨_, _, _, _, _, _, _, rfl, h1, hn, ht⟩
theorem yqa {c : List Int} {p s : Int} {L : List Int} {k a : Int} {n : ByteArray} (hL : 0 < L.length) (hL2 : L.length ≤ 1048576) (h : V5 c p) (hn : n.size ≤ 60) :
  y3U (Option.bind (Yy (c, p, s)) fun r4 => Option.bind (zn (r4.2.1, r4.2.2.1, r4.2.2.2, L)) fun r5 => some (k, n, r4.1, a, r5.1, r5.2.1, r5.2.2.1, r5.2.2.2)) c := by
 obtain ⟨v, p1, s1, e1, h1, q1⟩ := yk3 c p s h
 rw [e1]
 simp only [Option.bind_some]
 obtain ⟨v2, p2, s2, e2, h2, _⟩ := yb4 c p1 s1 L hL hL2 h1
 rw [e2]
 exact ⟨_, _, _, _, _, _, _, rfl, h2, hn, q1⟩
theorem yqb {c : List Int} {p s m : Int} {k : Int} {n t : ByteArray} (h : V5 c p) (hn : n.size ≤ 60) (ht : t.size ≤ 60) :
  y3U (Option.bind (yt (c, p, s, m)) fun r6 => Option.bind (Yz (r6.2.1, r6.2.2.1, r6.2.2.2)) fun r7 => some (k, n, t, r6.1, r7.1, r7.2.1, r7.2.2.1, r7.2.2.2)) c := by
 obtain ⟨v, p1, s1, e1, h1, _⟩ := QL c p s m h
 rw [e1]
 simp only [Option.bind_some]
 obtain ⟨v2, p2, s2, e2, h2, _⟩ := yg6 c p1 s1 h1
 rw [e2]
 exact ⟨_, _, _, _, _, _, _, rfl, h2, hn, ht⟩
theorem yqc {c : List Int} {p s k a b : Int} {n t : ByteArray} (h : V5 c p) (hn : n.size ≤ 60) (ht : t.size ≤ 60) : y3U (some (k, n, t, a, b, c, p, s)) c := ⟨_, _, _, _, _, _, _, rfl, h, hn, ht⟩
theorem yvA : (⟨#[]⟩ : ByteArray).size ≤ 60 := by decide
theorem yc8 {A : Type} {P : A → Prop} (b : Bool) {x y : A} (hx : P x) (hy : P y) : P (bif b then x else y) := by cases b <;> assumption
theorem yqd (c : List Int) (p s : Int) (h : V5 c p) : y3U (YB (c, p, s)) c := by
 unfold YB
 obtain ⟨v, p1, s1, e1, h1, _⟩ := yb4 c p s [1, 1, 1, 2, 2, 3, 4, 4, 4, 4, 4, 4, 5, 6, 7, 7, 8, 9] (by simp) (by simp) h
 rw [e1]
 simp only [Option.bind_some]
 obtain ⟨n, p2, s2, e2, h2, hn⟩ := yhp c p1 s1 [{ data := #[97] }, { data := #[97] }, { data := #[98] }, { data := #[99] }, { data := #[100] }] (by simp) (by simp) (by decide) h1
 rw [e2]
 simp only [Option.bind_some]
 have hz := yvA
 repeat' (first
  | with_reducible refine yc8 (P := fun o => y3U o c) _ ?_ ?_
  | with_reducible exact yq8 (by simp) (by simp) h2 hn hz
  | with_reducible exact yq8 (by simp) (by simp) h1 hz hz
  | with_reducible exact yqa (by simp) (by simp) h2 hn
  | with_reducible exact yqa (by simp) (by simp) h1 hz
  | with_reducible exact yqb h2 hn hz
  | with_reducible exact yqb h1 hz hz
  | with_reducible exact yq9 h2 hn hz
  | with_reducible exact yq9 h1 hz hz
  | with_reducible exact yqc h2 hn hz
  | with_reducible exact yqc h1 hz hz)
end Go.Proofs.YtjllpipmaejeoaaGreat.Pl
namespace Go.Proofs.YtjllpipmaejeoaaGreat.Pl
open Go.Proofs.YtjllpipmaejeoaaGreat.R Go.Proofs.YtjllpipmaejeoaaGreat.XR
def Nsm (n : List y9) (a : Nat) (b : Int) : Prop := n.length ≤ a ∧ WG V7 n ≤ b
theorem Nsm.ns {n : List y9} {a : Nat} {b : Int} (h : Nsm n a b) (ha : a ≤ 900) (hb : b ≤ 900) : NS n := ⟨Nat.le_trans h.1 (by omega), by have := h.2; omega⟩
end Go.Proofs.YtjllpipmaejeoaaGreat.Pl
namespace Go.Proofs.YtjllpipmaejeoaaGreat.Pl
open Go.Proofs.YtjllpipmaejeoaaGreat.R Go.Proofs.YtjllpipmaejeoaaGreat.XR
theorem yk4 (x : List Int) (m : Int) (hx : x.length ≤ 1099511627776) (hm : 3 ≤ m) : ∃ n, Wo (x, m) = some n ∧ 0 ≤ n ∧ n ≤ m := by
 unfold Wo
 have hd : Int.tdiv ((List.length x : Nat) : Int) 12 = ((List.length x : Nat) : Int) / 12 := Int.tdiv_eq_ediv_of_nonneg (by omega)
 simp only [hd]
 rw [show Go.IntKind.wrap .i64 (((List.length x : Nat) : Int) / 12) = ((List.length x : Nat) : Int) / 12 from w64 (by omega) (by omega), show Go.IntKind.wrap .i64 (3 + ((List.length x : Nat) : Int) / 12) = 3 + ((List.length x : Nat) : Int) / 12 from w64 (by omega) (by omega)]
 by_cases h : 3 + ((List.length x : Nat) : Int) / 12 > m
 ·rw [decide_eq_true h]
  exact ⟨_, rfl, by omega, Int.le_refl _⟩
 ·rw [decide_eq_false h]
  exact ⟨_, rfl, by omega, by omega⟩
end Go.Proofs.YtjllpipmaejeoaaGreat.Pl
namespace Go.Proofs.YtjllpipmaejeoaaGreat.Pl
open Go.Proofs.YtjllpipmaejeoaaGreat.R Go.Proofs.YtjllpipmaejeoaaGreat.XR
theorem ydZ {A : Type} (t : List A) (i : Nat) (h : i < t.length) (x : A) : t.set i x = t.take i ++ ([x] ++ t.drop (i + 1)) := by
 rw [List.set_eq_take_append_cons_drop, if_pos h]
 rfl
theorem y3V {A : Type} (t : List A) (i : Nat) (x d : A) (j : Nat) (h : i ≠ j) : (t.set i x).getD j d = t.getD j d := by
 rw [List.getD_eq_getElem?_getD, List.getD_eq_getElem?_getD, List.getElem?_set_ne h]
theorem y3W {A : Type} (t : List A) (i : Nat) (x d : A) (h : i < t.length) : (t.set i x).getD i d = x := by
 rw [List.getD_eq_getElem?_getD, List.getElem?_set_self h]
 rfl
theorem y8t (t : List y0) (i : Nat) (hi : i < t.length) : yu (t.set i (yR (yF (t.getD i yi)))) = yu t := by
 have e := wU (Vw (t.getD i yi)) fun x hx => Qp hx
 conv => rhs; rw [Vy yi t i hi]
 rw [ydZ t i hi, Yp, Yp, Yp, Yp, kN, kN, e]
theorem ye0 {q : List Int} {t : List y0} (h : zp q t = true) (i : Nat) (hi : i < t.length) : zp q (t.set i (yR (yF (t.getD i yi)))) = true := by
 have hk := y8t t i hi
 have hf := Jj h
 unfold zp at h ⊢
 rw [hk, List.length_set]
 simp only [Bool.and_eq_true, Bool.not_eq_true', decide_eq_true_eq] at h ⊢
 refine ⟨h.1, h.2.1, h.2.2.1, Vx yi _ 0 fun j hj => ?_, h.2.2.2.2⟩
 rw [List.length_set] at hj
 have hb := WI yi t 0 h.2.2.2.1 j hj
 by_cases hij : i = j
 ·subst hij
  rw [y3W t i _ _ hi]
  unfold V0 y4a at hb ⊢
  simp only [Bool.or_eq_false_iff, Bool.not_eq_false', Bool.and_eq_true, Bool.not_eq_true'] at hb ⊢
  obtain ⟨h1, h2, h3, h4⟩ := hb
  obtain ⟨f1, f2, f3⟩ := wT h2
  have hl := K0 (t.getD i yi)
  have hkey : ∀ k ∈ yF (t.getD i yi), Ym k = true := fun k hk => by
   obtain ⟨c, hc, hkc⟩ := y14 hk
   exact f3 c hc k hkc
  refine ⟨h1, y4Z (Vw _) hkey (by omega), ?_, ?_⟩
  ·unfold yaH at h3 ⊢
   rw [wU (Vw _) fun x hx => Qp hx]
   exact h3
  ·unfold yR
   split
   ·rfl
   ·show (y9G q _ 0 (yF (t.getD i yi)) || false) = false
    rw [Bool.or_false]
    unfold y9G
    refine Vx yH _ 0 fun m hm => ?_
    have hmm : (yF (t.getD i yi)).getD m yH ∈ yF (t.getD i yi) := by
     rw [zZ _ _ _ hm]
     exact List.getElem_mem _
    obtain ⟨c, hc, hkc⟩ := y14 hmm
    obtain ⟨j1, hj1⟩ := Kd _ _ 0 h4 c hc
    unfold y9G at hj1
    obtain ⟨j2, hj2⟩ := Kd _ _ 0 hj1 _ hkc
    exact hj2
 ·rw [y3V t i _ _ j hij]
  exact hb
theorem ye1 {q : List Int} {t : List y0} {l : List ya} {cs : List y8} {vs : List yh} {z : Int} (h : yr q t l cs vs z = true) (i : Int) (h0 : 0 ≤ i) (h1 : i < (t.length : Int)) : yr (y8p q t i).1 (y8p q t i).2 l cs vs z = true := by
 have hk := y8t t i.toNat (by omega)
 rw [show y8p q t i = (q, t.set i.toNat (yR (yF (t.getD i.toNat yi)))) from rfl]
 unfold yr at *
 simp only [Bool.and_eq_true] at h ⊢
 rw [hk]
 exact ⟨ye0 h.1 i.toNat (by omega), h.2⟩
def y57 {A : Type} (o : Option (List yb × List y0 × List ya × List y8 × List yh × Int × A)) : Prop :=
 ∃ q' t' l' cs' vs' z' c, o = some (q', t', l', cs', vs', z', c) ∧ yr q' t' l' cs' vs' z' = true
section
variable {q : List yb} {t : List y0} {l : List ya} {cs : List y8} {vs : List yh} {z : Int}
theorem Res.b {o : Option P7a} (hp : yr q t l cs vs z = true) (h : Res q t l cs vs z o) : y57 o := by
 obtain ⟨q', t', l', cs', vs', z', c, e, hc⟩ := h
 refine ⟨q', t', l', cs', vs', z', c, e, ?_⟩
 rcases hc with hc | hc
 ·exact hc
 ·simp only [Prod.mk.injEq] at hc
  obtain ⟨rfl, rfl, rfl, rfl, rfl, rfl⟩ := hc
  exact hp
theorem y57.same {A : Type} (hp : yr q t l cs vs z = true) (c : A) : y57 (some (q, t, l, cs, vs, z, c)) := ⟨_, _, _, _, _, _, c, rfl, hp⟩
variable (z) (h : SP q t l cs vs) (hp : yr q t l cs vs z = true)
include h hp
theorem y8u (r : PO × Bool) : y9R (yei (q, t, l, cs, vs, z) r).1 = true := by
 unfold yei
 split
 ·rename_i hh
  rw [Bool.and_eq_true] at hh
  exact hh.2
 ·exact hp
theorem yc9 (i : Int) : y57 (Yh (q, t, l, cs, vs, z, i)) := by
 rw [y2p z h i]
 by_cases hh : yr q t l cs vs z = true ∧ 0 ≤ i ∧ i ≤ (t.length : Int) - 1
 ·rw [yba q t l cs vs z hh]
  exact ⟨_, _, _, _, _, _, _, rfl, ye1 hp i hh.2.1 (by omega)⟩
 ·rw [y9X q t l cs vs z hh]
  exact y57.same hp _
theorem yca (i : Int) : y57 (Yi (q, t, l, cs, vs, z, i)) := by
 rw [y8s z h i]
 have hb : y9R (ydW q t l cs vs z i).1 = true := by
  unfold ydW
  split
  ·exact y8u z h hp _
  ·exact hp
 exact ⟨_, _, _, _, _, _, _, rfl, hb⟩
theorem y9Y : y57 (zY (q, t, l, cs, vs, z)) := by
 rw [y1I z h]
 have hb : y9R (y8i q t l cs vs z).1 = true := by
  unfold y8i
  split
  ·split
   ·exact hp
   ·exact y8u z h hp _
  ·exact hp
 exact ⟨_, _, _, _, _, _, _, rfl, hb⟩
theorem y9Z (k : Int) (n m : ByteArray) (a b : Int) (hn : n.size ≤ 60) (hm : m.size ≤ 60) : y57 (jZ (q, t, l, cs, vs, z, k, n, m, a, b)) := by
 unfold jZ kG
 simp only [y8l k n m a b (y0t hn) (y0t hm), Zk z h, Qr z h, Option.bind_some, yjW, yvx, yej]
 have key : ∀ u : Bool, y57 (bif u then some (q, t, l, cs, vs, z, (1 : Int)) else bif (k == (1 : Int)) then Ju (q, t, l, cs, vs, z, n, a) else bif (k == (2 : Int)) then WY (q, t, l, cs, vs, z, n, m, (b == (1 : Int))) else bif (k == (3 : Int)) then WZ (q, t, l, cs, vs, z, n) else bif (k == (4 : Int)) then wM (q, t, l, cs, vs, z, n, a, b) else bif (k == (5 : Int)) then jt (q, t, l, cs, vs, z, n, a) else bif (k == (6 : Int)) then Jz (q, t, l, cs, vs, z, n, a) else
   Option.bind (bif (k == (7 : Int)) then zY (q, t, l, cs, vs, z) else bif (k == (8 : Int)) then Yh (q, t, l, cs, vs, z, a) else Yi (q, t, l, cs, vs, z, a)) fun r11 => bif (!r11.2.2.2.2.2.2) then some (r11.1, r11.2.1, r11.2.2.1, r11.2.2.2.1, r11.2.2.2.2.1, r11.2.2.2.2.2.1, (2 : Int)) else some (r11.1, r11.2.1, r11.2.2.1, r11.2.2.2.1, r11.2.2.2.2.1, r11.2.2.2.2.2.1, (0 : Int))) := by
  intro u
  refine Jn (P := y57) _ (fun _ => y57.same hp _) fun _ => Jn (P := y57) _ (fun _ => (ydO z h n a hn).b hp) fun _ => Jn (P := y57) _ (fun _ => (yjX z h n m _ hn hm).b hp) fun _ => Jn (P := y57) _ (fun _ => (yjY z h n hn).b hp) fun _ => Jn (P := y57) _ (fun _ => (yg1 z h n a b hn).b hp) fun _ => Jn (P := y57) _ (fun _ => (yc6 z h n a hn).b hp) fun _ => Jn (P := y57) _ (fun _ => (ydQ z h n a hn).b hp) fun _ => ?_
  have hs : y57 (bif (k == (7 : Int)) then zY (q, t, l, cs, vs, z) else bif (k == (8 : Int)) then Yh (q, t, l, cs, vs, z, a) else Yi (q, t, l, cs, vs, z, a)) :=
   Jn (P := y57) _ (fun _ => y9Y z h hp) fun _ => Jn (P := y57) _ (fun _ => yc9 z h hp a) fun _ => yca z h hp a
  obtain ⟨q', t', l', cs', vs', z', c, e, hc⟩ := hs
  rw [e]
  cases c
  ·exact ⟨_, _, _, _, _, _, _, rfl, hc⟩
  ·exact ⟨_, _, _, _, _, _, _, rfl, hc⟩
 cases yvw k n m a b
 ·exact key true
 ·exact key _
end
def ybb (o : Option (List yb × List y0 × List ya × List y8 × List yh × Int × List Int × Int × Int)) (c : List Int) : Prop := ∃ q t l cs vs z p s, o = some (q, t, l, cs, vs, z, c, p, s) ∧ V5 c p ∧ yr q t l cs vs z = true
theorem yg7 : yr [0] [[]] [] (List.replicate (Int.toNat (24 : Int)) yN) [] 1 = true := by decide
theorem ya0 (c : List Int) (p s m : Int) (h : V5 c p) (m0 : 0 ≤ m) (m1 : m ≤ 1000) : ybb (w4 (c, p, s, m)) c := by
 obtain ⟨v1, p1, s1, e1, h1, q1⟩ := QL c p s (m + 1) h
 have b1 := q1.2 (by omega)
 unfold w4 qi kE kD W0
 rw [if_pos (by omega), if_pos (by omega), if_pos (by decide)]
 simp only [Option.bind_some]
 rw [show Go.IntKind.wrap .i64 (m + 1) = m + 1 from w64 (by omega) (by omega), e1]
 simp only [Option.bind_some]
 refine kY (step := jj _ _) (fun u : wo => match u with | .inl u => u.1.toNat | .inr u => u.1.toNat) (fun u => match u with | .inl u => ∃ k y q t l cs vs z p s, u = (k, c, p, s, y, z, q, t, l, cs, vs) ∧ V5 c p ∧ 0 ≤ k ∧ k ≤ 1000 ∧ yr q t l cs vs z = true | .inr u => ∃ k y q t l cs vs z p s, u = (k, c, p, s, y, q, t, l, z, cs, vs) ∧ V5 c p ∧ 0 ≤ k ∧ k ≤ 1000 ∧ yr q t l cs vs z = true) (fun _ (res : Option (List yb × List y0 × List ya × List y8 × List yh × Int × List Int × Int × Int)) => ybb res c) ?_ _ ⟨v1, 0, _, _, _, _, _, 1, p1, s1, rfl, h1, q1.1, by omega, yg7⟩ (by simp only; omega)
 intro again u hu hag
 have step : ∀ (k y : Int) q t l cs vs (z p s : Int), V5 c p → 0 ≤ k → k ≤ 1000 → yr q t l cs vs z = true → k > 0 → (∀ k' q' t' l' cs' vs' z' p' s', V5 c p' → 0 ≤ k' → k' < k → yr q' t' l' cs' vs' z' = true → ybb (again (Sum.inr (k', c, p', s', y, q', t', l', z', cs', vs'))) c) → ybb (Option.bind (YB (c, p, s)) fun r3 => Option.bind (jZ (q, t, l, cs, vs, z, r3.1, r3.2.1, r3.2.2.1, r3.2.2.2.1, r3.2.2.2.2.1)) fun r4 => again (Sum.inr ((Go.IntKind.wrap .i64 (k - (1 : Int))), r3.2.2.2.2.2.1, r3.2.2.2.2.2.2.1, r3.2.2.2.2.2.2.2, y, r4.1, r4.2.1, r4.2.2.1, r4.2.2.2.2.2.1, r4.2.2.2.1, r4.2.2.2.2.1))) c := by
  intro k y q t l cs vs z p s hc k0 k1 hT hk hag2
  obtain ⟨kd, n, m, a, b, p2, s2, e2, h2, hn, hm⟩ := yqd c p s hc
  obtain ⟨q', t', l', cs', vs', z', cc, e3, h3⟩ := y9Z z (y0s hT).sp hT kd n m a b hn hm
  have hw : Go.IntKind.wrap .i64 (k - 1) = k - 1 := w64 (by omega) (by omega)
  simp only [e2, e3, Option.bind_some, hw]
  exact hag2 _ _ _ _ _ _ _ _ _ h2 (by omega) (by omega) h3
 cases u with
 | inl u =>
  obtain ⟨k, y, q, t, l, cs, vs, z, p, s, rfl, hc, k0, k1, hT⟩ := hu
  unfold jj
  simp only [Bool.cond_eq_ite, decide_eq_true_eq]
  by_cases hk : k > 0
  ·simp only [if_pos hk]
   exact step k y q t l cs vs z p s hc k0 k1 hT hk fun k' q' t' l' cs' vs' z' p' s' g1 g2 g3 g4 => hag _ ⟨_, _, _, _, _, _, _, _, _, _, rfl, g1, g2, by omega, g4⟩ (by simp only; omega)
  ·simp only [if_neg hk]
   exact ⟨_, _, _, _, _, _, _, _, rfl, hc, hT⟩
 | inr u =>
  obtain ⟨k, y, q, t, l, cs, vs, z, p, s, rfl, hc, k0, k1, hT⟩ := hu
  unfold jj
  simp only [Bool.cond_eq_ite, decide_eq_true_eq]
  by_cases hk : k > 0
  ·simp only [if_pos hk]
   exact step k y q t l cs vs z p s hc k0 k1 hT hk fun k' q' t' l' cs' vs' z' p' s' g1 g2 g3 g4 => hag _ ⟨_, _, _, _, _, _, _, _, _, _, rfl, g1, g2, by omega, g4⟩ (by simp only; omega)
  ·simp only [if_neg hk]
   exact ⟨_, _, _, _, _, _, _, _, rfl, hc, hT⟩
end Go.Proofs.YtjllpipmaejeoaaGreat.Pl
namespace Go.Proofs.YtjllpipmaejeoaaGreat.Pl
open Go.Proofs.YtjllpipmaejeoaaGreat.R Go.Proofs.YtjllpipmaejeoaaGreat.XR
theorem yhq : ∀ a : List UInt8, Go.Op.bytesLess a a = false
 | [] => rfl
 | x :: a => by
  have := yhq a
  simp [Go.Op.bytesLess, this]
theorem ye2 {vs : List yh} (h : yqP vs) : ∀ (d i : Nat), i + 1 + d < vs.length → Go.Op.bytesLess (ByteArray.toList (vs.getD i yD).1) (ByteArray.toList (vs.getD (i + 1 + d) yD).1) = true
 | 0, i, hi => h i hi
 | d + 1, i, hi => y53 _ _ _ (ye2 h d i (by omega)) (h (i + 1 + d) hi)
theorem ybc {vs : List yh} (h : yqP vs) {i : Nat} (hi : i < vs.length) : zx vs (vs.getD i yD).1 = i := by
 have hne : ∀ a b : Nat, a < b → b < vs.length → ByteArray.toList (vs.getD a yD).1 ≠ ByteArray.toList (vs.getD b yD).1 := fun a b hab hb he => by
  have := ye2 h (b - (a + 1)) a (by omega)
  rw [show a + 1 + (b - (a + 1)) = b by omega, he, yhq] at this
  cases this
 have hmem : vs.getD i yD ∈ vs := by
  rw [zZ _ _ _ hi]
  exact List.getElem_mem _
 unfold zx
 rcases YS (fun v : yh => ByteArray.toList v.1 == ByteArray.toList (vs.getD i yD).1) yD vs 0 (Int.le_refl _) with h1 | ⟨h1, h2, h3⟩
 ·have := QJ (p := fun v : yh => ByteArray.toList v.1 == ByteArray.toList (vs.getD i yD).1) vs 0 (Int.le_refl _) (by omega) _ hmem
  simp at this
 ·rw [Int.sub_zero] at h3
  generalize zX (fun v : yh => ByteArray.toList v.1 == ByteArray.toList (vs.getD i yD).1) vs 0 = j at *
  have h4 := eq_of_beq h3
  rcases Nat.lt_trichotomy j.toNat i with h5 | h5 | h5
  ·exact absurd h4 (hne _ _ h5 hi)
  ·omega
  ·exact absurd h4.symm (hne _ _ h5 (by omega))
structure PoolR (q : List yb) (t : List y0) (l : List ya) (cs : List y8) (vs : List yh) (z : Int) : Prop where
 tree : zp q t = true
 ages : jA l = true
 cells : zr cs = true
 fit : wu (yu t) l cs = true
 late : ∀ a ∈ l, a.1 < z
 next : 1 ≤ z ∧ z ≤ 61
 srt : yqP vs
 name : ∀ i, i < vs.length → YM (vs.getD i yD).1 = true
 size : ∀ i, i < vs.length → 1 ≤ (vs.getD i yD).2.2.1 ∧ (vs.getD i yD).2.2.1 ≤ 12
 age : ∀ i, i < vs.length → 0 ≤ zi l (vs.getD i yD).2.1
 leaf : ∀ i, i < vs.length → (Y2 l (vs.getD i yD).2.1).length = 0
 apart : ∀ i j, i < j → j < vs.length → (vs.getD i yD).2.1 ≠ (vs.getD j yD).2.1
 few : vs.length ≤ 6
theorem y1g {q : List yb} {t : List y0} {l : List ya} {cs : List y8} {vs : List yh} {z : Int} (h : yr q t l cs vs z = true) : PoolR q t l cs vs z := by
 unfold yr at h
 simp only [Bool.and_eq_true, Bool.not_eq_true', zo] at h
 obtain ⟨h1, h2, h3, h4, h5, h6, h7⟩ := h
 have hs := yg3 h6
 unfold wD at h6
 simp only [Bool.and_eq_true, Bool.not_eq_true', decide_eq_true_eq] at h6
 have hv : ∀ i, i < vs.length → ybW vs l i (vs.getD i yD) = false := fun i hi => by
  have := WI yD vs 0 h6.1 i hi
  rwa [show (0 : Int) + (i : Int) = i by omega] at this
 unfold ybW at hv
 simp only [Bool.or_eq_false_iff, Bool.not_eq_false', decide_eq_false_iff_not, zo] at hv
 refine ⟨h1, h2, h3, h7, fun a ha => ?_, h4, hs, fun i hi => (hv i hi).1, fun i hi => (hv i hi).2.1, fun i hi => ?_, fun i hi => ?_, fun i j hij hj he => ?_, by omega⟩
 ·obtain ⟨j, hj⟩ := Kd _ _ 0 h5 a ha
  unfold Qi at hj
  have := of_decide_eq_false hj
  omega
 ·have := (hv i hi).2.2.1
  omega
 ·have := (hv i hi).2.2.2.1
  omega
 ·have h8 := (hv j hj).2.2.2.2.2
  rw [show ((j : Int)).toNat = j by omega] at h8
  have h9 := WI yD _ 0 h8 i (by rw [List.length_take]; omega)
  have e9 : (vs.take j).getD i yD = vs.getD i yD := by
   rw [List.getD_eq_getElem?_getD, List.getElem?_take, if_pos hij, ← List.getD_eq_getElem?_getD]
  rw [e9] at h9
  unfold wC at h9
  rw [he] at h9
  simp at h9
theorem PoolR.unlike {q : List yb} {t : List y0} {l : List ya} {cs : List y8} {vs : List yh} {z : Int} (h : PoolR q t l cs vs z) {i j : Nat} (hi : i < vs.length) (hj : j < vs.length) (hij : i ≠ j) : (vs.getD i yD).2.1 ≠ (vs.getD j yD).2.1 := by
 rcases Nat.lt_or_gt_of_ne hij with h1 | h1
 ·exact h.apart i j h1 hj
 ·exact fun he => h.apart j i h1 hi he.symm
theorem PoolR.off {q : List yb} {t : List y0} {l : List ya} {cs : List y8} {vs : List yh} {z : Int} (h : PoolR q t l cs vs z) {i j : Nat} (hi : i < vs.length) (hj : j < vs.length) (hij : i ≠ j) : (vs.getD i yD).2.1 ∉ Yl l (vs.getD j yD).2.1 := fun hx => by
 rcases y54 (yb9 h.ages) (h.age j hj) hx with h1 | ⟨h1, h2, a, ha, he⟩
 ·exact h.unlike hi hj hij h1
 ·have := ydT h2 ha he
  have := h.leaf i hi
  omega
section
variable {ks : List y7} {l : List ya} {cs : List y8} (h : wu ks l cs = true)
include h
theorem y71 {c : y7} (hc : c ∈ ks) (hd : c.2.2.1 = 1) : 0 ≤ c.2.2.2.1 ∧ c.2.2.2.1 < (cs.length : Int) ∧ (cs.getD c.2.2.2.1.toNat yN).2.1 = true := by
 obtain ⟨j, hj, rfl⟩ := List.mem_iff_getElem.1 hc
 have := (y0w h j hj (by rw [zZ _ _ _ hj]; unfold y2o; rw [hd]; rfl)).1
 rwa [zZ _ _ _ hj] at this
theorem ye3 {c d : y7} (hc : c ∈ ks) (hd : d ∈ ks) (h1 : c.2.2.1 = 1) (h2 : d.2.2.1 = 1) (he : c.2.2.2.1 = d.2.2.2.1) : c = d := by
 obtain ⟨i, hi, rfl⟩ := List.mem_iff_getElem.1 hc
 obtain ⟨j, hj, rfl⟩ := List.mem_iff_getElem.1 hd
 have di : y2o (ks.getD i yH) = true := by rw [zZ _ _ _ hi]; unfold y2o; rw [h1]; rfl
 have dj : y2o (ks.getD j yH) = true := by rw [zZ _ _ _ hj]; unfold y2o; rw [h2]; rfl
 rcases Nat.lt_trichotomy i j with h5 | h5 | h5
 ·have := (y0w h j hj dj).2 i h5 di
  rw [zZ _ _ _ hi, zZ _ _ _ hj] at this
  exact absurd he this
 ·subst h5
  rfl
 ·have := (y0w h i hi di).2 j h5 dj
  rw [zZ _ _ _ hi, zZ _ _ _ hj] at this
  exact absurd he.symm this
end
theorem ya1 {cs cs' : List y8} {n g : Int} (hl : cs'.length = cs.length) (he : cs'.getD n.toNat yN = cs.getD n.toNat yN) : ZZ cs' n g = ZZ cs n g := by
 unfold ZZ
 rw [hl, he]
theorem yk5 {cs : List y8} {i : Int} {n : Nat} (hn : i.toNat ≠ n) : (y2j cs i).getD n yN = cs.getD n yN := by
 unfold y2j
 split
 ·exact y3V _ _ _ _ _ hn
 ·rfl
theorem yhr {q : List Int} {t : List y0} {cs : List y8} {k : y7} (ht : zp q t = true) (hk : Ym k = true) {n : Nat} (hn : ∀ c ∈ yu t, c.1 = k.1 → c.2.1 = k.2.1 → c.2.2.1 = 1 → c.2.2.2.1.toNat ≠ n) : (Jm q t cs k).getD n yN = cs.getD n yN := by
 obtain ⟨_, s1, s2, s3, s4⟩ := y6V hk
 unfold Jm
 split
 ·rename_i hh
  obtain ⟨c, hc, c1, c2, c3⟩ := (y3J ht ⟨s1, s2⟩ ⟨s3, s4⟩).1 hh.1
  rw [c3] at hh ⊢
  exact yk5 (hn c hc c1 c2 hh.2)
 ·rfl
section
variable {q : List yb} {t : List y0} {l : List ya} {cs cs2 : List y8} {k : y7} (ht : zp q t = true) (hok : (yo q t k).2.2 = true)
include ht hok
theorem y1L : srt (yu (yo q t k).2.1) := by
 obtain ⟨_, _, h3, _⟩ := vK hok
 exact (kw h3).srt
theorem QN {x : y7} : x ∈ yu (yo q t k).2.1 ↔ (x = k ∨ (x ∈ yu t ∧ ZY x k = false)) ∧ x.2.2.1 ≠ 0 := by
 rw [(vK hok).2.2.2, wv, VS]
theorem ya2 {j a : Int} (hj : j ≠ k.1 ∨ k.2.1 ∉ Yl l a) : zO (zM (yu (yo q t k).2.1) j) (Yl l a) = zO (zM (yu t) j) (Yl l a) := by
 refine (ydS (kw ht).srt (y1L ht hok) fun c hc hp => ?_).symm
 have hne : ¬ (c.1 = k.1 ∧ c.2.1 = k.2.1) := fun hh => by
  rcases hj with h1 | h1
  ·exact h1 (hc.symm.trans hh.1)
  ·rw [hh.2] at hp
   exact h1 hp
 rw [QN ht hok]
 constructor
 ·intro h1
  refine ⟨.inr ⟨h1, ?_⟩, y1d h1⟩
  cases hs : ZY c k with
  | false => rfl
  | true => exact absurd (Yx.1 hs) hne
 ·rintro ⟨rfl | h1, h2⟩
  ·exact absurd ⟨rfl, rfl⟩ hne
  ·exact h1.1
theorem ycb (hc : ∀ c ∈ yu t, c.2.2.1 = 1 → ¬ (c.1 = k.1 ∧ c.2.1 = k.2.1) → ZZ cs2 c.2.2.2.1 c.2.2.2.2 = ZZ cs c.2.2.2.1 c.2.2.2.2) {j a : Int} (hj : j ≠ k.1 ∨ k.2.1 ∉ Yl l a) : y55 (yu (yo q t k).2.1) l cs2 j a = y55 (yu t) l cs j a := by
 unfold y55
 rw [ya2 ht hok hj]
 rcases K2 (zM (yu t) j) (Yl l a) with ⟨h1, _⟩ | ⟨h1, h2, h3, _⟩
 ·rw [h1]
  rfl
 ·by_cases hd : (zO (zM (yu t) j) (Yl l a)).2.2.2.1 = 1
  ·obtain ⟨h5, h6⟩ := zH.1 h2
   rw [hc _ h5 hd fun hh => ?_]
   rcases hj with h7 | h7
   ·exact h7 (h6.symm.trans hh.1)
   ·rw [hh.2] at h3
    exact h7 h3
  ·rw [if_neg (by simp [hd]), if_neg (by simp [hd])]
theorem y58 (hl : jA l = true) (ha : 0 ≤ zi l k.2.1) (hk : k.2.2.1 ≠ 0) : zO (zM (yu (yo q t k).2.1) k.1) (Yl l k.2.1) = (true, k) :=
 yg4 (y1L ht hok) ((QN ht hok).2 ⟨.inl rfl, hk⟩) rfl (y9V ha) fun x hx => by
  rcases y54 (yb9 hl) ha hx with h1 | h1
  ·omega
  ·omega
end
section
variable {q : List yb} {t : List y0} {l : List ya} {cs : List y8} {vs : List yh} {z : Int} (h : PoolR q t l cs vs z) {b w : Int} {i : Nat} (hi : i < vs.length) (hw : isW w = true) (hf : ¬ YA cs < 0)
def y1i (cs : List y8) (vs : List yh) (b : Int) (i : Nat) : y7 := (b, (vs.getD i yD).2.1, 1, YA cs, (cs.getD (YA cs).toNat yN).1)
def wCs (cs : List y8) (w : Int) : List y8 := cs.set (YA cs).toNat ((cs.getD (YA cs).toNat yN).1, true, w)
variable (hok : (yo q t (y1i cs vs b i)).2.2 = true)
include h hi hf hok
theorem y3X {j a : Int} (hj : j ≠ b ∨ (vs.getD i yD).2.1 ∉ Yl l a) : y55 (yu (yo q t (y1i cs vs b i)).2.1) l (Jm q t (wCs cs w) (y1i cs vs b i)) j a = y55 (yu t) l cs j a := by
 obtain ⟨f1, f2, f3⟩ := QM hf
 refine ycb h.tree hok (fun c hc hd hne => ?_) hj
 obtain ⟨u1, u2, u3⟩ := y71 h.fit hc hd
 refine ya1 (by rw [VT]; unfold wCs; rw [List.length_set]) ?_
 rw [yhr h.tree (vK hok).2.1 fun d hd1 d1 d2 d3 he => ?_]
 ·unfold wCs
  refine y3V _ _ _ _ _ fun he => ?_
  rw [← he, f3] at u3
  cases u3
 ·obtain ⟨v1, _, _⟩ := y71 h.fit hd1 d3
  have := ye3 h.fit hc hd1 hd d3 (by omega)
  subst this
  exact hne ⟨d1, d2⟩
theorem ycc : y55 (yu (yo q t (y1i cs vs b i)).2.1) l (Jm q t (wCs cs w) (y1i cs vs b i)) b (vs.getD i yD).2.1 = w := by
 obtain ⟨f1, f2, f3⟩ := QM hf
 have e : zO (zM (yu (yo q t (y1i cs vs b i)).2.1) b) (Yl l (vs.getD i yD).2.1) = (true, y1i cs vs b i) := y58 h.tree hok h.ages (h.age i hi) (show (1 : Int) ≠ 0 by decide)
 unfold y55
 rw [e]
 have hcell : (Jm q t (wCs cs w) (y1i cs vs b i)).getD (YA cs).toNat yN = ((cs.getD (YA cs).toNat yN).1, true, w) := by
  rw [yhr h.tree (vK hok).2.1 fun d hd1 d1 d2 d3 he => ?_]
  ·unfold wCs
   exact y3W _ _ _ _ (by omega)
  ·obtain ⟨v1, v2, v3⟩ := y71 h.fit hd1 d3
   rw [he, f3] at v3
   cases v3
 have hlen : (Jm q t (wCs cs w) (y1i cs vs b i)).length = cs.length := by
  rw [VT]
  unfold wCs
  rw [List.length_set]
 show (if (true && ((1 : Int) == 1)) = true then (ZZ (Jm q t (wCs cs w) (y1i cs vs b i)) (YA cs) (cs.getD (YA cs).toNat yN).1).1 else 0) = w
 rw [if_pos (by rfl)]
 unfold ZZ
 rw [hcell, hlen, if_pos]
 rw [zo.2 ⟨f1, by omega⟩]
 simp
end
end Go.Proofs.YtjllpipmaejeoaaGreat.Pl
namespace Go.Proofs.YtjllpipmaejeoaaGreat.Pl
open Go.Proofs.YtjllpipmaejeoaaGreat.R Go.Proofs.YtjllpipmaejeoaaGreat.XR
theorem ycd {K K' : List y7} {b : Int} {path path' : List Int} (hK : srt K) (hK' : srt K') (h : ∀ c : y7, c.1 = b → (c ∈ K ∧ c.2.1 ∈ path ↔ c ∈ K' ∧ c.2.1 ∈ path')) : zO (zM K b) path = zO (zM K' b) path' := by
 rcases K2 (zM K b) path with ⟨h1, h2⟩ | ⟨h1, h2, h3, h4⟩
 ·rcases K2 (zM K' b) path' with ⟨g1, g2⟩ | ⟨g1, g2, g3, g4⟩
  ·rw [h1, g1]
  ·obtain ⟨g5, g6⟩ := zH.1 g2
   have := (h _ g6).2 ⟨g5, g3⟩
   exact absurd this.2 (h2 _ (zH.2 ⟨this.1, g6⟩))
 ·obtain ⟨h5, h6⟩ := zH.1 h2
  have hm := (h _ h6).1 ⟨h5, h3⟩
  rcases K2 (zM K' b) path' with ⟨g1, g2⟩ | ⟨g1, g2, g3, g4⟩
  ·exact absurd hm.2 (g2 _ (zH.2 ⟨hm.1, h6⟩))
  ·obtain ⟨g5, g6⟩ := zH.1 g2
   have gm := (h _ g6).2 ⟨g5, g3⟩
   have e1 := g4 _ (zH.2 ⟨hm.1, h6⟩) hm.2
   have e2 := h4 _ (zH.2 ⟨gm.1, g6⟩) gm.2
   have e3 := y6W hK h5 gm.1 (Yx.2 ⟨h6.trans g6.symm, by omega⟩)
   exact Prod.ext (h1.trans g1.symm) e3
theorem ye4 {l : List ya} (h : AgesR l) {id : Int} (hi : 0 ≤ zi l id) : Yl l id = id :: (Yl l id).drop 1 ∧ ∀ x ∈ (Yl l id).drop 1, x < id := by
 obtain ⟨h1, h2⟩ := vp hi
 have e : Yl l id = id :: vi l l.length (zi l (l.getD (zi l id).toNat zq).2) := by
  unfold Yl
  rw [Qe l _ _ hi, h2]
 refine ⟨by rw [e]; rfl, fun x hx => ?_⟩
 rw [e, List.drop_succ_cons, List.drop_zero] at hx
 have hj : 0 ≤ zi l (l.getD (zi l id).toNat zq).2 := by
  refine Decidable.byContradiction fun hn => ?_
  cases hl : l.length with
  | zero => rw [hl] at hx; simp [vi] at hx
  | succ n =>
   rw [hl, vi, if_pos (by omega)] at hx
   simp at hx
 obtain ⟨j1, j2⟩ := vp hj
 have hp := h.pos (zi l (l.getD (zi l id).toNat zq).2).toNat (by omega)
 rw [j2] at hp
 obtain ⟨j, hj1, hj2⟩ := h.frm (zi l id).toNat (by omega) (by omega)
 have hlt := h.lt ((zi l id).toNat - (j + 1)) j (by omega)
 rw [show j + 1 + ((zi l id).toNat - (j + 1)) = (zi l id).toNat by omega, h2, hj2] at hlt
 rcases y6Z h _ _ hj j1 x hx with h3 | ⟨h3, _, _⟩
 ·rw [j2] at h3
  omega
 ·rw [j2] at h3
  omega
section
variable {q : List yb} {t : List y0} {l : List ya} {cs : List y8} {vs : List yh} (z : Int) (h : SP q t l cs vs) (hp : yr q t l cs vs z = true)
theorem y0f (i : Nat) : yc vs (i : Int) = vs.getD i yD := by
 show vs.getD ((i : Int)).toNat yD = _
 rw [Int.toNat_natCast]
include hp in
theorem y72 {i : Nat} (hi : i < vs.length) {b : Int} (hb : 0 ≤ b ∧ b < (vs.getD i yD).2.2.1) : WL q t l cs vs z (vs.getD i yD).1 b = if (vs.getD i yD).2.2.2 = true then 5 else 0 := by
 have hr := y1g hp
 have hs := hr.size i hi
 unfold WL
 rw [if_pos ⟨hp, hr.name i hi⟩, ybc hr.srt hi, if_neg (by omega), y0f, w64 (n := (vs.getD i yD).2.2.1 - 1) (by omega) (by omega), zo.2 ⟨hb.1, by omega⟩]
 simp
include h
theorem ye5 (w : Int) (hf : ¬ YA cs < 0) : (ym (wCs cs w) (YA cs)).1 = (cs.getD (YA cs).toNat yN).1 := by
 obtain ⟨f1, f2, f3⟩ := QM hf
 show ((wCs cs w).getD (YA cs).toNat yN).1 = _
 unfold wCs
 rw [y3W _ _ _ _ (by omega)]
include hp
theorem ya3 {i : Nat} (hi : i < vs.length) {b w : Int} (hb : 0 ≤ b ∧ b < (vs.getD i yD).2.2.1) (hx : (vs.getD i yD).2.2.2 = true) : ZK (q, t, l, cs, vs, z, (vs.getD i yD).1, b, w) = some (q, t, l, cs, vs, z, 5) := by
 have hn := VU ((y1g hp).name i hi)
 unfold ZK
 simp only [ZI z h _ (y0t (Nat.le_trans hn (by omega))), if_true, yjZ z h, Option.bind_some, y72 z hp hi hb, if_pos hx, show ((5 : Int) == 0) = false from rfl, show ((5 : Int) != 0) = true from rfl, cond_false, cond_true]
theorem ye6 {i : Nat} (hi : i < vs.length) {b w : Int} (hb : 0 ≤ b ∧ b < (vs.getD i yD).2.2.1) (hx : (vs.getD i yD).2.2.2 = false) (hw : isW w = true) : ZK (q, t, l, cs, vs, z, (vs.getD i yD).1, b, w) = some (q, t, l, cs, vs, z, 6) ∨
  ∃ q' t' cs', ZK (q, t, l, cs, vs, z, (vs.getD i yD).1, b, w) = some (q', t', l, cs', vs, z, 0) ∧ yr q' t' l cs' vs z = true ∧ (∀ j a, j ≠ b ∨ (vs.getD i yD).2.1 ∉ Yl l a → y55 (yu t') l cs' j a = y55 (yu t) l cs j a) ∧ y55 (yu t') l cs' b (vs.getD i yD).2.1 = w := by
 have hr := y1g hp
 have hn := VU (hr.name i hi)
 have h0 : (0 : Int) ≤ (i : Int) := by omega
 have h1 : (i : Int) < ((List.length vs : Nat) : Int) := by omega
 have hS : SP q t l (wCs cs w) vs := SP.of h.tq h.S.2.2.2.1 (by unfold wCs; rw [List.length_set]; exact h.S.2.2.2.2.1) h.S.2.2.2.2.2 h.N
 unfold ZK
 simp only [ZI z h _ (y0t (Nat.le_trans hn (by omega))), if_true, yjZ z h, y3s, y2l cs w h.S.2.2.2.2.1, Option.bind_some, yej, y72 z hp hi hb, hx, Bool.false_eq_true, if_false, show ((0 : Int) == 0) = true from rfl, show ((0 : Int) != 0) = false from rfl, cond_false, cond_true, hw, Bool.not_true, ybc hr.srt hi, y0f]
 by_cases hf : YA cs < 0
 ·rw [y0u (fun hh => hh.2.2 hf)]
  exact .inl rfl
 ·obtain ⟨f1, f2, f3⟩ := QM hf
  rw [y2O ⟨hr.cells, hw, hf⟩]
  have e3 := ye5 h w hf
  unfold wCs at e3 hS
  simp only [Bool.not_true, cond_false, if_pos h0, if_pos h1, if_pos f1, List.length_set, if_pos f2, e3, y3Q z hS, Option.bind_some]
  rw [y1J z h (yho z hS _)]
  by_cases hc : (y2P q t l (wCs cs w) vs z (y1i cs vs b i)).1 = true ∧ yr (y2P q t l (wCs cs w) vs z (y1i cs vs b i)).2.1 (y2P q t l (wCs cs w) vs z (y1i cs vs b i)).2.2.1 (y2P q t l (wCs cs w) vs z (y1i cs vs b i)).2.2.2.1 (y2P q t l (wCs cs w) vs z (y1i cs vs b i)).2.2.2.2.1 (y2P q t l (wCs cs w) vs z (y1i cs vs b i)).2.2.2.2.2.1 (y2P q t l (wCs cs w) vs z (y1i cs vs b i)).2.2.2.2.2.2 = true
  ·refine .inr ⟨(yo q t (y1i cs vs b i)).1, (yo q t (y1i cs vs b i)).2.1, Jm q t (wCs cs w) (y1i cs vs b i), ?_, ?_, fun j a hj => ?_, ?_⟩
   ·have hc' := hc
    have e : (y2P q t l (wCs cs w) vs z (y1i cs vs b i)) = (true, (yo q t (y1i cs vs b i)).1, (yo q t (y1i cs vs b i)).2.1, l, Jm q t (wCs cs w) (y1i cs vs b i), vs, z) := by
     have h4 : (yo q t (y1i cs vs b i)).2.2 = true := hc.1
     unfold y2P
     rw [h4, if_pos rfl]
    unfold wCs y1i at hc' e
    rw [if_pos hc', e]
    rfl
   ·have h4 : (yo q t (y1i cs vs b i)).2.2 = true := hc.1
    have h5 := hc.2
    unfold y2P at h5
    rw [if_pos h4] at h5
    exact h5
   ·exact y3X hr hi hf hc.1 hj
   ·exact ycc hr hi hf hc.1
  ·unfold wCs y1i at hc
   rw [if_neg hc]
   exact .inl rfl
theorem ya4 {i : Nat} (hi : i < vs.length) {b : Int} (hb : 0 ≤ b ∧ b < (vs.getD i yD).2.2.1) (hx : (vs.getD i yD).2.2.2 = false) : jw (q, t, l, cs, vs, z, (vs.getD i yD).1, b) = some (q, t, l, cs, vs, z, 6) ∨
  ∃ q' t' cs', jw (q, t, l, cs, vs, z, (vs.getD i yD).1, b) = some (q', t', l, cs', vs, z, 0) ∧ yr q' t' l cs' vs z = true ∧ y55 (yu t') l cs' b (vs.getD i yD).2.1 = 0 := by
 have hr := y1g hp
 have hq := h.tq
 have hn := VU (hr.name i hi)
 have hs := hr.size i hi
 have h0 : (0 : Int) ≤ (i : Int) := by omega
 have h1 : (i : Int) < ((List.length vs : Nat) : Int) := by omega
 obtain ⟨p1, p2⟩ := ye4 (yb9 hr.ages) (hr.age i hi)
 have above : ∀ K' cs', srt K' → (∀ c : y7, c.1 = b → c.2.1 ≠ (vs.getD i yD).2.1 → (c ∈ K' ↔ c ∈ yu t)) → (∀ c ∈ K', ¬ (c.1 = b ∧ c.2.1 = (vs.getD i yD).2.1)) → ¬ ((jE t l b (vs.getD i yD).2.1).1 = true ∧ (jE t l b (vs.getD i yD).2.1).2.2.2.1 = 1) → y55 K' l cs' b (vs.getD i yD).2.1 = 0 := by
  intro K' cs' hK hsame hno hab
  have e : zO (zM K' b) (Yl l (vs.getD i yD).2.1) = jE t l b (vs.getD i yD).2.1 := by
   unfold jE
   refine ycd hK (kw hr.tree).srt fun c hc => ?_
   constructor
   ·rintro ⟨a1, a2⟩
    have a3 : c.2.1 ≠ (vs.getD i yD).2.1 := fun he => hno c a1 ⟨hc, he⟩
    refine ⟨(hsame c hc a3).1 a1, ?_⟩
    rw [p1] at a2
    rcases List.mem_cons.1 a2 with a2 | a2
    ·exact absurd a2 a3
    ·exact a2
   ·rintro ⟨a1, a2⟩
    have a3 := p2 _ a2
    exact ⟨(hsame c hc (by omega)).2 a1, List.mem_of_mem_drop a2⟩
  unfold y55
  rw [e, if_neg]
  simpa using hab
 have fin : ∀ (k : y7), k.1 = b → k.2.1 = (vs.getD i yD).2.1 → k.2.2.1 ≠ 1 → (k.2.2.1 = 0 → ¬ ((jE t l b (vs.getD i yD).2.1).1 = true ∧ (jE t l b (vs.getD i yD).2.1).2.2.2.1 = 1)) → (yo q t k).2.2 = true → ∀ cs', y55 (yu (yo q t k).2.1) l cs' b (vs.getD i yD).2.1 = 0 := by
  intro k k1 k2 k3 hab hok cs'
  by_cases k4 : k.2.2.1 = 0
  ·refine above _ cs' (y1L hr.tree hok) (fun c hc hne => ?_) (fun c hc hh => ?_) (hab k4)
   ·rw [QN hr.tree hok]
    constructor
    ·rintro ⟨rfl | a1, a2⟩
     ·exact absurd k2 hne
     ·exact a1.1
    ·intro a1
     refine ⟨.inr ⟨a1, ?_⟩, y1d a1⟩
     cases hs : ZY c k with
     | false => rfl
     | true => exact absurd ((Yx.1 hs).2.trans k2) hne
   ·rw [QN hr.tree hok] at hc
    rcases hc with ⟨rfl | a1, a2⟩
    ·exact a2 k4
    ·rw [Yx.2 ⟨hh.1.trans k1.symm, hh.2.trans k2.symm⟩] at a1
     cases a1.2
  ·have e := y58 hr.tree hok hr.ages (by rw [k2]; exact hr.age i hi) k4
   rw [k1, k2] at e
   unfold y55
   rw [e, if_neg]
   simpa using k3
 have put : ∀ (k : y7), k.1 = b → k.2.1 = (vs.getD i yD).2.1 → k.2.2.1 ≠ 1 → (k.2.2.1 = 0 → ¬ ((jE t l b (vs.getD i yD).2.1).1 = true ∧ (jE t l b (vs.getD i yD).2.1).2.2.2.1 = 1)) → ∀ o : Option (List yb × List y0 × List ya × List y8 × List yh × Int × Int), o = YD (q, t, l, cs, vs, z, (y2P q t l cs vs z k).2.1, (y2P q t l cs vs z k).2.2.1, (y2P q t l cs vs z k).2.2.2.1, (y2P q t l cs vs z k).2.2.2.2.1, (y2P q t l cs vs z k).2.2.2.2.2.1, (y2P q t l cs vs z k).2.2.2.2.2.2, (y2P q t l cs vs z k).1) → o = some (q, t, l, cs, vs, z, 6) ∨ ∃ q' t' cs', o = some (q', t', l, cs', vs, z, 0) ∧ yr q' t' l cs' vs z = true ∧ y55 (yu t') l cs' b (vs.getD i yD).2.1 = 0 := by
  intro k k1 k2 k3 hab o ho
  rw [y1J z h (yho z h k)] at ho
  split at ho
  ·rename_i hc
   exact .inr ⟨_, _, _, ho, hc.2, fin k k1 k2 k3 hab hc.1 _⟩
  ·exact .inl ho
 unfold jw ZX
 simp only [ZI z h _ (y0t (Nat.le_trans hn (by omega))), if_true, yjZ z h, Option.bind_some, yej, y72 z hp hi hb, hx, Bool.false_eq_true, if_false, show ((0 : Int) != 0) = false from rfl, cond_false, ybc hr.srt hi, y0f, if_pos h0, if_pos h1, y6Q q t l _ _ hq.T h.S.2.2.2.1, y0d q t _ _ hq.T hq.q, y3Q z h]
 have c1 : (ans (jE t l b (vs.getD i yD).2.1)).2.2.2.2.2 = (jE t l b (vs.getD i yD).2.1).1 := rfl
 have c2 : (ans (jE t l b (vs.getD i yD).2.1)).2.2.1 = (jE t l b (vs.getD i yD).2.1).2.2.2.1 := rfl
 rw [c1, c2]
 by_cases hab : (jE t l b (vs.getD i yD).2.1).1 = true ∧ (jE t l b (vs.getD i yD).2.1).2.2.2.1 = 1
 ·simp only [hab.1, hab.2, cond_true, Option.bind_some, show ((1 : Int) == 1) = true from rfl]
  exact put (b, (vs.getD i yD).2.1, 2, 0, 0) rfl rfl (by show (2 : Int) ≠ 1; decide) (fun hh => absurd hh (by show (2 : Int) ≠ 0; decide)) _ rfl
 ·have e : (bif (jE t l b (vs.getD i yD).2.1).1 then some ((jE t l b (vs.getD i yD).2.1).2.2.2.1 == (1 : Int)) else some false) = some false := by
   cases ha : (jE t l b (vs.getD i yD).2.1).1 with
   | false => rfl
   | true =>
    have hh : ¬ (jE t l b (vs.getD i yD).2.1).2.2.2.1 = 1 := fun hh => hab ⟨ha, hh⟩
    rw [cond_true, beq_eq_false_iff_ne.2 hh]
  simp only [e, Option.bind_some, cond_false]
  have hta := y3J hr.tree (b := b) (a := (vs.getD i yD).2.1) ⟨hb.1, by omega⟩ (by
   obtain ⟨a1, a2⟩ := vp (hr.age i hi)
   have a3 := (yb9 hr.ages).pos (zi l (vs.getD i yD).2.1).toNat (by have := hr.age i hi; omega)
   rwa [a2] at a3)
  cases ht : (YL q t b (vs.getD i yD).2.1).2.2.2.2.2 with
  | true =>
   simp only [cond_true, Option.bind_some]
   exact put (b, (vs.getD i yD).2.1, 0, 0, 0) rfl rfl (by show (0 : Int) ≠ 1; decide) (fun _ => hab) _ rfl
  | false =>
   simp only [cond_false, Option.bind_some]
   rw [y1J z h h, if_pos ⟨rfl, hp⟩]
   exact .inr ⟨_, _, _, rfl, hp, above _ cs (kw hr.tree).srt (fun c _ _ => Iff.rfl) (hta.2 ht) hab⟩
end
end Go.Proofs.YtjllpipmaejeoaaGreat.Pl
namespace Go.Proofs.YtjllpipmaejeoaaGreat.Pl
open Go.Proofs.YtjllpipmaejeoaaGreat.R Go.Proofs.YtjllpipmaejeoaaGreat.XR
def jK {A : Type} (eq : A → A → Bool) (da : A) (a b : List A) : Bool := decide (a.length = b.length) && !Yo (fun i x => !eq x (b.getD i.toNat da)) a 0
theorem VX {A : Type} (eq : A → A → Bool) (da : A) {a b : List A} (h : a.length ≠ b.length) : jK eq da a b = false := by
 unfold jK
 rw [decide_eq_false h]
 rfl
theorem y3Y {A B : Type} {a : List A} {b : List B} (h : a.length = b.length) : (((List.length a : Nat) : Int) != ((List.length b : Nat) : Int)) = false := by
 rw [h]
 simp
theorem y3Z {A B : Type} {a : List A} {b : List B} (h : a.length ≠ b.length) : (((List.length a : Nat) : Int) != ((List.length b : Nat) : Int)) = true := by
 simp only [bne_iff_ne]
 omega
theorem vq {T A : Type} {step : (T → Option Bool) → T → Option Bool} (mk : Int → T) (eq : A → A → Bool) (da : A) (a b : List A) (hl : a.length ≤ 1048576) (he : a.length = b.length)
  (h : ∀ again i, 0 ≤ i → i < ((List.length a : Nat) : Int) → i < ((List.length b : Nat) : Int) → a.getD i.toNat da ∈ a → b.getD i.toNat da ∈ b → step again (mk i) = bif (!eq (a.getD i.toNat da) (b.getD i.toNat da)) then some false else again (mk (i + 1)))
  (hd : ∀ again i, ¬ i < ((List.length a : Nat) : Int) → step again (mk i) = some true) : zL step Y3 (mk 0) = some (jK eq da a b) := by
 refine (zK (step := step) mk (fun i x => !eq x (b.getD i.toNat da)) (some false) (some true) da a (by omega) (fun again i h0 h1 => ?_) hd).trans ?_
 ·rw [h again i h0 h1 (by omega) (z4 da a i h0 h1) (z4 da b i h0 (by omega)), Bool.cond_eq_ite]
 ·unfold jK
  rw [decide_eq_true he]
  cases Yo (fun i x => !eq x (b.getD i.toNat da)) a 0 <;> rfl
theorem kA {A : Type} {eq : A → A → Bool} (da : A) (a : List A) (h : ∀ x, eq x x = true) : jK eq da a a = true := by
 unfold jK
 rw [decide_eq_true rfl, Vx da a 0 fun j hj => by
  rw [show (0 + (j : Int)).toNat = j by omega, h]
  rfl]
 rfl
def eqI (x y : Int) : Bool := x == y
def eqK (x y : y7) : Bool := (x.1 == y.1) && ((x.2.1 == y.2.1) && ((x.2.2.1 == y.2.2.1) && ((x.2.2.2.1 == y.2.2.2.1) && ((x.2.2.2.2 == y.2.2.2.2) && true))))
def eqA (x y : ya) : Bool := (x.1 == y.1) && ((x.2 == y.2) && true)
def eqC (x y : y8) : Bool := (x.1 == y.1) && ((x.2.1 == y.2.1) && ((x.2.2 == y.2.2) && true))
def eqV (x y : yh) : Bool := (ByteArray.toList x.1 == ByteArray.toList y.1) && ((x.2.1 == y.2.1) && ((x.2.2.1 == y.2.2.1) && ((x.2.2.2 == y.2.2.2) && true)))
def eqS (x y : y9) : Bool := jK eqK yH x y
def eqN (x y : y0) : Bool := jK eqS yT x y
theorem yg8 (x : Int) : eqI x x = true := by simp [eqI]
theorem yg9 (x : y7) : eqK x x = true := by simp [eqK]
theorem yga (x : ya) : eqA x x = true := by simp [eqA]
theorem ygb (x : y8) : eqC x x = true := by simp [eqC]
theorem ygc (x : yh) : eqV x x = true := by simp [eqV]
theorem ygd (x : y9) : eqS x x = true := kA _ _ yg9
theorem yge (x : y0) : eqN x x = true := kA _ _ ygd
def y1h (q : List yb) (t : List y0) (l : List ya) (cs : List y8) (vs : List yh) (z : Int) (q' : List yb) (t' : List y0) (l' : List ya) (cs' : List y8) (vs' : List yh) (z' : Int) : Bool :=
 jK eqI y1y q q' && (jK eqN yi t t' && (jK eqA zq l l' && (jK eqC yN cs cs' && (jK eqV yD vs vs' && (z == z')))))
theorem y4m (q : List yb) (t : List y0) (l : List ya) (cs : List y8) (vs : List yh) (z : Int) : y1h q t l cs vs z q t l cs vs z = true := by
 unfold y1h
 rw [kA _ _ yg8, kA _ _ yge, kA _ _ yga, kA _ _ ygb, kA _ _ ygc]
 simp
theorem y2q (a b : List yb) (hl : a.length ≤ 1048576) : Jd (a, b) = some (jK eqI y1y a b) := by
 unfold Jd Vo
 by_cases he : a.length = b.length
 ·simp only [y3Y he, cond_false]
  refine vq (step := ZA _ _) (fun i => (a, b, i)) eqI y1y a b hl he (fun again i h0 h1 h2 _ _ => ?_) fun again i hi => ?_
  ·have hw : Go.IntKind.wrap .i64 (i + 1) = i + 1 := w64 (by omega) (by omega)
   unfold ZA
   simp only [decide_eq_true h1, cond_true, if_pos h0, if_pos h1, if_pos h2, hw]
   rfl
  ·unfold ZA
   simp only [decide_eq_false hi, cond_false]
 ·simp only [y3Z he, cond_true, VX _ _ he]
theorem y2r (a b : List y7) (hl : a.length ≤ 1048576) : Je (a, b) = some (jK eqK yH a b) := by
 unfold Je Vp
 by_cases he : a.length = b.length
 ·simp only [y3Y he, cond_false]
  refine vq (step := ZB _ _) (fun i => (a, b, i)) eqK yH a b hl he (fun again i h0 h1 h2 _ _ => ?_) fun again i hi => ?_
  ·have hw : Go.IntKind.wrap .i64 (i + 1) = i + 1 := w64 (by omega) (by omega)
   unfold ZB
   simp only [decide_eq_true h1, cond_true, if_pos h0, if_pos h1, if_pos h2, hw]
   rfl
  ·unfold ZB
   simp only [decide_eq_false hi, cond_false]
 ·simp only [y3Z he, cond_true, VX _ _ he]
theorem y2s (a b : List ya) (hl : a.length ≤ 1048576) : Jh (a, b) = some (jK eqA zq a b) := by
 unfold Jh Vs
 by_cases he : a.length = b.length
 ·simp only [y3Y he, cond_false]
  refine vq (step := ZE _ _) (fun i => (a, b, i)) eqA zq a b hl he (fun again i h0 h1 h2 _ _ => ?_) fun again i hi => ?_
  ·have hw : Go.IntKind.wrap .i64 (i + 1) = i + 1 := w64 (by omega) (by omega)
   unfold ZE
   simp only [decide_eq_true h1, cond_true, if_pos h0, if_pos h1, if_pos h2, hw]
   rfl
  ·unfold ZE
   simp only [decide_eq_false hi, cond_false]
 ·simp only [y3Z he, cond_true, VX _ _ he]
theorem y1M (a b : List y8) (hl : a.length ≤ 1048576) : jn (a, b) = some (jK eqC yN a b) := by
 unfold jn vJ
 by_cases he : a.length = b.length
 ·simp only [y3Y he, cond_false]
  refine vq (step := Z8 _ _) (fun i => (a, b, i)) eqC yN a b hl he (fun again i h0 h1 h2 _ _ => ?_) fun again i hi => ?_
  ·have hw : Go.IntKind.wrap .i64 (i + 1) = i + 1 := w64 (by omega) (by omega)
   unfold Z8
   simp only [decide_eq_true h1, cond_true, if_pos h0, if_pos h1, if_pos h2, hw]
   rfl
  ·unfold Z8
   simp only [decide_eq_false hi, cond_false]
 ·simp only [y3Z he, cond_true, VX _ _ he]
theorem y2t (a b : List y9) (hl : a.length ≤ 1048576) (hs : ∀ s ∈ a, List.length s ≤ 1048576) : Jf (a, b) = some (jK eqS yT a b) := by
 unfold Jf Vq
 by_cases he : a.length = b.length
 ·simp only [y3Y he, cond_false]
  refine vq (step := ZC _ _) (fun i => (i, a, b)) eqS yT a b hl he (fun again i h0 h1 h2 hm _ => ?_) fun again i hi => ?_
  ·have hw : Go.IntKind.wrap .i64 (i + 1) = i + 1 := w64 (by omega) (by omega)
   unfold ZC
   simp only [decide_eq_true h1, cond_true, if_pos h0, if_pos h1, if_pos h2, hw]
   rw [y2r (yl a i) (yl b i) (hs _ hm)]
   rfl
  ·unfold ZC
   simp only [decide_eq_false hi, cond_false]
 ·simp only [y3Z he, cond_true, VX _ _ he]
theorem y2u (q q' : List yb) (t t' : List y0) (hq : q.length ≤ 1048576) (ht : t.length ≤ 1048576) (hn : ∀ n ∈ t, List.length n ≤ 1048576 ∧ ∀ s ∈ (show List y9 from n), List.length s ≤ 1048576) : Jg (q, t, q', t') = some (jK eqI y1y q q' && jK eqN yi t t') := by
 unfold Jg Vr
 simp only [y2q q q' hq, Option.bind_some]
 cases jK eqI y1y q q' with
 | false => rfl
 | true =>
  simp only [Bool.not_true, cond_false, Option.bind_some, Bool.true_and]
  by_cases he : t.length = t'.length
  ·simp only [y3Y he, cond_false]
   refine vq (step := ZD _ _) (fun i => (i, q, t, q', t')) eqN yi t t' ht he (fun again i h0 h1 h2 hm _ => ?_) fun again i hi => ?_
   ·have hw : Go.IntKind.wrap .i64 (i + 1) = i + 1 := w64 (by omega) (by omega)
    unfold ZD
    simp only [decide_eq_true h1, cond_true, if_pos h0, if_pos h1, if_pos h2, hw]
    rw [y2t (yd t i) (yd t' i) (hn _ hm).1 (hn _ hm).2]
    rfl
   ·unfold ZD
    simp only [decide_eq_false hi, cond_false]
  ·simp only [y3Z he, cond_true, VX _ _ he]
section
variable {q : List yb} {t : List y0} {l : List ya} {cs : List y8} {vs : List yh} (z : Int) (hs : small q t l cs vs) (q' : List yb) (t' : List y0) (l' : List ya) (cs' : List y8) (vs' : List yh) (z' : Int)
include hs
theorem y2v : ZG (q, t, l, cs, vs, z, q', t', l', cs', vs', z') = some (y1h q t l cs vs z q' t' l' cs' vs' z') := by
 have hv : vs.length ≤ 1048576 := hs.2.2.2.2.2
 have loop : vs.length = vs'.length → kp (fun x8 => some x8) (fun x9 => some true) ((0 : Int), q, t, l, cs, vs, z, q', t', l', cs', vs', z') = some (jK eqV yD vs vs') := by
  intro he
  unfold kp
  refine vq (step := ZF _ _) (fun i => (i, q, t, l, cs, vs, z, q', t', l', cs', vs', z')) eqV yD vs vs' hv he (fun again i h0 h1 h2 _ _ => ?_) fun again i hi => ?_
  ·have hw : Go.IntKind.wrap .i64 (i + 1) = i + 1 := w64 (by omega) (by omega)
   unfold ZF
   simp only [decide_eq_true h1, cond_true, if_pos h0, if_pos h1, if_pos h2, hw]
   rfl
  ·unfold ZF
   simp only [decide_eq_false hi, cond_false]
 unfold ZG y1h
 simp only [y2u q q' t t' hs.1 hs.2.1 (fun n hn => Kr hs.2.2.1 hn), y2s l l' hs.2.2.2.1, y1M cs cs' hs.2.2.2.2.1, Option.bind_some]
 cases jK eqI y1y q q' <;> cases jK eqN yi t t' <;> try rfl
 cases jK eqA zq l l' <;> cases jK eqC yN cs cs' <;> try rfl
 by_cases he : vs.length = vs'.length
 ·simp only [y3Y he, loop he]
  cases hz : z == z'
  ·simp [bne, hz]
  ·simp [bne, hz]
 ·simp only [y3Z he, VX _ _ he]
  rfl
end
end Go.Proofs.YtjllpipmaejeoaaGreat.Pl
namespace Go.Proofs.YtjllpipmaejeoaaGreat.Pl
open Go.Proofs.YtjllpipmaejeoaaGreat.R Go.Proofs.YtjllpipmaejeoaaGreat.XR
theorem ye7 (x : List Int) (i : Int) (hb : isBytes x) (hx : x.length ≤ 1048576) (h0 : 0 ≤ i) (h1 : i ≤ 1000) : ∃ v, w8 (x, i) = some v ∧ 0 ≤ v ∧ v < 256 := by
 unfold w8
 simp only [Bool.cond_eq_ite, decide_eq_true_eq]
 by_cases h : i < (x.length : Int)
 ·rw [if_pos h, if_pos h0, if_pos h, yvu, yq6 hb]
  exact ⟨_, rfl, yaG hb i⟩
 ·rw [if_neg h, w64 (n := i * 31) (by omega) (by omega), w64 (n := (x.length : Int) * 7) (by omega) (by omega), w64 (n := i * 31 + (x.length : Int) * 7) (by omega) (by omega), Int.tmod_eq_emod_of_nonneg (by omega)]
  exact ⟨_, rfl, by omega, by omega⟩
theorem y4n (x : List Int) (hx : x.length ≤ 1048576) : ∃ q t l cs vs z o, J0 x = some (q, t, l, cs, vs, z, o) ∧ yr q t l cs vs z = true := by
 obtain ⟨s0, e0⟩ := yq5 x (by omega)
 obtain ⟨m, e1, m0, m1⟩ := yk4 x 30 (by omega) (by omega)
 obtain ⟨q, t, l, cs, vs, z, p3, s3, e3, h3, hp⟩ := ya0 x 0 s0 (8 + m) (yAw x (by omega)) (by omega) (by omega)
 obtain ⟨k, n, y, a, b, p4, s4, e4, h4, _⟩ := yqd x p3 s3 h3
 unfold J0
 rw [e0]
 simp only [e1, Option.bind_some]
 rw [w64 (n := 8 + m) (by omega) (by omega), e3]
 simp only [e4, Option.bind_some]
 exact ⟨_, _, _, _, _, _, _, rfl, hp⟩
section
variable {x : List Int} {i b r7 z z' : Int} {q q' : List yb} {t t' : List y0} {l l' : List ya} {cs cs' : List y8} {vs vs' : List yh} {v1 : ByteArray} {v2 v3 : Int} {v4 : Bool}
def ye8 (r7 i b : Int) (q q' : List yb) (t t' : List y0) (l l' : List ya) (cs cs' : List y8) (vs vs' : List yh) (z z' : Int) (k j : Int) : Prop :=
 ∃ u w, Y7 (q, t, l, cs, vs, z, (yc vs k).1, j) = some (u, 0) ∧ Y7 (q', t', l', cs', vs', z', (yc vs k).1, j) = some (w, 0) ∧ (k = i ∧ j = b → w = r7) ∧ (k ≠ i ∨ j ≠ b → u = w)
theorem ya5 {R : Type} (h4 : w8 (x, 4) = some r7) (k : Int) (k0 : 0 ≤ k) (k1 : k < (vs.length : Int)) (hs : (yc vs k).2.2.1 ≤ 12) (hg : ∀ j, 0 ≤ j → j < (yc vs k).2.2.1 → ye8 r7 i b q q' t t' l l' cs cs' vs vs' z z' k j) (c0 : _ → Option R) (c1 : _ → Option R) :
  kq c0 c1 (x, i, b, k, 0, q, t, l, cs, vs, z, v1, v2, v3, v4, q', t', l', cs', vs', z') = c1 (x, i, b, k, q, t, l, cs, vs, z, v1, v2, v3, v4, q', t', l', cs', vs', z') := by
 unfold kq
 refine kY (step := JG c0 c1) (fun u : JF => (13 - u.2.2.2.2.1).toNat) (fun u => ∃ j, u = (x, i, b, k, j, q, t, l, cs, vs, z, v1, v2, v3, v4, q', t', l', cs', vs', z') ∧ 0 ≤ j ∧ j ≤ 12) (fun _ res => res = c1 (x, i, b, k, q, t, l, cs, vs, z, v1, v2, v3, v4, q', t', l', cs', vs', z')) ?_ _ ⟨0, rfl, Int.le_refl _, by omega⟩ (by simp only; omega)
 rintro again _ ⟨j, rfl, j0, j1⟩ hag
 unfold JG
 simp only [if_pos k0, if_pos k1]
 cases hj : decide (j < (yc vs k).2.2.1) with
 | false => rfl
 | true =>
  have hj := of_decide_eq_true hj
  obtain ⟨u, w, e1, e2, e3, e4⟩ := hg j j0 hj
  simp only [cond_true, e1, e2, Option.bind_some, h4, show ((0 : Int) != 0) = false from rfl, cond_false]
  have hw : Go.IntKind.wrap .i64 (j + 1) = j + 1 := w64 (by omega) (by omega)
  have fin := hag (x, i, b, k, j + 1, q, t, l, cs, vs, z, v1, v2, v3, v4, q', t', l', cs', vs', z') ⟨j + 1, rfl, by omega, by omega⟩ (by simp only; omega)
  rw [hw]
  by_cases hki : k = i
  ·by_cases hjb : j = b
   ·have := e3 ⟨hki, hjb⟩
    subst this hki hjb
    simp only [beq_self_eq_true, bne_self_eq_false, cond_true, cond_false, Option.bind_some]
    exact fin
   ·have := e4 (.inr hjb)
    subst this hki
    simp only [beq_self_eq_true, bne_self_eq_false, cond_true, cond_false, Option.bind_some, beq_eq_false_iff_ne.2 hjb, bne_iff_ne.2 hjb]
    exact fin
  ·have := e4 (.inl hki)
   subst this
   simp only [bne_self_eq_false, cond_true, cond_false, Option.bind_some, beq_eq_false_iff_ne.2 hki, bne_iff_ne.2 hki]
   exact fin
theorem ya6 {R : Type} (h4 : w8 (x, 4) = some r7) (hv : vs.length ≤ 6) (hs : ∀ k, 0 ≤ k → k < (vs.length : Int) → (yc vs k).2.2.1 ≤ 12) (hg : ∀ k j, 0 ≤ k → k < (vs.length : Int) → 0 ≤ j → j < (yc vs k).2.2.1 → ye8 r7 i b q q' t t' l l' cs cs' vs vs' z z' k j) (c0 : _ → Option R) (c1 : _ → Option R) :
  kr c0 c1 (x, i, b, 0, q, t, l, cs, vs, z, v1, v2, v3, v4, q', t', l', cs', vs', z') = c1 (b, v1, v2, v3, v4, q', t', l', cs', vs', z') := by
 unfold kr
 refine kY (step := JI c0 c1) (fun u : JH => (7 - u.2.2.2.1).toNat) (fun u => ∃ k, u = (x, i, b, k, q, t, l, cs, vs, z, v1, v2, v3, v4, q', t', l', cs', vs', z') ∧ 0 ≤ k ∧ k ≤ 6) (fun _ res => res = c1 (b, v1, v2, v3, v4, q', t', l', cs', vs', z')) ?_ _ ⟨0, rfl, Int.le_refl _, by omega⟩ (by simp only; omega)
 rintro again _ ⟨k, rfl, k0, k1⟩ hag
 unfold JI
 simp only []
 cases hk : decide (k < (List.length vs : Int)) with
 | false => rfl
 | true =>
  have hk := of_decide_eq_true hk
  rw [cond_true, ya5 h4 k k0 hk (hs k k0 hk) (fun j j0 j1 => hg k j k0 hk j0 j1)]
  have hw : Go.IntKind.wrap .i64 (k + 1) = k + 1 := w64 (by omega) (by omega)
  simp only [hw]
  exact hag (x, i, b, k + 1, q, t, l, cs, vs, z, v1, v2, v3, v4, q', t', l', cs', vs', z') ⟨k + 1, rfl, by omega, by omega⟩ (by simp only; omega)
end
theorem y59 {q : List yb} {t : List y0} {l : List ya} {cs : List y8} {vs : List yh} (z : Int) (h : SP q t l cs vs) : ZG (q, t, l, cs, vs, z, q, t, l, cs, vs, z) = some true := by
 rw [y2v z h.S, y4m]
theorem law_Reads (x : List Int) (hbx : isBytes x) : Zi x = some true := by
 unfold Zi QA
 simp only [Option.bind_some]
 cases hbig : decide ((List.length x : Int) > (1048576 : Int)) with
 | true => rfl
 | false =>
  have hx : x.length ≤ 1048576 := by
   have := of_decide_eq_false hbig
   omega
  obtain ⟨q, t, l, cs, vs, z, o, e, hp⟩ := y4n x hx
  have h := (y0s hp).sp
  have hr := y1g hp
  obtain ⟨r5, e5, a5, _⟩ := ye7 x 2 hbx hx (by omega) (by omega)
  obtain ⟨r6, e6, a6, _⟩ := ye7 x 3 hbx hx (by omega) (by omega)
  obtain ⟨r7, e7, a7, b7⟩ := ye7 x 4 hbx hx (by omega) (by omega)
  simp only [e, e5, e6, e7, Option.bind_some, cond_false]
  by_cases hv : vs.length = 0
  ·have hv0 : vs = [] := List.length_eq_zero_iff.1 hv
   subst hv0
   have hrd : Y7 (q, t, l, cs, [], z, { data := #[97] }, (0 : Int)) = some (0, 2) := by
    unfold Y7
    simp only [ZI z h { data := #[97] } (by decide), Option.bind_some, Bool.false_eq_true, if_false]
    have hc : yc7 q t l cs [] z { data := #[97] } 0 = 2 := by
     unfold yc7
     rw [if_pos ⟨hp, by decide⟩]
     rfl
    rw [hc]
    rfl
   simp only [List.length_nil, hrd, Option.bind_some]
   rfl
  ·have hlen : ((List.length vs : Int) == (0 : Int)) = false := beq_eq_false_iff_ne.2 (by omega)
   have hm : Int.tmod r5 (List.length vs : Int) = ((r5 % (List.length vs : Int)).toNat : Nat) := by
    rw [Int.tmod_eq_emod_of_nonneg a5]
    have := Int.emod_nonneg r5 (show (List.length vs : Int) ≠ 0 by omega)
    omega
   have hi : (r5 % (List.length vs : Int)).toNat < vs.length := by
    have := Int.emod_lt_of_pos r5 (show (0 : Int) < (List.length vs : Int) by omega)
    have := Int.emod_nonneg r5 (show (List.length vs : Int) ≠ 0 by omega)
    omega
   rw [hm]
   generalize (r5 % (List.length vs : Int)).toNat = i at hi
   have hs := hr.size i hi
   have h0 : (0 : Int) ≤ (i : Int) := by omega
   have h1 : (i : Int) < (List.length vs : Int) := by omega
   have hb0 : 0 ≤ Int.tmod r6 (vs.getD i yD).2.2.1 ∧ Int.tmod r6 (vs.getD i yD).2.2.1 < (vs.getD i yD).2.2.1 := by
    rw [Int.tmod_eq_emod_of_nonneg a6]
    exact ⟨Int.emod_nonneg _ (by omega), Int.emod_lt_of_pos _ (by omega)⟩
   have hw : isW r7 = true := by
    unfold isW
    exact zo.2 ⟨a7, by omega⟩
   simp only [hlen, cond_false, if_neg (show ¬ (List.length vs : Int) = 0 by omega), if_pos h0, if_pos h1, y0f, if_neg (show ¬ (vs.getD i yD).2.2.1 = 0 by omega)]
   generalize Int.tmod r6 (vs.getD i yD).2.2.1 = b at hb0
   cases hfx : (vs.getD i yD).2.2.2 with
   | true =>
    rw [ya3 z h hp hi hb0 hfx]
    simp only [Option.bind_some, show ((5 : Int) != 0) = true from rfl, cond_true, y59 z h]
    rfl
   | false =>
    rcases ye6 z h hp hi hb0 hfx hw with ew | ⟨q', t', cs', ew, hp', els, here⟩
    ·rw [ew]
     simp only [Option.bind_some, show ((6 : Int) != 0) = true from rfl, cond_true, y59 z h]
     rfl
    ·rw [ew]
     simp only [Option.bind_some, show ((0 : Int) != 0) = false from rfl, cond_false]
     have h' := (y0s hp').sp
     have hr' := y1g hp'
     have rdv : ∀ (k : Nat) (j : Int), k < vs.length → 0 ≤ j → j < (vs.getD k yD).2.2.1 → ∀ q t cs, SP q t l cs vs → yr q t l cs vs z = true → Y7 (q, t, l, cs, vs, z, (vs.getD k yD).1, j) = some (y55 (yu t) l cs j (vs.getD k yD).2.1, 0) := by
      intro k j hk j0 j1 q t cs hS hP
      have hn := VU ((y1g hP).name k hk)
      have hva := ybc (y1g hP).srt hk
      have := yg5 z hS (vs.getD k yD).1 j (Nat.le_trans hn (by omega)) hP ((y1g hP).name k hk) (by rw [hva]; omega) (by rw [hva, y0f]; exact ⟨j0, j1⟩)
      rwa [hva, y0f] at this
     rw [ya6 (r7 := r7) e7 hr.few (fun k k0 k1 => by
      obtain ⟨m, rfl⟩ := Int.eq_ofNat_of_zero_le k0
      rw [y0f]
      exact (hr.size m (by omega)).2) fun k j k0 k1 j0 j1 => ?_]
     ·simp only [rdv i b hi hb0.1 hb0.2 _ _ _ h' hp', Option.bind_some]
      rcases ya4 z h' hp' hi hb0 hfx with ed | ⟨q2, t2, cs2, ed, hp2, gone⟩
      ·rw [ed]
       simp only [Option.bind_some, rdv i b hi hb0.1 hb0.2 _ _ _ h' hp']
       rfl
      ·rw [ed]
       simp only [Option.bind_some, rdv i b hi hb0.1 hb0.2 _ _ _ (y0s hp2).sp hp2, gone]
       rfl
     ·obtain ⟨m, rfl⟩ := Int.eq_ofNat_of_zero_le k0
      have hm : m < vs.length := by omega
      rw [y0f] at j1
      refine ⟨_, _, by rw [y0f]; exact rdv m j hm j0 j1 _ _ _ h hp, by rw [y0f]; exact rdv m j hm j0 j1 _ _ _ h' hp', fun hh => ?_, fun hh => ?_⟩
      ·have : m = i := by omega
       rw [this, hh.2]
       exact here
      ·refine (els j _ ?_).symm
       by_cases hmi : m = i
       ·rcases hh with hh | hh
        ·exact absurd (by rw [hmi]) hh
        ·exact .inl hh
       ·exact .inr (hr.off hi hm (fun he => hmi he.symm))
end Go.Proofs.YtjllpipmaejeoaaGreat.Pl
