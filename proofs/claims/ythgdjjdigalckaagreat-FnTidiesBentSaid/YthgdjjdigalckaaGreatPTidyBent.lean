/- Prune2, Move, Move2, Draw, Crc, ReadW, Four, Crc1, Draw2, Put4, Txt, PutPool, Ops, Apply, Apply2, Apply3, EntDraw, DrawP, DrawQ, Same, TidyBent. No condition. -/
import Derived.Test.YthgdjjdigalckaaGreatPTake
set_option linter.all false
namespace Go.Proofs.YthgdjjdigalckaaGreat.Pl
open Go.Proofs.YthgdjjdigalckaaGreat.R Go.Proofs.YthgdjjdigalckaaGreat.XT
theorem yfy : (((0 : Int)) == 0) = true := rfl
theorem yfz : (((0 : Int)) == 1) = false := rfl
theorem yfA : (((0 : Int)) == 2) = false := rfl
theorem yfB : (((0 : Int)) == 3) = false := rfl
theorem yfC : (((0 : Int)) == 4) = false := rfl
theorem yfD : (((1 : Int)) == 0) = false := rfl
theorem yfE : (((1 : Int)) == 1) = true := rfl
theorem yfF : (((1 : Int)) == 2) = false := rfl
theorem yfG : (((1 : Int)) == 3) = false := rfl
theorem yfH : (((1 : Int)) == 4) = false := rfl
theorem yfI : (((2 : Int)) == 0) = false := rfl
theorem yfJ : (((2 : Int)) == 1) = false := rfl
theorem yfK : (((2 : Int)) == 2) = true := rfl
theorem yfL : (((2 : Int)) == 3) = false := rfl
theorem yfM : (((2 : Int)) == 4) = false := rfl
theorem yfN : (((3 : Int)) == 0) = false := rfl
theorem yfO : (((3 : Int)) == 1) = false := rfl
theorem yfP : (((3 : Int)) == 2) = false := rfl
theorem yfQ : (((3 : Int)) == 3) = true := rfl
theorem yfR : (((3 : Int)) == 4) = false := rfl
theorem yfS : (((4 : Int)) == 0) = false := rfl
theorem yfT : (((4 : Int)) == 1) = false := rfl
theorem yfU : (((4 : Int)) == 2) = false := rfl
theorem yfV : (((4 : Int)) == 3) = false := rfl
theorem yfW : (((4 : Int)) == 4) = true := rfl
theorem yst : (((0 : Int)) != 0) = false := rfl
theorem yaS : (((0 : Int)) != 3) = true := rfl
theorem ysu : (((1 : Int)) != 0) = true := rfl
theorem yaT : (((1 : Int)) != 3) = true := rfl
theorem ysv : (((2 : Int)) != 0) = true := rfl
theorem yaU : (((2 : Int)) != 3) = true := rfl
theorem ysw : (((3 : Int)) != 0) = true := rfl
theorem yaV : (((3 : Int)) != 3) = false := rfl
theorem ysx : (((4 : Int)) != 0) = true := rfl
theorem yaW : (((4 : Int)) != 3) = true := rfl
section
variable {q : List yf} {t : List y0} {l : List yd} {cs : List y9} {vs : List ym} (z : Int) (h : SP q t l cs vs)
theorem y78 {q' : List yf} {t' : List y0} {l' : List yd} {cs' : List y9} (ok : Bool) (h' : SP q' t' l' cs' vs) : (Option.bind (bif (!ok) then some true else Option.bind (yE (q', t', l', cs', vs, z)) fun r6 => some (!r6)) fun u5 => bif u5 then some (q, t, l, cs, vs, z, false) else some (q', t', l', cs', vs, z, true)) = some (y3I (yaR (q, t, l, cs, vs, z) ((q', t', l', cs', vs, z), ok))) := by
 rw [zP z h']
 unfold yaR y9N y3I
 cases ok with
 | false => rfl
 | true =>
  simp only [Option.bind_some, Bool.not_true, cond_false, Bool.true_and]
  cases yU q' t' l' cs' vs z <;> rfl
include h
theorem y1q : zX (q, t, l, cs, vs, z) = some (y3I (y55 q t l cs vs z)) := by
 have hq := h.tq
 have hl := h.S.2.2.2.1
 have hc := h.S.2.2.2.2.1
 have hv := h.S.2.2.2.2.2
 obtain ⟨⟨step, i⟩, hn⟩ := ybJ q t l cs vs z
 have eK : yG (q, t) = some (z4 t) := zY q t (by have := hq.T.len; omega) hq.T.nodes hq.T.sum
 unfold zX
 simp only [Jd q t l cs vs z h.S, y8t q t l cs vs z hq.T hq.q hl hc hv h.N, hn, eK, Option.bind_some]
 have hp : y55 q t l cs vs z = if step = 0 then ((q, t, l, cs, vs, z), false) else yaR (q, t, l, cs, vs, z) (wv q t l cs vs z step i) := by
  unfold y55
  rw [hn]
 have erd : y8 (z4 t) i = Jf t i := rfl
 have h12 : ∀ s : Int, s = 1 ∨ s = 2 → (Option.bind (Zd (q, t, l, cs, vs, z, (Jf t i).1, (Jf t i).2.1, (Jf t i).2.2.1, (Jf t i).2.2.2.1, (Jf t i).2.2.2.2)) fun r4 => Option.bind (bif (!r4.1) then some true else Option.bind (yE (r4.2.1, r4.2.2.1, r4.2.2.2.1, r4.2.2.2.2.1, r4.2.2.2.2.2.1, r4.2.2.2.2.2.2)) fun r6 => some (!r6)) fun u5 => bif u5 then some (q, t, l, cs, vs, z, false) else some (r4.2.1, r4.2.2.1, r4.2.2.2.1, r4.2.2.2.2.1, r4.2.2.2.2.2.1, r4.2.2.2.2.2.2, true)) = some (y3I (yaR (q, t, l, cs, vs, z) (wv q t l cs vs z s i))) := by
  intro s hs
  have hT := yds z h s i
  unfold wv at hT ⊢
  rw [if_pos hs] at hT ⊢
  rw [y8v z h]
  change Option.bind (some (if (yJ q t (y1o (Jf t i))).2.2 = true then _ else _)) _ = _
  cases hr : (yJ q t (y1o (Jf t i))).2.2 with
  | false => rfl
  | true => exact y78 z true hT
 rcases ybK q t l cs vs z hn with rfl | ⟨hs, i0, i1, hk⟩ | ⟨rfl, i0, i1⟩
 ·rw [hp, if_pos rfl]
  rfl
 ·rcases hs with rfl | rfl | rfl
  ·rw [hp, if_neg (show ¬ ((1 : Int) = 0) by decide)]
   simp only [yfy, yfz, yfA, yfB, yfC, yfD, yfE, yfF, yfG, yfH, yfI, yfJ, yfK, yfL, yfM, yfN, yfO, yfP, yfQ, yfR, yfS, yfT, yfU, yfV, yfW, yst, yaS, ysu, yaT, ysv, yaU, ysw, yaV, ysx, yaW, cond_true, cond_false, erd]
   rw [if_pos i0, if_pos i1]
   exact h12 1 (.inl rfl)
  ·rw [hp, if_neg (show ¬ ((2 : Int) = 0) by decide)]
   simp only [yfy, yfz, yfA, yfB, yfC, yfD, yfE, yfF, yfG, yfH, yfI, yfJ, yfK, yfL, yfM, yfN, yfO, yfP, yfQ, yfR, yfS, yfT, yfU, yfV, yfW, yst, yaS, ysu, yaT, ysv, yaU, ysw, yaV, ysx, yaW, cond_true, cond_false, erd]
   rw [if_pos i0, if_pos i1]
   exact h12 2 (.inr rfl)
  ·rw [hp, if_neg (show ¬ ((3 : Int) = 0) by decide)]
   have hT := yds z h 3 i
   unfold wv at hT ⊢
   rw [if_neg (show ¬ ((3 : Int) = 1 ∨ (3 : Int) = 2) by decide), if_pos (show (3 : Int) = 3 from rfl)] at hT ⊢
   simp only [yfy, yfz, yfA, yfB, yfC, yfD, yfE, yfF, yfG, yfH, yfI, yfJ, yfK, yfL, yfM, yfN, yfO, yfP, yfQ, yfR, yfS, yfT, yfU, yfV, yfW, yst, yaS, ysu, yaT, ysv, yaU, ysw, yaV, ysx, yaW, cond_true, cond_false, erd]
   rw [if_pos i0, if_pos i1]
   obtain ⟨⟨a, b, c, d, e⟩, hx⟩ : ∃ x, Jf t i = x := ⟨_, rfl⟩
   rw [hx] at hk hT ⊢
   have h1 := kt (a, b, 0, 0, 0) hq
   have hone : y8m vs b = true ∧ ((Yi l b).length : Int) = 1 := by
    unfold jz ydr at hk
    rw [if_neg (show ¬ (3 : Int) = 1 by decide), if_neg (show ¬ (3 : Int) = 2 by decide)] at hk
    simp only [Bool.and_eq_true, beq_iff_eq] at hk
    exact hk.1
   have eKid : YW (q, t, l, cs, vs, z, b) = some ((Yi l b).getD 0 0) := by
    unfold YW
    simp only [kD l b hl, Qr q t l cs vs z b hv, hone.1, Bool.not_true, cond_false, Option.bind_some]
    rw [show (((List.length (Yi l b) : Nat) : Int) != 1) = false by rw [hone.2]; rfl, cond_false, if_pos (by omega), if_pos (by omega)]
    rfl
   simp only [y1o] at hT ⊢
   simp only [YH q t a b 0 0 0 hq.T hq.Q hq.q, eKid, Option.bind_some]
   rw [YH _ _ a ((Yi l b).getD 0 0) c d e h1.T h1.Q h1.q]
   simp only [Option.bind_some]
   cases (yJ q t (a, b, 0, 0, 0)).2.2 with
   | false => rfl
   | true =>
    simp only [cond_true, Option.bind_some, Bool.true_and]
    exact y78 z _ hT
 ·rw [hp, if_neg (show ¬ ((4 : Int) = 0) by decide)]
  have hT := yds z h 4 i
  unfold wv at hT ⊢
  rw [if_neg (show ¬ ((4 : Int) = 1 ∨ (4 : Int) = 2) by decide), if_neg (show ¬ (4 : Int) = 3 by decide)] at hT ⊢
  simp only [yfy, yfz, yfA, yfB, yfC, yfD, yfE, yfF, yfG, yfH, yfI, yfJ, yfK, yfL, yfM, yfN, yfO, yfP, yfQ, yfR, yfS, yfT, yfU, yfV, yfW, yst, yaS, ysu, yaT, ysv, yaU, ysw, yaV, ysx, yaW, cond_true, cond_false]
  rw [if_pos i0, if_pos i1, y4g l _ hl]
  simp only [Option.bind_some]
  exact y78 z _ hT
end
end Go.Proofs.YthgdjjdigalckaaGreat.Pl
namespace Go.Proofs.YthgdjjdigalckaaGreat.Pl
open Go.Proofs.YthgdjjdigalckaaGreat.R Go.Proofs.YthgdjjdigalckaaGreat.XT
theorem y8A {A : Type} [BEq A] [LawfulBEq A] : ∀ (l m : List A), l.Nodup → (∀ x ∈ l, x ∈ m) → l.length ≤ m.length
 | [], _, _, _ => Nat.zero_le _
 | a :: l, m, hn, hs => by
  have h1 := List.nodup_cons.1 hn
  have ha := hs a (by simp)
  have h2 := y8A l (m.erase a) h1.2 fun x hx => (List.mem_erase_of_ne (by rintro rfl; exact h1.1 hx)).2 (hs x (by simp [hx]))
  rw [List.length_erase_of_mem ha] at h2
  have := List.length_pos_of_mem ha
  simp only [List.length_cons]
  omega
def y9P (k : ya) : Bool := k.2.2.1 == 1
def vO (ks : List ya) : List Int := (ks.filter y9P).map fun k : ya => k.2.2.2.1
def VY : List y9 → Int → List Int
 | [], _ => []
 | c :: l, i => if c.2.1 = true then i :: VY l (i + 1) else VY l (i + 1)
theorem y0l : ∀ (l : List y9) (i : Int) (j : Nat), j < l.length → (l.getD j yS).2.1 = true → i + j ∈ VY l i
 | c :: l, i, 0, _, h => by
  have h' : c.2.1 = true := h
  rw [VY, if_pos h']
  simp
 | c :: l, i, j + 1, hj, h => by
  have := y0l l (i + 1) j (by simpa using hj) (by simpa using h)
  rw [show i + ((j + 1 : Nat) : Int) = i + 1 + j by omega, VY]
  split
  ·exact List.mem_cons_of_mem _ this
  ·exact this
theorem y79 : ∀ (l : List y9) (s i : Int), 0 ≤ s → s + l.length ≤ 1048576 → l.foldl VW s = s + (VY l i).length
 | [], s, _, _, _ => by simp [VY]
 | c :: l, s, i, h0, h1 => by
  simp only [List.length_cons] at h1
  rw [List.foldl_cons, VY]
  unfold VW
  split
  ·rw [w64 (by omega) (by omega)]
   have := y79 l (s + 1) (i + 1) (by omega) (by omega)
   unfold VW at this
   rw [this, List.length_cons]
   omega
  ·have := y79 l s (i + 1) h0 (by omega)
   unfold VW at this
   rw [this]
theorem y9Q : ∀ (l : List ya) (s : Int), 0 ≤ s → s + l.length ≤ 1048576 → l.foldl Qq s = s + (vO l).length
 | [], s, _, _ => by simp [vO]
 | k :: l, s, h0, h1 => by
  simp only [List.length_cons] at h1
  rw [List.foldl_cons]
  unfold Qq
  by_cases hk : (k.2.2.1 == 1) = true
  ·rw [if_pos hk, w64 (by omega) (by omega)]
   have := y9Q l (s + 1) (by omega) (by omega)
   unfold Qq at this
   rw [this]
   have hk' : y9P k = true := hk
   simp only [vO, List.filter_cons, hk', if_true, List.map_cons, List.length_cons]
   omega
  ·rw [if_neg hk]
   have := y9Q l s h0 (by omega)
   unfold Qq at this
   rw [this]
   have hk' : y9P k = false := by simpa [y9P] using hk
   simp only [vO, List.filter_cons, hk', Bool.false_eq_true, if_false]
section
variable {ks : List ya} {l : List yd} {cs : List y9} (h : kE ks l cs = true)
include h
theorem ydt : Yh (ybP ks l cs) ks 0 = false ∧ ks.foldl Qq 0 = y4b cs := by
 unfold kE at h
 simp only [Bool.and_eq_true, Bool.not_eq_true', beq_iff_eq] at h
 exact h
theorem y7a (j : Nat) (hj : j < ks.length) (hd : y9P (ks.getD j yL) = true) : (0 ≤ (ks.getD j yL).2.2.2.1 ∧ (ks.getD j yL).2.2.2.1 < (cs.length : Int) ∧ (cs.getD (ks.getD j yL).2.2.2.1.toNat yS).2.1 = true) ∧ ∀ i, i < j → y9P (ks.getD i yL) = true → (ks.getD i yL).2.2.2.1 ≠ (ks.getD j yL).2.2.2.1 := by
 have h1 := y2H yL ks 0 (ydt h).1 j hj
 unfold ybP at h1
 have hd' : ((ks.getD j yL).2.2.1 == 1) = true := hd
 simp only [hd', Bool.or_eq_false_iff, Bool.true_and, Bool.not_eq_false'] at h1
 obtain ⟨_, h2, h3⟩ := h1
 refine ⟨?_, fun i hi hdi he => ?_⟩
 ·unfold vn at h2
  split at h2
  ·rename_i hh
   simp only [Bool.and_eq_true] at hh
   have := zZ.1 hh.1
   exact ⟨this.1, by omega, hh.2.1⟩
  ·cases h2
 ·have hlen : (ks.take j).length = j := by simp; omega
  rw [show ((0 : Int) + (j : Int)).toNat = j by omega] at h3
  have h4 := y2H yL (ks.take j) 0 h3 i (by omega)
  unfold zb at h4
  have e : (ks.take j).getD i yL = ks.getD i yL := by
   rw [List.getD_eq_getElem?_getD, List.getD_eq_getElem?_getD, List.getElem?_take, if_pos hi]
  rw [e, show ((ks.getD i yL).2.2.1 == 1) = true from hdi, he] at h4
  simp at h4
theorem ydu : (vO ks).Nodup := by
 unfold vO List.Nodup
 rw [List.pairwise_map, List.pairwise_filter, List.pairwise_iff_getElem]
 intro i j hi hj hij h1 h2
 have ei : ks.getD i yL = ks[i] := by simp [hi]
 have ej : ks.getD j yL = ks[j] := by simp [hj]
 have := (y7a h j hj (by rw [ej]; exact h2)).2 i hij (by rw [ei]; exact h1)
 rw [ei, ej] at this
 exact this
theorem ydv (hk : ks.length ≤ 1048576) (hc : cs.length ≤ 1048576) {i : Int} (i0 : 0 ≤ i) (i1 : i < (cs.length : Int)) (hu : (cs.getD i.toNat yS).2.1 = true) :
  ¬ Y7 (zb i 0) ks 0 < 0 ∧ ∀ j : Nat, j < ks.length → (j : Int) ≠ Y7 (zb i 0) ks 0 → zb i 0 (ks.getD j yL) = false := by
 have hmem : i ∈ vO ks := by
  refine Classical.byContradiction fun hn => ?_
  have h1 := y8A (i :: vO ks) (VY cs 0) (List.nodup_cons.2 ⟨hn, ydu h⟩) fun x hx => by
   rcases List.mem_cons.1 hx with rfl | hx
   ·have := y0l cs 0 x.toNat (by omega) hu
    rwa [show (0 : Int) + (x.toNat : Int) = x by omega] at this
   ·obtain ⟨k, hk, rfl⟩ := List.mem_map.1 hx
    obtain ⟨hk, hd⟩ := List.mem_filter.1 hk
    obtain ⟨j, hj, rfl⟩ := List.mem_iff_getElem.1 hk
    have ej : ks.getD j yL = ks[j] := by simp [hj]
    obtain ⟨⟨a1, a2, a3⟩, _⟩ := y7a h j hj (by rw [ej]; exact hd)
    rw [ej] at a1 a2 a3
    have := y0l cs 0 (ks[j].2.2.2.1).toNat (by omega) a3
    rwa [show (0 : Int) + ((ks[j].2.2.2.1).toNat : Int) = ks[j].2.2.2.1 by omega] at this
  have h2 := (ydt h).2
  unfold y4b at h2
  rw [y9Q ks 0 (Int.le_refl _) (by omega), y79 cs 0 0 (Int.le_refl _) (by omega)] at h2
  simp only [List.length_cons] at h1
  omega
 obtain ⟨k, hk, rfl⟩ := List.mem_map.1 hmem
 obtain ⟨hk, hd⟩ := List.mem_filter.1 hk
 obtain ⟨j, hj, rfl⟩ := List.mem_iff_getElem.1 hk
 have ej : ks.getD j yL = ks[j] := by simp [hj]
 have hdj : zb (ks[j].2.2.2.1) 0 ks[j] = true := by
  unfold zb
  rw [show (ks[j].2.2.1 == 1) = true from hd]
  simp
 have hf : ¬ Y7 (zb (ks[j].2.2.2.1) 0) ks 0 < 0 := fun hneg => by
  have hall : ∀ (l : List ya) (i : Int), 0 ≤ i → Y7 (zb (ks[j].2.2.2.1) 0) l i < 0 → ∀ a ∈ l, zb (ks[j].2.2.2.1) 0 a = false := by
   intro l
   induction l with
   | nil => intro _ _ _ a ha; simp at ha
   | cons b l ih =>
    intro i hi hl a ha
    rw [Y7] at hl
    split at hl
    ·omega
    ·rename_i hb
     rcases List.mem_cons.1 ha with rfl | ha
     ·simpa using hb
     ·exact ih (i + 1) (by omega) hl a ha
  rw [hall ks 0 (Int.le_refl _) hneg _ hk] at hdj
  cases hdj
 refine ⟨hf, fun j' hj' hne => ?_⟩
 rcases wM (zb (ks[j].2.2.2.1) 0) yL ks 0 (Int.le_refl _) with h1 | ⟨h1, h2, h3⟩
 ·omega
 ·rw [Int.sub_zero] at h3
  have hkey : ∀ k : ya, zb (ks[j].2.2.2.1) 0 k = true → y9P k = true ∧ k.2.2.2.1 = ks[j].2.2.2.1 := fun k hk => by
   unfold zb at hk
   rw [Bool.and_eq_true, beq_iff_eq (a := k.2.2.2.1)] at hk
   exact hk
  cases hdup : zb (ks[j].2.2.2.1) 0 (ks.getD j' yL) with
  | false => rfl
  | true =>
   obtain ⟨a1, a2⟩ := hkey _ hdup
   obtain ⟨b1, b2⟩ := hkey _ h3
   have hm' : (Y7 (zb (ks[j].2.2.2.1) 0) ks 0).toNat < ks.length := by omega
   rcases Nat.lt_or_gt_of_ne (show j' ≠ (Y7 (zb (ks[j].2.2.2.1) 0) ks 0).toNat by omega) with hlt | hlt
   ·exact absurd (a2.trans b2.symm) ((y7a h _ hm' b1).2 j' hlt a1)
   ·exact absurd (b2.trans a2.symm) ((y7a h j' hj' a1).2 _ hlt b1)
end
theorem y4h (q : List Int) (t : List y0) (l : List yd) (cs : List y9) (vs : List ym) (z i : Int) (ht : TOk t) : ZQ (q, t, l, cs, vs, z, i) = some (if Y7 (zb i 0) (z4 t) 0 < 0 then (0, 0, 0, 0, 0) else (z4 t).getD (Y7 (zb i 0) (z4 t) 0).toNat yL) := by
 have ek : yG (q, t) = some (z4 t) := zY q t (by have := ht.len; omega) ht.nodes ht.sum
 have hk := ht.keys
 unfold ZQ KS
 simp only [ek, Option.bind_some]
 refine (ZD (step := YB _ _) (fun j => (i, j, 0, 0, 0, 0, 0, z4 t)) (zb i 0) (fun j => some ((z4 t).getD j.toNat yL)) (some (0, 0, 0, 0, 0)) yL (z4 t) (by omega) ?_ ?_).trans ?_
 ·intro again j h0 h1
  have hw : Go.IntKind.wrap .i64 (j + 1) = j + 1 := w64 (by omega) (by omega)
  unfold YB zb
  have hx : (z4 t).getD j.toNat yL = y8 (z4 t) j := rfl
  rw [hx]
  simp only [Bool.cond_eq_ite, decide_eq_true_eq, h0, h1, if_true, hw]
  cases ((y8 (z4 t) j).2.2.1 == 1) <;> cases ((y8 (z4 t) j).2.2.2.1 == i) <;> rfl
 ·intro again j hj
  unfold YB
  simp only [Bool.cond_eq_ite, decide_eq_true_eq, if_neg hj]
 ·split <;> rfl
section
variable (q : List yf) (t : List y0) (l : List yd) (cs : List y9) (vs : List ym) (z : Int)
def Qw (i : Int) : ya := (z4 t).getD (Y7 (zb i 0) (z4 t) 0).toNat yL
def vq (i : Int) : List y9 := (y9O cs (cs.getD i.toNat yS).2.2).1
def vP (i : Int) : List Int × List y0 × Bool := yJ q t ((Qw t i).1, (Qw t i).2.1, (Qw t i).2.2.1, YJ cs, ((vq cs i).getD (YJ cs).toNat yS).1)
def kY (i : Int) : PO × Bool := (((vP q t cs i).1, (vP q t cs i).2.1, l, y22 (vq cs i) i, vs, z), (vP q t cs i).2.2)
noncomputable def y1r (i : Int) : PO × Bool :=
 if yU q t l cs vs z = true ∧ 0 ≤ i ∧ i ≤ 23 ∧ (cs.getD i.toNat yS).2.1 = true ∧ ¬ YJ cs < 0 ∧ YJ cs ≤ i then yaR (q, t, l, cs, vs, z) (kY q t l cs vs z i) else ((q, t, l, cs, vs, z), false)
theorem V7 {i : Int} (h : ¬ (yU q t l cs vs z = true ∧ 0 ≤ i ∧ i ≤ 23 ∧ (cs.getD i.toNat yS).2.1 = true ∧ ¬ YJ cs < 0 ∧ YJ cs ≤ i)) : y1r q t l cs vs z i = ((q, t, l, cs, vs, z), false) := if_neg h
variable {q t l cs vs} (h : SP q t l cs vs)
include h
theorem y3K (i : Int) : SP (kY q t l cs vs z i).1.1 (kY q t l cs vs z i).1.2.1 (kY q t l cs vs z i).1.2.2.1 (kY q t l cs vs z i).1.2.2.2.1 (kY q t l cs vs z i).1.2.2.2.2.1 :=
 (kt _ h.tq).sp h h.S.2.2.2.1 (by
  have h1 := Qv (vq cs i) i
  have h2 := y3J cs (cs.getD i.toNat yS).2.2
  have h3 := h.S.2.2.2.2.1
  show (y22 (vq cs i) i).length ≤ _
  unfold vq at h1 ⊢
  omega)
theorem ydw (i : Int) : SP (y1r q t l cs vs z i).1.1 (y1r q t l cs vs z i).1.2.1 (y1r q t l cs vs z i).1.2.2.1 (y1r q t l cs vs z i).1.2.2.2.1 (y1r q t l cs vs z i).1.2.2.2.2.1 := by
 unfold y1r
 split
 ·unfold yaR
  split
  ·exact y3K z h i
  ·exact h
 ·exact h
theorem Vy (hp : yU q t l cs vs z = true) : zA cs = true ∧ kE (z4 t) l cs = true ∧ Ys q t = true := by
 unfold yU at hp
 simp only [Bool.and_eq_true] at hp
 exact ⟨hp.2.2.1, hp.2.2.2.2.2.2, hp.1⟩
omit h in
theorem y8B {cs : List y9} (hc : zA cs = true) (i : Nat) (hi : i < cs.length) : isW (cs.getD i yS).2.2 = true := by
 unfold zA at hc
 simp only [Bool.and_eq_true, Bool.not_eq_true'] at hc
 have := y2H yS cs 0 hc.1 i hi
 unfold y8a at this
 simp only [Bool.or_eq_false_iff, Bool.not_eq_false'] at this
 exact this.2.1
theorem y1M (i : Int) : zs (q, t, l, cs, vs, z, i) = some (y3I (y1r q t l cs vs z i)) := by
 have hc := h.S.2.2.2.2.1
 have hq := h.tq
 have hm : Go.IntKind.wrap .i64 ((cs.length : Int) - 1) = (cs.length : Int) - 1 := w64 (by omega) (by omega)
 have ec : yl (q, t, l, cs, vs, z) = some (q, t, l, cs, vs, z) := Jd q t l cs vs z h.S
 unfold zs
 simp only [ec, zP z h, Yr, hm, Option.bind_some]
 cases hp : yU q t l cs vs z with
 | false =>
  rw [V7 _ _ _ _ _ _ fun hh => by rw [hp] at hh; exact Bool.noConfusion hh.1]
  rfl
 | true =>
  obtain ⟨hcs, hfit, htr⟩ := Vy z h hp
  have h24 := y76 hcs
  simp only [Bool.not_true, cond_false, Option.bind_some]
  cases hi : inR i 0 ((cs.length : Int) - 1) with
  | false =>
   rw [V7 _ _ _ _ _ _ fun hh => by
    rw [zZ.2 ⟨hh.2.1, by have := hh.2.2.1; omega⟩] at hi
    cases hi]
   rfl
  | true =>
   obtain ⟨i0, i1⟩ := zZ.1 hi
   have i2 : i < (cs.length : Int) := by omega
   have hrd : yj cs i = cs.getD i.toNat yS := rfl
   simp only [Bool.not_true, cond_false, if_pos i0, if_pos i2, hrd, Option.bind_some]
   cases hu : (cs.getD i.toNat yS).2.1 with
   | false =>
    rw [V7 _ _ _ _ _ _ fun hh => by rw [hu] at hh; exact Bool.noConfusion hh.2.2.2.1]
    rfl
   | true =>
    have hw := y8B hcs i.toNat (by omega)
    obtain ⟨hf, _⟩ := ydv hfit hq.T.keys (by omega) i0 i2 hu
    simp only [Bool.not_true, cond_false, y4h q t l cs vs z i hq.T, y25 cs _ hc, Option.bind_some, if_neg hf]
    by_cases hfree : YJ cs < 0
    ·rw [V7 _ _ _ _ _ _ fun hh => hh.2.2.2.2.1 hfree, y1p fun hh => hh.2.2 hfree]
     rfl
    ·obtain ⟨f0, f1, f2⟩ := y77 hfree
     have htk := y2O ⟨hcs, hw, hfree⟩
     have hcm : vq cs i = cs.set (YJ cs).toNat ((cs.getD (YJ cs).toNat yS).1, true, (cs.getD i.toNat yS).2.2) := by
      unfold vq
      rw [htk]
     rw [htk, ← hcm]
     have hcl : (vq cs i).length = cs.length := by
      unfold vq
      exact y3J _ _
     simp only [Bool.not_true, cond_false, Option.bind_some]
     by_cases hgt : YJ cs > i
     ·rw [decide_eq_true hgt, cond_true, V7 _ _ _ _ _ _ fun hh => by have := hh.2.2.2.2.2; omega]
      rfl
     ·rw [decide_eq_false hgt, cond_false, if_pos f0, if_pos (by omega)]
      have hmk : y1r q t l cs vs z i = yaR (q, t, l, cs, vs, z) (kY q t l cs vs z i) := if_pos ⟨hp, i0, by omega, hu, hfree, by omega⟩
      rw [hmk]
      have hcell : yj (vq cs i) (YJ cs) = (vq cs i).getD (YJ cs).toNat yS := rfl
      have hput := YH q t (Qw t i).1 (Qw t i).2.1 (Qw t i).2.2.1 (YJ cs) ((vq cs i).getD (YJ cs).toNat yS).1 hq.T hq.Q hq.q
      have hSP := y3K z h i
      have hpo : yE (kY q t l cs vs z i).1 = some (y9N (kY q t l cs vs z i).1) := zP z hSP
      simp only [hcell, show (z4 t).getD (Y7 (zb i 0) (z4 t) 0).toNat yL = Qw t i from rfl]
      rw [hput]
      simp only [Option.bind_some, ji (vq cs i) i (by omega)]
      unfold yaR
      cases hok : (kY q t l cs vs z i).2 with
      | false =>
       have hok' : (vP q t cs i).2.2 = false := hok
       unfold vP at hok'
       rw [hok']
       rfl
      | true =>
       have hok' : (vP q t cs i).2.2 = true := hok
       unfold vP at hok'
       rw [hok']
       simp only [Bool.not_true, cond_false]
       refine Eq.trans (congrArg (fun o => Option.bind (Option.bind o fun r12 => some (!r12)) _) hpo) ?_
       cases hb : y9N (kY q t l cs vs z i).1 <;> rfl
end
end Go.Proofs.YthgdjjdigalckaaGreat.Pl
namespace Go.Proofs.YthgdjjdigalckaaGreat.Pl
open Go.Proofs.YthgdjjdigalckaaGreat.R Go.Proofs.YthgdjjdigalckaaGreat.XT
theorem ykz (i : Int) (k : ya) : (bif (k.2.2.1 == (1 : Int)) then some (k.2.2.2.1 == i) else some false) = some (zb i 0 k) := by
 unfold zb
 cases (k.2.2.1 == 1) <;> rfl
section
variable {q : List yf} {t : List y0} {l : List yd} {cs : List y9} {vs : List ym} (z : Int) (h : SP q t l cs vs)
include h
theorem Qx (i : Int) : YF (q, t, l, cs, vs, z, i) = some (y3I (y1r q t l cs vs z i)) := by
 have hc := h.S.2.2.2.2.1
 have hq := h.tq
 have ec : yY (q, t, l, cs, vs, z) = some (q, t, l, cs, vs, z) := Kf q t l cs vs z h.S
 have ek : Yd (q, t) = some (z4 t) := qv q t (by have := hq.T.len; omega) hq.T.nodes hq.T.sum
 unfold YF
 simp only [y07 cs hc, ec, V6 z h, Z6, Option.bind_some]
 cases hp : yU q t l cs vs z with
 | false =>
  rw [V7 _ _ _ _ _ _ fun hh => by rw [hp] at hh; exact Bool.noConfusion hh.1]
  rfl
 | true =>
  obtain ⟨hcs, hfit, htr⟩ := Vy z h hp
  have h24 := y76 hcs
  simp only [Bool.not_true, cond_false, Option.bind_some]
  cases hi : inR i 0 23 with
  | false =>
   rw [V7 _ _ _ _ _ _ fun hh => by
    rw [zZ.2 ⟨hh.2.1, hh.2.2.1⟩] at hi
    cases hi]
   rfl
  | true =>
   obtain ⟨i0, i1⟩ := zZ.1 hi
   have i2 : i < (cs.length : Int) := by omega
   have hrd : yj cs i = cs.getD i.toNat yS := rfl
   simp only [Bool.not_true, cond_false, if_pos i0, if_pos i2, hrd, Option.bind_some]
   cases hu : (cs.getD i.toNat yS).2.1 with
   | false =>
    rw [V7 _ _ _ _ _ _ fun hh => by rw [hu] at hh; exact Bool.noConfusion hh.2.2.2.1]
    rfl
   | true =>
    have hw := y8B hcs i.toNat (by omega)
    obtain ⟨hf, huq⟩ := ydv hfit hq.T.keys (by omega) i0 i2 hu
    simp only [Bool.not_true, cond_false, Option.bind_some]
    by_cases hfree : YJ cs < 0
    ·rw [V7 _ _ _ _ _ _ fun hh => hh.2.2.2.2.1 hfree]
     simp only [decide_eq_true hfree, cond_true, Option.bind_some]
     rfl
    ·simp only [decide_eq_false hfree, cond_false, Option.bind_some]
     by_cases hgt : YJ cs > i
     ·rw [decide_eq_true hgt, cond_true, V7 _ _ _ _ _ _ fun hh => by have := hh.2.2.2.2.2; omega]
      rfl
     ·obtain ⟨f0, f1, f2⟩ := y77 hfree
      have htk := y2O ⟨hcs, hw, hfree⟩
      have hcm : vq cs i = cs.set (YJ cs).toNat ((cs.getD (YJ cs).toNat yS).1, true, (cs.getD i.toNat yS).2.2) := by
       unfold vq
       rw [htk]
      have hcl : (vq cs i).length = cs.length := by
       unfold vq
       exact y3J _ _
      have hmk : y1r q t l cs vs z i = yaR (q, t, l, cs, vs, z) (kY q t l cs vs z i) := if_pos ⟨hp, i0, by omega, hu, hfree, by omega⟩
      rw [decide_eq_false hgt, cond_false, hmk]
      simp only [y24 cs _ hc, htk, ← hcm, ek, Option.bind_some]
      have hkl := hq.T.keys
      have hput := y3E q t (Qw t i).1 (Qw t i).2.1 (Qw t i).2.2.1 (YJ cs) ((vq cs i).getD (YJ cs).toNat yS).1 hq.T hq.Q hq.q
      have hSP := y3K z h i
      have hpo : Yc (kY q t l cs vs z i).1 = some (y9N (kY q t l cs vs z i).1) := V6 z hSP
      have hfr := y23 (vq cs i) i (by omega)
      have hm1 := wM (zb i 0) yL (z4 t) 0 (Int.le_refl _)
      have hkey : y8 (z4 t) (Y7 (zb i 0) (z4 t) 0) = Qw t i := rfl
      generalize Y7 (zb i 0) (z4 t) 0 = m at *
      obtain ⟨m0, m1, m2⟩ : 0 ≤ m ∧ m < ((z4 t).length : Int) ∧ zb i 0 ((z4 t).getD m.toNat yL) = true := by
       rcases hm1 with h1 | ⟨h1, h2, h3⟩
       ·omega
       ·rw [Int.sub_zero] at h3
        exact ⟨h1, by omega, h3⟩
      unfold Vp
      refine Yo (step := Zv _ _ _ _) (fun x : Jx => (z4 t).length - (match x with | .inl x => x.2.2.2.1.toNat | .inr x => x.2.2.2.1.toNat))
       (fun x => (∃ j : Int, x = .inl (i, YJ cs, ((z4 t).length : Int), j, q, t, l, cs, vs, z, 0, z, vq cs i, z4 t, q, t, l, cs, vs) ∧ 0 ≤ j ∧ j ≤ m) ∨ (∃ j : Int, x = .inr (i, YJ cs, ((z4 t).length : Int), j, q, t, l, cs, vs, z, 0, (vP q t cs i).1, (vP q t cs i).2.1, z, vq cs i, z4 t, l, cs, vs) ∧ m < j ∧ j ≤ ((z4 t).length : Int) ∧ (vP q t cs i).2.2 = true))
       (fun _ => some (y3I (yaR (q, t, l, cs, vs, z) (kY q t l cs vs z i)))) ?_ _ (.inl ⟨0, rfl, Int.le_refl _, m0⟩) (by simp only; omega)
      rintro again x hinv hag
      have hstep : ∀ j : Int, 0 ≤ j → j < ((z4 t).length : Int) → Go.IntKind.wrap .i64 (j + 1) = j + 1 ∧ (bif ((y8 (z4 t) j).2.2.1 == (1 : Int)) then some ((y8 (z4 t) j).2.2.2.1 == i) else some false) = some (decide (j = m)) := fun j j0 j1 => by
       refine ⟨w64 (by omega) (by omega), ?_⟩
       rw [ykz]
       by_cases hjm : j = m
       ·rw [decide_eq_true hjm, hjm]
        exact congrArg some m2
       ·have := huq j.toNat (by omega) (by omega)
        rw [decide_eq_false hjm]
        exact congrArg some this
      rcases hinv with ⟨j, rfl, j0, j1⟩ | ⟨j, rfl, j0, j1, hok⟩
      ·obtain ⟨hw2, hdup⟩ := hstep j j0 (by omega)
       unfold Zv
       simp only [decide_eq_true (show j < ((z4 t).length : Int) by omega), cond_true, if_pos j0, if_pos (show j < ((z4 t).length : Int) by omega), hdup, hw2, Option.bind_some]
       by_cases hjm : j = m
       ·subst hjm
        rw [decide_eq_true rfl, cond_true, if_pos f0, if_pos (by omega), hkey]
        have hcell : yj (vq cs i) (YJ cs) = (vq cs i).getD (YJ cs).toNat yS := rfl
        rw [hcell, hput]
        simp only [Option.bind_some, ec]
        cases hok : (vP q t cs i).2.2 with
        | false =>
         have hok' := hok
         unfold vP at hok'
         rw [hok', Bool.not_false, cond_true]
         unfold yaR
         rw [if_neg (by
          show ¬ ((vP q t cs i).2.2 && _) = true
          rw [hok]
          simp)]
         rfl
        | true =>
         have hok' := hok
         unfold vP at hok'
         rw [hok', Bool.not_true, cond_false]
         exact hag _ (.inr ⟨j + 1, rfl, by omega, by omega, hok⟩) (by simp only; omega)
       ·rw [decide_eq_false hjm, cond_false]
        exact hag _ (.inl ⟨j + 1, rfl, by omega, by omega⟩) (by simp only; omega)
      ·unfold Zv
       by_cases hj : j < ((z4 t).length : Int)
       ·obtain ⟨hw2, hdup⟩ := hstep j (by omega) hj
        simp only [decide_eq_true hj, cond_true, if_pos (show 0 ≤ j by omega), if_pos hj, hdup, hw2, Option.bind_some]
        rw [decide_eq_false (show ¬ j = m by omega), cond_false]
        exact hag _ (.inr ⟨j + 1, rfl, by omega, by omega, hok⟩) (by simp only; omega)
       ·simp only [decide_eq_false hj, cond_false, hfr, Option.bind_some]
        unfold yaR
        rw [show (kY q t l cs vs z i).2 = true from hok]
        refine Eq.trans (congrArg (fun o => Option.bind o _) hpo) ?_
        cases hb : y9N (kY q t l cs vs z i).1 with
        | false =>
         simp only [Option.bind_some, Bool.not_false, cond_true, ec]
         rfl
        | true => rfl
end
def y3L (cs : List y9) : Nat → Int
 | 0 => -1
 | n + 1 => if (cs.getD n yS).2.1 = true then (n : Int) else y3L cs n
theorem y8C (p : PO) (hc : p.2.2.2.1.length ≤ 1048576) : JZ p = some (y3L p.2.2.2.1 p.2.2.2.1.length) := by
 obtain ⟨q, t, l, cs, vs, z⟩ := p
 have hm : Go.IntKind.wrap .i64 ((cs.length : Int) - 1) = (cs.length : Int) - 1 := w64 (by simp only at hc; omega) (by simp only at hc; omega)
 unfold JZ qt
 simp only at hc ⊢
 rw [hm]
 refine (Yo (step := ws _) (fun x : wq => (x.1 + 1).toNat) (fun x => ∃ j : Int, x = (j, q, t, l, cs, vs, z) ∧ -1 ≤ j ∧ j < (cs.length : Int)) (fun x => some (y3L cs (x.1 + 1).toNat)) ?_ _ ⟨_, rfl, by omega, by omega⟩ (by simp only; omega)).trans ?_
 ·rintro again x ⟨j, rfl, j0, j1⟩ hag
  unfold ws
  by_cases hj : j ≥ 0
  ·have hw : Go.IntKind.wrap .i64 (j - 1) = j - 1 := w64 (by omega) (by omega)
   have hrd : yj cs j = cs.getD j.toNat yS := rfl
   simp only [decide_eq_true hj, cond_true, if_pos (show 0 ≤ j from hj), if_pos j1, hrd, hw, Option.bind_some]
   rw [show (j + 1).toNat = j.toNat + 1 by omega, y3L]
   cases hu : (cs.getD j.toNat yS).2.1 with
   | true =>
    simp only [Bool.not_true, cond_false, if_true]
    rw [show ((j.toNat : Nat) : Int) = j by omega]
   | false =>
    simp only [Bool.not_false, cond_true, Bool.false_eq_true, if_false]
    rw [hag _ ⟨j - 1, rfl, by omega, by omega⟩ (by simp only; omega), show (j - 1 + 1).toNat = j.toNat by omega]
  ·simp only [decide_eq_false hj, cond_false, Option.bind_some]
   rw [show (j + 1).toNat = 0 by omega, show j = -1 by omega]
   rfl
 ·rw [show ((cs.length : Int) - 1 + 1).toNat = cs.length by omega]
theorem y1N (cs : List y9) (hc : cs.length ≤ 1048576) : ZC cs = some (y3L cs cs.length) := by
 have hm : Go.IntKind.wrap .i64 ((cs.length : Int) - 1) = (cs.length : Int) - 1 := w64 (by omega) (by omega)
 unfold ZC Vv
 rw [hm]
 refine (Yo (step := Jz _ _) (fun x : Jy => (x.2 + 1).toNat) (fun x => ∃ j : Int, x = (cs, j) ∧ -1 ≤ j ∧ j < (cs.length : Int)) (fun x => some (y3L cs (x.2 + 1).toNat)) ?_ _ ⟨_, rfl, by omega, by omega⟩ (by simp only; omega)).trans ?_
 ·rintro again x ⟨j, rfl, j0, j1⟩ hag
  unfold Jz
  by_cases hj : j ≥ 0
  ·have hw : Go.IntKind.wrap .i64 (j - 1) = j - 1 := w64 (by omega) (by omega)
   have hrd : yj cs j = cs.getD j.toNat yS := rfl
   simp only [decide_eq_true hj, cond_true, if_pos (show 0 ≤ j from hj), if_pos j1, hrd, hw]
   rw [show (j + 1).toNat = j.toNat + 1 by omega, y3L]
   cases hu : (cs.getD j.toNat yS).2.1 with
   | true =>
    simp only [cond_true, if_true]
    rw [show ((j.toNat : Nat) : Int) = j by omega]
   | false =>
    simp only [cond_false, Bool.false_eq_true, if_false]
    rw [hag _ ⟨j - 1, rfl, by omega, by omega⟩ (by simp only; omega), show (j - 1 + 1).toNat = j.toNat by omega]
  ·simp only [decide_eq_false hj, cond_false]
   rw [show (j + 1).toNat = 0 by omega]
   rfl
 ·rw [show ((cs.length : Int) - 1 + 1).toNat = cs.length by omega]
def SPm (p : PO) : Prop := SP p.1 p.2.1 p.2.2.1 p.2.2.2.1 p.2.2.2.2.1
noncomputable def mvP (p : PO) : PO × Bool := y1r p.1 p.2.1 p.2.2.1 p.2.2.2.1 p.2.2.2.2.1 p.2.2.2.2.2 (y3L p.2.2.2.1 p.2.2.2.1.length)
noncomputable def ybL : Nat → PO → PO
 | 0, p => p
 | m + 1, p => if (mvP p).2 = true then ybL m (mvP p).1 else p
theorem yhB {p : PO} (h : SPm p) : SPm (mvP p).1 := ydw p.2.2.2.2.2 h _
theorem ydx : ∀ (m : Nat) (p : PO), SPm p → SPm (ybL m p)
 | 0, p, h => h
 | m + 1, p, h => by
  unfold ybL
  split
  ·exact ydx m _ (yhB h)
  ·exact h
theorem y56 {R : Type} (a b : PO → Option R) (i : Int) (p : PO) (again : Int → PO → Option R) (i0 : 0 ≤ i) (i1 : i ≤ 24) (hp : SPm p) (f : PO → R) (ha0 : ∀ p, a p = some (f p)) (hb0 : ∀ p, b p = some (f p))
  (ha : ∀ p', SPm p' → i < 24 → again (i + 1) p' = some (f (ybL (24 - (i + 1).toNat) p'))) :
  (bif (decide (i < (24 : Int))) then (bif (!(mvP p).2) then a p else again (Go.IntKind.wrap .i64 (i + (1 : Int))) (mvP p).1) else b p) = some (f (ybL (24 - i.toNat) p)) := by
 by_cases hi : i < 24
 ·have hw : Go.IntKind.wrap .i64 (i + 1) = i + 1 := w64 (by omega) (by omega)
  rw [decide_eq_true hi, cond_true, hw, show 24 - i.toNat = (24 - (i + 1).toNat) + 1 by omega, ybL]
  cases hb : (mvP p).2 with
  | false => exact ha0 p
  | true => exact ha _ (yhB hp) hi
 ·rw [decide_eq_false hi, cond_false, show 24 - i.toNat = 0 by omega]
  exact hb0 p
abbrev M2 : Type := Int × Int × Int × List yf × List y0 × List yd × List y9 × List ym
abbrev M3 : Type := Int × Int × List yf × List y0 × Int × List yd × List y9 × List ym
def mP (x : M2) : PO := (x.2.2.2.1, x.2.2.2.2.1, x.2.2.2.2.2.1, x.2.2.2.2.2.2.1, x.2.2.2.2.2.2.2, x.2.2.1)
def mI : M2 ⊕ M3 → Int
 | .inl x => x.1
 | .inr x => x.1
def mQ : M2 ⊕ M3 → PO
 | .inl x => mP x
 | .inr x => (x.2.2.1, x.2.2.2.1, x.2.2.2.2.2.1, x.2.2.2.2.2.2.1, x.2.2.2.2.2.2.2, x.2.2.2.2.1)
theorem y3M (p : PO) (h : SPm p) : w7 p = some (ybL 24 p) := by
 have ec : yl p = some p := Jd p.1 p.2.1 p.2.2.1 p.2.2.2.1 p.2.2.2.2.1 p.2.2.2.2.2 h.S
 unfold w7 qu
 rw [ec]
 obtain ⟨q, t, l, cs, vs, z⟩ := p
 simp only [Option.bind_some]
 refine Yo (step := wu _ _) (fun x : M2 => 24 - x.1.toNat) (fun x => 0 ≤ x.1 ∧ x.1 ≤ 24 ∧ SPm (mP x))
  (fun x => some (ybL (24 - x.1.toNat) (mP x))) ?_ (0, 0, z, q, t, l, cs, vs) ⟨Int.le_refl _, show (0 : Int) ≤ 24 by decide, h⟩ (show 24 - (0 : Int).toNat < 18446744073709551616 by decide)
 rintro again ⟨i, b, z, q, t, l, cs, vs⟩ ⟨i0, i1, hp⟩ hag
 have e1 := y8C (q, t, l, cs, vs, z) (show SP q t l cs vs from hp).S.2.2.2.2.1
 have e2 := y1M z (show SP q t l cs vs from hp) (y3L cs cs.length)
 refine Eq.trans ?_ (y56 (fun p => some p) (fun p => some p) i (q, t, l, cs, vs, z) (fun i x => again (i, b, x.2.2.2.2.2, x.1, x.2.1, x.2.2.1, x.2.2.2.1, x.2.2.2.2.1)) i0 i1 hp id (fun _ => rfl) (fun _ => rfl) fun p' hp' hi => hag (i + 1, b, p'.2.2.2.2.2, p'.1, p'.2.1, p'.2.2.1, p'.2.2.2.1, p'.2.2.2.2.1) ⟨by simp only at i0 ⊢; omega, by simp only; omega, hp'⟩ (by simp only at i0 ⊢; omega))
 unfold wu
 simp only [e1, e2, Option.bind_some]
 rfl
theorem y3N (p : PO) (h : SPm p) : JY p = some (ybL 24 p) := by
 have ec : yY p = some p := Kf p.1 p.2.1 p.2.2.1 p.2.2.2.1 p.2.2.2.2.1 p.2.2.2.2.2 h.S
 unfold JY qs
 rw [ec]
 obtain ⟨q, t, l, cs, vs, z⟩ := p
 simp only [Option.bind_some]
 refine Yo (step := jg _ _ _) (fun x : M2 ⊕ M3 => 24 - (mI x).toNat) (fun x => 0 ≤ (mI x) ∧ (mI x) ≤ 24 ∧ SPm (mQ x))
  (fun x => some (ybL (24 - (mI x).toNat) (mQ x))) ?_ (Sum.inl (0, 0, z, q, t, l, cs, vs)) ⟨Int.le_refl _, show (0 : Int) ≤ 24 by decide, h⟩ (show 24 - (0 : Int).toNat < 18446744073709551616 by decide)
 have key : ∀ (i b : Int) (q : List yf) (t : List y0) (l : List yd) (cs : List y9) (vs : List ym) (z : Int) (again : M2 ⊕ M3 → Option PO) (hag : ∀ t', 0 ≤ mI t' ∧ mI t' ≤ 24 ∧ SPm (mQ t') → 24 - (mI t').toNat < 24 - i.toNat → again t' = some (ybL (24 - (mI t').toNat) (mQ t'))), 0 ≤ i → i ≤ 24 → SPm (q, t, l, cs, vs, z) →
   (bif (decide (i < (24 : Int))) then (bif (!(mvP (q, t, l, cs, vs, z)).2) then some (q, t, l, cs, vs, z) else again (.inr ((Go.IntKind.wrap .i64 (i + (1 : Int))), b, (mvP (q, t, l, cs, vs, z)).1.1, (mvP (q, t, l, cs, vs, z)).1.2.1, (mvP (q, t, l, cs, vs, z)).1.2.2.2.2.2, (mvP (q, t, l, cs, vs, z)).1.2.2.1, (mvP (q, t, l, cs, vs, z)).1.2.2.2.1, (mvP (q, t, l, cs, vs, z)).1.2.2.2.2.1))) else some (q, t, l, cs, vs, z)) = some (ybL (24 - i.toNat) (q, t, l, cs, vs, z)) := by
  intro i b q t l cs vs z again hag i0 i1 hp
  exact y56 (fun p => some p) (fun p => some p) i (q, t, l, cs, vs, z) (fun i x => again (.inr (i, b, x.1, x.2.1, x.2.2.2.2.2, x.2.2.1, x.2.2.2.1, x.2.2.2.2.1))) i0 i1 hp id (fun _ => rfl) (fun _ => rfl) fun p' hp' hi => hag (.inr (i + 1, b, p'.1, p'.2.1, p'.2.2.2.2.2, p'.2.2.1, p'.2.2.2.1, p'.2.2.2.2.1)) ⟨by simp only [mI]; omega, by simp only [mI]; omega, hp'⟩ (by simp only [mI]; omega)
 rintro again (⟨i, b, z, q, t, l, cs, vs⟩ | ⟨i, b, q, t, z, l, cs, vs⟩) ⟨i0, i1, hp⟩ hag
 ·have hp' : SP q t l cs vs := hp
  have e1 := y1N cs hp'.S.2.2.2.2.1
  have e2 := Qx z hp' (y3L cs cs.length)
  refine Eq.trans ?_ (key i b q t l cs vs z again hag i0 i1 hp)
  unfold jg
  simp only [e1, e2, Option.bind_some]
  rfl
 ·have hp' : SP q t l cs vs := hp
  have e1 := y1N cs hp'.S.2.2.2.2.1
  have e2 := Qx z hp' (y3L cs cs.length)
  refine Eq.trans ?_ (key i b q t l cs vs z again hag i0 i1 hp)
  unfold jg
  simp only [e1, e2, Option.bind_some]
  rfl
section
variable (q : List yf) (t : List y0) (l : List yd) (cs : List y9) (vs : List ym) (z : Int)
noncomputable def y3O (i : Int) : PO × Bool := if yU q t l cs vs z = true ∧ 0 ≤ i ∧ i ≤ (t.length : Int) - 1 then (((y8x q t i).1, (y8x q t i).2, l, cs, vs, z), true) else ((q, t, l, cs, vs, z), false)
theorem y7b {i : Int} (h : ¬ (yU q t l cs vs z = true ∧ 0 ≤ i ∧ i ≤ (t.length : Int) - 1)) : y3O q t l cs vs z i = ((q, t, l, cs, vs, z), false) := if_neg h
theorem yaX {i : Int} (h : yU q t l cs vs z = true ∧ 0 ≤ i ∧ i ≤ (t.length : Int) - 1) : y3O q t l cs vs z i = (((y8x q t i).1, (y8x q t i).2, l, cs, vs, z), true) := if_pos h
variable {q t l cs vs} (h : SP q t l cs vs)
include h
theorem yfX (i : Int) : SP (y3O q t l cs vs z i).1.1 (y3O q t l cs vs z i).1.2.1 (y3O q t l cs vs z i).1.2.2.1 (y3O q t l cs vs z i).1.2.2.2.1 (y3O q t l cs vs z i).1.2.2.2.2.1 := by
 unfold y3O
 split
 ·rename_i hh
  exact ((yky (q := q) i (vp (Vy z h hh.1).2.2) hh.2.1 (by omega)).tq h.S.1).sp h h.S.2.2.2.1 h.S.2.2.2.2.1
 ·exact h
theorem y26 (i : Int) : zI (q, t, l, cs, vs, z, i) = some (y3I (y3O q t l cs vs z i)) := by
 have hq := h.tq
 have hm : Go.IntKind.wrap .i64 ((t.length : Int) - 1) = (t.length : Int) - 1 := w64 (by have := hq.T.len; omega) (by have := hq.T.len; omega)
 have ec : yl (q, t, l, cs, vs, z) = some (q, t, l, cs, vs, z) := Jd q t l cs vs z h.S
 unfold zI
 simp only [ec, zP z h, Yr, hm, Option.bind_some]
 cases hp : yU q t l cs vs z with
 | false =>
  rw [y7b _ _ _ _ _ _ fun hh => by rw [hp] at hh; exact Bool.noConfusion hh.1]
  rfl
 | true =>
  simp only [Bool.not_true, cond_false, Option.bind_some]
  cases hi : inR i 0 ((t.length : Int) - 1) with
  | false =>
   rw [y7b _ _ _ _ _ _ fun hh => by
    rw [zZ.2 hh.2] at hi
    cases hi]
   rfl
  | true =>
   obtain ⟨i0, i1⟩ := zZ.1 hi
   rw [yaX _ _ _ _ _ _ ⟨hp, i0, i1⟩, y8y q t i (vp (Vy z h hp).2.2) h.S.1 i0 (by omega)]
   rfl
theorem y27 (i : Int) : J4 (q, t, l, cs, vs, z, i) = some (y3I (y3O q t l cs vs z i)) := by
 have hq := h.tq
 have hm : Go.IntKind.wrap .i64 ((t.length : Int) - 1) = (t.length : Int) - 1 := w64 (by have := hq.T.len; omega) (by have := hq.T.len; omega)
 have ec : yY (q, t, l, cs, vs, z) = some (q, t, l, cs, vs, z) := Kf q t l cs vs z h.S
 unfold J4
 simp only [ec, V6 z h, Z6, hm, Option.bind_some]
 cases hp : yU q t l cs vs z with
 | false =>
  rw [y7b _ _ _ _ _ _ fun hh => by rw [hp] at hh; exact Bool.noConfusion hh.1]
  rfl
 | true =>
  simp only [Bool.not_true, cond_false, Option.bind_some]
  cases hi : inR i 0 ((t.length : Int) - 1) with
  | false =>
   rw [y7b _ _ _ _ _ _ fun hh => by
    rw [zZ.2 hh.2] at hi
    cases hi]
   rfl
  | true =>
   obtain ⟨i0, i1⟩ := zZ.1 hi
   rw [yaX _ _ _ _ _ _ ⟨hp, i0, i1⟩, y8z q t i (vp (Vy z h hp).2.2) h.S.1 i0 (by omega)]
   rfl
end
end Go.Proofs.YthgdjjdigalckaaGreat.Pl
namespace Go.Proofs.YthgdjjdigalckaaGreat.Pl
open Go.Proofs.YthgdjjdigalckaaGreat.R Go.Proofs.YthgdjjdigalckaaGreat.XT
def Yf (c : List Int) (p : Int) : Prop := c.length ≤ 1099511627776 ∧ 0 ≤ p ∧ p ≤ c.length
def jA {A : Type} (o : Option (A × List Int × Int × Int)) (c : List Int) (Q : A → Prop) : Prop := ∃ v p s, o = some (v, c, p, s) ∧ Yf c p ∧ Q v
theorem y9R (c : List Int) (p s : Int) (h : Yf c p) : jA (YP (c, p, s)) c (fun v => 0 ≤ v ∧ v < 256) := by
 obtain ⟨h1, h2, h3⟩ := h
 unfold YP
 simp only [Bool.cond_eq_ite, decide_eq_true_eq, yrP]
 by_cases hp : p < (c.length : Int)
 ·rw [if_pos hp, if_pos h2, if_pos hp]
  refine ⟨_, _, _, rfl, ⟨h1, ?_, ?_⟩, by omega⟩
  ·rw [w64 (by omega) (by omega)]
   omega
  ·rw [w64 (by omega) (by omega)]
   omega
 ·rw [if_neg hp]
  exact ⟨_, _, _, rfl, ⟨h1, h2, h3⟩, by omega⟩
theorem zc (c : List Int) (p s n : Int) (h : Yf c p) : jA (yc (c, p, s, n)) c (fun v => 0 ≤ v ∧ (0 < n → v < n)) := by
 unfold yc
 simp only [Bool.cond_eq_ite, decide_eq_true_eq]
 by_cases hn : n ≤ 0
 ·rw [if_pos hn]
  exact ⟨_, _, _, rfl, h, Int.le_refl _, fun hh => by omega⟩
 ·rw [if_neg hn]
  obtain ⟨v1, p1, s1, e1, h1, q1⟩ := y9R c p s h
  obtain ⟨v2, p2, s2, e2, h2, q2⟩ := y9R c p1 s1 h1
  obtain ⟨v3, p3, s3, e3, h3, q3⟩ := y9R c p2 s2 h2
  rw [e1]
  simp only [Option.bind_some]
  have mod : ∀ v : Int, 0 ≤ v → 0 ≤ Int.tmod v n ∧ (0 < n → Int.tmod v n < n) := fun v hv => by
   rw [Int.tmod_eq_emod_of_nonneg hv]
   exact ⟨Int.emod_nonneg _ (by omega), fun hh => Int.emod_lt_of_pos _ hh⟩
  by_cases h6 : n ≤ 256
  ·rw [if_pos h6, if_neg (by omega)]
   exact ⟨_, _, _, rfl, h1, mod _ q1.1⟩
  ·rw [if_neg h6, e2]
   simp only [Option.bind_some]
   rw [e3]
   simp only [Option.bind_some]
   rw [if_neg (by omega)]
   rw [w64 (n := v1 * 65536) (by omega) (by omega), w64 (n := v2 * 256) (by omega) (by omega), w64 (n := v1 * 65536 + v2 * 256) (by omega) (by omega), w64 (n := v1 * 65536 + v2 * 256 + v3) (by omega) (by omega)]
   exact ⟨_, _, _, rfl, h3, mod _ (by omega)⟩
theorem JE (c : List Int) (p s : Int) (L : List Int) (hL : 0 < L.length) (hL2 : L.length ≤ 1048576) (h : Yf c p) : jA (yt (c, p, s, L)) c (fun v => v ∈ L) := by
 obtain ⟨v, p1, s1, e1, h1, q1⟩ := zc c p s (L.length : Int) h
 have := q1.2 (by omega)
 unfold yt
 rw [e1]
 simp only [Option.bind_some]
 rw [if_pos q1.1, if_pos this]
 exact ⟨_, _, _, rfl, h1, zi y7V L v q1.1 this⟩
theorem yhC (c : List Int) (hc : c.length ≤ 1099511627776) : ∃ s, kM c = some (c, 0, s) := by
 have key := Z4 (step := kx (fun x2 : List Int × Int => some (x2.1, (0 : Int), x2.2))) (fun t : List Int × Int × Int => c.length - t.2.2.toNat) (fun t => t.1 = c ∧ 0 ≤ t.2.2 ∧ t.2.2 ≤ c.length) (fun _ res => ∃ s, res = some (c, 0, s)) ?_ (c, (Go.IntKind.wrap .i64 ((941941 : Int) + ((List.length c : Nat) : Int))), (0 : Int)) ⟨rfl, Int.le_refl _, by simp⟩ (by simp; omega)
 ·exact key
 ·rintro again ⟨c', s, i⟩ ⟨rfl, h0, h1⟩ hag
  simp only at h0 h1
  unfold kx
  simp only [Bool.cond_eq_ite, decide_eq_true_eq]
  by_cases hi : i < (c'.length : Int)
  ·rw [if_pos hi]
   simp only [Option.bind_some, decide_eq_true_eq]
   by_cases h4 : i < 4000
   ·rw [if_pos h4, if_pos h0, if_pos hi]
    have hw : Go.IntKind.wrap .i64 (i + 1) = i + 1 := w64 (by omega) (by omega)
    rw [hw]
    exact hag _ ⟨rfl, by simp only; omega, by simp only; omega⟩ (by simp only; omega)
   ·rw [if_neg h4]
    exact ⟨_, rfl⟩
  ·rw [if_neg hi]
   exact ⟨_, rfl⟩
end Go.Proofs.YthgdjjdigalckaaGreat.Pl
namespace Go.Proofs.YthgdjjdigalckaaGreat.Pl
open Go.Proofs.YthgdjjdigalckaaGreat.R Go.Proofs.YthgdjjdigalckaaGreat.XT
end Go.Proofs.YthgdjjdigalckaaGreat.Pl
namespace Go.Proofs.YthgdjjdigalckaaGreat.Pl
open Go.Proofs.YthgdjjdigalckaaGreat.R Go.Proofs.YthgdjjdigalckaaGreat.XT
def w2 (l : List Int) (i : Int) : Int := by_ l i * 256 + by_ l (i + 1)
end Go.Proofs.YthgdjjdigalckaaGreat.Pl
namespace Go.Proofs.YthgdjjdigalckaaGreat.Pl
open Go.Proofs.YthgdjjdigalckaaGreat.R Go.Proofs.YthgdjjdigalckaaGreat.XT
end Go.Proofs.YthgdjjdigalckaaGreat.Pl
namespace Go.Proofs.YthgdjjdigalckaaGreat.Pl
open Go.Proofs.YthgdjjdigalckaaGreat.R Go.Proofs.YthgdjjdigalckaaGreat.XT
end Go.Proofs.YthgdjjdigalckaaGreat.Pl
namespace Go.Proofs.YthgdjjdigalckaaGreat.Pl
open Go.Proofs.YthgdjjdigalckaaGreat.R Go.Proofs.YthgdjjdigalckaaGreat.XT
theorem yzy (x : List Int) (hx : x.length ≤ 1099511627776) : Yf x 0 := ⟨hx, Int.le_refl _, by omega⟩
end Go.Proofs.YthgdjjdigalckaaGreat.Pl
namespace Go.Proofs.YthgdjjdigalckaaGreat.Pl
open Go.Proofs.YthgdjjdigalckaaGreat.R Go.Proofs.YthgdjjdigalckaaGreat.XT
def two (x : Int) : List Int := [x / 256 % 256, x % 256]
end Go.Proofs.YthgdjjdigalckaaGreat.Pl
namespace Go.Proofs.YthgdjjdigalckaaGreat.Pl
open Go.Proofs.YthgdjjdigalckaaGreat.R Go.Proofs.YthgdjjdigalckaaGreat.XT
def tx (s : ByteArray) : List Int := two (s.size : Int) ++ vx s
end Go.Proofs.YthgdjjdigalckaaGreat.Pl
namespace Go.Proofs.YthgdjjdigalckaaGreat.Pl
open Go.Proofs.YthgdjjdigalckaaGreat.R Go.Proofs.YthgdjjdigalckaaGreat.XT
structure PoolF (q : List Int) (t : List y0) (l : List yd) (cs : List y9) (vs : List ym) : Prop where
 ql : q.length = t.length
 tl : t.length ≤ 20
 ll : l.length ≤ 16
 cl : cs.length = 24
 vl : vs.length ≤ 6
 nm : ∀ v ∈ vs, ByteArray.size v.1 ≤ 6
 nl : ∀ n ∈ t, List.length n ≤ 3
 sl : ∀ n ∈ t, ∀ s ∈ (show List yb from n), List.length s ≤ 60 ∧ ∀ k ∈ (show List ya from s), JD k = true
theorem yx8 {q : List Int} {t : List y0} {l : List yd} {cs : List y9} {vs : List ym} {z : Int} (h : yU q t l cs vs z = true) : PoolF q t l cs vs := by
 unfold yU at h
 simp only [Bool.and_eq_true] at h
 obtain ⟨h1, h2, h3, _, _, h4, _⟩ := h
 obtain ⟨t1, t2, t3, t4⟩ := wd h1
 unfold WH at h2
 unfold zA at h3
 unfold vo at h4
 simp only [Bool.and_eq_true, Bool.not_eq_true', decide_eq_true_eq, beq_iff_eq] at h2 h3 h4
 refine ⟨t1, t3, by omega, by omega, by omega, fun v hv => ?_, fun n hn => (y3y (t4 n hn)).1, fun n hn s hs => y71 ((y3y (t4 n hn)).2 s hs)⟩
 obtain ⟨j, hj⟩ := y1l _ vs 0 h4.1 v hv
 unfold yfs at hj
 simp only [Bool.or_eq_false_iff, Bool.not_eq_false'] at hj
 have hn := hj.1
 unfold jy at hn
 simp only [Bool.and_eq_true, zZ] at hn
 omega
section
variable {q : List Int} {t : List y0} {l : List yd} {cs : List y9} {vs : List ym} (z : Int) (h : PoolF q t l cs vs)
include h
end
end Go.Proofs.YthgdjjdigalckaaGreat.Pl
namespace Go.Proofs.YthgdjjdigalckaaGreat.Pl
open Go.Proofs.YthgdjjdigalckaaGreat.R Go.Proofs.YthgdjjdigalckaaGreat.XT
def yaY (kind a b : Int) : Bool :=
 if kind = 2 then decide (a = 0) && inR b 0 1 else if kind = 3 ∨ kind = 7 then decide (a = 0) && decide (b = 0) else if kind = 4 then true else decide (b = 0)
def ydy (s : ByteArray) : Bool := s.toList == ([] : List UInt8)
def yx9 (kind : Int) (name tt : ByteArray) (a b : Int) : Bool :=
 inR kind 1 9 && (if kind ≥ 7 then ydy name else jy name) && (if kind = 2 then jy tt else ydy tt) && isW a && isW b && yaY kind a b
theorem y3P (kind : Int) (name tt : ByteArray) (a b : Int) : Yv (kind, name, tt, a, b) = some (yaY kind a b) := by
 unfold Yv yaY
 simp only [Bool.cond_eq_ite, Yr, Option.bind_some, beq_iff_eq]
 by_cases h2 : kind = 2 <;> by_cases h3 : kind = 3 <;> by_cases h7 : kind = 7 <;> by_cases h4 : kind = 4 <;> by_cases ha : a = 0 <;> by_cases hb : b = 0 <;> simp_all
theorem y8D : (ByteArray.toList { data := #[] }) = [] := by
 unfold ByteArray.toList ByteArray.toList.loop
 rfl
theorem y8E (kind : Int) (name tt : ByteArray) (a b : Int) (hn : name.size ≤ maxLen) (ht : tt.size ≤ maxLen) : KR (kind, name, tt, a, b) = some (yx9 kind name tt a b) := by
 unfold KR yx9 ydy
 simp only [Bool.cond_eq_ite, wc _ hn, wc _ ht, Yr, Vw, y3P, Option.bind_some, bi, y8D, decide_eq_true_eq]
 generalize (name.toList == ([] : List UInt8)) = n1
 generalize (tt.toList == ([] : List UInt8)) = n2
 generalize inR kind 1 9 = n3
 generalize yaY kind a b = n4
 by_cases h7 : kind ≥ 7 <;> by_cases h2 : kind = 2 <;> simp only [h7, h2, if_true, if_false, Option.bind_some] <;> cases n1 <;> cases n2 <;> cases n3 <;> cases n4 <;> cases jy name <;> cases jy tt <;> cases isW a <;> cases isW b <;> rfl
end Go.Proofs.YthgdjjdigalckaaGreat.Pl
namespace Go.Proofs.YthgdjjdigalckaaGreat.Pl
open Go.Proofs.YthgdjjdigalckaaGreat.R Go.Proofs.YthgdjjdigalckaaGreat.XT
abbrev P7a : Type := List yf × List y0 × List yd × List y9 × List ym × Int × Int
theorem yhD {A : Type} {o : Option A} : (Option.bind o fun r => some r) = o := by cases o <;> rfl
theorem ykA {o : Option P7a} : (Option.bind o fun r => some (r.1, r.2.1, r.2.2.1, r.2.2.2.1, r.2.2.2.2.1, r.2.2.2.2.2.1, r.2.2.2.2.2.2)) = o := by cases o <;> rfl
theorem yxa {o : Option (List yf × List y0 × List yd × List y9 × List ym × Int × Bool)} : (Option.bind o fun r => some (r.1, r.2.1, r.2.2.1, r.2.2.2.1, r.2.2.2.2.1, r.2.2.2.2.2.1, r.2.2.2.2.2.2)) = o := by cases o <;> rfl
theorem yxb {o : Option (Bool × List yf × List y0 × List yd × List y9 × List ym × Int)} : (Option.bind o fun r => some (r.1, r.2.1, r.2.2.1, r.2.2.2.1, r.2.2.2.2.1, r.2.2.2.2.2.1, r.2.2.2.2.2.2)) = o := by cases o <;> rfl
theorem ZG {A : Type} {P : A → Prop} (b : Bool) {x y : A} (hx : b = true → P x) (hy : b = false → P y) : P (bif b then x else y) := by cases b <;> first | exact hx rfl | exact hy rfl
structure Tn (q : List yf) (t : List y0) (l : List yd) (cs : List y9) (vs : List ym) : Prop where
 ql : q.length ≤ 100
 T : TS t
 ll : l.length ≤ 100
 cl : cs.length = 24
 vl : vs.length ≤ 100
 N : ∀ v ∈ vs, ByteArray.size v.1 ≤ 60
 e : q.length = t.length
 p : 0 < t.length
theorem Tn.sp {q : List yf} {t : List y0} {l : List yd} {cs : List y9} {vs : List ym} (h : Tn q t l cs vs) : SP q t l cs vs := by
 have hT := h.T.ok
 refine ⟨⟨Nat.le_trans h.ql (by decide), hT.len, hT.sum, Nat.le_trans h.ll (by decide), by rw [h.cl]; decide, Nat.le_trans h.vl (by decide)⟩, fun v hv => Nat.le_trans (h.N v hv) (by decide)⟩
theorem Qy {q : List yf} {t : List y0} {l : List yd} {cs : List y9} {vs : List ym} {z : Int} (h : yU q t l cs vs z = true) : Tn q t l cs vs := by
 have hF := yx8 h
 unfold yU at h
 rw [Bool.and_eq_true] at h
 have h1 := wd h.1
 exact ⟨by have := hF.ql; have := hF.tl; omega, vp h.1, by have := hF.ll; omega, hF.cl, by have := hF.vl; omega, fun v hv => by have := hF.nm v hv; omega, hF.ql, by omega⟩
def Res (q : List yf) (t : List y0) (l : List yd) (cs : List y9) (vs : List ym) (z : Int) (o : Option P7a) : Prop :=
 ∃ q' t' l' cs' vs' z' c, o = some (q', t', l', cs', vs', z', c) ∧ (yU q' t' l' cs' vs' z' = true ∨ (q', t', l', cs', vs', z') = (q, t, l, cs, vs, z))
def Yt (vs : List ym) (n : ByteArray) : Int := Y7 (fun v : ym => ByteArray.toList v.1 == ByteArray.toList n) vs 0
theorem ku (vs : List ym) (n : ByteArray) : Yt vs n = -1 ∨ (0 ≤ Yt vs n ∧ Yt vs n < vs.length) := by
 rcases wM (fun v : ym => ByteArray.toList v.1 == ByteArray.toList n) WM vs 0 (Int.le_refl _) with h | ⟨h1, h2, h3⟩
 ·exact .inl h
 ·exact .inr ⟨h1, by simpa [Yt] using h2⟩
section
variable (q : List yf) (t : List y0) (l : List yd) (cs : List y9) (vs : List ym) (z : Int)
theorem Z7 (n : ByteArray) (hv : vs.length ≤ 1048576) : zj (q, t, l, cs, vs, z, n) = some (Yt vs n) := by
 unfold zj QY
 refine (ZD (step := JN _ _) (fun i => (n, i, q, t, l, cs, vs, z)) (fun v : ym => ByteArray.toList v.1 == ByteArray.toList n) (fun x => some x) (some (-1)) WM vs (by omega) ?_ ?_).trans ?_
 ·intro again i h0 h1
  have hw : Go.IntKind.wrap .i64 (i + 1) = i + 1 := w64 (by omega) (by omega)
  unfold JN
  simp only [Bool.cond_eq_ite, decide_eq_true_eq, h0, h1, if_true, hw]
  rfl
 ·intro again i hi
  unfold JN
  simp only [Bool.cond_eq_ite, decide_eq_true_eq, if_neg hi]
 ·rcases ku vs n with h | ⟨h1, h2⟩ <;> unfold Yt at *
  ·rw [h]
   rfl
  ·rw [if_neg (by omega)]
def ybM (n : ByteArray) : Int := if yU q t l cs vs z = true ∧ jy n = true then 0 else 1
noncomputable def ysy (n : ByteArray) : Int := if yU q t l cs vs z = true ∧ jy n = true then (if Yt vs n < 0 then 2 else 0) else 1
noncomputable def vr (n : ByteArray) (b : Int) : Int := if yU q t l cs vs z = true ∧ jy n = true then (if Yt vs n < 0 then 2 else if (yq vs (Yt vs n)).2.2.2 = true then 5 else if inR b 0 (Go.IntKind.wrap .i64 ((yq vs (Yt vs n)).2.2.1 - 1)) = true then 0 else 4) else 1
variable {q t l cs vs} (h : SP q t l cs vs)
include h
theorem Qz (n : ByteArray) (hn : n.size ≤ maxLen) : Zc (q, t, l, cs, vs, z, n) = some (ybM q t l cs vs z n) := by
 unfold Zc ybM
 simp only [zP z h, wc n hn, Option.bind_some]
 cases yU q t l cs vs z <;> cases jy n <;> rfl
theorem y3Q (n : ByteArray) (hn : n.size ≤ maxLen) : Jn (q, t, l, cs, vs, z, n) = some (ysy q t l cs vs z n) := by
 unfold Jn ysy
 simp only [Qz z h n hn, Z7 q t l cs vs z n h.S.2.2.2.2.2, Option.bind_some]
 unfold ybM
 by_cases hc : yU q t l cs vs z = true ∧ jy n = true
 ·simp only [if_pos hc, beq_self_eq_true, cond_true, Option.bind_some]
  by_cases hv : Yt vs n < 0
  ·simp only [if_pos hv, decide_eq_true hv]
   rfl
  ·simp only [if_neg hv, decide_eq_false hv]
   rfl
 ·simp only [if_neg hc]
  rfl
theorem VZ (n : ByteArray) (hn : n.size ≤ maxLen) (b : Int) : Yz (q, t, l, cs, vs, z, n, b) = some (vr q t l cs vs z n b) := by
 unfold Yz vr
 simp only [y3Q z h n hn, Z7 q t l cs vs z n h.S.2.2.2.2.2, Yr, Option.bind_some]
 unfold ysy
 by_cases hc : yU q t l cs vs z = true ∧ jy n = true
 ·simp only [if_pos hc]
  by_cases hv : Yt vs n < 0
  ·simp only [if_pos hv]
   rfl
  ·have h2 := ku vs n
   simp only [if_neg hv, show ((0 : Int) != 0) = false from rfl, cond_false, if_pos (show (0 : Int) ≤ Yt vs n by omega), if_pos (show Yt vs n < ((List.length vs : Nat) : Int) by omega)]
   cases (yq vs (Yt vs n)).2.2.2 with
   | true => rfl
   | false => cases inR b 0 (Go.IntKind.wrap .i64 ((yq vs (Yt vs n)).2.2.1 - 1)) <;> rfl
 ·simp only [if_neg hc]
  rfl
theorem V8 : yl (q, t, l, cs, vs, z) = some (q, t, l, cs, vs, z) := Jd q t l cs vs z h.S
omit h in
theorem Res.same (c : Int) : Res q t l cs vs z (some (q, t, l, cs, vs, z, c)) := ⟨_, _, _, _, _, _, c, rfl, .inr rfl⟩
theorem yrS {q' : List yf} {t' : List y0} {l' : List yd} {cs' : List y9} {vs' : List ym} {z' : Int} (hx : SP q' t' l' cs' vs') (b : Bool) : yO (q, t, l, cs, vs, z, q', t', l', cs', vs', z', b) = some (if b = true ∧ yU q' t' l' cs' vs' z' = true then (q', t', l', cs', vs', z', 0) else (q, t, l, cs, vs, z, 6)) := by
 unfold yO
 simp only [zP z' hx, V8 z h, Option.bind_some]
 cases b <;> cases hp : yU q' t' l' cs' vs' z' <;> simp
theorem Res.fin {q' : List yf} {t' : List y0} {l' : List yd} {cs' : List y9} {vs' : List ym} {z' : Int} (hx : SP q' t' l' cs' vs') (b : Bool) : Res q t l cs vs z (yO (q, t, l, cs, vs, z, q', t', l', cs', vs', z', b)) := by
 rw [yrS z h hx b]
 by_cases hc : b = true ∧ yU q' t' l' cs' vs' z' = true
 ·rw [if_pos hc]
  exact ⟨_, _, _, _, _, _, _, rfl, .inl hc.2⟩
 ·rw [if_neg hc]
  exact ⟨_, _, _, _, _, _, _, rfl, .inr rfl⟩
end
theorem y0Z (l : List yd) (id fr : Int) (hl : l.length ≤ 1000) : ∃ l' b, zT (l, id, fr) = some (l', b) ∧ l'.length ≤ l.length + 1 := by
 unfold zT qW
 rw [Z5 l id (by omega)]
 simp only [Option.bind_some]
 refine Z4 (step := wY _) (fun u : wX => l.length - u.2.2.2.2.1.toNat) (fun u => u.1 = l ∧ u.2.1 = id ∧ 0 ≤ u.2.2.2.2.1 ∧ u.2.2.2.2.1 ≤ l.length ∧ (u.2.2.2.2.2.length : Int) ≤ u.2.2.2.2.1 + (if u.2.2.2.1 = true then 1 else 0)) (fun _ (res : Option (List yd × Bool)) => ∃ (l' : List yd) (b : Bool), res = some (l', b) ∧ l'.length ≤ l.length + 1) ?_ (l, id, fr, decide (Yp l id ≥ 0), 0, []) ⟨rfl, rfl, Int.le_refl _, by simp, by simp; split <;> omega⟩ (by simp; omega)
 ·rintro again ⟨l1, id1, fr1, d, i, o⟩ ⟨rfl, rfl, h0, h1, ho⟩ hag
  simp only at h0 h1 ho hl hag ⊢
  unfold wY
  simp only [Bool.cond_eq_ite, decide_eq_true_eq]
  by_cases hi : i < (l1.length : Int)
  ·have hw : Go.IntKind.wrap .i64 (i + 1) = i + 1 := w64 (by omega) (by omega)
   have ho2 : o.length ≤ 1001 := by split at ho <;> omega
   simp only [if_pos hi, if_pos h0, hw, List.length_append, List.length_cons, List.length_nil]
   cases d with
   | true =>
    simp only [Bool.not_true, Bool.false_eq_true, if_false, Option.bind_some]
    rw [if_pos (by omega)]
    exact hag _ ⟨rfl, rfl, by simp only; omega, by simp only; omega, by simp at ho ⊢; omega⟩ (by simp only; omega)
   | false =>
    simp only [Bool.not_false, if_true, Option.bind_some, decide_eq_true_eq]
    split
    ·rw [if_pos (by omega), if_pos (by omega)]
     exact hag _ ⟨rfl, rfl, by simp only; omega, by simp only; omega, by simp at ho ⊢; omega⟩ (by simp only; omega)
    ·rw [if_pos (by omega)]
     exact hag _ ⟨rfl, rfl, by simp only; omega, by simp only; omega, by simp at ho ⊢; omega⟩ (by simp only; omega)
  ·have ho2 : o.length ≤ 1001 := by split at ho <;> omega
   simp only [if_neg hi, List.length_append, List.length_cons, List.length_nil, Z5 l1 id1 (by omega), Option.bind_some, kC o (by omega), kC (o ++ [(id1, fr1)]) (by simp; omega)]
   cases d with
   | true =>
    have e1 : ∀ u : Bool, ∃ (l' : List yd) (b : Bool), (if u = true then (if (0 + l1.length) * 16 < 140737488355328 then some ([] ++ l1, false) else none) else some (o, true)) = some (l', b) ∧ l'.length ≤ l1.length + 1 := fun u => by
     rw [if_pos (show (0 + l1.length) * 16 < 140737488355328 by omega)]
     cases u
     ·exact ⟨_, _, rfl, by simp at ho; omega⟩
     ·exact ⟨_, _, rfl, by simp⟩
    simp only [Bool.not_true, Bool.false_eq_true, if_false]
    by_cases ha : Yp l1 id1 ≥ 0
    ·rw [if_pos ha]
     exact e1 true
    ·rw [if_neg ha]
     exact e1 _
   | false =>
    have e1 : ∀ u : Bool, ∃ (l' : List yd) (b : Bool), (if u = true then (if (0 + l1.length) * 16 < 140737488355328 then some ([] ++ l1, false) else none) else some (o ++ [(id1, fr1)], true)) = some (l', b) ∧ l'.length ≤ l1.length + 1 := fun u => by
     rw [if_pos (show (0 + l1.length) * 16 < 140737488355328 by omega)]
     cases u
     ·exact ⟨_, _, rfl, by simp at ho ⊢; omega⟩
     ·exact ⟨_, _, rfl, by simp⟩
    simp only [Bool.not_false, if_true]
    rw [if_pos (by omega)]
    by_cases ha : Yp l1 id1 ≥ 0
    ·rw [if_pos ha]
     exact e1 true
    ·rw [if_neg ha]
     exact e1 _
theorem y8F (vs : List ym) (n : ByteArray) (a s : Int) (f : Bool) (hv : vs.length ≤ 1000) (hN : ∀ v ∈ vs, ByteArray.size v.1 ≤ 60) (hn : n.size ≤ 60) : ∃ vs', YL (vs, n, a, s, f) = some vs' ∧ vs'.length = vs.length + 1 ∧ ∀ v ∈ vs', ByteArray.size v.1 ≤ 60 := by
 unfold YL vH
 simp only [List.nil_append, List.length_nil, List.length_append, List.length_cons]
 rw [if_pos (by omega), if_pos (by omega), w64 (by omega) (by omega)]
 refine Z4 (step := jx _) (fun u : jw => u.1.toNat) (fun u => 0 ≤ u.1 ∧ u.1 ≤ vs.length ∧ u.2.1 = n ∧ u.2.2.2.2.2.length = vs.length + 1 ∧ ∀ v ∈ u.2.2.2.2.2, ByteArray.size v.1 ≤ 60) (fun _ (res : Option (List ym)) => ∃ vs' : List ym, res = some vs' ∧ vs'.length = vs.length + 1 ∧ ∀ v ∈ vs', ByteArray.size v.1 ≤ 60) ?_ (((vs.length + (0 + 1) : Nat) : Int) - 1, n, a, s, f, vs ++ [(n, a, s, f)]) ⟨by simp only; omega, by simp only; omega, rfl, by simp, fun v hv => ?_⟩ (by simp only; omega)
 ·rintro again ⟨k, n1, a1, s1, f1, o⟩ ⟨h0, h1, rfl, ho, hoN⟩ hag
  simp only at h0 h1 ho hoN hag ⊢
  unfold jx
  simp only [Bool.cond_eq_ite, decide_eq_true_eq]
  by_cases hk : k > 0
  ·have hw : Go.IntKind.wrap .i64 (k - 1) = k - 1 := w64 (by omega) (by omega)
   simp only [if_pos hk, hw, if_pos (show (0 : Int) ≤ k - 1 by omega), if_pos (show k - 1 < ((List.length o : Nat) : Int) by omega), if_pos h0, if_pos (show k < ((List.length o : Nat) : Int) by omega), Option.bind_some]
   split
   ·refine hag _ ⟨by simp only; omega, by simp only; omega, rfl, by simp only [List.length_set]; exact ho, fun v hv => ?_⟩ (by simp only; omega)
    rcases List.mem_or_eq_of_mem_set hv with h | rfl
    ·exact hoN v h
    ·exact hoN _ (zi WM o (k - 1) (by omega) (by omega))
   ·refine ⟨_, rfl, by rw [List.length_set]; exact ho, fun v hv => ?_⟩
    rcases List.mem_or_eq_of_mem_set hv with h | rfl
    ·exact hoN v h
    ·exact hn
  ·simp only [if_neg hk, Option.bind_some, Bool.false_eq_true, if_false, if_pos h0, if_pos (show k < ((List.length o : Nat) : Int) by omega)]
   refine ⟨_, rfl, by rw [List.length_set]; exact ho, fun v hv => ?_⟩
   rcases List.mem_or_eq_of_mem_set hv with h | rfl
   ·exact hoN v h
   ·exact hn
 ·rcases List.mem_append.1 hv with h | h
  ·exact hN v h
  ·rw [List.mem_singleton.1 h]
   exact hn
theorem y0m (cs : List y9) (n : Int) (hc : cs.length ≤ 1048576) : ∃ cs' i b, zG (cs, n) = some (cs', i, b) ∧ cs'.length = cs.length ∧ (b = true → 0 ≤ i ∧ i < cs.length) := by
 unfold zG zR WZ
 simp only [List.nil_append, List.length_nil]
 rw [if_pos (by omega)]
 simp only [Option.bind_some]
 refine Z4 (step := zw _ _) (fun u : Jo => cs.length - u.2.2.1.toNat) (fun u => u.1 = cs ∧ 0 ≤ u.2.2.1 ∧ u.2.2.1 ≤ cs.length ∧ u.2.2.2 = cs) (fun _ (res : Option (List y9 × Int × Bool)) => ∃ (cs' : List y9) (i : Int) (b : Bool), res = some (cs', i, b) ∧ cs'.length = cs.length ∧ (b = true → 0 ≤ i ∧ i < cs.length)) ?_ (cs, n, 0, cs) ⟨rfl, Int.le_refl _, by simp, rfl⟩ (by simp; omega)
 ·rintro again ⟨l1, n1, i, o⟩ ⟨e1, h0, h1, e2⟩ hag
  simp only at e1 e2 h0 h1 hag ⊢
  subst e1
  subst e2
  unfold zw
  simp only [Bool.cond_eq_ite, decide_eq_true_eq, Jc o hc, Vw, Option.bind_some]
  by_cases hi : i < (o.length : Int)
  ·have hw : Go.IntKind.wrap .i64 (i + 1) = i + 1 := w64 (by omega) (by omega)
   simp only [if_pos hi, if_pos h0, hw, List.length_set, Option.bind_some]
   split
   ·simp only [Option.bind_some]
    split
    ·split
     ·exact ⟨_, _, _, rfl, by simp, fun _ => ⟨h0, hi⟩⟩
     ·exact hag _ ⟨rfl, by simp only; omega, by simp only; omega, rfl⟩ (by simp only; omega)
    ·exact ⟨_, _, _, rfl, rfl, fun h => by cases h⟩
   ·simp only [Option.bind_some, Bool.false_eq_true, if_false]
    exact ⟨_, _, _, rfl, rfl, fun h => by cases h⟩
  ·simp only [if_neg hi, Option.bind_some, Bool.false_eq_true, if_false]
   exact ⟨_, _, _, rfl, rfl, fun h => by cases h⟩
end Go.Proofs.YthgdjjdigalckaaGreat.Pl
namespace Go.Proofs.YthgdjjdigalckaaGreat.Pl
open Go.Proofs.YthgdjjdigalckaaGreat.R Go.Proofs.YthgdjjdigalckaaGreat.XT
theorem SP.of {q : List yf} {t : List y0} {l : List yd} {cs : List y9} {vs : List ym} (h : TQ q t) (hl : l.length ≤ 1048576) (hc : cs.length ≤ 1048576) (hv : vs.length ≤ 1048576) (hN : ∀ v ∈ vs, ByteArray.size v.1 ≤ maxLen) : SP q t l cs vs :=
 ⟨⟨h.q, h.T.len, h.T.sum, hl, hc, hv⟩, hN⟩
theorem y28 {n : Nat} (h : n ≤ 60) : n ≤ maxLen := Nat.le_trans h (by decide)
section
variable {q : List yf} {t : List y0} {l : List yd} {cs : List y9} {vs : List ym} (z : Int) (h : SP q t l cs vs)
include h
theorem ydz (n : ByteArray) (s : Int) (hn : n.size ≤ 60) : Res q t l cs vs z (Jm (q, t, l, cs, vs, z, n, s)) := by
 unfold Jm
 simp only [Qz z h n (y28 hn), V8 z h, Z7 q t l cs vs z n h.S.2.2.2.2.2, Yr, Option.bind_some, ykA, yhD]
 refine ZG (P := Res q t l cs vs z) _ (fun _ => Res.same z _) fun hf => ZG (P := Res q t l cs vs z) _ (fun _ => Res.same z _) fun _ => ZG (P := Res q t l cs vs z) _ (fun _ => Res.same z _) fun _ => ?_
 have hp : yU q t l cs vs z = true := by
  unfold ybM at hf
  by_cases hc : yU q t l cs vs z = true ∧ jy n = true
  ·exact hc.1
  ·rw [if_neg hc] at hf
   cases hf
 have hT := Qy hp
 obtain ⟨l', b, e1, h1⟩ := y0Z l z 0 (by have := hT.ll; omega)
 obtain ⟨vs', e2, h2, h3⟩ := y8F vs n z s false (by have := hT.vl; omega) hT.N hn
 rw [e1]
 simp only [Option.bind_some]
 rw [e2]
 simp only [Option.bind_some]
 exact Res.fin z h (SP.of h.tq (by have := hT.ll; omega) h.S.2.2.2.2.1 (by have := hT.vl; omega) fun v hv => y28 (h3 v hv)) b
theorem ykB (n m : ByteArray) (f : Bool) (hn : n.size ≤ 60) (hm : m.size ≤ 60) : Res q t l cs vs z (WY (q, t, l, cs, vs, z, n, m, f)) := by
 unfold WY
 simp only [Qz z h n (y28 hn), V8 z h, Z7 q t l cs vs z _ h.S.2.2.2.2.2, wc m (y28 hm), Option.bind_some, ykA, yhD]
 cases hf : ybM q t l cs vs z n != 0 with
 | true =>
  simp only [cond_true, Option.bind_some]
  exact Res.same z _
 | false =>
 simp only [cond_false, Option.bind_some]
 have hp : yU q t l cs vs z = true := by
  unfold ybM at hf
  by_cases hc : yU q t l cs vs z = true ∧ jy n = true
  ·exact hc.1
  ·rw [if_neg hc] at hf
   cases hf
 have hT := Qy hp
 refine ZG (P := Res q t l cs vs z) _ (fun _ => Res.same z _) fun _ => ZG (P := Res q t l cs vs z) _ (fun _ => Res.same z _) fun hi => ZG (P := Res q t l cs vs z) _ (fun _ => Res.same z _) fun _ => ?_
 have hi' : 0 ≤ Yt vs n ∧ Yt vs n < ((List.length vs : Nat) : Int) := by
  have := of_decide_eq_false hi
  have := ku vs n
  omega
 obtain ⟨l', b, e1, h1⟩ := y0Z l z (yq vs (Yt vs n)).2.1 (by have := hT.ll; omega)
 obtain ⟨l2, b2, e2, h2⟩ := y0Z l' (Go.IntKind.wrap .i64 (z + 1)) (yq vs (Yt vs n)).2.1 (by have := hT.ll; omega)
 obtain ⟨vs', e3, h3, h4⟩ := y8F (vs.set (Int.toNat (Yt vs n)) ((yq vs (Yt vs n)).1, z, (yq vs (Yt vs n)).2.2)) m (Go.IntKind.wrap .i64 (z + 1)) (yq vs (Yt vs n)).2.2.1 f (by rw [List.length_set]; have := hT.vl; omega) (fun v hv => by
  rcases List.mem_or_eq_of_mem_set hv with hv | rfl
  ·exact hT.N v hv
  ·exact hT.N (yq vs (Yt vs n)) (zi WM vs _ hi'.1 hi'.2)) hm
 simp only [if_pos hi'.1, if_pos hi'.2]
 rw [e1]
 simp only [Option.bind_some]
 rw [e2]
 simp only [Option.bind_some]
 rw [e3]
 simp only [Option.bind_some]
 rw [List.length_set] at h3
 have hS : SP q t l2 cs vs' := SP.of h.tq (by have := hT.ll; omega) h.S.2.2.2.2.1 (by have := hT.vl; omega) fun v hv => y28 (h4 v hv)
 cases b <;> simp only [cond_true, cond_false, Option.bind_some] <;> exact Res.fin z h hS _
theorem ydA (n : ByteArray) (hn : n.size ≤ 60) : Res q t l cs vs z (ZN (q, t, l, cs, vs, z, n)) := by
 unfold ZN
 simp only [y3Q z h n (y28 hn), V8 z h, Z7 q t l cs vs z _ h.S.2.2.2.2.2, Option.bind_some, ykA, yhD]
 refine ZG (P := Res q t l cs vs z) _ (fun _ => Res.same z _) fun hf => ?_
 have hi : 0 ≤ Yt vs n ∧ Yt vs n < ((List.length vs : Nat) : Int) := by
  unfold ysy at hf
  have := ku vs n
  by_cases hc : yU q t l cs vs z = true ∧ jy n = true
  ·rw [if_pos hc] at hf
   by_cases hv : Yt vs n < 0
   ·rw [if_pos hv] at hf
    cases hf
   ·omega
  ·rw [if_neg hc] at hf
   cases hf
 have hv := h.S.2.2.2.2.2
 have hw : Go.IntKind.wrap .i64 (Yt vs n + 1) = Yt vs n + 1 := w64 (by omega) (by omega)
 simp only [hw]
 rw [if_pos (Int.le_refl _), if_pos hi.1, if_pos (by omega), if_pos (by simp only [List.length_nil, List.length_drop, List.length_take]; omega), if_pos (by omega), if_pos (by omega), if_pos (Int.le_refl _), if_pos (by simp only [List.length_append, List.length_nil, List.length_drop, List.length_take]; omega)]
 refine Res.fin z h (SP.of h.tq h.S.2.2.2.1 h.S.2.2.2.2.1 (by simp only [List.length_append, List.length_nil, List.length_drop, List.length_take]; omega) fun v hv => ?_) true
 simp only [List.nil_append, List.mem_append] at hv
 rcases hv with hv | hv
 ·exact h.N v (List.mem_of_mem_take (List.mem_of_mem_drop hv))
 ·exact h.N v (List.mem_of_mem_take (List.mem_of_mem_drop hv))
theorem ydB (a b c d e : Int) : ∃ r q' t' cs', zx (q, t, l, cs, vs, z, a, b, c, d, e) = some (r, q', t', l, cs', vs, z) ∧ SP q' t' l cs' vs := by
 have hq := h.tq
 unfold zx
 simp only [kG q t a b hq.T hq.q, YH q t a b c d e hq.T hq.Q hq.q, Option.bind_some]
 cases (yJ q t (a, b, c, d, e)).2.2 with
 | false => exact ⟨_, _, _, _, rfl, h⟩
 | true =>
  unfold JP
  simp only [Bool.not_true, cond_false, ji cs _ h.S.2.2.2.2.1]
  have hT := kt (a, b, c, d, e) hq
  have key : ∀ u : Bool, ∃ r q' t' cs', (Option.bind (bif u then Option.bind (some (y22 cs (kq q t a b).2.2.2.1)) fun r2 => some ((yJ q t (a, b, c, d, e)).1, (yJ q t (a, b, c, d, e)).2.1, l, r2, vs, z) else some ((yJ q t (a, b, c, d, e)).1, (yJ q t (a, b, c, d, e)).2.1, l, cs, vs, z)) fun r3 => some (true, r3.1, r3.2.1, r3.2.2.1, r3.2.2.2.1, r3.2.2.2.2.1, r3.2.2.2.2.2)) = some (r, q', t', l, cs', vs, z) ∧ SP q' t' l cs' vs := fun u => by
   cases u
   ·exact ⟨_, _, _, _, rfl, hT.sp h h.S.2.2.2.1 h.S.2.2.2.2.1⟩
   ·exact ⟨_, _, _, _, rfl, hT.sp h h.S.2.2.2.1 (by rw [Qv]; exact h.S.2.2.2.2.1)⟩
  cases (kq q t a b).2.2.2.2.2
  ·exact key false
  ·exact key ((kq q t a b).2.2.1 == 1)
theorem yfY (n : ByteArray) (b w : Int) (hn : n.size ≤ 60) : Res q t l cs vs z (wH (q, t, l, cs, vs, z, n, b, w)) := by
 obtain ⟨cs', i, u, e1, h1, h2⟩ := y0m cs w h.S.2.2.2.2.1
 have hS : SP q t l cs' vs := SP.of h.tq h.S.2.2.2.1 (by rw [h1]; exact h.S.2.2.2.2.1) h.S.2.2.2.2.2 h.N
 have main : vr q t l cs vs z n b = 0 → Res q t l cs vs z (bif u then if (0 : Int) ≤ Yt vs n then if Yt vs n < ((List.length vs : Nat) : Int) then if (0 : Int) ≤ i then if i < ((List.length cs' : Nat) : Int) then Option.bind (zx (q, t, l, cs', vs, z, b, (yq vs (Yt vs n)).2.1, (1 : Int), i, (yj cs' i).1)) fun r7 => yO (q, t, l, cs, vs, z, r7.2.1, r7.2.2.1, r7.2.2.2.1, r7.2.2.2.2.1, r7.2.2.2.2.2.1, r7.2.2.2.2.2.2, r7.1) else none else none else none else none else yO (q, t, l, cs, vs, z, q, t, l, cs', vs, z, false)) := by
  intro hb
  have hi : 0 ≤ Yt vs n ∧ Yt vs n < ((List.length vs : Nat) : Int) := by
   unfold vr at hb
   have := ku vs n
   by_cases hc : yU q t l cs vs z = true ∧ jy n = true
   ·rw [if_pos hc] at hb
    by_cases hv : Yt vs n < 0
    ·rw [if_pos hv] at hb
     cases hb
    ·omega
   ·rw [if_neg hc] at hb
    cases hb
  cases u with
  | false => exact Res.fin z h hS false
  | true =>
   have h3 := h2 rfl
   obtain ⟨r, q', t', cs2, e2, h4⟩ := ydB z hS b (yq vs (Yt vs n)).2.1 1 i (yj cs' i).1
   simp only [cond_true, if_pos hi.1, if_pos hi.2, if_pos h3.1, if_pos (show i < ((List.length cs' : Nat) : Int) by rw [h1]; exact h3.2), e2, Option.bind_some]
   exact Res.fin z h h4 r
 unfold wH
 simp only [VZ z h n (y28 hn), V8 z h, Z7 q t l cs vs z _ h.S.2.2.2.2.2, Vw, e1, Option.bind_some, ykA, yhD]
 cases hb : vr q t l cs vs z n b == 0 with
 | false =>
  have hne : (vr q t l cs vs z n b != 0) = true := by
   rw [bne, hb]
   rfl
  simp only [cond_false, Option.bind_some, hne, cond_true]
  exact Res.same z _
 | true =>
  have h0 : vr q t l cs vs z n b = 0 := by simpa using hb
  cases hw : isW w with
  | false =>
   simp only [cond_true, Option.bind_some, Bool.not_false, show ((4 : Int) != 0) = true from rfl]
   exact Res.same z _
  | true =>
   have hne : (vr q t l cs vs z n b != 0) = false := by
    rw [bne, hb]
    rfl
   simp only [cond_true, Option.bind_some, Bool.not_true, cond_false, hne]
   exact main h0
theorem QA (i b : Int) (h0 : 0 ≤ i) (h1 : i < (vs.length : Int)) : ∃ r q' t' cs', Y4 (q, t, l, cs, vs, z, i, b) = some (r, q', t', l, cs', vs, z) ∧ SP q' t' l cs' vs := by
 have hq := h.tq
 unfold Y4
 simp only [if_pos h0, if_pos h1, y0S q t l _ _ hq.T h.S.2.2.2.1, kG q t _ _ hq.T hq.q, Option.bind_some, yxb, yhD]
 have key : ∀ u : Bool, ∃ r q' t' cs', (bif u then zx (q, t, l, cs, vs, z, b, (yq vs i).2.1, (2 : Int), (0 : Int), (0 : Int)) else bif (!(kq q t b (yq vs i).2.1).2.2.2.2.2) then some (true, q, t, l, cs, vs, z) else zx (q, t, l, cs, vs, z, b, (yq vs i).2.1, (0 : Int), (0 : Int), (0 : Int))) = some (r, q', t', l, cs', vs, z) ∧ SP q' t' l cs' vs := fun u => by
  cases u
  ·cases (kq q t b (yq vs i).2.1).2.2.2.2.2
   ·exact ⟨_, _, _, _, rfl, h⟩
   ·exact ydB z h _ _ _ _ _
  ·exact ydB z h _ _ _ _ _
 cases (ans (yaM t l b (yq vs i).2.1)).2.2.2.2.2
 ·exact key false
 ·exact key _
theorem ybN (n : ByteArray) (b : Int) (hn : n.size ≤ 60) : Res q t l cs vs z (jm (q, t, l, cs, vs, z, n, b)) := by
 unfold jm
 simp only [VZ z h n (y28 hn), V8 z h, Z7 q t l cs vs z _ h.S.2.2.2.2.2, Option.bind_some, ykA, yhD]
 refine ZG (P := Res q t l cs vs z) _ (fun _ => Res.same z _) fun hb => ?_
 have hi : 0 ≤ Yt vs n ∧ Yt vs n < ((List.length vs : Nat) : Int) := by
  unfold vr at hb
  have := ku vs n
  by_cases hc : yU q t l cs vs z = true ∧ jy n = true
  ·rw [if_pos hc] at hb
   by_cases hv : Yt vs n < 0
   ·rw [if_pos hv] at hb
    cases hb
   ·omega
  ·rw [if_neg hc] at hb
   cases hb
 obtain ⟨r, q', t', cs', e1, h1⟩ := QA z h (Yt vs n) b hi.1 hi.2
 rw [e1]
 exact Res.fin z h h1 r
omit h in
theorem yfZ {n : ByteArray} {b : Int} (hb : vr q t l cs vs z n b = 0) : (0 ≤ Yt vs n ∧ Yt vs n < ((List.length vs : Nat) : Int)) ∧ yU q t l cs vs z = true := by
 unfold vr at hb
 have := ku vs n
 by_cases hc : yU q t l cs vs z = true ∧ jy n = true
 ·rw [if_pos hc] at hb
  by_cases hv : Yt vs n < 0
  ·rw [if_pos hv] at hb
   cases hb
  ·exact ⟨by omega, hc.1⟩
 ·rw [if_neg hc] at hb
  cases hb
theorem ydC (n : ByteArray) (s : Int) (hn : n.size ≤ 60) : Res q t l cs vs z (Jr (q, t, l, cs, vs, z, n, s)) := by
 have fin : ∀ (i : Int) (s : Int) (ok : Bool) (q' : List yf) (t' : List y0) (cs' : List y9), 0 ≤ i → i < (vs.length : Int) → SP q' t' l cs' vs → Res q t l cs vs z (if (0 : Int) ≤ i then if i < ((List.length vs : Nat) : Int) then yO (q, t, l, cs, vs, z, q', t', l, cs', List.set vs (Int.toNat i) ((yq vs i).1, (yq vs i).2.1, s, (yq vs i).2.2.2), z, ok) else none else none) := by
  intro i s ok q' t' cs' h0 h1 hS
  rw [if_pos h0, if_pos h1]
  refine Res.fin z h ⟨⟨hS.S.1, hS.S.2.1, hS.S.2.2.1, hS.S.2.2.2.1, hS.S.2.2.2.2.1, by rw [List.length_set]; exact h.S.2.2.2.2.2⟩, fun v hv => ?_⟩ ok
  rcases List.mem_or_eq_of_mem_set hv with hv | rfl
  ·exact h.N v hv
  ·exact h.N (yq vs i) (zi WM vs i h0 h1)
 have loop : ∀ (k0 : Int × Int × Bool × List yf × List y0 × List yd × List y9 × List ym × Int × Int × Int × List yf × List y0 × List yd × List y9 × List ym → Option P7a) (k1 : Int × Int × Bool × List yf × List y0 × List yd × List y9 × List ym × Int × Int × List yf × List y0 × List yd × Int × List y9 × List ym → Option P7a) (s i b : Int) (ok : Bool) (y : Int), 0 ≤ i → i < (vs.length : Int) → b ≤ 1000 → -1000 ≤ b → 0 ≤ s →
   (∀ ok q' t' cs', SP q' t' l cs' vs → Res q t l cs vs z (k0 (s, i, ok, q, t, l, cs, vs, z, y, z, q', t', l, cs', vs))) →
   (∀ ok q' t' cs', SP q' t' l cs' vs → Res q t l cs vs z (k1 (s, i, ok, q, t, l, cs, vs, z, y, q', t', l, z, cs', vs))) →
   Res q t l cs vs z (wj k0 k1 (Sum.inl (s, i, ok, b, q, t, l, cs, vs, z, y, z, q, t, l, cs, vs))) := by
  intro k0 k1 s i b ok y h0 h1 hb hb0 hs f0 f1
  unfold wj
  refine Z4 (step := j7 k0 k1) (fun u : wi => match u with | .inl u => (u.2.2.2.1 + 1).toNat + 1 | .inr u => (u.2.2.2.1 + 1).toNat)
   (fun u => match u with
    | .inl u => ∃ b ok q' t' cs', b ≤ 1000 ∧ -1000 ≤ b ∧ SP q' t' l cs' vs ∧ u = (s, i, ok, b, q, t, l, cs, vs, z, y, z, q', t', l, cs', vs)
    | .inr u => ∃ b ok q' t' cs', b ≤ 1000 ∧ -1001 ≤ b ∧ SP q' t' l cs' vs ∧ u = (s, i, ok, b, q, t, l, cs, vs, z, y, q', t', l, z, cs', vs))
   (fun _ res => Res q t l cs vs z res) ?_ _ ⟨b, ok, q, t, cs, hb, hb0, h, rfl⟩ (by simp only; omega)
  intro again u hu hag
  cases u with
  | inl u =>
   obtain ⟨b, ok, q', t', cs', k1', k2', hS, rfl⟩ := hu
   unfold j7
   simp only at hag ⊢
   by_cases hbs : b ≥ s
   ·cases ok with
    | false =>
     simp only [decide_eq_true hbs, cond_true, Option.bind_some, cond_false]
     exact f0 _ _ _ _ hS
    | true =>
     obtain ⟨r, q2, t2, cs2, e1, h2⟩ := QA z hS i b h0 h1
     have hw : Go.IntKind.wrap .i64 (b - 1) = b - 1 := w64 (by omega) (by omega)
     simp only [decide_eq_true hbs, cond_true, Option.bind_some, e1, hw]
     exact hag _ ⟨b - 1, r, q2, t2, cs2, by omega, by omega, h2, rfl⟩ (by simp only; omega)
   ·simp only [decide_eq_false hbs, cond_false, Option.bind_some]
    exact f0 _ _ _ _ hS
  | inr u =>
   obtain ⟨b, ok, q', t', cs', k1', k2', hS, rfl⟩ := hu
   unfold j7
   simp only at hag ⊢
   by_cases hbs : b ≥ s
   ·cases ok with
    | false =>
     simp only [decide_eq_true hbs, cond_true, Option.bind_some, cond_false]
     exact f1 _ _ _ _ hS
    | true =>
     obtain ⟨r, q2, t2, cs2, e1, h2⟩ := QA z hS i b h0 h1
     have hw : Go.IntKind.wrap .i64 (b - 1) = b - 1 := w64 (by omega) (by omega)
     simp only [decide_eq_true hbs, cond_true, Option.bind_some, e1, hw]
     exact hag _ ⟨b - 1, r, q2, t2, cs2, by omega, by omega, h2, rfl⟩ (by simp only; omega)
   ·simp only [decide_eq_false hbs, cond_false, Option.bind_some]
    exact f1 _ _ _ _ hS
 unfold Jr
 simp only [VZ z h n (y28 hn), V8 z h, Z7 q t l cs vs z _ h.S.2.2.2.2.2, Yr, Option.bind_some, ykA, yhD]
 cases hb : vr q t l cs vs z n 0 == 0 with
 | false =>
  have hne : (vr q t l cs vs z n 0 != 0) = true := by
   rw [bne, hb]
   rfl
  simp only [cond_false, Option.bind_some, hne, cond_true]
  exact Res.same z _
 | true =>
  have h0 : vr q t l cs vs z n 0 = 0 := by simpa using hb
  cases hs : inR s 1 12 with
  | false =>
   simp only [cond_true, Option.bind_some, Bool.not_false, show ((4 : Int) != 0) = true from rfl]
   exact Res.same z _
  | true =>
   have hne : (vr q t l cs vs z n 0 != 0) = false := by
    rw [bne, hb]
    rfl
   simp only [cond_true, Option.bind_some, Bool.not_true, cond_false, hne]
   obtain ⟨hi, hp⟩ := yfZ z h0
   rw [if_pos hi.1, if_pos hi.2]
   have hs' := zZ.1 hs
   have hr : 1 ≤ (yq vs (Yt vs n)).2.2.1 ∧ (yq vs (Yt vs n)).2.2.1 ≤ 12 := by
    unfold yU at hp
    simp only [Bool.and_eq_true] at hp
    have hv := hp.2.2.2.2.2.1
    unfold vo at hv
    simp only [Bool.and_eq_true, Bool.not_eq_true'] at hv
    obtain ⟨j, hj⟩ := y1l _ vs 0 hv.1 _ (zi WM vs _ hi.1 hi.2)
    unfold yfs at hj
    simp only [Bool.or_eq_false_iff, Bool.not_eq_false', zZ] at hj
    exact hj.2.1
   have hw : Go.IntKind.wrap .i64 ((yq vs (Yt vs n)).2.2.1 - 1) = (yq vs (Yt vs n)).2.2.1 - 1 := w64 (by omega) (by omega)
   rw [hw]
   exact loop _ _ s (Yt vs n) _ true 0 hi.1 hi.2 (by omega) (by omega) (by omega) (fun ok q' t' cs' hS => fin _ s ok q' t' cs' hi.1 hi.2 hS) (fun ok q' t' cs' hS => fin _ s ok q' t' cs' hi.1 hi.2 hS)
end
end Go.Proofs.YthgdjjdigalckaaGreat.Pl
namespace Go.Proofs.YthgdjjdigalckaaGreat.Pl
open Go.Proofs.YthgdjjdigalckaaGreat.R Go.Proofs.YthgdjjdigalckaaGreat.XT
def QL {A : Type} (q : List yf) (t : List y0) (l : List yd) (cs : List y9) (vs : List ym) (z : Int) (o : Option (List yf × List y0 × List yd × List y9 × List ym × Int × A)) : Prop :=
 ∃ q' t' l' cs' vs' z' c, o = some (q', t', l', cs', vs', z', c) ∧ (Tn q' t' l' cs' vs' ∨ (q', t', l', cs', vs', z') = (q, t, l, cs, vs, z))
section
variable {q : List yf} {t : List y0} {l : List yd} {cs : List y9} {vs : List ym} {z : Int}
theorem Res.a {o : Option P7a} (h : Res q t l cs vs z o) : QL q t l cs vs z o := by
 obtain ⟨q', t', l', cs', vs', z', c, e, hc⟩ := h
 exact ⟨q', t', l', cs', vs', z', c, e, hc.imp Qy id⟩
theorem QL.same {A : Type} (c : A) : QL q t l cs vs z (some (q, t, l, cs, vs, z, c)) := ⟨_, _, _, _, _, _, c, rfl, .inr rfl⟩
theorem QL.tn {A : Type} (c : A) {q' : List yf} {t' : List y0} {l' : List yd} {cs' : List y9} {vs' : List ym} {z' : Int} (h : Tn q' t' l' cs' vs') : QL q t l cs vs z (some (q', t', l', cs', vs', z', c)) := ⟨_, _, _, _, _, _, c, rfl, .inl h⟩
theorem Tn.pack (h : Tn q t l cs vs) {i : Int} (h0 : 0 ≤ i) (h1 : i < (t.length : Int)) : Tn q (t.set i.toNat (zq (yZ (yg t i)))) l cs vs := by
 refine ⟨h.ql, ⟨by rw [List.length_set]; exact h.T.len, fun n hn => ?_⟩, h.ll, h.cl, h.vl, h.N, by rw [List.length_set]; exact h.e, by rw [List.length_set]; exact h.p⟩
 rcases List.mem_or_eq_of_mem_set hn with hn | rfl
 ·exact h.T.node n hn
 ·exact Kq (nk h.T h0 h1).keys
end
section
variable {q : List yf} {t : List y0} {l : List yd} {cs : List y9} {vs : List ym} (z : Int) (h : SP q t l cs vs)
include h
theorem y9S (i : Int) : QL q t l cs vs z (zI (q, t, l, cs, vs, z, i)) := by
 unfold zI
 simp only [V8 z h, zP z h, Yr, Option.bind_some]
 cases hp : yU q t l cs vs z with
 | false =>
  simp only [Bool.not_false, cond_true, Option.bind_some]
  exact QL.same _
 | true =>
  have hT := Qy hp
  simp only [Bool.not_true, cond_false, Option.bind_some]
  cases hi : inR i 0 (Go.IntKind.wrap .i64 (((List.length t : Nat) : Int) - (1 : Int))) with
  | false =>
   simp only [Bool.not_false, cond_true]
   exact QL.same _
  | true =>
   have hl := hT.T.len
   have hw : Go.IntKind.wrap .i64 (((List.length t : Nat) : Int) - (1 : Int)) = ((List.length t : Nat) : Int) - 1 := w64 (by omega) (by omega)
   have hi2 := hi
   rw [hw, zZ] at hi
   simp only [Bool.not_true, cond_false]
   unfold Zl jQ
   have hk := nk hT.T hi.1 (show i < (t.length : Int) by omega)
   simp only [kF q t h.S.1 h.S.2.1 (fun n hn => wN h.S.2.2.1 hn), Yr, hi2, Option.bind_some, cond_true]
   simp only [if_pos hi.1, if_pos (show i < ((List.length t : Nat) : Int) by omega), kr hT.T hi.1 (show i < (t.length : Int) by omega), ZE (yZ (yg t i)) (Nat.le_trans hk.keys (by decide)), Option.bind_some]
   exact QL.tn _ (hT.pack hi.1 (by omega))
theorem yg0 (i : Int) : ∃ a b c d e, ZQ (q, t, l, cs, vs, z, i) = some (a, b, c, d, e) := by
 have hq := h.tq
 have hk := y84 t
 have hs3 := h.S.2.2.1
 unfold ZQ KS
 simp only [zY q t (by have := h.S.2.1; omega) (fun n hn => by have := (wN h.S.2.2.1 hn).1; omega) h.S.2.2.1, Option.bind_some]
 refine Z4 (step := YB _ _) (fun u : W7 => (z4 t).length - u.2.1.toNat) (fun u => u.2.2.2.2.2.2.2 = z4 t ∧ 0 ≤ u.2.1 ∧ u.2.1 ≤ (z4 t).length) (fun _ (res : Option (Int × Int × Int × Int × Int)) => ∃ a b c d e : Int, res = some (a, b, c, d, e)) ?_ (i, 0, 0, 0, 0, 0, 0, z4 t) ⟨rfl, Int.le_refl _, by simp⟩ (by simp only; omega)
 rintro again ⟨i1, j, a, b, c, d, e, ks⟩ ⟨e1, h0, h1⟩ hag
 simp only at e1 h0 h1 hag ⊢
 subst e1
 unfold YB
 simp only [Bool.cond_eq_ite, decide_eq_true_eq]
 by_cases hj : j < ((z4 t).length : Int)
 ·have hw : Go.IntKind.wrap .i64 (j + 1) = j + 1 := w64 (by omega) (by omega)
  simp only [if_pos hj, if_pos h0, hw, Option.bind_some]
  split
  ·simp only [Option.bind_some]
   split
   ·exact ⟨_, _, _, _, _, rfl⟩
   ·exact hag _ ⟨rfl, by simp only; omega, by simp only; omega⟩ (by simp only; omega)
  ·simp only [Option.bind_some, Bool.false_eq_true, if_false]
   exact hag _ ⟨rfl, by simp only; omega, by simp only; omega⟩ (by simp only; omega)
 ·simp only [if_neg hj]
  exact ⟨_, _, _, _, _, rfl⟩
theorem y9T (i : Int) : QL q t l cs vs z (zs (q, t, l, cs, vs, z, i)) := by
 unfold zs
 simp only [V8 z h, zP z h, Yr, Option.bind_some]
 cases hp : yU q t l cs vs z with
 | false =>
  simp only [Bool.not_false, cond_true, Option.bind_some]
  exact QL.same _
 | true =>
  have hT := Qy hp
  have hcl := hT.cl
  simp only [Bool.not_true, cond_false, Option.bind_some]
  have hw : Go.IntKind.wrap .i64 (((List.length cs : Nat) : Int) - (1 : Int)) = ((List.length cs : Nat) : Int) - 1 := w64 (by omega) (by omega)
  rw [hw]
  cases hi : inR i 0 (((List.length cs : Nat) : Int) - 1) with
  | false =>
   simp only [Bool.not_false, cond_true, Option.bind_some]
   exact QL.same _
  | true =>
   rw [zZ] at hi
   simp only [Bool.not_true, cond_false, if_pos hi.1, if_pos (show i < ((List.length cs : Nat) : Int) by omega), Option.bind_some]
   obtain ⟨a, b, c, d, e, e1⟩ := yg0 z h i
   obtain ⟨cs', j, u, e2, h1, h2⟩ := y0m cs (yj cs i).2.2 h.S.2.2.2.2.1
   have hq := h.tq
   have hT2 := kt (a, b, c, j, (yj cs' j).1) hq
   have hc' : cs'.length ≤ 1048576 := by rw [h1]; exact h.S.2.2.2.2.1
   cases (yj cs i).2.1 with
   | false =>
    simp only [Bool.not_false, cond_true]
    exact QL.same _
   | true =>
    simp only [Bool.not_true, cond_false, e1, e2, Option.bind_some]
    cases u with
    | false =>
     simp only [Bool.not_false, cond_true, Option.bind_some]
     exact QL.same _
    | true =>
     have h3 := h2 rfl
     simp only [Bool.not_true, cond_false, Option.bind_some]
     cases decide (j > i) with
     | true =>
      simp only [cond_true]
      exact QL.same _
     | false =>
      have hx : SP (yJ q t (a, b, c, j, (yj cs' j).1)).1 (yJ q t (a, b, c, j, (yj cs' j).1)).2.1 l (y22 cs' i) vs := hT2.sp h h.S.2.2.2.1 (by rw [Qv]; exact hc')
      simp only [cond_false, if_pos h3.1, if_pos (show j < ((List.length cs' : Nat) : Int) by rw [h1]; exact h3.2), YH q t a b c j (yj cs' j).1 hq.T hq.Q hq.q, ji cs' i hc', zP z hx, Option.bind_some]
      cases (yJ q t (a, b, c, j, (yj cs' j).1)).2.2 with
      | false =>
       simp only [Bool.not_false, cond_true, Option.bind_some]
       exact QL.same _
      | true =>
       simp only [Bool.not_true, cond_false, Option.bind_some]
       cases hp2 : yU (yJ q t (a, b, c, j, (yj cs' j).1)).1 (yJ q t (a, b, c, j, (yj cs' j).1)).2.1 l (y22 cs' i) vs z with
       | false =>
        simp only [Bool.not_false, cond_true]
        exact QL.same _
       | true =>
        simp only [Bool.not_true, cond_false]
        exact QL.tn _ (Qy hp2)
theorem y8G : QL q t l cs vs z (zX (q, t, l, cs, vs, z)) := by
 rw [y1q z h]
 have key : y9N (y55 q t l cs vs z).1 = true ∨ (y55 q t l cs vs z).1 = (q, t, l, cs, vs, z) := by
  unfold y55
  split
  ·split
   ·exact .inr rfl
   ·unfold yaR
    split
    ·rename_i hh
     rw [Bool.and_eq_true] at hh
     exact .inl hh.2
    ·exact .inr rfl
  ·exact .inr rfl
 unfold y3I
 rcases key with hk | hk
 ·exact QL.tn _ (Qy hk)
 ·rw [hk]
  exact QL.same _
theorem yg1 (k : Int) (n m : ByteArray) (a b : Int) (hn : n.size ≤ 60) (hm : m.size ≤ 60) : QL q t l cs vs z (jT (q, t, l, cs, vs, z, k, n, m, a, b)) := by
 unfold jT kA
 simp only [y8E k n m a b (y28 hn) (y28 hm), zP z h, V8 z h, Option.bind_some, ykA, yxa, yhD]
 have key : ∀ u : Bool, QL q t l cs vs z (bif u then some (q, t, l, cs, vs, z, (1 : Int)) else bif (k == (1 : Int)) then Jm (q, t, l, cs, vs, z, n, a) else bif (k == (2 : Int)) then WY (q, t, l, cs, vs, z, n, m, (b == (1 : Int))) else bif (k == (3 : Int)) then ZN (q, t, l, cs, vs, z, n) else bif (k == (4 : Int)) then wH (q, t, l, cs, vs, z, n, a, b) else bif (k == (5 : Int)) then jm (q, t, l, cs, vs, z, n, a) else bif (k == (6 : Int)) then Jr (q, t, l, cs, vs, z, n, a) else
   Option.bind (bif (k == (7 : Int)) then zX (q, t, l, cs, vs, z) else bif (k == (8 : Int)) then zI (q, t, l, cs, vs, z, a) else zs (q, t, l, cs, vs, z, a)) fun r11 => bif (!r11.2.2.2.2.2.2) then some (r11.1, r11.2.1, r11.2.2.1, r11.2.2.2.1, r11.2.2.2.2.1, r11.2.2.2.2.2.1, (2 : Int)) else some (r11.1, r11.2.1, r11.2.2.1, r11.2.2.2.1, r11.2.2.2.2.1, r11.2.2.2.2.2.1, (0 : Int))) := by
  intro u
  refine ZG (P := QL q t l cs vs z) _ (fun _ => QL.same _) fun _ => ZG (P := QL q t l cs vs z) _ (fun _ => (ydz z h n a hn).a) fun _ => ZG (P := QL q t l cs vs z) _ (fun _ => (ykB z h n m _ hn hm).a) fun _ => ZG (P := QL q t l cs vs z) _ (fun _ => (ydA z h n hn).a) fun _ => ZG (P := QL q t l cs vs z) _ (fun _ => (yfY z h n a b hn).a) fun _ => ZG (P := QL q t l cs vs z) _ (fun _ => (ybN z h n a hn).a) fun _ => ZG (P := QL q t l cs vs z) _ (fun _ => (ydC z h n a hn).a) fun _ => ?_
  have hs : QL q t l cs vs z (bif (k == (7 : Int)) then zX (q, t, l, cs, vs, z) else bif (k == (8 : Int)) then zI (q, t, l, cs, vs, z, a) else zs (q, t, l, cs, vs, z, a)) :=
   ZG (P := QL q t l cs vs z) _ (fun _ => y8G z h) fun _ => ZG (P := QL q t l cs vs z) _ (fun _ => y9S z h a) fun _ => y9T z h a
  obtain ⟨q', t', l', cs', vs', z', c, e, hc⟩ := hs
  rw [e]
  cases c
  ·exact ⟨_, _, _, _, _, _, _, rfl, hc⟩
  ·exact ⟨_, _, _, _, _, _, _, rfl, hc⟩
 cases yx9 k n m a b
 ·exact key true
 ·exact key _
end
end Go.Proofs.YthgdjjdigalckaaGreat.Pl
namespace Go.Proofs.YthgdjjdigalckaaGreat.Pl
open Go.Proofs.YthgdjjdigalckaaGreat.R Go.Proofs.YthgdjjdigalckaaGreat.XT
theorem ydD (c : List Int) (p s : Int) (L : List ByteArray) (hL : 0 < L.length) (hL2 : L.length ≤ 1048576) (hs : ∀ t ∈ L, t.size ≤ 60) (h : Yf c p) : jA (jF (c, p, s, L)) c (fun v => v.size ≤ 60) := by
 obtain ⟨v, p1, s1, e1, h1, q1⟩ := zc c p s (L.length : Int) h
 have := q1.2 (by omega)
 unfold jF
 rw [e1]
 simp only [Option.bind_some]
 rw [if_pos q1.1, if_pos this]
 exact ⟨_, _, _, rfl, h1, hs _ (zi yer L v q1.1 this)⟩
theorem ydE (c : List Int) (p s : Int) (h : Yf c p) : jA (zL (c, p, s)) c (fun v => v.size ≤ 60) := by
 obtain ⟨v, p1, s1, e1, h1, q1⟩ := ydD c p s [{ data := #[97] }, { data := #[98] }, { data := #[99] }, { data := #[100] }, { data := #[101, 53] }] (by simp) (by simp) (by decide) h
 unfold zL
 rw [e1]
 exact ⟨_, _, _, rfl, h1, q1⟩
theorem yg2 (c : List Int) (p s : Int) (h : Yf c p) : jA (Yq (c, p, s)) c (fun _ => True) := by
 obtain ⟨v, p1, s1, e1, h1, q1⟩ := zc c p s 200 h
 unfold Yq
 rw [e1]
 simp only [Option.bind_some]
 obtain ⟨v2, p2, s2, e2, h2, q2⟩ := JE c p1 s1 [0, 1, 2, 7, 65535, Go.IntKind.wrap .i64 (1 + v)] (by simp) (by simp) h1
 rw [e2]
 exact ⟨_, _, _, rfl, h2, trivial⟩
def y3R (o : Option (Int × ByteArray × ByteArray × Int × Int × List Int × Int × Int)) (c : List Int) : Prop := ∃ k n t a b p s, o = some (k, n, t, a, b, c, p, s) ∧ Yf c p ∧ ByteArray.size n ≤ 60 ∧ ByteArray.size t ≤ 60
theorem yrT {c : List Int} {p s : Int} {L : List Int} {k b : Int} {n t : ByteArray} (hL : 0 < L.length) (hL2 : L.length ≤ 1048576) (h : Yf c p) (hn : n.size ≤ 60) (ht : t.size ≤ 60) :
  y3R (Option.bind (yt (c, p, s, L)) fun r => some (k, n, t, r.1, b, r.2.1, r.2.2.1, r.2.2.2)) c := by
 obtain ⟨v, p1, s1, e1, h1, _⟩ := JE c p s L hL hL2 h
 rw [e1]
 exact ⟨_, _, _, _, _, _, _, rfl, h1, hn, ht⟩
theorem yrU {c : List Int} {p s m : Int} {k b : Int} {n t : ByteArray} (h : Yf c p) (hn : n.size ≤ 60) (ht : t.size ≤ 60) :
  y3R (Option.bind (yc (c, p, s, m)) fun r => some (k, n, t, r.1, b, r.2.1, r.2.2.1, r.2.2.2)) c := by
 obtain ⟨v, p1, s1, e1, h1, _⟩ := zc c p s m h
 rw [e1]
 exact ⟨_, _, _, _, _, _, _, rfl, h1, hn, ht⟩
theorem yrV {c : List Int} {p s : Int} {L : List Int} {k a : Int} {n : ByteArray} (hL : 0 < L.length) (hL2 : L.length ≤ 1048576) (h : Yf c p) (hn : n.size ≤ 60) :
  y3R (Option.bind (zL (c, p, s)) fun r4 => Option.bind (yt (r4.2.1, r4.2.2.1, r4.2.2.2, L)) fun r5 => some (k, n, r4.1, a, r5.1, r5.2.1, r5.2.2.1, r5.2.2.2)) c := by
 obtain ⟨v, p1, s1, e1, h1, q1⟩ := ydE c p s h
 rw [e1]
 simp only [Option.bind_some]
 obtain ⟨v2, p2, s2, e2, h2, _⟩ := JE c p1 s1 L hL hL2 h1
 rw [e2]
 exact ⟨_, _, _, _, _, _, _, rfl, h2, hn, q1⟩
theorem yrW {c : List Int} {p s m : Int} {k : Int} {n t : ByteArray} (h : Yf c p) (hn : n.size ≤ 60) (ht : t.size ≤ 60) :
  y3R (Option.bind (yc (c, p, s, m)) fun r6 => Option.bind (Yq (r6.2.1, r6.2.2.1, r6.2.2.2)) fun r7 => some (k, n, t, r6.1, r7.1, r7.2.1, r7.2.2.1, r7.2.2.2)) c := by
 obtain ⟨v, p1, s1, e1, h1, _⟩ := zc c p s m h
 rw [e1]
 simp only [Option.bind_some]
 obtain ⟨v2, p2, s2, e2, h2, _⟩ := yg2 c p1 s1 h1
 rw [e2]
 exact ⟨_, _, _, _, _, _, _, rfl, h2, hn, ht⟩
theorem yrX {c : List Int} {p s k a b : Int} {n t : ByteArray} (h : Yf c p) (hn : n.size ≤ 60) (ht : t.size ≤ 60) : y3R (some (k, n, t, a, b, c, p, s)) c := ⟨_, _, _, _, _, _, _, rfl, h, hn, ht⟩
theorem yxc : (⟨#[]⟩ : ByteArray).size ≤ 60 := by decide
theorem yQ {A : Type} {P : A → Prop} (b : Bool) {x y : A} (hx : P x) (hy : P y) : P (bif b then x else y) := by cases b <;> assumption
theorem yxd (c : List Int) (p s : Int) (h : Yf c p) : y3R (Za (c, p, s)) c := by
 unfold Za
 obtain ⟨v, p1, s1, e1, h1, _⟩ := JE c p s [1, 1, 1, 2, 2, 3, 4, 4, 4, 4, 4, 4, 5, 6, 7, 7, 8, 9] (by simp) (by simp) h
 rw [e1]
 simp only [Option.bind_some]
 obtain ⟨n, p2, s2, e2, h2, hn⟩ := ydD c p1 s1 [{ data := #[97] }, { data := #[97] }, { data := #[98] }, { data := #[99] }, { data := #[100] }] (by simp) (by simp) (by decide) h1
 rw [e2]
 simp only [Option.bind_some]
 have hz := yxc
 repeat' (first
  | with_reducible refine yQ (P := fun o => y3R o c) _ ?_ ?_
  | with_reducible exact yrT (by simp) (by simp) h2 hn hz
  | with_reducible exact yrT (by simp) (by simp) h1 hz hz
  | with_reducible exact yrV (by simp) (by simp) h2 hn
  | with_reducible exact yrV (by simp) (by simp) h1 hz
  | with_reducible exact yrW h2 hn hz
  | with_reducible exact yrW h1 hz hz
  | with_reducible exact yrU h2 hn hz
  | with_reducible exact yrU h1 hz hz
  | with_reducible exact yrX h2 hn hz
  | with_reducible exact yrX h1 hz hz)
end Go.Proofs.YthgdjjdigalckaaGreat.Pl
namespace Go.Proofs.YthgdjjdigalckaaGreat.Pl
open Go.Proofs.YthgdjjdigalckaaGreat.R Go.Proofs.YthgdjjdigalckaaGreat.XT
def q8 (o : Option (Int × Int × Int × Int × Int × List Int × Int × Int)) (c : List Int) : Prop := ∃ a b k d g p s, o = some (a, b, k, d, g, c, p, s) ∧ Yf c p
theorem QM (c : List Int) (p s : Int) (h : Yf c p) : q8 (zM (c, p, s)) c := by
 obtain ⟨v1, p1, s1, e1, h1, q1⟩ := zc c p s 4 h
 obtain ⟨v2, p2, s2, e2, h2, q2⟩ := zc c p1 s1 5 h1
 obtain ⟨v3, p3, s3, e3, h3, q3⟩ := JE c p2 s2 [0, 1, 1, 1, 2] (by simp) (by simp) h2
 obtain ⟨v4, p4, s4, e4, h4, q4⟩ := zc c p3 s3 24 h3
 obtain ⟨v5, p5, s5, e5, h5, q5⟩ := JE c p4 s4 [0, 1, 256, 999] (by simp) (by simp) h4
 unfold zM
 simp only [e1, e2, e3, e4, e5, Option.bind_some]
 exact yQ (P := fun o => q8 o c) _ ⟨_, _, _, _, _, _, _, rfl, h5⟩ ⟨_, _, _, _, _, _, _, rfl, h3⟩
theorem ykC (c : List Int) (p s : Int) (h : Yf c p) : q8 (kQ (c, p, s)) c := by
 obtain ⟨a, b, k, d, g, p1, s1, e1, h1⟩ := QM c p s h
 obtain ⟨v2, p2, s2, e2, h2, q2⟩ := zc c p1 s1 12 h1
 obtain ⟨v3, p3, s3, e3, h3, q3⟩ := JE c p2 s2 [-1, 15, 16] (by simp) (by simp) h2
 obtain ⟨v4, p4, s4, e4, h4, q4⟩ := JE c p2 s2 [0, 60, 61] (by simp) (by simp) h2
 obtain ⟨v5, p5, s5, e5, h5, q5⟩ := JE c p2 s2 [-1, 3] (by simp) (by simp) h2
 obtain ⟨v6, p6, s6, e6, h6, q6⟩ := JE c p2 s2 [-1, 1, 23, 24] (by simp) (by simp) h2
 obtain ⟨v7, p7, s7, e7, h7, q7⟩ := JE c p2 s2 [-1, 1, 999, 1000] (by simp) (by simp) h2
 unfold kQ
 simp only [e1, e2, e3, e4, e5, e6, e7, Option.bind_some]
 exact yQ (P := fun o => q8 o c) _ ⟨_, _, _, _, _, _, _, rfl, h3⟩ (yQ (P := fun o => q8 o c) _ ⟨_, _, _, _, _, _, _, rfl, h4⟩ (yQ (P := fun o => q8 o c) _ ⟨_, _, _, _, _, _, _, rfl, h5⟩ (yQ (P := fun o => q8 o c) _ ⟨_, _, _, _, _, _, _, rfl, h6⟩ (yQ (P := fun o => q8 o c) _ ⟨_, _, _, _, _, _, _, rfl, h7⟩ ⟨_, _, _, _, _, _, _, rfl, h2⟩))))
theorem yxe (c : List Int) (p s : Int) (h : Yf c p) : q8 (kP (c, p, s)) c := by
 obtain ⟨a, b, k, d, g, p1, s1, e1, h1⟩ := QM c p s h
 obtain ⟨v2, p2, s2, e2, h2, q2⟩ := zc c p1 s1 12 h1
 unfold kP
 simp only [e1, e2, Option.bind_some]
 exact ⟨_, _, _, _, _, _, _, rfl, h2⟩
theorem ykD (c : List Int) (p s m : Int) (h : Yf c p) (m0 : 0 ≤ m) (m1 : m ≤ 100) : jA (Wl (c, p, s, m)) c (fun l => l.length ≤ 101) := by
 obtain ⟨v1, p1, s1, e1, h1, q1⟩ := zc c p s (m + 1) h
 have b1 := q1.2 (by omega)
 unfold Wl Q7
 try simp only []
 rw [show Go.IntKind.wrap .i64 (m + 1) = m + 1 from w64 (by omega) (by omega), e1]
 simp only [Option.bind_some]
 refine Z4 (step := Wk _) (fun u : Wj => u.1.toNat) (fun u => ∃ k l p s, u = (k, c, p, s, l) ∧ Yf c p ∧ 0 ≤ k ∧ (List.length l : Int) + k ≤ 101) (fun _ (res : Option (List ya × List Int × Int × Int)) => jA res c (fun l : List ya => l.length ≤ 101)) ?_ (v1, c, p1, s1, []) ⟨v1, [], p1, s1, rfl, h1, q1.1, by simp; omega⟩ (by simp only; omega)
 rintro again _ ⟨k, l, p, s, rfl, hc, hk, hl⟩ hag
 unfold Wk
 simp only [Bool.cond_eq_ite, decide_eq_true_eq]
 by_cases hk2 : k > 0
 ·obtain ⟨a, b, kk, d, g, p2, s2, e2, h2⟩ := QM c p s hc
  have hs := JA l (a, b, kk, d, g)
  have hw : Go.IntKind.wrap .i64 (k - 1) = k - 1 := w64 (by omega) (by omega)
  simp only [if_pos hk2, e2, Option.bind_some, w9 l a b kk d g (by omega), hw]
  exact hag _ ⟨_, _, _, _, rfl, h2, by omega, by omega⟩ (by simp only; omega)
 ·simp only [if_neg hk2]
  exact ⟨_, _, _, rfl, hc, by simp only; omega⟩
theorem ybO (c : List Int) (p s m : Int) (h : Yf c p) (m0 : 0 ≤ m) (m1 : m ≤ 100) : jA (kR (c, p, s, m)) c (fun l => l.length ≤ 102) := by
 obtain ⟨l, p1, s1, e1, h1, q1⟩ := ykD c p s m h m0 m1
 obtain ⟨v2, p2, s2, e2, h2, q2⟩ := zc c p1 s1 8 h1
 obtain ⟨a, b, k, d, g, p3, s3, e3, h3⟩ := ykC c p2 s2 h2
 unfold kR
 simp only [e1, e2, e3, Option.bind_some]
 refine yQ (P := fun o => jA o c (fun l : List ya => l.length ≤ 102)) _ ?_ (yQ (P := fun o => jA o c (fun l : List ya => l.length ≤ 102)) _ (ZG (P := fun o => jA o c (fun l : List ya => l.length ≤ 102)) _ (fun hh => ?_) fun _ => ⟨_, _, _, rfl, h2, by omega⟩) ⟨_, _, _, rfl, h2, by omega⟩)
 ·rw [if_pos (by simp only [List.length_cons, List.length_nil]; omega)]
  exact ⟨_, _, _, rfl, h3, by simp only [List.length_append, List.length_cons, List.length_nil]; omega⟩
 ·have hh := of_decide_eq_true hh
  simp only [List.length_set, if_pos (Int.le_refl (0 : Int)), if_pos (show (0 : Int) < ((List.length l : Nat) : Int) by omega), if_pos (show (0 : Int) ≤ 1 by omega), if_pos (show (1 : Int) < ((List.length l : Nat) : Int) by omega)]
  exact ⟨_, _, _, rfl, h2, by simp only [List.length_set]; omega⟩
def Nsm (n : List yb) (a : Nat) (b : Int) : Prop := n.length ≤ a ∧ wK vv n ≤ b
theorem Nsm.ns {n : List yb} {a : Nat} {b : Int} (h : Nsm n a b) (ha : a ≤ 900) (hb : b ≤ 900) : NS n := ⟨Nat.le_trans h.1 (by omega), by have := h.2; omega⟩
theorem y9U (n : List yb) (k : ya) (h : Nsm n 3 8) : Nsm (zr n k).1 3 8 := by
 unfold zr
 split
 ·rename_i hh
  exact ⟨(ZF hh).1, (ZF hh).2.1⟩
 ·split
  ·exact h
  ·split
   ·rename_i hh
    exact ⟨(ZF hh).1, (ZF hh).2.1⟩
   ·exact h
theorem yg3 (c : List Int) (p s : Int) (h : Yf c p) : jA (Wi (c, p, s)) c (fun n : List yb => Nsm n 3 8) := by
 obtain ⟨v1, p1, s1, e1, h1, q1⟩ := zc c p s 12 h
 have b1 := q1.2 (by omega)
 have z0 : Nsm [] 3 8 := ⟨by simp, by simp [wK]⟩
 unfold Wi Q6
 rw [e1]
 simp only [Option.bind_some]
 refine Z4 (step := jU _ _) (fun u : Wh => match u with | .inl u => u.1.toNat | .inr u => u.1.toNat) (fun u => match u with | .inl u => ∃ k p s, u = (k, c, p, s) ∧ Yf c p ∧ 0 ≤ k ∧ k ≤ 100 | .inr u => ∃ k n p s, u = (k, c, p, s, n) ∧ Yf c p ∧ 0 ≤ k ∧ k ≤ 100 ∧ Nsm n 3 8) (fun _ (res : Option (List yb × List Int × Int × Int)) => jA res c (fun n : List yb => Nsm n 3 8)) ?_ (Sum.inl (v1, c, p1, s1)) ⟨v1, p1, s1, rfl, h1, q1.1, by omega⟩ (by simp only; omega)
 intro again u hu hag
 have step : ∀ (k : Int) (n : List yb) (p s : Int), Yf c p → 0 ≤ k → k ≤ 100 → Nsm n 3 8 → k > 0 → (∀ k' n' p' s', Yf c p' → 0 ≤ k' → k' < k → Nsm n' 3 8 → jA (again (Sum.inr (k', c, p', s', n'))) c (fun n : List yb => Nsm n 3 8)) → jA (Option.bind (zM (c, p, s)) fun r2 => Option.bind (Yu (n, r2.1, r2.2.1, r2.2.2.1, r2.2.2.2.1, r2.2.2.2.2.1)) fun r3 => again (Sum.inr ((Go.IntKind.wrap .i64 (k - (1 : Int))), r2.2.2.2.2.2.1, r2.2.2.2.2.2.2.1, r2.2.2.2.2.2.2.2, r3.1))) c (fun n : List yb => Nsm n 3 8) := by
  intro k n p s hc k0 k1 hn hk hag2
  obtain ⟨a, b, kk, d, g, p2, s2, e2, h2⟩ := QM c p s hc
  have hw : Go.IntKind.wrap .i64 (k - 1) = k - 1 := w64 (by omega) (by omega)
  simp only [e2, Option.bind_some, Qt n a b kk d g (hn.ns (by omega) (by omega)), hw]
  exact hag2 _ _ _ _ h2 (by omega) (by omega) (y9U n _ hn)
 cases u with
 | inl u =>
  obtain ⟨k, p, s, rfl, hc, k0, k1⟩ := hu
  unfold jU
  simp only [Bool.cond_eq_ite, decide_eq_true_eq]
  by_cases hk : k > 0
  ·simp only [if_pos hk]
   exact step k [] p s hc k0 k1 z0 hk fun k' n' p' s' g1 g2 g3 g4 => hag _ ⟨_, _, _, _, rfl, g1, g2, by omega, g4⟩ (by simp only; omega)
  ·simp only [if_neg hk]
   exact ⟨_, _, _, rfl, hc, z0⟩
 | inr u =>
  obtain ⟨k, n, p, s, rfl, hc, k0, k1, hn⟩ := hu
  unfold jU
  simp only [Bool.cond_eq_ite, decide_eq_true_eq]
  by_cases hk : k > 0
  ·simp only [if_pos hk]
   exact step k n p s hc k0 k1 hn hk fun k' n' p' s' g1 g2 g3 g4 => hag _ ⟨_, _, _, _, rfl, g1, g2, by omega, g4⟩ (by simp only; omega)
  ·simp only [if_neg hk]
   exact ⟨_, _, _, rfl, hc, hn⟩
theorem y3S (c : List Int) (p s : Int) (h : Yf c p) : jA (wI (c, p, s)) c (fun n : List yb => NS n) := by
 obtain ⟨n, p1, s1, e1, h1, q1⟩ := yg3 c p s h
 obtain ⟨v2, p2, s2, e2, h2, q2⟩ := zc c p1 s1 8 h1
 obtain ⟨l, p3, s3, e3, h3, q3⟩ := ybO c p2 s2 6 h2 (by omega) (by omega)
 obtain ⟨a, b, k, d, g, p4, s4, e4, h4⟩ := QM c p2 s2 h2
 obtain ⟨a5, b5, k5, d5, g5, p5, s5, e5, h5⟩ := QM c p4 s4 h4
 have hl := q1.1
 have hs := q1.2
 unfold wI
 simp only [e1, e2, e3, e4, e5, Option.bind_some]
 refine yQ (P := fun o => jA o c (fun n : List yb => NS n)) _ ?_ (yQ (P := fun o => jA o c (fun n : List yb => NS n)) _ ?_ ⟨_, _, _, rfl, h2, q1.ns (by omega) (by omega)⟩)
 ·rw [if_pos (by simp only [List.length_cons, List.length_nil]; omega)]
  refine ⟨_, _, _, rfl, h3, ⟨by rw [List.length_append]; simp only [List.length_cons, List.length_nil]; omega, ?_⟩⟩
  rw [y0W]
  have : vv l = (List.length l : Int) := rfl
  omega
 ·rw [if_pos (by simp only [List.length_cons, List.length_nil]; omega)]
  refine ⟨_, _, _, rfl, h5, ⟨by rw [List.length_append]; simp only [List.length_cons, List.length_nil]; omega, ?_⟩⟩
  rw [show n ++ [[(a, b, k, d, g)], [(a5, b5, k5, d5, g5)]] = (n ++ [[(a, b, k, d, g)]]) ++ [[(a5, b5, k5, d5, g5)]] by simp, y0W, y0W]
  have e1 : vv [(a, b, k, d, g)] = 1 := rfl
  have e2 : vv [(a5, b5, k5, d5, g5)] = 1 := rfl
  omega
theorem ydF (q : List yf) (t : List y0) (k : ya) (h : TS t ∧ q.length = t.length ∧ 1 ≤ t.length ∧ t.length ≤ 20) : TS (yJ q t k).2.1 ∧ (yJ q t k).1.length = (yJ q t k).2.1.length ∧ 1 ≤ (yJ q t k).2.1.length ∧ (yJ q t k).2.1.length ≤ 20 := by
 unfold yJ
 split
 ·split
  ·rename_i hj
   have h1 := wd hj
   exact ⟨vp hj, h1.1, h1.2.1, h1.2.2.1⟩
  ·exact h
 ·exact h
def y3T (o : Option (List yf × List y0 × List Int × Int × Int)) (c : List Int) (Q : List yf → List y0 → Prop) : Prop := ∃ q t p s, o = some (q, t, c, p, s) ∧ Yf c p ∧ Q q t
def ysz (q : List yf) (t : List y0) : Prop := TS t ∧ q.length = t.length ∧ 1 ≤ t.length ∧ t.length ≤ 20
theorem yg4 (c : List Int) (p s m : Int) (h : Yf c p) (m0 : 0 ≤ m) (m1 : m ≤ 1000) : y3T (Wg (c, p, s, m)) c ysz := by
 obtain ⟨v1, p1, s1, e1, h1, q1⟩ := zc c p s (m + 1) h
 have b1 := q1.2 (by omega)
 have z0 : ysz [0] [[]] := ⟨⟨by simp, fun n hn => by
  rw [List.mem_singleton.1 hn]
  exact ⟨by simp, by simp [wK]⟩⟩, rfl, by simp, by simp⟩
 unfold Wg Q5 jj
 simp only [Option.bind_some]
 try simp only []
 rw [show Go.IntKind.wrap .i64 (m + 1) = m + 1 from w64 (by omega) (by omega), e1]
 simp only [Option.bind_some]
 refine Z4 (step := Wf _) (fun u : We => u.1.toNat) (fun u => ∃ k q t p s, u = (k, c, p, s, q, t) ∧ Yf c p ∧ 0 ≤ k ∧ k ≤ 1000 ∧ ysz q t) (fun _ (res : Option (List yf × List y0 × List Int × Int × Int)) => y3T res c ysz) ?_ (v1, c, p1, s1, [0], [[]]) ⟨v1, _, _, p1, s1, rfl, h1, q1.1, by omega, z0⟩ (by simp only; omega)
 rintro again _ ⟨k, q, t, p, s, rfl, hc, k0, k1, hT⟩ hag
 unfold Wf
 simp only [Bool.cond_eq_ite, decide_eq_true_eq]
 by_cases hk : k > 0
 ·obtain ⟨a, b, kk, d, g, p2, s2, e2, h2⟩ := yxe c p s hc
  have hw : Go.IntKind.wrap .i64 (k - 1) = k - 1 := w64 (by omega) (by omega)
  have hq := hT.1.tq (q := q) (by have := hT.2.1; have := hT.2.2.2; omega)
  simp only [if_pos hk, e2, Option.bind_some, YH q t a b kk d g hq.T hq.Q hq.q, hw]
  exact hag _ ⟨_, _, _, _, _, rfl, h2, by omega, by omega, ydF q t _ hT⟩ (by simp only; omega)
 ·simp only [if_neg hk]
  exact ⟨_, _, _, _, rfl, hc, hT⟩
theorem y9V (c : List Int) (p s m : Int) (h : Yf c p) (m0 : 0 ≤ m) (m1 : m ≤ 1000) : y3T (kS (c, p, s, m)) c TQ := by
 obtain ⟨q, t, p1, s1, e1, h1, q1⟩ := yg4 c p s m h m0 m1
 obtain ⟨v2, p2, s2, e2, h2, q2⟩ := zc c p1 s1 12 h1
 obtain ⟨v3, p3, s3, e3, h3, q3⟩ := zc c p2 s2 (q.length : Int) h2
 obtain ⟨v4, p4, s4, e4, h4, q4⟩ := JE c p3 s3 [0, -1, 1, 300] (by simp) (by simp) h3
 obtain ⟨n5, p5, s5, e5, h5, q5⟩ := y3S c p2 s2 h2
 obtain ⟨v6, p6, s6, e6, h6, q6⟩ := zc c p2 s2 (t.length : Int) h2
 obtain ⟨n7, p7, s7, e7, h7, q7⟩ := y3S c p6 s6 h6
 obtain ⟨hT, hql, t1, t2⟩ := q1
 have b3 := q3.2 (by omega)
 have b6 := q6.2 (by omega)
 unfold kS
 simp only [e1, e2, e3, e4, e5, e6, e7, Option.bind_some]
 refine yQ (P := fun o => y3T o c TQ) _ ?_ (yQ (P := fun o => y3T o c TQ) _ ?_ (yQ (P := fun o => y3T o c TQ) _ ?_ (yQ (P := fun o => y3T o c TQ) _ ?_ ?_)))
 ·rw [if_pos q3.1, if_pos b3]
  exact ⟨_, _, _, _, rfl, h4, hT.tq (by rw [List.length_set]; omega)⟩
 ·rw [if_pos (by simp only [List.length_cons, List.length_nil]; omega)]
  refine ⟨_, _, _, _, rfl, h5, TS.tq ⟨by rw [List.length_append]; simp only [List.length_cons, List.length_nil]; omega, fun n hn => ?_⟩ (by omega)⟩
  rcases List.mem_append.1 hn with hn | hn
  ·exact hT.node n hn
  ·rw [List.mem_singleton.1 hn]
   exact q5
 ·rw [if_pos q6.1, if_pos b6]
  refine ⟨_, _, _, _, rfl, h7, TS.tq ⟨by rw [List.length_set]; omega, fun n hn => ?_⟩ (by omega)⟩
  rcases List.mem_or_eq_of_mem_set hn with hn | rfl
  ·exact hT.node n hn
  ·exact q7
 ·exact ⟨_, _, _, _, rfl, h2, TS.tq ⟨by simp, fun n hn => by cases hn⟩ (by simp)⟩
 ·exact ⟨_, _, _, _, rfl, h2, hT.tq (by omega)⟩
end Go.Proofs.YthgdjjdigalckaaGreat.Pl
namespace Go.Proofs.YthgdjjdigalckaaGreat.Pl
open Go.Proofs.YthgdjjdigalckaaGreat.R Go.Proofs.YthgdjjdigalckaaGreat.XT
theorem ydG (c : List Int) (p s n : Int) (h : Yf c p) : jA (Jt (c, p, s, n)) c (fun _ => True) := by
 obtain ⟨v, p1, s1, e1, h1, q1⟩ := zc c p s n h
 unfold Jt
 rw [e1]
 exact ⟨_, _, _, rfl, h1, trivial⟩
abbrev AL : Type := List yd × List Int × Int × Int
theorem yg5 (c : List Int) (p s : Int) (h : Yf c p) : jA (Wo (c, p, s)) c (fun l : List yd => l.length ≤ 8) := by
 obtain ⟨v1, p1, s1, e1, h1, q1⟩ := zc c p s 8 h
 have b1 := q1.2 (by omega)
 unfold Wo Q8
 rw [e1]
 simp only [Option.bind_some]
 refine Z4 (step := Wn _) (fun u : Wm => u.1.toNat) (fun u => ∃ k l p s, u = (k, c, p, s, l) ∧ Yf c p ∧ 0 ≤ k ∧ (List.length l : Int) + k ≤ 8) (fun _ (res : Option AL) => jA res c (fun l : List yd => l.length ≤ 8)) ?_ (v1, c, p1, s1, []) ⟨v1, [], p1, s1, rfl, h1, q1.1, by simp; omega⟩ (by simp only; omega)
 rintro again _ ⟨k, l, p, s, rfl, hc, hk, hl⟩ hag
 unfold Wn
 simp only [Bool.cond_eq_ite, decide_eq_true_eq]
 by_cases hk2 : k > 0
 ·have hw : Go.IntKind.wrap .i64 (k - 1) = k - 1 := w64 (by omega) (by omega)
  have step : ∀ (p s id fr : Int), Yf c p → jA (Option.bind (zT (l, id, fr)) fun r => again (k - 1, c, p, s, r.1)) c (fun l : List yd => l.length ≤ 8) := fun p s id fr hp => by
   obtain ⟨l', b, e2, h2⟩ := y0Z l id fr (by omega)
   rw [e2]
   exact hag (k - 1, c, p, s, l') ⟨k - 1, l', p, s, rfl, hp, by omega, by omega⟩ (by simp only; omega)
  obtain ⟨v2, p2, s2, e2, h2, _⟩ := ydG c p s 4 hc
  obtain ⟨v3, p3, s3, e3, h3, q3⟩ := zc c p2 s2 (l.length : Int) h2
  obtain ⟨v4, p4, s4, e4, h4, _⟩ := zc c p3 s3 8 h3
  obtain ⟨v6, p6, s6, e6, h6, _⟩ := zc c p2 s2 8 h2
  obtain ⟨v8, p8, s8, e8, h8, _⟩ := zc c p s 8 hc
  simp only [if_pos hk2, hw, e2, e3, e6, e8, Option.bind_some]
  split
  ·rename_i hlen
   split
   ·rw [if_pos q3.1, if_pos (q3.2 hlen), e4]
    exact step _ _ _ _ h4
   ·exact step _ _ _ _ h6
  ·exact step _ _ _ _ h8
 ·simp only [if_neg hk2]
  exact ⟨_, _, _, rfl, hc, by simp only; omega⟩
theorem y9W (c : List Int) (p s : Int) (h : Yf c p) : jA (kT (c, p, s)) c (fun l : List yd => l.length ≤ 100) := by
 obtain ⟨l, p1, s1, e1, h1, q1⟩ := yg5 c p s h
 obtain ⟨v2, p2, s2, e2, h2, q2⟩ := zc c p1 s1 8 h1
 obtain ⟨v3, p3, s3, e3, h3, q3⟩ := JE c p2 s2 [0, 3, 60, 61] (by simp) (by simp) h2
 obtain ⟨v4, p4, s4, e4, h4, q4⟩ := JE c p3 s3 [0, 1, 9, -1] (by simp) (by simp) h3
 obtain ⟨v5, p5, s5, e5, h5, q5⟩ := JE c p2 s2 [1, 2, 3] (by simp) (by simp) h2
 unfold kT
 simp only [e1, e2, e3, e4, e5, Option.bind_some]
 refine yQ (P := fun o => jA o c (fun l : List yd => l.length ≤ 100)) _ ?_ (yQ (P := fun o => jA o c (fun l : List yd => l.length ≤ 100)) _ (ZG (P := fun o => jA o c (fun l : List yd => l.length ≤ 100)) _ (fun hh => ?_) fun _ => ⟨_, _, _, rfl, h2, by omega⟩) (yQ (P := fun o => jA o c (fun l : List yd => l.length ≤ 100)) _ ?_ ⟨_, _, _, rfl, h2, by omega⟩))
 ·rw [if_pos (by simp only [List.length_cons, List.length_nil]; omega)]
  exact ⟨_, _, _, rfl, h4, by simp only [List.length_append, List.length_cons, List.length_nil]; omega⟩
 ·have hh := of_decide_eq_true hh
  rw [if_pos (Int.le_refl _), if_pos (show (0 : Int) < ((List.length l : Nat) : Int) by omega)]
  exact ⟨_, _, _, rfl, h5, by simp only [List.length_set]; omega⟩
 ·unfold Q9
  refine Z4 (step := Wq _) (fun u : Wp => (14 - u.1).toNat) (fun u => ∃ k l p s, u = (k, c, p, s, l) ∧ Yf c p ∧ 0 ≤ k ∧ k ≤ 14 ∧ (List.length l : Int) ≤ 8 + k) (fun _ (res : Option AL) => jA res c (fun l : List yd => l.length ≤ 100)) ?_ (0, c, p2, s2, l) ⟨0, l, p2, s2, rfl, h2, Int.le_refl _, by omega, by omega⟩ (by simp only; omega)
  rintro again _ ⟨k, l, p, s, rfl, hc, k0, k1, hl⟩ hag
  unfold Wq
  simp only [Bool.cond_eq_ite, decide_eq_true_eq]
  by_cases hk2 : k < 14
  ·have hw : Go.IntKind.wrap .i64 (k + 1) = k + 1 := w64 (by omega) (by omega)
   simp only [if_pos hk2, hw, List.length_cons, List.length_nil]
   rw [if_pos (by omega)]
   exact hag _ ⟨_, _, _, _, rfl, hc, by omega, by omega, by simp only [List.length_append, List.length_cons, List.length_nil]; omega⟩ (by simp only; omega)
  ·simp only [if_neg hk2]
   exact ⟨_, _, _, rfl, hc, by simp only; omega⟩
abbrev CL : Type := List y9 × List Int × Int × Int
theorem ydH (c : List Int) (p s : Int) (h : Yf c p) : jA (Wt (c, p, s)) c (fun l : List y9 => l.length = 24) := by
 obtain ⟨v1, p1, s1, e1, h1, q1⟩ := zc c p s 30 h
 have b1 := q1.2 (by omega)
 unfold Wt Qa Zg
 rw [if_pos (by omega), if_pos (by omega), if_pos (by decide)]
 simp only [Option.bind_some]
 rw [e1]
 simp only [Option.bind_some]
 refine Z4 (step := Ws _) (fun u : Wr => u.1.toNat) (fun u => ∃ k l p s, u = (k, c, p, s, l) ∧ Yf c p ∧ 0 ≤ k ∧ k ≤ 30 ∧ List.length l = 24) (fun _ (res : Option CL) => jA res c (fun l : List y9 => l.length = 24)) ?_ (v1, c, p1, s1, List.replicate (Int.toNat (24 : Int)) yS) ⟨v1, _, p1, s1, rfl, h1, q1.1, by omega, by simp⟩ (by simp only; omega)
 rintro again _ ⟨k, l, p, s, rfl, hc, k0, k1, hl⟩ hag
 unfold Ws
 simp only [Bool.cond_eq_ite, decide_eq_true_eq]
 by_cases hk2 : k > 0
 ·have hw : Go.IntKind.wrap .i64 (k - 1) = k - 1 := w64 (by omega) (by omega)
  obtain ⟨v2, p2, s2, e2, h2, _⟩ := ydG c p s 3 hc
  obtain ⟨v3, p3, s3, e3, h3, q3⟩ := zc c p2 s2 6 h2
  obtain ⟨v4, p4, s4, e4, h4, q4⟩ := JE c p2 s2 [0, 5, 65535] (by simp) (by simp) h2
  obtain ⟨l', i, b, e5, h5, _⟩ := y0m l v4 (by omega)
  simp only [if_pos hk2, hw, e2, e3, e4, e5, Option.bind_some, ji l v3 (by omega)]
  split
  ·exact hag _ ⟨_, _, _, _, rfl, h3, by omega, by omega, by rw [Qv]; exact hl⟩ (by simp only; omega)
  ·exact hag _ ⟨_, _, _, _, rfl, h4, by omega, by omega, by rw [h5]; exact hl⟩ (by simp only; omega)
 ·simp only [if_neg hk2]
  exact ⟨_, _, _, rfl, hc, hl⟩
theorem y8H (c : List Int) (p s : Int) (h : Yf c p) : jA (kU (c, p, s)) c (fun l : List y9 => l.length ≤ 24) := by
 obtain ⟨l, p1, s1, e1, h1, q1⟩ := ydH c p s h
 obtain ⟨v2, p2, s2, e2, h2, q2⟩ := zc c p1 s1 10 h1
 obtain ⟨v3, p3, s3, e3, h3, q3⟩ := zc c p2 s2 (l.length : Int) h2
 obtain ⟨v4, p4, s4, e4, h4, q4⟩ := JE c p3 s3 [-1, 999, 1000] (by simp) (by simp) h3
 obtain ⟨v5, p5, s5, e5, h5, q5⟩ := JE c p3 s3 [-1, 5, 65536] (by simp) (by simp) h3
 have b3 := q3.2 (by omega)
 unfold kU
 simp only [e1, e2, e3, e4, e5, Option.bind_some]
 refine yQ (P := fun o => jA o c (fun l : List y9 => l.length ≤ 24)) _ ?_ (yQ (P := fun o => jA o c (fun l : List y9 => l.length ≤ 24)) _ ?_ (yQ (P := fun o => jA o c (fun l : List y9 => l.length ≤ 24)) _ ?_ (yQ (P := fun o => jA o c (fun l : List y9 => l.length ≤ 24)) _ ?_ ⟨_, _, _, rfl, h2, by omega⟩)))
 ·rw [if_pos (by omega), if_pos (by omega), if_pos (by omega)]
  exact ⟨_, _, _, rfl, h2, by simp only [List.length_drop, List.length_take]; omega⟩
 ·rw [if_pos q3.1, if_pos b3]
  exact ⟨_, _, _, rfl, h4, by simp only [List.length_set]; omega⟩
 ·rw [if_pos q3.1, if_pos b3]
  exact ⟨_, _, _, rfl, h5, by simp only [List.length_set]; omega⟩
 ·rw [if_pos (by omega), if_pos (by omega)]
  exact ⟨_, _, _, rfl, h2, by simp only [List.length_set]; omega⟩
def Vz (o : Option (List yf × List y0 × List yd × List y9 × List ym × Int × List Int × Int × Int)) (c : List Int) (Q : List yf → List y0 → List yd → List y9 → List ym → Prop) : Prop := ∃ q t l cs vs z p s, o = some (q, t, l, cs, vs, z, c, p, s) ∧ Yf c p ∧ Q q t l cs vs
theorem Tn0 : Tn [0] [[]] [] (List.replicate (Int.toNat (24 : Int)) yS) [] := by
 have hT : TS [[]] := ⟨by simp, fun n hn => by
  rw [List.mem_singleton.1 hn]
  exact ⟨by simp, by simp [wK]⟩⟩
 have hN : ∀ v ∈ ([] : List ym), ByteArray.size v.1 ≤ 60 := fun v hv => nomatch hv
 exact ⟨by simp, hT, by simp, by simp, by simp, hN, rfl, by simp⟩
theorem ydI (c : List Int) (p s m : Int) (h : Yf c p) (m0 : 0 ≤ m) (m1 : m ≤ 1000) : Vz (JR (c, p, s, m)) c Tn := by
 obtain ⟨v1, p1, s1, e1, h1, q1⟩ := zc c p s (m + 1) h
 have b1 := q1.2 (by omega)
 unfold JR qm ky jj Zg
 rw [if_pos (by omega), if_pos (by omega), if_pos (by decide)]
 simp only [Option.bind_some]
 rw [show Go.IntKind.wrap .i64 (m + 1) = m + 1 from w64 (by omega) (by omega), e1]
 simp only [Option.bind_some]
 refine Z4 (step := j9 _ _) (fun u : wk => match u with | .inl u => u.1.toNat | .inr u => u.1.toNat) (fun u => match u with | .inl u => ∃ k y q t l cs vs z p s, u = (k, c, p, s, y, z, q, t, l, cs, vs) ∧ Yf c p ∧ 0 ≤ k ∧ k ≤ 1000 ∧ Tn q t l cs vs | .inr u => ∃ k y q t l cs vs z p s, u = (k, c, p, s, y, q, t, l, z, cs, vs) ∧ Yf c p ∧ 0 ≤ k ∧ k ≤ 1000 ∧ Tn q t l cs vs) (fun _ (res : Option (List yf × List y0 × List yd × List y9 × List ym × Int × List Int × Int × Int)) => Vz res c Tn) ?_ _ ⟨v1, 0, _, _, _, _, _, 1, p1, s1, rfl, h1, q1.1, by omega, Tn0⟩ (by simp only; omega)
 intro again u hu hag
 have step : ∀ (k y : Int) q t l cs vs (z p s : Int), Yf c p → 0 ≤ k → k ≤ 1000 → Tn q t l cs vs → k > 0 → (∀ k' q' t' l' cs' vs' z' p' s', Yf c p' → 0 ≤ k' → k' < k → Tn q' t' l' cs' vs' → Vz (again (Sum.inr (k', c, p', s', y, q', t', l', z', cs', vs'))) c Tn) → Vz (Option.bind (Za (c, p, s)) fun r3 => Option.bind (jT (q, t, l, cs, vs, z, r3.1, r3.2.1, r3.2.2.1, r3.2.2.2.1, r3.2.2.2.2.1)) fun r4 => again (Sum.inr ((Go.IntKind.wrap .i64 (k - (1 : Int))), r3.2.2.2.2.2.1, r3.2.2.2.2.2.2.1, r3.2.2.2.2.2.2.2, y, r4.1, r4.2.1, r4.2.2.1, r4.2.2.2.2.2.1, r4.2.2.2.1, r4.2.2.2.2.1))) c Tn := by
  intro k y q t l cs vs z p s hc k0 k1 hT hk hag2
  obtain ⟨kd, n, m, a, b, p2, s2, e2, h2, hn, hm⟩ := yxd c p s hc
  obtain ⟨q', t', l', cs', vs', z', cc, e3, h3⟩ := yg1 z hT.sp kd n m a b hn hm
  have hw : Go.IntKind.wrap .i64 (k - 1) = k - 1 := w64 (by omega) (by omega)
  simp only [e2, e3, Option.bind_some, hw]
  refine hag2 _ _ _ _ _ _ _ _ _ h2 (by omega) (by omega) ?_
  rcases h3 with h3 | h3
  ·exact h3
  ·simp only [Prod.mk.injEq] at h3
   obtain ⟨rfl, rfl, rfl, rfl, rfl, rfl⟩ := h3
   exact hT
 cases u with
 | inl u =>
  obtain ⟨k, y, q, t, l, cs, vs, z, p, s, rfl, hc, k0, k1, hT⟩ := hu
  unfold j9
  simp only [Bool.cond_eq_ite, decide_eq_true_eq]
  by_cases hk : k > 0
  ·simp only [if_pos hk]
   exact step k y q t l cs vs z p s hc k0 k1 hT hk fun k' q' t' l' cs' vs' z' p' s' g1 g2 g3 g4 => hag _ ⟨_, _, _, _, _, _, _, _, _, _, rfl, g1, g2, by omega, g4⟩ (by simp only; omega)
  ·simp only [if_neg hk]
   exact ⟨_, _, _, _, _, _, _, _, rfl, hc, hT⟩
 | inr u =>
  obtain ⟨k, y, q, t, l, cs, vs, z, p, s, rfl, hc, k0, k1, hT⟩ := hu
  unfold j9
  simp only [Bool.cond_eq_ite, decide_eq_true_eq]
  by_cases hk : k > 0
  ·simp only [if_pos hk]
   exact step k y q t l cs vs z p s hc k0 k1 hT hk fun k' q' t' l' cs' vs' z' p' s' g1 g2 g3 g4 => hag _ ⟨_, _, _, _, _, _, _, _, _, _, rfl, g1, g2, by omega, g4⟩ (by simp only; omega)
  ·simp only [if_neg hk]
   exact ⟨_, _, _, _, _, _, _, _, rfl, hc, hT⟩
theorem y1O (c : List Int) (p s m : Int) (h : Yf c p) (m0 : 0 ≤ m) (m1 : m ≤ 1000) : Vz (Ju (c, p, s, m)) c SP := by
 obtain ⟨q, t, l, cs, vs, z, p1, s1, e1, h1, hT⟩ := ydI c p s m h m0 m1
 obtain ⟨v2, p2, s2, e2, h2, _⟩ := zc c p1 s1 20 h1
 obtain ⟨q3, t3, p3, s3, e3, h3, hq3⟩ := y9V c p2 s2 6 h2 (by omega) (by omega)
 obtain ⟨l4, p4, s4, e4, h4, hl4⟩ := y9W c p2 s2 h2
 obtain ⟨c5, p5, s5, e5, h5, hc5⟩ := y8H c p2 s2 h2
 obtain ⟨v6, p6, s6, e6, h6, hv6⟩ := ydD c p2 s2 [{ data := #[97] }, { data := #[122, 122] }, { data := #[65] }] (by simp) (by simp) (by decide) h2
 obtain ⟨v7, p7, s7, e7, h7, _⟩ := zc c p6 s6 4 h6
 obtain ⟨v8, p8, s8, e8, h8, _⟩ := JE c p7 s7 [0, 1, 13] (by simp) (by simp) h7
 obtain ⟨v9, p9, s9, e9, h9, _⟩ := JE c p2 s2 [0, 1, 60, 61, 62] (by simp) (by simp) h2
 obtain ⟨vA, pA, sA, eA, hA, qA⟩ := zc c p2 s2 (cs.length : Int) h2
 obtain ⟨vB, pB, sB, eB, hB, _⟩ := zc c p2 s2 6 h2
 have hS := hT.sp
 have hcl := hT.cl
 have hvl := hT.vl
 have bA := qA.2 (by omega)
 unfold Ju
 simp only [e1, e2, e3, e4, e5, e6, e7, e8, e9, eA, eB, Option.bind_some]
 refine yQ (P := fun o => Vz o c SP) _ ?_ (yQ (P := fun o => Vz o c SP) _ ?_ (yQ (P := fun o => Vz o c SP) _ ?_ (yQ (P := fun o => Vz o c SP) _ ?_ (yQ (P := fun o => Vz o c SP) _ ?_ (yQ (P := fun o => Vz o c SP) _ ?_ (yQ (P := fun o => Vz o c SP) _ (ZG (P := fun o => Vz o c SP) _ (fun hh => ?_) fun _ => ?_) ?_))))))
 ·exact ⟨_, _, _, _, _, _, _, _, rfl, h3, hq3.sp hS hS.S.2.2.2.1 hS.S.2.2.2.2.1⟩
 ·exact ⟨_, _, _, _, _, _, _, _, rfl, h4, hS.tq.sp hS (by omega) hS.S.2.2.2.2.1⟩
 ·exact ⟨_, _, _, _, _, _, _, _, rfl, h5, hS.tq.sp hS hS.S.2.2.2.1 (by omega)⟩
 ·rw [if_pos (by simp only [List.length_cons, List.length_nil]; omega)]
  refine ⟨_, _, _, _, _, _, _, _, rfl, h8, SP.of hS.tq hS.S.2.2.2.1 hS.S.2.2.2.2.1 (by simp only [List.length_append, List.length_cons, List.length_nil]; omega) fun v hv => ?_⟩
  rcases List.mem_append.1 hv with hv | hv
  ·exact hS.N v hv
  ·rw [List.mem_singleton.1 hv]
   exact y28 hv6
 ·exact ⟨_, _, _, _, _, _, _, _, rfl, h9, hS⟩
 ·rw [if_pos qA.1, if_pos bA]
  exact ⟨_, _, _, _, _, _, _, _, rfl, hA, hS.tq.sp hS hS.S.2.2.2.1 (by rw [List.length_set]; omega)⟩
 ·have hh := of_decide_eq_true hh
  rw [if_pos (Int.le_refl _), if_pos (show (0 : Int) < ((List.length vs : Nat) : Int) by omega)]
  refine ⟨_, _, _, _, _, _, _, _, rfl, hB, SP.of hS.tq hS.S.2.2.2.1 hS.S.2.2.2.2.1 (by rw [List.length_set]; omega) fun v hv => ?_⟩
  rcases List.mem_or_eq_of_mem_set hv with hv | rfl
  ·exact hS.N v hv
  ·exact hS.N (yq vs 0) (zi WM vs 0 (Int.le_refl _) (by omega))
 ·exact ⟨_, _, _, _, _, _, _, _, rfl, h2, hS⟩
 ·exact ⟨_, _, _, _, _, _, _, _, rfl, h2, hS⟩
theorem ydJ (x : List Int) (m : Int) (hx : x.length ≤ 1099511627776) (hm : 3 ≤ m) : ∃ n, Ji (x, m) = some n ∧ 0 ≤ n ∧ n ≤ m := by
 unfold Ji
 have hd : Int.tdiv ((List.length x : Nat) : Int) 12 = ((List.length x : Nat) : Int) / 12 := Int.tdiv_eq_ediv_of_nonneg (by omega)
 simp only [hd]
 rw [show Go.IntKind.wrap .i64 (((List.length x : Nat) : Int) / 12) = ((List.length x : Nat) : Int) / 12 from w64 (by omega) (by omega), show Go.IntKind.wrap .i64 (3 + ((List.length x : Nat) : Int) / 12) = 3 + ((List.length x : Nat) : Int) / 12 from w64 (by omega) (by omega)]
 by_cases h : 3 + ((List.length x : Nat) : Int) / 12 > m
 ·rw [decide_eq_true h]
  exact ⟨_, rfl, by omega, Int.le_refl _⟩
 ·rw [decide_eq_false h]
  exact ⟨_, rfl, by omega, by omega⟩
def y3U (o : Option (List yf × List y0 × List yd × List y9 × List ym × Int)) : Prop := ∃ q t l cs vs z, o = some (q, t, l, cs, vs, z) ∧ SP q t l cs vs
theorem ydK (x : List Int) (hx : x.length ≤ 1099511627776) : y3U (JX x) := by
 obtain ⟨s0, e0⟩ := yhC x hx
 obtain ⟨m, e1, m0, m1⟩ := ydJ x 24 hx (by omega)
 obtain ⟨q, t, l, cs, vs, z, p3, s3, e3, h3, hS⟩ := y1O x 0 s0 (6 + m) (yzy x hx) (by omega) (by omega)
 obtain ⟨v4, p4, s4, e4, h4, q4⟩ := zc x p3 s3 3 h3
 have b4 := q4.2 (by omega)
 unfold JX qr
 simp only [e0, e1, Option.bind_some]
 rw [show Go.IntKind.wrap .i64 (6 + m) = 6 + m from w64 (by omega) (by omega)]
 simp only [e3, e4, Option.bind_some]
 refine Z4 (step := jd _ _) (fun u : wo => match u with | .inl u => u.1.toNat | .inr u => u.1.toNat) (fun u => match u with | .inl u => ∃ k y q t l cs vs z p s, u = (k, y, x, p, s, q, t, l, cs, z, vs) ∧ Yf x p ∧ 0 ≤ k ∧ k ≤ 1000 ∧ SP q t l cs vs | .inr u => ∃ k y q t l cs vs z p s, u = (k, y, x, p, s, q, t, l, z, cs, vs) ∧ Yf x p ∧ 0 ≤ k ∧ k ≤ 1000 ∧ SP q t l cs vs) (fun _ (res : Option (List yf × List y0 × List yd × List y9 × List ym × Int)) => y3U res) ?_ _ ⟨v4, 0, _, _, _, _, _, z, p4, s4, rfl, h4, q4.1, by omega, hS⟩ (by simp only; omega)
 intro again u hu hag
 have step : ∀ (k y : Int) q t l cs vs (z p s : Int), Yf x p → 0 ≤ k → k ≤ 1000 → SP q t l cs vs → k > 0 → (∀ k' q' t' l' cs' vs' z' p' s', Yf x p' → 0 ≤ k' → k' < k → SP q' t' l' cs' vs' → y3U (again (Sum.inr (k', y, x, p', s', q', t', l', z', cs', vs')))) → y3U (Option.bind (zL (x, p, s)) fun r5 => Option.bind (ZN (q, t, l, cs, vs, z, r5.1)) fun r6 => again (Sum.inr ((Go.IntKind.wrap .i64 (k - (1 : Int))), y, r5.2.1, r5.2.2.1, r5.2.2.2, r6.1, r6.2.1, r6.2.2.1, r6.2.2.2.2.2.1, r6.2.2.2.1, r6.2.2.2.2.1))) := by
  intro k y q t l cs vs z p s hc k0 k1 hS hk hag2
  obtain ⟨n, p2, s2, e2, h2, hn⟩ := ydE x p s hc
  obtain ⟨q', t', l', cs', vs', z', cc, e3, h3⟩ := ydA z hS n hn
  have hw : Go.IntKind.wrap .i64 (k - 1) = k - 1 := w64 (by omega) (by omega)
  simp only [e2, e3, Option.bind_some, hw]
  refine hag2 _ _ _ _ _ _ _ _ _ h2 (by omega) (by omega) ?_
  rcases h3 with h3 | h3
  ·exact (Qy h3).sp
  ·simp only [Prod.mk.injEq] at h3
   obtain ⟨rfl, rfl, rfl, rfl, rfl, rfl⟩ := h3
   exact hS
 cases u with
 | inl u =>
  obtain ⟨k, y, q, t, l, cs, vs, z, p, s, rfl, hc, k0, k1, hS⟩ := hu
  unfold jd
  simp only [Bool.cond_eq_ite, decide_eq_true_eq]
  by_cases hk : k > 0
  ·simp only [if_pos hk]
   exact step k y q t l cs vs z p s hc k0 k1 hS hk fun k' q' t' l' cs' vs' z' p' s' g1 g2 g3 g4 => hag _ ⟨_, _, _, _, _, _, _, _, _, _, rfl, g1, g2, by omega, g4⟩ (by simp only; omega)
  ·simp only [if_neg hk]
   exact ⟨_, _, _, _, _, _, rfl, hS⟩
 | inr u =>
  obtain ⟨k, y, q, t, l, cs, vs, z, p, s, rfl, hc, k0, k1, hS⟩ := hu
  unfold jd
  simp only [Bool.cond_eq_ite, decide_eq_true_eq]
  by_cases hk : k > 0
  ·simp only [if_pos hk]
   exact step k y q t l cs vs z p s hc k0 k1 hS hk fun k' q' t' l' cs' vs' z' p' s' g1 g2 g3 g4 => hag _ ⟨_, _, _, _, _, _, _, _, _, _, rfl, g1, g2, by omega, g4⟩ (by simp only; omega)
  ·simp only [if_neg hk]
   exact ⟨_, _, _, _, _, _, rfl, hS⟩
end Go.Proofs.YthgdjjdigalckaaGreat.Pl
namespace Go.Proofs.YthgdjjdigalckaaGreat.Pl
open Go.Proofs.YthgdjjdigalckaaGreat.R Go.Proofs.YthgdjjdigalckaaGreat.XT
def jE {A : Type} (eq : A → A → Bool) (da : A) (a b : List A) : Bool := decide (a.length = b.length) && !Yh (fun i x => !eq x (b.getD i.toNat da)) a 0
theorem qa {A : Type} (eq : A → A → Bool) (da : A) {a b : List A} (h : a.length ≠ b.length) : jE eq da a b = false := by
 unfold jE
 rw [decide_eq_false h]
 rfl
theorem y3V {A B : Type} {a : List A} {b : List B} (h : a.length = b.length) : (((List.length a : Nat) : Int) != ((List.length b : Nat) : Int)) = false := by
 rw [h]
 simp
theorem y3W {A B : Type} {a : List A} {b : List B} (h : a.length ≠ b.length) : (((List.length a : Nat) : Int) != ((List.length b : Nat) : Int)) = true := by
 simp only [bne_iff_ne]
 omega
theorem vt {T A : Type} {step : (T → Option Bool) → T → Option Bool} (mk : Int → T) (eq : A → A → Bool) (da : A) (a b : List A) (hl : a.length ≤ 1048576) (he : a.length = b.length)
  (h : ∀ again i, 0 ≤ i → i < ((List.length a : Nat) : Int) → i < ((List.length b : Nat) : Int) → a.getD i.toNat da ∈ a → b.getD i.toNat da ∈ b → step again (mk i) = bif (!eq (a.getD i.toNat da) (b.getD i.toNat da)) then some false else again (mk (i + 1)))
  (hd : ∀ again i, ¬ i < ((List.length a : Nat) : Int) → step again (mk i) = some true) : zE step zW (mk 0) = some (jE eq da a b) := by
 refine (zK (step := step) mk (fun i x => !eq x (b.getD i.toNat da)) (some false) (some true) da a (by omega) (fun again i h0 h1 => ?_) hd).trans ?_
 ·rw [h again i h0 h1 (by omega) (zi da a i h0 h1) (zi da b i h0 (by omega)), Bool.cond_eq_ite]
 ·unfold jE
  rw [decide_eq_true he]
  cases Yh (fun i x => !eq x (b.getD i.toNat da)) a 0 <;> rfl
theorem kv {A : Type} {eq : A → A → Bool} (da : A) (a : List A) (h : ∀ x, eq x x = true) : jE eq da a a = true := by
 unfold jE
 rw [decide_eq_true rfl, y0R da a 0 fun j hj => by
  rw [show (0 + (j : Int)).toNat = j by omega, h]
  rfl]
 rfl
def eqI (x y : Int) : Bool := x == y
def eqK (x y : ya) : Bool := (x.1 == y.1) && ((x.2.1 == y.2.1) && ((x.2.2.1 == y.2.2.1) && ((x.2.2.2.1 == y.2.2.2.1) && ((x.2.2.2.2 == y.2.2.2.2) && true))))
def eqA (x y : yd) : Bool := (x.1 == y.1) && ((x.2 == y.2) && true)
def eqC (x y : y9) : Bool := (x.1 == y.1) && ((x.2.1 == y.2.1) && ((x.2.2 == y.2.2) && true))
def eqV (x y : ym) : Bool := (ByteArray.toList x.1 == ByteArray.toList y.1) && ((x.2.1 == y.2.1) && ((x.2.2.1 == y.2.2.1) && ((x.2.2.2 == y.2.2.2) && true)))
def eqS (x y : yb) : Bool := jE eqK yL x y
def eqN (x y : y0) : Bool := jE eqS z6 x y
theorem yg6 (x : Int) : eqI x x = true := by simp [eqI]
theorem yg7 (x : ya) : eqK x x = true := by simp [eqK]
theorem yg8 (x : yd) : eqA x x = true := by simp [eqA]
theorem yg9 (x : y9) : eqC x x = true := by simp [eqC]
theorem yga (x : ym) : eqV x x = true := by simp [eqV]
theorem ygb (x : yb) : eqS x x = true := kv _ _ yg7
theorem ygc (x : y0) : eqN x x = true := kv _ _ ygb
def y10 (q : List yf) (t : List y0) (l : List yd) (cs : List y9) (vs : List ym) (z : Int) (q' : List yf) (t' : List y0) (l' : List yd) (cs' : List y9) (vs' : List ym) (z' : Int) : Bool :=
 jE eqI y7V q q' && (jE eqN yB t t' && (jE eqA YI l l' && (jE eqC yS cs cs' && (jE eqV WM vs vs' && (z == z')))))
theorem y4i (q : List yf) (t : List y0) (l : List yd) (cs : List y9) (vs : List ym) (z : Int) : y10 q t l cs vs z q t l cs vs z = true := by
 unfold y10
 rw [kv _ _ yg6, kv _ _ ygc, kv _ _ yg8, kv _ _ yg9, kv _ _ yga]
 simp
theorem y29 (a b : List yf) (hl : a.length ≤ 1048576) : J7 (a, b) = some (jE eqI y7V a b) := by
 unfold J7 Vq
 by_cases he : a.length = b.length
 ·simp only [y3V he, cond_false]
  refine vt (step := Zw _ _) (fun i => (a, b, i)) eqI y7V a b hl he (fun again i h0 h1 h2 _ _ => ?_) fun again i hi => ?_
  ·have hw : Go.IntKind.wrap .i64 (i + 1) = i + 1 := w64 (by omega) (by omega)
   unfold Zw
   simp only [decide_eq_true h1, cond_true, if_pos h0, if_pos h1, if_pos h2, hw]
   rfl
  ·unfold Zw
   simp only [decide_eq_false hi, cond_false]
 ·simp only [y3W he, cond_true, qa _ _ he]
theorem y2a (a b : List ya) (hl : a.length ≤ 1048576) : J8 (a, b) = some (jE eqK yL a b) := by
 unfold J8 Vr
 by_cases he : a.length = b.length
 ·simp only [y3V he, cond_false]
  refine vt (step := Zx _ _) (fun i => (a, b, i)) eqK yL a b hl he (fun again i h0 h1 h2 _ _ => ?_) fun again i hi => ?_
  ·have hw : Go.IntKind.wrap .i64 (i + 1) = i + 1 := w64 (by omega) (by omega)
   unfold Zx
   simp only [decide_eq_true h1, cond_true, if_pos h0, if_pos h1, if_pos h2, hw]
   rfl
  ·unfold Zx
   simp only [decide_eq_false hi, cond_false]
 ·simp only [y3W he, cond_true, qa _ _ he]
theorem y2b (a b : List yd) (hl : a.length ≤ 1048576) : Jb (a, b) = some (jE eqA YI a b) := by
 unfold Jb Vu
 by_cases he : a.length = b.length
 ·simp only [y3V he, cond_false]
  refine vt (step := ZA _ _) (fun i => (a, b, i)) eqA YI a b hl he (fun again i h0 h1 h2 _ _ => ?_) fun again i hi => ?_
  ·have hw : Go.IntKind.wrap .i64 (i + 1) = i + 1 := w64 (by omega) (by omega)
   unfold ZA
   simp only [decide_eq_true h1, cond_true, if_pos h0, if_pos h1, if_pos h2, hw]
   rfl
  ·unfold ZA
   simp only [decide_eq_false hi, cond_false]
 ·simp only [y3W he, cond_true, qa _ _ he]
theorem y1s (a b : List y9) (hl : a.length ≤ 1048576) : je (a, b) = some (jE eqC yS a b) := by
 unfold je vN
 by_cases he : a.length = b.length
 ·simp only [y3V he, cond_false]
  refine vt (step := Z3 _ _) (fun i => (a, b, i)) eqC yS a b hl he (fun again i h0 h1 h2 _ _ => ?_) fun again i hi => ?_
  ·have hw : Go.IntKind.wrap .i64 (i + 1) = i + 1 := w64 (by omega) (by omega)
   unfold Z3
   simp only [decide_eq_true h1, cond_true, if_pos h0, if_pos h1, if_pos h2, hw]
   rfl
  ·unfold Z3
   simp only [decide_eq_false hi, cond_false]
 ·simp only [y3W he, cond_true, qa _ _ he]
theorem y2c (a b : List yb) (hl : a.length ≤ 1048576) (hs : ∀ s ∈ a, List.length s ≤ 1048576) : J9 (a, b) = some (jE eqS z6 a b) := by
 unfold J9 Vs
 by_cases he : a.length = b.length
 ·simp only [y3V he, cond_false]
  refine vt (step := Zy _ _) (fun i => (i, a, b)) eqS z6 a b hl he (fun again i h0 h1 h2 hm _ => ?_) fun again i hi => ?_
  ·have hw : Go.IntKind.wrap .i64 (i + 1) = i + 1 := w64 (by omega) (by omega)
   unfold Zy
   simp only [decide_eq_true h1, cond_true, if_pos h0, if_pos h1, if_pos h2, hw]
   rw [y2a (yp a i) (yp b i) (hs _ hm)]
   rfl
  ·unfold Zy
   simp only [decide_eq_false hi, cond_false]
 ·simp only [y3W he, cond_true, qa _ _ he]
theorem y2d (q q' : List yf) (t t' : List y0) (hq : q.length ≤ 1048576) (ht : t.length ≤ 1048576) (hn : ∀ n ∈ t, List.length n ≤ 1048576 ∧ ∀ s ∈ (show List yb from n), List.length s ≤ 1048576) : Ja (q, t, q', t') = some (jE eqI y7V q q' && jE eqN yB t t') := by
 unfold Ja Vt
 simp only [y29 q q' hq, Option.bind_some]
 cases jE eqI y7V q q' with
 | false => rfl
 | true =>
  simp only [Bool.not_true, cond_false, Option.bind_some, Bool.true_and]
  by_cases he : t.length = t'.length
  ·simp only [y3V he, cond_false]
   refine vt (step := Zz _ _) (fun i => (i, q, t, q', t')) eqN yB t t' ht he (fun again i h0 h1 h2 hm _ => ?_) fun again i hi => ?_
   ·have hw : Go.IntKind.wrap .i64 (i + 1) = i + 1 := w64 (by omega) (by omega)
    unfold Zz
    simp only [decide_eq_true h1, cond_true, if_pos h0, if_pos h1, if_pos h2, hw]
    rw [y2c (yg t i) (yg t' i) (hn _ hm).1 (hn _ hm).2]
    rfl
   ·unfold Zz
    simp only [decide_eq_false hi, cond_false]
  ·simp only [y3W he, cond_true, qa _ _ he]
section
variable {q : List yf} {t : List y0} {l : List yd} {cs : List y9} {vs : List ym} (z : Int) (hs : small q t l cs vs) (q' : List yf) (t' : List y0) (l' : List yd) (cs' : List y9) (vs' : List ym) (z' : Int)
include hs
theorem Ki : YG (q, t, l, cs, vs, z, q', t', l', cs', vs', z') = some (y10 q t l cs vs z q' t' l' cs' vs' z') := by
 have hv : vs.length ≤ 1048576 := hs.2.2.2.2.2
 have loop : vs.length = vs'.length → ko (fun x8 => some x8) (fun x9 => some true) ((0 : Int), q, t, l, cs, vs, z, q', t', l', cs', vs', z') = some (jE eqV WM vs vs') := by
  intro he
  unfold ko
  refine vt (step := ZB _ _) (fun i => (i, q, t, l, cs, vs, z, q', t', l', cs', vs', z')) eqV WM vs vs' hv he (fun again i h0 h1 h2 _ _ => ?_) fun again i hi => ?_
  ·have hw : Go.IntKind.wrap .i64 (i + 1) = i + 1 := w64 (by omega) (by omega)
   unfold ZB
   simp only [decide_eq_true h1, cond_true, if_pos h0, if_pos h1, if_pos h2, hw]
   rfl
  ·unfold ZB
   simp only [decide_eq_false hi, cond_false]
 unfold YG y10
 simp only [y2d q q' t t' hs.1 hs.2.1 (fun n hn => wN hs.2.2.1 hn), y2b l l' hs.2.2.2.1, y1s cs cs' hs.2.2.2.2.1, Option.bind_some]
 cases jE eqI y7V q q' <;> cases jE eqN yB t t' <;> try rfl
 cases jE eqA YI l l' <;> cases jE eqC yS cs cs' <;> try rfl
 by_cases he : vs.length = vs'.length
 ·simp only [y3V he, loop he]
  cases hz : z == z'
  ·simp [bne, hz]
  ·simp [bne, hz]
 ·simp only [y3W he, qa _ _ he]
  rfl
end
end Go.Proofs.YthgdjjdigalckaaGreat.Pl
namespace Go.Proofs.YthgdjjdigalckaaGreat.Pl
open Go.Proofs.YthgdjjdigalckaaGreat.R Go.Proofs.YthgdjjdigalckaaGreat.XT
theorem y8I (x : List Int) (hx : x.length ≤ 1099511627776) : ∃ c p s q t l cs vs z, jn x = some (c, p, s, q, t, l, cs, vs, z) ∧ Yf c p ∧ SP q t l cs vs := by
 obtain ⟨s0, e0⟩ := yhC x hx
 obtain ⟨m, e1, m0, m1⟩ := ydJ x 14 hx (by omega)
 obtain ⟨q, t, l, cs, vs, z, p3, s3, e3, h3, hS⟩ := y1O x 0 s0 m (yzy x hx) (by omega) (by omega)
 unfold jn
 simp only [e0, e1, e3, Option.bind_some]
 exact ⟨_, _, _, _, _, _, _, _, _, rfl, h3, hS⟩
def ydL (o : Option (List yf × List y0 × List yd × List y9 × List ym × Int × Int)) : Prop := ∃ q t l cs vs z i, o = some (q, t, l, cs, vs, z, i) ∧ SP q t l cs vs
theorem y9X (x : List Int) (hx : x.length ≤ 1099511627776) : ydL (YC x) := by
 obtain ⟨c, p, s, q, t, l, cs, vs, z, e, h, hS⟩ := y8I x hx
 obtain ⟨v, p1, s1, e1, h1, _⟩ := JE c p s [0, 0, 1, 2, -1, 12] (by simp) (by simp) h
 unfold YC
 simp only [e, e1, Option.bind_some]
 exact ⟨_, _, _, _, _, _, _, rfl, hS⟩
theorem y9Y (x : List Int) (hx : x.length ≤ 1099511627776) : ydL (YE x) := by
 obtain ⟨c, p, s, q, t, l, cs, vs, z, e, h, hS⟩ := y8I x hx
 obtain ⟨v, p1, s1, e1, h1, _⟩ := JE c p s [0, 1, 2, 3, 4, 5, -1, 24] (by simp) (by simp) h
 unfold YE
 simp only [e, e1, Option.bind_some]
 exact ⟨_, _, _, _, _, _, _, rfl, hS⟩
theorem y4j (x : List Int) (hx : x.length ≤ 1099511627776) : y3U (Z2 x) := by
 obtain ⟨q, t, l, cs, vs, z, e, h⟩ := ydK x hx
 unfold Z2
 rw [e]
 exact ⟨_, _, _, _, _, _, rfl, h⟩
theorem law_TidyBent (x : List Int) : zN x = some true := by
 unfold zN QG
 simp only [Option.bind_some]
 cases hbig : decide (((List.length x : Nat) : Int) > (1048576 : Int)) with
 | true => rfl
 | false =>
  have hx : x.length ≤ 1099511627776 := by
   have := of_decide_eq_false hbig
   omega
  obtain ⟨q, t, l, cs, vs, z, i, e1, hS⟩ := y9X x hx
  obtain ⟨q2, t2, l2, cs2, vs2, z2, i2, e2, hS2⟩ := y9Y x hx
  obtain ⟨q3, t3, l3, cs3, vs3, z3, e3, hS3⟩ := y4j x hx
  have a1 := y26 z hS i
  have a2 := y27 z hS i
  have a3 := yfX z hS i
  generalize y3O q t l cs vs z i = r at *
  obtain ⟨⟨y1, y2, y3, y4, y5, y6⟩, y7⟩ := r
  have b1 := y1M z2 hS2 i2
  have b2 := Qx z2 hS2 i2
  have b3 := ydw z2 hS2 i2
  generalize y1r q2 t2 l2 cs2 vs2 z2 i2 = r at *
  obtain ⟨⟨u1, u2, u3, u4, u5, u6⟩, u7⟩ := r
  have c1 := y3M (q3, t3, l3, cs3, vs3, z3) hS3
  have c2 := y3N (q3, t3, l3, cs3, vs3, z3) hS3
  have c3 := ydx 24 (q3, t3, l3, cs3, vs3, z3) hS3
  generalize ybL 24 (q3, t3, l3, cs3, vs3, z3) = r at *
  obtain ⟨w1, w2, w3, w4, w5, w6⟩ := r
  have s1 := Ki y6 (show SP y1 y2 y3 y4 y5 from a3).S (q' := y1) (t' := y2) (l' := y3) (cs' := y4) (vs' := y5) (z' := y6)
  have s2 := Ki u6 (show SP u1 u2 u3 u4 u5 from b3).S (q' := u1) (t' := u2) (l' := u3) (cs' := u4) (vs' := u5) (z' := u6)
  have s3 := Ki w6 (show SP w1 w2 w3 w4 w5 from c3).S (q' := w1) (t' := w2) (l' := w3) (cs' := w4) (vs' := w5) (z' := w6)
  rw [y4i] at s1 s2 s3
  simp only [e1, e2, e3, a1, a2, b1, b2, c1, c2, y3I, s1, s2, s3, Option.bind_some, beq_self_eq_true, cond_true]
  rfl
end Go.Proofs.YthgdjjdigalckaaGreat.Pl
