/- Crc, Dev, Join, MarkDev, Img, Flush, CopyPool, MarkHeld, StoreK, ReadW, Four, Draw, Crc1, Draw2, Put4, Txt, PutPool, PutPool2, SupK, Chk, Format. No condition. -/
import Derived.Test.YtmapoakbdgpamaaGreatPPoolOk3
set_option linter.all false
namespace Go.Proofs.YtmapoakbdgpamaaGreat.Pl
open Go.Proofs.YtmapoakbdgpamaaGreat.R Go.Proofs.YtmapoakbdgpamaaGreat.XN
theorem ysa (l : List Int) (i : Int) : y9O l i = by_ l i := rfl
theorem yey (l : List Int) (i : Int) (h0 : 0 ≤ i) (h : i < l.length) : l.drop i.toNat = by_ l i :: l.drop (i.toNat + 1) := by
 have hn : i.toNat < l.length := by omega
 rw [List.drop_eq_getElem_cons hn]
 unfold by_
 rw [List.getD_eq_getElem?_getD, List.getElem?_eq_getElem hn]
 rfl
theorem ywX (x : Int) : Int.fdiv x (2 ^ (min (Int.toNat (1 : Int)) (Go.IntKind.bits .i64))) = x / 2 := by
 show Int.fdiv x 2 = x / 2
 rw [Int.fdiv_eq_ediv_of_nonneg _ (by omega)]
theorem y4u {R : Type} (l : List Int) (i : Int) (k : List Int × Int × Int → Option R) : ∀ x : Int, Q9 k (l, x, i, 0) = k (l, Wc 8 x, i) := by
 intro x
 unfold Q9
 have key := Yj (step := vR k) (fun t : List Int × Int × Int × Int => 8 - t.2.2.2.toNat) (fun t => t.1 = l ∧ t.2.2.1 = i ∧ 0 ≤ t.2.2.2 ∧ t.2.2.2 ≤ 8) (fun t => k (l, Wc (8 - t.2.2.2.toNat) t.2.1, i)) ?_ (l, x, i, 0) ⟨rfl, rfl, by simp, by simp⟩ (by simp)
 ·simpa using key
 ·rintro again ⟨l', x, i', j⟩ ⟨rfl, rfl, h0, h1⟩ hag
  simp only at h0 h1 ⊢
  unfold vR
  simp only [Bool.cond_eq_ite, decide_eq_true_eq, bi, yC1, ywX]
  by_cases hj : j < 8
  ·have hw : Go.IntKind.wrap .i64 (j + 1) = j + 1 := w64 (by omega) (by omega)
   obtain ⟨d, hd⟩ : ∃ d, 8 - j.toNat = d + 1 := ⟨7 - j.toNat, by omega⟩
   have hd' : 8 - (j + 1).toNat = d := by omega
   rw [if_pos hj, hw, hd, Wc]
   unfold y5e
   by_cases hx : x % 2 = 1
   ·rw [if_pos hx, if_pos hx]
    have := hag (l', bits .xor .i64 (x / 2) 2197175160, i', j + 1) ⟨rfl, rfl, by simp only; omega, by simp only; omega⟩ (by simp only; omega)
    rw [this]
    simp only [hd']
   ·rw [if_neg hx, if_neg hx]
    have := hag (l', x / 2, i', j + 1) ⟨rfl, rfl, by simp only; omega, by simp only; omega⟩ (by simp only; omega)
    rw [this]
    simp only [hd']
  ·have : j = 8 := by omega
   subst this
   simp [Wc]
theorem yij {l : List Int} (h : Y2 l) (i : Int) : Go.IntKind.wrap .i64 (by_ l i) = by_ l i := by
 have := yby h i
 exact w64 (by omega) (by omega)
theorem y3Q (l : List Int) (hb : Y2 l) (hl : l.length ≤ 1099511627776) : KC l = some (crc l) := by
 unfold KC y1U
 rw [Yj (fun t : List Int × Int × Int => t.1.length - t.2.2.toNat) (fun t => t.1 = l ∧ 0 ≤ t.2.2 ∧ t.2.2 ≤ l.length) (fun t => some (bits .xor .i64 ((l.drop t.2.2.toNat).foldl y0p t.2.1) 4294967295)) ?_ (l, 4294967295, 0) ⟨rfl, by simp, by simp⟩ (by simp; omega)]
 ·rfl
 ·rintro again ⟨l', x, i⟩ ⟨rfl, h0, h1⟩ hag
  simp only at h0 h1 hl hb ⊢
  unfold Qb
  simp only [Bool.cond_eq_ite, decide_eq_true_eq, ysa, yij hb]
  by_cases hi : i < (l'.length : Int)
  ·have hw : Go.IntKind.wrap .i64 (i + 1) = i + 1 := w64 (by omega) (by omega)
   rw [if_pos hi, if_pos h0, if_pos hi, y4u]
   simp only [hw]
   rw [hag (l', Wc 8 (bits .xor .i64 x (by_ l' i)), i + 1) ⟨rfl, by simp only; omega, by simp only; omega⟩ (by simp only; omega), yey l' i h0 hi]
   have e1 : (i + 1).toNat = i.toNat + 1 := by omega
   simp only [e1, List.foldl_cons, y0p]
  ·rw [if_neg hi, List.drop_of_length_le (by omega)]
   rfl
theorem ywY (x : Int) (h : 0 ≤ x) : Int.tdiv x 2 = x / 2 := Int.tdiv_eq_ediv_of_nonneg h
theorem ykQ (x : Int) (h : 0 ≤ x) : Int.tmod x 2 = x % 2 := Int.tmod_eq_emod_of_nonneg h
theorem y4v {R : Type} (l : List Int) (n i : Int) (k : Int × List Int × Int × Int → Option R) : ∀ x : Int, 0 ≤ x → x < 4294967296 → Qm k (x, l, n, i, 0) = k (Wc 8 x, l, n, i) := by
 intro x hx0 hx1
 unfold Qm
 have key := Yj (step := vV k) (fun t : Int × List Int × Int × Int × Int => 8 - t.2.2.2.2.toNat) (fun t => t.2.1 = l ∧ t.2.2.1 = n ∧ t.2.2.2.1 = i ∧ 0 ≤ t.2.2.2.2 ∧ t.2.2.2.2 ≤ 8 ∧ 0 ≤ t.1 ∧ t.1 < 4294967296) (fun t => k (Wc (8 - t.2.2.2.2.toNat) t.1, l, n, i)) ?_ (x, l, n, i, 0) ⟨rfl, rfl, rfl, by simp, by simp, hx0, hx1⟩ (by simp)
 ·simpa using key
 ·rintro again ⟨x, l', n', i', j⟩ ⟨rfl, rfl, rfl, h0, h1, hx0, hx1⟩ hag
  simp only at h0 h1 hx0 hx1 ⊢
  unfold vV
  simp only [Bool.cond_eq_ite, decide_eq_true_eq, bi, ykQ x hx0, ywY x hx0, w64 (n := x / 2) (by omega) (by omega)]
  by_cases hj : j < 8
  ·have hw : Go.IntKind.wrap .i64 (j + 1) = j + 1 := w64 (by omega) (by omega)
   obtain ⟨d, hd⟩ : ∃ d, 8 - j.toNat = d + 1 := ⟨7 - j.toNat, by omega⟩
   have hd' : 8 - (j + 1).toNat = d := by omega
   have hr := Qt x hx0 hx1
   rw [if_pos hj, hw, hd, Wc]
   unfold y5e at hr ⊢
   by_cases hx : x % 2 = 1
   ·rw [if_pos hx] at hr ⊢
    rw [if_pos hx]
    have := hag (bits .xor .i64 (x / 2) 2197175160, l', n', i', j + 1) ⟨rfl, rfl, rfl, by simp only; omega, by simp only; omega, hr.1, hr.2⟩ (by simp only; omega)
    rw [this]
    simp only [hd']
   ·rw [if_neg hx] at hr ⊢
    rw [if_neg hx]
    have := hag (x / 2, l', n', i', j + 1) ⟨rfl, rfl, rfl, by simp only; omega, by simp only; omega, hr.1, hr.2⟩ (by simp only; omega)
    rw [this]
    simp only [hd']
  ·have : j = 8 := by omega
   subst this
   simp [Wc]
theorem y3R (l : List Int) (hb : Y2 l) (hl : l.length ≤ 1099511627776) : KD l = some (crc l) := by
 unfold KD y1V
 rw [Yj (fun t : Int × List Int × Int × Int => t.2.1.length - t.2.2.2.toNat) (fun t => t.2.1 = l ∧ t.2.2.1 = l.length ∧ 0 ≤ t.2.2.2 ∧ t.2.2.2 ≤ l.length ∧ 0 ≤ t.1 ∧ t.1 < 4294967296) (fun t => some (bits .xor .i64 ((l.drop t.2.2.2.toNat).foldl y0p t.1) 4294967295)) ?_ (4294967295, l, l.length, 0) ⟨rfl, rfl, by simp, by simp, by simp, by simp⟩ (by simp; omega)]
 ·rfl
 ·rintro again ⟨x, l', n, i⟩ ⟨rfl, hn, h0, h1, hx0, hx1⟩ hag
  simp only at hn h0 h1 hx0 hx1 hl hb ⊢
  subst hn
  unfold Qo
  simp only [Bool.cond_eq_ite, decide_eq_true_eq, ysa, yij hb]
  by_cases hi : i < (l'.length : Int)
  ·have hw : Go.IntKind.wrap .i64 (i + 1) = i + 1 := w64 (by omega) (by omega)
   have hbr := yby hb i
   have hxr := y3D x (by_ l' i) hx0 hx1 hbr.1 (by omega)
   have hsr := y7n x (by_ l' i) hx0 hx1 hbr.1 hbr.2
   rw [if_pos hi, if_pos h0, if_pos hi, y4v _ _ _ _ _ hxr.1 hxr.2]
   simp only [hw]
   rw [hag (Wc 8 (bits .xor .i64 x (by_ l' i)), l', l'.length, i + 1) ⟨rfl, rfl, by simp only; omega, by simp only; omega, hsr.1, hsr.2⟩ (by simp only; omega), yey l' i h0 hi]
   have e1 : (i + 1).toNat = i.toNat + 1 := by omega
   simp only [e1, List.foldl_cons, y0p]
  ·rw [if_neg hi, List.drop_of_length_le (by omega)]
   rfl
theorem y21 (l : List Int) (hl : l.length ≤ 1099511627776) : zw (l, l) = some true := by
 unfold zw qC
 simp only [bne_self_eq_false, cond_false]
 rw [Yj (fun t : List Int × List Int × Int => t.1.length - t.2.2.toNat) (fun t => t.1 = l ∧ t.2.1 = l ∧ 0 ≤ t.2.2 ∧ t.2.2 ≤ l.length) (fun _ => some true) ?_ (l, l, 0) ⟨rfl, rfl, by simp, by simp⟩ (by simp; omega)]
 rintro again ⟨a, b, i⟩ ⟨h1, h2, h0, h3⟩ hag
 simp only at h1 h2 h0 h3 ⊢
 subst h1 h2
 unfold K8
 simp only [Bool.cond_eq_ite, decide_eq_true_eq]
 by_cases hi : i < (b.length : Int)
 ·have hw : Go.IntKind.wrap .i64 (i + 1) = i + 1 := w64 (by omega) (by omega)
  rw [if_pos hi, if_pos h0, if_pos hi, if_pos h0, if_pos hi, hw, hag (b, b, i + 1) ⟨rfl, rfl, by simp only; omega, by simp only; omega⟩ (by simp only; omega)]
  simp
 ·rw [if_neg hi]
end Go.Proofs.YtmapoakbdgpamaaGreat.Pl
namespace Go.Proofs.YtmapoakbdgpamaaGreat.Pl
open Go.Proofs.YtmapoakbdgpamaaGreat.R Go.Proofs.YtmapoakbdgpamaaGreat.XN
def Qx (a : y7) : Int := (List.length a : Int)
def yeU (a : yQ) : Int := (List.length a.2 : Int)
def VQ (s : List y7) (c : List yQ) : Prop := s.length ≤ 1048576 ∧ c.length ≤ 1048576 ∧ ze Qx s ≤ 1048576 ∧ ze yeU c ≤ 1048576
theorem kp (a : y7) : 0 ≤ Qx a := Int.natCast_nonneg _
theorem qn (a : yQ) : 0 ≤ yeU a := Int.natCast_nonneg _
theorem y8U {s : List y7} (h : ze Qx s ≤ 1048576) {a : y7} (ha : a ∈ s) : List.length a ≤ 1048576 := by
 have h4 := (QJ kp ha).1
 have h5 : Qx a = (List.length a : Int) := rfl
 omega
theorem ybE {c : List yQ} (h : ze yeU c ≤ 1048576) {a : yQ} (ha : a ∈ c) : List.length a.2 ≤ 1048576 := by
 have h4 := (QJ qn ha).1
 have h5 : yeU a = (List.length a.2 : Int) := rfl
 omega
theorem y7w (l : List y7) (hl : l.length ≤ 1048576) (hm : ∀ a ∈ l, zw (a, a) = some true) : jF (l, l) = some true := by
 unfold jF VF
 simp only [bne_self_eq_false, cond_false]
 refine qf (fun _ => some true) l (by omega) ?_ ?_
 ·intro again i h0 h1
  unfold jZ
  have hw : Go.IntKind.wrap .i64 (i + 1) = i + 1 := w64 (by omega) (by omega)
  have e : zw (zL l i, zL l i) = some true := hm _ (z4 Kf l i h0 h1)
  simp only [Bool.cond_eq_ite, decide_eq_true_eq, h0, h1, if_true, hw, e, Option.bind_some, bne_self_eq_false, beq_self_eq_true, Bool.not_true, Bool.false_eq_true, if_false]
 ·intro again i hi
  unfold jZ
  simp only [Bool.cond_eq_ite, decide_eq_true_eq, if_neg hi]
theorem ycy (l : List yQ) (hl : l.length ≤ 1048576) (hm : ∀ a ∈ l, zw (a.2, a.2) = some true) : kG (l, l) = some true := by
 unfold kG y04
 simp only [bne_self_eq_false, cond_false]
 refine qf (fun _ => some true) l (by omega) ?_ ?_
 ·intro again i h0 h1
  unfold kv
  have hw : Go.IntKind.wrap .i64 (i + 1) = i + 1 := w64 (by omega) (by omega)
  have e : zw ((yW l i).2, (yW l i).2) = some true := hm _ (z4 y15 l i h0 h1)
  simp only [Bool.cond_eq_ite, decide_eq_true_eq, h0, h1, if_true, hw, qe, e, Option.bind_some, bne_self_eq_false, beq_self_eq_true, Bool.not_true, Bool.false_eq_true, if_false]
 ·intro again i hi
  unfold kv
  simp only [Bool.cond_eq_ite, decide_eq_true_eq, if_neg hi]
theorem ycz (s : List y7) (c : List yQ) (z : Int) (b : Bool) (h : VQ s c) : kH (s, c, z, b, s, c, z, b) = some true := by
 obtain ⟨h1, h2, h3, h4⟩ := h
 unfold kH
 simp only [y7w s h1 fun a ha => y21 a (Nat.le_trans (y8U h3 ha) (by decide)), ycy c h2 fun a ha => y21 a.2 (Nat.le_trans (ybE h4 ha) (by decide)), Option.bind_some, Bool.not_true, cond_false, bne_self_eq_false, beq_self_eq_true]
def ycA (_ : Int) (a : y7) : Bool := decide ((List.length a : Int) > 80)
def y8V (n : Int) (_ : Int) (w : yQ) : Bool := !inR w.1 0 (n - 1) || decide ((List.length w.2 : Int) > 80)
def ycB (s : List y7) (c : List yQ) (z : Int) : Bool := !zR ycA s 0 && (!zR (y8V s.length) c 0 && ((inR s.length 1 60 && decide ((c.length : Int) ≤ 60)) && inR z (-1) 1000))
theorem y7x (s : List y7) (c : List yQ) (z : Int) (b : Bool) (hs : s.length ≤ 1048576) (hc : c.length ≤ 1048576) : kE (s, c, z, b) = some (ycB s c z) := by
 have hw1 : Go.IntKind.wrap .i64 ((s.length : Int) - 1) = (s.length : Int) - 1 := w64 (by omega) (by omega)
 unfold kE y01
 refine (zh (step := Jh _ _) (fun i => (i, s, c, z, b)) ycA (some false) (some (!zR (y8V s.length) c 0 && ((inR s.length 1 60 && decide ((c.length : Int) ≤ 60)) && inR z (-1) 1000))) Kf s (by omega) ?_ ?_).trans ?_
 ·intro again i h0 h1
  unfold Jh ycA
  have hw : Go.IntKind.wrap .i64 (i + 1) = i + 1 := w64 (by omega) (by omega)
  simp only [Bool.cond_eq_ite, decide_eq_true_eq, h0, h1, if_true, hw]
  rfl
 ·intro again i hi
  unfold Jh
  simp only [Bool.cond_eq_ite, decide_eq_true_eq, if_neg hi]
  unfold y02
  refine (zh (step := Ji _ _) (fun i => (i, s, c, z, b)) (y8V s.length) (some false) (some ((inR s.length 1 60 && decide ((c.length : Int) ≤ 60)) && inR z (-1) 1000)) y15 c (by omega) ?_ ?_).trans ?_
  ·intro again i h0 h1
   unfold Ji y8V
   have hw : Go.IntKind.wrap .i64 (i + 1) = i + 1 := w64 (by omega) (by omega)
   simp only [Bool.cond_eq_ite, decide_eq_true_eq, h0, h1, if_true, hw, hw1, Zf, Option.bind_some]
   show Option.bind (if (!inR (c.getD i.toNat y15).1 0 ((s.length : Int) - 1)) = true then some true else some (decide ((List.length (c.getD i.toNat y15).2 : Int) > 80))) _ = _
   cases inR (c.getD i.toNat y15).1 0 ((s.length : Int) - 1) <;> rfl
  ·intro again i hi
   unfold Ji
   simp only [Bool.cond_eq_ite, decide_eq_true_eq, if_neg hi, Zf, Option.bind_some]
   cases inR s.length 1 60
   ·rfl
   ·by_cases h6 : (c.length : Int) ≤ 60
    ·simp [h6]
    ·simp [h6]
  ·cases zR (y8V s.length) c 0 <;> rfl
 ·unfold ycB
  cases zR ycA s 0 <;> rfl
theorem Kx (s : List y7) (c : List yQ) (z : Int) (b : Bool) (hs : s.length ≤ 1048576) (hc : c.length ≤ 1048576) : Zl (s, c, z, b) = some (ycB s c z) := by
 have hw1 : Go.IntKind.wrap .i64 ((s.length : Int) - 1) = (s.length : Int) - 1 := w64 (by omega) (by omega)
 have hL : Vh (fun x5 => some x5.1) (fun x6 => vu (fun x9 => some x9) (fun x10 => some true) (x6.2.1, ((List.length x6.2.1 : Nat) : Int), (0 : Int), x6.1, x6.2.1, x6.2.2.1, x6.2.2.2)) (s, ((List.length s : Nat) : Int), (0 : Int), s, c, z, b) = some (!zR ycA s 0 && !zR (y8V s.length) c 0) := by
  unfold Vh
  refine (zh (step := Jr _ _) (fun i => (s, (s.length : Int), i, s, c, z, b)) ycA (some false) (some (!zR (y8V s.length) c 0)) Kf s (by omega) ?_ ?_).trans ?_
  ·intro again i h0 h1
   unfold Jr ycA
   have hw : Go.IntKind.wrap .i64 (i + 1) = i + 1 := w64 (by omega) (by omega)
   simp only [Bool.cond_eq_ite, decide_eq_true_eq, h0, h1, if_true, hw]
   rfl
  ·intro again i hi
   unfold Jr
   simp only [Bool.cond_eq_ite, decide_eq_true_eq, if_neg hi]
   unfold vu
   refine (zh (step := jD _ _) (fun i => (c, (c.length : Int), i, s, c, z, b)) (y8V s.length) (some false) (some true) y15 c (by omega) ?_ ?_).trans ?_
   ·intro again i h0 h1
    unfold jD y8V
    have hw : Go.IntKind.wrap .i64 (i + 1) = i + 1 := w64 (by omega) (by omega)
    simp only [Bool.cond_eq_ite, decide_eq_true_eq, h0, h1, if_true, hw, hw1, zJ, Option.bind_some]
    show Option.bind (if (!inR (c.getD i.toNat y15).1 0 ((s.length : Int) - 1)) = true then some true else some (decide ((List.length (c.getD i.toNat y15).2 : Int) > 80))) _ = _
    cases inR (c.getD i.toNat y15).1 0 ((s.length : Int) - 1) <;> rfl
   ·intro again i hi
    unfold jD
    simp only [Bool.cond_eq_ite, decide_eq_true_eq, if_neg hi]
   ·cases zR (y8V s.length) c 0 <;> rfl
  ·cases zR ycA s 0 <;> rfl
 unfold Zl
 simp only [hL, zJ, Option.bind_some]
 unfold ycB
 cases inR s.length 1 60
 ·cases zR ycA s 0 <;> cases zR (y8V s.length) c 0 <;> rfl
 ·by_cases h6 : (c.length : Int) ≤ 60
  ·have h7 : ¬ (c.length : Int) > 60 := by omega
   simp only [h6, h7, decide_true, decide_false, Bool.not_true, cond_false, cond_true, Option.bind_some]
   cases inR z (-1) 1000
   ·cases zR ycA s 0 <;> cases zR (y8V s.length) c 0 <;> rfl
   ·cases zR ycA s 0 <;> cases zR (y8V s.length) c 0 <;> rfl
  ·have h7 : (c.length : Int) > 60 := by omega
   simp only [h6, h7, decide_true, decide_false, Bool.not_true, cond_false, cond_true, Option.bind_some]
   cases zR ycA s 0 <;> cases zR (y8V s.length) c 0 <;> rfl
end Go.Proofs.YtmapoakbdgpamaaGreat.Pl
namespace Go.Proofs.YtmapoakbdgpamaaGreat.Pl
open Go.Proofs.YtmapoakbdgpamaaGreat.R Go.Proofs.YtmapoakbdgpamaaGreat.XN
theorem Wg {T A R : Type} {step : (T → Option R) → T → Option R} (da : A) (l : List A) (St0 : Int → T) (St1 : Int → List A → T) (k0 : Option R) (k1 : List A → Option R) (hl : l.length ≤ 1099511627776)
  (h0 : ∀ again i, 0 ≤ i → i < ((List.length l : Nat) : Int) → step again (St0 i) = again (St1 (i + 1) [l.getD i.toNat da]))
  (h1 : ∀ again i o, 0 ≤ i → i < ((List.length l : Nat) : Int) → List.length o ≤ List.length l → step again (St1 i o) = again (St1 (i + 1) (o ++ [l.getD i.toNat da])))
  (hd0 : ∀ again i, ¬ i < ((List.length l : Nat) : Int) → step again (St0 i) = k0)
  (hd1 : ∀ again i o, ¬ i < ((List.length l : Nat) : Int) → step again (St1 i o) = k1 o) : z6 step zd (St0 0) = if l.length = 0 then k0 else k1 l := by
 have key : ∀ (m : Nat) (i : Int), 0 ≤ i → i ≤ l.length → l.length - i.toNat < m → z6 step m (St1 i (l.take i.toNat)) = k1 l := by
  intro m
  induction m with
  | zero => intro i _ _ h; omega
  | succ m ih =>
   intro i i0 i1 hm
   rw [z6]
   by_cases hi : i < ((List.length l : Nat) : Int)
   ·have e1 : (i + 1).toNat = i.toNat + 1 := by omega
    have e2 : l.take i.toNat ++ [l.getD i.toNat da] = l.take (i + 1).toNat := by
     rw [e1, List.take_succ_eq_append_getElem (by omega), y7o da l i i0 hi]
    rw [h1 _ i _ i0 hi (by rw [List.length_take]; omega), e2]
    exact ih (i + 1) (by omega) (by omega) (by omega)
   ·rw [hd1 _ i _ hi, List.take_of_length_le (by omega)]
 have hF : zd = (zd - 1) + 1 := by
  have := kN
  omega
 rw [hF, z6]
 by_cases h : l.length = 0
 ·rw [if_pos h, hd0 _ 0 (by omega)]
 ·rw [if_neg h, h0 _ 0 (Int.le_refl _) (by omega)]
  have e : [l.getD (0 : Int).toNat da] = l.take (0 + 1 : Int).toNat := by
   cases l with
   | nil => simp at h
   | cons a l => rfl
  rw [e]
  exact key _ _ (by omega) (by omega) (by
   have := kN
   omega)
theorem jQ (a : List Int) (h : a.length ≤ 2097152) : yM [a] = some a := by
 have hF : zd = (zd - 2) + 1 + 1 := by
  have := kN
  omega
 unfold yM vq
 rw [hF]
 have s0 : ∀ again, za (fun x1 => some x1) again ([a], (1 : Int), (0 : Int), ([] : List z7)) = again ([a], 1, 1, a) := by
  intro again
  unfold za
  have hw : Go.IntKind.wrap .i64 (0 + 1) = 1 := w64 (by omega) (by omega)
  have hr : zL [a] 0 = a := rfl
  simp only [hw, hr, List.length_nil, List.length_cons, List.nil_append]
  rw [if_pos (by omega), if_pos (by omega), if_pos (by omega)]
  rfl
 have s1 : ∀ again, za (fun x1 => some x1) again ([a], (1 : Int), (1 : Int), a) = some a := by
  intro again
  unfold za
  rfl
 rw [show ((List.length [a] : Nat) : Int) = 1 from rfl, z6, s0, z6, s1]
theorem yeV {A : Type} (a : A) (k : Nat) (h : k < 140737488355328) : List.length [a] * k < 140737488355328 := by
 simp only [List.length_cons, List.length_nil]
 omega
end Go.Proofs.YtmapoakbdgpamaaGreat.Pl
namespace Go.Proofs.YtmapoakbdgpamaaGreat.Pl
open Go.Proofs.YtmapoakbdgpamaaGreat.R Go.Proofs.YtmapoakbdgpamaaGreat.XN
def mkS (a : y7) (k : Int) : y7 := mkB k (List.length a)
theorem y7y (l : List y7) (k : Int) (h0 : 0 ≤ k) (hl : l.length ≤ 1048576) (hk : k + ze Qx l ≤ JG) : Z6 (l, k) = some (k + ze Qx l, z3 mkS Qx l k) := by
 unfold Z6 vA
 refine Wd Kf mkS Qx kp (fun _ => True) (fun x2 => some (x2.1, x2.2)) JG ?_ ?_ l k h0 (by omega) hk (fun _ _ => trivial)
 ·intro again k i l h0 h1 hk hM hl _
  unfold Zv
  have hb : Qx (l.getD i.toNat Kf) = (List.length (l.getD i.toNat Kf) : Int) := rfl
  unfold JG at hM
  have hw : Go.IntKind.wrap .i64 (i + 1) = i + 1 := w64 (by omega) (by omega)
  have he : zB ((zL l i), k) = some (k + Qx (l.getD i.toNat Kf), mkS (l.getD i.toNat Kf) k) := y1W (l.getD i.toNat Kf) k hk (by omega) (by omega)
  simp only [Bool.cond_eq_ite, decide_eq_true_eq, h0, h1, if_true, hw, he, Option.bind_some]
 ·intro again k i l hi
  unfold Zv
  simp only [Bool.cond_eq_ite, decide_eq_true_eq, if_neg hi]
theorem y7z (l : List y7) (k : Int) (h0 : 0 ≤ k) (hl : l.length ≤ 1048576) (hk : k + ze Qx l ≤ JG) : Zc (z3 mkS Qx l k, k) = some (k + ze Qx l) := by
 unfold Zc vC
 refine vD Kf mkS Qx kp (fun x => some x) JG ?_ ?_ l k h0 (by omega) hk
 ·intro again l k i a h0 h1 hk hM hl he
  unfold Zw
  have hb : Qx a = (List.length a : Int) := rfl
  unfold JG at hM
  have hw : Go.IntKind.wrap .i64 (i + 1) = i + 1 := w64 (by omega) (by omega)
  have hr : zL l i = mkB k (List.length a) := he
  have hn : ¬ (k + Qx a < 0) := by omega
  have h2 : zC (zL l i, k) = some (k + Qx a) := by rw [hr]; exact y1X k (List.length a) hk (by omega) (by omega)
  simp only [Bool.cond_eq_ite, decide_eq_true_eq, h0, h1, if_true, hw, h2, hn, if_false, Option.bind_some]
 ·intro again l k i hi
  unfold Zw
  simp only [Bool.cond_eq_ite, decide_eq_true_eq, if_neg hi]
def y17 (a : yQ) : Int := 1 + yeU a
theorem qp (a : yQ) : 0 ≤ y17 a := by
 have := qn a
 unfold y17
 omega
def mkW (a : yQ) (k : Int) : yQ := (k, mkB (k + 1) (List.length a.2))
theorem y7A (l : List yQ) : ze y17 l = l.length + ze yeU l := by
 induction l with
 | nil => rfl
 | cons a l ih =>
  rw [zz, zz, ih]
  unfold y17
  simp only [List.length_cons]
  omega
theorem ycC (l : List yQ) (k : Int) (h0 : 0 ≤ k) (hl : l.length ≤ 1048576) (hk : k + ze y17 l ≤ JG) : Jw (l, k) = some (k + ze y17 l, z3 mkW y17 l k) := by
 unfold Jw qD
 refine Wd y15 mkW y17 qp (fun _ => True) (fun x2 => some (x2.1, x2.2)) JG ?_ ?_ l k h0 (by omega) hk (fun _ _ => trivial)
 ·intro again k i l h0 h1 hk hM hl _
  unfold JE
  have hb : y17 (l.getD i.toNat y15) = 1 + (List.length (l.getD i.toNat y15).2 : Int) := rfl
  unfold JG at hM
  have hw : Go.IntKind.wrap .i64 (i + 1) = i + 1 := w64 (by omega) (by omega)
  have hw2 : Go.IntKind.wrap .i64 (k + 1) = k + 1 := w64 (by omega) (by omega)
  have hr : ∀ v : yQ, yW (l.set i.toNat v) i = v := fun v => y5f y15 l i v h0 h1
  have he : zB ((yW l i).2, k + 1) = some (k + y17 (l.getD i.toNat y15), mkB (k + 1) (List.length (l.getD i.toNat y15).2)) := by
   refine (y1W (l.getD i.toNat y15).2 (k + 1) (by omega) (by omega) (by omega)).trans ?_
   rw [hb, Int.add_assoc]
  simp only [Bool.cond_eq_ite, decide_eq_true_eq, h0, h1, if_true, hw, hw2, hr, he, Option.bind_some, List.length_set, List.set_set, mkW]
 ·intro again k i l hi
  unfold JE
  simp only [Bool.cond_eq_ite, decide_eq_true_eq, if_neg hi]
theorem ycD (l : List yQ) (k : Int) (h0 : 0 ≤ k) (hl : l.length ≤ 1048576) (hk : k + ze y17 l ≤ JG) : Jy (z3 mkW y17 l k, k) = some (k + ze y17 l) := by
 unfold Jy qE
 refine vD y15 mkW y17 qp (fun x => some x) JG ?_ ?_ l k h0 (by omega) hk
 ·intro again l k i a h0 h1 hk hM hl he
  unfold JF
  have hb : y17 a = 1 + (List.length a.2 : Int) := rfl
  unfold JG at hM
  have hw : Go.IntKind.wrap .i64 (i + 1) = i + 1 := w64 (by omega) (by omega)
  have hw2 : Go.IntKind.wrap .i64 (k + 1) = k + 1 := w64 (by omega) (by omega)
  have hr : yW l i = (k, mkB (k + 1) (List.length a.2)) := he
  have hn : ¬ (k + y17 a < 0) := by omega
  have h2 : zC (mkB (k + 1) (List.length a.2), k + 1) = some (k + y17 a) := by
   refine (y1X (k + 1) (List.length a.2) (by omega) (by omega) (by omega)).trans ?_
   rw [hb, Int.add_assoc]
  simp only [Bool.cond_eq_ite, decide_eq_true_eq, h0, h1, if_true, hw, hw2, hr, h2, hn, if_false, Option.bind_some, bne_self_eq_false, Bool.false_eq_true]
 ·intro again l k i hi
  unfold JF
  simp only [Bool.cond_eq_ite, decide_eq_true_eq, if_neg hi]
theorem ycE (s : List y7) (c : List yQ) (z : Int) (b : Bool) (h : VQ s c) : Jx (s, c, z, b, 1) = some (1 + ze Qx s + ze y17 c, z3 mkS Qx s 1, z3 mkW y17 c (1 + ze Qx s)) := by
 obtain ⟨h1, h2, h3, h4⟩ := h
 have w1 := z0 kp s
 have w2 := z0 qn c
 unfold Jx
 simp only [y7y s 1 (by omega) h1 (by unfold JG; omega), ycC c (1 + ze Qx s) (by omega) h2 (by rw [y7A]; unfold JG; omega), Option.bind_some]
theorem ycF (s : List y7) (c : List yQ) (z : Int) (b : Bool) (h : VQ s c) : Jz (z3 mkS Qx s 1, z3 mkW y17 c (1 + ze Qx s), z, b, 1) = some (1 + ze Qx s + ze y17 c) := by
 obtain ⟨h1, h2, h3, h4⟩ := h
 have w1 := z0 kp s
 have w2 := z0 qn c
 have w3 := z0 qp c
 unfold Jz
 simp only [y7z s 1 (by omega) h1 (by unfold JG; omega), ycD c (1 + ze Qx s) (by omega) h2 (by rw [y7A]; unfold JG; omega), Option.bind_some]
 rw [decide_eq_false (show ¬ (1 + ze Qx s < 0) by omega), decide_eq_false (show ¬ (1 + ze Qx s + ze y17 c < 0) by omega)]
 rfl
end Go.Proofs.YtmapoakbdgpamaaGreat.Pl
namespace Go.Proofs.YtmapoakbdgpamaaGreat.Pl
open Go.Proofs.YtmapoakbdgpamaaGreat.R Go.Proofs.YtmapoakbdgpamaaGreat.XN
theorem QM {s : List y7} (h : ze Qx s ≤ 1048576) {i : Int} (h0 : 0 ≤ i) (h1 : i < ((List.length s : Nat) : Int)) : List.length (zL s i) ≤ 1048576 := y8U h (z4 Kf s i h0 h1)
theorem ZX {c : List yQ} (h : ze yeU c ≤ 1048576) {i : Int} (h0 : 0 ≤ i) (h1 : i < ((List.length c : Nat) : Int)) : List.length (yW c i).2 ≤ 1048576 := ybE h (z4 y15 c i h0 h1)
theorem ycG {R : Type} (k0 : List y7 × List yQ × Int × Bool × Int × Bool × Int × Bool → Option R) (k1 : List y7 × List yQ × Int × Bool × Int × Bool × Int × Bool × List y7 → Option R) (s : List y7) (c : List yQ) (z : Int) (b : Bool) (h : VQ s c) :
  KT k0 k1 (Sum.inl (0, s, c, z, b, 0, false, z, b)) = if s.length = 0 then k0 (s, c, z, b, 0, false, z, b) else k1 (s, c, z, b, 0, false, z, b, s) := by
 obtain ⟨b1, b2, b3, b4⟩ := h
 unfold KT
 refine Wg (step := Yd k0 k1) Kf s (fun i => Sum.inl (i, s, c, z, b, 0, false, z, b)) (fun i o => Sum.inr (i, s, c, z, b, 0, false, z, b, o)) _ (fun o => k1 (s, c, z, b, 0, false, z, b, o)) (by omega) ?_ ?_ ?_ ?_
 ·intro again i h0 h1
  have hw : Go.IntKind.wrap .i64 (i + 1) = i + 1 := w64 (by omega) (by omega)
  have hr := QM b3 h0 h1
  simp only [Yd, Bool.cond_eq_ite, decide_eq_true_eq, h0, h1, if_true, hw]
  rw [if_pos (by simp only [List.length_nil]; omega), if_pos (yeV _ _ (by decide))]
  rfl
 ·intro again i o h0 h1 h2
  have hw : Go.IntKind.wrap .i64 (i + 1) = i + 1 := w64 (by omega) (by omega)
  have hr := QM b3 h0 h1
  simp only [Yd, Bool.cond_eq_ite, decide_eq_true_eq, h0, h1, if_true, hw]
  rw [if_pos (by simp only [List.length_nil]; omega), if_pos (by simp only [List.length_cons, List.length_nil]; omega)]
  rfl
 ·intro again i hi
  simp only [Yd, Bool.cond_eq_ite, decide_eq_true_eq, if_neg hi]
 ·intro again i o hi
  simp only [Yd, Bool.cond_eq_ite, decide_eq_true_eq, if_neg hi]
theorem yan {R : Type} (k0 : Int × Bool × Int × Bool → Option R) (k1 : Int × Bool × Int × Bool × List yQ → Option R) (k2 : Int × Bool × Int × Bool × List y7 → Option R) (k3 : Int × Bool × Int × Bool × List y7 × List yQ → Option R) (s : List y7) (c : List yQ) (z : Int) (b : Bool) (h : VQ s c) :
  YE k0 k1 k2 k3 (Sum.inl (0, s, c, z, b, 0, false, z, b)) = if c.length = 0 then k0 (0, false, z, b) else k1 (0, false, z, b, c) := by
 obtain ⟨b1, b2, b3, b4⟩ := h
 unfold YE
 refine Wg (step := z9 k0 k1 k2 k3) y15 c (fun i => Sum.inl (i, s, c, z, b, 0, false, z, b)) (fun i o => Sum.inr (Sum.inl (i, s, c, z, b, 0, false, z, b, o))) _ (fun o => k1 (0, false, z, b, o)) (by omega) ?_ ?_ ?_ ?_
 ·intro again i h0 h1
  have hw : Go.IntKind.wrap .i64 (i + 1) = i + 1 := w64 (by omega) (by omega)
  have hr := ZX b4 h0 h1
  simp only [z9, Bool.cond_eq_ite, decide_eq_true_eq, h0, h1, if_true, hw]
  rw [if_pos (by simp only [List.length_nil]; omega), if_pos (yeV _ _ (by decide))]
  rfl
 ·intro again i o h0 h1 h2
  have hw : Go.IntKind.wrap .i64 (i + 1) = i + 1 := w64 (by omega) (by omega)
  have hr := ZX b4 h0 h1
  simp only [z9, Bool.cond_eq_ite, decide_eq_true_eq, h0, h1, if_true, hw]
  rw [if_pos (by simp only [List.length_nil]; omega), if_pos (by simp only [List.length_cons, List.length_nil]; omega)]
  rfl
 ·intro again i hi
  simp only [z9, Bool.cond_eq_ite, decide_eq_true_eq, if_neg hi]
 ·intro again i o hi
  simp only [z9, Bool.cond_eq_ite, decide_eq_true_eq, if_neg hi]
theorem yao {R : Type} (k0 : Int × Bool × Int × Bool → Option R) (k1 : Int × Bool × Int × Bool × List yQ → Option R) (k2 : Int × Bool × Int × Bool × List y7 → Option R) (k3 : Int × Bool × Int × Bool × List y7 × List yQ → Option R) (s o : List y7) (c : List yQ) (z : Int) (b : Bool) (h : VQ s c) :
  YE k0 k1 k2 k3 (Sum.inr (Sum.inr (Sum.inl (0, s, c, z, b, 0, false, z, b, o)))) = if c.length = 0 then k2 (0, false, z, b, o) else k3 (0, false, z, b, o, c) := by
 obtain ⟨b1, b2, b3, b4⟩ := h
 unfold YE
 refine Wg (step := z9 k0 k1 k2 k3) y15 c (fun i => Sum.inr (Sum.inr (Sum.inl (i, s, c, z, b, 0, false, z, b, o)))) (fun i o' => Sum.inr (Sum.inr (Sum.inr (i, s, c, z, b, 0, false, z, b, o, o')))) _ (fun o' => k3 (0, false, z, b, o, o')) (by omega) ?_ ?_ ?_ ?_
 ·intro again i h0 h1
  have hw : Go.IntKind.wrap .i64 (i + 1) = i + 1 := w64 (by omega) (by omega)
  have hr := ZX b4 h0 h1
  simp only [z9, Bool.cond_eq_ite, decide_eq_true_eq, h0, h1, if_true, hw]
  rw [if_pos (by simp only [List.length_nil]; omega), if_pos (yeV _ _ (by decide))]
  rfl
 ·intro again i o' h0 h1 h2
  have hw : Go.IntKind.wrap .i64 (i + 1) = i + 1 := w64 (by omega) (by omega)
  have hr := ZX b4 h0 h1
  simp only [z9, Bool.cond_eq_ite, decide_eq_true_eq, h0, h1, if_true, hw]
  rw [if_pos (by simp only [List.length_nil]; omega), if_pos (by simp only [List.length_cons, List.length_nil]; omega)]
  rfl
 ·intro again i hi
  simp only [z9, Bool.cond_eq_ite, decide_eq_true_eq, if_neg hi]
 ·intro again i o' hi
  simp only [z9, Bool.cond_eq_ite, decide_eq_true_eq, if_neg hi]
theorem y4w (s : List y7) (c : List yQ) (z : Int) (b : Bool) (h : VQ s c) : w7 (s, c, z, b) = some (s, c, z, b) := by
 unfold w7
 rw [ycG _ _ s c z b h]
 cases s with
 | nil =>
  rw [if_pos (show List.length ([] : List y7) = 0 from rfl)]
  simp only [yan _ _ _ _ _ c z b h]
  cases c with
  | nil => rfl
  | cons w c => rw [if_neg (show ¬ List.length (w :: c) = 0 from by simp)]
 | cons a s =>
  rw [if_neg (show ¬ List.length (a :: s) = 0 from by simp)]
  simp only [yao _ _ _ _ _ _ c z b h]
  cases c with
  | nil => rfl
  | cons w c => rw [if_neg (show ¬ List.length (w :: c) = 0 from by simp)]
theorem ycH {R : Type} (k0 : List y7 × List yQ × Int × Bool × Int × Bool × Int × Bool → Option R) (k1 : List y7 × List yQ × Int × Bool × Int × Bool × Int × Bool × List y7 → Option R) (s : List y7) (c : List yQ) (z : Int) (b : Bool) (h : VQ s c) :
  K2 k0 k1 (Sum.inl (s, ((List.length s : Nat) : Int), 0, s, c, z, b, 0, false, z, b)) = if s.length = 0 then k0 (s, c, z, b, 0, false, z, b) else k1 (s, c, z, b, 0, false, z, b, s) := by
 obtain ⟨b1, b2, b3, b4⟩ := h
 unfold K2
 refine Wg (step := Y1 k0 k1) Kf s (fun i => Sum.inl (s, ((List.length s : Nat) : Int), i, s, c, z, b, 0, false, z, b)) (fun i o => Sum.inr (s, ((List.length s : Nat) : Int), i, s, c, z, b, 0, false, z, b, o)) _ (fun o => k1 (s, c, z, b, 0, false, z, b, o)) (by omega) ?_ ?_ ?_ ?_
 ·intro again i h0 h1
  have hw : Go.IntKind.wrap .i64 (i + 1) = i + 1 := w64 (by omega) (by omega)
  have hr := QM b3 h0 h1
  simp only [Y1, Bool.cond_eq_ite, decide_eq_true_eq, h0, h1, if_true, hw, jQ (zL s i) (by omega), Option.bind_some]
  rw [if_pos (yeV _ _ (by decide))]
  rfl
 ·intro again i o h0 h1 h2
  have hw : Go.IntKind.wrap .i64 (i + 1) = i + 1 := w64 (by omega) (by omega)
  have hr := QM b3 h0 h1
  simp only [Y1, Bool.cond_eq_ite, decide_eq_true_eq, h0, h1, if_true, hw, jQ (zL s i) (by omega), Option.bind_some]
  rw [if_pos (by simp only [List.length_cons, List.length_nil]; omega)]
  rfl
 ·intro again i hi
  simp only [Y1, Bool.cond_eq_ite, decide_eq_true_eq, if_neg hi]
 ·intro again i o hi
  simp only [Y1, Bool.cond_eq_ite, decide_eq_true_eq, if_neg hi]
theorem yap {R : Type} (k0 : Int × Bool × Int × Bool → Option R) (k1 : Int × Bool × Int × Bool × List yQ → Option R) (k2 : Int × Bool × Int × Bool × List y7 → Option R) (k3 : Int × Bool × Int × Bool × List y7 × List yQ → Option R) (c : List yQ) (z : Int) (b : Bool) (b2 : c.length ≤ 1048576) (b4 : ze yeU c ≤ 1048576) :
  Yn k0 k1 k2 k3 (Sum.inl (c, ((List.length c : Nat) : Int), 0, 0, false, z, b)) = if c.length = 0 then k0 (0, false, z, b) else k1 (0, false, z, b, c) := by
 unfold Yn
 refine Wg (step := yZ k0 k1 k2 k3) y15 c (fun i => Sum.inl (c, ((List.length c : Nat) : Int), i, 0, false, z, b)) (fun i o => Sum.inr (Sum.inl (c, ((List.length c : Nat) : Int), i, 0, false, z, b, o))) _ (fun o => k1 (0, false, z, b, o)) (by omega) ?_ ?_ ?_ ?_
 ·intro again i h0 h1
  have hw : Go.IntKind.wrap .i64 (i + 1) = i + 1 := w64 (by omega) (by omega)
  have hr := ZX b4 h0 h1
  simp only [yZ, Bool.cond_eq_ite, decide_eq_true_eq, h0, h1, if_true, hw, jQ (yW c i).2 (by omega), Option.bind_some]
  rw [if_pos (yeV _ _ (by decide))]
  rfl
 ·intro again i o h0 h1 h2
  have hw : Go.IntKind.wrap .i64 (i + 1) = i + 1 := w64 (by omega) (by omega)
  have hr := ZX b4 h0 h1
  simp only [yZ, Bool.cond_eq_ite, decide_eq_true_eq, h0, h1, if_true, hw, jQ (yW c i).2 (by omega), Option.bind_some]
  rw [if_pos (by simp only [List.length_cons, List.length_nil]; omega)]
  rfl
 ·intro again i hi
  simp only [yZ, Bool.cond_eq_ite, decide_eq_true_eq, if_neg hi]
 ·intro again i o hi
  simp only [yZ, Bool.cond_eq_ite, decide_eq_true_eq, if_neg hi]
theorem yaq {R : Type} (k0 : Int × Bool × Int × Bool → Option R) (k1 : Int × Bool × Int × Bool × List yQ → Option R) (k2 : Int × Bool × Int × Bool × List y7 → Option R) (k3 : Int × Bool × Int × Bool × List y7 × List yQ → Option R) (o : List y7) (c : List yQ) (z : Int) (b : Bool) (b2 : c.length ≤ 1048576) (b4 : ze yeU c ≤ 1048576) :
  Yn k0 k1 k2 k3 (Sum.inr (Sum.inr (Sum.inl (c, ((List.length c : Nat) : Int), 0, 0, false, z, b, o)))) = if c.length = 0 then k2 (0, false, z, b, o) else k3 (0, false, z, b, o, c) := by
 unfold Yn
 refine Wg (step := yZ k0 k1 k2 k3) y15 c (fun i => Sum.inr (Sum.inr (Sum.inl (c, ((List.length c : Nat) : Int), i, 0, false, z, b, o)))) (fun i o' => Sum.inr (Sum.inr (Sum.inr (c, ((List.length c : Nat) : Int), i, 0, false, z, b, o, o')))) _ (fun o' => k3 (0, false, z, b, o, o')) (by omega) ?_ ?_ ?_ ?_
 ·intro again i h0 h1
  have hw : Go.IntKind.wrap .i64 (i + 1) = i + 1 := w64 (by omega) (by omega)
  have hr := ZX b4 h0 h1
  simp only [yZ, Bool.cond_eq_ite, decide_eq_true_eq, h0, h1, if_true, hw, jQ (yW c i).2 (by omega), Option.bind_some]
  rw [if_pos (yeV _ _ (by decide))]
  rfl
 ·intro again i o' h0 h1 h2
  have hw : Go.IntKind.wrap .i64 (i + 1) = i + 1 := w64 (by omega) (by omega)
  have hr := ZX b4 h0 h1
  simp only [yZ, Bool.cond_eq_ite, decide_eq_true_eq, h0, h1, if_true, hw, jQ (yW c i).2 (by omega), Option.bind_some]
  rw [if_pos (by simp only [List.length_cons, List.length_nil]; omega)]
  rfl
 ·intro again i hi
  simp only [yZ, Bool.cond_eq_ite, decide_eq_true_eq, if_neg hi]
 ·intro again i o' hi
  simp only [yZ, Bool.cond_eq_ite, decide_eq_true_eq, if_neg hi]
theorem Wh (s : List y7) (c : List yQ) (z : Int) (b : Bool) (h : VQ s c) : Y9 (s, c, z, b) = some (s, c, z, b) := by
 unfold Y9
 rw [ycH _ _ s c z b h]
 cases s with
 | nil =>
  rw [if_pos (show List.length ([] : List y7) = 0 from rfl)]
  simp only [yap _ _ _ _ c z b h.2.1 h.2.2.2]
  cases c with
  | nil => rfl
  | cons w c => rw [if_neg (show ¬ List.length (w :: c) = 0 from by simp)]
 | cons a s =>
  rw [if_neg (show ¬ List.length (a :: s) = 0 from by simp)]
  simp only [yaq _ _ _ _ _ c z b h.2.1 h.2.2.2]
  cases c with
  | nil => rfl
  | cons w c => rw [if_neg (show ¬ List.length (w :: c) = 0 from by simp)]
def y2f (s : List y7) (c : List yQ) (z : Int) : Prop := (∀ a ∈ s, List.length a ≤ 80) ∧ (∀ w ∈ c, 0 ≤ w.1 ∧ w.1 ≤ (s.length : Int) - 1 ∧ List.length w.2 ≤ 80) ∧ 1 ≤ s.length ∧ s.length ≤ 60 ∧ c.length ≤ 60 ∧ -1 ≤ z ∧ z ≤ 1000
theorem y7B {A : Type} (p : Int → A → Bool) (hp : ∀ i j a, p i a = p j a) : ∀ (l : List A) (i : Int), zR p l i = false ↔ ∀ a ∈ l, p 0 a = false
 | [], i => by simp [zR]
 | b :: l, i => by
  rw [zR, Bool.or_eq_false_iff, y7B p hp l (i + 1), hp i 0 b]
  simp
theorem y10 (s : List y7) (c : List yQ) (z : Int) : ycB s c z = true ↔ y2f s c z := by
 unfold ycB y2f
 simp only [Bool.and_eq_true, Bool.not_eq_true', Zd, decide_eq_true_eq]
 rw [y7B ycA (fun _ _ _ => rfl), y7B (y8V s.length) (fun _ _ _ => rfl)]
 constructor
 ·rintro ⟨h1, h2, ⟨h3, h4⟩, h5⟩
  refine ⟨fun a ha => ?_, fun w hw => ?_, by omega, by omega, by omega, by omega, by omega⟩
  ·have := of_decide_eq_false (h1 a ha)
   omega
  ·have h := h2 w hw
   unfold y8V at h
   rw [Bool.or_eq_false_iff, Bool.not_eq_false', Zd] at h
   have := of_decide_eq_false h.2
   exact ⟨h.1.1, h.1.2, by omega⟩
 ·rintro ⟨h1, h2, h3, h4, h5, h6, h7⟩
  refine ⟨fun a ha => decide_eq_false (by have := h1 a ha; omega), fun w hw => ?_, ⟨⟨by omega, by omega⟩, by omega⟩, by omega, by omega⟩
  have h := h2 w hw
  unfold y8V
  rw [Bool.or_eq_false_iff, Bool.not_eq_false', Zd]
  exact ⟨⟨h.1, h.2.1⟩, decide_eq_false (by omega)⟩
theorem yar {A : Type} (w : A → Int) (m : Int) : ∀ (l : List A), (∀ a ∈ l, w a ≤ m) → ze w l ≤ m * l.length
 | [], _ => by simp [ze]
 | a :: l, h => by
  have h1 := yar w m l fun b hb => h b (by simp [hb])
  have h2 := h a (by simp)
  rw [zz, List.length_cons]
  have e : m * ((l.length + 1 : Nat) : Int) = m * l.length + m := by
   rw [Int.natCast_add, Int.mul_add]
   simp
  omega
theorem VR {s : List y7} {c : List yQ} {z : Int} (h : y2f s c z) : VQ s c := by
 obtain ⟨h1, h2, h3, h4, h5, h6, h7⟩ := h
 have e1 := yar Qx 80 s fun a ha => by
  have := h1 a ha
  show (List.length a : Int) ≤ 80
  omega
 have e2 := yar yeU 80 c fun w hw => by
  have := (h2 w hw).2.2
  show (List.length w.2 : Int) ≤ 80
  omega
 exact ⟨by omega, by omega, by omega, by omega⟩
def wrK (s : List y7) (t : List yQ × Int × Bool) (n : Int) (p : List Int) : List yQ × Int × Bool :=
 if t.2.2 = true then t else if inR n 0 ((s.length : Int) - 1) = false then t else if (p.length : Int) > 80 then t else if (t.1.length : Int) ≥ 60 then t
 else if t.2.1 = 0 then (t.1, -1, true) else (t.1 ++ [(n, p)], if t.2.1 > 0 then t.2.1 - 1 else t.2.1, t.2.2)
theorem qI (s : List y7) (c : List yQ) (z : Int) (b : Bool) (n : Int) (p : List Int) (h : y2f s c z) : Yi (s, c, z, b, n, p) = some (s, wrK s (c, z, b) n p) := by
 have hsm := VR h
 have hk := (y10 s c z).2 h
 obtain ⟨h1, h2, h3, h4, h5, h6, h7⟩ := h
 have hw : Go.IntKind.wrap .i64 ((s.length : Int) - 1) = (s.length : Int) - 1 := w64 (by omega) (by omega)
 have hw2 : Go.IntKind.wrap .i64 (z - 1) = z - 1 := w64 (by omega) (by omega)
 unfold Yi wrK
 simp only [hw, zJ, Option.bind_some, Wh s c z b hsm, Kx s c z b (by omega) (by omega), hk, Bool.not_true, cond_false]
 cases b with
 | true => rfl
 | false =>
  rw [if_neg (by simp)]
  cases hin : inR n 0 ((s.length : Int) - 1) with
  | false => rfl
  | true =>
   rw [if_neg (by simp)]
   by_cases a1 : (p.length : Int) > 80
   ·rw [if_pos a1, decide_eq_true a1]
    rfl
   ·rw [if_neg a1, decide_eq_false a1]
    by_cases a2 : (c.length : Int) ≥ 60
    ·rw [if_pos a2, show (((List.length c : Nat) : Int) == 60) = true from by simp; omega]
     rfl
    ·rw [if_neg a2, show (((List.length c : Nat) : Int) == 60) = false from by simp; omega]
     unfold WZ
     simp only [Bool.not_true, cond_false, Option.bind_some, hw2]
     by_cases a3 : z = 0
     ·subst a3
      rfl
     ·rw [if_neg a3, show (z == 0) = false from by simpa using a3, cond_false]
      have g2 : (c.length + List.length ([(n, p)] : List yQ)) * 32 < 140737488355328 := by
       simp only [List.length_cons, List.length_nil]
       omega
      by_cases a4 : z > 0
      ·rw [if_pos a4, decide_eq_true a4]
       simp only [cond_true, Option.bind_some, jQ p (by omega)]
       rw [if_pos g2]
      ·rw [if_neg a4, decide_eq_false a4]
       simp only [cond_false, cond_true, Option.bind_some, jQ p (by omega)]
       rw [if_pos g2]
theorem ybF (s : List y7) (c : List yQ) (z : Int) (b : Bool) (n : Int) (p : List Int) (h : y2f s c z) : y2f s (wrK s (c, z, b) n p).1 (wrK s (c, z, b) n p).2.1 := by
 unfold wrK
 cases b with
 | true => exact h
 | false =>
  rw [if_neg (by simp)]
  cases hin : inR n 0 ((s.length : Int) - 1) with
  | false => exact h
  | true =>
   rw [if_neg (by simp)]
   by_cases a1 : (p.length : Int) > 80
   ·rw [if_pos a1]
    exact h
   ·rw [if_neg a1]
    by_cases a2 : (c.length : Int) ≥ 60
    ·rw [if_pos a2]
     exact h
    ·rw [if_neg a2]
     obtain ⟨h1, h2, h3, h4, h5, h6, h7⟩ := h
     by_cases a3 : z = 0
     ·rw [if_pos a3]
      exact ⟨h1, h2, h3, h4, h5, by simp, by simp⟩
     ·rw [if_neg a3]
      have hn := Zd.1 hin
      refine ⟨h1, ?_, h3, h4, ?_, ?_, ?_⟩
      ·intro w hw
       simp only [List.mem_append, List.mem_singleton] at hw
       rcases hw with hw | rfl
       ·exact h2 w hw
       ·exact ⟨hn.1, hn.2, by simp only; omega⟩
      ·simp only [List.length_append, List.length_cons, List.length_nil]
       omega
      ·simp only
       split <;> omega
      ·simp only
       split <;> omega
def y7C (p : List Int) (i : Int) : Int := if (p.length : Int) < (i + 1) * 70 then p.length else (i + 1) * 70
def ycI (p : List Int) (i : Int) : List Int := List.drop (i * 70).toNat (List.take (y7C p i).toNat p)
def y7D (s : List y7) (side : Int) (p : List Int) : Nat → Int → List yQ × Int × Bool → List yQ × Int × Bool
 | 0, _, t => t
 | m + 1, i, t => if i * 70 < (p.length : Int) then y7D s side p m (i + 1) (wrK s t (8 + side * 24 + i) (ycI p i)) else t
theorem ybG (s : List y7) (side : Int) (p : List Int) (m : Nat) (i : Int) (t : List yQ × Int × Bool) (h : ¬ i * 70 < (p.length : Int)) : y7D s side p m i t = t := by
 cases m with
 | zero => rfl
 | succ m => rw [y7D, if_neg h]
theorem yez (s : List y7) (side : Int) (p : List Int) : ∀ (m : Nat) (i : Int) (t : List yQ × Int × Bool), y2f s t.1 t.2.1 → y2f s (y7D s side p m i t).1 (y7D s side p m i t).2.1
 | 0, _, _, h => h
 | m + 1, i, t, h => by
  rw [y7D]
  split
  ·exact yez s side p m (i + 1) _ (ybF s t.1 t.2.1 t.2.2 _ _ h)
  ·exact h
theorem y4x (side i : Int) (h : inR side 0 1 = true) (h0 : 0 ≤ i) (h1 : i ≤ 23) : jV (side, i) = some (8 + side * 24 + i) := by
 have hs := Zd.1 h
 unfold jV
 simp only [Zf, h, Zd.2 ⟨h0, h1⟩, Option.bind_some, Bool.not_true, cond_false]
 rw [w64 (n := side * 24) (by omega) (by omega), w64 (n := 8 + side * 24) (by omega) (by omega), w64 (by omega) (by omega)]
theorem y4y (side i : Int) (h : inR side 0 1 = true) (h0 : 0 ≤ i) (h1 : i ≤ 23) : wQ (side, i) = some (8 + side * 24 + i) := by
 have hs := Zd.1 h
 unfold wQ
 simp only [zJ, h, Zd.2 ⟨h0, h1⟩, Option.bind_some, Bool.not_true, cond_false]
 rw [w64 (n := side * 24) (by omega) (by omega), w64 (n := 8 + side * 24) (by omega) (by omega), w64 (by omega) (by omega)]
def yeA (s : List y7) (c : List yQ) (z : Int) (b : Bool) (side : Int) (p : List Int) : List y7 × List yQ × Int × Bool := if (ycB s c z && (inR side 0 1 && decide ((p.length : Int) ≤ 1680))) = true then (s, y7D s side p 24 0 (c, z, b)) else (s, c, z, b)
theorem y7E {R : Type} (k : Int × Bool × Int × Bool × List y7 × List yQ → Option R) (s : List y7) (c : List yQ) (z : Int) (b : Bool) (side : Int) (p : List Int) (h : y2f s c z) (hside : inR side 0 1 = true) (hp : p.length ≤ 1680) :
  JM k (side, p, 0, 0, false, z, b, s, c) = k (0, false, (y7D s side p 24 0 (c, z, b)).2.1, (y7D s side p 24 0 (c, z, b)).2.2, s, (y7D s side p 24 0 (c, z, b)).1) := by
 unfold JM
 refine Yj (step := Zt k) (fun t : Int × List Int × Int × Int × Bool × Int × Bool × List y7 × List yQ => 24 - t.2.2.1.toNat) (fun t => t.1 = side ∧ t.2.1 = p ∧ 0 ≤ t.2.2.1 ∧ t.2.2.1 ≤ 24 ∧ t.2.2.2.1 = 0 ∧ t.2.2.2.2.1 = false ∧ t.2.2.2.2.2.2.2.1 = s ∧ y2f s t.2.2.2.2.2.2.2.2 t.2.2.2.2.2.1) (fun t => k (0, false, (y7D s side p (24 - t.2.2.1.toNat) t.2.2.1 (t.2.2.2.2.2.2.2.2, t.2.2.2.2.2.1, t.2.2.2.2.2.2.1)).2.1, (y7D s side p (24 - t.2.2.1.toNat) t.2.2.1 (t.2.2.2.2.2.2.2.2, t.2.2.2.2.2.1, t.2.2.2.2.2.2.1)).2.2, s, (y7D s side p (24 - t.2.2.1.toNat) t.2.2.1 (t.2.2.2.2.2.2.2.2, t.2.2.2.2.2.1, t.2.2.2.2.2.2.1)).1)) ?_ (side, p, 0, 0, false, z, b, s, c) ⟨rfl, rfl, Int.le_refl _, by simp, rfl, rfl, rfl, h⟩ (by simp)
 rintro again ⟨side', p', i, y, f, z', b', s', c'⟩ ⟨a1, a2, i0, i1, a4, a5, a3, hd⟩ hag
 simp only at a1 a2 i0 i1 a3 a4 a5 hd ⊢
 subst a1 a2 a3 a4 a5
 have w1 : Go.IntKind.wrap .i64 (i * 70) = i * 70 := w64 (by omega) (by omega)
 have w2 : Go.IntKind.wrap .i64 (i + 1) = i + 1 := w64 (by omega) (by omega)
 have w3 : Go.IntKind.wrap .i64 ((i + 1) * 70) = (i + 1) * 70 := w64 (by omega) (by omega)
 unfold Zt
 simp only [w1, w2, w3]
 by_cases hi : i * 70 < (p'.length : Int)
 ·have e1 : 24 - i.toNat = (24 - (i + 1).toNat) + 1 := by omega
  have hE : (if (p'.length : Int) < (i + 1) * 70 then (p'.length : Int) else (i + 1) * 70) = y7C p' i := rfl
  have hE1 : i * 70 ≤ y7C p' i := by
   unfold y7C
   split <;> omega
  have hE2 : y7C p' i ≤ (p'.length : Int) := by
   unfold y7C
   split <;> omega
  rw [decide_eq_true hi, cond_true, e1, y7D, if_pos hi, y4y side' i hside i0 (by omega)]
  simp only [Option.bind_some, hE]
  rw [if_pos (by omega), if_pos hE1, if_pos hE2, show List.drop (i * 70).toNat (List.take (y7C p' i).toNat p') = ycI p' i from rfl, qI s' c' z' b' _ _ hd]
  exact hag _ ⟨rfl, rfl, by simp only; omega, by simp only; omega, rfl, rfl, rfl, ybF s' c' z' b' _ _ hd⟩ (by simp only; omega)
 ·rw [decide_eq_false hi, cond_false, ybG _ _ _ _ _ _ hi]
theorem y11 (s : List y7) (c : List yQ) (z : Int) (b : Bool) (side : Int) (p : List Int) (h : VQ s c) : Z0 (s, c, z, b, side, p) = some (yeA s c z b side p) := by
 unfold Z0 yeA
 simp only [Wh s c z b h, Kx s c z b h.1 h.2.1, zJ, Option.bind_some]
 cases hd : ycB s c z with
 | false => rfl
 | true =>
  by_cases hp : (p.length : Int) ≤ 1680
  ·rw [decide_eq_false (show ¬ (p.length : Int) > 1680 by omega), decide_eq_true hp]
   cases hin : inR side 0 1 with
   | false => rfl
   | true =>
    simp only [cond_false, Option.bind_some, Bool.not_true, Bool.and_true, if_true, y7E _ s c z b side p ((y10 s c z).1 hd) hin (by omega)]
  ·rw [decide_eq_true (show (p.length : Int) > 1680 by omega), decide_eq_false hp]
   simp
end Go.Proofs.YtmapoakbdgpamaaGreat.Pl
namespace Go.Proofs.YtmapoakbdgpamaaGreat.Pl
open Go.Proofs.YtmapoakbdgpamaaGreat.R Go.Proofs.YtmapoakbdgpamaaGreat.XN
theorem y5k {T A S R : Type} {step : (T → Option R) → T → Option R} (da : A) (g : S → A → S) (l : List A) (St0 St1 : Int → S → T) (k : S → Option R) (I : S → Prop) (hl : l.length ≤ 1099511627776)
  (h0 : ∀ again i s, 0 ≤ i → i < ((List.length l : Nat) : Int) → I s → step again (St0 i s) = again (St1 (i + 1) (g s (l.getD i.toNat da))))
  (h1 : ∀ again i s, 0 ≤ i → i < ((List.length l : Nat) : Int) → I s → step again (St1 i s) = again (St1 (i + 1) (g s (l.getD i.toNat da))))
  (hI : ∀ s a, I s → a ∈ l → I (g s a))
  (hd0 : ∀ again i s, ¬ i < ((List.length l : Nat) : Int) → step again (St0 i s) = k s) (hd1 : ∀ again i s, ¬ i < ((List.length l : Nat) : Int) → step again (St1 i s) = k s) (s : S) (hs : I s) : z6 step zd (St0 0 s) = k (l.foldl g s) := by
 have key : ∀ (n : Nat) (i : Int) (s : S), 0 ≤ i → i ≤ l.length → I s → l.length - i.toNat < n → z6 step n (St1 i s) = k ((l.drop i.toNat).foldl g s) := by
  intro n
  induction n with
  | zero => intro i s _ _ _ hn; omega
  | succ n ih =>
   intro i s i0 i1 hs hn
   rw [z6]
   by_cases hi : i < ((List.length l : Nat) : Int)
   ·rw [h1 _ i s i0 hi hs, ih (i + 1) _ (by omega) (by omega) (hI s _ hs (z4 da l i i0 hi)) (by omega), Ze da l i i0 hi, List.foldl_cons]
   ·rw [hd1 _ i s hi, List.drop_of_length_le (by omega)]
    rfl
 have hF : zd = (zd - 1) + 1 := by
  have := kN
  omega
 rw [hF, z6]
 by_cases h : (0 : Int) < ((List.length l : Nat) : Int)
 ·rw [h0 _ 0 s (Int.le_refl _) h hs, key _ _ _ (by omega) (by omega) (hI s _ hs (z4 da l 0 (Int.le_refl _) h)) (by
   have := kN
   omega)]
  congr 1
  have := Ze da l 0 (Int.le_refl _) h
  rw [show l.drop (0 : Int).toNat = l from rfl] at this
  conv => rhs; rw [this, List.foldl_cons]
 ·rw [hd0 _ 0 s h]
  have : l = [] := List.length_eq_zero_iff.1 (by omega)
  subst this
  rfl
def Qy (s : List y7) (w : yQ) : List y7 := s.set w.1.toNat w.2
def flK (s : List y7) (c : List yQ) (z : Int) (b : Bool) : List y7 × List yQ × Int × Bool :=
 if b = true then (s, c, z, b) else if z = 0 then (s, c, -1, true) else (c.foldl Qy s, [], if z > 0 then z - 1 else z, b)
theorem ybH (P : y7 → Prop) : ∀ (c : List yQ) (s : List y7), (∀ a ∈ s, P a) → (∀ w ∈ c, P w.2) → (∀ a ∈ c.foldl Qy s, P a) ∧ (c.foldl Qy s).length = s.length
 | [], s, hs, _ => ⟨hs, rfl⟩
 | w :: c, s, hs, hc => by
  have ih := ybH P c (Qy s w) (fun a ha => (List.mem_or_eq_of_mem_set ha).elim (hs a) fun e => e ▸ hc w (by simp)) (fun v hv => hc v (by simp [hv]))
  rw [List.foldl_cons]
  exact ⟨ih.1, ih.2.trans (by simp [Qy])⟩
theorem ybI (s : List y7) (c : List yQ) (z : Int) (b : Bool) (h : y2f s c z) : y2f (flK s c z b).1 (flK s c z b).2.1 (flK s c z b).2.2.1 := by
 unfold flK
 split
 ·exact h
 ·obtain ⟨h1, h2, h3, h4, h5, h6, h7⟩ := h
  split
  ·exact ⟨h1, h2, h3, h4, h5, by simp, by simp⟩
  ·have hp := ybH (fun a => List.length a ≤ 80) c s h1 (fun w hw => (h2 w hw).2.2)
   refine ⟨hp.1, by simp, ?_, ?_, by simp, ?_, ?_⟩
   ·simp only [hp.2]
    exact h3
   ·simp only [hp.2]
    exact h4
   ·simp only
    split <;> omega
   ·simp only
    split <;> omega
theorem Kc (s : List y7) (c : List yQ) (z : Int) (b : Bool) (h : y2f s c z) : zy (s, c, z, b) = some (flK s c z b) := by
 have hsm := VR h
 have hk := (y10 s c z).2 h
 obtain ⟨h1, h2, h3, h4, h5, h6, h7⟩ := h
 have hw2 : Go.IntKind.wrap .i64 (z - 1) = z - 1 := w64 (by omega) (by omega)
 have hloop : ∀ z' : Int, k9 (fun x7 => some (x7.2.2.2.2.1, ([] : List yQ), x7.2.2.1, x7.2.2.2.1)) (fun x8 => some (x8.2.2.2.2.2, ([] : List yQ), x8.2.2.2.1, x8.2.2.2.2.1)) (Sum.inl (((List.length c : Nat) : Int), (0 : Int), (0 : Int), false, z', false, c, s)) = some (c.foldl Qy s, ([] : List yQ), z', false) := by
  intro z'
  unfold k9
  refine y5k (step := zP _ _) y15 Qy c (fun i s' => Sum.inl (((List.length c : Nat) : Int), i, (0 : Int), false, z', false, c, s')) (fun i s' => Sum.inr (c, ((List.length c : Nat) : Int), i, (0 : Int), false, c, z', false, s')) (fun s' => some (s', ([] : List yQ), z', false)) (fun s' => s'.length = s.length) (by omega) ?_ ?_ ?_ ?_ ?_ s rfl
  ·intro again i s' i0 i1 hl
   have hw : Go.IntKind.wrap .i64 (i + 1) = i + 1 := w64 (by omega) (by omega)
   have hr := ZX hsm.2.2.2 i0 i1
   have hn := h2 _ (z4 y15 c i i0 i1)
   have hn1 : (yW c i).1 < ((List.length s' : Nat) : Int) := by
    have : (yW c i).1 ≤ (s.length : Int) - 1 := hn.2.1
    omega
   have hn0 : 0 ≤ (yW c i).1 := hn.1
   simp only [zP, Bool.cond_eq_ite, decide_eq_true_eq, i0, i1, if_true, hw, jQ (yW c i).2 (by omega), Option.bind_some, hn0, hn1]
   rfl
  ·intro again i s' i0 i1 hl
   have hw : Go.IntKind.wrap .i64 (i + 1) = i + 1 := w64 (by omega) (by omega)
   have hr := ZX hsm.2.2.2 i0 i1
   have hn := h2 _ (z4 y15 c i i0 i1)
   have hn1 : (yW c i).1 < ((List.length s' : Nat) : Int) := by
    have : (yW c i).1 ≤ (s.length : Int) - 1 := hn.2.1
    omega
   have hn0 : 0 ≤ (yW c i).1 := hn.1
   simp only [zP, Bool.cond_eq_ite, decide_eq_true_eq, i0, i1, if_true, hw, jQ (yW c i).2 (by omega), Option.bind_some, hn0, hn1]
   rfl
  ·intro s' a hs' _
   simp only [Qy, List.length_set]
   exact hs'
  ·intro again i s' hi
   simp only [zP, Bool.cond_eq_ite, decide_eq_true_eq, if_neg hi]
  ·intro again i s' hi
   simp only [zP, Bool.cond_eq_ite, decide_eq_true_eq, if_neg hi]
 unfold zy flK
 simp only [Wh s c z b hsm, Kx s c z b (by omega) (by omega), hk, Option.bind_some, Bool.not_true, cond_false]
 cases b with
 | true => rfl
 | false =>
  rw [if_neg (show ¬ (false = true) by simp)]
  simp only [cond_false]
  unfold WZ
  by_cases a3 : z = 0
  ·subst a3
   rfl
  ·rw [if_neg a3]
   simp only [show (z == 0) = false from by simpa using a3, cond_false]
   by_cases a4 : z > 0
   ·rw [if_pos a4]
    simp only [decide_eq_true a4, cond_true, Option.bind_some, Bool.not_true, cond_false, hw2]
    exact hloop (z - 1)
   ·rw [if_neg a4]
    simp only [decide_eq_false a4, cond_false, Option.bind_some, Bool.not_true]
    exact hloop z
section
variable (q : List yx) (t : List y8) (l : List yq) (cs : List yb) (vs : List yD) (nx gen bs sq : Int)
abbrev ST : Type := List y7 × List yQ × Int × Bool × List yx × List y8 × List yq × List yb × List yD × Int × Int × Int × Int
def Vp (d : List y7 × List yQ × Int × Bool) : ST := (d.1, d.2.1, d.2.2.1, d.2.2.2, q, t, l, cs, vs, nx, gen, bs, sq)
theorem Qz (s : List y7) (c : List yQ) (z : Int) (b : Bool) (h : y2f s c z) : zi (s, c, z, b, q, t, l, cs, vs, nx, gen, bs, sq) = some (Vp q t l cs vs nx gen bs sq (flK s c z b)) := by
 have hsm := VR h
 obtain ⟨h1, h2, h3, h4, h5, h6, h7⟩ := h
 have hw2 : Go.IntKind.wrap .i64 (z - 1) = z - 1 := w64 (by omega) (by omega)
 have hloop : ∀ z' : Int, ZZ (fun x2 => some (x2.2.2.2.2.2.2.1, ([] : List yQ), x2.1, x2.2.1, x2.2.2.2.2.2.2.2.2.1, x2.2.2.2.2.2.2.2.2.2.1, x2.2.2.2.2.2.2.2.2.2.2.1, x2.2.2.2.2.2.2.2.2.2.2.2.1, x2.2.2.2.2.2.2.2.2.2.2.2.2, x2.2.2.1, x2.2.2.2.1, x2.2.2.2.2.1, x2.2.2.2.2.2.1)) ((0 : Int), z', false, nx, gen, bs, sq, s, c, q, t, l, cs, vs) = some (c.foldl Qy s, ([] : List yQ), z', false, q, t, l, cs, vs, nx, gen, bs, sq) := by
  intro z'
  unfold ZZ
  refine y5k (step := zb _) y15 Qy c (fun i s' => (i, z', false, nx, gen, bs, sq, s', c, q, t, l, cs, vs)) (fun i s' => (i, z', false, nx, gen, bs, sq, s', c, q, t, l, cs, vs)) (fun s' => some (s', ([] : List yQ), z', false, q, t, l, cs, vs, nx, gen, bs, sq)) (fun s' => s'.length = s.length) (by omega) ?_ ?_ ?_ ?_ ?_ s rfl
  ·intro again i s' i0 i1 hl
   have hw : Go.IntKind.wrap .i64 (i + 1) = i + 1 := w64 (by omega) (by omega)
   have hn := h2 _ (z4 y15 c i i0 i1)
   have hn1 : (yW c i).1 < ((List.length s' : Nat) : Int) := by
    have : (yW c i).1 ≤ (s.length : Int) - 1 := hn.2.1
    omega
   have hn0 : 0 ≤ (yW c i).1 := hn.1
   unfold zb
   simp only [Bool.cond_eq_ite, decide_eq_true_eq, i0, i1, if_true, hw, hn0, hn1]
   rfl
  ·intro again i s' i0 i1 hl
   have hw : Go.IntKind.wrap .i64 (i + 1) = i + 1 := w64 (by omega) (by omega)
   have hn := h2 _ (z4 y15 c i i0 i1)
   have hn1 : (yW c i).1 < ((List.length s' : Nat) : Int) := by
    have : (yW c i).1 ≤ (s.length : Int) - 1 := hn.2.1
    omega
   have hn0 : 0 ≤ (yW c i).1 := hn.1
   unfold zb
   simp only [Bool.cond_eq_ite, decide_eq_true_eq, i0, i1, if_true, hw, hn0, hn1]
   rfl
  ·intro s' a hs' _
   simp only [Qy, List.length_set]
   exact hs'
  ·intro again i s' hi
   unfold zb
   simp only [Bool.cond_eq_ite, decide_eq_true_eq, if_neg hi]
  ·intro again i s' hi
   unfold zb
   simp only [Bool.cond_eq_ite, decide_eq_true_eq, if_neg hi]
 unfold zi flK Vp
 cases b with
 | true => rfl
 | false =>
  rw [if_neg (show ¬ (false = true) by simp)]
  simp only [cond_false]
  unfold Ya
  by_cases a3 : z = 0
  ·subst a3
   rfl
  ·rw [if_neg a3]
   simp only [show (z == 0) = false from by simpa using a3, cond_false]
   by_cases a4 : z > 0
   ·rw [if_pos a4]
    simp only [decide_eq_true a4, cond_true, Option.bind_some, Bool.not_true, cond_false, hw2]
    exact hloop (z - 1)
   ·rw [if_neg a4]
    simp only [decide_eq_false a4, cond_false, Option.bind_some, Bool.not_true]
    exact hloop z
end
end Go.Proofs.YtmapoakbdgpamaaGreat.Pl
namespace Go.Proofs.YtmapoakbdgpamaaGreat.Pl
open Go.Proofs.YtmapoakbdgpamaaGreat.R Go.Proofs.YtmapoakbdgpamaaGreat.XN
def y8W (n : y8) : Prop := List.length n ≤ 1048576 ∧ ∀ b ∈ (show List y9 from n), List.length b ≤ 1048576
theorem y0b (n : List y9) (h : y8W n) : Zr n = some n := by
 have h1 : n.length ≤ 1048576 := h.1
 have e : Zr n = if n.length = 0 then some ([] : List y9) else some n := by
  unfold Zr qZ
  refine Wg (step := Yb _ _) z5 n (fun i => Sum.inl (i, n)) (fun i o => Sum.inr (i, n, o)) _ (fun o => some o) (by omega) ?_ ?_ ?_ ?_
  ·intro again i i0 i1
   have hw : Go.IntKind.wrap .i64 (i + 1) = i + 1 := w64 (by omega) (by omega)
   have hr : List.length (yh n i) ≤ 1048576 := h.2 _ (z4 z5 n i i0 i1)
   simp only [Yb, Bool.cond_eq_ite, decide_eq_true_eq, i0, i1, if_true, hw]
   rw [if_pos (by simp only [List.length_nil]; omega), if_pos (yeV _ _ (by decide))]
   rfl
  ·intro again i o i0 i1 i2
   have hw : Go.IntKind.wrap .i64 (i + 1) = i + 1 := w64 (by omega) (by omega)
   have hr : List.length (yh n i) ≤ 1048576 := h.2 _ (z4 z5 n i i0 i1)
   simp only [Yb, Bool.cond_eq_ite, decide_eq_true_eq, i0, i1, if_true, hw]
   rw [if_pos (by simp only [List.length_nil]; omega), if_pos (by simp only [List.length_cons, List.length_nil]; omega)]
   rfl
  ·intro again i hi
   simp only [Yb, Bool.cond_eq_ite, decide_eq_true_eq, if_neg hi]
  ·intro again i o hi
   simp only [Yb, Bool.cond_eq_ite, decide_eq_true_eq, if_neg hi]
 rw [e]
 split
 ·rename_i h0
  rw [List.length_eq_zero_iff.1 h0]
 ·rfl
theorem qJ (l : List ya) (h : l.length ≤ 1048576) : zV l = some l := by
 unfold zV
 rw [if_pos (by simp only [List.length_nil]; omega)]
 rfl
theorem qK (n : List y9) (h : y8W n) : Yh n = some n := by
 have h1 : n.length ≤ 1048576 := h.1
 have e : Yh n = if n.length = 0 then some ([] : List y9) else some n := by
  unfold Yh VD
  refine Wg (step := zN _ _) z5 n (fun i => Sum.inl (n, ((List.length n : Nat) : Int), i)) (fun i o => Sum.inr (n, ((List.length n : Nat) : Int), i, o)) _ (fun o => some o) (by omega) ?_ ?_ ?_ ?_
  ·intro again i i0 i1
   have hw : Go.IntKind.wrap .i64 (i + 1) = i + 1 := w64 (by omega) (by omega)
   have hr : List.length (yh n i) ≤ 1048576 := h.2 _ (z4 z5 n i i0 i1)
   simp only [zN, Bool.cond_eq_ite, decide_eq_true_eq, i0, i1, if_true, hw, qJ _ hr, Option.bind_some]
   rw [if_pos (yeV _ _ (by decide))]
   rfl
  ·intro again i o i0 i1 i2
   have hw : Go.IntKind.wrap .i64 (i + 1) = i + 1 := w64 (by omega) (by omega)
   have hr : List.length (yh n i) ≤ 1048576 := h.2 _ (z4 z5 n i i0 i1)
   simp only [zN, Bool.cond_eq_ite, decide_eq_true_eq, i0, i1, if_true, hw, qJ _ hr, Option.bind_some]
   rw [if_pos (by simp only [List.length_cons, List.length_nil]; omega)]
   rfl
  ·intro again i hi
   simp only [zN, Bool.cond_eq_ite, decide_eq_true_eq, if_neg hi]
  ·intro again i o hi
   simp only [zN, Bool.cond_eq_ite, decide_eq_true_eq, if_neg hi]
 rw [e]
 split
 ·rename_i h0
  rw [List.length_eq_zero_iff.1 h0]
 ·rfl
theorem y4z (q : List yx) (t : List y8) (hq : q.length ≤ 1048576) (ht : t.length ≤ 1048576) (hn : ∀ n ∈ t, y8W n) : jS (q, t) = some (q, t) := by
 have e : jS (q, t) = if t.length = 0 then some (q, ([] : List y8)) else some (q, t) := by
  unfold jS Q0
  simp only [List.length_nil, List.nil_append]
  rw [if_pos (by omega)]
  refine Wg (step := Yc _ _) zo t (fun i => Sum.inl (i, q, t, q)) (fun i o => Sum.inr (i, q, t, q, o)) _ (fun o => some (q, o)) (by omega) ?_ ?_ ?_ ?_
  ·intro again i i0 i1
   have hw : Go.IntKind.wrap .i64 (i + 1) = i + 1 := w64 (by omega) (by omega)
   have hr : y8W (yn t i) := hn _ (z4 zo t i i0 i1)
   simp only [Yc, Bool.cond_eq_ite, decide_eq_true_eq, i0, i1, if_true, hw, y0b _ hr, Option.bind_some]
   rw [if_pos (yeV _ _ (by decide))]
   rfl
  ·intro again i o i0 i1 i2
   have hw : Go.IntKind.wrap .i64 (i + 1) = i + 1 := w64 (by omega) (by omega)
   have hr : y8W (yn t i) := hn _ (z4 zo t i i0 i1)
   simp only [Yc, Bool.cond_eq_ite, decide_eq_true_eq, i0, i1, if_true, hw, y0b _ hr, Option.bind_some]
   rw [if_pos (by simp only [List.length_cons, List.length_nil]; omega)]
   rfl
  ·intro again i hi
   simp only [Yc, Bool.cond_eq_ite, decide_eq_true_eq, if_neg hi]
  ·intro again i o hi
   simp only [Yc, Bool.cond_eq_ite, decide_eq_true_eq, if_neg hi]
 rw [e]
 split
 ·rename_i h0
  rw [List.length_eq_zero_iff.1 h0]
 ·rfl
theorem y2g (l : List yx) (h : l.length ≤ 1048576) : jB l = some l := by
 unfold jB
 rw [if_pos (by simp only [List.length_nil]; omega)]
 rfl
theorem y2h (q : List yx) (t : List y8) (hq : q.length ≤ 1048576) (ht : t.length ≤ 1048576) (hn : ∀ n ∈ t, y8W n) : YZ (q, t) = some (q, t) := by
 have e : YZ (q, t) = if t.length = 0 then some (q, ([] : List y8)) else some (q, t) := by
  unfold YZ VE
  simp only [y2g q hq, Option.bind_some]
  refine Wg (step := zO _ _) zo t (fun i => Sum.inl (t, ((List.length t : Nat) : Int), i, q)) (fun i o => Sum.inr (t, ((List.length t : Nat) : Int), i, q, o)) _ (fun o => some (q, o)) (by omega) ?_ ?_ ?_ ?_
  ·intro again i i0 i1
   have hw : Go.IntKind.wrap .i64 (i + 1) = i + 1 := w64 (by omega) (by omega)
   have hr : y8W (yn t i) := hn _ (z4 zo t i i0 i1)
   simp only [zO, Bool.cond_eq_ite, decide_eq_true_eq, i0, i1, if_true, hw, qK _ hr, Option.bind_some]
   rw [if_pos (yeV _ _ (by decide))]
   rfl
  ·intro again i o i0 i1 i2
   have hw : Go.IntKind.wrap .i64 (i + 1) = i + 1 := w64 (by omega) (by omega)
   have hr : y8W (yn t i) := hn _ (z4 zo t i i0 i1)
   simp only [zO, Bool.cond_eq_ite, decide_eq_true_eq, i0, i1, if_true, hw, qK _ hr, Option.bind_some]
   rw [if_pos (by simp only [List.length_cons, List.length_nil]; omega)]
   rfl
  ·intro again i hi
   simp only [zO, Bool.cond_eq_ite, decide_eq_true_eq, if_neg hi]
  ·intro again i o hi
   simp only [zO, Bool.cond_eq_ite, decide_eq_true_eq, if_neg hi]
 rw [e]
 split
 ·rename_i h0
  rw [List.length_eq_zero_iff.1 h0]
 ·rfl
theorem y3S (q : List yx) (t : List y8) (l : List yq) (cs : List yb) (vs : List yD) (z : Int) (h : y8M q t l cs vs) : J8 (q, t, l, cs, vs, z) = some (q, t, l, cs, vs, z) := by
 obtain ⟨h1, h2, h3, h4, h5, h6⟩ := h
 unfold J8 Kq
 simp only [y4z q t h1 h2 (fun n hn => KE h3 hn), Option.bind_some, List.length_nil, List.nil_append]
 rw [if_pos (by omega), if_pos (by omega)]
 simp only [Option.bind_some]
 rw [if_pos (by omega)]
theorem y2i (q : List yx) (t : List y8) (l : List yq) (cs : List yb) (vs : List yD) (z : Int) (h : y8M q t l cs vs) : jC (q, t, l, cs, vs, z) = some (q, t, l, cs, vs, z) := by
 obtain ⟨h1, h2, h3, h4, h5, h6⟩ := h
 unfold jC wP JA
 simp only [y2h q t h1 h2 (fun n hn => KE h3 hn), Option.bind_some, List.length_nil, List.nil_append]
 rw [if_pos (by omega)]
 simp only [Option.bind_some]
 rw [if_pos (by omega)]
 simp only [Option.bind_some]
 rw [if_pos (by omega)]
end Go.Proofs.YtmapoakbdgpamaaGreat.Pl
namespace Go.Proofs.YtmapoakbdgpamaaGreat.Pl
open Go.Proofs.YtmapoakbdgpamaaGreat.R Go.Proofs.YtmapoakbdgpamaaGreat.XN
theorem zA {A : Type} (m : Int) : ∀ (l : List A), ze (fun _ => m) l = m * l.length
 | [] => by simp [ze]
 | a :: l => by
  rw [zz, zA m l, List.length_cons]
  rw [show ((l.length + 1 : Nat) : Int) = (l.length : Int) + 1 from by omega, Int.mul_add]
  omega
theorem ybJ {A : Type} (w v : A → Int) (m : Int) (h : ∀ a, w a ≤ m * v a) : ∀ (l : List A), ze w l ≤ m * ze v l
 | [] => by simp [ze]
 | a :: l => by
  have := ybJ w v m h l
  have := h a
  rw [zz, zz, Int.mul_add]
  omega
noncomputable def y5l (_ : yx) (k : Int) : yx := k
theorem yas (l : List yx) (k : Int) (h0 : 0 ≤ k) (hl : l.length ≤ 1048576) (hk : k + 1 * l.length ≤ JG) : jG (l, k) = some (k + ze (fun _ : yx => (1 : Int)) l, z3 y5l (fun _ => 1) l k) := by
 unfold jG VG
 refine Wd (step := Z1 (fun x1 => some (x1.1, x1.2))) yiO y5l (fun _ => 1) (fun _ => by omega) (fun _ => True) (fun x2 => some (x2.1, x2.2)) JG ?_ ?_ l k h0 (by omega) (by rw [zA]; exact hk) (fun _ _ => trivial)
 ·intro again k i l h0 h1 hk hM hl _
  unfold JG at hM
  have hr : ∀ v : yx, zI (l.set i.toNat v) i = v := fun v => y5f yiO l i v h0 h1
  have wi := V7 i (by omega) (by omega)
  have w1 := V7 k (by omega) (by omega)
  unfold Z1 y5l
  simp only [Bool.cond_eq_ite, decide_eq_true_eq, h0, h1, if_true, wi, w1, hr, List.length_set, List.set_set]
 ·intro again k i l hi
  unfold Z1
  simp only [Bool.cond_eq_ite, decide_eq_true_eq, if_neg hi]
theorem yat (l : List yx) (k : Int) (h0 : 0 ≤ k) (hl : l.length ≤ 1048576) (hk : k + 1 * l.length ≤ JG) : jK (z3 y5l (fun _ => 1) l k, k) = some (k + ze (fun _ : yx => (1 : Int)) l) := by
 unfold jK VL
 refine vD (step := Z7 (fun x1 => some x1.2) (fun x2 => some x2)) yiO y5l (fun _ => 1) (fun _ => by omega) (fun x2 => some x2) JG ?_ ?_ l k h0 (by omega) (by rw [zA]; exact hk)
 ·intro again l k i a h0 h1 hk hM hl he
  unfold JG at hM
  have hr : zI l i = k := he
  have wi := V7 i (by omega) (by omega)
  have w1 := V7 k (by omega) (by omega)
  unfold Z7
  simp only [Bool.cond_eq_ite, decide_eq_true_eq, h0, h1, if_true, wi, w1, hr, bne_self_eq_false, beq_self_eq_true, Bool.not_true, Bool.false_eq_true, if_false]
 ·intro again l k i hi
  unfold Z7
  simp only [Bool.cond_eq_ite, decide_eq_true_eq, if_neg hi]
noncomputable def y5m (_ : ya) (k : Int) : ya := (k, k + 1, k + 2, k + 3, k + 4)
theorem yau (l : List ya) (k : Int) (h0 : 0 ≤ k) (hl : l.length ≤ 1048576) (hk : k + 5 * l.length ≤ JG) : Z3 (l, k) = some (k + ze (fun _ : ya => (5 : Int)) l, z3 y5m (fun _ => 5) l k) := by
 unfold Z3 VH
 refine Wd (step := Z2 (fun x3 => some (x3.1, x3.2))) zG y5m (fun _ => 5) (fun _ => by omega) (fun _ => True) (fun x2 => some (x2.1, x2.2)) JG ?_ ?_ l k h0 (by omega) (by rw [zA]; exact hk) (fun _ _ => trivial)
 ·intro again k i l h0 h1 hk hM hl _
  unfold JG at hM
  have hr : ∀ v : ya, y0 (l.set i.toNat v) i = v := fun v => y5f zG l i v h0 h1
  have wi := V7 i (by omega) (by omega)
  have w1 := V7 k (by omega) (by omega)
  have w2 : Go.IntKind.wrap .i64 (k + 1 + 1) = k + 2 := (V7 (k + 1) (by omega) (by omega)).trans (by omega)
  have w3 : Go.IntKind.wrap .i64 (k + 2 + 1) = k + 3 := (V7 (k + 2) (by omega) (by omega)).trans (by omega)
  have w4 : Go.IntKind.wrap .i64 (k + 3 + 1) = k + 4 := (V7 (k + 3) (by omega) (by omega)).trans (by omega)
  have w5 : Go.IntKind.wrap .i64 (k + 4 + 1) = k + 5 := (V7 (k + 4) (by omega) (by omega)).trans (by omega)
  unfold Z2 y5m
  simp only [Bool.cond_eq_ite, decide_eq_true_eq, h0, h1, if_true, wi, w1, w2, w3, w4, w5, hr, List.length_set, List.set_set]
 ·intro again k i l hi
  unfold Z2
  simp only [Bool.cond_eq_ite, decide_eq_true_eq, if_neg hi]
theorem yav (l : List ya) (k : Int) (h0 : 0 ≤ k) (hl : l.length ≤ 1048576) (hk : k + 5 * l.length ≤ JG) : Z9 (z3 y5m (fun _ => 5) l k, k) = some (k + ze (fun _ : ya => (5 : Int)) l) := by
 unfold Z9 VM
 refine vD (step := Z8 (fun x1 => some x1.2) (fun x2 => some x2)) zG y5m (fun _ => 5) (fun _ => by omega) (fun x2 => some x2) JG ?_ ?_ l k h0 (by omega) (by rw [zA]; exact hk)
 ·intro again l k i a h0 h1 hk hM hl he
  unfold JG at hM
  have hr : y0 l i = (k, k + 1, k + 2, k + 3, k + 4) := he
  have wi := V7 i (by omega) (by omega)
  have w1 := V7 k (by omega) (by omega)
  have w2 : Go.IntKind.wrap .i64 (k + 1 + 1) = k + 2 := (V7 (k + 1) (by omega) (by omega)).trans (by omega)
  have w3 : Go.IntKind.wrap .i64 (k + 2 + 1) = k + 3 := (V7 (k + 2) (by omega) (by omega)).trans (by omega)
  have w4 : Go.IntKind.wrap .i64 (k + 3 + 1) = k + 4 := (V7 (k + 3) (by omega) (by omega)).trans (by omega)
  have w5 : Go.IntKind.wrap .i64 (k + 4 + 1) = k + 5 := (V7 (k + 4) (by omega) (by omega)).trans (by omega)
  unfold Z8
  simp only [Bool.cond_eq_ite, decide_eq_true_eq, h0, h1, if_true, wi, w1, w2, w3, w4, w5, hr, bne_self_eq_false, beq_self_eq_true, Bool.not_true, Bool.false_eq_true, if_false]
 ·intro again l k i hi
  unfold Z8
  simp only [Bool.cond_eq_ite, decide_eq_true_eq, if_neg hi]
noncomputable def y5n (_ : yq) (k : Int) : yq := (k, k + 1)
theorem yaw (l : List yq) (k : Int) (h0 : 0 ≤ k) (hl : l.length ≤ 1048576) (hk : k + 2 * l.length ≤ JG) : jH (l, k) = some (k + ze (fun _ : yq => (2 : Int)) l, z3 y5n (fun _ => 2) l k) := by
 unfold jH VI
 refine Wd (step := Z4 (fun x1 => some (x1.1, x1.2))) kC y5n (fun _ => 2) (fun _ => by omega) (fun _ => True) (fun x2 => some (x2.1, x2.2)) JG ?_ ?_ l k h0 (by omega) (by rw [zA]; exact hk) (fun _ _ => trivial)
 ·intro again k i l h0 h1 hk hM hl _
  unfold JG at hM
  have hr : ∀ v : yq, z8 (l.set i.toNat v) i = v := fun v => y5f kC l i v h0 h1
  have wi := V7 i (by omega) (by omega)
  have w1 := V7 k (by omega) (by omega)
  have w2 : Go.IntKind.wrap .i64 (k + 1 + 1) = k + 2 := (V7 (k + 1) (by omega) (by omega)).trans (by omega)
  unfold Z4 y5n
  simp only [Bool.cond_eq_ite, decide_eq_true_eq, h0, h1, if_true, wi, w1, w2, hr, List.length_set, List.set_set]
 ·intro again k i l hi
  unfold Z4
  simp only [Bool.cond_eq_ite, decide_eq_true_eq, if_neg hi]
theorem yax (l : List yq) (k : Int) (h0 : 0 ≤ k) (hl : l.length ≤ 1048576) (hk : k + 2 * l.length ≤ JG) : jL (z3 y5n (fun _ => 2) l k, k) = some (k + ze (fun _ : yq => (2 : Int)) l) := by
 unfold jL VN
 refine vD (step := Za (fun x1 => some x1.2) (fun x2 => some x2)) kC y5n (fun _ => 2) (fun _ => by omega) (fun x2 => some x2) JG ?_ ?_ l k h0 (by omega) (by rw [zA]; exact hk)
 ·intro again l k i a h0 h1 hk hM hl he
  unfold JG at hM
  have hr : z8 l i = (k, k + 1) := he
  have wi := V7 i (by omega) (by omega)
  have w1 := V7 k (by omega) (by omega)
  have w2 : Go.IntKind.wrap .i64 (k + 1 + 1) = k + 2 := (V7 (k + 1) (by omega) (by omega)).trans (by omega)
  unfold Za
  simp only [Bool.cond_eq_ite, decide_eq_true_eq, h0, h1, if_true, wi, w1, w2, hr, bne_self_eq_false, beq_self_eq_true, Bool.not_true, Bool.false_eq_true, if_false]
 ·intro again l k i hi
  unfold Za
  simp only [Bool.cond_eq_ite, decide_eq_true_eq, if_neg hi]
noncomputable def y1x (_ : yb) (k : Int) : yb := (k, Int.tmod (k + 1) 3 == 0, k + 2)
theorem y8X (l : List yb) (k : Int) (h0 : 0 ≤ k) (hl : l.length ≤ 1048576) (hk : k + 3 * l.length ≤ JG) : ZN (l, k) = some (k + ze (fun _ : yb => (3 : Int)) l, z3 y1x (fun _ => 3) l k) := by
 unfold ZN V1
 refine Wd (step := Yy (fun x2 => some (x2.1, x2.2))) JZ y1x (fun _ => 3) (fun _ => by omega) (fun _ => True) (fun x2 => some (x2.1, x2.2)) JG ?_ ?_ l k h0 (by omega) (by rw [zA]; exact hk) (fun _ _ => trivial)
 ·intro again k i l h0 h1 hk hM hl _
  unfold JG at hM
  have hr : ∀ v : yb, ym (l.set i.toNat v) i = v := fun v => y5f JZ l i v h0 h1
  have wi := V7 i (by omega) (by omega)
  have w1 := V7 k (by omega) (by omega)
  have w2 : Go.IntKind.wrap .i64 (k + 1 + 1) = k + 2 := (V7 (k + 1) (by omega) (by omega)).trans (by omega)
  have w3 : Go.IntKind.wrap .i64 (k + 2 + 1) = k + 3 := (V7 (k + 2) (by omega) (by omega)).trans (by omega)
  unfold Yy y1x
  simp only [Bool.cond_eq_ite, decide_eq_true_eq, h0, h1, if_true, wi, w1, w2, w3, hr, List.length_set, List.set_set]
 ·intro again k i l hi
  unfold Yy
  simp only [Bool.cond_eq_ite, decide_eq_true_eq, if_neg hi]
theorem y8Y (l : List yb) (k : Int) (h0 : 0 ≤ k) (hl : l.length ≤ 1048576) (hk : k + 3 * l.length ≤ JG) : ZQ (z3 y1x (fun _ => 3) l k, k) = some (k + ze (fun _ : yb => (3 : Int)) l) := by
 unfold ZQ V5
 refine vD (step := YA (fun x1 => some x1.2) (fun x2 => some x2)) JZ y1x (fun _ => 3) (fun _ => by omega) (fun x2 => some x2) JG ?_ ?_ l k h0 (by omega) (by rw [zA]; exact hk)
 ·intro again l k i a h0 h1 hk hM hl he
  unfold JG at hM
  have hr : ym l i = (k, Int.tmod (k + 1) 3 == 0, k + 2) := he
  have wi := V7 i (by omega) (by omega)
  have w1 := V7 k (by omega) (by omega)
  have w2 : Go.IntKind.wrap .i64 (k + 1 + 1) = k + 2 := (V7 (k + 1) (by omega) (by omega)).trans (by omega)
  have w3 : Go.IntKind.wrap .i64 (k + 2 + 1) = k + 3 := (V7 (k + 2) (by omega) (by omega)).trans (by omega)
  unfold YA
  simp only [Bool.cond_eq_ite, decide_eq_true_eq, h0, h1, if_true, wi, w1, w2, w3, hr, bne_self_eq_false, beq_self_eq_true, Bool.not_true, Bool.false_eq_true, if_false]
 ·intro again l k i hi
  unfold YA
  simp only [Bool.cond_eq_ite, decide_eq_true_eq, if_neg hi]
noncomputable def y5o (_ : yD) (k : Int) : yD := (mt k, k + 1, k + 2, Int.tmod (k + 3) 3 == 0)
theorem yay (l : List yD) (k : Int) (h0 : 0 ≤ k) (hl : l.length ≤ 1048576) (hk : k + 4 * l.length ≤ JG) : jI (l, k) = some (k + ze (fun _ : yD => (4 : Int)) l, z3 y5o (fun _ => 4) l k) := by
 unfold jI VK
 refine Wd (step := Z5 (fun x3 => some (x3.1, x3.2))) qa y5o (fun _ => 4) (fun _ => by omega) (fun _ => True) (fun x2 => some (x2.1, x2.2)) JG ?_ ?_ l k h0 (by omega) (by rw [zA]; exact hk) (fun _ _ => trivial)
 ·intro again k i l h0 h1 hk hM hl _
  unfold JG at hM
  have hr : ∀ v : yD, yo (l.set i.toNat v) i = v := fun v => y5f qa l i v h0 h1
  have wi := V7 i (by omega) (by omega)
  have w1 := V7 k (by omega) (by omega)
  have w2 : Go.IntKind.wrap .i64 (k + 1 + 1) = k + 2 := (V7 (k + 1) (by omega) (by omega)).trans (by omega)
  have w3 : Go.IntKind.wrap .i64 (k + 2 + 1) = k + 3 := (V7 (k + 2) (by omega) (by omega)).trans (by omega)
  have w4 : Go.IntKind.wrap .i64 (k + 3 + 1) = k + 4 := (V7 (k + 3) (by omega) (by omega)).trans (by omega)
  have ht := y3E k (by omega) (by omega)
  unfold Z5 y5o
  simp only [Bool.cond_eq_ite, decide_eq_true_eq, h0, h1, if_true, wi, w1, w2, w3, w4, ht, Option.bind_some, hr, List.length_set, List.set_set]
 ·intro again k i l hi
  unfold Z5
  simp only [Bool.cond_eq_ite, decide_eq_true_eq, if_neg hi]
theorem yaz (l : List yD) (k : Int) (h0 : 0 ≤ k) (hl : l.length ≤ 1048576) (hk : k + 4 * l.length ≤ JG) : jM (z3 y5o (fun _ => 4) l k, k) = some (k + ze (fun _ : yD => (4 : Int)) l) := by
 unfold jM VO
 refine vD (step := Zb (fun x2 => some x2.2) (fun x3 => some x3)) qa y5o (fun _ => 4) (fun _ => by omega) (fun x2 => some x2) JG ?_ ?_ l k h0 (by omega) (by rw [zA]; exact hk)
 ·intro again l k i a h0 h1 hk hM hl he
  unfold JG at hM
  have hr : yo l i = (mt k, k + 1, k + 2, Int.tmod (k + 3) 3 == 0) := he
  have wi := V7 i (by omega) (by omega)
  have w1 := V7 k (by omega) (by omega)
  have w2 : Go.IntKind.wrap .i64 (k + 1 + 1) = k + 2 := (V7 (k + 1) (by omega) (by omega)).trans (by omega)
  have w3 : Go.IntKind.wrap .i64 (k + 2 + 1) = k + 3 := (V7 (k + 2) (by omega) (by omega)).trans (by omega)
  have w4 : Go.IntKind.wrap .i64 (k + 3 + 1) = k + 4 := (V7 (k + 3) (by omega) (by omega)).trans (by omega)
  have ht := y3E k (by omega) (by omega)
  unfold Zb
  simp only [Bool.cond_eq_ite, decide_eq_true_eq, h0, h1, if_true, wi, w1, w2, w3, w4, ht, Option.bind_some, hr, bne_self_eq_false, beq_self_eq_true, Bool.not_true, Bool.false_eq_true, if_false]
 ·intro again l k i hi
  unfold Zb
  simp only [Bool.cond_eq_ite, decide_eq_true_eq, if_neg hi]
def y9h (a : y9) : Int := ze (fun _ : ya => (5 : Int)) a
theorem y2U (a : y9) : y9h a = 5 * (List.length a : Int) := zA 5 a
theorem y0s (a : y9) : 0 ≤ y9h a := by
 rw [y2U]
 omega
noncomputable def yaA (a : y9) (k : Int) : y9 := z3 y5m (fun _ => 5) a k
theorem y8Z (l : List y9) (k : Int) (h0 : 0 ≤ k) (hl : l.length ≤ 1048576) (hk : k + ze y9h l ≤ JG) (hm : ∀ a ∈ l, List.length a ≤ 1048576) : Yo (l, k) = some (k + ze y9h l, z3 yaA y9h l k) := by
 unfold Yo vZ
 refine Wd z5 yaA y9h y0s (fun a => List.length a ≤ 1048576) (fun x2 => some (x2.1, x2.2)) JG ?_ ?_ l k h0 (by omega) hk hm
 ·intro again k i l h0 h1 hk hM hl hP
  have hc := y2U (l.getD i.toNat z5)
  have wi := V7 i (by omega) (by omega)
  have he : Z3 (yh l i, k) = some (k + y9h (l.getD i.toNat z5), yaA (l.getD i.toNat z5) k) := yau (l.getD i.toNat z5) k hk hP (by omega)
  unfold j7
  simp only [Bool.cond_eq_ite, decide_eq_true_eq, h0, h1, if_true, wi, he, Option.bind_some]
 ·intro again k i l hi
  unfold j7
  simp only [Bool.cond_eq_ite, decide_eq_true_eq, if_neg hi]
theorem y5p {A R : Type} (da : A) (mk : A → Int → A) (cnt : A → Int) (hc : ∀ a, 0 ≤ cnt a) (P : A → Prop) {step : (List A × Int × Int → Option R) → List A × Int × Int → Option R} (k1 : Int → Option R) (M : Int)
  (h : ∀ again l k i a, 0 ≤ i → i < ((List.length l : Nat) : Int) → 0 ≤ k → k + cnt a ≤ M → (List.length l : Int) ≤ 1099511627776 → P a → l.getD i.toNat da = mk a k → step again (l, k, i) = again (l, k + cnt a, i + 1))
  (hd : ∀ again l k i, ¬ i < ((List.length l : Nat) : Int) → step again (l, k, i) = k1 k)
  (l : List A) (k : Int) (hk : 0 ≤ k) (hl : l.length ≤ 1099511627776) (hM : k + ze cnt l ≤ M) (hP : ∀ a ∈ l, P a) : z6 step zd (z3 mk cnt l k, k, 0) = k1 (k + ze cnt l) := by
 have hlen := y1s mk cnt l k
 rw [Yj (fun t : List A × Int × Int => l.length - t.2.2.toNat) (fun t => t.1 = z3 mk cnt l k ∧ 0 ≤ t.2.2 ∧ t.2.2 ≤ l.length ∧ 0 ≤ t.2.1 ∧ ∃ r, (∀ a ∈ r, P a) ∧ t.1.drop t.2.2.toNat = z3 mk cnt r t.2.1 ∧ t.2.1 + ze cnt r = k + ze cnt l) (fun t => k1 (k + ze cnt l)) ?_ (z3 mk cnt l k, k, 0) ⟨rfl, by simp, by simp, hk, l, hP, by simp, rfl⟩ (by simp; omega)]
 rintro again ⟨o, k', i⟩ ⟨h1, h2, h3, h4, r, hPr, h5, h6⟩ hag
 simp only at h1 h2 h3 h4 h5 h6 ⊢
 subst h1
 by_cases hi : i < ((List.length (z3 mk cnt l k) : Nat) : Int)
 ·rw [Ze da _ i h2 hi] at h5
  cases r with
  | nil => simp [z3] at h5
  | cons a r =>
   simp only [z3, List.cons.injEq] at h5
   rw [zz] at h6
   have hs := z0 hc r
   have ha := hc a
   rw [h again _ k' i a h2 hi h4 (by omega) (by omega) (hPr a (by simp)) h5.1]
   exact hag (z3 mk cnt l k, k' + cnt a, i + 1) ⟨rfl, by simp only; omega, by simp only; omega, by simp only; omega, r, fun b hb => hPr b (by simp [hb]), h5.2, by simp only; omega⟩ (by simp only; omega)
 ·rw [hd again _ k' i hi]
  have : r = [] := by
   rw [List.drop_of_length_le (by omega)] at h5
   cases r with
   | nil => rfl
   | cons a r => simp [z3] at h5
  subst this
  rw [← h6]
  simp [ze]
theorem y90 (l : List y9) (k : Int) (h0 : 0 ≤ k) (hl : l.length ≤ 1048576) (hk : k + ze y9h l ≤ JG) (hm : ∀ a ∈ l, List.length a ≤ 1048576) : Yp (z3 yaA y9h l k, k) = some (k + ze y9h l) := by
 unfold Yp V3
 refine y5p z5 yaA y9h y0s (fun a => List.length a ≤ 1048576) (fun x => some x) JG ?_ ?_ l k h0 (by omega) hk hm
 ·intro again l k i a h0 h1 hk hM hl hP he
  have hc := y2U a
  have wi := V7 i (by omega) (by omega)
  have hr : yh l i = yaA a k := he
  have hn : ¬ (k + y9h a < 0) := by omega
  have h2 : Z9 (yh l i, k) = some (k + y9h a) := by
   rw [hr]
   exact yav a k hk hP (by omega)
  unfold j9
  simp only [Bool.cond_eq_ite, decide_eq_true_eq, h0, h1, if_true, wi, h2, hn, if_false, Option.bind_some]
 ·intro again l k i hi
  unfold j9
  simp only [Bool.cond_eq_ite, decide_eq_true_eq, if_neg hi]
def y0c (a : y8) : Int := ze y9h a
theorem vH (a : y8) : 0 ≤ y0c a := z0 y0s a
noncomputable def y3T (a : y8) (k : Int) : y8 := z3 yaA y9h a k
def yeB (a : y8) : Prop := List.length a ≤ 1048576 ∧ ∀ b ∈ (show List y9 from a), List.length b ≤ 1048576
theorem y91 (l : List y8) (k : Int) (h0 : 0 ≤ k) (hl : l.length ≤ 1048576) (hk : k + ze y0c l ≤ JG) (hm : ∀ a ∈ l, yeB a) : ZM (l, k) = some (k + ze y0c l, z3 y3T y0c l k) := by
 unfold ZM V0
 refine Wd zo y3T y0c vH yeB (fun x2 => some (x2.1, x2.2)) JG ?_ ?_ l k h0 (by omega) hk hm
 ·intro again k i l h0 h1 hk hM hl hP
  have wi := V7 i (by omega) (by omega)
  have he : Yo (yn l i, k) = some (k + y0c (l.getD i.toNat zo), y3T (l.getD i.toNat zo) k) := y8Z (l.getD i.toNat zo) k hk hP.1 hM hP.2
  unfold j8
  simp only [Bool.cond_eq_ite, decide_eq_true_eq, h0, h1, if_true, wi, he, Option.bind_some]
 ·intro again k i l hi
  unfold j8
  simp only [Bool.cond_eq_ite, decide_eq_true_eq, if_neg hi]
theorem y92 (l : List y8) (k : Int) (h0 : 0 ≤ k) (hl : l.length ≤ 1048576) (hk : k + ze y0c l ≤ JG) (hm : ∀ a ∈ l, yeB a) : ZP (z3 y3T y0c l k, k) = some (k + ze y0c l) := by
 unfold ZP V4
 refine y5p zo y3T y0c vH yeB (fun x => some x) JG ?_ ?_ l k h0 (by omega) hk hm
 ·intro again l k i a h0 h1 hk hM hl hP he
  have hc := vH a
  have wi := V7 i (by omega) (by omega)
  have hr : yn l i = y3T a k := he
  have hn : ¬ (k + y0c a < 0) := by omega
  have h2 : Yp (yn l i, k) = some (k + y0c a) := by
   rw [hr]
   exact y90 a k hk hP.1 hM hP.2
  unfold ja
  simp only [Bool.cond_eq_ite, decide_eq_true_eq, h0, h1, if_true, wi, h2, hn, if_false, Option.bind_some]
 ·intro again l k i hi
  unfold ja
  simp only [Bool.cond_eq_ite, decide_eq_true_eq, if_neg hi]
theorem yeC (n : y8) : y0c n ≤ 5 * VP n := by
 have h1 : y0c n ≤ 5 * ze (fun a : y9 => (List.length a : Int)) n := ybJ y9h (fun a : y9 => (List.length a : Int)) 5 (fun a => by rw [y2U]; exact Int.le_refl _) n
 have h2 : VP n = (List.length n : Int) + ze (fun a : y9 => (List.length a : Int)) n := rfl
 omega
def plK (q : List yx) (t : List y8) (l : List yq) (cs : List yb) (vs : List yD) : Int := q.length + ze y0c t + 2 * l.length + 3 * cs.length + 4 * vs.length
theorem y93 (q : List yx) (t : List y8) (l : List yq) (cs : List yb) (vs : List yD) (h : y8M q t l cs vs) : 0 ≤ plK q t l cs vs ∧ plK q t l cs vs ≤ 60000000 := by
 have hN := ybJ y0c VP 5 yeC t
 have hN0 := z0 vH t
 obtain ⟨h1, h2, h3, h4, h5, h6⟩ := h
 unfold plK
 omega
theorem yaB (q : List yx) (t : List y8) (l : List yq) (cs : List yb) (vs : List yD) (z k : Int) (h0 : 0 ≤ k) (hk : k ≤ 1099511627) (h : y8M q t l cs vs) :
  ∃ q' t' l' cs' vs', jJ (q, t, l, cs, vs, z, k) = some (k + plK q t l cs vs, q', t', l', cs', vs') ∧ jN (q', t', l', cs', vs', z, k) = some (k + plK q t l cs vs) := by
 have hr := y93 q t l cs vs h
 obtain ⟨hq, ht, hw, hl, hc, hv⟩ := h
 have hN := ybJ y0c VP 5 yeC t
 have hN0 := z0 vH t
 have hm : ∀ n ∈ t, yeB n := fun n hn => KE hw hn
 have s1 : ze (fun _ : yx => (1 : Int)) q = q.length := by
  rw [zA]
  omega
 have s3 : ze (fun _ : yq => (2 : Int)) l = 2 * l.length := zA 2 l
 have s4 : ze (fun _ : yb => (3 : Int)) cs = 3 * cs.length := zA 3 cs
 have s5 : ze (fun _ : yD => (4 : Int)) vs = 4 * vs.length := zA 4 vs
 have e1 := yas q k (by omega) hq (by unfold JG; omega)
 have e2 := y91 t (k + q.length) (by omega) ht (by unfold JG; omega) hm
 have e3 := yaw l (k + q.length + ze y0c t) (by omega) hl (by unfold JG; omega)
 have e4 := y8X cs (k + q.length + ze y0c t + 2 * l.length) (by omega) hc (by unfold JG; omega)
 have e5 := yay vs (k + q.length + ze y0c t + 2 * l.length + 3 * cs.length) (by omega) hv (by unfold JG; omega)
 have g1 := yat q k (by omega) hq (by unfold JG; omega)
 have g2 := y92 t (k + q.length) (by omega) ht (by unfold JG; omega) hm
 have g3 := yax l (k + q.length + ze y0c t) (by omega) hl (by unfold JG; omega)
 have g4 := y8Y cs (k + q.length + ze y0c t + 2 * l.length) (by omega) hc (by unfold JG; omega)
 have g5 := yaz vs (k + q.length + ze y0c t + 2 * l.length + 3 * cs.length) (by omega) hv (by unfold JG; omega)
 rw [s1] at e1 g1
 rw [s3] at e3 g3
 rw [s4] at e4 g4
 rw [s5] at e5 g5
 have et : k + q.length + ze y0c t + 2 * l.length + 3 * cs.length + 4 * vs.length = k + plK q t l cs vs := by
  unfold plK
  omega
 rw [et] at e5 g5
 refine ⟨z3 y5l (fun _ => 1) q k, z3 y3T y0c t (k + q.length), z3 y5n (fun _ => 2) l (k + q.length + ze y0c t), z3 y1x (fun _ => 3) cs (k + q.length + ze y0c t + 2 * l.length), z3 y5o (fun _ => 4) vs (k + q.length + ze y0c t + 2 * l.length + 3 * cs.length), ?_, ?_⟩
 ·unfold jJ W2
  simp only [e1, e2, e3, e4, e5, Option.bind_some]
 ·unfold jN W8
  simp only [g1, Option.bind_some]
  rw [decide_eq_false (show ¬ (k + (q.length : Int)) < 0 by omega)]
  simp only [cond_false, g2, Option.bind_some]
  rw [decide_eq_false (show ¬ (k + (q.length : Int) + ze y0c t) < 0 by omega)]
  simp only [cond_false, Option.bind_some]
  rw [decide_eq_false (show ¬ (k + (q.length : Int) + ze y0c t) < 0 by omega)]
  simp only [cond_false, g3, Option.bind_some]
  rw [decide_eq_false (show ¬ (k + (q.length : Int) + ze y0c t + 2 * l.length) < 0 by omega)]
  simp only [cond_false, g4, Option.bind_some]
  rw [decide_eq_false (show ¬ (k + (q.length : Int) + ze y0c t + 2 * l.length + 3 * cs.length) < 0 by omega)]
  simp only [cond_false, g5, Option.bind_some]
  rw [decide_eq_false (show ¬ (k + plK q t l cs vs) < 0 by omega)]
  rfl
end Go.Proofs.YtmapoakbdgpamaaGreat.Pl
namespace Go.Proofs.YtmapoakbdgpamaaGreat.Pl
open Go.Proofs.YtmapoakbdgpamaaGreat.R Go.Proofs.YtmapoakbdgpamaaGreat.XN
noncomputable def y22 (m0 : Int) (s : List y7) (c : List yQ) (u : Int) (q : List yx) (t : List y8) (l : List yq) (cs : List yb) (vs : List yD) (z a n m : Int) : Bool :=
 ycB s c u && (((s.length : Int) == 60) && (jP q t l cs vs z && (inR n 1 50000 && (inR m n (IntKind.i64.wrap (n + 6)) && (inR m 1 50000 && inR a m0 50000)))))
structure SmallS (s : List y7) (c : List yQ) (q : List yx) (t : List y8) (l : List yq) (cs : List yb) (vs : List yD) : Prop where
 D : VQ s c
 P : y8M q t l cs vs
 T : TOk t
 N : ∀ v ∈ vs, ByteArray.size v.1 ≤ maxLen
theorem yeD {q : List yx} {t : List y8} {l : List yq} {cs : List yb} {vs : List yD} (h : y8M q t l cs vs) : TOk t :=
 ⟨by have := h.2.1; omega, fun n hn => by
  have := (KE h.2.2.1 hn).1
  omega, h.2.2.1⟩
section
variable {s : List y7} {c : List yQ} (u : Int) (b : Bool) {q : List yx} {t : List y8} {l : List yq} {cs : List yb} {vs : List yD} (z a n m : Int) (h : SmallS s c q t l cs vs)
include h
theorem y12 : ZF (s, c, u, b, q, t, l, cs, vs, z, a, n, m) = some (ycB s c u && (((s.length : Int) == 60) && (jP q t l cs vs z && (inR n 1 50000 && (inR m n (IntKind.i64.wrap (n + 6)) && inR m 1 50000))))) := by
 unfold ZF
 simp only [y7x s c u b h.D.1 h.D.2.1, y09 q t l cs vs z h.T h.P.2.2.2.1 h.P.2.2.2.2.1 h.P.2.2.2.2.2 h.N, Zf, Option.bind_some]
 generalize ycB s c u = d1
 generalize (((List.length s : Nat) : Int) == 60) = d2
 generalize jP q t l cs vs z = d3
 generalize inR n 1 50000 = d4
 generalize inR m n (IntKind.i64.wrap (n + 6)) = d5
 generalize inR m 1 50000 = d6
 cases d1 <;> cases d2 <;> cases d3 <;> cases d4 <;> cases d5 <;> cases d6 <;> rfl
theorem y0d (m0 : Int) : Js (s, c, u, b, q, t, l, cs, vs, z, a, n, m, m0) = some (y22 m0 s c u q t l cs vs z a n m) := by
 unfold Js y22
 simp only [Kx s c u b h.D.1 h.D.2.1, y0a q t l cs vs z h.T h.P.2.2.2.1 h.P.2.2.2.2.1 h.P.2.2.2.2.2 h.N, zJ, Option.bind_some]
 generalize ycB s c u = d1
 generalize (((List.length s : Nat) : Int) == 60) = d2
 generalize jP q t l cs vs z = d3
 generalize inR n 1 50000 = d4
 generalize inR m n (IntKind.i64.wrap (n + 6)) = d5
 generalize inR m 1 50000 = d6
 generalize inR a m0 50000 = d7
 cases d1 <;> cases d2 <;> cases d3 <;> cases d4 <;> cases d5 <;> cases d6 <;> cases d7 <;> rfl
theorem QA : J9 (s, c, u, b, q, t, l, cs, vs, z, a, n, m) = some (s, c, u, b, q, t, l, cs, vs, z, a, n, m) := by
 unfold J9
 simp only [y4w s c u b h.D, y3S q t l cs vs z h.P, Option.bind_some]
theorem VS : ZL (s, c, u, b, q, t, l, cs, vs, z, a, n, m) = some (s, c, u, b, q, t, l, cs, vs, z, a, n, m) := by
 unfold ZL
 simp only [Wh s c u b h.D, y2i q t l cs vs z h.P, Option.bind_some]
theorem y94 : ZW (s, c, u, b, q, t, l, cs, vs, z, a, n, m, s, c, u, b, q, t, l, cs, vs, z, a, n, m) = some true := by
 unfold ZW
 simp only [ycz s c u b h.D, yai q t l cs vs z h.P, Option.bind_some, Bool.not_true, cond_false, bne_self_eq_false]
theorem y95 : ∃ r s' c' q' t' l' cs' vs', ZO (s, c, u, b, q, t, l, cs, vs, z, a, n, m, 1) = some (r, s', c', q', t', l', cs', vs') ∧ Yq (s', c', u, b, q', t', l', cs', vs', z, a, n, m, 1) = some r ∧ 0 ≤ r := by
 have w1 := z0 kp s
 have w2 := z0 qp c
 have w5 : ze y17 c ≤ 4000000 := by
  have := h.D.2.1
  have := h.D.2.2.2
  rw [y7A]
  omega
 have w6 := h.D.2.2.1
 have hr := y93 q t l cs vs h.P
 obtain ⟨q', t', l', cs', vs', m1, m2⟩ := yaB q t l cs vs z (1 + ze Qx s + ze y17 c) (by omega) (by omega) h.P
 refine ⟨1 + ze Qx s + ze y17 c + plK q t l cs vs, z3 mkS Qx s 1, z3 mkW y17 c (1 + ze Qx s), q', t', l', cs', vs', ?_, ?_, ?_⟩
 ·unfold ZO
  simp only [ycE s c u b h.D, m1, Option.bind_some]
 ·unfold Yq
  simp only [ycF s c u b h.D, m2, Option.bind_some]
  rw [decide_eq_false (show ¬ (1 + ze Qx s + ze y17 c) < 0 by omega)]
  simp only [cond_false, Option.bind_some]
  rw [decide_eq_false (show ¬ (1 + ze Qx s + ze y17 c + plK q t l cs vs) < 0 by omega)]
  rfl
 ·omega
end
theorem ycJ {m0 : Int} {s : List y7} {c : List yQ} {u : Int} {q : List yx} {t : List y8} {l : List yq} {cs : List yb} {vs : List yD} {z a n m : Int} (h : y22 m0 s c u q t l cs vs z a n m = true) : y2f s c u := by
 unfold y22 at h
 rw [Bool.and_eq_true] at h
 exact (y10 s c u).1 h.1
end Go.Proofs.YtmapoakbdgpamaaGreat.Pl
namespace Go.Proofs.YtmapoakbdgpamaaGreat.Pl
open Go.Proofs.YtmapoakbdgpamaaGreat.R Go.Proofs.YtmapoakbdgpamaaGreat.XN
def w2 (l : List Int) (i : Int) : Int := by_ l i * 256 + by_ l (i + 1)
end Go.Proofs.YtmapoakbdgpamaaGreat.Pl
namespace Go.Proofs.YtmapoakbdgpamaaGreat.Pl
open Go.Proofs.YtmapoakbdgpamaaGreat.R Go.Proofs.YtmapoakbdgpamaaGreat.XN
theorem sh8 : (2 : Int) ^ (min (Int.toNat (8 : Int)) (Go.IntKind.bits .i64)) = 256 := by decide
theorem yC2 : (2 : Int) ^ (min (Int.toNat (16 : Int)) (Go.IntKind.bits .i64)) = 65536 := by decide
theorem yC3 : (2 : Int) ^ (min (Int.toNat (24 : Int)) (Go.IntKind.bits .i64)) = 16777216 := by decide
end Go.Proofs.YtmapoakbdgpamaaGreat.Pl
namespace Go.Proofs.YtmapoakbdgpamaaGreat.Pl
open Go.Proofs.YtmapoakbdgpamaaGreat.R Go.Proofs.YtmapoakbdgpamaaGreat.XN
end Go.Proofs.YtmapoakbdgpamaaGreat.Pl
namespace Go.Proofs.YtmapoakbdgpamaaGreat.Pl
open Go.Proofs.YtmapoakbdgpamaaGreat.R Go.Proofs.YtmapoakbdgpamaaGreat.XN
end Go.Proofs.YtmapoakbdgpamaaGreat.Pl
namespace Go.Proofs.YtmapoakbdgpamaaGreat.Pl
open Go.Proofs.YtmapoakbdgpamaaGreat.R Go.Proofs.YtmapoakbdgpamaaGreat.XN
theorem y1y (n : Int) : Go.IntKind.wrap .u8 n = n % 256 := by
 simp [Go.IntKind.wrap, Go.IntKind.bits, Go.IntKind.signed]
end Go.Proofs.YtmapoakbdgpamaaGreat.Pl
namespace Go.Proofs.YtmapoakbdgpamaaGreat.Pl
open Go.Proofs.YtmapoakbdgpamaaGreat.R Go.Proofs.YtmapoakbdgpamaaGreat.XN
theorem ykR (x : Int) : Int.fdiv x (2 ^ (min (Int.toNat (8 : Int)) (Go.IntKind.bits .i64))) = x / 256 := by
 rw [sh8, Int.fdiv_eq_ediv_of_nonneg _ (by omega)]
theorem yik (x : Int) : Int.fdiv x (2 ^ (min (Int.toNat (16 : Int)) (Go.IntKind.bits .i64))) = x / 65536 := by
 rw [yC2, Int.fdiv_eq_ediv_of_nonneg _ (by omega)]
theorem ysb (x : Int) : Int.fdiv x (2 ^ (min (Int.toNat (24 : Int)) (Go.IntKind.bits .i64))) = x / 16777216 := by
 rw [yC3, Int.fdiv_eq_ediv_of_nonneg _ (by omega)]
def two (x : Int) : List Int := [x / 256 % 256, x % 256]
def yil (x : Int) : List Int := [x / 16777216 % 256, x / 65536 % 256, x / 256 % 256, x % 256]
theorem YB (l : List Int) (x : Int) (hl : l.length ≤ 1048576) : zM (l, x) = some (l ++ two x) := by
 unfold zM
 simp only [y1y, ykR, List.nil_append, List.length_nil, List.length_cons]
 rw [if_pos (by omega), if_pos (by omega)]
 rfl
theorem yeE (a b : List Int) (h : a.length + b.length ≤ 2097152) : yM [a, b] = some (a ++ b) := by
 have hF : zd = (zd - 3) + 1 + 1 + 1 := by
  have := kN
  omega
 unfold yM vq
 rw [hF]
 have s0 : ∀ again, za (fun x1 => some x1) again ([a, b], (2 : Int), (0 : Int), ([] : List z7)) = again ([a, b], 2, 1, a) := by
  intro again
  unfold za
  have hw : Go.IntKind.wrap .i64 (0 + 1) = 1 := w64 (by omega) (by omega)
  have hr : zL [a, b] 0 = a := rfl
  simp only [hw, hr, List.length_nil, List.length_cons, List.nil_append]
  rw [if_pos (by omega), if_pos (by omega), if_pos (by omega)]
  rfl
 have s1 : ∀ again, za (fun x1 => some x1) again ([a, b], (2 : Int), (1 : Int), a) = again ([a, b], 2, 2, a ++ b) := by
  intro again
  unfold za
  have hw : Go.IntKind.wrap .i64 (1 + 1) = 2 := w64 (by omega) (by omega)
  have hr : zL [a, b] 1 = b := rfl
  simp only [hw, hr, List.length_cons, List.length_nil]
  rw [if_pos (by omega), if_pos (by omega), if_pos (by omega)]
  rfl
 have s2 : ∀ again, za (fun x1 => some x1) again ([a, b], (2 : Int), (2 : Int), a ++ b) = some (a ++ b) := by
  intro again
  unfold za
  rfl
 rw [show ((List.length [a, b] : Nat) : Int) = 2 from rfl, z6, s0, z6, s1, z6, s2]
theorem zY (l : List Int) (x : Int) (hl : l.length ≤ 1048576) : zl (l, x) = some (l ++ two x) := by
 unfold zl
 simp only [y1y, ykR, ys9]
 rw [yeE l _ (by simp only [List.length_cons, List.length_nil]; omega)]
 simp only [Option.bind_some, two]
 rw [show x / 256 % 256 % 256 = x / 256 % 256 by omega, show x % 256 % 256 = x % 256 by omega]
theorem yeF (l : List Int) (x : Int) (hl : l.length ≤ 1000000) : ka (l, x) = some (l ++ yil x) := by
 unfold ka
 simp only [yik]
 rw [zY l _ (by omega)]
 simp only [Option.bind_some]
 rw [zY _ _ (by simp only [two, List.length_append, List.length_cons, List.length_nil]; omega)]
 simp only [Option.bind_some, two, yil, List.append_assoc, List.cons_append, List.nil_append]
 rw [show x / 65536 / 256 % 256 = x / 16777216 % 256 by omega]
theorem y5q (l : List Int) (x : Int) (hl : l.length ≤ 1048576) : ZT (l, x) = some (l ++ yil x) := by
 unfold ZT
 simp only [y1y, ykR, yik, ysb, List.nil_append, List.length_nil, List.length_cons]
 rw [if_pos (by omega), if_pos (by omega)]
 rfl
theorem yS {l m : List Int} (h : Y2 l) (h' : Y2 m) : Y2 (l ++ m) := fun x hx => (List.mem_append.1 hx).elim (h x) (h' x)
end Go.Proofs.YtmapoakbdgpamaaGreat.Pl
namespace Go.Proofs.YtmapoakbdgpamaaGreat.Pl
open Go.Proofs.YtmapoakbdgpamaaGreat.R Go.Proofs.YtmapoakbdgpamaaGreat.XN
theorem y1z (s : ByteArray) : (jb s).length = s.size := by
 unfold jb
 rw [List.length_map, Array.length_toList]
 rfl
theorem y96 (s : ByteArray) : Y2 (jb s) := by
 intro x hx
 unfold jb at hx
 obtain ⟨b, _, rfl⟩ := List.mem_map.1 hx
 have := b.toNat_lt
 omega
theorem VT (x : Int) : Y2 (two x) := by
 intro y hy
 simp only [two, List.mem_cons, List.mem_nil_iff, or_false] at hy
 rcases hy with h | h <;> subst h <;> omega
def tx (s : ByteArray) : List Int := two (s.size : Int) ++ jb s
theorem yeG (s : ByteArray) : (tx s).length = 2 + s.size := by
 unfold tx
 rw [List.length_append, y1z]
 rfl
theorem ygN (s : ByteArray) : Y2 (tx s) := yS (VT _) (y96 s)
theorem y3U (l : List Int) (s : ByteArray) (hl : l.length ≤ 1000000) (hs : s.size ≤ 60) : Jj (l, s) = some (l ++ tx s) := by
 unfold Jj
 simp only
 rw [show decide (((ByteArray.size s : Nat) : Int) > (60 : Int)) = false from decide_eq_false (by omega), cond_false, YB l _ (by omega)]
 simp only [Option.bind_some]
 have h2 : (l ++ two (s.size : Int)).length = l.length + 2 := by rw [List.length_append]; rfl
 rw [if_pos (by rw [show List.length (jb s) = s.size from y1z s]; omega), List.append_assoc]
 rfl
theorem y3V (l : List Int) (s : ByteArray) (hl : l.length ≤ 1000000) (hs : s.size ≤ 60) : Jp (l, s) = some (l ++ tx s) := by
 unfold Jp
 simp only
 rw [show decide (((ByteArray.size s : Nat) : Int) > (60 : Int)) = false from decide_eq_false (by omega), cond_false, zY l _ (by omega)]
 simp only [Option.bind_some]
 have h2 : (l ++ two (s.size : Int)).length = l.length + 2 := by rw [List.length_append]; rfl
 rw [if_pos (by omega), yeE _ _ (by rw [show List.length (jb s) = s.size from y1z s]; omega)]
 simp only [Option.bind_some, List.append_assoc]
 rfl
end Go.Proofs.YtmapoakbdgpamaaGreat.Pl
namespace Go.Proofs.YtmapoakbdgpamaaGreat.Pl
open Go.Proofs.YtmapoakbdgpamaaGreat.R Go.Proofs.YtmapoakbdgpamaaGreat.XN
def Kg {A : Type} (f : Int → A → List Int) : List A → Int → List Int
 | [], _ => []
 | a :: l, i => f i a ++ Kg f l (i + 1)
theorem kw {A : Type} (f : Int → A → List Int) (m : Nat) : ∀ (l : List A) (i : Int), (∀ a ∈ l, ∀ j, (f j a).length ≤ m) → (Kg f l i).length ≤ l.length * m
 | [], _, _ => by simp [Kg]
 | a :: l, i, h => by
  have h1 := kw f m l (i + 1) fun b hb => h b (by simp [hb])
  have h2 := h a (by simp) i
  rw [Kg, List.length_append, List.length_cons, Nat.add_mul]
  omega
theorem JH {T A R : Type} {step : (T → Option R) → T → Option R} (da : A) (f : Int → A → List Int) (l : List A) (St : Int → List Int → T) (k : List Int → Option R) (M : Nat) (hl : l.length ≤ 1099511627776)
  (h : ∀ again i o, 0 ≤ i → i < ((List.length l : Nat) : Int) → List.length o + (f i (l.getD i.toNat da)).length ≤ M → l.getD i.toNat da ∈ l → step again (St i o) = again (St (i + 1) (o ++ f i (l.getD i.toNat da))))
  (hd : ∀ again i o, ¬ i < ((List.length l : Nat) : Int) → step again (St i o) = k o)
  (o : List Int) (hM : List.length o + (Kg f l 0).length ≤ M) : z6 step zd (St 0 o) = k (o ++ Kg f l 0) := by
 have key : ∀ (m : Nat) (i : Int) (o : List Int), 0 ≤ i → i ≤ l.length → l.length - i.toNat < m → List.length o + (Kg f (l.drop i.toNat) i).length ≤ M → z6 step m (St i o) = k (o ++ Kg f (l.drop i.toNat) i) := by
  intro m
  induction m with
  | zero => intro i o _ _ h; omega
  | succ m ih =>
   intro i o i0 i1 hm hb
   rw [z6]
   by_cases hi : i < ((List.length l : Nat) : Int)
   ·rw [Ze da l i i0 hi] at hb ⊢
    rw [Kg, List.length_append] at hb
    rw [h _ i o i0 hi (by omega) (z4 da l i i0 hi), ih (i + 1) _ (by omega) (by omega) (by omega) (by rw [List.length_append]; omega), Kg, List.append_assoc]
   ·rw [hd _ i o hi, List.drop_of_length_le (by omega)]
    simp [Kg]
 have := key zd 0 o (Int.le_refl _) (by omega) (by
  have := kN
  omega) hM
 exact this
def b8 (x : Int) : Int := Go.IntKind.wrap .u8 x
def bit (b : Bool) : Int := if b = true then 1 else 0
def QB (_ : Int) (a : yq) : List Int := [b8 a.1, b8 a.2]
def VU (_ : Int) (v : yD) : List Int := tx v.1 ++ [b8 v.2.1, b8 v.2.2.1, bit v.2.2.2]
def kq (_ : Int) (c : yb) : List Int := two c.1 ++ ([bit c.2.1] ++ two c.2.2)
def V8 (_ : Int) (k : ya) : List Int := [b8 k.1, b8 k.2.1, b8 k.2.2.1, b8 k.2.2.2.1] ++ two k.2.2.2.2
def kK (_ : Int) (l : y9) : List Int := [b8 ((List.length l : Nat) : Int)] ++ Kg V8 l 0
def j0 (q : List Int) (i : Int) (n : y8) : List Int := two (q.getD i.toNat 0) ++ ([b8 ((List.length n : Nat) : Int)] ++ Kg kK n 0)
def J3 (q : List Int) (t : List y8) (l : List yq) (cs : List yb) (vs : List yD) (z : Int) : List Int :=
 ((((((two z ++ [b8 ((List.length l : Nat) : Int)]) ++ Kg QB l 0) ++ [b8 ((List.length vs : Nat) : Int)]) ++ Kg VU vs 0) ++ Kg kq cs 0) ++ [b8 ((List.length t : Nat) : Int)]) ++ Kg (j0 q) t 0
structure PoolF (q : List Int) (t : List y8) (l : List yq) (cs : List yb) (vs : List yD) : Prop where
 ql : q.length = t.length
 tl : t.length ≤ 20
 ll : l.length ≤ 16
 cl : cs.length = 24
 vl : vs.length ≤ 6
 nm : ∀ v ∈ vs, ByteArray.size v.1 ≤ 6
 nl : ∀ n ∈ t, List.length n ≤ 3
 sl : ∀ n ∈ t, ∀ s ∈ (show List y9 from n), List.length s ≤ 60 ∧ ∀ k ∈ (show List ya from s), J1 k = true
theorem y3W {A : Type} (p : Int → A → Bool) : ∀ (l : List A) (i : Int), zR p l i = false → ∀ a ∈ l, ∃ j, p j a = false
 | [], _, _, a, h => by simp at h
 | b :: l, i, h, a, ha => by
  simp only [zR, Bool.or_eq_false_iff] at h
  rcases List.mem_cons.1 ha with rfl | ha
  ·exact ⟨i, h.1⟩
  ·exact y3W p l (i + 1) h.2 a ha
theorem ybK {s : List ya} (h : y06 s = true) : s.length ≤ 60 ∧ ∀ k ∈ s, J1 k = true := by
 unfold y06 at h
 simp only [Bool.and_eq_true, Bool.not_eq_true', decide_eq_true_eq] at h
 refine ⟨by omega, fun k hk => ?_⟩
 obtain ⟨j, hj⟩ := y3W _ s 0 h.1 k hk
 simpa using hj
theorem y3X {n : List y9} (h : ko n = true) : n.length ≤ 3 ∧ ∀ s ∈ n, y06 s = true := by
 unfold ko at h
 simp only [Bool.and_eq_true, Bool.not_eq_true', decide_eq_true_eq] at h
 refine ⟨by omega, fun s hs => ?_⟩
 obtain ⟨j, hj⟩ := y3W _ n 0 h.1 s hs
 unfold y1Y at hj
 simp only [Bool.or_eq_false_iff, Bool.not_eq_false'] at hj
 exact hj.1
theorem y97 {q : List Int} {t : List y8} (h : vG q t = true) : q.length = t.length ∧ 1 ≤ t.length ∧ t.length ≤ 20 ∧ ∀ n ∈ t, ko n = true := by
 unfold vG at h
 simp only [Bool.and_eq_true, Bool.not_eq_true', decide_eq_true_eq, Zd] at h
 obtain ⟨h1, h2, _, h3, _⟩ := h
 refine ⟨h2, by omega, by omega, fun n hn => ?_⟩
 obtain ⟨j, hj⟩ := y3W _ t 0 h3 n hn
 unfold Qw at hj
 simp only [Bool.or_eq_false_iff, Bool.not_eq_false'] at hj
 have h4 := hj.2
 unfold yaj at h4
 simp only [Bool.and_eq_true] at h4
 exact h4.1
theorem ykS {q : List Int} {t : List y8} {l : List yq} {cs : List yb} {vs : List yD} {z : Int} (h : jP q t l cs vs z = true) : PoolF q t l cs vs := by
 unfold jP at h
 simp only [Bool.and_eq_true] at h
 obtain ⟨h1, h2, h3, _, _, h4, _⟩ := h
 obtain ⟨t1, t2, t3, t4⟩ := y97 h1
 unfold Vl at h2
 unfold Wf at h3
 unfold Vo at h4
 simp only [Bool.and_eq_true, Bool.not_eq_true', decide_eq_true_eq, beq_iff_eq] at h2 h3 h4
 refine ⟨t1, t3, by omega, by omega, by omega, fun v hv => ?_, fun n hn => (y3X (t4 n hn)).1, fun n hn s hs => ybK ((y3X (t4 n hn)).2 s hs)⟩
 obtain ⟨j, hj⟩ := y3W _ vs 0 h4.1 v hv
 unfold yih at hj
 simp only [Bool.or_eq_false_iff, Bool.not_eq_false'] at hj
 have hn := hj.1
 unfold y20 at hn
 simp only [Bool.and_eq_true, Zd] at hn
 omega
theorem ycK (i : Int) (k : ya) : (V8 i k).length = 6 := rfl
theorem ycL (i : Int) (s : y9) (h : List.length s ≤ 60) : (kK i s).length ≤ 361 := by
 have h1 := kw V8 6 s 0 fun a _ j => Nat.le_refl _
 unfold kK
 rw [List.length_append]
 simp only [List.length_cons, List.length_nil]
 omega
theorem y7F (n : y8) (h1 : List.length n ≤ 3) (h2 : ∀ s ∈ (show List y9 from n), List.length s ≤ 60) : (Kg kK n 0).length ≤ 1083 := by
 have h3 := kw kK 361 n 0 fun s hs j => ycL j s (h2 s hs)
 have h4 : List.length n * 361 ≤ 3 * 361 := Nat.mul_le_mul_right _ h1
 omega
theorem yaC (q : List Int) (i : Int) (n : y8) (h1 : List.length n ≤ 3) (h2 : ∀ s ∈ (show List y9 from n), List.length s ≤ 60) : (j0 q i n).length ≤ 1086 := by
 have h3 := y7F n h1 h2
 unfold j0
 rw [List.length_append, List.length_append]
 simp only [two, List.length_cons, List.length_nil]
 omega
section
variable {q : List Int} {t : List y8} {l : List yq} {cs : List yb} {vs : List yD} (z : Int) (h : PoolF q t l cs vs)
include h
theorem y7G : (Kg QB l 0).length ≤ 32 := by
 have h1 := kw QB 2 l 0 fun a _ j => Nat.le_refl _
 have := h.ll
 omega
theorem y7H : (Kg VU vs 0).length ≤ 66 := by
 have h1 := kw VU 11 vs 0 fun v hv j => by
  have := h.nm v hv
  unfold VU
  rw [List.length_append, yeG]
  simp only [List.length_cons, List.length_nil]
  omega
 have := h.vl
 omega
theorem y3Y : (Kg kq cs 0).length ≤ 120 := by
 have h1 := kw kq 5 cs 0 fun c _ j => Nat.le_refl _
 have := h.cl
 omega
theorem y98 : (Kg (j0 q) t 0).length ≤ 21720 := by
 have h1 := kw (j0 q) 1086 t 0 fun n hn j => yaC q j n (h.nl n hn) fun s hs => (h.sl n hn s hs).1
 have := h.tl
 omega
end
theorem yim (b : Bool) : (bif b then some (1 : Int) else some (0 : Int)) = some (bit b) := by cases b <;> rfl
theorem y3Z (b : Bool) : wq b = some (bit b) := yim b
theorem y40 (b : Bool) : vr b = some (bit b) := yim b
theorem y4A (o : List Int) (k : ya) (hk : J1 k = true) (ho : o.length ≤ 1000000) : ws (o, k.1, k.2.1, k.2.2.1, k.2.2.2.1, k.2.2.2.2) = some (o ++ V8 0 k) := by
 unfold ws
 simp only [y0X, Option.bind_some]
 rw [if_pos (by simp only [List.length_nil]; omega), show J1 (k.1, k.2.1, k.2.2.1, k.2.2.2.1, k.2.2.2.2) = true from hk]
 simp only [Bool.not_true, cond_false, List.nil_append, List.length_cons, List.length_nil]
 rw [if_pos (by omega), YB _ _ (by simp only [List.length_append, List.length_cons, List.length_nil]; omega)]
 simp only [Option.bind_some, List.append_assoc]
 rfl
theorem y4B (o : List Int) (k : ya) (hk : J1 k = true) (ho : o.length ≤ 1000000) : wO (o, k.1, k.2.1, k.2.2.1, k.2.2.2.1, k.2.2.2.2) = some (o ++ V8 0 k) := by
 unfold wO
 simp only [y0Y, jQ o (by omega), Option.bind_some]
 rw [show J1 (k.1, k.2.1, k.2.2.1, k.2.2.2.1, k.2.2.2.2) = true from hk]
 simp only [Bool.not_true, cond_false, List.length_cons, List.length_nil]
 rw [if_pos (by omega), zY _ _ (by simp only [List.length_append, List.length_cons, List.length_nil]; omega)]
 simp only [Option.bind_some, List.append_assoc]
 rfl
theorem yaD (o : List Int) (s : y9) (hs : List.length s ≤ 60) (hk : ∀ k ∈ (show List ya from s), J1 k = true) (ho : o.length ≤ 900000) : wu (o, s) = some (o ++ kK 0 s) := by
 have hlen := kw V8 6 s 0 fun a _ j => Nat.le_refl _
 unfold wu Q7
 simp only [List.length_cons, List.length_nil]
 rw [if_pos (by omega)]
 refine (JH (step := jp _) zG V8 s (fun i o => (s, i, o)) (fun o => some o) 1000000 (by omega) ?_ ?_ _ (by rw [List.length_append]; simp only [List.length_cons, List.length_nil]; omega)).trans ?_
 ·intro again i o h0 h1 hb hm
  have hw : Go.IntKind.wrap .i64 (i + 1) = i + 1 := w64 (by omega) (by omega)
  have he := y4A o (y0 s i) (hk _ hm) (by omega)
  unfold jp
  simp only [Bool.cond_eq_ite, decide_eq_true_eq, h0, h1, if_true, hw, he, Option.bind_some]
  rfl
 ·intro again i o hi
  unfold jp
  simp only [Bool.cond_eq_ite, decide_eq_true_eq, if_neg hi]
 ·rw [List.append_assoc]
  rfl
end Go.Proofs.YtmapoakbdgpamaaGreat.Pl
namespace Go.Proofs.YtmapoakbdgpamaaGreat.Pl
open Go.Proofs.YtmapoakbdgpamaaGreat.R Go.Proofs.YtmapoakbdgpamaaGreat.XN
abbrev PT : Type := List yx × List y8 × List yq × List yb × List yD × Int × List z7
section
variable {R : Type} (q : List yx) (t : List y8) (l : List yq) (cs : List yb) (vs : List yD) (z : Int) (o : List z7)
theorem ygO (k0 : PT → Option R) (hl : l.length ≤ 1000) (hM : List.length o + (Kg QB l 0).length ≤ 900000) : kW k0 (0, q, t, l, cs, vs, z, o) = k0 (q, t, l, cs, vs, z, o ++ Kg QB l 0) := by
 unfold kW
 refine JH (step := ZG k0) kC QB l (fun i o => (i, q, t, l, cs, vs, z, o)) (fun o => k0 (q, t, l, cs, vs, z, o)) 900000 (by omega) ?_ ?_ o hM
 ·intro again i o h0 h1 hb hm
  have hw : Go.IntKind.wrap .i64 (i + 1) = i + 1 := w64 (by omega) (by omega)
  unfold ZG
  simp only [Bool.cond_eq_ite, decide_eq_true_eq, h0, h1, if_true, hw]
  rw [if_pos (by simp only [List.length_cons, List.length_nil]; omega)]
  rfl
 ·intro again i o hi
  unfold ZG
  simp only [Bool.cond_eq_ite, decide_eq_true_eq, if_neg hi]
theorem ygP (k0 : PT → Option R) (hl : l.length ≤ 1000) (hM : List.length o + (Kg QB l 0).length ≤ 900000) : K0 k0 (l, ((List.length l : Nat) : Int), 0, q, t, l, cs, vs, z, o) = k0 (q, t, l, cs, vs, z, o ++ Kg QB l 0) := by
 unfold K0
 refine JH (step := ZK k0) kC QB l (fun i o => (l, ((List.length l : Nat) : Int), i, q, t, l, cs, vs, z, o)) (fun o => k0 (q, t, l, cs, vs, z, o)) 900000 (by omega) ?_ ?_ o hM
 ·intro again i o h0 h1 hb hm
  have hw : Go.IntKind.wrap .i64 (i + 1) = i + 1 := w64 (by omega) (by omega)
  unfold ZK
  simp only [Bool.cond_eq_ite, decide_eq_true_eq, h0, h1, if_true, hw]
  rw [if_pos (by simp only [List.length_cons, List.length_nil]; omega)]
  rfl
 ·intro again i o hi
  unfold ZK
  simp only [Bool.cond_eq_ite, decide_eq_true_eq, if_neg hi]
theorem y99 (o : List Int) (v : yD) (i : Int) : (o ++ tx v.1) ++ [b8 v.2.1, b8 v.2.2.1, bit v.2.2.2] = o ++ VU i v := List.append_assoc ..
theorem yeH (k0 : PT → Option R) (hl : vs.length ≤ 1000) (hv : ∀ v ∈ vs, ByteArray.size v.1 ≤ 6) (hM : List.length o + (Kg VU vs 0).length ≤ 900000) : Wz k0 (0, q, t, l, cs, vs, z, o) = k0 (q, t, l, cs, vs, z, o ++ Kg VU vs 0) := by
 unfold Wz
 refine JH (step := YJ k0) qa VU vs (fun i o => (i, q, t, l, cs, vs, z, o)) (fun o => k0 (q, t, l, cs, vs, z, o)) 900000 (by omega) ?_ ?_ o hM
 ·intro again i o h0 h1 hb hm
  have hw : Go.IntKind.wrap .i64 (i + 1) = i + 1 := w64 (by omega) (by omega)
  have hs := hv _ hm
  have he := y3U o (yo vs i).1 (by omega) (Nat.le_trans hs (by decide))
  have ht : List.length (o ++ tx (yo vs i).1) ≤ 900100 := by
   rw [List.length_append, yeG]
   have : ByteArray.size (yo vs i).1 ≤ 6 := hs
   omega
  unfold YJ
  simp only [Bool.cond_eq_ite, decide_eq_true_eq, h0, h1, if_true, hw, he, y3Z, Option.bind_some]
  rw [if_pos (by simp only [List.length_cons, List.length_nil]; omega)]
  exact congrArg (fun o' => again (i + 1, q, t, l, cs, vs, z, o')) (y99 o (yo vs i) i)
 ·intro again i o hi
  unfold YJ
  simp only [Bool.cond_eq_ite, decide_eq_true_eq, if_neg hi]
theorem yeI (k0 : PT → Option R) (hl : vs.length ≤ 1000) (hv : ∀ v ∈ vs, ByteArray.size v.1 ≤ 6) (hM : List.length o + (Kg VU vs 0).length ≤ 900000) : WN k0 (vs, ((List.length vs : Nat) : Int), 0, q, t, l, cs, vs, z, o) = k0 (q, t, l, cs, vs, z, o ++ Kg VU vs 0) := by
 unfold WN
 refine JH (step := YU k0) qa VU vs (fun i o => (vs, ((List.length vs : Nat) : Int), i, q, t, l, cs, vs, z, o)) (fun o => k0 (q, t, l, cs, vs, z, o)) 900000 (by omega) ?_ ?_ o hM
 ·intro again i o h0 h1 hb hm
  have hw : Go.IntKind.wrap .i64 (i + 1) = i + 1 := w64 (by omega) (by omega)
  have hs := hv _ hm
  have he := y3V o (yo vs i).1 (by omega) (Nat.le_trans hs (by decide))
  have ht : List.length (o ++ tx (yo vs i).1) ≤ 900100 := by
   rw [List.length_append, yeG]
   have : ByteArray.size (yo vs i).1 ≤ 6 := hs
   omega
  unfold YU
  simp only [Bool.cond_eq_ite, decide_eq_true_eq, h0, h1, if_true, hw, he, y40, Option.bind_some]
  rw [if_pos (by simp only [List.length_cons, List.length_nil]; omega)]
  exact congrArg (fun o' => again (vs, ((List.length vs : Nat) : Int), i + 1, q, t, l, cs, vs, z, o')) (y99 o (yo vs i) i)
 ·intro again i o hi
  unfold YU
  simp only [Bool.cond_eq_ite, decide_eq_true_eq, if_neg hi]
theorem y5r (o : List Int) (c : yb) (i : Int) : ((o ++ two c.1) ++ [bit c.2.1]) ++ two c.2.2 = o ++ kq i c := by
 unfold kq
 simp only [List.append_assoc]
theorem yeJ (k0 : PT → Option R) (hl : cs.length ≤ 1000) (hM : List.length o + (Kg kq cs 0).length ≤ 900000) : WB k0 (0, q, t, l, cs, vs, z, o) = k0 (q, t, l, cs, vs, z, o ++ Kg kq cs 0) := by
 unfold WB
 refine JH (step := YK k0) JZ kq cs (fun i o => (i, q, t, l, cs, vs, z, o)) (fun o => k0 (q, t, l, cs, vs, z, o)) 900000 (by omega) ?_ ?_ o hM
 ·intro again i o h0 h1 hb hm
  have hw : Go.IntKind.wrap .i64 (i + 1) = i + 1 := w64 (by omega) (by omega)
  have he := YB o (ym cs i).1 (by omega)
  have hlen : List.length (o ++ two (ym cs i).1) = List.length o + 2 := by rw [List.length_append]; rfl
  have hlen2 : List.length ((o ++ two (ym cs i).1) ++ [bit (ym cs i).2.1]) = List.length o + 3 := by rw [List.length_append, hlen]; rfl
  have he2 := YB ((o ++ two (ym cs i).1) ++ [bit (ym cs i).2.1]) (ym cs i).2.2 (by omega)
  unfold YK
  simp only [Bool.cond_eq_ite, decide_eq_true_eq, h0, h1, if_true, hw, he, y3Z, Option.bind_some]
  rw [if_pos (by simp only [List.length_cons, List.length_nil]; omega), he2]
  exact congrArg (fun o' => again (i + 1, q, t, l, cs, vs, z, o')) (y5r o (ym cs i) i)
 ·intro again i o hi
  unfold YK
  simp only [Bool.cond_eq_ite, decide_eq_true_eq, if_neg hi]
theorem yeK (k0 : PT → Option R) (hl : cs.length ≤ 1000) (hM : List.length o + (Kg kq cs 0).length ≤ 900000) : WP k0 (cs, ((List.length cs : Nat) : Int), 0, q, t, l, cs, vs, z, o) = k0 (q, t, l, cs, vs, z, o ++ Kg kq cs 0) := by
 unfold WP
 refine JH (step := YV k0) JZ kq cs (fun i o => (cs, ((List.length cs : Nat) : Int), i, q, t, l, cs, vs, z, o)) (fun o => k0 (q, t, l, cs, vs, z, o)) 900000 (by omega) ?_ ?_ o hM
 ·intro again i o h0 h1 hb hm
  have hw : Go.IntKind.wrap .i64 (i + 1) = i + 1 := w64 (by omega) (by omega)
  have he := zY o (ym cs i).1 (by omega)
  have hlen : List.length (o ++ two (ym cs i).1) = List.length o + 2 := by rw [List.length_append]; rfl
  have hlen2 : List.length ((o ++ two (ym cs i).1) ++ [bit (ym cs i).2.1]) = List.length o + 3 := by rw [List.length_append, hlen]; rfl
  have he2 := zY ((o ++ two (ym cs i).1) ++ [bit (ym cs i).2.1]) (ym cs i).2.2 (by omega)
  unfold YV
  simp only [Bool.cond_eq_ite, decide_eq_true_eq, h0, h1, if_true, hw, he, y40, Option.bind_some]
  rw [if_pos (by simp only [List.length_cons, List.length_nil]; omega), he2]
  exact congrArg (fun o' => again (cs, ((List.length cs : Nat) : Int), i + 1, q, t, l, cs, vs, z, o')) (y5r o (ym cs i) i)
 ·intro again i o hi
  unfold YV
  simp only [Bool.cond_eq_ite, decide_eq_true_eq, if_neg hi]
theorem yeL (k0 : Int × PT → Option R) (i : Int) (i0 : 0 ≤ i) (i1 : i < ((List.length t : Nat) : Int)) (hl : List.length (yn t i) ≤ 1000) (hs : ∀ s ∈ (show List y9 from yn t i), List.length s ≤ 60 ∧ ∀ k ∈ (show List ya from s), J1 k = true) (hM : List.length o + (Kg kK (yn t i) 0).length ≤ 900000) :
  WD k0 (i, 0, q, t, l, cs, vs, z, o) = k0 (i, q, t, l, cs, vs, z, o ++ Kg kK (yn t i) 0) := by
 unfold WD
 refine JH (step := YL k0) z5 kK (yn t i) (fun j o => (i, j, q, t, l, cs, vs, z, o)) (fun o => k0 (i, q, t, l, cs, vs, z, o)) 900000 (by omega) ?_ ?_ o hM
 ·intro again j o h0 h1 hb hm
  have hw : Go.IntKind.wrap .i64 (j + 1) = j + 1 := w64 (by omega) (by omega)
  have he := yaD o (yh (yn t i) j) (hs _ hm).1 (hs _ hm).2 (by omega)
  unfold YL
  simp only [Bool.cond_eq_ite, decide_eq_true_eq, i0, i1, h0, h1, if_true, hw, he, Option.bind_some]
  rfl
 ·intro again j o hj
  unfold YL
  simp only [Bool.cond_eq_ite, decide_eq_true_eq, i0, i1, if_true, if_neg hj]
theorem yeM (k0 : List y8 × Int × Int × List y9 × Int × Int × PT → Option R) (m i m2 j : Int) (nd : List y9) (t' : List y8) (s : List ya) (hs : s.length ≤ 60) (hk : ∀ k ∈ s, J1 k = true) (hM : List.length o + (Kg V8 s 0).length ≤ 1000000) :
  WR k0 (t', m, i, nd, m2, j, s, ((List.length s : Nat) : Int), 0, q, t, l, cs, vs, z, o) = k0 (t', m, i, nd, m2, j, q, t, l, cs, vs, z, o ++ Kg V8 s 0) := by
 unfold WR
 refine JH (step := YW k0) zG V8 s (fun x o => (t', m, i, nd, m2, j, s, ((List.length s : Nat) : Int), x, q, t, l, cs, vs, z, o)) (fun o => k0 (t', m, i, nd, m2, j, q, t, l, cs, vs, z, o)) 1000000 (by omega) ?_ ?_ o hM
 ·intro again x o h0 h1 hb hm
  have hw : Go.IntKind.wrap .i64 (x + 1) = x + 1 := w64 (by omega) (by omega)
  have he := y4B o (y0 s x) (hk _ hm) (by omega)
  unfold YW
  simp only [Bool.cond_eq_ite, decide_eq_true_eq, h0, h1, if_true, hw, he, Option.bind_some]
  rfl
 ·intro again x o hx
  unfold YW
  simp only [Bool.cond_eq_ite, decide_eq_true_eq, if_neg hx]
theorem yeN (k0 : List y8 × Int × Int × PT → Option R) (m i : Int) (nd : List y9) (t' : List y8) (hl : nd.length ≤ 1000) (hs : ∀ s ∈ nd, List.length s ≤ 60 ∧ ∀ k ∈ (show List ya from s), J1 k = true) (hM : List.length o + (Kg kK nd 0).length ≤ 900000) :
  WT k0 (t', m, i, nd, ((List.length nd : Nat) : Int), 0, q, t, l, cs, vs, z, o) = k0 (t', m, i, q, t, l, cs, vs, z, o ++ Kg kK nd 0) := by
 unfold WT
 refine JH (step := YX k0) z5 kK nd (fun j o => (t', m, i, nd, ((List.length nd : Nat) : Int), j, q, t, l, cs, vs, z, o)) (fun o => k0 (t', m, i, q, t, l, cs, vs, z, o)) 900000 (by omega) ?_ ?_ o hM
 ·intro again j o h0 h1 hb hm
  have hw : Go.IntKind.wrap .i64 (j + 1) = j + 1 := w64 (by omega) (by omega)
  have hsj := hs _ hm
  have hlen := kw V8 6 (yh nd j) 0 fun a _ j => Nat.le_refl _
  have h60 : List.length (yh nd j) ≤ 60 := hsj.1
  unfold YX
  simp only [Bool.cond_eq_ite, decide_eq_true_eq, h0, h1, if_true, hw]
  rw [if_pos (by simp only [List.length_cons, List.length_nil]; omega), yeM q t l cs vs z _ _ m i _ j nd t' (yh nd j) h60 hsj.2 (by rw [List.length_append]; simp only [List.length_cons, List.length_nil]; omega)]
  simp only [hw, List.append_assoc]
  rfl
 ·intro again j o hj
  unfold YX
  simp only [Bool.cond_eq_ite, decide_eq_true_eq, if_neg hj]
theorem y5s (o : List Int) (i : Int) (n : y8) : ((o ++ two (q.getD i.toNat 0)) ++ [b8 ((List.length n : Nat) : Int)]) ++ Kg kK n 0 = o ++ j0 q i n := by
 unfold j0
 simp only [List.append_assoc]
theorem yeO (k0 : List z7 → Option R) (hl : t.length ≤ 1000) (hq : q.length = t.length) (hn : ∀ n ∈ t, List.length n ≤ 3) (hs : ∀ n ∈ t, ∀ s ∈ (show List y9 from n), List.length s ≤ 60 ∧ ∀ k ∈ (show List ya from s), J1 k = true) (hM : List.length o + (Kg (j0 q) t 0).length ≤ 800000) :
  WF k0 (0, q, t, l, cs, vs, z, o) = k0 (o ++ Kg (j0 q) t 0) := by
 unfold WF
 refine JH (step := YM k0) zo (j0 q) t (fun i o => (i, q, t, l, cs, vs, z, o)) k0 800000 (by omega) ?_ ?_ o hM
 ·intro again i o h0 h1 hb hm
  have hw : Go.IntKind.wrap .i64 (i + 1) = i + 1 := w64 (by omega) (by omega)
  have he := YB o (zI q i) (by omega)
  have hlen : List.length (o ++ two (zI q i)) = List.length o + 2 := by rw [List.length_append]; rfl
  have hq1 : i < ((List.length q : Nat) : Int) := by omega
  have h3 : List.length (yn t i) ≤ 3 := hn _ hm
  have hsets := y7F (yn t i) h3 fun s hs' => (hs _ hm s hs').1
  unfold YM
  simp only [Bool.cond_eq_ite, decide_eq_true_eq, h0, h1, hq1, if_true, hw, he, Option.bind_some]
  rw [if_pos (by simp only [List.length_cons, List.length_nil]; omega), yeL q t l cs vs z _ _ i h0 h1 (by omega) (hs _ hm) (by rw [List.length_append, hlen]; simp only [List.length_cons, List.length_nil]; omega)]
  simp only [hw]
  exact congrArg (fun o' => again (i + 1, q, t, l, cs, vs, z, o')) (y5s q o i (yn t i))
 ·intro again i o hi
  unfold YM
  simp only [Bool.cond_eq_ite, decide_eq_true_eq, if_neg hi]
theorem yeP (k0 : List z7 → Option R) (hl : t.length ≤ 1000) (hq : q.length = t.length) (hn : ∀ n ∈ t, List.length n ≤ 3) (hs : ∀ n ∈ t, ∀ s ∈ (show List y9 from n), List.length s ≤ 60 ∧ ∀ k ∈ (show List ya from s), J1 k = true) (hM : List.length o + (Kg (j0 q) t 0).length ≤ 800000) :
  WW k0 (t, ((List.length t : Nat) : Int), 0, q, t, l, cs, vs, z, o) = k0 (o ++ Kg (j0 q) t 0) := by
 unfold WW
 refine JH (step := YY k0) zo (j0 q) t (fun i o => (t, ((List.length t : Nat) : Int), i, q, t, l, cs, vs, z, o)) k0 800000 (by omega) ?_ ?_ o hM
 ·intro again i o h0 h1 hb hm
  have hw : Go.IntKind.wrap .i64 (i + 1) = i + 1 := w64 (by omega) (by omega)
  have he := zY o (zI q i) (by omega)
  have hlen : List.length (o ++ two (zI q i)) = List.length o + 2 := by rw [List.length_append]; rfl
  have hq1 : i < ((List.length q : Nat) : Int) := by omega
  have h3 : List.length (yn t i) ≤ 3 := hn _ hm
  have hsets := y7F (yn t i) h3 fun s hs' => (hs _ hm s hs').1
  unfold YY
  simp only [Bool.cond_eq_ite, decide_eq_true_eq, h0, h1, hq1, if_true, hw, he, Option.bind_some]
  rw [if_pos (by simp only [List.length_cons, List.length_nil]; omega), yeN q t l cs vs z _ _ _ i (yn t i) t (by omega) (hs _ hm) (by rw [List.length_append, hlen]; simp only [List.length_cons, List.length_nil]; omega)]
  simp only [hw]
  exact congrArg (fun o' => again (t, ((List.length t : Nat) : Int), i + 1, q, t, l, cs, vs, z, o')) (y5s q o i (yn t i))
 ·intro again i o hi
  unfold YY
  simp only [Bool.cond_eq_ite, decide_eq_true_eq, if_neg hi]
end
noncomputable def QN (q : List Int) (t : List y8) (l : List yq) (cs : List yb) (vs : List yD) (z : Int) : List Int := if jP q t l cs vs z = true then J3 q t l cs vs z else []
theorem y41 (q : List Int) (t : List y8) (l : List yq) (cs : List yb) (vs : List yD) (z : Int) (ht : TOk t) (hl : l.length ≤ 1048576) (hc : cs.length ≤ 1048576) (hv : vs.length ≤ 1048576) (hvn : ∀ v ∈ vs, ByteArray.size v.1 ≤ maxLen) : Jk (q, t, l, cs, vs, z) = some (QN q t l cs vs z) := by
 unfold Jk QN
 simp only [y09 q t l cs vs z ht hl hc hv hvn, Option.bind_some]
 cases hp : jP q t l cs vs z with
 | false => rfl
 | true =>
  have h := ykS hp
  have h1 := y7G h
  have h2 := y7H h
  have h3 := y3Y h
  have h4 := y98 h
  simp only [Bool.not_true, cond_false, if_true, YB [] z (by decide), Option.bind_some, List.nil_append]
  rw [if_pos (by simp only [two, List.length_cons, List.length_nil]; omega), ygO q t l cs vs z _ _ (by have := h.ll; omega) (by simp only [two, List.length_append, List.length_cons, List.length_nil]; omega)]
  simp only []
  rw [if_pos (by simp only [two, List.length_append, List.length_cons, List.length_nil]; omega), yeH q t l cs vs z _ _ (by have := h.vl; omega) h.nm (by simp only [two, List.length_append, List.length_cons, List.length_nil]; omega)]
  simp only []
  rw [yeJ q t l cs vs z _ _ (by have := h.cl; omega) (by simp only [two, List.length_append, List.length_cons, List.length_nil]; omega)]
  simp only []
  rw [if_pos (by simp only [two, List.length_append, List.length_cons, List.length_nil]; omega), yeO q t l cs vs z _ _ (by have := h.tl; omega) h.ql h.nl h.sl (by simp only [two, List.length_append, List.length_cons, List.length_nil]; omega)]
  rfl
theorem y42 (q : List Int) (t : List y8) (l : List yq) (cs : List yb) (vs : List yD) (z : Int) (ht : TOk t) (hl : l.length ≤ 1048576) (hc : cs.length ≤ 1048576) (hv : vs.length ≤ 1048576) (hvn : ∀ v ∈ vs, ByteArray.size v.1 ≤ maxLen) : Jq (q, t, l, cs, vs, z) = some (QN q t l cs vs z) := by
 unfold Jq QN
 simp only [y0a q t l cs vs z ht hl hc hv hvn, Option.bind_some]
 cases hp : jP q t l cs vs z with
 | false => rfl
 | true =>
  have h := ykS hp
  have h1 := y7G h
  have h2 := y7H h
  have h3 := y3Y h
  have h4 := y98 h
  simp only [Bool.not_true, cond_false, if_true, zY [] z (by decide), Option.bind_some, List.nil_append]
  rw [if_pos (by simp only [two, List.length_cons, List.length_nil]; omega), ygP q t l cs vs z _ _ (by have := h.ll; omega) (by simp only [two, List.length_append, List.length_cons, List.length_nil]; omega)]
  simp only []
  rw [if_pos (by simp only [two, List.length_append, List.length_cons, List.length_nil]; omega), yeI q t l cs vs z _ _ (by have := h.vl; omega) h.nm (by simp only [two, List.length_append, List.length_cons, List.length_nil]; omega)]
  simp only []
  rw [yeK q t l cs vs z _ _ (by have := h.cl; omega) (by simp only [two, List.length_append, List.length_cons, List.length_nil]; omega)]
  simp only []
  rw [if_pos (by simp only [two, List.length_append, List.length_cons, List.length_nil]; omega), yeP q t l cs vs z _ _ (by have := h.tl; omega) h.ql h.nl h.sl (by simp only [two, List.length_append, List.length_cons, List.length_nil]; omega)]
  rfl
end Go.Proofs.YtmapoakbdgpamaaGreat.Pl
namespace Go.Proofs.YtmapoakbdgpamaaGreat.Pl
open Go.Proofs.YtmapoakbdgpamaaGreat.R Go.Proofs.YtmapoakbdgpamaaGreat.XN
def y7I (a b c d e : Int) : Bool := inR a 1 60000 && inR b 0 1 && inR c 0 1680 && inR d 0 4294967295 && inR e 1 60000
theorem y43 (a b c d e : Int) : Jl (a, b, c, d, e) = some (y7I a b c d e) := by
 unfold Jl y7I
 simp only [Zf, Option.bind_some, Bool.cond_eq_ite]
 cases inR a 1 60000 <;> cases inR b 0 1 <;> cases inR c 0 1680 <;> cases inR d 0 4294967295 <;> cases inR e 1 60000 <;> rfl
theorem y44 (a b c d e : Int) : Jt (a, b, c, d, e) = some (y7I a b c d e) := by
 unfold Jt y7I
 simp only [zJ, Option.bind_some, Bool.cond_eq_ite]
 cases inR a 1 60000 <;> cases inR b 0 1 <;> cases inR c 0 1680 <;> cases inR d 0 4294967295 <;> cases inR e 1 60000 <;> rfl
def y4C (a b c d e : Int) : List Int := [a / 256 % 256, a % 256, b % 256, c / 256 % 256, c % 256, d / 16777216 % 256, d / 65536 % 256, d / 256 % 256, d % 256, e / 256 % 256, e % 256]
def enc (a b c d e : Int) : List Int := y4C a b c d e ++ yil (crc (y4C a b c d e))
theorem y45 (a b c d e : Int) : Y2 (y4C a b c d e) := by
 intro x hx
 simp only [y4C, List.mem_cons, List.mem_nil_iff, or_false] at hx
 rcases hx with h | h | h | h | h | h | h | h | h | h | h <;> subst h <;> omega
theorem y2j (a b c d e : Int) : jE (a, b, c, d, e) = some (if y7I a b c d e = true then enc a b c d e else []) := by
 unfold jE
 simp only [y44, Option.bind_some]
 cases y7I a b c d e with
 | false => rfl
 | true =>
  simp only [Bool.not_true, cond_false, if_true, y1y]
  rw [zY [] a (by simp)]
  simp only [Option.bind_some, List.nil_append]
  rw [if_pos (by simp [two]), zY _ c (by simp [two])]
  simp only [Option.bind_some]
  rw [yeF _ d (by simp [two])]
  simp only [Option.bind_some]
  rw [zY _ e (by simp [two, yil])]
  simp only [Option.bind_some]
  rw [show two a ++ [b % 256] ++ two c ++ yil d ++ two e = y4C a b c d e from rfl, y3R _ (y45 a b c d e) (by simp [y4C])]
  simp only [Option.bind_some]
  rw [yeF _ _ (by simp [y4C])]
  rfl
theorem y2k (a b c d e : Int) : jq (a, b, c, d, e) = some (if y7I a b c d e = true then enc a b c d e else []) := by
 unfold jq
 simp only [y43, Option.bind_some]
 cases y7I a b c d e with
 | false => rfl
 | true =>
  simp only [Bool.not_true, cond_false, if_true, y1y]
  rw [YB [] a (by simp)]
  simp only [Option.bind_some, List.nil_append]
  rw [if_pos (by simp [two]), YB _ c (by simp [two])]
  simp only [Option.bind_some]
  rw [y5q _ d (by simp [two])]
  simp only [Option.bind_some]
  rw [YB _ e (by simp [two, yil])]
  simp only [Option.bind_some]
  rw [show two a ++ [b % 256] ++ two c ++ yil d ++ two e = y4C a b c d e from rfl, y3Q _ (y45 a b c d e) (by simp [y4C])]
  simp only [Option.bind_some]
  rw [y5q _ _ (by simp [y4C])]
  rfl
end Go.Proofs.YtmapoakbdgpamaaGreat.Pl
namespace Go.Proofs.YtmapoakbdgpamaaGreat.Pl
open Go.Proofs.YtmapoakbdgpamaaGreat.R Go.Proofs.YtmapoakbdgpamaaGreat.XN
theorem y9a : ∀ (s : List ya) (i : Int), (Kg V8 s i).length = 6 * s.length
 | [], _ => rfl
 | a :: s, i => by
  rw [Kg, List.length_append, y9a s (i + 1), ycK, List.length_cons]
  omega
theorem ybL : ∀ (n : List y9) (s : Int), 0 ≤ s → s + 60 * n.length ≤ 1000 → (∀ a ∈ n, List.length a ≤ 60) → ∃ k : Nat, n.foldl y1Z s = s + k ∧ ∀ i, (Kg kK n i).length = n.length + 6 * k
 | [], s, _, _, _ => ⟨0, by simp, fun _ => rfl⟩
 | a :: n, s, h0, hb, ha => by
  have h1 := ha a (by simp)
  rw [List.length_cons] at hb
  have hw : y1Z s a = s + (List.length a : Int) := w64 (by omega) (by omega)
  obtain ⟨k, e1, e2⟩ := ybL n (s + (List.length a : Int)) (by omega) (by omega) fun b hm => ha b (by simp [hm])
  refine ⟨List.length a + k, ?_, fun i => ?_⟩
  ·rw [List.foldl_cons, hw, e1]
   omega
  ·have h6 := y9a a 0
   rw [Kg, List.length_append, e2, kK, List.length_append, List.length_cons]
   simp only [List.length_cons, List.length_nil]
   omega
theorem ygQ (q : List Int) (i : Int) (n : y8) (h : ko n = true) : (j0 q i n).length ≤ 54 := by
 obtain ⟨h1, h2⟩ := y3X h
 unfold ko at h
 simp only [Bool.and_eq_true, decide_eq_true_eq] at h
 obtain ⟨k, e1, e2⟩ := ybL n 0 (Int.le_refl _) (by omega) fun a ha => (ybK (h2 a ha)).1
 have h3 := h.2.2
 unfold j0
 rw [List.length_append, List.length_append, e2]
 simp only [two, List.length_cons, List.length_nil]
 omega
theorem y46 {q : List Int} {t : List y8} {l : List yq} {cs : List yb} {vs : List yD} {z : Int} (h : jP q t l cs vs z = true) : (J3 q t l cs vs z).length ≤ 1680 := by
 have hF := ykS h
 unfold jP at h
 simp only [Bool.and_eq_true] at h
 obtain ⟨t1, t2, t3, t4⟩ := y97 h.1
 have h1 := y7G hF
 have h2 := y7H hF
 have h3 := y3Y hF
 have h4 := kw (j0 q) 54 t 0 fun n hn j => ygQ q j n (t4 n hn)
 unfold J3
 simp only [List.length_append, two, List.length_cons, List.length_nil]
 omega
theorem qq {a : Int} {l : List Int} (h : 0 ≤ a ∧ a < 256) (hl : Y2 l) : Y2 (a :: l) := fun x hx => (List.mem_cons.1 hx).elim (fun e => e ▸ h) (hl x)
theorem ybM : Y2 [] := fun x hx => by cases hx
theorem yaE (x : Int) : 0 ≤ b8 x ∧ b8 x < 256 := by
 unfold b8
 rw [y1y]
 omega
theorem yin (b : Bool) : 0 ≤ bit b ∧ bit b < 256 := by cases b <;> decide
theorem kr {A : Type} (f : Int → A → List Int) (h : ∀ i a, Y2 (f i a)) : ∀ (l : List A) (i : Int), Y2 (Kg f l i)
 | [], _ => ybM
 | a :: l, i => yS (h i a) (kr f h l (i + 1))
theorem y13 (q : List Int) (t : List y8) (l : List yq) (cs : List yb) (vs : List yD) (z : Int) : Y2 (J3 q t l cs vs z) := by
 have b1 := fun x => qq (yaE x) ybM
 have bk : ∀ i a, Y2 (V8 i a) := fun i a => yS (qq (yaE _) (qq (yaE _) (qq (yaE _) (b1 _)))) (VT _)
 have bs : ∀ i a, Y2 (kK i a) := fun i a => yS (b1 _) (kr V8 bk a 0)
 have bn : ∀ i a, Y2 (j0 q i a) := fun i a => yS (VT _) (yS (b1 _) (kr kK bs a 0))
 have ba : ∀ i a, Y2 (QB i a) := fun i a => qq (yaE _) (b1 _)
 have bv : ∀ i a, Y2 (VU i a) := fun i a => yS (ygN _) (qq (yaE _) (qq (yaE _) (qq (yin _) ybM)))
 have bc : ∀ i a, Y2 (kq i a) := fun i a => yS (VT _) (yS (qq (yin _) ybM) (VT _))
 unfold J3
 exact yS (yS (yS (yS (yS (yS (yS (VT _) (b1 _)) (kr QB ba l 0)) (b1 _)) (kr VU bv vs 0)) (kr kq bc cs 0)) (b1 _)) (kr (j0 q) bn t 0)
section
variable (q : List yx) (t : List y8) (l : List yq) (cs : List yb) (vs : List yD) (nx gen bs sq : Int)
theorem y23 (s : List y7) (c : List yQ) (z : Int) (b : Bool) (n : Int) (p : List Int) (h : y2f s c z) : yX (s, c, z, b, q, t, l, cs, vs, nx, gen, bs, sq, n, p) = some (Vp q t l cs vs nx gen bs sq (s, wrK s (c, z, b) n p)) := by
 obtain ⟨h1, h2, h3, h4, h5, h6, h7⟩ := h
 have hw : Go.IntKind.wrap .i64 ((s.length : Int) - 1) = (s.length : Int) - 1 := w64 (by omega) (by omega)
 have hw2 : Go.IntKind.wrap .i64 (z - 1) = z - 1 := w64 (by omega) (by omega)
 unfold yX wrK
 simp only [hw, Zf, Option.bind_some]
 cases b with
 | true => rfl
 | false =>
  rw [if_neg (by simp)]
  cases hin : inR n 0 ((s.length : Int) - 1) with
  | false => rfl
  | true =>
   rw [if_neg (by simp)]
   by_cases a1 : (p.length : Int) > 80
   ·rw [if_pos a1, decide_eq_true a1]
    rfl
   ·rw [if_neg a1, decide_eq_false a1]
    by_cases a2 : (c.length : Int) ≥ 60
    ·rw [if_pos a2, decide_eq_true a2]
     rfl
    ·rw [if_neg a2, decide_eq_false a2]
     unfold Ya
     simp only [Bool.not_true, cond_false, Option.bind_some, hw2]
     by_cases a3 : z = 0
     ·subst a3
      rfl
     ·rw [if_neg a3, show (z == 0) = false from by simpa using a3, cond_false]
      have g1 : (List.length ([] : List z7) + p.length) * 1 < 140737488355328 := by
       simp only [List.length_nil]
       omega
      have g2 : (c.length + List.length ([(n, ([] : List z7) ++ p)] : List yQ)) * 32 < 140737488355328 := by
       simp only [List.length_cons, List.length_nil]
       omega
      by_cases a4 : z > 0
      ·rw [if_pos a4, decide_eq_true a4]
       simp only [cond_true, Option.bind_some, Bool.not_true, cond_false]
       rw [if_pos g1, if_pos g2]
       rfl
      ·rw [if_neg a4, decide_eq_false a4]
       simp only [cond_false, Option.bind_some, Bool.not_true]
       rw [if_pos g1, if_pos g2]
       rfl
end
theorem ycM (q : List yx) (t : List y8) (l : List yq) (cs : List yb) (vs : List yD) (nx gen bs sq : Int) (s : List y7) (c : List yQ) (z : Int) (b : Bool) (side : Int) (p : List Int) (h : y2f s c z) (hside : inR side 0 1 = true) (hp : p.length ≤ 1680) : zU (s, c, z, b, q, t, l, cs, vs, nx, gen, bs, sq, side, p) = some (Vp q t l cs vs nx gen bs sq (s, y7D s side p 24 0 (c, z, b))) := by
 unfold zU wv
 refine Yj (step := Y7 _) (fun x : Int × List Int × Int × Int × Bool × Int × Int × Int × Int × List y7 × List yQ × List yx × List y8 × List yq × List yb × List yD => 24 - x.2.2.1.toNat) (fun x => inR x.1 0 1 = true ∧ x.2.1.length ≤ 1680 ∧ 0 ≤ x.2.2.1 ∧ x.2.2.1 ≤ 24 ∧ y2f x.2.2.2.2.2.2.2.2.2.1 x.2.2.2.2.2.2.2.2.2.2.1 x.2.2.2.1)
  (fun x => some (Vp x.2.2.2.2.2.2.2.2.2.2.2.1 x.2.2.2.2.2.2.2.2.2.2.2.2.1 x.2.2.2.2.2.2.2.2.2.2.2.2.2.1 x.2.2.2.2.2.2.2.2.2.2.2.2.2.2.1 x.2.2.2.2.2.2.2.2.2.2.2.2.2.2.2 x.2.2.2.2.2.1 x.2.2.2.2.2.2.1 x.2.2.2.2.2.2.2.1 x.2.2.2.2.2.2.2.2.1 (x.2.2.2.2.2.2.2.2.2.1, y7D x.2.2.2.2.2.2.2.2.2.1 x.1 x.2.1 (24 - x.2.2.1.toNat) x.2.2.1 (x.2.2.2.2.2.2.2.2.2.2.1, x.2.2.2.1, x.2.2.2.2.1)))) ?_ (side, p, 0, z, b, nx, gen, bs, sq, s, c, q, t, l, cs, vs) ⟨hside, hp, Int.le_refl _, by simp, h⟩ (by simp)
 rintro again ⟨side, p, i, z, b, nx, gen, bs, sq, s, c, q, t, l, cs, vs⟩ ⟨hside, hp, i0, i1, hd⟩ hag
 simp only at hside hp i0 i1 hd ⊢
 have w1 : Go.IntKind.wrap .i64 (i * 70) = i * 70 := w64 (by omega) (by omega)
 have w2 : Go.IntKind.wrap .i64 (i + 1) = i + 1 := w64 (by omega) (by omega)
 have w3 : Go.IntKind.wrap .i64 ((i + 1) * 70) = (i + 1) * 70 := w64 (by omega) (by omega)
 unfold Y7
 simp only [w1, w2, w3]
 by_cases hi : i * 70 < (p.length : Int)
 ·have e1 : 24 - i.toNat = (24 - (i + 1).toNat) + 1 := by omega
  rw [decide_eq_true hi, cond_true, e1, y7D, if_pos hi, y4x side i hside i0 (by omega)]
  simp only [Option.bind_some]
  have hcall : ∀ x, x = ycI p i → Option.bind (yX (s, c, z, b, q, t, l, cs, vs, nx, gen, bs, sq, 8 + side * 24 + i, x)) (fun r => again (side, p, i + 1, r.2.2.1, r.2.2.2.1, r.2.2.2.2.2.2.2.2.2.1, r.2.2.2.2.2.2.2.2.2.2.1, r.2.2.2.2.2.2.2.2.2.2.2.1, r.2.2.2.2.2.2.2.2.2.2.2.2, r.1, r.2.1, r.2.2.2.2.1, r.2.2.2.2.2.1, r.2.2.2.2.2.2.1, r.2.2.2.2.2.2.2.1, r.2.2.2.2.2.2.2.2.1)) = some (Vp q t l cs vs nx gen bs sq (s, y7D s side p (24 - (i + 1).toNat) (i + 1) (wrK s (c, z, b) (8 + side * 24 + i) (ycI p i)))) := by
   rintro x rfl
   rw [y23 q t l cs vs nx gen bs sq s c z b _ _ hd]
   exact hag _ ⟨hside, hp, by simp only; omega, by simp only; omega, ybF s c z b _ _ hd⟩ (by simp only; omega)
  by_cases he : (i + 1) * 70 > (p.length : Int)
  ·rw [decide_eq_true he, cond_true, if_pos (by omega), if_pos (by omega), if_pos (by omega)]
   exact hcall _ (by rw [ycI, y7C, if_pos he])
  ·rw [decide_eq_false he, cond_false, if_pos (by omega), if_pos (by omega), if_pos (by omega)]
   exact hcall _ (by rw [ycI, y7C, if_neg he])
 ·rw [decide_eq_false hi, cond_false, ybG _ _ _ _ _ _ hi]
  rfl
noncomputable def ckI (s : List y7) (c : List yQ) (u : Int) (b : Bool) (g : Int) (p : List Int) : List y7 × List yQ × Int × Bool := ((flK s c u b).1, y7D (flK s c u b).1 g p 24 0 (flK s c u b).2)
noncomputable def ckF (d : List y7 × List yQ × Int × Bool) : List y7 × List yQ × Int × Bool := flK d.1 d.2.1 d.2.2.1 d.2.2.2
noncomputable def ckW (d : List y7 × List yQ × Int × Bool) (n : Int) (p : List Int) : List y7 × List yQ × Int × Bool := (d.1, wrK d.1 d.2 n p)
noncomputable def yeW (g m : Int) (p : List Int) : List Int := if y7I g (g % 2) (p.length : Int) (crc p) m = true then enc g (g % 2) (p.length : Int) (crc p) m else []
noncomputable def ckK (s : List y7) (c : List yQ) (u : Int) (b : Bool) (g m : Int) (p : List Int) : List y7 × List yQ × Int × Bool := ckF (ckW (ckF (ckI s c u b (g % 2) p)) (g % 2) (yeW g m p))
section
variable {s : List y7} {c : List yQ} {u : Int} (b : Bool) (g : Int) (p : List Int) (h : y2f s c u)
include h
theorem yeQ : y2f (ckI s c u b g p).1 (ckI s c u b g p).2.1 (ckI s c u b g p).2.2.1 := yez _ g p 24 0 _ (ybI s c u b h)
end
theorem yeR (d : List y7 × List yQ × Int × Bool) (n : Int) (p : List Int) (h : y2f d.1 d.2.1 d.2.2.1) : y2f (ckW d n p).1 (ckW d n p).2.1 (ckW d n p).2.2.1 := ybF d.1 d.2.1 d.2.2.1 d.2.2.2 n p h
theorem ybN (d : List y7 × List yQ × Int × Bool) (h : y2f d.1 d.2.1 d.2.2.1) : y2f (ckF d).1 (ckF d).2.1 (ckF d).2.2.1 := ybI _ _ _ _ h
section
variable {s : List y7} {c : List yQ} (u : Int) (b : Bool) {q : List yx} {t : List y8} {l : List yq} {cs : List yb} {vs : List yD} (z a n m : Int) (h : SmallS s c q t l cs vs)
include h
theorem y9b (hd : y2f s c u) (hp : jP q t l cs vs z = true) (a0 : 0 ≤ a) (a1 : a ≤ 49999) : YN (s, c, u, b, q, t, l, cs, vs, z, a, n, m) = some (if (ckK s c u b (a + 1) m (J3 q t l cs vs z)).2.2.2 = false then Vp q t l cs vs z (a + 1) m m (ckK s c u b (a + 1) m (J3 q t l cs vs z)) else Vp q t l cs vs z a n m (ckK s c u b (a + 1) m (J3 q t l cs vs z))) := by
 have w1 : Go.IntKind.wrap .i64 (a + 1) = a + 1 := w64 (by omega) (by omega)
 have hl := y46 hp
 have hs : inR ((a + 1) % 2) 0 1 = true := Zd.2 ⟨by omega, by omega⟩
 unfold YN ckK
 simp only [y41 q t l cs vs z h.T h.P.2.2.2.1 h.P.2.2.2.2.1 h.P.2.2.2.2.2 h.N, QN, hp, if_true, Option.bind_some, w1, ykQ _ (show 0 ≤ a + 1 by omega)]
 generalize hP : J3 q t l cs vs z = P at hl
 have hB : Y2 P := hP ▸ y13 q t l cs vs z
 rw [y3Q P hB (by omega)]
 simp only [Option.bind_some, Qz q t l cs vs z a n m s c u b hd, Vp]
 rw [ycM q t l cs vs z a n m _ _ _ _ ((a + 1) % 2) P (ybI s c u b hd) hs hl]
 have hI := yeQ b ((a + 1) % 2) P hd
 change Option.bind (some (Vp q t l cs vs z a n m (ckI s c u b ((a + 1) % 2) P))) _ = _
 generalize ckI s c u b ((a + 1) % 2) P = D at hI
 simp only [Option.bind_some, Vp]
 rw [Qz q t l cs vs z a n m _ _ _ _ hI]
 have hF := ybN D hI
 change Option.bind (some (Vp q t l cs vs z a n m (ckF D))) _ = _
 generalize ckF D = D2 at hF
 simp only [Option.bind_some, Vp, y2k]
 change Option.bind (yX (D2.1, D2.2.1, D2.2.2.1, D2.2.2.2, q, t, l, cs, vs, z, a, n, m, (a + 1) % 2, yeW (a + 1) m P)) _ = _
 rw [y23 q t l cs vs z a n m _ _ _ _ _ _ hF]
 have hW := yeR D2 ((a + 1) % 2) (yeW (a + 1) m P) hF
 change Option.bind (some (Vp q t l cs vs z a n m (ckW D2 ((a + 1) % 2) (yeW (a + 1) m P)))) _ = _
 generalize ckW D2 ((a + 1) % 2) (yeW (a + 1) m P) = D3 at hW
 simp only [Option.bind_some, Vp]
 rw [Qz q t l cs vs z a n m _ _ _ _ hW]
 change Option.bind (some (Vp q t l cs vs z a n m (ckF D3))) _ = _
 generalize ckF D3 = D4
 obtain ⟨d1, d2, d3, d4⟩ := D4
 simp only [Option.bind_some, Vp, w1]
 cases d4 <;> rfl
theorem ywZ : ∃ D g k, zp (s, c, u, b, q, t, l, cs, vs, z, a, n, m) = some (Vp q t l cs vs z g k m D) ∧ zq (s, c, u, b, q, t, l, cs, vs, z, a, n, m) = some (Vp q t l cs vs z g k m D) ∧ VQ D.1 D.2.1 := by
 by_cases hc : y22 0 s c u q t l cs vs z a n m = true ∧ b = false ∧ a ≠ 50000
 ·obtain ⟨hk, rfl, ha⟩ := hc
  have hd := ycJ hk
  have hk' := hk
  unfold y22 at hk'
  simp only [Bool.and_eq_true] at hk'
  obtain ⟨k1, k2, k3, k4, k5, k6, k7⟩ := hk'
  obtain ⟨a0, a1⟩ := Zd.1 k7
  have hs := y9b u false z a n m h hd k3 a0 (by omega)
  have w1 : Go.IntKind.wrap .i64 (a + 1) = a + 1 := w64 (by omega) (by omega)
  have hl := y46 k3
  have hs1 : inR ((a + 1) % 2) 0 1 = true := Zd.2 ⟨by omega, by omega⟩
  have hsp : zp (s, c, u, false, q, t, l, cs, vs, z, a, n, m) = YN (s, c, u, false, q, t, l, cs, vs, z, a, n, m) := by
   unfold zp
   simp only [QA u false z a n m h, y12 u false z a n m h, Zf, Option.bind_some, k1, k2, k3, k4, k5, k6, Zd.2 (show 0 ≤ a ∧ a ≤ 49999 by omega), Bool.and_true, Bool.true_and, cond_true, Bool.not_false, hs]
  have him : zq (s, c, u, false, q, t, l, cs, vs, z, a, n, m) = some (if (ckK s c u false (a + 1) m (J3 q t l cs vs z)).2.2.2 = false then Vp q t l cs vs z (a + 1) m m (ckK s c u false (a + 1) m (J3 q t l cs vs z)) else Vp q t l cs vs z a n m (ckK s c u false (a + 1) m (J3 q t l cs vs z))) := by
   unfold zq ckK
   simp only [VS u false z a n m h, y0d u false z a n m h 0, hk, Option.bind_some, Bool.not_true, cond_false, show (a == 50000) = false from by simpa using ha, y42 q t l cs vs z h.T h.P.2.2.2.1 h.P.2.2.2.2.1 h.P.2.2.2.2.2 h.N, QN, k3, if_true, w1, ykQ _ (show 0 ≤ a + 1 by omega)]
   generalize hP : J3 q t l cs vs z = P at hl
   have hB : Y2 P := hP ▸ y13 q t l cs vs z
   rw [y3R P hB (by omega)]
   have h1 := ybI s c u false hd
   simp only [Option.bind_some, Kc s c u false hd, y11 _ _ _ _ ((a + 1) % 2) P (VR h1), yeA, (y10 _ _ _).2 h1, hs1, decide_eq_true (show (P.length : Int) ≤ 1680 by omega), Bool.and_true, if_true]
   have hI := yeQ false ((a + 1) % 2) P hd
   change Option.bind (zy (ckI s c u false ((a + 1) % 2) P)) _ = _
   generalize ckI s c u false ((a + 1) % 2) P = D at hI
   rw [show zy D = some (ckF D) from Kc _ _ _ _ hI]
   have hF := ybN D hI
   generalize ckF D = D2 at hF
   simp only [Option.bind_some, y2j]
   change Option.bind (Yi (D2.1, D2.2.1, D2.2.2.1, D2.2.2.2, (a + 1) % 2, yeW (a + 1) m P)) _ = _
   rw [qI _ _ _ _ _ _ hF]
   have hW := yeR D2 ((a + 1) % 2) (yeW (a + 1) m P) hF
   change Option.bind (some (ckW D2 ((a + 1) % 2) (yeW (a + 1) m P))) _ = _
   generalize ckW D2 ((a + 1) % 2) (yeW (a + 1) m P) = D3 at hW
   simp only [Option.bind_some]
   rw [Kc _ _ _ _ hW]
   change Option.bind (some (ckF D3)) _ = _
   generalize ckF D3 = D4
   obtain ⟨d1, d2, d3, d4⟩ := D4
   simp only [Option.bind_some]
   cases d4 <;> rfl
  rw [hsp, hs, him]
  have hD := VR (ybN _ (yeR _ ((a + 1) % 2) (yeW (a + 1) m (J3 q t l cs vs z)) (ybN _ (yeQ false ((a + 1) % 2) (J3 q t l cs vs z) hd))))
  by_cases hb : (ckK s c u false (a + 1) m (J3 q t l cs vs z)).2.2.2 = false
  ·rw [if_pos hb]
   exact ⟨_, _, _, rfl, rfl, hD⟩
  ·rw [if_neg hb]
   exact ⟨_, _, _, rfl, rfl, hD⟩
 ·refine ⟨(s, c, u, b), a, n, ?_, ?_, h.D⟩
  ·unfold zp
   simp only [QA u b z a n m h, y12 u b z a n m h, Zf, Option.bind_some]
   have hL : ∀ L : Bool, (L = true → inR a 0 50000 = true → b = false → a ≠ 50000 → False) → ((bif L then some (inR a 0 49999) else some false).bind fun u3 => (bif u3 then some (!b) else some false)) = some false := by
    intro L hL
    cases L with
    | false => rfl
    | true =>
     cases ha : inR a 0 49999 with
     | false => rfl
     | true =>
      cases b with
      | true => rfl
      | false =>
       have h2 := Zd.1 ha
       exact absurd (hL rfl (Zd.2 (by omega)) rfl (by omega)) id
   have hc' := hL (ycB s c u && (((s.length : Int) == 60) && (jP q t l cs vs z && (inR n 1 50000 && (inR m n (IntKind.i64.wrap (n + 6)) && inR m 1 50000))))) fun h1 h2 h3 h4 => hc ⟨by
    unfold y22
    rw [h2, Bool.and_true]
    exact h1, h3, h4⟩
   rw [← Option.bind_assoc, hc']
   rfl
  ·unfold zq
   simp only [VS u b z a n m h, y0d u b z a n m h 0, Option.bind_some]
   cases hk : y22 0 s c u q t l cs vs z a n m with
   | false => rfl
   | true =>
    cases b with
    | true => rfl
    | false =>
     have ha : a = 50000 := Classical.byContradiction fun hn => hc ⟨hk, rfl, hn⟩
     subst ha
     rfl
end
end Go.Proofs.YtmapoakbdgpamaaGreat.Pl
namespace Go.Proofs.YtmapoakbdgpamaaGreat.Pl
open Go.Proofs.YtmapoakbdgpamaaGreat.R Go.Proofs.YtmapoakbdgpamaaGreat.XN
def y7J : List y7 := List.replicate 60 []
def y47 : List yb := List.replicate 24 (0, false, 0)
def y48 : List y8 := [([] : List y9)]
theorem ybO (i : Nat) : y7J.getD i Kf = [] := by
 unfold y7J
 rw [List.getD_eq_getElem?_getD, List.getElem?_replicate]
 split <;> rfl
theorem y4D : ww 60 = some (y7J, [], -1, false) := by
 unfold ww Qc
 simp only [Zf, Option.bind_some]
 refine (Wg (step := Yf _ _) Kf y7J (fun i => Sum.inl (60, i, 0, false, -1, false)) (fun i o => Sum.inr (60, i, 0, false, -1, false, o)) (some ([], [], -1, false)) (fun o => some (o, [], -1, false)) (by decide) ?_ ?_ ?_ ?_).trans rfl
 ·intro again i h0 h1
  have h1' : i < 60 := h1
  have hw : Go.IntKind.wrap .i64 (i + 1) = i + 1 := w64 (by omega) (by omega)
  simp only [Yf, Bool.cond_eq_ite, decide_eq_true_eq, h1', if_true, hw, ybO]
  rw [if_pos (by decide)]
 ·intro again i o h0 h1 h2
  have h1' : i < 60 := h1
  have hw : Go.IntKind.wrap .i64 (i + 1) = i + 1 := w64 (by omega) (by omega)
  simp only [Yf, Bool.cond_eq_ite, decide_eq_true_eq, h1', if_true, hw, ybO]
  have h60 : List.length y7J = 60 := by decide
  rw [if_pos (by simp only [List.length_cons, List.length_nil]; omega)]
 ·intro again i hi
  have h1' : ¬ i < 60 := hi
  simp only [Yf, Bool.cond_eq_ite, decide_eq_true_eq, if_neg h1']
 ·intro again i o hi
  have h1' : ¬ i < 60 := hi
  simp only [Yf, Bool.cond_eq_ite, decide_eq_true_eq, if_neg h1']
theorem y4E : wR 60 = some (y7J, [], -1, false) := by
 unfold wR
 simp only [zJ, Option.bind_some]
 rfl
theorem y14 : SmallS y7J [] [0] y48 [] y47 [] := by
 have hP : y8M [0] y48 [] y47 [] := by
  refine ⟨?_, ?_, ?_, ?_, ?_, ?_⟩ <;> decide
 refine ⟨?_, hP, yeD hP, fun v hv => by cases hv⟩
 refine ⟨?_, ?_, ?_, ?_⟩ <;> decide
theorem law_Format : zk () = some true := by
 obtain ⟨⟨d1, d2, d3, d4⟩, g, k, e1, e2, hD⟩ := ywZ (-1) false 1 0 1 1 y14
 have hS2 : SmallS d1 d2 [0] y48 [] y47 [] := ⟨hD, y14.P, y14.T, y14.N⟩
 obtain ⟨r2, s2, c2, q2, t2, l2, dd2, v2, g1, g2, g3⟩ := y95 d3 d4 1 g k 1 hS2
 have f1 : wx () = some (d1, d2, d3, d4, [0], y48, [], y47, [], 1, g, k, 1) := by
  unfold wx
  rw [y4D]
  change Option.bind (zp (y7J, [], -1, false, [0], y48, [], y47, [], 1, 0, 1, 1)) _ = _
  rw [e1]
  rfl
 have f2 : jX () = some (d1, d2, d3, d4, [0], y48, [], y47, [], 1, g, k, 1) := by
  unfold jX
  rw [y4E]
  change Option.bind (zq (y7J, [], -1, false, [0], y48, [], y47, [], 1, 0, 1, 1)) _ = _
  rw [e2]
  rfl
 unfold zk
 simp only [f1, f2, y94 d3 d4 1 g k 1 hS2, g1, g2, Option.bind_some, Bool.not_true, cond_false]
 rw [decide_eq_false (show ¬ r2 < 0 by omega)]
 simp
end Go.Proofs.YtmapoakbdgpamaaGreat.Pl
