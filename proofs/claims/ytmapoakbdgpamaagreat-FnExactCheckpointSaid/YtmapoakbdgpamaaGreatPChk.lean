/- Crc, Dev, Join, MarkDev, Img, Flush, CopyPool, MarkHeld, StoreK, ReadW, Four, Draw, Crc1, Draw2, Put4, Txt, PutPool, PutPool2, SupK, Chk. No condition. -/
import Derived.Test.YtmapoakbdgpamaaGreatPPoolOk3
set_option linter.all false
namespace Go.Proofs.YtmapoakbdgpamaaGreat.Pl
open Go.Proofs.YtmapoakbdgpamaaGreat.R Go.Proofs.YtmapoakbdgpamaaGreat.XQ
theorem yny (l : List Int) (i : Int) : ya6 l i = by_ l i := rfl
theorem ybZ (l : List Int) (i : Int) (h0 : 0 ≤ i) (h : i < l.length) : l.drop i.toNat = by_ l i :: l.drop (i.toNat + 1) := by
 have hn : i.toNat < l.length := by omega
 rw [List.drop_eq_getElem_cons hn]
 unfold by_
 rw [List.getD_eq_getElem?_getD, List.getElem?_eq_getElem hn]
 rfl
theorem yAH (x : Int) : Int.fdiv x (2 ^ (min (Int.toNat (1 : Int)) (Go.IntKind.bits .i64))) = x / 2 := by
 show Int.fdiv x 2 = x / 2
 rw [Int.fdiv_eq_ediv_of_nonneg _ (by omega)]
theorem y5R {R : Type} (l : List Int) (i : Int) (k : List Int × Int × Int → Option R) : ∀ x : Int, y0q k (l, x, i, 0) = k (l, WM 8 x, i) := by
 intro x
 unfold y0q
 have key := zU (step := qa k) (fun t : List Int × Int × Int × Int => 8 - t.2.2.2.toNat) (fun t => t.1 = l ∧ t.2.2.1 = i ∧ 0 ≤ t.2.2.2 ∧ t.2.2.2 ≤ 8) (fun t => k (l, WM (8 - t.2.2.2.toNat) t.2.1, i)) ?_ (l, x, i, 0) ⟨rfl, rfl, by simp, by simp⟩ (by simp)
 ·simpa using key
 ·rintro again ⟨l', x, i', j⟩ ⟨rfl, rfl, h0, h1⟩ hag
  simp only at h0 h1 ⊢
  unfold qa
  simp only [Bool.cond_eq_ite, decide_eq_true_eq, bi, yH7, yAH]
  by_cases hj : j < 8
  ·have hw : Go.IntKind.wrap .i64 (j + 1) = j + 1 := w64 (by omega) (by omega)
   obtain ⟨d, hd⟩ : ∃ d, 8 - j.toNat = d + 1 := ⟨7 - j.toNat, by omega⟩
   have hd' : 8 - (j + 1).toNat = d := by omega
   rw [if_pos hj, hw, hd, WM]
   unfold y6B
   by_cases hx : x % 2 = 1
   ·rw [if_pos hx, if_pos hx]
    have := hag (l', bits .xor .i64 (x / 2) 2197175160, i', j + 1) ⟨rfl, rfl, by simp only; omega, by simp only; omega⟩ (by simp only; omega)
    rw [this]
    simp only [hd']
   ·rw [if_neg hx, if_neg hx]
    have := hag (l', x / 2, i', j + 1) ⟨rfl, rfl, by simp only; omega, by simp only; omega⟩ (by simp only; omega)
    rw [this]
    simp only [hd']
  ·have : j = 8 := by omega
   subst this
   simp [WM]
theorem ykM {l : List Int} (h : Y2 l) (i : Int) : Go.IntKind.wrap .i64 (by_ l i) = by_ l i := by
 have := ydf h i
 exact w64 (by omega) (by omega)
theorem y5d (l : List Int) (hb : Y2 l) (hl : l.length ≤ 1099511627776) : vC l = some (crc l) := by
 unfold vC y39
 rw [zU (fun t : List Int × Int × Int => t.1.length - t.2.2.toNat) (fun t => t.1 = l ∧ 0 ≤ t.2.2 ∧ t.2.2 ≤ l.length) (fun t => some (bits .xor .i64 ((l.drop t.2.2.toNat).foldl y1A t.2.1) 4294967295)) ?_ (l, 4294967295, 0) ⟨rfl, by simp, by simp⟩ (by simp; omega)]
 ·rfl
 ·rintro again ⟨l', x, i⟩ ⟨rfl, h0, h1⟩ hag
  simp only at h0 h1 hl hb ⊢
  unfold y0s
  simp only [Bool.cond_eq_ite, decide_eq_true_eq, yny, ykM hb]
  by_cases hi : i < (l'.length : Int)
  ·have hw : Go.IntKind.wrap .i64 (i + 1) = i + 1 := w64 (by omega) (by omega)
   rw [if_pos hi, if_pos h0, if_pos hi, y5R]
   simp only [hw]
   rw [hag (l', WM 8 (bits .xor .i64 x (by_ l' i)), i + 1) ⟨rfl, by simp only; omega, by simp only; omega⟩ (by simp only; omega), ybZ l' i h0 hi]
   have e1 : (i + 1).toNat = i.toNat + 1 := by omega
   simp only [e1, List.foldl_cons, y1A]
  ·rw [if_neg hi, List.drop_of_length_le (by omega)]
   rfl
theorem yAI (x : Int) (h : 0 ≤ x) : Int.tdiv x 2 = x / 2 := Int.tdiv_eq_ediv_of_nonneg h
theorem ynz (x : Int) (h : 0 ≤ x) : Int.tmod x 2 = x % 2 := Int.tmod_eq_emod_of_nonneg h
theorem y5S {R : Type} (l : List Int) (n i : Int) (k : Int × List Int × Int × Int → Option R) : ∀ x : Int, 0 ≤ x → x < 4294967296 → y0B k (x, l, n, i, 0) = k (WM 8 x, l, n, i) := by
 intro x hx0 hx1
 unfold y0B
 have key := zU (step := qd k) (fun t : Int × List Int × Int × Int × Int => 8 - t.2.2.2.2.toNat) (fun t => t.2.1 = l ∧ t.2.2.1 = n ∧ t.2.2.2.1 = i ∧ 0 ≤ t.2.2.2.2 ∧ t.2.2.2.2 ≤ 8 ∧ 0 ≤ t.1 ∧ t.1 < 4294967296) (fun t => k (WM (8 - t.2.2.2.2.toNat) t.1, l, n, i)) ?_ (x, l, n, i, 0) ⟨rfl, rfl, rfl, by simp, by simp, hx0, hx1⟩ (by simp)
 ·simpa using key
 ·rintro again ⟨x, l', n', i', j⟩ ⟨rfl, rfl, rfl, h0, h1, hx0, hx1⟩ hag
  simp only at h0 h1 hx0 hx1 ⊢
  unfold qd
  simp only [Bool.cond_eq_ite, decide_eq_true_eq, bi, ynz x hx0, yAI x hx0, w64 (n := x / 2) (by omega) (by omega)]
  by_cases hj : j < 8
  ·have hw : Go.IntKind.wrap .i64 (j + 1) = j + 1 := w64 (by omega) (by omega)
   obtain ⟨d, hd⟩ : ∃ d, 8 - j.toNat = d + 1 := ⟨7 - j.toNat, by omega⟩
   have hd' : 8 - (j + 1).toNat = d := by omega
   have hr := y0E x hx0 hx1
   rw [if_pos hj, hw, hd, WM]
   unfold y6B at hr ⊢
   by_cases hx : x % 2 = 1
   ·rw [if_pos hx] at hr ⊢
    rw [if_pos hx]
    have := hag (bits .xor .i64 (x / 2) 2197175160, l', n', i', j + 1) ⟨rfl, rfl, rfl, by simp only; omega, by simp only; omega, hr.1, hr.2⟩ (by simp only; omega)
    rw [this]
    simp only [hd']
   ·rw [if_neg hx] at hr ⊢
    rw [if_neg hx]
    have := hag (x / 2, l', n', i', j + 1) ⟨rfl, rfl, rfl, by simp only; omega, by simp only; omega, hr.1, hr.2⟩ (by simp only; omega)
    rw [this]
    simp only [hd']
  ·have : j = 8 := by omega
   subst this
   simp [WM]
theorem y5e (l : List Int) (hb : Y2 l) (hl : l.length ≤ 1099511627776) : vD l = some (crc l) := by
 unfold vD y3a
 rw [zU (fun t : Int × List Int × Int × Int => t.2.1.length - t.2.2.2.toNat) (fun t => t.2.1 = l ∧ t.2.2.1 = l.length ∧ 0 ≤ t.2.2.2 ∧ t.2.2.2 ≤ l.length ∧ 0 ≤ t.1 ∧ t.1 < 4294967296) (fun t => some (bits .xor .i64 ((l.drop t.2.2.2.toNat).foldl y1A t.1) 4294967295)) ?_ (4294967295, l, l.length, 0) ⟨rfl, rfl, by simp, by simp, by simp, by simp⟩ (by simp; omega)]
 ·rfl
 ·rintro again ⟨x, l', n, i⟩ ⟨rfl, hn, h0, h1, hx0, hx1⟩ hag
  simp only at hn h0 h1 hx0 hx1 hl hb ⊢
  subst hn
  unfold y0D
  simp only [Bool.cond_eq_ite, decide_eq_true_eq, yny, ykM hb]
  by_cases hi : i < (l'.length : Int)
  ·have hw : Go.IntKind.wrap .i64 (i + 1) = i + 1 := w64 (by omega) (by omega)
   have hbr := ydf hb i
   have hxr := y4Y x (by_ l' i) hx0 hx1 hbr.1 (by omega)
   have hsr := y8S x (by_ l' i) hx0 hx1 hbr.1 hbr.2
   rw [if_pos hi, if_pos h0, if_pos hi, y5S _ _ _ _ _ hxr.1 hxr.2]
   simp only [hw]
   rw [hag (WM 8 (bits .xor .i64 x (by_ l' i)), l', l'.length, i + 1) ⟨rfl, rfl, by simp only; omega, by simp only; omega, hsr.1, hsr.2⟩ (by simp only; omega), ybZ l' i h0 hi]
   have e1 : (i + 1).toNat = i.toNat + 1 := by omega
   simp only [e1, List.foldl_cons, y1A]
  ·rw [if_neg hi, List.drop_of_length_le (by omega)]
   rfl
theorem y6H (l : List Int) (hl : l.length ≤ 1099511627776) : zt l = some l := by
 unfold zt QA
 rw [if_pos (by omega), if_pos (Int.le_refl _), if_pos (by simp; omega)]
 rw [zU (fun t : List Int × Int × List Int => t.1.length - t.2.1.toNat) (fun t => t.1 = l ∧ 0 ≤ t.2.1 ∧ t.2.1 ≤ l.length ∧ t.2.2.length = l.length) (fun t => some (t.2.2.take t.2.1.toNat ++ l.drop t.2.1.toNat)) ?_ (l, 0, _) ⟨rfl, by simp, by simp, by simp⟩ (by simp; omega)]
 ·simp
 ·rintro again ⟨l', i, o⟩ ⟨rfl, h0, h1, hlen⟩ hag
  simp only at h0 h1 hlen hl ⊢
  unfold KJ
  simp only [Bool.cond_eq_ite, decide_eq_true_eq, yny]
  by_cases hi : i < (l'.length : Int)
  ·have hw : Go.IntKind.wrap .i64 (i + 1) = i + 1 := w64 (by omega) (by omega)
   rw [if_pos hi, if_pos h0, if_pos hi, if_pos h0, if_pos (by rw [hlen]; exact hi), hw]
   rw [hag (l', i + 1, o.set i.toNat (by_ l' i)) ⟨rfl, by simp only; omega, by simp only; omega, by simpa using hlen⟩ (by simp only; omega), ybZ l' i h0 hi]
   have e1 : (i + 1).toNat = i.toNat + 1 := by omega
   have hn : i.toNat < o.length := by omega
   simp only [e1]
   rw [List.take_succ_eq_append_getElem (by simpa using hn), List.take_set_of_le (Nat.le_refl _)]
   simp
  ·have : i.toNat = l'.length := by omega
   rw [if_neg hi, List.drop_of_length_le (by omega), List.take_of_length_le (by omega)]
   simp
theorem y3g (l : List Int) (hl : l.length ≤ 1099511627776) : zs (l, l) = some true := by
 unfold zs Qs
 simp only [bne_self_eq_false, cond_false]
 rw [zU (fun t : List Int × List Int × Int => t.1.length - t.2.2.toNat) (fun t => t.1 = l ∧ t.2.1 = l ∧ 0 ≤ t.2.2 ∧ t.2.2 ≤ l.length) (fun _ => some true) ?_ (l, l, 0) ⟨rfl, rfl, by simp, by simp⟩ (by simp; omega)]
 rintro again ⟨a, b, i⟩ ⟨h1, h2, h0, h3⟩ hag
 simp only at h1 h2 h0 h3 ⊢
 subst h1 h2
 unfold KA
 simp only [Bool.cond_eq_ite, decide_eq_true_eq]
 by_cases hi : i < (b.length : Int)
 ·have hw : Go.IntKind.wrap .i64 (i + 1) = i + 1 := w64 (by omega) (by omega)
  rw [if_pos hi, if_pos h0, if_pos hi, if_pos h0, if_pos hi, hw, hag (b, b, i + 1) ⟨rfl, rfl, by simp only; omega, by simp only; omega⟩ (by simp only; omega)]
  simp
 ·rw [if_neg hi]
end Go.Proofs.YtmapoakbdgpamaaGreat.Pl
namespace Go.Proofs.YtmapoakbdgpamaaGreat.Pl
open Go.Proofs.YtmapoakbdgpamaaGreat.R Go.Proofs.YtmapoakbdgpamaaGreat.XQ
theorem y6I (l : List z0) (hl : l.length ≤ maxLen) (n : Int) (hn0 : 0 ≤ n) (hn1 : n ≤ 1048576) : ybP n (l.length : Nat) (Ya (l, n)) := y2F n l.length hn0 hn1 hl
theorem yc0 (l : List y6) (hl : l.length ≤ maxLen) (hm : ∀ a ∈ l, List.length a ≤ maxLen) (n : Int) (hn0 : 0 ≤ n) (hn1 : n ≤ 1048576) : ybP n ((l.length : Int) + z9 (fun a : y6 => (List.length a : Int)) l) (jG (l, n)) := by
 simp only [maxLen] at hl
 unfold jG qP
 simp only [Bool.cond_eq_ite, decide_eq_true_eq]
 rw [w64 (n := n - l.length) (by omega) (by omega)]
 by_cases h : n - (l.length : Int) < 0
 ·rw [if_pos h]
  exact ⟨-1, rfl, .inl (by omega)⟩
 ·rw [if_neg h]
  have hs : ∀ again (n i r : Int), 0 ≤ i → i < (l.length : Int) → Ya (l.getD i.toNat WW, n) = some r → zG (fun x2 => some x2.2) (fun x3 => some x3) again (l, n, i) = if r < 0 then some (-1 : Int) else again (l, r, i + 1) := by
   intro again n i r h0 h1 hr
   unfold zG
   have hw : Go.IntKind.wrap .i64 (i + 1) = i + 1 := w64 (by omega) (by omega)
   have hr' : Ya ((zh l i), n) = some r := hr
   simp only [Bool.cond_eq_ite, decide_eq_true_eq, h0, h1, if_true, hw, hr', Option.bind_some]
  have hd : ∀ again (n i : Int), ¬ i < (l.length : Int) → zG (fun x2 => some x2.2) (fun x3 => some x3) again (l, n, i) = some n := by
   intro again n i hi
   unfold zG
   simp only [Bool.cond_eq_ite, decide_eq_true_eq, if_neg hi]
  rcases y4Z WW (fun a : y6 => (List.length a : Int)) (fun a n => Ya (a, n)) (step := zG (fun x2 => some x2.2) (fun x3 => some x3)) (fun x2 => some x2.2) (fun x3 => some x3) l (by omega) (fun a => by exact Int.natCast_nonneg _) (fun a ha n h0 h1 => y6I a (hm a ha) n h0 h1) hs hd (n - l.length) (by omega) (by omega) with ⟨r, e⟩ | ⟨r, r0, r1, e⟩
  ·rw [e]
   exact ⟨-1, rfl, .inl (by omega)⟩
  ·rw [e]
   exact ⟨r, rfl, .inr ⟨r0, by omega⟩⟩
theorem ynA (a : wK) (hl : List.length a.2 ≤ maxLen) (n : Int) (hn0 : 0 ≤ n) (hn1 : n ≤ 1048576) : ybP n (List.length a.2 : Nat) (jH (a.1, a.2, n)) := by
 obtain ⟨r, hr, hc⟩ := y6I a.2 hl n hn0 hn1
 unfold jH
 simp only [hr, Option.bind_some, Bool.cond_eq_ite, decide_eq_true_eq]
 rcases hc with hc | ⟨h0, h1⟩
 ·rw [if_pos hc]
  exact ⟨-1, rfl, .inl (by omega)⟩
 ·rw [if_neg (by omega)]
  exact ⟨r, rfl, .inr ⟨h0, h1⟩⟩
theorem yj7 (l : List wK) (hl : l.length ≤ maxLen) (hm : ∀ a ∈ l, List.length a.2 ≤ maxLen) (n : Int) (hn0 : 0 ≤ n) (hn1 : n ≤ 1048576) : ybP n ((l.length : Int) + z9 (fun a : wK => (List.length a.2 : Int)) l) (wy (l, n)) := by
 simp only [maxLen] at hl
 unfold wy y18
 simp only [Bool.cond_eq_ite, decide_eq_true_eq]
 rw [w64 (n := n - l.length) (by omega) (by omega)]
 by_cases h : n - (l.length : Int) < 0
 ·rw [if_pos h]
  exact ⟨-1, rfl, .inl (by omega)⟩
 ·rw [if_neg h]
  have hs : ∀ again (n i r : Int), 0 ≤ i → i < (l.length : Int) → jH ((l.getD i.toNat yfw).1, (l.getD i.toNat yfw).2, n) = some r → YJ (fun x2 => some x2.2) (fun x3 => some x3) again (l, n, i) = if r < 0 then some (-1 : Int) else again (l, r, i + 1) := by
   intro again n i r h0 h1 hr
   unfold YJ
   have hw : Go.IntKind.wrap .i64 (i + 1) = i + 1 := w64 (by omega) (by omega)
   have hr' : jH ((y38 l i).1, (y38 l i).2, n) = some r := hr
   simp only [Bool.cond_eq_ite, decide_eq_true_eq, h0, h1, if_true, hw, hr', Option.bind_some]
  have hd : ∀ again (n i : Int), ¬ i < (l.length : Int) → YJ (fun x2 => some x2.2) (fun x3 => some x3) again (l, n, i) = some n := by
   intro again n i hi
   unfold YJ
   simp only [Bool.cond_eq_ite, decide_eq_true_eq, if_neg hi]
  rcases y4Z yfw (fun a : wK => (List.length a.2 : Int)) (fun a n => jH (a.1, a.2, n)) (step := YJ (fun x2 => some x2.2) (fun x3 => some x3)) (fun x2 => some x2.2) (fun x3 => some x3) l (by omega) (fun a => by exact Int.natCast_nonneg _) (fun a ha n h0 h1 => ynA a (hm a ha) n h0 h1) hs hd (n - l.length) (by omega) (by omega) with ⟨r, e⟩ | ⟨r, r0, r1, e⟩
  ·rw [e]
   exact ⟨-1, rfl, .inl (by omega)⟩
  ·rw [e]
   exact ⟨r, rfl, .inr ⟨r0, by omega⟩⟩
def QT (a : y6) : Int := (List.length a : Int)
def ygJ (a : wK) : Int := (List.length a.2 : Int)
def VC (s : List y6) (c : List wK) : Prop := s.length ≤ 1048576 ∧ c.length ≤ 1048576 ∧ z9 QT s ≤ 1048576 ∧ z9 ygJ c ≤ 1048576
theorem ws (a : y6) : 0 ≤ QT a := Int.natCast_nonneg _
theorem VD (a : wK) : 0 ≤ ygJ a := Int.natCast_nonneg _
theorem y5f {s : List y6} (h : z9 QT s ≤ 1048576) {a : y6} (ha : a ∈ s) : List.length a ≤ 1048576 := by
 have h4 := (y0R ws ha).1
 have h5 : QT a = (List.length a : Int) := rfl
 omega
theorem y92 {c : List wK} (h : z9 ygJ c ≤ 1048576) {a : wK} (ha : a ∈ c) : List.length a.2 ≤ 1048576 := by
 have h4 := (y0R VD ha).1
 have h5 : ygJ a = (List.length a.2 : Int) := rfl
 omega
theorem yj8 (s : List y6) (c : List wK) (z : Int) (b : Bool) (hs : s.length ≤ maxLen) (hss : ∀ a ∈ s, List.length a ≤ maxLen) (hc : c.length ≤ maxLen) (hcc : ∀ a ∈ c, List.length a.2 ≤ maxLen) :
  wz (s, c, z, b, 1048576) = some (-1) ∨ ∃ r, wz (s, c, z, b, 1048576) = some r ∧ 0 ≤ r ∧ r ≤ 1048576 ∧ VC s c := by
 have w1 := yI ws s
 have w2 := yI VD c
 have e1 : z9 (fun a : y6 => (List.length a : Int)) s = z9 QT s := rfl
 have e2 : z9 (fun a : wK => (List.length a.2 : Int)) c = z9 ygJ c := rfl
 unfold wz
 rcases y53 _ _ _ (fun r1 => Option.bind (wy (c, r1)) fun r2 => bif (decide (r2 < (0 : Int))) then some (-1 : Int) else some r2) (yc0 s hs hss 1048576 (by omega) (by omega)) with h | ⟨h0, h⟩
 ·exact .inl h
 ·rw [e1] at h0 h
  rcases y53 _ _ _ (fun r2 => some r2) (yj7 c hc hcc (1048576 - ((s.length : Int) + z9 QT s)) h0 (by omega)) with h' | ⟨h0', h'⟩
  ·exact .inl (h.trans h')
  ·rw [e2] at h0' h'
   exact .inr ⟨_, h.trans h', h0', by omega, by omega, by omega, by omega, by omega⟩
theorem yc1 (l : List y6) (hl : l.length ≤ 1048576) (hm : ∀ a ∈ l, zt a = some a) : jI l = some l := by
 unfold jI qQ
 rw [if_pos (by omega), if_pos (Int.le_refl _), if_pos (by omega)]
 refine WN WW (fun x => some x) l (by omega) ?_ ?_ _ (by simp)
 ·intro again i o h0 h1 h2
  unfold Jd
  have hw : Go.IntKind.wrap .i64 (i + 1) = i + 1 := w64 (by omega) (by omega)
  have h3 : i < (o.length : Int) := by omega
  have e : zt (zh l i) = some (zh l i) := hm _ (yN WW l i h0 h1)
  simp only [Bool.cond_eq_ite, decide_eq_true_eq, h0, h1, h3, if_true, hw, e, Option.bind_some]
  rfl
 ·intro again i o hi
  unfold Jd
  simp only [Bool.cond_eq_ite, decide_eq_true_eq, if_neg hi]
theorem yj9 (l : List wK) (hl : l.length ≤ 1048576) (hm : ∀ a ∈ l, zt a.2 = some a.2) : Kj l = some l := by
 unfold Kj y19
 rw [if_pos (by omega), if_pos (Int.le_refl _), if_pos (by omega)]
 refine WN yfw (fun x => some x) l (by omega) ?_ ?_ _ (by simp)
 ·intro again i o h0 h1 h2
  unfold K8
  have hw : Go.IntKind.wrap .i64 (i + 1) = i + 1 := w64 (by omega) (by omega)
  have h3 : i < (o.length : Int) := by omega
  have e : zt (y38 l i).2 = some (y38 l i).2 := hm _ (yN yfw l i h0 h1)
  simp only [Bool.cond_eq_ite, decide_eq_true_eq, h0, h1, h3, if_true, hw, Qb, e, Option.bind_some]
  rfl
 ·intro again i o hi
  unfold K8
  simp only [Bool.cond_eq_ite, decide_eq_true_eq, if_neg hi]
theorem yja (s : List y6) (c : List wK) (z : Int) (b : Bool) (h : VC s c) : Kl (s, c, z, b) = some (s, c, z, b) := by
 obtain ⟨h1, h2, h3, h4⟩ := h
 unfold Kl
 simp only [yc1 s h1 fun a ha => y6H a (Nat.le_trans (y5f h3 ha) (by decide)), yj9 c h2 fun a ha => y6H a.2 (Nat.le_trans (y92 h4 ha) (by decide)), Option.bind_some]
theorem y93 (l : List y6) (hl : l.length ≤ 1048576) (hm : ∀ a ∈ l, zs (a, a) = some true) : jx (l, l) = some true := by
 unfold jx qF
 simp only [bne_self_eq_false, cond_false]
 refine Qe (fun _ => some true) l (by omega) ?_ ?_
 ·intro again i h0 h1
  unfold J9
  have hw : Go.IntKind.wrap .i64 (i + 1) = i + 1 := w64 (by omega) (by omega)
  have e : zs (zh l i, zh l i) = some true := hm _ (yN WW l i h0 h1)
  simp only [Bool.cond_eq_ite, decide_eq_true_eq, h0, h1, if_true, hw, e, Option.bind_some, bne_self_eq_false, beq_self_eq_true, Bool.not_true, Bool.false_eq_true, if_false]
 ·intro again i hi
  unfold J9
  simp only [Bool.cond_eq_ite, decide_eq_true_eq, if_neg hi]
theorem yeq (l : List yQ) (hl : l.length ≤ 1048576) (hm : ∀ a ∈ l, zs (a.2, a.2) = some true) : Kh (l, l) = some true := by
 unfold Kh y17
 simp only [bne_self_eq_false, cond_false]
 refine Qe (fun _ => some true) l (by omega) ?_ ?_
 ·intro again i h0 h1
  unfold K7
  have hw : Go.IntKind.wrap .i64 (i + 1) = i + 1 := w64 (by omega) (by omega)
  have e : zs ((yV l i).2, (yV l i).2) = some true := hm _ (yN y22 l i h0 h1)
  simp only [Bool.cond_eq_ite, decide_eq_true_eq, h0, h1, if_true, hw, Qa, e, Option.bind_some, bne_self_eq_false, beq_self_eq_true, Bool.not_true, Bool.false_eq_true, if_false]
 ·intro again i hi
  unfold K7
  simp only [Bool.cond_eq_ite, decide_eq_true_eq, if_neg hi]
theorem yer (s : List y6) (c : List wK) (z : Int) (b : Bool) (h : VC s c) : Ki (s, c, z, b, s, c, z, b) = some true := by
 obtain ⟨h1, h2, h3, h4⟩ := h
 unfold Ki
 simp only [y93 s h1 fun a ha => y3g a (Nat.le_trans (y5f h3 ha) (by decide)), yeq c h2 fun a ha => y3g a.2 (Nat.le_trans (y92 h4 ha) (by decide)), Option.bind_some, Bool.not_true, cond_false, bne_self_eq_false, beq_self_eq_true]
def yes (_ : Int) (a : y6) : Bool := decide ((List.length a : Int) > 80)
def yas (n : Int) (_ : Int) (w : yQ) : Bool := !inR w.1 0 (n - 1) || decide ((List.length w.2 : Int) > 80)
def yet (s : List y6) (c : List yQ) (z : Int) : Bool := !zN yes s 0 && (!zN (yas s.length) c 0 && ((inR s.length 1 60 && decide ((c.length : Int) ≤ 60)) && inR z (-1) 1000))
theorem y94 (s : List y6) (c : List yQ) (z : Int) (b : Bool) (hs : s.length ≤ 1048576) (hc : c.length ≤ 1048576) : Kn (s, c, z, b) = some (yet s c z) := by
 have hw1 : Go.IntKind.wrap .i64 ((s.length : Int) - 1) = (s.length : Int) - 1 := w64 (by omega) (by omega)
 unfold Kn y1c
 refine (zc (step := JI _ _) (fun i => (i, s, c, z, b)) yes (some false) (some (!zN (yas s.length) c 0 && ((inR s.length 1 60 && decide ((c.length : Int) ≤ 60)) && inR z (-1) 1000))) WW s (by omega) ?_ ?_).trans ?_
 ·intro again i h0 h1
  unfold JI yes
  have hw : Go.IntKind.wrap .i64 (i + 1) = i + 1 := w64 (by omega) (by omega)
  simp only [Bool.cond_eq_ite, decide_eq_true_eq, h0, h1, if_true, hw]
  rfl
 ·intro again i hi
  unfold JI
  simp only [Bool.cond_eq_ite, decide_eq_true_eq, if_neg hi]
  unfold y1d
  refine (zc (step := JJ _ _) (fun i => (i, s, c, z, b)) (yas s.length) (some false) (some ((inR s.length 1 60 && decide ((c.length : Int) ≤ 60)) && inR z (-1) 1000)) y22 c (by omega) ?_ ?_).trans ?_
  ·intro again i h0 h1
   unfold JJ yas
   have hw : Go.IntKind.wrap .i64 (i + 1) = i + 1 := w64 (by omega) (by omega)
   simp only [Bool.cond_eq_ite, decide_eq_true_eq, h0, h1, if_true, hw, hw1, ZH, Option.bind_some]
   show Option.bind (if (!inR (c.getD i.toNat y22).1 0 ((s.length : Int) - 1)) = true then some true else some (decide ((List.length (c.getD i.toNat y22).2 : Int) > 80))) _ = _
   cases inR (c.getD i.toNat y22).1 0 ((s.length : Int) - 1) <;> rfl
  ·intro again i hi
   unfold JJ
   simp only [Bool.cond_eq_ite, decide_eq_true_eq, if_neg hi, ZH, Option.bind_some]
   cases inR s.length 1 60
   ·rfl
   ·by_cases h6 : (c.length : Int) ≤ 60
    ·simp [h6]
    ·simp [h6]
  ·cases zN (yas s.length) c 0 <;> rfl
 ·unfold yet
  cases zN yes s 0 <;> rfl
theorem vw (s : List y6) (c : List yQ) (z : Int) (b : Bool) (hs : s.length ≤ 1048576) (hc : c.length ≤ 1048576) : Zr (s, c, z, b) = some (yet s c z) := by
 have hw1 : Go.IntKind.wrap .i64 ((s.length : Int) - 1) = (s.length : Int) - 1 := w64 (by omega) (by omega)
 have hL : qs (fun x5 => some x5.1) (fun x6 => Vx (fun x9 => some x9) (fun x10 => some true) (x6.2.1, ((List.length x6.2.1 : Nat) : Int), (0 : Int), x6.1, x6.2.1, x6.2.2.1, x6.2.2.2)) (s, ((List.length s : Nat) : Int), (0 : Int), s, c, z, b) = some (!zN yes s 0 && !zN (yas s.length) c 0) := by
  unfold qs
  refine (zc (step := JS _ _) (fun i => (s, (s.length : Int), i, s, c, z, b)) yes (some false) (some (!zN (yas s.length) c 0)) WW s (by omega) ?_ ?_).trans ?_
  ·intro again i h0 h1
   unfold JS yes
   have hw : Go.IntKind.wrap .i64 (i + 1) = i + 1 := w64 (by omega) (by omega)
   simp only [Bool.cond_eq_ite, decide_eq_true_eq, h0, h1, if_true, hw]
   rfl
  ·intro again i hi
   unfold JS
   simp only [Bool.cond_eq_ite, decide_eq_true_eq, if_neg hi]
   unfold Vx
   refine (zc (step := J1 _ _) (fun i => (c, (c.length : Int), i, s, c, z, b)) (yas s.length) (some false) (some true) y22 c (by omega) ?_ ?_).trans ?_
   ·intro again i h0 h1
    unfold J1 yas
    have hw : Go.IntKind.wrap .i64 (i + 1) = i + 1 := w64 (by omega) (by omega)
    simp only [Bool.cond_eq_ite, decide_eq_true_eq, h0, h1, if_true, hw, hw1, zV, Option.bind_some]
    show Option.bind (if (!inR (c.getD i.toNat y22).1 0 ((s.length : Int) - 1)) = true then some true else some (decide ((List.length (c.getD i.toNat y22).2 : Int) > 80))) _ = _
    cases inR (c.getD i.toNat y22).1 0 ((s.length : Int) - 1) <;> rfl
   ·intro again i hi
    unfold J1
    simp only [Bool.cond_eq_ite, decide_eq_true_eq, if_neg hi]
   ·cases zN (yas s.length) c 0 <;> rfl
  ·cases zN yes s 0 <;> rfl
 unfold Zr
 simp only [hL, zV, Option.bind_some]
 unfold yet
 cases inR s.length 1 60
 ·cases zN yes s 0 <;> cases zN (yas s.length) c 0 <;> rfl
 ·by_cases h6 : (c.length : Int) ≤ 60
  ·have h7 : ¬ (c.length : Int) > 60 := by omega
   simp only [h6, h7, decide_true, decide_false, Bool.not_true, cond_false, cond_true, Option.bind_some]
   cases inR z (-1) 1000
   ·cases zN yes s 0 <;> cases zN (yas s.length) c 0 <;> rfl
   ·cases zN yes s 0 <;> cases zN (yas s.length) c 0 <;> rfl
  ·have h7 : (c.length : Int) > 60 := by omega
   simp only [h6, h7, decide_true, decide_false, Bool.not_true, cond_false, cond_true, Option.bind_some]
   cases zN yes s 0 <;> cases zN (yas s.length) c 0 <;> rfl
end Go.Proofs.YtmapoakbdgpamaaGreat.Pl
namespace Go.Proofs.YtmapoakbdgpamaaGreat.Pl
open Go.Proofs.YtmapoakbdgpamaaGreat.R Go.Proofs.YtmapoakbdgpamaaGreat.XQ
theorem Ka {T A R : Type} {step : (T → Option R) → T → Option R} (da : A) (l : List A) (St0 : Int → T) (St1 : Int → List A → T) (k0 : Option R) (k1 : List A → Option R) (hl : l.length ≤ 1099511627776)
  (h0 : ∀ again i, 0 ≤ i → i < ((List.length l : Nat) : Int) → step again (St0 i) = again (St1 (i + 1) [l.getD i.toNat da]))
  (h1 : ∀ again i o, 0 ≤ i → i < ((List.length l : Nat) : Int) → List.length o ≤ List.length l → step again (St1 i o) = again (St1 (i + 1) (o ++ [l.getD i.toNat da])))
  (hd0 : ∀ again i, ¬ i < ((List.length l : Nat) : Int) → step again (St0 i) = k0)
  (hd1 : ∀ again i o, ¬ i < ((List.length l : Nat) : Int) → step again (St1 i o) = k1 o) : yS step z3 (St0 0) = if l.length = 0 then k0 else k1 l := by
 have key : ∀ (m : Nat) (i : Int), 0 ≤ i → i ≤ l.length → l.length - i.toNat < m → yS step m (St1 i (l.take i.toNat)) = k1 l := by
  intro m
  induction m with
  | zero => intro i _ _ h; omega
  | succ m ih =>
   intro i i0 i1 hm
   rw [yS]
   by_cases hi : i < ((List.length l : Nat) : Int)
   ·have e1 : (i + 1).toNat = i.toNat + 1 := by omega
    have e2 : l.take i.toNat ++ [l.getD i.toNat da] = l.take (i + 1).toNat := by
     rw [e1, List.take_succ_eq_append_getElem (by omega), y8T da l i i0 hi]
    rw [h1 _ i _ i0 hi (by rw [List.length_take]; omega), e2]
    exact ih (i + 1) (by omega) (by omega) (by omega)
   ·rw [hd1 _ i _ hi, List.take_of_length_le (by omega)]
 have hF : z3 = (z3 - 1) + 1 := by
  have := Ku
  omega
 rw [hF, yS]
 by_cases h : l.length = 0
 ·rw [if_pos h, hd0 _ 0 (by omega)]
 ·rw [if_neg h, h0 _ 0 (Int.le_refl _) (by omega)]
  have e : [l.getD (0 : Int).toNat da] = l.take (0 + 1 : Int).toNat := by
   cases l with
   | nil => simp at h
   | cons a l => rfl
  rw [e]
  exact key _ _ (by omega) (by omega) (by
   have := Ku
   omega)
theorem J6 (a : List Int) (h : a.length ≤ 2097152) : yH [a] = some a := by
 have hF : z3 = (z3 - 2) + 1 + 1 := by
  have := Ku
  omega
 unfold yH Vu
 rw [hF]
 have s0 : ∀ again, z8 (fun x1 => some x1) again ([a], (1 : Int), (0 : Int), ([] : List z0)) = again ([a], 1, 1, a) := by
  intro again
  unfold z8
  have hw : Go.IntKind.wrap .i64 (0 + 1) = 1 := w64 (by omega) (by omega)
  have hr : zh [a] 0 = a := rfl
  simp only [hw, hr, List.length_nil, List.length_cons, List.nil_append]
  rw [if_pos (by omega), if_pos (by omega), if_pos (by omega)]
  rfl
 have s1 : ∀ again, z8 (fun x1 => some x1) again ([a], (1 : Int), (1 : Int), a) = some a := by
  intro again
  unfold z8
  rfl
 rw [show ((List.length [a] : Nat) : Int) = 1 from rfl, yS, s0, yS, s1]
theorem yh6 {A : Type} (a : A) (k : Nat) (h : k < 140737488355328) : List.length [a] * k < 140737488355328 := by
 simp only [List.length_cons, List.length_nil]
 omega
end Go.Proofs.YtmapoakbdgpamaaGreat.Pl
namespace Go.Proofs.YtmapoakbdgpamaaGreat.Pl
open Go.Proofs.YtmapoakbdgpamaaGreat.R Go.Proofs.YtmapoakbdgpamaaGreat.XQ
def mkS (a : y6) (k : Int) : y6 := mkB k (List.length a)
theorem y95 (l : List y6) (k : Int) (h0 : 0 ≤ k) (hl : l.length ≤ 1048576) (hk : k + z9 QT l ≤ wd) : YQ (l, k) = some (k + z9 QT l, yZ mkS QT l k) := by
 unfold YQ vV
 refine WO WW mkS QT ws (fun _ => True) (fun x2 => some (x2.1, x2.2)) wd ?_ ?_ l k h0 (by omega) hk (fun _ _ => trivial)
 ·intro again k i l h0 h1 hk hM hl _
  unfold Zz
  have hb : QT (l.getD i.toNat WW) = (List.length (l.getD i.toNat WW) : Int) := rfl
  unfold wd at hM
  have hw : Go.IntKind.wrap .i64 (i + 1) = i + 1 := w64 (by omega) (by omega)
  have he : zz ((zh l i), k) = some (k + QT (l.getD i.toNat WW), mkS (l.getD i.toNat WW) k) := y3b (l.getD i.toNat WW) k hk (by omega) (by omega)
  simp only [Bool.cond_eq_ite, decide_eq_true_eq, h0, h1, if_true, hw, he, Option.bind_some]
 ·intro again k i l hi
  unfold Zz
  simp only [Bool.cond_eq_ite, decide_eq_true_eq, if_neg hi]
theorem y96 (l : List y6) (k : Int) (h0 : 0 ≤ k) (hl : l.length ≤ 1048576) (hk : k + z9 QT l ≤ wd) : YW (yZ mkS QT l k, k) = some (k + z9 QT l) := by
 unfold YW vW
 refine Vy WW mkS QT ws (fun x => some x) wd ?_ ?_ l k h0 (by omega) hk
 ·intro again l k i a h0 h1 hk hM hl he
  unfold ZA
  have hb : QT a = (List.length a : Int) := rfl
  unfold wd at hM
  have hw : Go.IntKind.wrap .i64 (i + 1) = i + 1 := w64 (by omega) (by omega)
  have hr : zh l i = mkB k (List.length a) := he
  have hn : ¬ (k + QT a < 0) := by omega
  have h2 : zA (zh l i, k) = some (k + QT a) := by rw [hr]; exact y3c k (List.length a) hk (by omega) (by omega)
  simp only [Bool.cond_eq_ite, decide_eq_true_eq, h0, h1, if_true, hw, h2, hn, if_false, Option.bind_some]
 ·intro again l k i hi
  unfold ZA
  simp only [Bool.cond_eq_ite, decide_eq_true_eq, if_neg hi]
def y2i (a : yQ) : Int := 1 + ygJ a
theorem Qm (a : yQ) : 0 ≤ y2i a := by
 have := VD a
 unfold y2i
 omega
def mkW (a : yQ) (k : Int) : yQ := (k, mkB (k + 1) (List.length a.2))
theorem y97 (l : List yQ) : z9 y2i l = l.length + z9 ygJ l := by
 induction l with
 | nil => rfl
 | cons a l ih =>
  rw [zm, zm, ih]
  unfold y2i
  simp only [List.length_cons]
  omega
theorem yeu (l : List yQ) (k : Int) (h0 : 0 ≤ k) (hl : l.length ≤ 1048576) (hk : k + z9 y2i l ≤ wd) : Jq (l, k) = some (k + z9 y2i l, yZ mkW y2i l k) := by
 unfold Jq Qt
 refine WO y22 mkW y2i Qm (fun _ => True) (fun x2 => some (x2.1, x2.2)) wd ?_ ?_ l k h0 (by omega) hk (fun _ _ => trivial)
 ·intro again k i l h0 h1 hk hM hl _
  unfold JY
  have hb : y2i (l.getD i.toNat y22) = 1 + (List.length (l.getD i.toNat y22).2 : Int) := rfl
  unfold wd at hM
  have hw : Go.IntKind.wrap .i64 (i + 1) = i + 1 := w64 (by omega) (by omega)
  have hw2 : Go.IntKind.wrap .i64 (k + 1) = k + 1 := w64 (by omega) (by omega)
  have hr : ∀ v : yQ, yV (l.set i.toNat v) i = v := fun v => y6C y22 l i v h0 h1
  have he : zz ((yV l i).2, k + 1) = some (k + y2i (l.getD i.toNat y22), mkB (k + 1) (List.length (l.getD i.toNat y22).2)) := by
   refine (y3b (l.getD i.toNat y22).2 (k + 1) (by omega) (by omega) (by omega)).trans ?_
   rw [hb, Int.add_assoc]
  simp only [Bool.cond_eq_ite, decide_eq_true_eq, h0, h1, if_true, hw, hw2, hr, he, Option.bind_some, List.length_set, List.set_set, mkW]
 ·intro again k i l hi
  unfold JY
  simp only [Bool.cond_eq_ite, decide_eq_true_eq, if_neg hi]
theorem yev (l : List yQ) (k : Int) (h0 : 0 ≤ k) (hl : l.length ≤ 1048576) (hk : k + z9 y2i l ≤ wd) : Js (yZ mkW y2i l k, k) = some (k + z9 y2i l) := by
 unfold Js Qu
 refine Vy y22 mkW y2i Qm (fun x => some x) wd ?_ ?_ l k h0 (by omega) hk
 ·intro again l k i a h0 h1 hk hM hl he
  unfold JZ
  have hb : y2i a = 1 + (List.length a.2 : Int) := rfl
  unfold wd at hM
  have hw : Go.IntKind.wrap .i64 (i + 1) = i + 1 := w64 (by omega) (by omega)
  have hw2 : Go.IntKind.wrap .i64 (k + 1) = k + 1 := w64 (by omega) (by omega)
  have hr : yV l i = (k, mkB (k + 1) (List.length a.2)) := he
  have hn : ¬ (k + y2i a < 0) := by omega
  have h2 : zA (mkB (k + 1) (List.length a.2), k + 1) = some (k + y2i a) := by
   refine (y3c (k + 1) (List.length a.2) (by omega) (by omega) (by omega)).trans ?_
   rw [hb, Int.add_assoc]
  simp only [Bool.cond_eq_ite, decide_eq_true_eq, h0, h1, if_true, hw, hw2, hr, h2, hn, if_false, Option.bind_some, bne_self_eq_false, Bool.false_eq_true]
 ·intro again l k i hi
  unfold JZ
  simp only [Bool.cond_eq_ite, decide_eq_true_eq, if_neg hi]
theorem yew (s : List y6) (c : List yQ) (z : Int) (b : Bool) (h : VC s c) : Jr (s, c, z, b, 1) = some (1 + z9 QT s + z9 y2i c, yZ mkS QT s 1, yZ mkW y2i c (1 + z9 QT s)) := by
 obtain ⟨h1, h2, h3, h4⟩ := h
 have w1 := yI ws s
 have w2 := yI VD c
 unfold Jr
 simp only [y95 s 1 (by omega) h1 (by unfold wd; omega), yeu c (1 + z9 QT s) (by omega) h2 (by rw [y97]; unfold wd; omega), Option.bind_some]
theorem yex (s : List y6) (c : List yQ) (z : Int) (b : Bool) (h : VC s c) : Jt (yZ mkS QT s 1, yZ mkW y2i c (1 + z9 QT s), z, b, 1) = some (1 + z9 QT s + z9 y2i c) := by
 obtain ⟨h1, h2, h3, h4⟩ := h
 have w1 := yI ws s
 have w2 := yI VD c
 have w3 := yI Qm c
 unfold Jt
 simp only [y96 s 1 (by omega) h1 (by unfold wd; omega), yev c (1 + z9 QT s) (by omega) h2 (by rw [y97]; unfold wd; omega), Option.bind_some]
 rw [decide_eq_false (show ¬ (1 + z9 QT s < 0) by omega), decide_eq_false (show ¬ (1 + z9 QT s + z9 y2i c < 0) by omega)]
 rfl
end Go.Proofs.YtmapoakbdgpamaaGreat.Pl
namespace Go.Proofs.YtmapoakbdgpamaaGreat.Pl
open Go.Proofs.YtmapoakbdgpamaaGreat.R Go.Proofs.YtmapoakbdgpamaaGreat.XQ
theorem y0U {s : List y6} (h : z9 QT s ≤ 1048576) {i : Int} (h0 : 0 ≤ i) (h1 : i < ((List.length s : Nat) : Int)) : List.length (zh s i) ≤ 1048576 := y5f h (yN WW s i h0 h1)
theorem jd {c : List yQ} (h : z9 ygJ c ≤ 1048576) {i : Int} (h0 : 0 ≤ i) (h1 : i < ((List.length c : Nat) : Int)) : List.length (yV c i).2 ≤ 1048576 := y92 h (yN y22 c i h0 h1)
theorem yey {R : Type} (k0 : List y6 × List yQ × Int × Bool × Int × Bool × Int × Bool → Option R) (k1 : List y6 × List yQ × Int × Bool × Int × Bool × Int × Bool × List y6 → Option R) (s : List y6) (c : List yQ) (z : Int) (b : Bool) (h : VC s c) :
  V5 k0 k1 (Sum.inl (0, s, c, z, b, 0, false, z, b)) = if s.length = 0 then k0 (s, c, z, b, 0, false, z, b) else k1 (s, c, z, b, 0, false, z, b, s) := by
 obtain ⟨b1, b2, b3, b4⟩ := h
 unfold V5
 refine Ka (step := Yj k0 k1) WW s (fun i => Sum.inl (i, s, c, z, b, 0, false, z, b)) (fun i o => Sum.inr (i, s, c, z, b, 0, false, z, b, o)) _ (fun o => k1 (s, c, z, b, 0, false, z, b, o)) (by omega) ?_ ?_ ?_ ?_
 ·intro again i h0 h1
  have hw : Go.IntKind.wrap .i64 (i + 1) = i + 1 := w64 (by omega) (by omega)
  have hr := y0U b3 h0 h1
  simp only [Yj, Bool.cond_eq_ite, decide_eq_true_eq, h0, h1, if_true, hw]
  rw [if_pos (by simp only [List.length_nil]; omega), if_pos (yh6 _ _ (by decide))]
  rfl
 ·intro again i o h0 h1 h2
  have hw : Go.IntKind.wrap .i64 (i + 1) = i + 1 := w64 (by omega) (by omega)
  have hr := y0U b3 h0 h1
  simp only [Yj, Bool.cond_eq_ite, decide_eq_true_eq, h0, h1, if_true, hw]
  rw [if_pos (by simp only [List.length_nil]; omega), if_pos (by simp only [List.length_cons, List.length_nil]; omega)]
  rfl
 ·intro again i hi
  simp only [Yj, Bool.cond_eq_ite, decide_eq_true_eq, if_neg hi]
 ·intro again i o hi
  simp only [Yj, Bool.cond_eq_ite, decide_eq_true_eq, if_neg hi]
theorem yc2 {R : Type} (k0 : Int × Bool × Int × Bool → Option R) (k1 : Int × Bool × Int × Bool × List yQ → Option R) (k2 : Int × Bool × Int × Bool × List y6 → Option R) (k3 : Int × Bool × Int × Bool × List y6 × List yQ → Option R) (s : List y6) (c : List yQ) (z : Int) (b : Bool) (h : VC s c) :
  YX k0 k1 k2 k3 (Sum.inl (0, s, c, z, b, 0, false, z, b)) = if c.length = 0 then k0 (0, false, z, b) else k1 (0, false, z, b, c) := by
 obtain ⟨b1, b2, b3, b4⟩ := h
 unfold YX
 refine Ka (step := z7 k0 k1 k2 k3) y22 c (fun i => Sum.inl (i, s, c, z, b, 0, false, z, b)) (fun i o => Sum.inr (Sum.inl (i, s, c, z, b, 0, false, z, b, o))) _ (fun o => k1 (0, false, z, b, o)) (by omega) ?_ ?_ ?_ ?_
 ·intro again i h0 h1
  have hw : Go.IntKind.wrap .i64 (i + 1) = i + 1 := w64 (by omega) (by omega)
  have hr := jd b4 h0 h1
  simp only [z7, Bool.cond_eq_ite, decide_eq_true_eq, h0, h1, if_true, hw]
  rw [if_pos (by simp only [List.length_nil]; omega), if_pos (yh6 _ _ (by decide))]
  rfl
 ·intro again i o h0 h1 h2
  have hw : Go.IntKind.wrap .i64 (i + 1) = i + 1 := w64 (by omega) (by omega)
  have hr := jd b4 h0 h1
  simp only [z7, Bool.cond_eq_ite, decide_eq_true_eq, h0, h1, if_true, hw]
  rw [if_pos (by simp only [List.length_nil]; omega), if_pos (by simp only [List.length_cons, List.length_nil]; omega)]
  rfl
 ·intro again i hi
  simp only [z7, Bool.cond_eq_ite, decide_eq_true_eq, if_neg hi]
 ·intro again i o hi
  simp only [z7, Bool.cond_eq_ite, decide_eq_true_eq, if_neg hi]
theorem yc3 {R : Type} (k0 : Int × Bool × Int × Bool → Option R) (k1 : Int × Bool × Int × Bool × List yQ → Option R) (k2 : Int × Bool × Int × Bool × List y6 → Option R) (k3 : Int × Bool × Int × Bool × List y6 × List yQ → Option R) (s o : List y6) (c : List yQ) (z : Int) (b : Bool) (h : VC s c) :
  YX k0 k1 k2 k3 (Sum.inr (Sum.inr (Sum.inl (0, s, c, z, b, 0, false, z, b, o)))) = if c.length = 0 then k2 (0, false, z, b, o) else k3 (0, false, z, b, o, c) := by
 obtain ⟨b1, b2, b3, b4⟩ := h
 unfold YX
 refine Ka (step := z7 k0 k1 k2 k3) y22 c (fun i => Sum.inr (Sum.inr (Sum.inl (i, s, c, z, b, 0, false, z, b, o)))) (fun i o' => Sum.inr (Sum.inr (Sum.inr (i, s, c, z, b, 0, false, z, b, o, o')))) _ (fun o' => k3 (0, false, z, b, o, o')) (by omega) ?_ ?_ ?_ ?_
 ·intro again i h0 h1
  have hw : Go.IntKind.wrap .i64 (i + 1) = i + 1 := w64 (by omega) (by omega)
  have hr := jd b4 h0 h1
  simp only [z7, Bool.cond_eq_ite, decide_eq_true_eq, h0, h1, if_true, hw]
  rw [if_pos (by simp only [List.length_nil]; omega), if_pos (yh6 _ _ (by decide))]
  rfl
 ·intro again i o' h0 h1 h2
  have hw : Go.IntKind.wrap .i64 (i + 1) = i + 1 := w64 (by omega) (by omega)
  have hr := jd b4 h0 h1
  simp only [z7, Bool.cond_eq_ite, decide_eq_true_eq, h0, h1, if_true, hw]
  rw [if_pos (by simp only [List.length_nil]; omega), if_pos (by simp only [List.length_cons, List.length_nil]; omega)]
  rfl
 ·intro again i hi
  simp only [z7, Bool.cond_eq_ite, decide_eq_true_eq, if_neg hi]
 ·intro again i o' hi
  simp only [z7, Bool.cond_eq_ite, decide_eq_true_eq, if_neg hi]
theorem y5T (s : List y6) (c : List yQ) (z : Int) (b : Bool) (h : VC s c) : We (s, c, z, b) = some (s, c, z, b) := by
 unfold We
 rw [yey _ _ s c z b h]
 cases s with
 | nil =>
  rw [if_pos (show List.length ([] : List y6) = 0 from rfl)]
  simp only [yc2 _ _ _ _ _ c z b h]
  cases c with
  | nil => rfl
  | cons w c => rw [if_neg (show ¬ List.length (w :: c) = 0 from by simp)]
 | cons a s =>
  rw [if_neg (show ¬ List.length (a :: s) = 0 from by simp)]
  simp only [yc3 _ _ _ _ _ _ c z b h]
  cases c with
  | nil => rfl
  | cons w c => rw [if_neg (show ¬ List.length (w :: c) = 0 from by simp)]
theorem yez {R : Type} (k0 : List y6 × List yQ × Int × Bool × Int × Bool × Int × Bool → Option R) (k1 : List y6 × List yQ × Int × Bool × Int × Bool × Int × Bool × List y6 → Option R) (s : List y6) (c : List yQ) (z : Int) (b : Bool) (h : VC s c) :
  KY k0 k1 (Sum.inl (s, ((List.length s : Nat) : Int), 0, s, c, z, b, 0, false, z, b)) = if s.length = 0 then k0 (s, c, z, b, 0, false, z, b) else k1 (s, c, z, b, 0, false, z, b, s) := by
 obtain ⟨b1, b2, b3, b4⟩ := h
 unfold KY
 refine Ka (step := Y1 k0 k1) WW s (fun i => Sum.inl (s, ((List.length s : Nat) : Int), i, s, c, z, b, 0, false, z, b)) (fun i o => Sum.inr (s, ((List.length s : Nat) : Int), i, s, c, z, b, 0, false, z, b, o)) _ (fun o => k1 (s, c, z, b, 0, false, z, b, o)) (by omega) ?_ ?_ ?_ ?_
 ·intro again i h0 h1
  have hw : Go.IntKind.wrap .i64 (i + 1) = i + 1 := w64 (by omega) (by omega)
  have hr := y0U b3 h0 h1
  simp only [Y1, Bool.cond_eq_ite, decide_eq_true_eq, h0, h1, if_true, hw, J6 (zh s i) (by omega), Option.bind_some]
  rw [if_pos (yh6 _ _ (by decide))]
  rfl
 ·intro again i o h0 h1 h2
  have hw : Go.IntKind.wrap .i64 (i + 1) = i + 1 := w64 (by omega) (by omega)
  have hr := y0U b3 h0 h1
  simp only [Y1, Bool.cond_eq_ite, decide_eq_true_eq, h0, h1, if_true, hw, J6 (zh s i) (by omega), Option.bind_some]
  rw [if_pos (by simp only [List.length_cons, List.length_nil]; omega)]
  rfl
 ·intro again i hi
  simp only [Y1, Bool.cond_eq_ite, decide_eq_true_eq, if_neg hi]
 ·intro again i o hi
  simp only [Y1, Bool.cond_eq_ite, decide_eq_true_eq, if_neg hi]
theorem yc4 {R : Type} (k0 : Int × Bool × Int × Bool → Option R) (k1 : Int × Bool × Int × Bool × List yQ → Option R) (k2 : Int × Bool × Int × Bool × List y6 → Option R) (k3 : Int × Bool × Int × Bool × List y6 × List yQ → Option R) (c : List yQ) (z : Int) (b : Bool) (b2 : c.length ≤ 1048576) (b4 : z9 ygJ c ≤ 1048576) :
  Yw k0 k1 k2 k3 (Sum.inl (c, ((List.length c : Nat) : Int), 0, 0, false, z, b)) = if c.length = 0 then k0 (0, false, z, b) else k1 (0, false, z, b, c) := by
 unfold Yw
 refine Ka (step := yX k0 k1 k2 k3) y22 c (fun i => Sum.inl (c, ((List.length c : Nat) : Int), i, 0, false, z, b)) (fun i o => Sum.inr (Sum.inl (c, ((List.length c : Nat) : Int), i, 0, false, z, b, o))) _ (fun o => k1 (0, false, z, b, o)) (by omega) ?_ ?_ ?_ ?_
 ·intro again i h0 h1
  have hw : Go.IntKind.wrap .i64 (i + 1) = i + 1 := w64 (by omega) (by omega)
  have hr := jd b4 h0 h1
  simp only [yX, Bool.cond_eq_ite, decide_eq_true_eq, h0, h1, if_true, hw, J6 (yV c i).2 (by omega), Option.bind_some]
  rw [if_pos (yh6 _ _ (by decide))]
  rfl
 ·intro again i o h0 h1 h2
  have hw : Go.IntKind.wrap .i64 (i + 1) = i + 1 := w64 (by omega) (by omega)
  have hr := jd b4 h0 h1
  simp only [yX, Bool.cond_eq_ite, decide_eq_true_eq, h0, h1, if_true, hw, J6 (yV c i).2 (by omega), Option.bind_some]
  rw [if_pos (by simp only [List.length_cons, List.length_nil]; omega)]
  rfl
 ·intro again i hi
  simp only [yX, Bool.cond_eq_ite, decide_eq_true_eq, if_neg hi]
 ·intro again i o hi
  simp only [yX, Bool.cond_eq_ite, decide_eq_true_eq, if_neg hi]
theorem yc5 {R : Type} (k0 : Int × Bool × Int × Bool → Option R) (k1 : Int × Bool × Int × Bool × List yQ → Option R) (k2 : Int × Bool × Int × Bool × List y6 → Option R) (k3 : Int × Bool × Int × Bool × List y6 × List yQ → Option R) (o : List y6) (c : List yQ) (z : Int) (b : Bool) (b2 : c.length ≤ 1048576) (b4 : z9 ygJ c ≤ 1048576) :
  Yw k0 k1 k2 k3 (Sum.inr (Sum.inr (Sum.inl (c, ((List.length c : Nat) : Int), 0, 0, false, z, b, o)))) = if c.length = 0 then k2 (0, false, z, b, o) else k3 (0, false, z, b, o, c) := by
 unfold Yw
 refine Ka (step := yX k0 k1 k2 k3) y22 c (fun i => Sum.inr (Sum.inr (Sum.inl (c, ((List.length c : Nat) : Int), i, 0, false, z, b, o)))) (fun i o' => Sum.inr (Sum.inr (Sum.inr (c, ((List.length c : Nat) : Int), i, 0, false, z, b, o, o')))) _ (fun o' => k3 (0, false, z, b, o, o')) (by omega) ?_ ?_ ?_ ?_
 ·intro again i h0 h1
  have hw : Go.IntKind.wrap .i64 (i + 1) = i + 1 := w64 (by omega) (by omega)
  have hr := jd b4 h0 h1
  simp only [yX, Bool.cond_eq_ite, decide_eq_true_eq, h0, h1, if_true, hw, J6 (yV c i).2 (by omega), Option.bind_some]
  rw [if_pos (yh6 _ _ (by decide))]
  rfl
 ·intro again i o' h0 h1 h2
  have hw : Go.IntKind.wrap .i64 (i + 1) = i + 1 := w64 (by omega) (by omega)
  have hr := jd b4 h0 h1
  simp only [yX, Bool.cond_eq_ite, decide_eq_true_eq, h0, h1, if_true, hw, J6 (yV c i).2 (by omega), Option.bind_some]
  rw [if_pos (by simp only [List.length_cons, List.length_nil]; omega)]
  rfl
 ·intro again i hi
  simp only [yX, Bool.cond_eq_ite, decide_eq_true_eq, if_neg hi]
 ·intro again i o' hi
  simp only [yX, Bool.cond_eq_ite, decide_eq_true_eq, if_neg hi]
theorem WR (s : List y6) (c : List yQ) (z : Int) (b : Bool) (h : VC s c) : Yc (s, c, z, b) = some (s, c, z, b) := by
 unfold Yc
 rw [yez _ _ s c z b h]
 cases s with
 | nil =>
  rw [if_pos (show List.length ([] : List y6) = 0 from rfl)]
  simp only [yc4 _ _ _ _ c z b h.2.1 h.2.2.2]
  cases c with
  | nil => rfl
  | cons w c => rw [if_neg (show ¬ List.length (w :: c) = 0 from by simp)]
 | cons a s =>
  rw [if_neg (show ¬ List.length (a :: s) = 0 from by simp)]
  simp only [yc5 _ _ _ _ _ c z b h.2.1 h.2.2.2]
  cases c with
  | nil => rfl
  | cons w c => rw [if_neg (show ¬ List.length (w :: c) = 0 from by simp)]
def y3x (s : List y6) (c : List yQ) (z : Int) : Prop := (∀ a ∈ s, List.length a ≤ 80) ∧ (∀ w ∈ c, 0 ≤ w.1 ∧ w.1 ≤ (s.length : Int) - 1 ∧ List.length w.2 ≤ 80) ∧ 1 ≤ s.length ∧ s.length ≤ 60 ∧ c.length ≤ 60 ∧ -1 ≤ z ∧ z ≤ 1000
theorem y98 {A : Type} (p : Int → A → Bool) (hp : ∀ i j a, p i a = p j a) : ∀ (l : List A) (i : Int), zN p l i = false ↔ ∀ a ∈ l, p 0 a = false
 | [], i => by simp [zN]
 | b :: l, i => by
  rw [zN, Bool.or_eq_false_iff, y98 p hp l (i + 1), hp i 0 b]
  simp
theorem y2e (s : List y6) (c : List yQ) (z : Int) : yet s c z = true ↔ y3x s c z := by
 unfold yet y3x
 simp only [Bool.and_eq_true, Bool.not_eq_true', Zk, decide_eq_true_eq]
 rw [y98 yes (fun _ _ _ => rfl), y98 (yas s.length) (fun _ _ _ => rfl)]
 constructor
 ·rintro ⟨h1, h2, ⟨h3, h4⟩, h5⟩
  refine ⟨fun a ha => ?_, fun w hw => ?_, by omega, by omega, by omega, by omega, by omega⟩
  ·have := of_decide_eq_false (h1 a ha)
   omega
  ·have h := h2 w hw
   unfold yas at h
   rw [Bool.or_eq_false_iff, Bool.not_eq_false', Zk] at h
   have := of_decide_eq_false h.2
   exact ⟨h.1.1, h.1.2, by omega⟩
 ·rintro ⟨h1, h2, h3, h4, h5, h6, h7⟩
  refine ⟨fun a ha => decide_eq_false (by have := h1 a ha; omega), fun w hw => ?_, ⟨⟨by omega, by omega⟩, by omega⟩, by omega, by omega⟩
  have h := h2 w hw
  unfold yas
  rw [Bool.or_eq_false_iff, Bool.not_eq_false', Zk]
  exact ⟨⟨h.1, h.2.1⟩, decide_eq_false (by omega)⟩
theorem yc6 {A : Type} (w : A → Int) (m : Int) : ∀ (l : List A), (∀ a ∈ l, w a ≤ m) → z9 w l ≤ m * l.length
 | [], _ => by simp [z9]
 | a :: l, h => by
  have h1 := yc6 w m l fun b hb => h b (by simp [hb])
  have h2 := h a (by simp)
  rw [zm, List.length_cons]
  have e : m * ((l.length + 1 : Nat) : Int) = m * l.length + m := by
   rw [Int.natCast_add, Int.mul_add]
   simp
  omega
theorem qY {s : List y6} {c : List yQ} {z : Int} (h : y3x s c z) : VC s c := by
 obtain ⟨h1, h2, h3, h4, h5, h6, h7⟩ := h
 have e1 := yc6 QT 80 s fun a ha => by
  have := h1 a ha
  show (List.length a : Int) ≤ 80
  omega
 have e2 := yc6 ygJ 80 c fun w hw => by
  have := (h2 w hw).2.2
  show (List.length w.2 : Int) ≤ 80
  omega
 exact ⟨by omega, by omega, by omega, by omega⟩
def wrK (s : List y6) (t : List yQ × Int × Bool) (n : Int) (p : List Int) : List yQ × Int × Bool :=
 if t.2.2 = true then t else if inR n 0 ((s.length : Int) - 1) = false then t else if (p.length : Int) > 80 then t else if (t.1.length : Int) ≥ 60 then t
 else if t.2.1 = 0 then (t.1, -1, true) else (t.1 ++ [(n, p)], if t.2.1 > 0 then t.2.1 - 1 else t.2.1, t.2.2)
theorem QM (s : List y6) (c : List yQ) (z : Int) (b : Bool) (n : Int) (p : List Int) (h : y3x s c z) : Yn (s, c, z, b, n, p) = some (s, wrK s (c, z, b) n p) := by
 have hsm := qY h
 have hk := (y2e s c z).2 h
 obtain ⟨h1, h2, h3, h4, h5, h6, h7⟩ := h
 have hw : Go.IntKind.wrap .i64 ((s.length : Int) - 1) = (s.length : Int) - 1 := w64 (by omega) (by omega)
 have hw2 : Go.IntKind.wrap .i64 (z - 1) = z - 1 := w64 (by omega) (by omega)
 unfold Yn wrK
 simp only [hw, zV, Option.bind_some, WR s c z b hsm, vw s c z b (by omega) (by omega), hk, Bool.not_true, cond_false]
 cases b with
 | true => rfl
 | false =>
  rw [if_neg (by simp)]
  cases hin : inR n 0 ((s.length : Int) - 1) with
  | false => rfl
  | true =>
   rw [if_neg (by simp)]
   by_cases a1 : (p.length : Int) > 80
   ·rw [if_pos a1, decide_eq_true a1]
    rfl
   ·rw [if_neg a1, decide_eq_false a1]
    by_cases a2 : (c.length : Int) ≥ 60
    ·rw [if_pos a2, show (((List.length c : Nat) : Int) == 60) = true from by simp; omega]
     rfl
    ·rw [if_neg a2, show (((List.length c : Nat) : Int) == 60) = false from by simp; omega]
     unfold kX
     simp only [Bool.not_true, cond_false, Option.bind_some, hw2]
     by_cases a3 : z = 0
     ·subst a3
      rfl
     ·rw [if_neg a3, show (z == 0) = false from by simpa using a3, cond_false]
      have g2 : (c.length + List.length ([(n, p)] : List yQ)) * 32 < 140737488355328 := by
       simp only [List.length_cons, List.length_nil]
       omega
      by_cases a4 : z > 0
      ·rw [if_pos a4, decide_eq_true a4]
       simp only [cond_true, Option.bind_some, J6 p (by omega)]
       rw [if_pos g2]
      ·rw [if_neg a4, decide_eq_false a4]
       simp only [cond_false, cond_true, Option.bind_some, J6 p (by omega)]
       rw [if_pos g2]
theorem ydl (s : List y6) (c : List yQ) (z : Int) (b : Bool) (n : Int) (p : List Int) (h : y3x s c z) : y3x s (wrK s (c, z, b) n p).1 (wrK s (c, z, b) n p).2.1 := by
 unfold wrK
 cases b with
 | true => exact h
 | false =>
  rw [if_neg (by simp)]
  cases hin : inR n 0 ((s.length : Int) - 1) with
  | false => exact h
  | true =>
   rw [if_neg (by simp)]
   by_cases a1 : (p.length : Int) > 80
   ·rw [if_pos a1]
    exact h
   ·rw [if_neg a1]
    by_cases a2 : (c.length : Int) ≥ 60
    ·rw [if_pos a2]
     exact h
    ·rw [if_neg a2]
     obtain ⟨h1, h2, h3, h4, h5, h6, h7⟩ := h
     by_cases a3 : z = 0
     ·rw [if_pos a3]
      exact ⟨h1, h2, h3, h4, h5, by simp, by simp⟩
     ·rw [if_neg a3]
      have hn := Zk.1 hin
      refine ⟨h1, ?_, h3, h4, ?_, ?_, ?_⟩
      ·intro w hw
       simp only [List.mem_append, List.mem_singleton] at hw
       rcases hw with hw | rfl
       ·exact h2 w hw
       ·exact ⟨hn.1, hn.2, by simp only; omega⟩
      ·simp only [List.length_append, List.length_cons, List.length_nil]
       omega
      ·simp only
       split <;> omega
      ·simp only
       split <;> omega
def y99 (p : List Int) (i : Int) : Int := if (p.length : Int) < (i + 1) * 70 then p.length else (i + 1) * 70
def yeA (p : List Int) (i : Int) : List Int := List.drop (i * 70).toNat (List.take (y99 p i).toNat p)
def y9a (s : List y6) (side : Int) (p : List Int) : Nat → Int → List yQ × Int × Bool → List yQ × Int × Bool
 | 0, _, t => t
 | m + 1, i, t => if i * 70 < (p.length : Int) then y9a s side p m (i + 1) (wrK s t (8 + side * 24 + i) (yeA p i)) else t
theorem ydm (s : List y6) (side : Int) (p : List Int) (m : Nat) (i : Int) (t : List yQ × Int × Bool) (h : ¬ i * 70 < (p.length : Int)) : y9a s side p m i t = t := by
 cases m with
 | zero => rfl
 | succ m => rw [y9a, if_neg h]
theorem ygK (s : List y6) (side : Int) (p : List Int) : ∀ (m : Nat) (i : Int) (t : List yQ × Int × Bool), y3x s t.1 t.2.1 → y3x s (y9a s side p m i t).1 (y9a s side p m i t).2.1
 | 0, _, _, h => h
 | m + 1, i, t, h => by
  rw [y9a]
  split
  ·exact ygK s side p m (i + 1) _ (ydl s t.1 t.2.1 t.2.2 _ _ h)
  ·exact h
theorem y5U (side i : Int) (h : inR side 0 1 = true) (h0 : 0 ≤ i) (h1 : i ≤ 23) : Jh (side, i) = some (8 + side * 24 + i) := by
 have hs := Zk.1 h
 unfold Jh
 simp only [ZH, h, Zk.2 ⟨h0, h1⟩, Option.bind_some, Bool.not_true, cond_false]
 rw [w64 (n := side * 24) (by omega) (by omega), w64 (n := 8 + side * 24) (by omega) (by omega), w64 (by omega) (by omega)]
theorem y5V (side i : Int) (h : inR side 0 1 = true) (h0 : 0 ≤ i) (h1 : i ≤ 23) : WL (side, i) = some (8 + side * 24 + i) := by
 have hs := Zk.1 h
 unfold WL
 simp only [zV, h, Zk.2 ⟨h0, h1⟩, Option.bind_some, Bool.not_true, cond_false]
 rw [w64 (n := side * 24) (by omega) (by omega), w64 (n := 8 + side * 24) (by omega) (by omega), w64 (by omega) (by omega)]
def ygL (s : List y6) (c : List yQ) (z : Int) (b : Bool) (side : Int) (p : List Int) : List y6 × List yQ × Int × Bool := if (yet s c z && (inR side 0 1 && decide ((p.length : Int) ≤ 1680))) = true then (s, y9a s side p 24 0 (c, z, b)) else (s, c, z, b)
theorem y9b {R : Type} (k : Int × Bool × Int × Bool × List y6 × List yQ → Option R) (s : List y6) (c : List yQ) (z : Int) (b : Bool) (side : Int) (p : List Int) (h : y3x s c z) (hside : inR side 0 1 = true) (hp : p.length ≤ 1680) :
  wq k (side, p, 0, 0, false, z, b, s, c) = k (0, false, (y9a s side p 24 0 (c, z, b)).2.1, (y9a s side p 24 0 (c, z, b)).2.2, s, (y9a s side p 24 0 (c, z, b)).1) := by
 unfold wq
 refine zU (step := ZG k) (fun t : Int × List Int × Int × Int × Bool × Int × Bool × List y6 × List yQ => 24 - t.2.2.1.toNat) (fun t => t.1 = side ∧ t.2.1 = p ∧ 0 ≤ t.2.2.1 ∧ t.2.2.1 ≤ 24 ∧ t.2.2.2.1 = 0 ∧ t.2.2.2.2.1 = false ∧ t.2.2.2.2.2.2.2.1 = s ∧ y3x s t.2.2.2.2.2.2.2.2 t.2.2.2.2.2.1) (fun t => k (0, false, (y9a s side p (24 - t.2.2.1.toNat) t.2.2.1 (t.2.2.2.2.2.2.2.2, t.2.2.2.2.2.1, t.2.2.2.2.2.2.1)).2.1, (y9a s side p (24 - t.2.2.1.toNat) t.2.2.1 (t.2.2.2.2.2.2.2.2, t.2.2.2.2.2.1, t.2.2.2.2.2.2.1)).2.2, s, (y9a s side p (24 - t.2.2.1.toNat) t.2.2.1 (t.2.2.2.2.2.2.2.2, t.2.2.2.2.2.1, t.2.2.2.2.2.2.1)).1)) ?_ (side, p, 0, 0, false, z, b, s, c) ⟨rfl, rfl, Int.le_refl _, by simp, rfl, rfl, rfl, h⟩ (by simp)
 rintro again ⟨side', p', i, y, f, z', b', s', c'⟩ ⟨a1, a2, i0, i1, a4, a5, a3, hd⟩ hag
 simp only at a1 a2 i0 i1 a3 a4 a5 hd ⊢
 subst a1 a2 a3 a4 a5
 have w1 : Go.IntKind.wrap .i64 (i * 70) = i * 70 := w64 (by omega) (by omega)
 have w2 : Go.IntKind.wrap .i64 (i + 1) = i + 1 := w64 (by omega) (by omega)
 have w3 : Go.IntKind.wrap .i64 ((i + 1) * 70) = (i + 1) * 70 := w64 (by omega) (by omega)
 unfold ZG
 simp only [w1, w2, w3]
 by_cases hi : i * 70 < (p'.length : Int)
 ·have e1 : 24 - i.toNat = (24 - (i + 1).toNat) + 1 := by omega
  have hE : (if (p'.length : Int) < (i + 1) * 70 then (p'.length : Int) else (i + 1) * 70) = y99 p' i := rfl
  have hE1 : i * 70 ≤ y99 p' i := by
   unfold y99
   split <;> omega
  have hE2 : y99 p' i ≤ (p'.length : Int) := by
   unfold y99
   split <;> omega
  rw [decide_eq_true hi, cond_true, e1, y9a, if_pos hi, y5V side' i hside i0 (by omega)]
  simp only [Option.bind_some, hE]
  rw [if_pos (by omega), if_pos hE1, if_pos hE2, show List.drop (i * 70).toNat (List.take (y99 p' i).toNat p') = yeA p' i from rfl, QM s' c' z' b' _ _ hd]
  exact hag _ ⟨rfl, rfl, by simp only; omega, by simp only; omega, rfl, rfl, rfl, ydl s' c' z' b' _ _ hd⟩ (by simp only; omega)
 ·rw [decide_eq_false hi, cond_false, ydm _ _ _ _ _ _ hi]
theorem y2f (s : List y6) (c : List yQ) (z : Int) (b : Bool) (side : Int) (p : List Int) (h : VC s c) : Zj (s, c, z, b, side, p) = some (ygL s c z b side p) := by
 unfold Zj ygL
 simp only [WR s c z b h, vw s c z b h.1 h.2.1, zV, Option.bind_some]
 cases hd : yet s c z with
 | false => rfl
 | true =>
  by_cases hp : (p.length : Int) ≤ 1680
  ·rw [decide_eq_false (show ¬ (p.length : Int) > 1680 by omega), decide_eq_true hp]
   cases hin : inR side 0 1 with
   | false => rfl
   | true =>
    simp only [cond_false, Option.bind_some, Bool.not_true, Bool.and_true, if_true, y9b _ s c z b side p ((y2e s c z).1 hd) hin (by omega)]
  ·rw [decide_eq_true (show (p.length : Int) > 1680 by omega), decide_eq_false hp]
   simp
end Go.Proofs.YtmapoakbdgpamaaGreat.Pl
namespace Go.Proofs.YtmapoakbdgpamaaGreat.Pl
open Go.Proofs.YtmapoakbdgpamaaGreat.R Go.Proofs.YtmapoakbdgpamaaGreat.XQ
theorem y6J {T A S R : Type} {step : (T → Option R) → T → Option R} (da : A) (g : S → A → S) (l : List A) (St0 St1 : Int → S → T) (k : S → Option R) (I : S → Prop) (hl : l.length ≤ 1099511627776)
  (h0 : ∀ again i s, 0 ≤ i → i < ((List.length l : Nat) : Int) → I s → step again (St0 i s) = again (St1 (i + 1) (g s (l.getD i.toNat da))))
  (h1 : ∀ again i s, 0 ≤ i → i < ((List.length l : Nat) : Int) → I s → step again (St1 i s) = again (St1 (i + 1) (g s (l.getD i.toNat da))))
  (hI : ∀ s a, I s → a ∈ l → I (g s a))
  (hd0 : ∀ again i s, ¬ i < ((List.length l : Nat) : Int) → step again (St0 i s) = k s) (hd1 : ∀ again i s, ¬ i < ((List.length l : Nat) : Int) → step again (St1 i s) = k s) (s : S) (hs : I s) : yS step z3 (St0 0 s) = k (l.foldl g s) := by
 have key : ∀ (n : Nat) (i : Int) (s : S), 0 ≤ i → i ≤ l.length → I s → l.length - i.toNat < n → yS step n (St1 i s) = k ((l.drop i.toNat).foldl g s) := by
  intro n
  induction n with
  | zero => intro i s _ _ _ hn; omega
  | succ n ih =>
   intro i s i0 i1 hs hn
   rw [yS]
   by_cases hi : i < ((List.length l : Nat) : Int)
   ·rw [h1 _ i s i0 hi hs, ih (i + 1) _ (by omega) (by omega) (hI s _ hs (yN da l i i0 hi)) (by omega), Yo da l i i0 hi, List.foldl_cons]
   ·rw [hd1 _ i s hi, List.drop_of_length_le (by omega)]
    rfl
 have hF : z3 = (z3 - 1) + 1 := by
  have := Ku
  omega
 rw [hF, yS]
 by_cases h : (0 : Int) < ((List.length l : Nat) : Int)
 ·rw [h0 _ 0 s (Int.le_refl _) h hs, key _ _ _ (by omega) (by omega) (hI s _ hs (yN da l 0 (Int.le_refl _) h)) (by
   have := Ku
   omega)]
  congr 1
  have := Yo da l 0 (Int.le_refl _) h
  rw [show l.drop (0 : Int).toNat = l from rfl] at this
  conv => rhs; rw [this, List.foldl_cons]
 ·rw [hd0 _ 0 s h]
  have : l = [] := List.length_eq_zero_iff.1 (by omega)
  subst this
  rfl
def y0I (s : List y6) (w : yQ) : List y6 := s.set w.1.toNat w.2
def flK (s : List y6) (c : List yQ) (z : Int) (b : Bool) : List y6 × List yQ × Int × Bool :=
 if b = true then (s, c, z, b) else if z = 0 then (s, c, -1, true) else (c.foldl y0I s, [], if z > 0 then z - 1 else z, b)
theorem ydn (P : y6 → Prop) : ∀ (c : List yQ) (s : List y6), (∀ a ∈ s, P a) → (∀ w ∈ c, P w.2) → (∀ a ∈ c.foldl y0I s, P a) ∧ (c.foldl y0I s).length = s.length
 | [], s, hs, _ => ⟨hs, rfl⟩
 | w :: c, s, hs, hc => by
  have ih := ydn P c (y0I s w) (fun a ha => (List.mem_or_eq_of_mem_set ha).elim (hs a) fun e => e ▸ hc w (by simp)) (fun v hv => hc v (by simp [hv]))
  rw [List.foldl_cons]
  exact ⟨ih.1, ih.2.trans (by simp [y0I])⟩
theorem ydo (s : List y6) (c : List yQ) (z : Int) (b : Bool) (h : y3x s c z) : y3x (flK s c z b).1 (flK s c z b).2.1 (flK s c z b).2.2.1 := by
 unfold flK
 split
 ·exact h
 ·obtain ⟨h1, h2, h3, h4, h5, h6, h7⟩ := h
  split
  ·exact ⟨h1, h2, h3, h4, h5, by simp, by simp⟩
  ·have hp := ydn (fun a => List.length a ≤ 80) c s h1 (fun w hw => (h2 w hw).2.2)
   refine ⟨hp.1, by simp, ?_, ?_, by simp, ?_, ?_⟩
   ·simp only [hp.2]
    exact h3
   ·simp only [hp.2]
    exact h4
   ·simp only
    split <;> omega
   ·simp only
    split <;> omega
theorem v6 (s : List y6) (c : List yQ) (z : Int) (b : Bool) (h : y3x s c z) : zw (s, c, z, b) = some (flK s c z b) := by
 have hsm := qY h
 have hk := (y2e s c z).2 h
 obtain ⟨h1, h2, h3, h4, h5, h6, h7⟩ := h
 have hw2 : Go.IntKind.wrap .i64 (z - 1) = z - 1 := w64 (by omega) (by omega)
 have hloop : ∀ z' : Int, kZ (fun x7 => some (x7.2.2.2.2.1, ([] : List yQ), x7.2.2.1, x7.2.2.2.1)) (fun x8 => some (x8.2.2.2.2.2, ([] : List yQ), x8.2.2.2.1, x8.2.2.2.2.1)) (Sum.inl (((List.length c : Nat) : Int), (0 : Int), (0 : Int), false, z', false, c, s)) = some (c.foldl y0I s, ([] : List yQ), z', false) := by
  intro z'
  unfold kZ
  refine y6J (step := zL _ _) y22 y0I c (fun i s' => Sum.inl (((List.length c : Nat) : Int), i, (0 : Int), false, z', false, c, s')) (fun i s' => Sum.inr (c, ((List.length c : Nat) : Int), i, (0 : Int), false, c, z', false, s')) (fun s' => some (s', ([] : List yQ), z', false)) (fun s' => s'.length = s.length) (by omega) ?_ ?_ ?_ ?_ ?_ s rfl
  ·intro again i s' i0 i1 hl
   have hw : Go.IntKind.wrap .i64 (i + 1) = i + 1 := w64 (by omega) (by omega)
   have hr := jd hsm.2.2.2 i0 i1
   have hn := h2 _ (yN y22 c i i0 i1)
   have hn1 : (yV c i).1 < ((List.length s' : Nat) : Int) := by
    have : (yV c i).1 ≤ (s.length : Int) - 1 := hn.2.1
    omega
   have hn0 : 0 ≤ (yV c i).1 := hn.1
   simp only [zL, Bool.cond_eq_ite, decide_eq_true_eq, i0, i1, if_true, hw, J6 (yV c i).2 (by omega), Option.bind_some, hn0, hn1]
   rfl
  ·intro again i s' i0 i1 hl
   have hw : Go.IntKind.wrap .i64 (i + 1) = i + 1 := w64 (by omega) (by omega)
   have hr := jd hsm.2.2.2 i0 i1
   have hn := h2 _ (yN y22 c i i0 i1)
   have hn1 : (yV c i).1 < ((List.length s' : Nat) : Int) := by
    have : (yV c i).1 ≤ (s.length : Int) - 1 := hn.2.1
    omega
   have hn0 : 0 ≤ (yV c i).1 := hn.1
   simp only [zL, Bool.cond_eq_ite, decide_eq_true_eq, i0, i1, if_true, hw, J6 (yV c i).2 (by omega), Option.bind_some, hn0, hn1]
   rfl
  ·intro s' a hs' _
   simp only [y0I, List.length_set]
   exact hs'
  ·intro again i s' hi
   simp only [zL, Bool.cond_eq_ite, decide_eq_true_eq, if_neg hi]
  ·intro again i s' hi
   simp only [zL, Bool.cond_eq_ite, decide_eq_true_eq, if_neg hi]
 unfold zw flK
 simp only [WR s c z b hsm, vw s c z b (by omega) (by omega), hk, Option.bind_some, Bool.not_true, cond_false]
 cases b with
 | true => rfl
 | false =>
  rw [if_neg (show ¬ (false = true) by simp)]
  simp only [cond_false]
  unfold kX
  by_cases a3 : z = 0
  ·subst a3
   rfl
  ·rw [if_neg a3]
   simp only [show (z == 0) = false from by simpa using a3, cond_false]
   by_cases a4 : z > 0
   ·rw [if_pos a4]
    simp only [decide_eq_true a4, cond_true, Option.bind_some, Bool.not_true, cond_false, hw2]
    exact hloop (z - 1)
   ·rw [if_neg a4]
    simp only [decide_eq_false a4, cond_false, Option.bind_some, Bool.not_true]
    exact hloop z
section
variable (q : List yp) (t : List y7) (l : List yo) (cs : List yb) (vs : List yA) (nx gen bs sq : Int)
abbrev ST : Type := List y6 × List yQ × Int × Bool × List yp × List y7 × List yo × List yb × List yA × Int × Int × Int × Int
def VF (d : List y6 × List yQ × Int × Bool) : ST := (d.1, d.2.1, d.2.2.1, d.2.2.2, q, t, l, cs, vs, nx, gen, bs, sq)
theorem y0J (s : List y6) (c : List yQ) (z : Int) (b : Bool) (h : y3x s c z) : zd (s, c, z, b, q, t, l, cs, vs, nx, gen, bs, sq) = some (VF q t l cs vs nx gen bs sq (flK s c z b)) := by
 have hsm := qY h
 obtain ⟨h1, h2, h3, h4, h5, h6, h7⟩ := h
 have hw2 : Go.IntKind.wrap .i64 (z - 1) = z - 1 := w64 (by omega) (by omega)
 have hloop : ∀ z' : Int, ji (fun x2 => some (x2.2.2.2.2.2.2.1, ([] : List yQ), x2.1, x2.2.1, x2.2.2.2.2.2.2.2.2.1, x2.2.2.2.2.2.2.2.2.2.1, x2.2.2.2.2.2.2.2.2.2.2.1, x2.2.2.2.2.2.2.2.2.2.2.2.1, x2.2.2.2.2.2.2.2.2.2.2.2.2, x2.2.2.1, x2.2.2.2.1, x2.2.2.2.2.1, x2.2.2.2.2.2.1)) ((0 : Int), z', false, nx, gen, bs, sq, s, c, q, t, l, cs, vs) = some (c.foldl y0I s, ([] : List yQ), z', false, q, t, l, cs, vs, nx, gen, bs, sq) := by
  intro z'
  unfold ji
  refine y6J (step := za _) y22 y0I c (fun i s' => (i, z', false, nx, gen, bs, sq, s', c, q, t, l, cs, vs)) (fun i s' => (i, z', false, nx, gen, bs, sq, s', c, q, t, l, cs, vs)) (fun s' => some (s', ([] : List yQ), z', false, q, t, l, cs, vs, nx, gen, bs, sq)) (fun s' => s'.length = s.length) (by omega) ?_ ?_ ?_ ?_ ?_ s rfl
  ·intro again i s' i0 i1 hl
   have hw : Go.IntKind.wrap .i64 (i + 1) = i + 1 := w64 (by omega) (by omega)
   have hn := h2 _ (yN y22 c i i0 i1)
   have hn1 : (yV c i).1 < ((List.length s' : Nat) : Int) := by
    have : (yV c i).1 ≤ (s.length : Int) - 1 := hn.2.1
    omega
   have hn0 : 0 ≤ (yV c i).1 := hn.1
   unfold za
   simp only [Bool.cond_eq_ite, decide_eq_true_eq, i0, i1, if_true, hw, hn0, hn1]
   rfl
  ·intro again i s' i0 i1 hl
   have hw : Go.IntKind.wrap .i64 (i + 1) = i + 1 := w64 (by omega) (by omega)
   have hn := h2 _ (yN y22 c i i0 i1)
   have hn1 : (yV c i).1 < ((List.length s' : Nat) : Int) := by
    have : (yV c i).1 ≤ (s.length : Int) - 1 := hn.2.1
    omega
   have hn0 : 0 ≤ (yV c i).1 := hn.1
   unfold za
   simp only [Bool.cond_eq_ite, decide_eq_true_eq, i0, i1, if_true, hw, hn0, hn1]
   rfl
  ·intro s' a hs' _
   simp only [y0I, List.length_set]
   exact hs'
  ·intro again i s' hi
   unfold za
   simp only [Bool.cond_eq_ite, decide_eq_true_eq, if_neg hi]
  ·intro again i s' hi
   unfold za
   simp only [Bool.cond_eq_ite, decide_eq_true_eq, if_neg hi]
 unfold zd flK VF
 cases b with
 | true => rfl
 | false =>
  rw [if_neg (show ¬ (false = true) by simp)]
  simp only [cond_false]
  unfold Yd
  by_cases a3 : z = 0
  ·subst a3
   rfl
  ·rw [if_neg a3]
   simp only [show (z == 0) = false from by simpa using a3, cond_false]
   by_cases a4 : z > 0
   ·rw [if_pos a4]
    simp only [decide_eq_true a4, cond_true, Option.bind_some, Bool.not_true, cond_false, hw2]
    exact hloop (z - 1)
   ·rw [if_neg a4]
    simp only [decide_eq_false a4, cond_false, Option.bind_some, Bool.not_true]
    exact hloop z
end
end Go.Proofs.YtmapoakbdgpamaaGreat.Pl
namespace Go.Proofs.YtmapoakbdgpamaaGreat.Pl
open Go.Proofs.YtmapoakbdgpamaaGreat.R Go.Proofs.YtmapoakbdgpamaaGreat.XQ
def yat (n : y7) : Prop := List.length n ≤ 1048576 ∧ ∀ b ∈ (show List y9 from n), List.length b ≤ 1048576
theorem y1l (n : List y9) (h : yat n) : ZE n = some n := by
 have h1 : n.length ≤ 1048576 := h.1
 have e : ZE n = if n.length = 0 then some ([] : List y9) else some n := by
  unfold ZE y0g
  refine Ka (step := Yh _ _) yT n (fun i => Sum.inl (i, n)) (fun i o => Sum.inr (i, n, o)) _ (fun o => some o) (by omega) ?_ ?_ ?_ ?_
  ·intro again i i0 i1
   have hw : Go.IntKind.wrap .i64 (i + 1) = i + 1 := w64 (by omega) (by omega)
   have hr : List.length (yh n i) ≤ 1048576 := h.2 _ (yN yT n i i0 i1)
   simp only [Yh, Bool.cond_eq_ite, decide_eq_true_eq, i0, i1, if_true, hw]
   rw [if_pos (by simp only [List.length_nil]; omega), if_pos (yh6 _ _ (by decide))]
   rfl
  ·intro again i o i0 i1 i2
   have hw : Go.IntKind.wrap .i64 (i + 1) = i + 1 := w64 (by omega) (by omega)
   have hr : List.length (yh n i) ≤ 1048576 := h.2 _ (yN yT n i i0 i1)
   simp only [Yh, Bool.cond_eq_ite, decide_eq_true_eq, i0, i1, if_true, hw]
   rw [if_pos (by simp only [List.length_nil]; omega), if_pos (by simp only [List.length_cons, List.length_nil]; omega)]
   rfl
  ·intro again i hi
   simp only [Yh, Bool.cond_eq_ite, decide_eq_true_eq, if_neg hi]
  ·intro again i o hi
   simp only [Yh, Bool.cond_eq_ite, decide_eq_true_eq, if_neg hi]
 rw [e]
 split
 ·rename_i h0
  rw [List.length_eq_zero_iff.1 h0]
 ·rfl
theorem QN (l : List y8) (h : l.length ≤ 1048576) : zS l = some l := by
 unfold zS
 rw [if_pos (by simp only [List.length_nil]; omega)]
 rfl
theorem QO (n : List y9) (h : yat n) : Ym n = some n := by
 have h1 : n.length ≤ 1048576 := h.1
 have e : Ym n = if n.length = 0 then some ([] : List y9) else some n := by
  unfold Ym qW
  refine Ka (step := zJ _ _) yT n (fun i => Sum.inl (n, ((List.length n : Nat) : Int), i)) (fun i o => Sum.inr (n, ((List.length n : Nat) : Int), i, o)) _ (fun o => some o) (by omega) ?_ ?_ ?_ ?_
  ·intro again i i0 i1
   have hw : Go.IntKind.wrap .i64 (i + 1) = i + 1 := w64 (by omega) (by omega)
   have hr : List.length (yh n i) ≤ 1048576 := h.2 _ (yN yT n i i0 i1)
   simp only [zJ, Bool.cond_eq_ite, decide_eq_true_eq, i0, i1, if_true, hw, QN _ hr, Option.bind_some]
   rw [if_pos (yh6 _ _ (by decide))]
   rfl
  ·intro again i o i0 i1 i2
   have hw : Go.IntKind.wrap .i64 (i + 1) = i + 1 := w64 (by omega) (by omega)
   have hr : List.length (yh n i) ≤ 1048576 := h.2 _ (yN yT n i i0 i1)
   simp only [zJ, Bool.cond_eq_ite, decide_eq_true_eq, i0, i1, if_true, hw, QN _ hr, Option.bind_some]
   rw [if_pos (by simp only [List.length_cons, List.length_nil]; omega)]
   rfl
  ·intro again i hi
   simp only [zJ, Bool.cond_eq_ite, decide_eq_true_eq, if_neg hi]
  ·intro again i o hi
   simp only [zJ, Bool.cond_eq_ite, decide_eq_true_eq, if_neg hi]
 rw [e]
 split
 ·rename_i h0
  rw [List.length_eq_zero_iff.1 h0]
 ·rfl
theorem y5W (q : List yp) (t : List y7) (hq : q.length ≤ 1048576) (ht : t.length ≤ 1048576) (hn : ∀ n ∈ t, yat n) : Je (q, t) = some (q, t) := by
 have e : Je (q, t) = if t.length = 0 then some (q, ([] : List y7)) else some (q, t) := by
  unfold Je y0h
  simp only [List.length_nil, List.nil_append]
  rw [if_pos (by omega)]
  refine Ka (step := Yi _ _) zg t (fun i => Sum.inl (i, q, t, q)) (fun i o => Sum.inr (i, q, t, q, o)) _ (fun o => some (q, o)) (by omega) ?_ ?_ ?_ ?_
  ·intro again i i0 i1
   have hw : Go.IntKind.wrap .i64 (i + 1) = i + 1 := w64 (by omega) (by omega)
   have hr : yat (ym t i) := hn _ (yN zg t i i0 i1)
   simp only [Yi, Bool.cond_eq_ite, decide_eq_true_eq, i0, i1, if_true, hw, y1l _ hr, Option.bind_some]
   rw [if_pos (yh6 _ _ (by decide))]
   rfl
  ·intro again i o i0 i1 i2
   have hw : Go.IntKind.wrap .i64 (i + 1) = i + 1 := w64 (by omega) (by omega)
   have hr : yat (ym t i) := hn _ (yN zg t i i0 i1)
   simp only [Yi, Bool.cond_eq_ite, decide_eq_true_eq, i0, i1, if_true, hw, y1l _ hr, Option.bind_some]
   rw [if_pos (by simp only [List.length_cons, List.length_nil]; omega)]
   rfl
  ·intro again i hi
   simp only [Yi, Bool.cond_eq_ite, decide_eq_true_eq, if_neg hi]
  ·intro again i o hi
   simp only [Yi, Bool.cond_eq_ite, decide_eq_true_eq, if_neg hi]
 rw [e]
 split
 ·rename_i h0
  rw [List.length_eq_zero_iff.1 h0]
 ·rfl
theorem y3y (l : List yp) (h : l.length ≤ 1048576) : jZ l = some l := by
 unfold jZ
 rw [if_pos (by simp only [List.length_nil]; omega)]
 rfl
theorem y3z (q : List yp) (t : List y7) (hq : q.length ≤ 1048576) (ht : t.length ≤ 1048576) (hn : ∀ n ∈ t, yat n) : Zi (q, t) = some (q, t) := by
 have e : Zi (q, t) = if t.length = 0 then some (q, ([] : List y7)) else some (q, t) := by
  unfold Zi qX
  simp only [y3y q hq, Option.bind_some]
  refine Ka (step := zK _ _) zg t (fun i => Sum.inl (t, ((List.length t : Nat) : Int), i, q)) (fun i o => Sum.inr (t, ((List.length t : Nat) : Int), i, q, o)) _ (fun o => some (q, o)) (by omega) ?_ ?_ ?_ ?_
  ·intro again i i0 i1
   have hw : Go.IntKind.wrap .i64 (i + 1) = i + 1 := w64 (by omega) (by omega)
   have hr : yat (ym t i) := hn _ (yN zg t i i0 i1)
   simp only [zK, Bool.cond_eq_ite, decide_eq_true_eq, i0, i1, if_true, hw, QO _ hr, Option.bind_some]
   rw [if_pos (yh6 _ _ (by decide))]
   rfl
  ·intro again i o i0 i1 i2
   have hw : Go.IntKind.wrap .i64 (i + 1) = i + 1 := w64 (by omega) (by omega)
   have hr : yat (ym t i) := hn _ (yN zg t i i0 i1)
   simp only [zK, Bool.cond_eq_ite, decide_eq_true_eq, i0, i1, if_true, hw, QO _ hr, Option.bind_some]
   rw [if_pos (by simp only [List.length_cons, List.length_nil]; omega)]
   rfl
  ·intro again i hi
   simp only [zK, Bool.cond_eq_ite, decide_eq_true_eq, if_neg hi]
  ·intro again i o hi
   simp only [zK, Bool.cond_eq_ite, decide_eq_true_eq, if_neg hi]
 rw [e]
 split
 ·rename_i h0
  rw [List.length_eq_zero_iff.1 h0]
 ·rfl
theorem y5g (q : List yp) (t : List y7) (l : List yo) (cs : List yb) (vs : List yA) (z : Int) (h : y8W q t l cs vs) : Jz (q, t, l, cs, vs, z) = some (q, t, l, cs, vs, z) := by
 obtain ⟨h1, h2, h3, h4, h5, h6⟩ := h
 unfold Jz vq
 simp only [y5W q t h1 h2 (fun n hn => K1 h3 hn), Option.bind_some, List.length_nil, List.nil_append]
 rw [if_pos (by omega), if_pos (by omega)]
 simp only [Option.bind_some]
 rw [if_pos (by omega)]
theorem y3A (q : List yp) (t : List y7) (l : List yo) (cs : List yb) (vs : List yA) (z : Int) (h : y8W q t l cs vs) : J0 (q, t, l, cs, vs, z) = some (q, t, l, cs, vs, z) := by
 obtain ⟨h1, h2, h3, h4, h5, h6⟩ := h
 unfold J0 WK wc
 simp only [y3z q t h1 h2 (fun n hn => K1 h3 hn), Option.bind_some, List.length_nil, List.nil_append]
 rw [if_pos (by omega)]
 simp only [Option.bind_some]
 rw [if_pos (by omega)]
 simp only [Option.bind_some]
 rw [if_pos (by omega)]
end Go.Proofs.YtmapoakbdgpamaaGreat.Pl
namespace Go.Proofs.YtmapoakbdgpamaaGreat.Pl
open Go.Proofs.YtmapoakbdgpamaaGreat.R Go.Proofs.YtmapoakbdgpamaaGreat.XQ
theorem zx {A : Type} (m : Int) : ∀ (l : List A), z9 (fun _ => m) l = m * l.length
 | [] => by simp [z9]
 | a :: l => by
  rw [zm, zx m l, List.length_cons]
  rw [show ((l.length + 1 : Nat) : Int) = (l.length : Int) + 1 from by omega, Int.mul_add]
  omega
theorem ydp {A : Type} (w v : A → Int) (m : Int) (h : ∀ a, w a ≤ m * v a) : ∀ (l : List A), z9 w l ≤ m * z9 v l
 | [] => by simp [z9]
 | a :: l => by
  have := ydp w v m h l
  have := h a
  rw [zm, zm, Int.mul_add]
  omega
noncomputable def y6K (_ : yp) (k : Int) : yp := k
theorem yc7 (l : List yp) (k : Int) (h0 : 0 ≤ k) (hl : l.length ≤ 1048576) (hk : k + 1 * l.length ≤ wd) : jy (l, k) = some (k + z9 (fun _ : yp => (1 : Int)) l, yZ y6K (fun _ => 1) l k) := by
 unfold jy qG
 refine WO (step := YL (fun x1 => some (x1.1, x1.2))) yfs y6K (fun _ => 1) (fun _ => by omega) (fun _ => True) (fun x2 => some (x2.1, x2.2)) wd ?_ ?_ l k h0 (by omega) (by rw [zx]; exact hk) (fun _ _ => trivial)
 ·intro again k i l h0 h1 hk hM hl _
  unfold wd at hM
  have hr : ∀ v : yp, zy (l.set i.toNat v) i = v := fun v => y6C yfs l i v h0 h1
  have wi := qe i (by omega) (by omega)
  have w1 := qe k (by omega) (by omega)
  unfold YL y6K
  simp only [Bool.cond_eq_ite, decide_eq_true_eq, h0, h1, if_true, wi, w1, hr, List.length_set, List.set_set]
 ·intro again k i l hi
  unfold YL
  simp only [Bool.cond_eq_ite, decide_eq_true_eq, if_neg hi]
theorem yc8 (l : List yp) (k : Int) (h0 : 0 ≤ k) (hl : l.length ≤ 1048576) (hk : k + 1 * l.length ≤ wd) : jC (yZ y6K (fun _ => 1) l k, k) = some (k + z9 (fun _ : yp => (1 : Int)) l) := by
 unfold jC qL
 refine Vy (step := YR (fun x1 => some x1.2) (fun x2 => some x2)) yfs y6K (fun _ => 1) (fun _ => by omega) (fun x2 => some x2) wd ?_ ?_ l k h0 (by omega) (by rw [zx]; exact hk)
 ·intro again l k i a h0 h1 hk hM hl he
  unfold wd at hM
  have hr : zy l i = k := he
  have wi := qe i (by omega) (by omega)
  have w1 := qe k (by omega) (by omega)
  unfold YR
  simp only [Bool.cond_eq_ite, decide_eq_true_eq, h0, h1, if_true, wi, w1, hr, bne_self_eq_false, beq_self_eq_true, Bool.not_true, Bool.false_eq_true, if_false]
 ·intro again l k i hi
  unfold YR
  simp only [Bool.cond_eq_ite, decide_eq_true_eq, if_neg hi]
noncomputable def y6L (_ : y8) (k : Int) : y8 := (k, k + 1, k + 2, k + 3, k + 4)
theorem yc9 (l : List y8) (k : Int) (h0 : 0 ≤ k) (hl : l.length ≤ 1048576) (hk : k + 5 * l.length ≤ wd) : YN (l, k) = some (k + z9 (fun _ : y8 => (5 : Int)) l, yZ y6L (fun _ => 5) l k) := by
 unfold YN qH
 refine WO (step := YM (fun x3 => some (x3.1, x3.2))) zv y6L (fun _ => 5) (fun _ => by omega) (fun _ => True) (fun x2 => some (x2.1, x2.2)) wd ?_ ?_ l k h0 (by omega) (by rw [zx]; exact hk) (fun _ _ => trivial)
 ·intro again k i l h0 h1 hk hM hl _
  unfold wd at hM
  have hr : ∀ v : y8, y0 (l.set i.toNat v) i = v := fun v => y6C zv l i v h0 h1
  have wi := qe i (by omega) (by omega)
  have w1 := qe k (by omega) (by omega)
  have w2 : Go.IntKind.wrap .i64 (k + 1 + 1) = k + 2 := (qe (k + 1) (by omega) (by omega)).trans (by omega)
  have w3 : Go.IntKind.wrap .i64 (k + 2 + 1) = k + 3 := (qe (k + 2) (by omega) (by omega)).trans (by omega)
  have w4 : Go.IntKind.wrap .i64 (k + 3 + 1) = k + 4 := (qe (k + 3) (by omega) (by omega)).trans (by omega)
  have w5 : Go.IntKind.wrap .i64 (k + 4 + 1) = k + 5 := (qe (k + 4) (by omega) (by omega)).trans (by omega)
  unfold YM y6L
  simp only [Bool.cond_eq_ite, decide_eq_true_eq, h0, h1, if_true, wi, w1, w2, w3, w4, w5, hr, List.length_set, List.set_set]
 ·intro again k i l hi
  unfold YM
  simp only [Bool.cond_eq_ite, decide_eq_true_eq, if_neg hi]
theorem yca (l : List y8) (k : Int) (h0 : 0 ≤ k) (hl : l.length ≤ 1048576) (hk : k + 5 * l.length ≤ wd) : YT (yZ y6L (fun _ => 5) l k, k) = some (k + z9 (fun _ : y8 => (5 : Int)) l) := by
 unfold YT qM
 refine Vy (step := YS (fun x1 => some x1.2) (fun x2 => some x2)) zv y6L (fun _ => 5) (fun _ => by omega) (fun x2 => some x2) wd ?_ ?_ l k h0 (by omega) (by rw [zx]; exact hk)
 ·intro again l k i a h0 h1 hk hM hl he
  unfold wd at hM
  have hr : y0 l i = (k, k + 1, k + 2, k + 3, k + 4) := he
  have wi := qe i (by omega) (by omega)
  have w1 := qe k (by omega) (by omega)
  have w2 : Go.IntKind.wrap .i64 (k + 1 + 1) = k + 2 := (qe (k + 1) (by omega) (by omega)).trans (by omega)
  have w3 : Go.IntKind.wrap .i64 (k + 2 + 1) = k + 3 := (qe (k + 2) (by omega) (by omega)).trans (by omega)
  have w4 : Go.IntKind.wrap .i64 (k + 3 + 1) = k + 4 := (qe (k + 3) (by omega) (by omega)).trans (by omega)
  have w5 : Go.IntKind.wrap .i64 (k + 4 + 1) = k + 5 := (qe (k + 4) (by omega) (by omega)).trans (by omega)
  unfold YS
  simp only [Bool.cond_eq_ite, decide_eq_true_eq, h0, h1, if_true, wi, w1, w2, w3, w4, w5, hr, bne_self_eq_false, beq_self_eq_true, Bool.not_true, Bool.false_eq_true, if_false]
 ·intro again l k i hi
  unfold YS
  simp only [Bool.cond_eq_ite, decide_eq_true_eq, if_neg hi]
noncomputable def y6M (_ : yo) (k : Int) : yo := (k, k + 1)
theorem ycb (l : List yo) (k : Int) (h0 : 0 ≤ k) (hl : l.length ≤ 1048576) (hk : k + 2 * l.length ≤ wd) : jz (l, k) = some (k + z9 (fun _ : yo => (2 : Int)) l, yZ y6M (fun _ => 2) l k) := by
 unfold jz qI
 refine WO (step := YO (fun x1 => some (x1.1, x1.2))) WU y6M (fun _ => 2) (fun _ => by omega) (fun _ => True) (fun x2 => some (x2.1, x2.2)) wd ?_ ?_ l k h0 (by omega) (by rw [zx]; exact hk) (fun _ _ => trivial)
 ·intro again k i l h0 h1 hk hM hl _
  unfold wd at hM
  have hr : ∀ v : yo, z6 (l.set i.toNat v) i = v := fun v => y6C WU l i v h0 h1
  have wi := qe i (by omega) (by omega)
  have w1 := qe k (by omega) (by omega)
  have w2 : Go.IntKind.wrap .i64 (k + 1 + 1) = k + 2 := (qe (k + 1) (by omega) (by omega)).trans (by omega)
  unfold YO y6M
  simp only [Bool.cond_eq_ite, decide_eq_true_eq, h0, h1, if_true, wi, w1, w2, hr, List.length_set, List.set_set]
 ·intro again k i l hi
  unfold YO
  simp only [Bool.cond_eq_ite, decide_eq_true_eq, if_neg hi]
theorem ycc (l : List yo) (k : Int) (h0 : 0 ≤ k) (hl : l.length ≤ 1048576) (hk : k + 2 * l.length ≤ wd) : jD (yZ y6M (fun _ => 2) l k, k) = some (k + z9 (fun _ : yo => (2 : Int)) l) := by
 unfold jD qN
 refine Vy (step := YU (fun x1 => some x1.2) (fun x2 => some x2)) WU y6M (fun _ => 2) (fun _ => by omega) (fun x2 => some x2) wd ?_ ?_ l k h0 (by omega) (by rw [zx]; exact hk)
 ·intro again l k i a h0 h1 hk hM hl he
  unfold wd at hM
  have hr : z6 l i = (k, k + 1) := he
  have wi := qe i (by omega) (by omega)
  have w1 := qe k (by omega) (by omega)
  have w2 : Go.IntKind.wrap .i64 (k + 1 + 1) = k + 2 := (qe (k + 1) (by omega) (by omega)).trans (by omega)
  unfold YU
  simp only [Bool.cond_eq_ite, decide_eq_true_eq, h0, h1, if_true, wi, w1, w2, hr, bne_self_eq_false, beq_self_eq_true, Bool.not_true, Bool.false_eq_true, if_false]
 ·intro again l k i hi
  unfold YU
  simp only [Bool.cond_eq_ite, decide_eq_true_eq, if_neg hi]
noncomputable def y2K (_ : yb) (k : Int) : yb := (k, Int.tmod (k + 1) 3 == 0, k + 2)
theorem yau (l : List yb) (k : Int) (h0 : 0 ≤ k) (hl : l.length ≤ 1048576) (hk : k + 3 * l.length ≤ wd) : ZK (l, k) = some (k + z9 (fun _ : yb => (3 : Int)) l, yZ y2K (fun _ => 3) l k) := by
 unfold ZK VR
 refine WO (step := YA (fun x2 => some (x2.1, x2.2))) wI y2K (fun _ => 3) (fun _ => by omega) (fun _ => True) (fun x2 => some (x2.1, x2.2)) wd ?_ ?_ l k h0 (by omega) (by rw [zx]; exact hk) (fun _ _ => trivial)
 ·intro again k i l h0 h1 hk hM hl _
  unfold wd at hM
  have hr : ∀ v : yb, yl (l.set i.toNat v) i = v := fun v => y6C wI l i v h0 h1
  have wi := qe i (by omega) (by omega)
  have w1 := qe k (by omega) (by omega)
  have w2 : Go.IntKind.wrap .i64 (k + 1 + 1) = k + 2 := (qe (k + 1) (by omega) (by omega)).trans (by omega)
  have w3 : Go.IntKind.wrap .i64 (k + 2 + 1) = k + 3 := (qe (k + 2) (by omega) (by omega)).trans (by omega)
  unfold YA y2K
  simp only [Bool.cond_eq_ite, decide_eq_true_eq, h0, h1, if_true, wi, w1, w2, w3, hr, List.length_set, List.set_set]
 ·intro again k i l hi
  unfold YA
  simp only [Bool.cond_eq_ite, decide_eq_true_eq, if_neg hi]
theorem yav (l : List yb) (k : Int) (h0 : 0 ≤ k) (hl : l.length ≤ 1048576) (hk : k + 3 * l.length ≤ wd) : ZM (yZ y2K (fun _ => 3) l k, k) = some (k + z9 (fun _ : yb => (3 : Int)) l) := by
 unfold ZM VV
 refine Vy (step := YB (fun x1 => some x1.2) (fun x2 => some x2)) wI y2K (fun _ => 3) (fun _ => by omega) (fun x2 => some x2) wd ?_ ?_ l k h0 (by omega) (by rw [zx]; exact hk)
 ·intro again l k i a h0 h1 hk hM hl he
  unfold wd at hM
  have hr : yl l i = (k, Int.tmod (k + 1) 3 == 0, k + 2) := he
  have wi := qe i (by omega) (by omega)
  have w1 := qe k (by omega) (by omega)
  have w2 : Go.IntKind.wrap .i64 (k + 1 + 1) = k + 2 := (qe (k + 1) (by omega) (by omega)).trans (by omega)
  have w3 : Go.IntKind.wrap .i64 (k + 2 + 1) = k + 3 := (qe (k + 2) (by omega) (by omega)).trans (by omega)
  unfold YB
  simp only [Bool.cond_eq_ite, decide_eq_true_eq, h0, h1, if_true, wi, w1, w2, w3, hr, bne_self_eq_false, beq_self_eq_true, Bool.not_true, Bool.false_eq_true, if_false]
 ·intro again l k i hi
  unfold YB
  simp only [Bool.cond_eq_ite, decide_eq_true_eq, if_neg hi]
noncomputable def y6N (_ : yA) (k : Int) : yA := (mt k, k + 1, k + 2, Int.tmod (k + 3) 3 == 0)
theorem ycd (l : List yA) (k : Int) (h0 : 0 ≤ k) (hl : l.length ≤ 1048576) (hk : k + 4 * l.length ≤ wd) : jA (l, k) = some (k + z9 (fun _ : yA => (4 : Int)) l, yZ y6N (fun _ => 4) l k) := by
 unfold jA qK
 refine WO (step := YP (fun x3 => some (x3.1, x3.2))) qg y6N (fun _ => 4) (fun _ => by omega) (fun _ => True) (fun x2 => some (x2.1, x2.2)) wd ?_ ?_ l k h0 (by omega) (by rw [zx]; exact hk) (fun _ _ => trivial)
 ·intro again k i l h0 h1 hk hM hl _
  unfold wd at hM
  have hr : ∀ v : yA, yn (l.set i.toNat v) i = v := fun v => y6C qg l i v h0 h1
  have wi := qe i (by omega) (by omega)
  have w1 := qe k (by omega) (by omega)
  have w2 : Go.IntKind.wrap .i64 (k + 1 + 1) = k + 2 := (qe (k + 1) (by omega) (by omega)).trans (by omega)
  have w3 : Go.IntKind.wrap .i64 (k + 2 + 1) = k + 3 := (qe (k + 2) (by omega) (by omega)).trans (by omega)
  have w4 : Go.IntKind.wrap .i64 (k + 3 + 1) = k + 4 := (qe (k + 3) (by omega) (by omega)).trans (by omega)
  have ht := y50 k (by omega) (by omega)
  unfold YP y6N
  simp only [Bool.cond_eq_ite, decide_eq_true_eq, h0, h1, if_true, wi, w1, w2, w3, w4, ht, Option.bind_some, hr, List.length_set, List.set_set]
 ·intro again k i l hi
  unfold YP
  simp only [Bool.cond_eq_ite, decide_eq_true_eq, if_neg hi]
theorem yce (l : List yA) (k : Int) (h0 : 0 ≤ k) (hl : l.length ≤ 1048576) (hk : k + 4 * l.length ≤ wd) : jE (yZ y6N (fun _ => 4) l k, k) = some (k + z9 (fun _ : yA => (4 : Int)) l) := by
 unfold jE qO
 refine Vy (step := YV (fun x2 => some x2.2) (fun x3 => some x3)) qg y6N (fun _ => 4) (fun _ => by omega) (fun x2 => some x2) wd ?_ ?_ l k h0 (by omega) (by rw [zx]; exact hk)
 ·intro again l k i a h0 h1 hk hM hl he
  unfold wd at hM
  have hr : yn l i = (mt k, k + 1, k + 2, Int.tmod (k + 3) 3 == 0) := he
  have wi := qe i (by omega) (by omega)
  have w1 := qe k (by omega) (by omega)
  have w2 : Go.IntKind.wrap .i64 (k + 1 + 1) = k + 2 := (qe (k + 1) (by omega) (by omega)).trans (by omega)
  have w3 : Go.IntKind.wrap .i64 (k + 2 + 1) = k + 3 := (qe (k + 2) (by omega) (by omega)).trans (by omega)
  have w4 : Go.IntKind.wrap .i64 (k + 3 + 1) = k + 4 := (qe (k + 3) (by omega) (by omega)).trans (by omega)
  have ht := y50 k (by omega) (by omega)
  unfold YV
  simp only [Bool.cond_eq_ite, decide_eq_true_eq, h0, h1, if_true, wi, w1, w2, w3, w4, ht, Option.bind_some, hr, bne_self_eq_false, beq_self_eq_true, Bool.not_true, Bool.false_eq_true, if_false]
 ·intro again l k i hi
  unfold YV
  simp only [Bool.cond_eq_ite, decide_eq_true_eq, if_neg hi]
def yaI (a : y9) : Int := z9 (fun _ : y8 => (5 : Int)) a
theorem y4c (a : y9) : yaI a = 5 * (List.length a : Int) := zx 5 a
theorem y1D (a : y9) : 0 ≤ yaI a := by
 rw [y4c]
 omega
noncomputable def ycf (a : y9) (k : Int) : y9 := yZ y6L (fun _ => 5) a k
theorem yaw (l : List y9) (k : Int) (h0 : 0 ≤ k) (hl : l.length ≤ 1048576) (hk : k + z9 yaI l ≤ wd) (hm : ∀ a ∈ l, List.length a ≤ 1048576) : Yq (l, k) = some (k + z9 yaI l, yZ ycf yaI l k) := by
 unfold Yq VP
 refine WO yT ycf yaI y1D (fun a => List.length a ≤ 1048576) (fun x2 => some (x2.1, x2.2)) wd ?_ ?_ l k h0 (by omega) hk hm
 ·intro again k i l h0 h1 hk hM hl hP
  have hc := y4c (l.getD i.toNat yT)
  have wi := qe i (by omega) (by omega)
  have he : YN (yh l i, k) = some (k + yaI (l.getD i.toNat yT), ycf (l.getD i.toNat yT) k) := yc9 (l.getD i.toNat yT) k hk hP (by omega)
  unfold jl
  simp only [Bool.cond_eq_ite, decide_eq_true_eq, h0, h1, if_true, wi, he, Option.bind_some]
 ·intro again k i l hi
  unfold jl
  simp only [Bool.cond_eq_ite, decide_eq_true_eq, if_neg hi]
theorem y6O {A R : Type} (da : A) (mk : A → Int → A) (cnt : A → Int) (hc : ∀ a, 0 ≤ cnt a) (P : A → Prop) {step : (List A × Int × Int → Option R) → List A × Int × Int → Option R} (k1 : Int → Option R) (M : Int)
  (h : ∀ again l k i a, 0 ≤ i → i < ((List.length l : Nat) : Int) → 0 ≤ k → k + cnt a ≤ M → (List.length l : Int) ≤ 1099511627776 → P a → l.getD i.toNat da = mk a k → step again (l, k, i) = again (l, k + cnt a, i + 1))
  (hd : ∀ again l k i, ¬ i < ((List.length l : Nat) : Int) → step again (l, k, i) = k1 k)
  (l : List A) (k : Int) (hk : 0 ≤ k) (hl : l.length ≤ 1099511627776) (hM : k + z9 cnt l ≤ M) (hP : ∀ a ∈ l, P a) : yS step z3 (yZ mk cnt l k, k, 0) = k1 (k + z9 cnt l) := by
 have hlen := y2E mk cnt l k
 rw [zU (fun t : List A × Int × Int => l.length - t.2.2.toNat) (fun t => t.1 = yZ mk cnt l k ∧ 0 ≤ t.2.2 ∧ t.2.2 ≤ l.length ∧ 0 ≤ t.2.1 ∧ ∃ r, (∀ a ∈ r, P a) ∧ t.1.drop t.2.2.toNat = yZ mk cnt r t.2.1 ∧ t.2.1 + z9 cnt r = k + z9 cnt l) (fun t => k1 (k + z9 cnt l)) ?_ (yZ mk cnt l k, k, 0) ⟨rfl, by simp, by simp, hk, l, hP, by simp, rfl⟩ (by simp; omega)]
 rintro again ⟨o, k', i⟩ ⟨h1, h2, h3, h4, r, hPr, h5, h6⟩ hag
 simp only at h1 h2 h3 h4 h5 h6 ⊢
 subst h1
 by_cases hi : i < ((List.length (yZ mk cnt l k) : Nat) : Int)
 ·rw [Yo da _ i h2 hi] at h5
  cases r with
  | nil => simp [yZ] at h5
  | cons a r =>
   simp only [yZ, List.cons.injEq] at h5
   rw [zm] at h6
   have hs := yI hc r
   have ha := hc a
   rw [h again _ k' i a h2 hi h4 (by omega) (by omega) (hPr a (by simp)) h5.1]
   exact hag (yZ mk cnt l k, k' + cnt a, i + 1) ⟨rfl, by simp only; omega, by simp only; omega, by simp only; omega, r, fun b hb => hPr b (by simp [hb]), h5.2, by simp only; omega⟩ (by simp only; omega)
 ·rw [hd again _ k' i hi]
  have : r = [] := by
   rw [List.drop_of_length_le (by omega)] at h5
   cases r with
   | nil => rfl
   | cons a r => simp [yZ] at h5
  subst this
  rw [← h6]
  simp [z9]
theorem yax (l : List y9) (k : Int) (h0 : 0 ≤ k) (hl : l.length ≤ 1048576) (hk : k + z9 yaI l ≤ wd) (hm : ∀ a ∈ l, List.length a ≤ 1048576) : Ys (yZ ycf yaI l k, k) = some (k + z9 yaI l) := by
 unfold Ys VT
 refine y6O yT ycf yaI y1D (fun a => List.length a ≤ 1048576) (fun x => some x) wd ?_ ?_ l k h0 (by omega) hk hm
 ·intro again l k i a h0 h1 hk hM hl hP he
  have hc := y4c a
  have wi := qe i (by omega) (by omega)
  have hr : yh l i = ycf a k := he
  have hn : ¬ (k + yaI a < 0) := by omega
  have h2 : YT (yh l i, k) = some (k + yaI a) := by
   rw [hr]
   exact yca a k hk hP (by omega)
  unfold jn
  simp only [Bool.cond_eq_ite, decide_eq_true_eq, h0, h1, if_true, wi, h2, hn, if_false, Option.bind_some]
 ·intro again l k i hi
  unfold jn
  simp only [Bool.cond_eq_ite, decide_eq_true_eq, if_neg hi]
def y1m (a : y7) : Int := z9 yaI a
theorem VE (a : y7) : 0 ≤ y1m a := yI y1D a
noncomputable def y5h (a : y7) (k : Int) : y7 := yZ ycf yaI a k
def ygM (a : y7) : Prop := List.length a ≤ 1048576 ∧ ∀ b ∈ (show List y9 from a), List.length b ≤ 1048576
theorem yay (l : List y7) (k : Int) (h0 : 0 ≤ k) (hl : l.length ≤ 1048576) (hk : k + z9 y1m l ≤ wd) (hm : ∀ a ∈ l, ygM a) : ZJ (l, k) = some (k + z9 y1m l, yZ y5h y1m l k) := by
 unfold ZJ VQ
 refine WO zg y5h y1m VE ygM (fun x2 => some (x2.1, x2.2)) wd ?_ ?_ l k h0 (by omega) hk hm
 ·intro again k i l h0 h1 hk hM hl hP
  have wi := qe i (by omega) (by omega)
  have he : Yq (ym l i, k) = some (k + y1m (l.getD i.toNat zg), y5h (l.getD i.toNat zg) k) := yaw (l.getD i.toNat zg) k hk hP.1 hM hP.2
  unfold jm
  simp only [Bool.cond_eq_ite, decide_eq_true_eq, h0, h1, if_true, wi, he, Option.bind_some]
 ·intro again k i l hi
  unfold jm
  simp only [Bool.cond_eq_ite, decide_eq_true_eq, if_neg hi]
theorem yaz (l : List y7) (k : Int) (h0 : 0 ≤ k) (hl : l.length ≤ 1048576) (hk : k + z9 y1m l ≤ wd) (hm : ∀ a ∈ l, ygM a) : ZL (yZ y5h y1m l k, k) = some (k + z9 y1m l) := by
 unfold ZL VU
 refine y6O zg y5h y1m VE ygM (fun x => some x) wd ?_ ?_ l k h0 (by omega) hk hm
 ·intro again l k i a h0 h1 hk hM hl hP he
  have hc := VE a
  have wi := qe i (by omega) (by omega)
  have hr : ym l i = y5h a k := he
  have hn : ¬ (k + y1m a < 0) := by omega
  have h2 : Ys (ym l i, k) = some (k + y1m a) := by
   rw [hr]
   exact yax a k hk hP.1 hM hP.2
  unfold jo
  simp only [Bool.cond_eq_ite, decide_eq_true_eq, h0, h1, if_true, wi, h2, hn, if_false, Option.bind_some]
 ·intro again l k i hi
  unfold jo
  simp only [Bool.cond_eq_ite, decide_eq_true_eq, if_neg hi]
theorem ygN (n : y7) : y1m n ≤ 5 * vv n := by
 have h1 : y1m n ≤ 5 * z9 (fun a : y9 => (List.length a : Int)) n := ydp yaI (fun a : y9 => (List.length a : Int)) 5 (fun a => by rw [y4c]; exact Int.le_refl _) n
 have h2 : vv n = (List.length n : Int) + z9 (fun a : y9 => (List.length a : Int)) n := rfl
 omega
def plK (q : List yp) (t : List y7) (l : List yo) (cs : List yb) (vs : List yA) : Int := q.length + z9 y1m t + 2 * l.length + 3 * cs.length + 4 * vs.length
theorem yaA (q : List yp) (t : List y7) (l : List yo) (cs : List yb) (vs : List yA) (h : y8W q t l cs vs) : 0 ≤ plK q t l cs vs ∧ plK q t l cs vs ≤ 60000000 := by
 have hN := ydp y1m vv 5 ygN t
 have hN0 := yI VE t
 obtain ⟨h1, h2, h3, h4, h5, h6⟩ := h
 unfold plK
 omega
theorem ycg (q : List yp) (t : List y7) (l : List yo) (cs : List yb) (vs : List yA) (z k : Int) (h0 : 0 ≤ k) (hk : k ≤ 1099511627) (h : y8W q t l cs vs) :
  ∃ q' t' l' cs' vs', jB (q, t, l, cs, vs, z, k) = some (k + plK q t l cs vs, q', t', l', cs', vs') ∧ jF (q', t', l', cs', vs', z, k) = some (k + plK q t l cs vs) := by
 have hr := yaA q t l cs vs h
 obtain ⟨hq, ht, hw, hl, hc, hv⟩ := h
 have hN := ydp y1m vv 5 ygN t
 have hN0 := yI VE t
 have hm : ∀ n ∈ t, ygM n := fun n hn => K1 hw hn
 have s1 : z9 (fun _ : yp => (1 : Int)) q = q.length := by
  rw [zx]
  omega
 have s3 : z9 (fun _ : yo => (2 : Int)) l = 2 * l.length := zx 2 l
 have s4 : z9 (fun _ : yb => (3 : Int)) cs = 3 * cs.length := zx 3 cs
 have s5 : z9 (fun _ : yA => (4 : Int)) vs = 4 * vs.length := zx 4 vs
 have e1 := yc7 q k (by omega) hq (by unfold wd; omega)
 have e2 := yay t (k + q.length) (by omega) ht (by unfold wd; omega) hm
 have e3 := ycb l (k + q.length + z9 y1m t) (by omega) hl (by unfold wd; omega)
 have e4 := yau cs (k + q.length + z9 y1m t + 2 * l.length) (by omega) hc (by unfold wd; omega)
 have e5 := ycd vs (k + q.length + z9 y1m t + 2 * l.length + 3 * cs.length) (by omega) hv (by unfold wd; omega)
 have g1 := yc8 q k (by omega) hq (by unfold wd; omega)
 have g2 := yaz t (k + q.length) (by omega) ht (by unfold wd; omega) hm
 have g3 := ycc l (k + q.length + z9 y1m t) (by omega) hl (by unfold wd; omega)
 have g4 := yav cs (k + q.length + z9 y1m t + 2 * l.length) (by omega) hc (by unfold wd; omega)
 have g5 := yce vs (k + q.length + z9 y1m t + 2 * l.length + 3 * cs.length) (by omega) hv (by unfold wd; omega)
 rw [s1] at e1 g1
 rw [s3] at e3 g3
 rw [s4] at e4 g4
 rw [s5] at e5 g5
 have et : k + q.length + z9 y1m t + 2 * l.length + 3 * cs.length + 4 * vs.length = k + plK q t l cs vs := by
  unfold plK
  omega
 rw [et] at e5 g5
 refine ⟨yZ y6K (fun _ => 1) q k, yZ y5h y1m t (k + q.length), yZ y6M (fun _ => 2) l (k + q.length + z9 y1m t), yZ y2K (fun _ => 3) cs (k + q.length + z9 y1m t + 2 * l.length), yZ y6N (fun _ => 4) vs (k + q.length + z9 y1m t + 2 * l.length + 3 * cs.length), ?_, ?_⟩
 ·unfold jB wV
  simp only [e1, e2, e3, e4, e5, Option.bind_some]
 ·unfold jF W1
  simp only [g1, Option.bind_some]
  rw [decide_eq_false (show ¬ (k + (q.length : Int)) < 0 by omega)]
  simp only [cond_false, g2, Option.bind_some]
  rw [decide_eq_false (show ¬ (k + (q.length : Int) + z9 y1m t) < 0 by omega)]
  simp only [cond_false, Option.bind_some]
  rw [decide_eq_false (show ¬ (k + (q.length : Int) + z9 y1m t) < 0 by omega)]
  simp only [cond_false, g3, Option.bind_some]
  rw [decide_eq_false (show ¬ (k + (q.length : Int) + z9 y1m t + 2 * l.length) < 0 by omega)]
  simp only [cond_false, g4, Option.bind_some]
  rw [decide_eq_false (show ¬ (k + (q.length : Int) + z9 y1m t + 2 * l.length + 3 * cs.length) < 0 by omega)]
  simp only [cond_false, g5, Option.bind_some]
  rw [decide_eq_false (show ¬ (k + plK q t l cs vs) < 0 by omega)]
  rfl
end Go.Proofs.YtmapoakbdgpamaaGreat.Pl
namespace Go.Proofs.YtmapoakbdgpamaaGreat.Pl
open Go.Proofs.YtmapoakbdgpamaaGreat.R Go.Proofs.YtmapoakbdgpamaaGreat.XQ
noncomputable def y3h (m0 : Int) (s : List y6) (c : List yQ) (u : Int) (q : List yp) (t : List y7) (l : List yo) (cs : List yb) (vs : List yA) (z a n m : Int) : Bool :=
 yet s c u && (((s.length : Int) == 60) && (J5 q t l cs vs z && (inR n 1 50000 && (inR m n (IntKind.i64.wrap (n + 6)) && (inR m 1 50000 && inR a m0 50000)))))
structure SmallS (s : List y6) (c : List yQ) (q : List yp) (t : List y7) (l : List yo) (cs : List yb) (vs : List yA) : Prop where
 D : VC s c
 P : y8W q t l cs vs
 T : TOk t
 N : ∀ v ∈ vs, ByteArray.size v.1 ≤ maxLen
theorem ygO {q : List yp} {t : List y7} {l : List yo} {cs : List yb} {vs : List yA} (h : y8W q t l cs vs) : TOk t :=
 ⟨by have := h.2.1; omega, fun n hn => by
  have := (K1 h.2.2.1 hn).1
  omega, h.2.2.1⟩
section
variable {s : List y6} {c : List yQ} (u : Int) (b : Bool) {q : List yp} {t : List y7} {l : List yo} {cs : List yb} {vs : List yA} (z a n m : Int) (h : SmallS s c q t l cs vs)
include h
theorem y2g : ZU (s, c, u, b, q, t, l, cs, vs, z, a, n, m) = some (yet s c u && (((s.length : Int) == 60) && (J5 q t l cs vs z && (inR n 1 50000 && (inR m n (IntKind.i64.wrap (n + 6)) && inR m 1 50000))))) := by
 unfold ZU
 simp only [y94 s c u b h.D.1 h.D.2.1, y1j q t l cs vs z h.T h.P.2.2.2.1 h.P.2.2.2.2.1 h.P.2.2.2.2.2 h.N, ZH, Option.bind_some]
 generalize yet s c u = d1
 generalize (((List.length s : Nat) : Int) == 60) = d2
 generalize J5 q t l cs vs z = d3
 generalize inR n 1 50000 = d4
 generalize inR m n (IntKind.i64.wrap (n + 6)) = d5
 generalize inR m 1 50000 = d6
 cases d1 <;> cases d2 <;> cases d3 <;> cases d4 <;> cases d5 <;> cases d6 <;> rfl
theorem y1n (m0 : Int) : JT (s, c, u, b, q, t, l, cs, vs, z, a, n, m, m0) = some (y3h m0 s c u q t l cs vs z a n m) := by
 unfold JT y3h
 simp only [vw s c u b h.D.1 h.D.2.1, y1k q t l cs vs z h.T h.P.2.2.2.1 h.P.2.2.2.2.1 h.P.2.2.2.2.2 h.N, zV, Option.bind_some]
 generalize yet s c u = d1
 generalize (((List.length s : Nat) : Int) == 60) = d2
 generalize J5 q t l cs vs z = d3
 generalize inR n 1 50000 = d4
 generalize inR m n (IntKind.i64.wrap (n + 6)) = d5
 generalize inR m 1 50000 = d6
 generalize inR a m0 50000 = d7
 cases d1 <;> cases d2 <;> cases d3 <;> cases d4 <;> cases d5 <;> cases d6 <;> cases d7 <;> rfl
theorem y0K : JA (s, c, u, b, q, t, l, cs, vs, z, a, n, m) = some (s, c, u, b, q, t, l, cs, vs, z, a, n, m) := by
 unfold JA
 simp only [y5T s c u b h.D, y5g q t l cs vs z h.P, Option.bind_some]
theorem qZ : j0 (s, c, u, b, q, t, l, cs, vs, z, a, n, m) = some (s, c, u, b, q, t, l, cs, vs, z, a, n, m) := by
 unfold j0
 simp only [WR s c u b h.D, y3A q t l cs vs z h.P, Option.bind_some]
theorem yeB : Yb (s, c, u, b, q, t, l, cs, vs, z, a, n, m) = some (s, c, u, b, q, t, l, cs, vs, z, a, n, m) := by
 unfold Yb
 simp only [yja s c u b h.D, ygA q t l cs vs z h.P, Option.bind_some]
theorem y3i : Y9 (s, c, u, b, q, t, l, cs, vs, z, a, n, m, s, c, u, b, q, t, l, cs, vs, z, a, n, m) = some true := by
 unfold Y9
 simp only [yer s c u b h.D, ybU q t l cs vs z h.P, Option.bind_some, Bool.not_true, cond_false, bne_self_eq_false]
theorem y3j : ∃ r s' c' q' t' l' cs' vs', Yr (s, c, u, b, q, t, l, cs, vs, z, a, n, m, 1) = some (r, s', c', q', t', l', cs', vs') ∧ Yt (s', c', u, b, q', t', l', cs', vs', z, a, n, m, 1) = some r ∧ 0 ≤ r := by
 have w1 := yI ws s
 have w2 := yI Qm c
 have w5 : z9 y2i c ≤ 4000000 := by
  have := h.D.2.1
  have := h.D.2.2.2
  rw [y97]
  omega
 have w6 := h.D.2.2.1
 have hr := yaA q t l cs vs h.P
 obtain ⟨q', t', l', cs', vs', m1, m2⟩ := ycg q t l cs vs z (1 + z9 QT s + z9 y2i c) (by omega) (by omega) h.P
 refine ⟨1 + z9 QT s + z9 y2i c + plK q t l cs vs, yZ mkS QT s 1, yZ mkW y2i c (1 + z9 QT s), q', t', l', cs', vs', ?_, ?_, ?_⟩
 ·unfold Yr
  simp only [yew s c u b h.D, m1, Option.bind_some]
 ·unfold Yt
  simp only [yex s c u b h.D, m2, Option.bind_some]
  rw [decide_eq_false (show ¬ (1 + z9 QT s + z9 y2i c) < 0 by omega)]
  simp only [cond_false, Option.bind_some]
  rw [decide_eq_false (show ¬ (1 + z9 QT s + z9 y2i c + plK q t l cs vs) < 0 by omega)]
  rfl
 ·omega
end
theorem yeC (s : List y6) (c : List wK) (u : Int) (b : Bool) (is : List yp) (ns : List zF) (ags : List WV) (cs : List je) (vs : List jw) (z a n m : Int) (hs : s.length ≤ maxLen) (hss : ∀ a ∈ s, List.length a ≤ maxLen) (hsc : c.length ≤ maxLen) (hcc : ∀ a ∈ c, List.length a.2 ≤ maxLen)
  (hi : is.length ≤ maxLen) (hn : ns.length ≤ maxLen) (hnn : ∀ a ∈ ns, List.length a ≤ maxLen ∧ ∀ b ∈ (show List z4 from a), List.length b ≤ maxLen)
  (ha : ags.length ≤ maxLen) (hc : cs.length ≤ maxLen) (hv : vs.length ≤ maxLen) (hvv : ∀ a ∈ vs, ByteArray.size a.1 ≤ maxLen) :
  ∃ r, Jw (s, c, u, b, is, ns, ags, cs, vs, z, a, n, m, 1048576) = some r ∧ (r < 0 ∨ SmallS s c is ns ags cs vs) := by
 unfold Jw
 rcases yj8 s c u b hs hss hsc hcc with h | ⟨r, h, r0, r1, hD⟩
 ·simp only [h, Option.bind_some]
  exact ⟨-1, rfl, .inl (by omega)⟩
 ·obtain ⟨r2, h2, h3⟩ := yem r r0 r1 is ns ags cs vs z hi hn hnn ha hc hv hvv
  simp only [h, h2, Option.bind_some, Bool.cond_eq_ite, decide_eq_true_eq, if_neg (show ¬ r < 0 by omega)]
  by_cases h4 : r2 < 0
  ·exact ⟨-1, if_pos h4, .inl (by omega)⟩
  ·have hP := h3.resolve_left h4
   exact ⟨r2, if_neg h4, .inr ⟨hD, hP, ygO hP, hvv⟩⟩
theorem yeD {m0 : Int} {s : List y6} {c : List yQ} {u : Int} {q : List yp} {t : List y7} {l : List yo} {cs : List yb} {vs : List yA} {z a n m : Int} (h : y3h m0 s c u q t l cs vs z a n m = true) : y3x s c u := by
 unfold y3h at h
 rw [Bool.and_eq_true] at h
 exact (y2e s c u).1 h.1
end Go.Proofs.YtmapoakbdgpamaaGreat.Pl
namespace Go.Proofs.YtmapoakbdgpamaaGreat.Pl
open Go.Proofs.YtmapoakbdgpamaaGreat.R Go.Proofs.YtmapoakbdgpamaaGreat.XQ
def w2 (l : List Int) (i : Int) : Int := by_ l i * 256 + by_ l (i + 1)
end Go.Proofs.YtmapoakbdgpamaaGreat.Pl
namespace Go.Proofs.YtmapoakbdgpamaaGreat.Pl
open Go.Proofs.YtmapoakbdgpamaaGreat.R Go.Proofs.YtmapoakbdgpamaaGreat.XQ
theorem sh8 : (2 : Int) ^ (min (Int.toNat (8 : Int)) (Go.IntKind.bits .i64)) = 256 := by decide
theorem yH8 : (2 : Int) ^ (min (Int.toNat (16 : Int)) (Go.IntKind.bits .i64)) = 65536 := by decide
theorem yH9 : (2 : Int) ^ (min (Int.toNat (24 : Int)) (Go.IntKind.bits .i64)) = 16777216 := by decide
end Go.Proofs.YtmapoakbdgpamaaGreat.Pl
namespace Go.Proofs.YtmapoakbdgpamaaGreat.Pl
open Go.Proofs.YtmapoakbdgpamaaGreat.R Go.Proofs.YtmapoakbdgpamaaGreat.XQ
end Go.Proofs.YtmapoakbdgpamaaGreat.Pl
namespace Go.Proofs.YtmapoakbdgpamaaGreat.Pl
open Go.Proofs.YtmapoakbdgpamaaGreat.R Go.Proofs.YtmapoakbdgpamaaGreat.XQ
end Go.Proofs.YtmapoakbdgpamaaGreat.Pl
namespace Go.Proofs.YtmapoakbdgpamaaGreat.Pl
open Go.Proofs.YtmapoakbdgpamaaGreat.R Go.Proofs.YtmapoakbdgpamaaGreat.XQ
theorem y2L (n : Int) : Go.IntKind.wrap .u8 n = n % 256 := by
 simp [Go.IntKind.wrap, Go.IntKind.bits, Go.IntKind.signed]
end Go.Proofs.YtmapoakbdgpamaaGreat.Pl
namespace Go.Proofs.YtmapoakbdgpamaaGreat.Pl
open Go.Proofs.YtmapoakbdgpamaaGreat.R Go.Proofs.YtmapoakbdgpamaaGreat.XQ
theorem ynB (x : Int) : Int.fdiv x (2 ^ (min (Int.toNat (8 : Int)) (Go.IntKind.bits .i64))) = x / 256 := by
 rw [sh8, Int.fdiv_eq_ediv_of_nonneg _ (by omega)]
theorem ykN (x : Int) : Int.fdiv x (2 ^ (min (Int.toNat (16 : Int)) (Go.IntKind.bits .i64))) = x / 65536 := by
 rw [yH8, Int.fdiv_eq_ediv_of_nonneg _ (by omega)]
theorem yvM (x : Int) : Int.fdiv x (2 ^ (min (Int.toNat (24 : Int)) (Go.IntKind.bits .i64))) = x / 16777216 := by
 rw [yH9, Int.fdiv_eq_ediv_of_nonneg _ (by omega)]
def two (x : Int) : List Int := [x / 256 % 256, x % 256]
def ykO (x : Int) : List Int := [x / 16777216 % 256, x / 65536 % 256, x / 256 % 256, x % 256]
theorem YH (l : List Int) (x : Int) (hl : l.length ≤ 1048576) : zH (l, x) = some (l ++ two x) := by
 unfold zH
 simp only [y2L, ynB, List.nil_append, List.length_nil, List.length_cons]
 rw [if_pos (by omega), if_pos (by omega)]
 rfl
theorem ygP (a b : List Int) (h : a.length + b.length ≤ 2097152) : yH [a, b] = some (a ++ b) := by
 have hF : z3 = (z3 - 3) + 1 + 1 + 1 := by
  have := Ku
  omega
 unfold yH Vu
 rw [hF]
 have s0 : ∀ again, z8 (fun x1 => some x1) again ([a, b], (2 : Int), (0 : Int), ([] : List z0)) = again ([a, b], 2, 1, a) := by
  intro again
  unfold z8
  have hw : Go.IntKind.wrap .i64 (0 + 1) = 1 := w64 (by omega) (by omega)
  have hr : zh [a, b] 0 = a := rfl
  simp only [hw, hr, List.length_nil, List.length_cons, List.nil_append]
  rw [if_pos (by omega), if_pos (by omega), if_pos (by omega)]
  rfl
 have s1 : ∀ again, z8 (fun x1 => some x1) again ([a, b], (2 : Int), (1 : Int), a) = again ([a, b], 2, 2, a ++ b) := by
  intro again
  unfold z8
  have hw : Go.IntKind.wrap .i64 (1 + 1) = 2 := w64 (by omega) (by omega)
  have hr : zh [a, b] 1 = b := rfl
  simp only [hw, hr, List.length_cons, List.length_nil]
  rw [if_pos (by omega), if_pos (by omega), if_pos (by omega)]
  rfl
 have s2 : ∀ again, z8 (fun x1 => some x1) again ([a, b], (2 : Int), (2 : Int), a ++ b) = some (a ++ b) := by
  intro again
  unfold z8
  rfl
 rw [show ((List.length [a, b] : Nat) : Int) = 2 from rfl, yS, s0, yS, s1, yS, s2]
theorem zW (l : List Int) (x : Int) (hl : l.length ≤ 1048576) : zj (l, x) = some (l ++ two x) := by
 unfold zj
 simp only [y2L, ynB, yvL]
 rw [ygP l _ (by simp only [List.length_cons, List.length_nil]; omega)]
 simp only [Option.bind_some, two]
 rw [show x / 256 % 256 % 256 = x / 256 % 256 by omega, show x % 256 % 256 = x % 256 by omega]
theorem ygQ (l : List Int) (x : Int) (hl : l.length ≤ 1000000) : K0 (l, x) = some (l ++ ykO x) := by
 unfold K0
 simp only [ykN]
 rw [zW l _ (by omega)]
 simp only [Option.bind_some]
 rw [zW _ _ (by simp only [two, List.length_append, List.length_cons, List.length_nil]; omega)]
 simp only [Option.bind_some, two, ykO, List.append_assoc, List.cons_append, List.nil_append]
 rw [show x / 65536 / 256 % 256 = x / 16777216 % 256 by omega]
theorem y6P (l : List Int) (x : Int) (hl : l.length ≤ 1048576) : jb (l, x) = some (l ++ ykO x) := by
 unfold jb
 simp only [y2L, ynB, ykN, yvM, List.nil_append, List.length_nil, List.length_cons]
 rw [if_pos (by omega), if_pos (by omega)]
 rfl
theorem yP {l m : List Int} (h : Y2 l) (h' : Y2 m) : Y2 (l ++ m) := fun x hx => (List.mem_append.1 hx).elim (h x) (h' x)
end Go.Proofs.YtmapoakbdgpamaaGreat.Pl
namespace Go.Proofs.YtmapoakbdgpamaaGreat.Pl
open Go.Proofs.YtmapoakbdgpamaaGreat.R Go.Proofs.YtmapoakbdgpamaaGreat.XQ
theorem y2M (s : ByteArray) : (jp s).length = s.size := by
 unfold jp
 rw [List.length_map, Array.length_toList]
 rfl
theorem yaB (s : ByteArray) : Y2 (jp s) := by
 intro x hx
 unfold jp at hx
 obtain ⟨b, _, rfl⟩ := List.mem_map.1 hx
 have := b.toNat_lt
 omega
theorem Q0 (x : Int) : Y2 (two x) := by
 intro y hy
 simp only [two, List.mem_cons, List.mem_nil_iff, or_false] at hy
 rcases hy with h | h <;> subst h <;> omega
def tx (s : ByteArray) : List Int := two (s.size : Int) ++ jp s
theorem ygR (s : ByteArray) : (tx s).length = 2 + s.size := by
 unfold tx
 rw [List.length_append, y2M]
 rfl
theorem yjb (s : ByteArray) : Y2 (tx s) := yP (Q0 _) (yaB s)
theorem y5i (l : List Int) (s : ByteArray) (hl : l.length ≤ 1000000) (hs : s.size ≤ 60) : JK (l, s) = some (l ++ tx s) := by
 unfold JK
 simp only
 rw [show decide (((ByteArray.size s : Nat) : Int) > (60 : Int)) = false from decide_eq_false (by omega), cond_false, YH l _ (by omega)]
 simp only [Option.bind_some]
 have h2 : (l ++ two (s.size : Int)).length = l.length + 2 := by rw [List.length_append]; rfl
 rw [if_pos (by rw [show List.length (jp s) = s.size from y2M s]; omega), List.append_assoc]
 rfl
theorem y5j (l : List Int) (s : ByteArray) (hl : l.length ≤ 1000000) (hs : s.size ≤ 60) : JQ (l, s) = some (l ++ tx s) := by
 unfold JQ
 simp only
 rw [show decide (((ByteArray.size s : Nat) : Int) > (60 : Int)) = false from decide_eq_false (by omega), cond_false, zW l _ (by omega)]
 simp only [Option.bind_some]
 have h2 : (l ++ two (s.size : Int)).length = l.length + 2 := by rw [List.length_append]; rfl
 rw [if_pos (by omega), ygP _ _ (by rw [show List.length (jp s) = s.size from y2M s]; omega)]
 simp only [Option.bind_some, List.append_assoc]
 rfl
end Go.Proofs.YtmapoakbdgpamaaGreat.Pl
namespace Go.Proofs.YtmapoakbdgpamaaGreat.Pl
open Go.Proofs.YtmapoakbdgpamaaGreat.R Go.Proofs.YtmapoakbdgpamaaGreat.XQ
def v9 {A : Type} (f : Int → A → List Int) : List A → Int → List Int
 | [], _ => []
 | a :: l, i => f i a ++ v9 f l (i + 1)
theorem Kb {A : Type} (f : Int → A → List Int) (m : Nat) : ∀ (l : List A) (i : Int), (∀ a ∈ l, ∀ j, (f j a).length ≤ m) → (v9 f l i).length ≤ l.length * m
 | [], _, _ => by simp [v9]
 | a :: l, i, h => by
  have h1 := Kb f m l (i + 1) fun b hb => h b (by simp [hb])
  have h2 := h a (by simp) i
  rw [v9, List.length_append, List.length_cons, Nat.add_mul]
  omega
theorem we {T A R : Type} {step : (T → Option R) → T → Option R} (da : A) (f : Int → A → List Int) (l : List A) (St : Int → List Int → T) (k : List Int → Option R) (M : Nat) (hl : l.length ≤ 1099511627776)
  (h : ∀ again i o, 0 ≤ i → i < ((List.length l : Nat) : Int) → List.length o + (f i (l.getD i.toNat da)).length ≤ M → l.getD i.toNat da ∈ l → step again (St i o) = again (St (i + 1) (o ++ f i (l.getD i.toNat da))))
  (hd : ∀ again i o, ¬ i < ((List.length l : Nat) : Int) → step again (St i o) = k o)
  (o : List Int) (hM : List.length o + (v9 f l 0).length ≤ M) : yS step z3 (St 0 o) = k (o ++ v9 f l 0) := by
 have key : ∀ (m : Nat) (i : Int) (o : List Int), 0 ≤ i → i ≤ l.length → l.length - i.toNat < m → List.length o + (v9 f (l.drop i.toNat) i).length ≤ M → yS step m (St i o) = k (o ++ v9 f (l.drop i.toNat) i) := by
  intro m
  induction m with
  | zero => intro i o _ _ h; omega
  | succ m ih =>
   intro i o i0 i1 hm hb
   rw [yS]
   by_cases hi : i < ((List.length l : Nat) : Int)
   ·rw [Yo da l i i0 hi] at hb ⊢
    rw [v9, List.length_append] at hb
    rw [h _ i o i0 hi (by omega) (yN da l i i0 hi), ih (i + 1) _ (by omega) (by omega) (by omega) (by rw [List.length_append]; omega), v9, List.append_assoc]
   ·rw [hd _ i o hi, List.drop_of_length_le (by omega)]
    simp [v9]
 have := key z3 0 o (Int.le_refl _) (by omega) (by
  have := Ku
  omega) hM
 exact this
def b8 (x : Int) : Int := Go.IntKind.wrap .u8 x
def bit (b : Bool) : Int := if b = true then 1 else 0
def y0L (_ : Int) (a : yo) : List Int := [b8 a.1, b8 a.2]
def Q1 (_ : Int) (v : yA) : List Int := tx v.1 ++ [b8 v.2.1, b8 v.2.2.1, bit v.2.2.2]
def K4 (_ : Int) (c : yb) : List Int := two c.1 ++ ([bit c.2.1] ++ two c.2.2)
def qf (_ : Int) (k : y8) : List Int := [b8 k.1, b8 k.2.1, b8 k.2.2.1, b8 k.2.2.2.1] ++ two k.2.2.2.2
def Kq (_ : Int) (l : y9) : List Int := [b8 ((List.length l : Nat) : Int)] ++ v9 qf l 0
def jj (q : List Int) (i : Int) (n : y7) : List Int := two (q.getD i.toNat 0) ++ ([b8 ((List.length n : Nat) : Int)] ++ v9 Kq n 0)
def Jk (q : List Int) (t : List y7) (l : List yo) (cs : List yb) (vs : List yA) (z : Int) : List Int :=
 ((((((two z ++ [b8 ((List.length l : Nat) : Int)]) ++ v9 y0L l 0) ++ [b8 ((List.length vs : Nat) : Int)]) ++ v9 Q1 vs 0) ++ v9 K4 cs 0) ++ [b8 ((List.length t : Nat) : Int)]) ++ v9 (jj q) t 0
structure PoolF (q : List Int) (t : List y7) (l : List yo) (cs : List yb) (vs : List yA) : Prop where
 ql : q.length = t.length
 tl : t.length ≤ 20
 ll : l.length ≤ 16
 cl : cs.length = 24
 vl : vs.length ≤ 6
 nm : ∀ v ∈ vs, ByteArray.size v.1 ≤ 6
 nl : ∀ n ∈ t, List.length n ≤ 3
 sl : ∀ n ∈ t, ∀ s ∈ (show List y9 from n), List.length s ≤ 60 ∧ ∀ k ∈ (show List y8 from s), Jj k = true
theorem y5k {A : Type} (p : Int → A → Bool) : ∀ (l : List A) (i : Int), zN p l i = false → ∀ a ∈ l, ∃ j, p j a = false
 | [], _, _, a, h => by simp at h
 | b :: l, i, h, a, ha => by
  simp only [zN, Bool.or_eq_false_iff] at h
  rcases List.mem_cons.1 ha with rfl | ha
  ·exact ⟨i, h.1⟩
  ·exact y5k p l (i + 1) h.2 a ha
theorem ydq {s : List y8} (h : y1g s = true) : s.length ≤ 60 ∧ ∀ k ∈ s, Jj k = true := by
 unfold y1g at h
 simp only [Bool.and_eq_true, Bool.not_eq_true', decide_eq_true_eq] at h
 refine ⟨by omega, fun k hk => ?_⟩
 obtain ⟨j, hj⟩ := y5k _ s 0 h.1 k hk
 simpa using hj
theorem y5l {n : List y9} (h : K3 n = true) : n.length ≤ 3 ∧ ∀ s ∈ n, y1g s = true := by
 unfold K3 at h
 simp only [Bool.and_eq_true, Bool.not_eq_true', decide_eq_true_eq] at h
 refine ⟨by omega, fun s hs => ?_⟩
 obtain ⟨j, hj⟩ := y5k _ n 0 h.1 s hs
 unfold y3d at hj
 simp only [Bool.or_eq_false_iff, Bool.not_eq_false'] at hj
 exact hj.1
theorem yaC {q : List Int} {t : List y7} (h : VB q t = true) : q.length = t.length ∧ 1 ≤ t.length ∧ t.length ≤ 20 ∧ ∀ n ∈ t, K3 n = true := by
 unfold VB at h
 simp only [Bool.and_eq_true, Bool.not_eq_true', decide_eq_true_eq, Zk] at h
 obtain ⟨h1, h2, _, h3, _⟩ := h
 refine ⟨h2, by omega, by omega, fun n hn => ?_⟩
 obtain ⟨j, hj⟩ := y5k _ t 0 h3 n hn
 unfold y0H at hj
 simp only [Bool.or_eq_false_iff, Bool.not_eq_false'] at hj
 have h4 := hj.2
 unfold ybV at h4
 simp only [Bool.and_eq_true] at h4
 exact h4.1
theorem ynC {q : List Int} {t : List y7} {l : List yo} {cs : List yb} {vs : List yA} {z : Int} (h : J5 q t l cs vs z = true) : PoolF q t l cs vs := by
 unfold J5 at h
 simp only [Bool.and_eq_true] at h
 obtain ⟨h1, h2, h3, _, _, h4, _⟩ := h
 obtain ⟨t1, t2, t3, t4⟩ := yaC h1
 unfold qt at h2
 unfold WQ at h3
 unfold qw at h4
 simp only [Bool.and_eq_true, Bool.not_eq_true', decide_eq_true_eq, beq_iff_eq] at h2 h3 h4
 refine ⟨t1, t3, by omega, by omega, by omega, fun v hv => ?_, fun n hn => (y5l (t4 n hn)).1, fun n hn s hs => ydq ((y5l (t4 n hn)).2 s hs)⟩
 obtain ⟨j, hj⟩ := y5k _ vs 0 h4.1 v hv
 unfold ykK at hj
 simp only [Bool.or_eq_false_iff, Bool.not_eq_false'] at hj
 have hn := hj.1
 unfold y3f at hn
 simp only [Bool.and_eq_true, Zk] at hn
 omega
theorem yeE (i : Int) (k : y8) : (qf i k).length = 6 := rfl
theorem yeF (i : Int) (s : y9) (h : List.length s ≤ 60) : (Kq i s).length ≤ 361 := by
 have h1 := Kb qf 6 s 0 fun a _ j => Nat.le_refl _
 unfold Kq
 rw [List.length_append]
 simp only [List.length_cons, List.length_nil]
 omega
theorem y9c (n : y7) (h1 : List.length n ≤ 3) (h2 : ∀ s ∈ (show List y9 from n), List.length s ≤ 60) : (v9 Kq n 0).length ≤ 1083 := by
 have h3 := Kb Kq 361 n 0 fun s hs j => yeF j s (h2 s hs)
 have h4 : List.length n * 361 ≤ 3 * 361 := Nat.mul_le_mul_right _ h1
 omega
theorem ych (q : List Int) (i : Int) (n : y7) (h1 : List.length n ≤ 3) (h2 : ∀ s ∈ (show List y9 from n), List.length s ≤ 60) : (jj q i n).length ≤ 1086 := by
 have h3 := y9c n h1 h2
 unfold jj
 rw [List.length_append, List.length_append]
 simp only [two, List.length_cons, List.length_nil]
 omega
section
variable {q : List Int} {t : List y7} {l : List yo} {cs : List yb} {vs : List yA} (z : Int) (h : PoolF q t l cs vs)
include h
theorem y9d : (v9 y0L l 0).length ≤ 32 := by
 have h1 := Kb y0L 2 l 0 fun a _ j => Nat.le_refl _
 have := h.ll
 omega
theorem y9e : (v9 Q1 vs 0).length ≤ 66 := by
 have h1 := Kb Q1 11 vs 0 fun v hv j => by
  have := h.nm v hv
  unfold Q1
  rw [List.length_append, ygR]
  simp only [List.length_cons, List.length_nil]
  omega
 have := h.vl
 omega
theorem y5m : (v9 K4 cs 0).length ≤ 120 := by
 have h1 := Kb K4 5 cs 0 fun c _ j => Nat.le_refl _
 have := h.cl
 omega
theorem yaD : (v9 (jj q) t 0).length ≤ 21720 := by
 have h1 := Kb (jj q) 1086 t 0 fun n hn j => ych q j n (h.nl n hn) fun s hs => (h.sl n hn s hs).1
 have := h.tl
 omega
end
theorem ykP (b : Bool) : (bif b then some (1 : Int) else some (0 : Int)) = some (bit b) := by cases b <;> rfl
theorem y5n (b : Bool) : Wr b = some (bit b) := ykP b
theorem y5o (b : Bool) : Vv b = some (bit b) := ykP b
theorem y5X (o : List Int) (k : y8) (hk : Jj k = true) (ho : o.length ≤ 1000000) : Ws (o, k.1, k.2.1, k.2.2.1, k.2.2.2.1, k.2.2.2.2) = some (o ++ qf 0 k) := by
 unfold Ws
 simp only [y2b, Option.bind_some]
 rw [if_pos (by simp only [List.length_nil]; omega), show Jj (k.1, k.2.1, k.2.2.1, k.2.2.2.1, k.2.2.2.2) = true from hk]
 simp only [Bool.not_true, cond_false, List.nil_append, List.length_cons, List.length_nil]
 rw [if_pos (by omega), YH _ _ (by simp only [List.length_append, List.length_cons, List.length_nil]; omega)]
 simp only [Option.bind_some, List.append_assoc]
 rfl
theorem y5Y (o : List Int) (k : y8) (hk : Jj k = true) (ho : o.length ≤ 1000000) : WJ (o, k.1, k.2.1, k.2.2.1, k.2.2.2.1, k.2.2.2.2) = some (o ++ qf 0 k) := by
 unfold WJ
 simp only [y2c, J6 o (by omega), Option.bind_some]
 rw [show Jj (k.1, k.2.1, k.2.2.1, k.2.2.2.1, k.2.2.2.2) = true from hk]
 simp only [Bool.not_true, cond_false, List.length_cons, List.length_nil]
 rw [if_pos (by omega), zW _ _ (by simp only [List.length_append, List.length_cons, List.length_nil]; omega)]
 simp only [Option.bind_some, List.append_assoc]
 rfl
theorem yci (o : List Int) (s : y9) (hs : List.length s ≤ 60) (hk : ∀ k ∈ (show List y8 from s), Jj k = true) (ho : o.length ≤ 900000) : Wt (o, s) = some (o ++ Kq 0 s) := by
 have hlen := Kb qf 6 s 0 fun a _ j => Nat.le_refl _
 unfold Wt y0o
 simp only [List.length_cons, List.length_nil]
 rw [if_pos (by omega)]
 refine (we (step := jQ _) zv qf s (fun i o => (s, i, o)) (fun o => some o) 1000000 (by omega) ?_ ?_ _ (by rw [List.length_append]; simp only [List.length_cons, List.length_nil]; omega)).trans ?_
 ·intro again i o h0 h1 hb hm
  have hw : Go.IntKind.wrap .i64 (i + 1) = i + 1 := w64 (by omega) (by omega)
  have he := y5X o (y0 s i) (hk _ hm) (by omega)
  unfold jQ
  simp only [Bool.cond_eq_ite, decide_eq_true_eq, h0, h1, if_true, hw, he, Option.bind_some]
  rfl
 ·intro again i o hi
  unfold jQ
  simp only [Bool.cond_eq_ite, decide_eq_true_eq, if_neg hi]
 ·rw [List.append_assoc]
  rfl
end Go.Proofs.YtmapoakbdgpamaaGreat.Pl
namespace Go.Proofs.YtmapoakbdgpamaaGreat.Pl
open Go.Proofs.YtmapoakbdgpamaaGreat.R Go.Proofs.YtmapoakbdgpamaaGreat.XQ
abbrev PT : Type := List yp × List y7 × List yo × List yb × List yA × Int × List z0
section
variable {R : Type} (q : List yp) (t : List y7) (l : List yo) (cs : List yb) (vs : List yA) (z : Int) (o : List z0)
theorem yjc (k0 : PT → Option R) (hl : l.length ≤ 1000) (hM : List.length o + (v9 y0L l 0).length ≤ 900000) : KS k0 (0, q, t, l, cs, vs, z, o) = k0 (q, t, l, cs, vs, z, o ++ v9 y0L l 0) := by
 unfold KS
 refine we (step := ZV k0) WU y0L l (fun i o => (i, q, t, l, cs, vs, z, o)) (fun o => k0 (q, t, l, cs, vs, z, o)) 900000 (by omega) ?_ ?_ o hM
 ·intro again i o h0 h1 hb hm
  have hw : Go.IntKind.wrap .i64 (i + 1) = i + 1 := w64 (by omega) (by omega)
  unfold ZV
  simp only [Bool.cond_eq_ite, decide_eq_true_eq, h0, h1, if_true, hw]
  rw [if_pos (by simp only [List.length_cons, List.length_nil]; omega)]
  rfl
 ·intro again i o hi
  unfold ZV
  simp only [Bool.cond_eq_ite, decide_eq_true_eq, if_neg hi]
theorem yjd (k0 : PT → Option R) (hl : l.length ≤ 1000) (hM : List.length o + (v9 y0L l 0).length ≤ 900000) : KW k0 (l, ((List.length l : Nat) : Int), 0, q, t, l, cs, vs, z, o) = k0 (q, t, l, cs, vs, z, o ++ v9 y0L l 0) := by
 unfold KW
 refine we (step := ZZ k0) WU y0L l (fun i o => (l, ((List.length l : Nat) : Int), i, q, t, l, cs, vs, z, o)) (fun o => k0 (q, t, l, cs, vs, z, o)) 900000 (by omega) ?_ ?_ o hM
 ·intro again i o h0 h1 hb hm
  have hw : Go.IntKind.wrap .i64 (i + 1) = i + 1 := w64 (by omega) (by omega)
  unfold ZZ
  simp only [Bool.cond_eq_ite, decide_eq_true_eq, h0, h1, if_true, hw]
  rw [if_pos (by simp only [List.length_cons, List.length_nil]; omega)]
  rfl
 ·intro again i o hi
  unfold ZZ
  simp only [Bool.cond_eq_ite, decide_eq_true_eq, if_neg hi]
theorem yaE (o : List Int) (v : yA) (i : Int) : (o ++ tx v.1) ++ [b8 v.2.1, b8 v.2.2.1, bit v.2.2.2] = o ++ Q1 i v := List.append_assoc ..
theorem ygS (k0 : PT → Option R) (hl : vs.length ≤ 1000) (hv : ∀ v ∈ vs, ByteArray.size v.1 ≤ 6) (hM : List.length o + (v9 Q1 vs 0).length ≤ 900000) : ky k0 (0, q, t, l, cs, vs, z, o) = k0 (q, t, l, cs, vs, z, o ++ v9 Q1 vs 0) := by
 unfold ky
 refine we (step := Z2 k0) qg Q1 vs (fun i o => (i, q, t, l, cs, vs, z, o)) (fun o => k0 (q, t, l, cs, vs, z, o)) 900000 (by omega) ?_ ?_ o hM
 ·intro again i o h0 h1 hb hm
  have hw : Go.IntKind.wrap .i64 (i + 1) = i + 1 := w64 (by omega) (by omega)
  have hs := hv _ hm
  have he := y5i o (yn vs i).1 (by omega) (Nat.le_trans hs (by decide))
  have ht : List.length (o ++ tx (yn vs i).1) ≤ 900100 := by
   rw [List.length_append, ygR]
   have : ByteArray.size (yn vs i).1 ≤ 6 := hs
   omega
  unfold Z2
  simp only [Bool.cond_eq_ite, decide_eq_true_eq, h0, h1, if_true, hw, he, y5n, Option.bind_some]
  rw [if_pos (by simp only [List.length_cons, List.length_nil]; omega)]
  exact congrArg (fun o' => again (i + 1, q, t, l, cs, vs, z, o')) (yaE o (yn vs i) i)
 ·intro again i o hi
  unfold Z2
  simp only [Bool.cond_eq_ite, decide_eq_true_eq, if_neg hi]
theorem ygT (k0 : PT → Option R) (hl : vs.length ≤ 1000) (hv : ∀ v ∈ vs, ByteArray.size v.1 ≤ 6) (hM : List.length o + (v9 Q1 vs 0).length ≤ 900000) : kM k0 (vs, ((List.length vs : Nat) : Int), 0, q, t, l, cs, vs, z, o) = k0 (q, t, l, cs, vs, z, o ++ v9 Q1 vs 0) := by
 unfold kM
 refine we (step := Zd k0) qg Q1 vs (fun i o => (vs, ((List.length vs : Nat) : Int), i, q, t, l, cs, vs, z, o)) (fun o => k0 (q, t, l, cs, vs, z, o)) 900000 (by omega) ?_ ?_ o hM
 ·intro again i o h0 h1 hb hm
  have hw : Go.IntKind.wrap .i64 (i + 1) = i + 1 := w64 (by omega) (by omega)
  have hs := hv _ hm
  have he := y5j o (yn vs i).1 (by omega) (Nat.le_trans hs (by decide))
  have ht : List.length (o ++ tx (yn vs i).1) ≤ 900100 := by
   rw [List.length_append, ygR]
   have : ByteArray.size (yn vs i).1 ≤ 6 := hs
   omega
  unfold Zd
  simp only [Bool.cond_eq_ite, decide_eq_true_eq, h0, h1, if_true, hw, he, y5o, Option.bind_some]
  rw [if_pos (by simp only [List.length_cons, List.length_nil]; omega)]
  exact congrArg (fun o' => again (vs, ((List.length vs : Nat) : Int), i + 1, q, t, l, cs, vs, z, o')) (yaE o (yn vs i) i)
 ·intro again i o hi
  unfold Zd
  simp only [Bool.cond_eq_ite, decide_eq_true_eq, if_neg hi]
theorem y6Q (o : List Int) (c : yb) (i : Int) : ((o ++ two c.1) ++ [bit c.2.1]) ++ two c.2.2 = o ++ K4 i c := by
 unfold K4
 simp only [List.append_assoc]
theorem ygU (k0 : PT → Option R) (hl : cs.length ≤ 1000) (hM : List.length o + (v9 K4 cs 0).length ≤ 900000) : kA k0 (0, q, t, l, cs, vs, z, o) = k0 (q, t, l, cs, vs, z, o ++ v9 K4 cs 0) := by
 unfold kA
 refine we (step := Z3 k0) wI K4 cs (fun i o => (i, q, t, l, cs, vs, z, o)) (fun o => k0 (q, t, l, cs, vs, z, o)) 900000 (by omega) ?_ ?_ o hM
 ·intro again i o h0 h1 hb hm
  have hw : Go.IntKind.wrap .i64 (i + 1) = i + 1 := w64 (by omega) (by omega)
  have he := YH o (yl cs i).1 (by omega)
  have hlen : List.length (o ++ two (yl cs i).1) = List.length o + 2 := by rw [List.length_append]; rfl
  have hlen2 : List.length ((o ++ two (yl cs i).1) ++ [bit (yl cs i).2.1]) = List.length o + 3 := by rw [List.length_append, hlen]; rfl
  have he2 := YH ((o ++ two (yl cs i).1) ++ [bit (yl cs i).2.1]) (yl cs i).2.2 (by omega)
  unfold Z3
  simp only [Bool.cond_eq_ite, decide_eq_true_eq, h0, h1, if_true, hw, he, y5n, Option.bind_some]
  rw [if_pos (by simp only [List.length_cons, List.length_nil]; omega), he2]
  exact congrArg (fun o' => again (i + 1, q, t, l, cs, vs, z, o')) (y6Q o (yl cs i) i)
 ·intro again i o hi
  unfold Z3
  simp only [Bool.cond_eq_ite, decide_eq_true_eq, if_neg hi]
theorem ygV (k0 : PT → Option R) (hl : cs.length ≤ 1000) (hM : List.length o + (v9 K4 cs 0).length ≤ 900000) : kO k0 (cs, ((List.length cs : Nat) : Int), 0, q, t, l, cs, vs, z, o) = k0 (q, t, l, cs, vs, z, o ++ v9 K4 cs 0) := by
 unfold kO
 refine we (step := Ze k0) wI K4 cs (fun i o => (cs, ((List.length cs : Nat) : Int), i, q, t, l, cs, vs, z, o)) (fun o => k0 (q, t, l, cs, vs, z, o)) 900000 (by omega) ?_ ?_ o hM
 ·intro again i o h0 h1 hb hm
  have hw : Go.IntKind.wrap .i64 (i + 1) = i + 1 := w64 (by omega) (by omega)
  have he := zW o (yl cs i).1 (by omega)
  have hlen : List.length (o ++ two (yl cs i).1) = List.length o + 2 := by rw [List.length_append]; rfl
  have hlen2 : List.length ((o ++ two (yl cs i).1) ++ [bit (yl cs i).2.1]) = List.length o + 3 := by rw [List.length_append, hlen]; rfl
  have he2 := zW ((o ++ two (yl cs i).1) ++ [bit (yl cs i).2.1]) (yl cs i).2.2 (by omega)
  unfold Ze
  simp only [Bool.cond_eq_ite, decide_eq_true_eq, h0, h1, if_true, hw, he, y5o, Option.bind_some]
  rw [if_pos (by simp only [List.length_cons, List.length_nil]; omega), he2]
  exact congrArg (fun o' => again (cs, ((List.length cs : Nat) : Int), i + 1, q, t, l, cs, vs, z, o')) (y6Q o (yl cs i) i)
 ·intro again i o hi
  unfold Ze
  simp only [Bool.cond_eq_ite, decide_eq_true_eq, if_neg hi]
theorem ygW (k0 : Int × PT → Option R) (i : Int) (i0 : 0 ≤ i) (i1 : i < ((List.length t : Nat) : Int)) (hl : List.length (ym t i) ≤ 1000) (hs : ∀ s ∈ (show List y9 from ym t i), List.length s ≤ 60 ∧ ∀ k ∈ (show List y8 from s), Jj k = true) (hM : List.length o + (v9 Kq (ym t i) 0).length ≤ 900000) :
  kC k0 (i, 0, q, t, l, cs, vs, z, o) = k0 (i, q, t, l, cs, vs, z, o ++ v9 Kq (ym t i) 0) := by
 unfold kC
 refine we (step := Z4 k0) yT Kq (ym t i) (fun j o => (i, j, q, t, l, cs, vs, z, o)) (fun o => k0 (i, q, t, l, cs, vs, z, o)) 900000 (by omega) ?_ ?_ o hM
 ·intro again j o h0 h1 hb hm
  have hw : Go.IntKind.wrap .i64 (j + 1) = j + 1 := w64 (by omega) (by omega)
  have he := yci o (yh (ym t i) j) (hs _ hm).1 (hs _ hm).2 (by omega)
  unfold Z4
  simp only [Bool.cond_eq_ite, decide_eq_true_eq, i0, i1, h0, h1, if_true, hw, he, Option.bind_some]
  rfl
 ·intro again j o hj
  unfold Z4
  simp only [Bool.cond_eq_ite, decide_eq_true_eq, i0, i1, if_true, if_neg hj]
theorem ygX (k0 : List y7 × Int × Int × List y9 × Int × Int × PT → Option R) (m i m2 j : Int) (nd : List y9) (t' : List y7) (s : List y8) (hs : s.length ≤ 60) (hk : ∀ k ∈ s, Jj k = true) (hM : List.length o + (v9 qf s 0).length ≤ 1000000) :
  kQ k0 (t', m, i, nd, m2, j, s, ((List.length s : Nat) : Int), 0, q, t, l, cs, vs, z, o) = k0 (t', m, i, nd, m2, j, q, t, l, cs, vs, z, o ++ v9 qf s 0) := by
 unfold kQ
 refine we (step := Zf k0) zv qf s (fun x o => (t', m, i, nd, m2, j, s, ((List.length s : Nat) : Int), x, q, t, l, cs, vs, z, o)) (fun o => k0 (t', m, i, nd, m2, j, q, t, l, cs, vs, z, o)) 1000000 (by omega) ?_ ?_ o hM
 ·intro again x o h0 h1 hb hm
  have hw : Go.IntKind.wrap .i64 (x + 1) = x + 1 := w64 (by omega) (by omega)
  have he := y5Y o (y0 s x) (hk _ hm) (by omega)
  unfold Zf
  simp only [Bool.cond_eq_ite, decide_eq_true_eq, h0, h1, if_true, hw, he, Option.bind_some]
  rfl
 ·intro again x o hx
  unfold Zf
  simp only [Bool.cond_eq_ite, decide_eq_true_eq, if_neg hx]
theorem ygY (k0 : List y7 × Int × Int × PT → Option R) (m i : Int) (nd : List y9) (t' : List y7) (hl : nd.length ≤ 1000) (hs : ∀ s ∈ nd, List.length s ≤ 60 ∧ ∀ k ∈ (show List y8 from s), Jj k = true) (hM : List.length o + (v9 Kq nd 0).length ≤ 900000) :
  kS k0 (t', m, i, nd, ((List.length nd : Nat) : Int), 0, q, t, l, cs, vs, z, o) = k0 (t', m, i, q, t, l, cs, vs, z, o ++ v9 Kq nd 0) := by
 unfold kS
 refine we (step := Zg k0) yT Kq nd (fun j o => (t', m, i, nd, ((List.length nd : Nat) : Int), j, q, t, l, cs, vs, z, o)) (fun o => k0 (t', m, i, q, t, l, cs, vs, z, o)) 900000 (by omega) ?_ ?_ o hM
 ·intro again j o h0 h1 hb hm
  have hw : Go.IntKind.wrap .i64 (j + 1) = j + 1 := w64 (by omega) (by omega)
  have hsj := hs _ hm
  have hlen := Kb qf 6 (yh nd j) 0 fun a _ j => Nat.le_refl _
  have h60 : List.length (yh nd j) ≤ 60 := hsj.1
  unfold Zg
  simp only [Bool.cond_eq_ite, decide_eq_true_eq, h0, h1, if_true, hw]
  rw [if_pos (by simp only [List.length_cons, List.length_nil]; omega), ygX q t l cs vs z _ _ m i _ j nd t' (yh nd j) h60 hsj.2 (by rw [List.length_append]; simp only [List.length_cons, List.length_nil]; omega)]
  simp only [hw, List.append_assoc]
  rfl
 ·intro again j o hj
  unfold Zg
  simp only [Bool.cond_eq_ite, decide_eq_true_eq, if_neg hj]
theorem y6R (o : List Int) (i : Int) (n : y7) : ((o ++ two (q.getD i.toNat 0)) ++ [b8 ((List.length n : Nat) : Int)]) ++ v9 Kq n 0 = o ++ jj q i n := by
 unfold jj
 simp only [List.append_assoc]
theorem ygZ (k0 : List z0 → Option R) (hl : t.length ≤ 1000) (hq : q.length = t.length) (hn : ∀ n ∈ t, List.length n ≤ 3) (hs : ∀ n ∈ t, ∀ s ∈ (show List y9 from n), List.length s ≤ 60 ∧ ∀ k ∈ (show List y8 from s), Jj k = true) (hM : List.length o + (v9 (jj q) t 0).length ≤ 800000) :
  kE k0 (0, q, t, l, cs, vs, z, o) = k0 (o ++ v9 (jj q) t 0) := by
 unfold kE
 refine we (step := Z5 k0) zg (jj q) t (fun i o => (i, q, t, l, cs, vs, z, o)) k0 800000 (by omega) ?_ ?_ o hM
 ·intro again i o h0 h1 hb hm
  have hw : Go.IntKind.wrap .i64 (i + 1) = i + 1 := w64 (by omega) (by omega)
  have he := YH o (zy q i) (by omega)
  have hlen : List.length (o ++ two (zy q i)) = List.length o + 2 := by rw [List.length_append]; rfl
  have hq1 : i < ((List.length q : Nat) : Int) := by omega
  have h3 : List.length (ym t i) ≤ 3 := hn _ hm
  have hsets := y9c (ym t i) h3 fun s hs' => (hs _ hm s hs').1
  unfold Z5
  simp only [Bool.cond_eq_ite, decide_eq_true_eq, h0, h1, hq1, if_true, hw, he, Option.bind_some]
  rw [if_pos (by simp only [List.length_cons, List.length_nil]; omega), ygW q t l cs vs z _ _ i h0 h1 (by omega) (hs _ hm) (by rw [List.length_append, hlen]; simp only [List.length_cons, List.length_nil]; omega)]
  simp only [hw]
  exact congrArg (fun o' => again (i + 1, q, t, l, cs, vs, z, o')) (y6R q o i (ym t i))
 ·intro again i o hi
  unfold Z5
  simp only [Bool.cond_eq_ite, decide_eq_true_eq, if_neg hi]
theorem yh0 (k0 : List z0 → Option R) (hl : t.length ≤ 1000) (hq : q.length = t.length) (hn : ∀ n ∈ t, List.length n ≤ 3) (hs : ∀ n ∈ t, ∀ s ∈ (show List y9 from n), List.length s ≤ 60 ∧ ∀ k ∈ (show List y8 from s), Jj k = true) (hM : List.length o + (v9 (jj q) t 0).length ≤ 800000) :
  kU k0 (t, ((List.length t : Nat) : Int), 0, q, t, l, cs, vs, z, o) = k0 (o ++ v9 (jj q) t 0) := by
 unfold kU
 refine we (step := Zh k0) zg (jj q) t (fun i o => (t, ((List.length t : Nat) : Int), i, q, t, l, cs, vs, z, o)) k0 800000 (by omega) ?_ ?_ o hM
 ·intro again i o h0 h1 hb hm
  have hw : Go.IntKind.wrap .i64 (i + 1) = i + 1 := w64 (by omega) (by omega)
  have he := zW o (zy q i) (by omega)
  have hlen : List.length (o ++ two (zy q i)) = List.length o + 2 := by rw [List.length_append]; rfl
  have hq1 : i < ((List.length q : Nat) : Int) := by omega
  have h3 : List.length (ym t i) ≤ 3 := hn _ hm
  have hsets := y9c (ym t i) h3 fun s hs' => (hs _ hm s hs').1
  unfold Zh
  simp only [Bool.cond_eq_ite, decide_eq_true_eq, h0, h1, hq1, if_true, hw, he, Option.bind_some]
  rw [if_pos (by simp only [List.length_cons, List.length_nil]; omega), ygY q t l cs vs z _ _ _ i (ym t i) t (by omega) (hs _ hm) (by rw [List.length_append, hlen]; simp only [List.length_cons, List.length_nil]; omega)]
  simp only [hw]
  exact congrArg (fun o' => again (t, ((List.length t : Nat) : Int), i + 1, q, t, l, cs, vs, z, o')) (y6R q o i (ym t i))
 ·intro again i o hi
  unfold Zh
  simp only [Bool.cond_eq_ite, decide_eq_true_eq, if_neg hi]
end
noncomputable def y0V (q : List Int) (t : List y7) (l : List yo) (cs : List yb) (vs : List yA) (z : Int) : List Int := if J5 q t l cs vs z = true then Jk q t l cs vs z else []
theorem y5p (q : List Int) (t : List y7) (l : List yo) (cs : List yb) (vs : List yA) (z : Int) (ht : TOk t) (hl : l.length ≤ 1048576) (hc : cs.length ≤ 1048576) (hv : vs.length ≤ 1048576) (hvn : ∀ v ∈ vs, ByteArray.size v.1 ≤ maxLen) : JL (q, t, l, cs, vs, z) = some (y0V q t l cs vs z) := by
 unfold JL y0V
 simp only [y1j q t l cs vs z ht hl hc hv hvn, Option.bind_some]
 cases hp : J5 q t l cs vs z with
 | false => rfl
 | true =>
  have h := ynC hp
  have h1 := y9d h
  have h2 := y9e h
  have h3 := y5m h
  have h4 := yaD h
  simp only [Bool.not_true, cond_false, if_true, YH [] z (by decide), Option.bind_some, List.nil_append]
  rw [if_pos (by simp only [two, List.length_cons, List.length_nil]; omega), yjc q t l cs vs z _ _ (by have := h.ll; omega) (by simp only [two, List.length_append, List.length_cons, List.length_nil]; omega)]
  simp only []
  rw [if_pos (by simp only [two, List.length_append, List.length_cons, List.length_nil]; omega), ygS q t l cs vs z _ _ (by have := h.vl; omega) h.nm (by simp only [two, List.length_append, List.length_cons, List.length_nil]; omega)]
  simp only []
  rw [ygU q t l cs vs z _ _ (by have := h.cl; omega) (by simp only [two, List.length_append, List.length_cons, List.length_nil]; omega)]
  simp only []
  rw [if_pos (by simp only [two, List.length_append, List.length_cons, List.length_nil]; omega), ygZ q t l cs vs z _ _ (by have := h.tl; omega) h.ql h.nl h.sl (by simp only [two, List.length_append, List.length_cons, List.length_nil]; omega)]
  rfl
theorem y5q (q : List Int) (t : List y7) (l : List yo) (cs : List yb) (vs : List yA) (z : Int) (ht : TOk t) (hl : l.length ≤ 1048576) (hc : cs.length ≤ 1048576) (hv : vs.length ≤ 1048576) (hvn : ∀ v ∈ vs, ByteArray.size v.1 ≤ maxLen) : JR (q, t, l, cs, vs, z) = some (y0V q t l cs vs z) := by
 unfold JR y0V
 simp only [y1k q t l cs vs z ht hl hc hv hvn, Option.bind_some]
 cases hp : J5 q t l cs vs z with
 | false => rfl
 | true =>
  have h := ynC hp
  have h1 := y9d h
  have h2 := y9e h
  have h3 := y5m h
  have h4 := yaD h
  simp only [Bool.not_true, cond_false, if_true, zW [] z (by decide), Option.bind_some, List.nil_append]
  rw [if_pos (by simp only [two, List.length_cons, List.length_nil]; omega), yjd q t l cs vs z _ _ (by have := h.ll; omega) (by simp only [two, List.length_append, List.length_cons, List.length_nil]; omega)]
  simp only []
  rw [if_pos (by simp only [two, List.length_append, List.length_cons, List.length_nil]; omega), ygT q t l cs vs z _ _ (by have := h.vl; omega) h.nm (by simp only [two, List.length_append, List.length_cons, List.length_nil]; omega)]
  simp only []
  rw [ygV q t l cs vs z _ _ (by have := h.cl; omega) (by simp only [two, List.length_append, List.length_cons, List.length_nil]; omega)]
  simp only []
  rw [if_pos (by simp only [two, List.length_append, List.length_cons, List.length_nil]; omega), yh0 q t l cs vs z _ _ (by have := h.tl; omega) h.ql h.nl h.sl (by simp only [two, List.length_append, List.length_cons, List.length_nil]; omega)]
  rfl
end Go.Proofs.YtmapoakbdgpamaaGreat.Pl
namespace Go.Proofs.YtmapoakbdgpamaaGreat.Pl
open Go.Proofs.YtmapoakbdgpamaaGreat.R Go.Proofs.YtmapoakbdgpamaaGreat.XQ
def y9f (a b c d e : Int) : Bool := inR a 1 60000 && inR b 0 1 && inR c 0 1680 && inR d 0 4294967295 && inR e 1 60000
theorem y5r (a b c d e : Int) : JM (a, b, c, d, e) = some (y9f a b c d e) := by
 unfold JM y9f
 simp only [ZH, Option.bind_some, Bool.cond_eq_ite]
 cases inR a 1 60000 <;> cases inR b 0 1 <;> cases inR c 0 1680 <;> cases inR d 0 4294967295 <;> cases inR e 1 60000 <;> rfl
theorem y5s (a b c d e : Int) : JU (a, b, c, d, e) = some (y9f a b c d e) := by
 unfold JU y9f
 simp only [zV, Option.bind_some, Bool.cond_eq_ite]
 cases inR a 1 60000 <;> cases inR b 0 1 <;> cases inR c 0 1680 <;> cases inR d 0 4294967295 <;> cases inR e 1 60000 <;> rfl
def y5Z (a b c d e : Int) : List Int := [a / 256 % 256, a % 256, b % 256, c / 256 % 256, c % 256, d / 16777216 % 256, d / 65536 % 256, d / 256 % 256, d % 256, e / 256 % 256, e % 256]
def enc (a b c d e : Int) : List Int := y5Z a b c d e ++ ykO (crc (y5Z a b c d e))
theorem y5t (a b c d e : Int) : Y2 (y5Z a b c d e) := by
 intro x hx
 simp only [y5Z, List.mem_cons, List.mem_nil_iff, or_false] at hx
 rcases hx with h | h | h | h | h | h | h | h | h | h | h <;> subst h <;> omega
theorem y3B (a b c d e : Int) : J2 (a, b, c, d, e) = some (if y9f a b c d e = true then enc a b c d e else []) := by
 unfold J2
 simp only [y5s, Option.bind_some]
 cases y9f a b c d e with
 | false => rfl
 | true =>
  simp only [Bool.not_true, cond_false, if_true, y2L]
  rw [zW [] a (by simp)]
  simp only [Option.bind_some, List.nil_append]
  rw [if_pos (by simp [two]), zW _ c (by simp [two])]
  simp only [Option.bind_some]
  rw [ygQ _ d (by simp [two])]
  simp only [Option.bind_some]
  rw [zW _ e (by simp [two, ykO])]
  simp only [Option.bind_some]
  rw [show two a ++ [b % 256] ++ two c ++ ykO d ++ two e = y5Z a b c d e from rfl, y5e _ (y5t a b c d e) (by simp [y5Z])]
  simp only [Option.bind_some]
  rw [ygQ _ _ (by simp [y5Z])]
  rfl
theorem y3C (a b c d e : Int) : jR (a, b, c, d, e) = some (if y9f a b c d e = true then enc a b c d e else []) := by
 unfold jR
 simp only [y5r, Option.bind_some]
 cases y9f a b c d e with
 | false => rfl
 | true =>
  simp only [Bool.not_true, cond_false, if_true, y2L]
  rw [YH [] a (by simp)]
  simp only [Option.bind_some, List.nil_append]
  rw [if_pos (by simp [two]), YH _ c (by simp [two])]
  simp only [Option.bind_some]
  rw [y6P _ d (by simp [two])]
  simp only [Option.bind_some]
  rw [YH _ e (by simp [two, ykO])]
  simp only [Option.bind_some]
  rw [show two a ++ [b % 256] ++ two c ++ ykO d ++ two e = y5Z a b c d e from rfl, y5d _ (y5t a b c d e) (by simp [y5Z])]
  simp only [Option.bind_some]
  rw [y6P _ _ (by simp [y5Z])]
  rfl
end Go.Proofs.YtmapoakbdgpamaaGreat.Pl
namespace Go.Proofs.YtmapoakbdgpamaaGreat.Pl
open Go.Proofs.YtmapoakbdgpamaaGreat.R Go.Proofs.YtmapoakbdgpamaaGreat.XQ
theorem yaF : ∀ (s : List y8) (i : Int), (v9 qf s i).length = 6 * s.length
 | [], _ => rfl
 | a :: s, i => by
  rw [v9, List.length_append, yaF s (i + 1), yeE, List.length_cons]
  omega
theorem ydr : ∀ (n : List y9) (s : Int), 0 ≤ s → s + 60 * n.length ≤ 1000 → (∀ a ∈ n, List.length a ≤ 60) → ∃ k : Nat, n.foldl y3e s = s + k ∧ ∀ i, (v9 Kq n i).length = n.length + 6 * k
 | [], s, _, _, _ => ⟨0, by simp, fun _ => rfl⟩
 | a :: n, s, h0, hb, ha => by
  have h1 := ha a (by simp)
  rw [List.length_cons] at hb
  have hw : y3e s a = s + (List.length a : Int) := w64 (by omega) (by omega)
  obtain ⟨k, e1, e2⟩ := ydr n (s + (List.length a : Int)) (by omega) (by omega) fun b hm => ha b (by simp [hm])
  refine ⟨List.length a + k, ?_, fun i => ?_⟩
  ·rw [List.foldl_cons, hw, e1]
   omega
  ·have h6 := yaF a 0
   rw [v9, List.length_append, e2, Kq, List.length_append, List.length_cons]
   simp only [List.length_cons, List.length_nil]
   omega
theorem yje (q : List Int) (i : Int) (n : y7) (h : K3 n = true) : (jj q i n).length ≤ 54 := by
 obtain ⟨h1, h2⟩ := y5l h
 unfold K3 at h
 simp only [Bool.and_eq_true, decide_eq_true_eq] at h
 obtain ⟨k, e1, e2⟩ := ydr n 0 (Int.le_refl _) (by omega) fun a ha => (ydq (h2 a ha)).1
 have h3 := h.2.2
 unfold jj
 rw [List.length_append, List.length_append, e2]
 simp only [two, List.length_cons, List.length_nil]
 omega
theorem y5u {q : List Int} {t : List y7} {l : List yo} {cs : List yb} {vs : List yA} {z : Int} (h : J5 q t l cs vs z = true) : (Jk q t l cs vs z).length ≤ 1680 := by
 have hF := ynC h
 unfold J5 at h
 simp only [Bool.and_eq_true] at h
 obtain ⟨t1, t2, t3, t4⟩ := yaC h.1
 have h1 := y9d hF
 have h2 := y9e hF
 have h3 := y5m hF
 have h4 := Kb (jj q) 54 t 0 fun n hn j => yje q j n (t4 n hn)
 unfold Jk
 simp only [List.length_append, two, List.length_cons, List.length_nil]
 omega
theorem Qn {a : Int} {l : List Int} (h : 0 ≤ a ∧ a < 256) (hl : Y2 l) : Y2 (a :: l) := fun x hx => (List.mem_cons.1 hx).elim (fun e => e ▸ h) (hl x)
theorem yds : Y2 [] := fun x hx => by cases hx
theorem ycj (x : Int) : 0 ≤ b8 x ∧ b8 x < 256 := by
 unfold b8
 rw [y2L]
 omega
theorem ykQ (b : Bool) : 0 ≤ bit b ∧ bit b < 256 := by cases b <;> decide
theorem K5 {A : Type} (f : Int → A → List Int) (h : ∀ i a, Y2 (f i a)) : ∀ (l : List A) (i : Int), Y2 (v9 f l i)
 | [], _ => yds
 | a :: l, i => yP (h i a) (K5 f h l (i + 1))
theorem y2h (q : List Int) (t : List y7) (l : List yo) (cs : List yb) (vs : List yA) (z : Int) : Y2 (Jk q t l cs vs z) := by
 have b1 := fun x => Qn (ycj x) yds
 have bk : ∀ i a, Y2 (qf i a) := fun i a => yP (Qn (ycj _) (Qn (ycj _) (Qn (ycj _) (b1 _)))) (Q0 _)
 have bs : ∀ i a, Y2 (Kq i a) := fun i a => yP (b1 _) (K5 qf bk a 0)
 have bn : ∀ i a, Y2 (jj q i a) := fun i a => yP (Q0 _) (yP (b1 _) (K5 Kq bs a 0))
 have ba : ∀ i a, Y2 (y0L i a) := fun i a => Qn (ycj _) (b1 _)
 have bv : ∀ i a, Y2 (Q1 i a) := fun i a => yP (yjb _) (Qn (ycj _) (Qn (ycj _) (Qn (ykQ _) yds)))
 have bc : ∀ i a, Y2 (K4 i a) := fun i a => yP (Q0 _) (yP (Qn (ykQ _) yds) (Q0 _))
 unfold Jk
 exact yP (yP (yP (yP (yP (yP (yP (Q0 _) (b1 _)) (K5 y0L ba l 0)) (b1 _)) (K5 Q1 bv vs 0)) (K5 K4 bc cs 0)) (b1 _)) (K5 (jj q) bn t 0)
section
variable (q : List yp) (t : List y7) (l : List yo) (cs : List yb) (vs : List yA) (nx gen bs sq : Int)
theorem y3k (s : List y6) (c : List yQ) (z : Int) (b : Bool) (n : Int) (p : List Int) (h : y3x s c z) : yW (s, c, z, b, q, t, l, cs, vs, nx, gen, bs, sq, n, p) = some (VF q t l cs vs nx gen bs sq (s, wrK s (c, z, b) n p)) := by
 obtain ⟨h1, h2, h3, h4, h5, h6, h7⟩ := h
 have hw : Go.IntKind.wrap .i64 ((s.length : Int) - 1) = (s.length : Int) - 1 := w64 (by omega) (by omega)
 have hw2 : Go.IntKind.wrap .i64 (z - 1) = z - 1 := w64 (by omega) (by omega)
 unfold yW wrK
 simp only [hw, ZH, Option.bind_some]
 cases b with
 | true => rfl
 | false =>
  rw [if_neg (by simp)]
  cases hin : inR n 0 ((s.length : Int) - 1) with
  | false => rfl
  | true =>
   rw [if_neg (by simp)]
   by_cases a1 : (p.length : Int) > 80
   ·rw [if_pos a1, decide_eq_true a1]
    rfl
   ·rw [if_neg a1, decide_eq_false a1]
    by_cases a2 : (c.length : Int) ≥ 60
    ·rw [if_pos a2, decide_eq_true a2]
     rfl
    ·rw [if_neg a2, decide_eq_false a2]
     unfold Yd
     simp only [Bool.not_true, cond_false, Option.bind_some, hw2]
     by_cases a3 : z = 0
     ·subst a3
      rfl
     ·rw [if_neg a3, show (z == 0) = false from by simpa using a3, cond_false]
      have g1 : (List.length ([] : List z0) + p.length) * 1 < 140737488355328 := by
       simp only [List.length_nil]
       omega
      have g2 : (c.length + List.length ([(n, ([] : List z0) ++ p)] : List yQ)) * 32 < 140737488355328 := by
       simp only [List.length_cons, List.length_nil]
       omega
      by_cases a4 : z > 0
      ·rw [if_pos a4, decide_eq_true a4]
       simp only [cond_true, Option.bind_some, Bool.not_true, cond_false]
       rw [if_pos g1, if_pos g2]
       rfl
      ·rw [if_neg a4, decide_eq_false a4]
       simp only [cond_false, Option.bind_some, Bool.not_true]
       rw [if_pos g1, if_pos g2]
       rfl
end
theorem yeG (q : List yp) (t : List y7) (l : List yo) (cs : List yb) (vs : List yA) (nx gen bs sq : Int) (s : List y6) (c : List yQ) (z : Int) (b : Bool) (side : Int) (p : List Int) (h : y3x s c z) (hside : inR side 0 1 = true) (hp : p.length ≤ 1680) : zR (s, c, z, b, q, t, l, cs, vs, nx, gen, bs, sq, side, p) = some (VF q t l cs vs nx gen bs sq (s, y9a s side p 24 0 (c, z, b))) := by
 unfold zR Wu
 refine zU (step := Y7 _) (fun x : Int × List Int × Int × Int × Bool × Int × Int × Int × Int × List y6 × List yQ × List yp × List y7 × List yo × List yb × List yA => 24 - x.2.2.1.toNat) (fun x => inR x.1 0 1 = true ∧ x.2.1.length ≤ 1680 ∧ 0 ≤ x.2.2.1 ∧ x.2.2.1 ≤ 24 ∧ y3x x.2.2.2.2.2.2.2.2.2.1 x.2.2.2.2.2.2.2.2.2.2.1 x.2.2.2.1)
  (fun x => some (VF x.2.2.2.2.2.2.2.2.2.2.2.1 x.2.2.2.2.2.2.2.2.2.2.2.2.1 x.2.2.2.2.2.2.2.2.2.2.2.2.2.1 x.2.2.2.2.2.2.2.2.2.2.2.2.2.2.1 x.2.2.2.2.2.2.2.2.2.2.2.2.2.2.2 x.2.2.2.2.2.1 x.2.2.2.2.2.2.1 x.2.2.2.2.2.2.2.1 x.2.2.2.2.2.2.2.2.1 (x.2.2.2.2.2.2.2.2.2.1, y9a x.2.2.2.2.2.2.2.2.2.1 x.1 x.2.1 (24 - x.2.2.1.toNat) x.2.2.1 (x.2.2.2.2.2.2.2.2.2.2.1, x.2.2.2.1, x.2.2.2.2.1)))) ?_ (side, p, 0, z, b, nx, gen, bs, sq, s, c, q, t, l, cs, vs) ⟨hside, hp, Int.le_refl _, by simp, h⟩ (by simp)
 rintro again ⟨side, p, i, z, b, nx, gen, bs, sq, s, c, q, t, l, cs, vs⟩ ⟨hside, hp, i0, i1, hd⟩ hag
 simp only at hside hp i0 i1 hd ⊢
 have w1 : Go.IntKind.wrap .i64 (i * 70) = i * 70 := w64 (by omega) (by omega)
 have w2 : Go.IntKind.wrap .i64 (i + 1) = i + 1 := w64 (by omega) (by omega)
 have w3 : Go.IntKind.wrap .i64 ((i + 1) * 70) = (i + 1) * 70 := w64 (by omega) (by omega)
 unfold Y7
 simp only [w1, w2, w3]
 by_cases hi : i * 70 < (p.length : Int)
 ·have e1 : 24 - i.toNat = (24 - (i + 1).toNat) + 1 := by omega
  rw [decide_eq_true hi, cond_true, e1, y9a, if_pos hi, y5U side i hside i0 (by omega)]
  simp only [Option.bind_some]
  have hcall : ∀ x, x = yeA p i → Option.bind (yW (s, c, z, b, q, t, l, cs, vs, nx, gen, bs, sq, 8 + side * 24 + i, x)) (fun r => again (side, p, i + 1, r.2.2.1, r.2.2.2.1, r.2.2.2.2.2.2.2.2.2.1, r.2.2.2.2.2.2.2.2.2.2.1, r.2.2.2.2.2.2.2.2.2.2.2.1, r.2.2.2.2.2.2.2.2.2.2.2.2, r.1, r.2.1, r.2.2.2.2.1, r.2.2.2.2.2.1, r.2.2.2.2.2.2.1, r.2.2.2.2.2.2.2.1, r.2.2.2.2.2.2.2.2.1)) = some (VF q t l cs vs nx gen bs sq (s, y9a s side p (24 - (i + 1).toNat) (i + 1) (wrK s (c, z, b) (8 + side * 24 + i) (yeA p i)))) := by
   rintro x rfl
   rw [y3k q t l cs vs nx gen bs sq s c z b _ _ hd]
   exact hag _ ⟨hside, hp, by simp only; omega, by simp only; omega, ydl s c z b _ _ hd⟩ (by simp only; omega)
  by_cases he : (i + 1) * 70 > (p.length : Int)
  ·rw [decide_eq_true he, cond_true, if_pos (by omega), if_pos (by omega), if_pos (by omega)]
   exact hcall _ (by rw [yeA, y99, if_pos he])
  ·rw [decide_eq_false he, cond_false, if_pos (by omega), if_pos (by omega), if_pos (by omega)]
   exact hcall _ (by rw [yeA, y99, if_neg he])
 ·rw [decide_eq_false hi, cond_false, ydm _ _ _ _ _ _ hi]
  rfl
noncomputable def ckI (s : List y6) (c : List yQ) (u : Int) (b : Bool) (g : Int) (p : List Int) : List y6 × List yQ × Int × Bool := ((flK s c u b).1, y9a (flK s c u b).1 g p 24 0 (flK s c u b).2)
noncomputable def ckF (d : List y6 × List yQ × Int × Bool) : List y6 × List yQ × Int × Bool := flK d.1 d.2.1 d.2.2.1 d.2.2.2
noncomputable def ckW (d : List y6 × List yQ × Int × Bool) (n : Int) (p : List Int) : List y6 × List yQ × Int × Bool := (d.1, wrK d.1 d.2 n p)
noncomputable def yh7 (g m : Int) (p : List Int) : List Int := if y9f g (g % 2) (p.length : Int) (crc p) m = true then enc g (g % 2) (p.length : Int) (crc p) m else []
noncomputable def ckK (s : List y6) (c : List yQ) (u : Int) (b : Bool) (g m : Int) (p : List Int) : List y6 × List yQ × Int × Bool := ckF (ckW (ckF (ckI s c u b (g % 2) p)) (g % 2) (yh7 g m p))
section
variable {s : List y6} {c : List yQ} {u : Int} (b : Bool) (g : Int) (p : List Int) (h : y3x s c u)
include h
theorem yh1 : y3x (ckI s c u b g p).1 (ckI s c u b g p).2.1 (ckI s c u b g p).2.2.1 := ygK _ g p 24 0 _ (ydo s c u b h)
end
theorem yh2 (d : List y6 × List yQ × Int × Bool) (n : Int) (p : List Int) (h : y3x d.1 d.2.1 d.2.2.1) : y3x (ckW d n p).1 (ckW d n p).2.1 (ckW d n p).2.2.1 := ydl d.1 d.2.1 d.2.2.1 d.2.2.2 n p h
theorem ydt (d : List y6 × List yQ × Int × Bool) (h : y3x d.1 d.2.1 d.2.2.1) : y3x (ckF d).1 (ckF d).2.1 (ckF d).2.2.1 := ydo _ _ _ _ h
section
variable {s : List y6} {c : List yQ} (u : Int) (b : Bool) {q : List yp} {t : List y7} {l : List yo} {cs : List yb} {vs : List yA} (z a n m : Int) (h : SmallS s c q t l cs vs)
include h
theorem yaG (hd : y3x s c u) (hp : J5 q t l cs vs z = true) (a0 : 0 ≤ a) (a1 : a ≤ 49999) : Z6 (s, c, u, b, q, t, l, cs, vs, z, a, n, m) = some (if (ckK s c u b (a + 1) m (Jk q t l cs vs z)).2.2.2 = false then VF q t l cs vs z (a + 1) m m (ckK s c u b (a + 1) m (Jk q t l cs vs z)) else VF q t l cs vs z a n m (ckK s c u b (a + 1) m (Jk q t l cs vs z))) := by
 have w1 : Go.IntKind.wrap .i64 (a + 1) = a + 1 := w64 (by omega) (by omega)
 have hl := y5u hp
 have hs : inR ((a + 1) % 2) 0 1 = true := Zk.2 ⟨by omega, by omega⟩
 unfold Z6 ckK
 simp only [y5p q t l cs vs z h.T h.P.2.2.2.1 h.P.2.2.2.2.1 h.P.2.2.2.2.2 h.N, y0V, hp, if_true, Option.bind_some, w1, ynz _ (show 0 ≤ a + 1 by omega)]
 generalize hP : Jk q t l cs vs z = P at hl
 have hB : Y2 P := hP ▸ y2h q t l cs vs z
 rw [y5d P hB (by omega)]
 simp only [Option.bind_some, y0J q t l cs vs z a n m s c u b hd, VF]
 rw [yeG q t l cs vs z a n m _ _ _ _ ((a + 1) % 2) P (ydo s c u b hd) hs hl]
 have hI := yh1 b ((a + 1) % 2) P hd
 change Option.bind (some (VF q t l cs vs z a n m (ckI s c u b ((a + 1) % 2) P))) _ = _
 generalize ckI s c u b ((a + 1) % 2) P = D at hI
 simp only [Option.bind_some, VF]
 rw [y0J q t l cs vs z a n m _ _ _ _ hI]
 have hF := ydt D hI
 change Option.bind (some (VF q t l cs vs z a n m (ckF D))) _ = _
 generalize ckF D = D2 at hF
 simp only [Option.bind_some, VF, y3C]
 change Option.bind (yW (D2.1, D2.2.1, D2.2.2.1, D2.2.2.2, q, t, l, cs, vs, z, a, n, m, (a + 1) % 2, yh7 (a + 1) m P)) _ = _
 rw [y3k q t l cs vs z a n m _ _ _ _ _ _ hF]
 have hW := yh2 D2 ((a + 1) % 2) (yh7 (a + 1) m P) hF
 change Option.bind (some (VF q t l cs vs z a n m (ckW D2 ((a + 1) % 2) (yh7 (a + 1) m P)))) _ = _
 generalize ckW D2 ((a + 1) % 2) (yh7 (a + 1) m P) = D3 at hW
 simp only [Option.bind_some, VF]
 rw [y0J q t l cs vs z a n m _ _ _ _ hW]
 change Option.bind (some (VF q t l cs vs z a n m (ckF D3))) _ = _
 generalize ckF D3 = D4
 obtain ⟨d1, d2, d3, d4⟩ := D4
 simp only [Option.bind_some, VF, w1]
 cases d4 <;> rfl
theorem yAJ : ∃ D g k, zI (s, c, u, b, q, t, l, cs, vs, z, a, n, m) = some (VF q t l cs vs z g k m D) ∧ zl (s, c, u, b, q, t, l, cs, vs, z, a, n, m) = some (VF q t l cs vs z g k m D) ∧ VC D.1 D.2.1 := by
 by_cases hc : y3h 0 s c u q t l cs vs z a n m = true ∧ b = false ∧ a ≠ 50000
 ·obtain ⟨hk, rfl, ha⟩ := hc
  have hd := yeD hk
  have hk' := hk
  unfold y3h at hk'
  simp only [Bool.and_eq_true] at hk'
  obtain ⟨k1, k2, k3, k4, k5, k6, k7⟩ := hk'
  obtain ⟨a0, a1⟩ := Zk.1 k7
  have hs := yaG u false z a n m h hd k3 a0 (by omega)
  have w1 : Go.IntKind.wrap .i64 (a + 1) = a + 1 := w64 (by omega) (by omega)
  have hl := y5u k3
  have hs1 : inR ((a + 1) % 2) 0 1 = true := Zk.2 ⟨by omega, by omega⟩
  have hsp : zI (s, c, u, false, q, t, l, cs, vs, z, a, n, m) = Z6 (s, c, u, false, q, t, l, cs, vs, z, a, n, m) := by
   unfold zI
   simp only [y0K u false z a n m h, y2g u false z a n m h, ZH, Option.bind_some, k1, k2, k3, k4, k5, k6, Zk.2 (show 0 ≤ a ∧ a ≤ 49999 by omega), Bool.and_true, Bool.true_and, cond_true, Bool.not_false, hs]
  have him : zl (s, c, u, false, q, t, l, cs, vs, z, a, n, m) = some (if (ckK s c u false (a + 1) m (Jk q t l cs vs z)).2.2.2 = false then VF q t l cs vs z (a + 1) m m (ckK s c u false (a + 1) m (Jk q t l cs vs z)) else VF q t l cs vs z a n m (ckK s c u false (a + 1) m (Jk q t l cs vs z))) := by
   unfold zl ckK
   simp only [qZ u false z a n m h, y1n u false z a n m h 0, hk, Option.bind_some, Bool.not_true, cond_false, show (a == 50000) = false from by simpa using ha, y5q q t l cs vs z h.T h.P.2.2.2.1 h.P.2.2.2.2.1 h.P.2.2.2.2.2 h.N, y0V, k3, if_true, w1, ynz _ (show 0 ≤ a + 1 by omega)]
   generalize hP : Jk q t l cs vs z = P at hl
   have hB : Y2 P := hP ▸ y2h q t l cs vs z
   rw [y5e P hB (by omega)]
   have h1 := ydo s c u false hd
   simp only [Option.bind_some, v6 s c u false hd, y2f _ _ _ _ ((a + 1) % 2) P (qY h1), ygL, (y2e _ _ _).2 h1, hs1, decide_eq_true (show (P.length : Int) ≤ 1680 by omega), Bool.and_true, if_true]
   have hI := yh1 false ((a + 1) % 2) P hd
   change Option.bind (zw (ckI s c u false ((a + 1) % 2) P)) _ = _
   generalize ckI s c u false ((a + 1) % 2) P = D at hI
   rw [show zw D = some (ckF D) from v6 _ _ _ _ hI]
   have hF := ydt D hI
   generalize ckF D = D2 at hF
   simp only [Option.bind_some, y3B]
   change Option.bind (Yn (D2.1, D2.2.1, D2.2.2.1, D2.2.2.2, (a + 1) % 2, yh7 (a + 1) m P)) _ = _
   rw [QM _ _ _ _ _ _ hF]
   have hW := yh2 D2 ((a + 1) % 2) (yh7 (a + 1) m P) hF
   change Option.bind (some (ckW D2 ((a + 1) % 2) (yh7 (a + 1) m P))) _ = _
   generalize ckW D2 ((a + 1) % 2) (yh7 (a + 1) m P) = D3 at hW
   simp only [Option.bind_some]
   rw [v6 _ _ _ _ hW]
   change Option.bind (some (ckF D3)) _ = _
   generalize ckF D3 = D4
   obtain ⟨d1, d2, d3, d4⟩ := D4
   simp only [Option.bind_some]
   cases d4 <;> rfl
  rw [hsp, hs, him]
  have hD := qY (ydt _ (yh2 _ ((a + 1) % 2) (yh7 (a + 1) m (Jk q t l cs vs z)) (ydt _ (yh1 false ((a + 1) % 2) (Jk q t l cs vs z) hd))))
  by_cases hb : (ckK s c u false (a + 1) m (Jk q t l cs vs z)).2.2.2 = false
  ·rw [if_pos hb]
   exact ⟨_, _, _, rfl, rfl, hD⟩
  ·rw [if_neg hb]
   exact ⟨_, _, _, rfl, rfl, hD⟩
 ·refine ⟨(s, c, u, b), a, n, ?_, ?_, h.D⟩
  ·unfold zI
   simp only [y0K u b z a n m h, y2g u b z a n m h, ZH, Option.bind_some]
   have hL : ∀ L : Bool, (L = true → inR a 0 50000 = true → b = false → a ≠ 50000 → False) → ((bif L then some (inR a 0 49999) else some false).bind fun u3 => (bif u3 then some (!b) else some false)) = some false := by
    intro L hL
    cases L with
    | false => rfl
    | true =>
     cases ha : inR a 0 49999 with
     | false => rfl
     | true =>
      cases b with
      | true => rfl
      | false =>
       have h2 := Zk.1 ha
       exact absurd (hL rfl (Zk.2 (by omega)) rfl (by omega)) id
   have hc' := hL (yet s c u && (((s.length : Int) == 60) && (J5 q t l cs vs z && (inR n 1 50000 && (inR m n (IntKind.i64.wrap (n + 6)) && inR m 1 50000))))) fun h1 h2 h3 h4 => hc ⟨by
    unfold y3h
    rw [h2, Bool.and_true]
    exact h1, h3, h4⟩
   rw [← Option.bind_assoc, hc']
   rfl
  ·unfold zl
   simp only [qZ u b z a n m h, y1n u b z a n m h 0, Option.bind_some]
   cases hk : y3h 0 s c u q t l cs vs z a n m with
   | false => rfl
   | true =>
    cases b with
    | true => rfl
    | false =>
     have ha : a = 50000 := Classical.byContradiction fun hn => hc ⟨hk, rfl, hn⟩
     subst ha
     rfl
end
theorem law_Checkpoint (s : List y6) (c : List wK) (u : Int) (b : Bool) (is : List yp) (ns : List zF) (ags : List WV) (cs : List je) (vs : List jw) (z a n m : Int) (hs : s.length ≤ maxLen) (hss : ∀ a ∈ s, List.length a ≤ maxLen) (hsc : c.length ≤ maxLen) (hcc : ∀ a ∈ c, List.length a.2 ≤ maxLen)
  (hi : is.length ≤ maxLen) (hn : ns.length ≤ maxLen) (hnn : ∀ a ∈ ns, List.length a ≤ maxLen ∧ ∀ b ∈ (show List z4 from a), List.length b ≤ maxLen)
  (ha : ags.length ≤ maxLen) (hc : cs.length ≤ maxLen) (hv : vs.length ≤ maxLen) (hvv : ∀ a ∈ vs, ByteArray.size a.1 ≤ maxLen) : yY (s, c, u, b, is, ns, ags, cs, vs, z, a, n, m) = some true := by
 obtain ⟨r, hr, hcase⟩ := yeC s c u b is ns ags cs vs z a n m hs hss hsc hcc hi hn hnn ha hc hv hvv
 unfold yY
 simp only [hr, Option.bind_some]
 rw [Bool.cond_eq_ite]
 by_cases h : r < 0
 ·rw [if_pos (by simpa using h)]
 ·rw [if_neg (by simpa using h)]
  have hS := hcase.resolve_left h
  obtain ⟨⟨d1, d2, d3, d4⟩, g, k, e1, e2, hD⟩ := yAJ u b z a n m hS
  have hS2 : SmallS d1 d2 is ns ags cs vs := ⟨hD, hS.P, hS.T, hS.N⟩
  obtain ⟨r1, s1, c1, q1, t1, l1, dd1, v1, k1, k2, k3⟩ := y3j u b z a n m hS
  obtain ⟨r2, s2, c2, q2, t2, l2, dd2, v2, g1, g2, g3⟩ := y3j d3 d4 z g k m hS2
  simp only [yeB u b z a n m hS, e1, e2, y3i u b z a n m hS, k1, Option.bind_some, VF]
  simp only [y3i d3 d4 z g k m hS2, g1, g2, Option.bind_some, Bool.not_true, cond_false]
  rw [decide_eq_false (show ¬ r1 < 0 by omega), decide_eq_false (show ¬ r2 < 0 by omega)]
  simp
end Go.Proofs.YtmapoakbdgpamaaGreat.Pl
