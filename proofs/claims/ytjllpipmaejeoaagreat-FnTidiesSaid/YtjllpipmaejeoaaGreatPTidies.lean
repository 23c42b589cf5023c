/- Draw, Crc, ReadW, Four, Crc1, Draw2, Put4, Txt, PutPool, Ops, Apply, Apply2, Take, Do1, Do2, Do3, Sem1, Move, Move2, Apply3, EntDraw, DrawP, DrawQ, Sem2, Sem3, Sem4, Same, Reads, Prog1, Prog2, Prog3, Tidy1, Maps, Tidies. No condition. -/
import Derived.Test.YtjllpipmaejeoaaGreatPPrune2
set_option linter.all false
namespace Go.Proofs.YtjllpipmaejeoaaGreat.Pl
open Go.Proofs.YtjllpipmaejeoaaGreat.R Go.Proofs.YtjllpipmaejeoaaGreat.XU
def Vz (c : List Int) (p : Int) : Prop := c.length ≤ 1099511627776 ∧ 0 ≤ p ∧ p ≤ c.length
def ydd {A : Type} (o : Option (A × List Int × Int × Int)) (c : List Int) (Q : A → Prop) : Prop := ∃ v p s, o = some (v, c, p, s) ∧ Vz c p ∧ Q v
theorem yaZ (c : List Int) (p s : Int) (h : Vz c p) : ydd (YX (c, p, s)) c (fun v => 0 ≤ v ∧ v < 256) := by
 obtain ⟨h1, h2, h3⟩ := h
 unfold YX
 simp only [Bool.cond_eq_ite, decide_eq_true_eq, yrW]
 by_cases hp : p < (c.length : Int)
 ·rw [if_pos hp, if_pos h2, if_pos hp]
  refine ⟨_, _, _, rfl, ⟨h1, ?_, ?_⟩, by omega⟩
  ·rw [w64 (by omega) (by omega)]
   omega
  ·rw [w64 (by omega) (by omega)]
   omega
 ·rw [if_neg hp]
  exact ⟨_, _, _, rfl, ⟨h1, h2, h3⟩, by omega⟩
theorem y0n (c : List Int) (p s n : Int) (h : Vz c p) : ydd (yy (c, p, s, n)) c (fun v => 0 ≤ v ∧ (0 < n → v < n)) := by
 unfold yy
 simp only [Bool.cond_eq_ite, decide_eq_true_eq]
 by_cases hn : n ≤ 0
 ·rw [if_pos hn]
  exact ⟨_, _, _, rfl, h, Int.le_refl _, fun hh => by omega⟩
 ·rw [if_neg hn]
  obtain ⟨v1, p1, s1, e1, h1, q1⟩ := yaZ c p s h
  obtain ⟨v2, p2, s2, e2, h2, q2⟩ := yaZ c p1 s1 h1
  obtain ⟨v3, p3, s3, e3, h3, q3⟩ := yaZ c p2 s2 h2
  rw [e1]
  simp only [Option.bind_some]
  have mod : ∀ v : Int, 0 ≤ v → 0 ≤ Int.tmod v n ∧ (0 < n → Int.tmod v n < n) := fun v hv => by
   rw [Int.tmod_eq_emod_of_nonneg hv]
   exact ⟨Int.emod_nonneg _ (by omega), fun hh => Int.emod_lt_of_pos _ hh⟩
  by_cases h6 : n ≤ 256
  ·rw [if_pos h6, if_neg (by omega)]
   exact ⟨_, _, _, rfl, h1, mod _ q1.1⟩
  ·rw [if_neg h6, e2]
   simp only [Option.bind_some]
   rw [e3]
   simp only [Option.bind_some]
   rw [if_neg (by omega)]
   rw [w64 (n := v1 * 65536) (by omega) (by omega), w64 (n := v2 * 256) (by omega) (by omega), w64 (n := v1 * 65536 + v2 * 256) (by omega) (by omega), w64 (n := v1 * 65536 + v2 * 256 + v3) (by omega) (by omega)]
   exact ⟨_, _, _, rfl, h3, mod _ (by omega)⟩
theorem yc7 (c : List Int) (p s : Int) (L : List Int) (hL : 0 < L.length) (hL2 : L.length ≤ 1048576) (h : Vz c p) : ydd (zt (c, p, s, L)) c (fun v => v ∈ L) := by
 obtain ⟨v, p1, s1, e1, h1, q1⟩ := y0n c p s (L.length : Int) h
 have := q1.2 (by omega)
 unfold zt
 rw [e1]
 simp only [Option.bind_some]
 rw [if_pos q1.1, if_pos this]
 exact ⟨_, _, _, rfl, h1, ze y27 L v q1.1 this⟩
theorem yrZ (c : List Int) (hc : c.length ≤ 1099511627776) : ∃ s, V7 c = some (c, 0, s) := by
 have key := Js (step := kX (fun x2 : List Int × Int => some (x2.1, (0 : Int), x2.2))) (fun t : List Int × Int × Int => c.length - t.2.2.toNat) (fun t => t.1 = c ∧ 0 ≤ t.2.2 ∧ t.2.2 ≤ c.length) (fun _ res => ∃ s, res = some (c, 0, s)) ?_ (c, (Go.IntKind.wrap .i64 ((941941 : Int) + ((List.length c : Nat) : Int))), (0 : Int)) ⟨rfl, Int.le_refl _, by simp⟩ (by simp; omega)
 ·exact key
 ·rintro again ⟨c', s, i⟩ ⟨rfl, h0, h1⟩ hag
  simp only at h0 h1
  unfold kX
  simp only [Bool.cond_eq_ite, decide_eq_true_eq]
  by_cases hi : i < (c'.length : Int)
  ·rw [if_pos hi]
   simp only [Option.bind_some, decide_eq_true_eq]
   by_cases h4 : i < 4000
   ·rw [if_pos h4, if_pos h0, if_pos hi]
    have hw : Go.IntKind.wrap .i64 (i + 1) = i + 1 := w64 (by omega) (by omega)
    rw [hw]
    exact hag _ ⟨rfl, by simp only; omega, by simp only; omega⟩ (by simp only; omega)
   ·rw [if_neg h4]
    exact ⟨_, rfl⟩
  ·rw [if_neg hi]
   exact ⟨_, rfl⟩
end Go.Proofs.YtjllpipmaejeoaaGreat.Pl
namespace Go.Proofs.YtjllpipmaejeoaaGreat.Pl
open Go.Proofs.YtjllpipmaejeoaaGreat.R Go.Proofs.YtjllpipmaejeoaaGreat.XU
theorem yxI (l : List Int) (i : Int) : ygh l i = by_ l i := rfl
theorem ys0 {l : List Int} (h : isBytes l) (i : Int) : Go.IntKind.wrap .i64 (by_ l i) = by_ l i := by
 have := ybK h i
 exact w64 (by omega) (by omega)
end Go.Proofs.YtjllpipmaejeoaaGreat.Pl
namespace Go.Proofs.YtjllpipmaejeoaaGreat.Pl
open Go.Proofs.YtjllpipmaejeoaaGreat.R Go.Proofs.YtjllpipmaejeoaaGreat.XU
def w2 (l : List Int) (i : Int) : Int := by_ l i * 256 + by_ l (i + 1)
end Go.Proofs.YtjllpipmaejeoaaGreat.Pl
namespace Go.Proofs.YtjllpipmaejeoaaGreat.Pl
open Go.Proofs.YtjllpipmaejeoaaGreat.R Go.Proofs.YtjllpipmaejeoaaGreat.XU
end Go.Proofs.YtjllpipmaejeoaaGreat.Pl
namespace Go.Proofs.YtjllpipmaejeoaaGreat.Pl
open Go.Proofs.YtjllpipmaejeoaaGreat.R Go.Proofs.YtjllpipmaejeoaaGreat.XU
end Go.Proofs.YtjllpipmaejeoaaGreat.Pl
namespace Go.Proofs.YtjllpipmaejeoaaGreat.Pl
open Go.Proofs.YtjllpipmaejeoaaGreat.R Go.Proofs.YtjllpipmaejeoaaGreat.XU
theorem yCP (x : List Int) (hx : x.length ≤ 1099511627776) : Vz x 0 := ⟨hx, Int.le_refl _, by omega⟩
end Go.Proofs.YtjllpipmaejeoaaGreat.Pl
namespace Go.Proofs.YtjllpipmaejeoaaGreat.Pl
open Go.Proofs.YtjllpipmaejeoaaGreat.R Go.Proofs.YtjllpipmaejeoaaGreat.XU
def two (x : Int) : List Int := [x / 256 % 256, x % 256]
end Go.Proofs.YtjllpipmaejeoaaGreat.Pl
namespace Go.Proofs.YtjllpipmaejeoaaGreat.Pl
open Go.Proofs.YtjllpipmaejeoaaGreat.R Go.Proofs.YtjllpipmaejeoaaGreat.XU
def tx (s : ByteArray) : List Int := two (s.size : Int) ++ V1 s
end Go.Proofs.YtjllpipmaejeoaaGreat.Pl
namespace Go.Proofs.YtjllpipmaejeoaaGreat.Pl
open Go.Proofs.YtjllpipmaejeoaaGreat.R Go.Proofs.YtjllpipmaejeoaaGreat.XU
structure PoolF (q : List Int) (t : List y0) (l : List ya) (cs : List y7) (vs : List ye) : Prop where
 ql : q.length = t.length
 tl : t.length ≤ 20
 ll : l.length ≤ 16
 cl : cs.length = 24
 vl : vs.length ≤ 6
 nm : ∀ v ∈ vs, ByteArray.size v.1 ≤ 6
 nl : ∀ n ∈ t, List.length n ≤ 3
 sl : ∀ n ∈ t, ∀ s ∈ (show List y9 from n), List.length s ≤ 60 ∧ ∀ k ∈ (show List y8 from s), zR k = true
theorem yxJ {q : List Int} {t : List y0} {l : List ya} {cs : List y7} {vs : List ye} {z : Int} (h : yr q t l cs vs z = true) : PoolF q t l cs vs := by
 unfold yr at h
 simp only [Bool.and_eq_true] at h
 obtain ⟨h1, h2, h3, _, _, h4, _⟩ := h
 obtain ⟨t1, t2, t3, t4⟩ := jw h1
 unfold jF at h2
 unfold yZ at h3
 unfold w6 at h4
 simp only [Bool.and_eq_true, Bool.not_eq_true', decide_eq_true_eq, beq_iff_eq] at h2 h3 h4
 refine ⟨t1, t3, by omega, by omega, by omega, fun v hv => ?_, fun n hn => (y1B (t4 n hn)).1, fun n hn s hs => y3k ((y1B (t4 n hn)).2 s hs)⟩
 obtain ⟨j, hj⟩ := w7 _ vs 0 h4.1 v hv
 unfold ydx at hj
 simp only [Bool.or_eq_false_iff, Bool.not_eq_false'] at hj
 have hn := hj.1
 unfold jv at hn
 simp only [Bool.and_eq_true, zl] at hn
 omega
section
variable {q : List Int} {t : List y0} {l : List ya} {cs : List y7} {vs : List ye} (z : Int) (h : PoolF q t l cs vs)
include h
end
end Go.Proofs.YtjllpipmaejeoaaGreat.Pl
namespace Go.Proofs.YtjllpipmaejeoaaGreat.Pl
open Go.Proofs.YtjllpipmaejeoaaGreat.R Go.Proofs.YtjllpipmaejeoaaGreat.XU
def yc8 (kind a b : Int) : Bool :=
 if kind = 2 then decide (a = 0) && inR b 0 1 else if kind = 3 ∨ kind = 7 then decide (a = 0) && decide (b = 0) else if kind = 4 then true else decide (b = 0)
def yfb (s : ByteArray) : Bool := s.toList == ([] : List UInt8)
def yxK (kind : Int) (name tt : ByteArray) (a b : Int) : Bool :=
 inR kind 1 9 && (if kind ≥ 7 then yfb name else jv name) && (if kind = 2 then jv tt else yfb tt) && isW a && isW b && yc8 kind a b
theorem y4q (kind : Int) (name tt : ByteArray) (a b : Int) : YD (kind, name, tt, a, b) = some (yc8 kind a b) := by
 unfold YD yc8
 simp only [Bool.cond_eq_ite, Zp, Option.bind_some, beq_iff_eq]
 by_cases h2 : kind = 2 <;> by_cases h3 : kind = 3 <;> by_cases h7 : kind = 7 <;> by_cases h4 : kind = 4 <;> by_cases ha : a = 0 <;> by_cases hb : b = 0 <;> simp_all
theorem y9a : (ByteArray.toList { data := #[] }) = [] := by
 unfold ByteArray.toList ByteArray.toList.loop
 rfl
theorem y9b (kind : Int) (name tt : ByteArray) (a b : Int) (hn : name.size ≤ maxLen) (ht : tt.size ≤ maxLen) : v9 (kind, name, tt, a, b) = some (yxK kind name tt a b) := by
 unfold v9 yxK yfb
 simp only [Bool.cond_eq_ite, wD _ hn, wD _ ht, Zp, q9, y4q, Option.bind_some, bi, y9a, decide_eq_true_eq]
 generalize (name.toList == ([] : List UInt8)) = n1
 generalize (tt.toList == ([] : List UInt8)) = n2
 generalize inR kind 1 9 = n3
 generalize yc8 kind a b = n4
 by_cases h7 : kind ≥ 7 <;> by_cases h2 : kind = 2 <;> simp only [h7, h2, if_true, if_false, Option.bind_some] <;> cases n1 <;> cases n2 <;> cases n3 <;> cases n4 <;> cases jv name <;> cases jv tt <;> cases isW a <;> cases isW b <;> rfl
end Go.Proofs.YtjllpipmaejeoaaGreat.Pl
namespace Go.Proofs.YtjllpipmaejeoaaGreat.Pl
open Go.Proofs.YtjllpipmaejeoaaGreat.R Go.Proofs.YtjllpipmaejeoaaGreat.XU
abbrev P7a : Type := List yb × List y0 × List ya × List y7 × List ye × Int × Int
theorem yiN {A : Type} {o : Option A} : (Option.bind o fun r => some r) = o := by cases o <;> rfl
theorem ylz {o : Option P7a} : (Option.bind o fun r => some (r.1, r.2.1, r.2.2.1, r.2.2.2.1, r.2.2.2.2.1, r.2.2.2.2.2.1, r.2.2.2.2.2.2)) = o := by cases o <;> rfl
theorem yxL {o : Option (List yb × List y0 × List ya × List y7 × List ye × Int × Bool)} : (Option.bind o fun r => some (r.1, r.2.1, r.2.2.1, r.2.2.2.1, r.2.2.2.2.1, r.2.2.2.2.2.1, r.2.2.2.2.2.2)) = o := by cases o <;> rfl
theorem yxM {o : Option (Bool × List yb × List y0 × List ya × List y7 × List ye × Int)} : (Option.bind o fun r => some (r.1, r.2.1, r.2.2.1, r.2.2.2.1, r.2.2.2.2.1, r.2.2.2.2.2.1, r.2.2.2.2.2.2)) = o := by cases o <;> rfl
theorem Jz {A : Type} {P : A → Prop} (b : Bool) {x y : A} (hx : b = true → P x) (hy : b = false → P y) : P (bif b then x else y) := by cases b <;> first | exact hx rfl | exact hy rfl
structure Tn (q : List yb) (t : List y0) (l : List ya) (cs : List y7) (vs : List ye) : Prop where
 ql : q.length ≤ 100
 T : TS t
 ll : l.length ≤ 100
 cl : cs.length = 24
 vl : vs.length ≤ 100
 N : ∀ v ∈ vs, ByteArray.size v.1 ≤ 60
 e : q.length = t.length
 p : 0 < t.length
theorem Tn.sp {q : List yb} {t : List y0} {l : List ya} {cs : List y7} {vs : List ye} (h : Tn q t l cs vs) : SP q t l cs vs := by
 have hT := h.T.ok
 refine ⟨⟨Nat.le_trans h.ql (by decide), hT.len, hT.sum, Nat.le_trans h.ll (by decide), by rw [h.cl]; decide, Nat.le_trans h.vl (by decide)⟩, fun v hv => Nat.le_trans (h.N v hv) (by decide)⟩
theorem y00 {q : List yb} {t : List y0} {l : List ya} {cs : List y7} {vs : List ye} {z : Int} (h : yr q t l cs vs z = true) : Tn q t l cs vs := by
 have hF := yxJ h
 unfold yr at h
 rw [Bool.and_eq_true] at h
 have h1 := jw h.1
 exact ⟨by have := hF.ql; have := hF.tl; omega, QV h.1, by have := hF.ll; omega, hF.cl, by have := hF.vl; omega, fun v hv => by have := hF.nm v hv; omega, hF.ql, by omega⟩
def Res (q : List yb) (t : List y0) (l : List ya) (cs : List y7) (vs : List ye) (z : Int) (o : Option P7a) : Prop :=
 ∃ q' t' l' cs' vs' z' c, o = some (q', t', l', cs', vs', z', c) ∧ (yr q' t' l' cs' vs' z' = true ∨ (q', t', l', cs', vs', z') = (q, t, l, cs, vs, z))
def YB (vs : List ye) (n : ByteArray) : Int := zQ (fun v : ye => ByteArray.toList v.1 == ByteArray.toList n) vs 0
theorem kR (vs : List ye) (n : ByteArray) : YB vs n = -1 ∨ (0 ≤ YB vs n ∧ YB vs n < vs.length) := by
 rcases YE (fun v : ye => ByteArray.toList v.1 == ByteArray.toList n) Yu vs 0 (Int.le_refl _) with h | ⟨h1, h2, h3⟩
 ·exact .inl h
 ·exact .inr ⟨h1, by simpa [YB] using h2⟩
section
variable (q : List yb) (t : List y0) (l : List ya) (cs : List y7) (vs : List ye) (z : Int)
theorem Zh (n : ByteArray) (hv : vs.length ≤ 1048576) : zn (q, t, l, cs, vs, z, n) = some (YB vs n) := by
 unfold zn y0C
 refine (Ze (step := wk _ _) (fun i => (n, i, q, t, l, cs, vs, z)) (fun v : ye => ByteArray.toList v.1 == ByteArray.toList n) (fun x => some x) (some (-1)) Yu vs (by omega) ?_ ?_).trans ?_
 ·intro again i h0 h1
  have hw : Go.IntKind.wrap .i64 (i + 1) = i + 1 := w64 (by omega) (by omega)
  unfold wk
  simp only [Bool.cond_eq_ite, decide_eq_true_eq, h0, h1, if_true, hw]
  rfl
 ·intro again i hi
  unfold wk
  simp only [Bool.cond_eq_ite, decide_eq_true_eq, if_neg hi]
 ·rcases kR vs n with h | ⟨h1, h2⟩ <;> unfold YB at *
  ·rw [h]
   rfl
  ·rw [if_neg (by omega)]
def yde (n : ByteArray) : Int := if yr q t l cs vs z = true ∧ jv n = true then 0 else 1
noncomputable def ysN (n : ByteArray) : Int := if yr q t l cs vs z = true ∧ jv n = true then (if YB vs n < 0 then 2 else 0) else 1
noncomputable def vV (n : ByteArray) (b : Int) : Int := if yr q t l cs vs z = true ∧ jv n = true then (if YB vs n < 0 then 2 else if (yj vs (YB vs n)).2.2.2 = true then 5 else if inR b 0 (Go.IntKind.wrap .i64 ((yj vs (YB vs n)).2.2.1 - 1)) = true then 0 else 4) else 1
variable {q t l cs vs} (h : SP q t l cs vs)
include h
theorem y01 (n : ByteArray) (hn : n.size ≤ maxLen) : Zl (q, t, l, cs, vs, z, n) = some (yde q t l cs vs z n) := by
 unfold Zl yde
 simp only [Zq z h, wD n hn, Option.bind_some]
 cases yr q t l cs vs z <;> cases jv n <;> rfl
theorem y4r (n : ByteArray) (hn : n.size ≤ maxLen) : JH (q, t, l, cs, vs, z, n) = some (ysN q t l cs vs z n) := by
 unfold JH ysN
 simp only [y01 z h n hn, Zh q t l cs vs z n h.S.2.2.2.2.2, Option.bind_some]
 unfold yde
 by_cases hc : yr q t l cs vs z = true ∧ jv n = true
 ·simp only [if_pos hc, beq_self_eq_true, cond_true, Option.bind_some]
  by_cases hv : YB vs n < 0
  ·simp only [if_pos hv, decide_eq_true hv]
   rfl
  ·simp only [if_neg hv, decide_eq_false hv]
   rfl
 ·simp only [if_neg hc]
  rfl
theorem qG (n : ByteArray) (hn : n.size ≤ maxLen) (b : Int) : YI (q, t, l, cs, vs, z, n, b) = some (vV q t l cs vs z n b) := by
 unfold YI vV
 simp only [y4r z h n hn, Zh q t l cs vs z n h.S.2.2.2.2.2, Zp, Option.bind_some]
 unfold ysN
 by_cases hc : yr q t l cs vs z = true ∧ jv n = true
 ·simp only [if_pos hc]
  by_cases hv : YB vs n < 0
  ·simp only [if_pos hv]
   rfl
  ·have h2 := kR vs n
   simp only [if_neg hv, show ((0 : Int) != 0) = false from rfl, cond_false, if_pos (show (0 : Int) ≤ YB vs n by omega), if_pos (show YB vs n < ((List.length vs : Nat) : Int) by omega)]
   cases (yj vs (YB vs n)).2.2.2 with
   | true => rfl
   | false => cases inR b 0 (Go.IntKind.wrap .i64 ((yj vs (YB vs n)).2.2.1 - 1)) <;> rfl
 ·simp only [if_neg hc]
  rfl
theorem y02 : yl (q, t, l, cs, vs, z) = some (q, t, l, cs, vs, z) := WZ q t l cs vs z h.S
omit h in
theorem Res.same (c : Int) : Res q t l cs vs z (some (q, t, l, cs, vs, z, c)) := ⟨_, _, _, _, _, _, c, rfl, .inr rfl⟩
theorem ys1 {q' : List yb} {t' : List y0} {l' : List ya} {cs' : List y7} {vs' : List ye} {z' : Int} (hx : SP q' t' l' cs' vs') (b : Bool) : yQ (q, t, l, cs, vs, z, q', t', l', cs', vs', z', b) = some (if b = true ∧ yr q' t' l' cs' vs' z' = true then (q', t', l', cs', vs', z', 0) else (q, t, l, cs, vs, z, 6)) := by
 unfold yQ
 simp only [Zq z' hx, y02 z h, Option.bind_some]
 cases b <;> cases hp : yr q' t' l' cs' vs' z' <;> simp
theorem Res.fin {q' : List yb} {t' : List y0} {l' : List ya} {cs' : List y7} {vs' : List ye} {z' : Int} (hx : SP q' t' l' cs' vs') (b : Bool) : Res q t l cs vs z (yQ (q, t, l, cs, vs, z, q', t', l', cs', vs', z', b)) := by
 rw [ys1 z h hx b]
 by_cases hc : b = true ∧ yr q' t' l' cs' vs' z' = true
 ·rw [if_pos hc]
  exact ⟨_, _, _, _, _, _, _, rfl, .inl hc.2⟩
 ·rw [if_neg hc]
  exact ⟨_, _, _, _, _, _, _, rfl, .inr rfl⟩
end
theorem y4s (l : List ya) (id fr : Int) (hl : l.length ≤ 1000) : ∃ l' b, j8 (l, id, fr) = some (l', b) ∧ l'.length ≤ l.length + 1 := by
 unfold j8 Qo
 rw [Zf l id (by omega)]
 simp only [Option.bind_some]
 refine Js (step := Wh _) (fun u : Wg => l.length - u.2.2.2.2.1.toNat) (fun u => u.1 = l ∧ u.2.1 = id ∧ 0 ≤ u.2.2.2.2.1 ∧ u.2.2.2.2.1 ≤ l.length ∧ (u.2.2.2.2.2.length : Int) ≤ u.2.2.2.2.1 + (if u.2.2.2.1 = true then 1 else 0)) (fun _ (res : Option (List ya × Bool)) => ∃ (l' : List ya) (b : Bool), res = some (l', b) ∧ l'.length ≤ l.length + 1) ?_ (l, id, fr, decide (zJ l id ≥ 0), 0, []) ⟨rfl, rfl, Int.le_refl _, by simp, by simp; split <;> omega⟩ (by simp; omega)
 ·rintro again ⟨l1, id1, fr1, d, i, o⟩ ⟨rfl, rfl, h0, h1, ho⟩ hag
  simp only at h0 h1 ho hl hag ⊢
  unfold Wh
  simp only [Bool.cond_eq_ite, decide_eq_true_eq]
  by_cases hi : i < (l1.length : Int)
  ·have hw : Go.IntKind.wrap .i64 (i + 1) = i + 1 := w64 (by omega) (by omega)
   have ho2 : o.length ≤ 1001 := by split at ho <;> omega
   simp only [if_pos hi, if_pos h0, hw, List.length_append, List.length_cons, List.length_nil]
   cases d with
   | true =>
    simp only [Bool.not_true, Bool.false_eq_true, if_false, Option.bind_some]
    rw [if_pos (by omega)]
    exact hag _ ⟨rfl, rfl, by simp only; omega, by simp only; omega, by simp at ho ⊢; omega⟩ (by simp only; omega)
   | false =>
    simp only [Bool.not_false, if_true, Option.bind_some, decide_eq_true_eq]
    split
    ·rw [if_pos (by omega), if_pos (by omega)]
     exact hag _ ⟨rfl, rfl, by simp only; omega, by simp only; omega, by simp at ho ⊢; omega⟩ (by simp only; omega)
    ·rw [if_pos (by omega)]
     exact hag _ ⟨rfl, rfl, by simp only; omega, by simp only; omega, by simp at ho ⊢; omega⟩ (by simp only; omega)
  ·have ho2 : o.length ≤ 1001 := by split at ho <;> omega
   simp only [if_neg hi, List.length_append, List.length_cons, List.length_nil, Zf l1 id1 (by omega), Option.bind_some, K4 o (by omega), K4 (o ++ [(id1, fr1)]) (by simp; omega)]
   cases d with
   | true =>
    have e1 : ∀ u : Bool, ∃ (l' : List ya) (b : Bool), (if u = true then (if (0 + l1.length) * 16 < 140737488355328 then some ([] ++ l1, false) else none) else some (o, true)) = some (l', b) ∧ l'.length ≤ l1.length + 1 := fun u => by
     rw [if_pos (show (0 + l1.length) * 16 < 140737488355328 by omega)]
     cases u
     ·exact ⟨_, _, rfl, by simp at ho; omega⟩
     ·exact ⟨_, _, rfl, by simp⟩
    simp only [Bool.not_true, Bool.false_eq_true, if_false]
    by_cases ha : zJ l1 id1 ≥ 0
    ·rw [if_pos ha]
     exact e1 true
    ·rw [if_neg ha]
     exact e1 _
   | false =>
    have e1 : ∀ u : Bool, ∃ (l' : List ya) (b : Bool), (if u = true then (if (0 + l1.length) * 16 < 140737488355328 then some ([] ++ l1, false) else none) else some (o ++ [(id1, fr1)], true)) = some (l', b) ∧ l'.length ≤ l1.length + 1 := fun u => by
     rw [if_pos (show (0 + l1.length) * 16 < 140737488355328 by omega)]
     cases u
     ·exact ⟨_, _, rfl, by simp at ho ⊢; omega⟩
     ·exact ⟨_, _, rfl, by simp⟩
    simp only [Bool.not_false, if_true]
    rw [if_pos (by omega)]
    by_cases ha : zJ l1 id1 ≥ 0
    ·rw [if_pos ha]
     exact e1 true
    ·rw [if_neg ha]
     exact e1 _
theorem y9c (vs : List ye) (n : ByteArray) (a s : Int) (f : Bool) (hv : vs.length ≤ 1000) (hN : ∀ v ∈ vs, ByteArray.size v.1 ≤ 60) (hn : n.size ≤ 60) : ∃ vs', YT (vs, n, a, s, f) = some vs' ∧ vs'.length = vs.length + 1 ∧ ∀ v ∈ vs', ByteArray.size v.1 ≤ 60 := by
 unfold YT Va
 simp only [List.nil_append, List.length_nil, List.length_append, List.length_cons]
 rw [if_pos (by omega), if_pos (by omega), w64 (by omega) (by omega)]
 refine Js (step := jJ _) (fun u : jI => u.1.toNat) (fun u => 0 ≤ u.1 ∧ u.1 ≤ vs.length ∧ u.2.1 = n ∧ u.2.2.2.2.2.length = vs.length + 1 ∧ ∀ v ∈ u.2.2.2.2.2, ByteArray.size v.1 ≤ 60) (fun _ (res : Option (List ye)) => ∃ vs' : List ye, res = some vs' ∧ vs'.length = vs.length + 1 ∧ ∀ v ∈ vs', ByteArray.size v.1 ≤ 60) ?_ (((vs.length + (0 + 1) : Nat) : Int) - 1, n, a, s, f, vs ++ [(n, a, s, f)]) ⟨by simp only; omega, by simp only; omega, rfl, by simp, fun v hv => ?_⟩ (by simp only; omega)
 ·rintro again ⟨k, n1, a1, s1, f1, o⟩ ⟨h0, h1, rfl, ho, hoN⟩ hag
  simp only at h0 h1 ho hoN hag ⊢
  unfold jJ
  simp only [Bool.cond_eq_ite, decide_eq_true_eq]
  by_cases hk : k > 0
  ·have hw : Go.IntKind.wrap .i64 (k - 1) = k - 1 := w64 (by omega) (by omega)
   simp only [if_pos hk, hw, if_pos (show (0 : Int) ≤ k - 1 by omega), if_pos (show k - 1 < ((List.length o : Nat) : Int) by omega), if_pos h0, if_pos (show k < ((List.length o : Nat) : Int) by omega), Option.bind_some]
   split
   ·refine hag _ ⟨by simp only; omega, by simp only; omega, rfl, by simp only [List.length_set]; exact ho, fun v hv => ?_⟩ (by simp only; omega)
    rcases List.mem_or_eq_of_mem_set hv with h | rfl
    ·exact hoN v h
    ·exact hoN _ (ze Yu o (k - 1) (by omega) (by omega))
   ·refine ⟨_, rfl, by rw [List.length_set]; exact ho, fun v hv => ?_⟩
    rcases List.mem_or_eq_of_mem_set hv with h | rfl
    ·exact hoN v h
    ·exact hn
  ·simp only [if_neg hk, Option.bind_some, Bool.false_eq_true, if_false, if_pos h0, if_pos (show k < ((List.length o : Nat) : Int) by omega)]
   refine ⟨_, rfl, by rw [List.length_set]; exact ho, fun v hv => ?_⟩
   rcases List.mem_or_eq_of_mem_set hv with h | rfl
   ·exact hoN v h
   ·exact hn
 ·rcases List.mem_append.1 hv with h | h
  ·exact hN v h
  ·rw [List.mem_singleton.1 h]
   exact hn
theorem yb0 (cs : List y7) (n : Int) (hc : cs.length ≤ 1048576) : ∃ cs' i b, zY (cs, n) = some (cs', i, b) ∧ cs'.length = cs.length ∧ (b = true → 0 ≤ i ∧ i < cs.length) := by
 unfold zY zX ku
 simp only [List.nil_append, List.length_nil]
 rw [if_pos (by omega)]
 simp only [Option.bind_some]
 refine Js (step := zC _ _) (fun u : JI => cs.length - u.2.2.1.toNat) (fun u => u.1 = cs ∧ 0 ≤ u.2.2.1 ∧ u.2.2.1 ≤ cs.length ∧ u.2.2.2 = cs) (fun _ (res : Option (List y7 × Int × Bool)) => ∃ (cs' : List y7) (i : Int) (b : Bool), res = some (cs', i, b) ∧ cs'.length = cs.length ∧ (b = true → 0 ≤ i ∧ i < cs.length)) ?_ (cs, n, 0, cs) ⟨rfl, Int.le_refl _, by simp, rfl⟩ (by simp; omega)
 ·rintro again ⟨l1, n1, i, o⟩ ⟨e1, h0, h1, e2⟩ hag
  simp only at e1 e2 h0 h1 hag ⊢
  subst e1
  subst e2
  unfold zC
  simp only [Bool.cond_eq_ite, decide_eq_true_eq, Jt o hc, q9, Option.bind_some]
  by_cases hi : i < (o.length : Int)
  ·have hw : Go.IntKind.wrap .i64 (i + 1) = i + 1 := w64 (by omega) (by omega)
   simp only [if_pos hi, if_pos h0, hw, List.length_set, Option.bind_some]
   split
   ·simp only [Option.bind_some]
    split
    ·split
     ·exact ⟨_, _, _, rfl, by simp, fun _ => ⟨h0, hi⟩⟩
     ·exact hag _ ⟨rfl, by simp only; omega, by simp only; omega, rfl⟩ (by simp only; omega)
    ·exact ⟨_, _, _, rfl, rfl, fun h => by cases h⟩
   ·simp only [Option.bind_some, Bool.false_eq_true, if_false]
    exact ⟨_, _, _, rfl, rfl, fun h => by cases h⟩
  ·simp only [if_neg hi, Option.bind_some, Bool.false_eq_true, if_false]
   exact ⟨_, _, _, rfl, rfl, fun h => by cases h⟩
end Go.Proofs.YtjllpipmaejeoaaGreat.Pl
namespace Go.Proofs.YtjllpipmaejeoaaGreat.Pl
open Go.Proofs.YtjllpipmaejeoaaGreat.R Go.Proofs.YtjllpipmaejeoaaGreat.XU
theorem SP.of {q : List yb} {t : List y0} {l : List ya} {cs : List y7} {vs : List ye} (h : TQ q t) (hl : l.length ≤ 1048576) (hc : cs.length ≤ 1048576) (hv : vs.length ≤ 1048576) (hN : ∀ v ∈ vs, ByteArray.size v.1 ≤ maxLen) : SP q t l cs vs :=
 ⟨⟨h.q, h.T.len, h.T.sum, hl, hc, hv⟩, hN⟩
theorem y4t {n : Nat} (h : n ≤ 60) : n ≤ maxLen := Nat.le_trans h (by decide)
section
variable {q : List yb} {t : List y0} {l : List ya} {cs : List y7} {vs : List ye} (z : Int) (h : SP q t l cs vs)
include h
theorem yfc (n : ByteArray) (s : Int) (hn : n.size ≤ 60) : Res q t l cs vs z (JG (q, t, l, cs, vs, z, n, s)) := by
 unfold JG
 simp only [y01 z h n (y4t hn), y02 z h, Zh q t l cs vs z n h.S.2.2.2.2.2, Zp, Option.bind_some, ylz, yiN]
 refine Jz (P := Res q t l cs vs z) _ (fun _ => Res.same z _) fun hf => Jz (P := Res q t l cs vs z) _ (fun _ => Res.same z _) fun _ => Jz (P := Res q t l cs vs z) _ (fun _ => Res.same z _) fun _ => ?_
 have hp : yr q t l cs vs z = true := by
  unfold yde at hf
  by_cases hc : yr q t l cs vs z = true ∧ jv n = true
  ·exact hc.1
  ·rw [if_neg hc] at hf
   cases hf
 have hT := y00 hp
 obtain ⟨l', b, e1, h1⟩ := y4s l z 0 (by have := hT.ll; omega)
 obtain ⟨vs', e2, h2, h3⟩ := y9c vs n z s false (by have := hT.vl; omega) hT.N hn
 rw [e1]
 simp only [Option.bind_some]
 rw [e2]
 simp only [Option.bind_some]
 exact Res.fin z h (SP.of h.tq (by have := hT.ll; omega) h.S.2.2.2.2.1 (by have := hT.vl; omega) fun v hv => y4t (h3 v hv)) b
theorem ylA (n m : ByteArray) (f : Bool) (hn : n.size ≤ 60) (hm : m.size ≤ 60) : Res q t l cs vs z (kr (q, t, l, cs, vs, z, n, m, f)) := by
 unfold kr
 simp only [y01 z h n (y4t hn), y02 z h, Zh q t l cs vs z _ h.S.2.2.2.2.2, wD m (y4t hm), Option.bind_some, ylz, yiN]
 cases hf : yde q t l cs vs z n != 0 with
 | true =>
  simp only [cond_true, Option.bind_some]
  exact Res.same z _
 | false =>
 simp only [cond_false, Option.bind_some]
 have hp : yr q t l cs vs z = true := by
  unfold yde at hf
  by_cases hc : yr q t l cs vs z = true ∧ jv n = true
  ·exact hc.1
  ·rw [if_neg hc] at hf
   cases hf
 have hT := y00 hp
 refine Jz (P := Res q t l cs vs z) _ (fun _ => Res.same z _) fun _ => Jz (P := Res q t l cs vs z) _ (fun _ => Res.same z _) fun hi => Jz (P := Res q t l cs vs z) _ (fun _ => Res.same z _) fun _ => ?_
 have hi' : 0 ≤ YB vs n ∧ YB vs n < ((List.length vs : Nat) : Int) := by
  have := of_decide_eq_false hi
  have := kR vs n
  omega
 obtain ⟨l', b, e1, h1⟩ := y4s l z (yj vs (YB vs n)).2.1 (by have := hT.ll; omega)
 obtain ⟨l2, b2, e2, h2⟩ := y4s l' (Go.IntKind.wrap .i64 (z + 1)) (yj vs (YB vs n)).2.1 (by have := hT.ll; omega)
 obtain ⟨vs', e3, h3, h4⟩ := y9c (vs.set (Int.toNat (YB vs n)) ((yj vs (YB vs n)).1, z, (yj vs (YB vs n)).2.2)) m (Go.IntKind.wrap .i64 (z + 1)) (yj vs (YB vs n)).2.2.1 f (by rw [List.length_set]; have := hT.vl; omega) (fun v hv => by
  rcases List.mem_or_eq_of_mem_set hv with hv | rfl
  ·exact hT.N v hv
  ·exact hT.N (yj vs (YB vs n)) (ze Yu vs _ hi'.1 hi'.2)) hm
 simp only [if_pos hi'.1, if_pos hi'.2]
 rw [e1]
 simp only [Option.bind_some]
 rw [e2]
 simp only [Option.bind_some]
 rw [e3]
 simp only [Option.bind_some]
 rw [List.length_set] at h3
 have hS : SP q t l2 cs vs' := SP.of h.tq (by have := hT.ll; omega) h.S.2.2.2.2.1 (by have := hT.vl; omega) fun v hv => y4t (h4 v hv)
 cases b <;> simp only [cond_true, cond_false, Option.bind_some] <;> exact Res.fin z h hS _
theorem ylB (n : ByteArray) (hn : n.size ≤ 60) : Res q t l cs vs z (kt (q, t, l, cs, vs, z, n)) := by
 unfold kt
 simp only [y4r z h n (y4t hn), y02 z h, Zh q t l cs vs z _ h.S.2.2.2.2.2, Option.bind_some, ylz, yiN]
 refine Jz (P := Res q t l cs vs z) _ (fun _ => Res.same z _) fun hf => ?_
 have hi : 0 ≤ YB vs n ∧ YB vs n < ((List.length vs : Nat) : Int) := by
  unfold ysN at hf
  have := kR vs n
  by_cases hc : yr q t l cs vs z = true ∧ jv n = true
  ·rw [if_pos hc] at hf
   by_cases hv : YB vs n < 0
   ·rw [if_pos hv] at hf
    cases hf
   ·omega
  ·rw [if_neg hc] at hf
   cases hf
 have hv := h.S.2.2.2.2.2
 have hw : Go.IntKind.wrap .i64 (YB vs n + 1) = YB vs n + 1 := w64 (by omega) (by omega)
 simp only [hw]
 rw [if_pos (Int.le_refl _), if_pos hi.1, if_pos (by omega), if_pos (by simp only [List.length_nil, List.length_drop, List.length_take]; omega), if_pos (by omega), if_pos (by omega), if_pos (Int.le_refl _), if_pos (by simp only [List.length_append, List.length_nil, List.length_drop, List.length_take]; omega)]
 refine Res.fin z h (SP.of h.tq h.S.2.2.2.1 h.S.2.2.2.2.1 (by simp only [List.length_append, List.length_nil, List.length_drop, List.length_take]; omega) fun v hv => ?_) true
 simp only [List.nil_append, List.mem_append] at hv
 rcases hv with hv | hv
 ·exact h.N v (List.mem_of_mem_take (List.mem_of_mem_drop hv))
 ·exact h.N v (List.mem_of_mem_take (List.mem_of_mem_drop hv))
theorem yfd (a b c d e : Int) : ∃ r q' t' cs', zD (q, t, l, cs, vs, z, a, b, c, d, e) = some (r, q', t', l, cs', vs, z) ∧ SP q' t' l cs' vs := by
 have hq := h.tq
 unfold zD
 simp only [K6 q t a b hq.T hq.q, Jy q t a b c d e hq.T hq.Q hq.q, Option.bind_some]
 cases (yB q t (a, b, c, d, e)).2.2 with
 | false => exact ⟨_, _, _, _, rfl, h⟩
 | true =>
  unfold wo
  simp only [Bool.not_true, cond_false, KI cs _ h.S.2.2.2.2.1]
  have hT := KV (a, b, c, d, e) hq
  have key : ∀ u : Bool, ∃ r q' t' cs', (Option.bind (bif u then Option.bind (some (jG cs (kQ q t a b).2.2.2.1)) fun r2 => some ((yB q t (a, b, c, d, e)).1, (yB q t (a, b, c, d, e)).2.1, l, r2, vs, z) else some ((yB q t (a, b, c, d, e)).1, (yB q t (a, b, c, d, e)).2.1, l, cs, vs, z)) fun r3 => some (true, r3.1, r3.2.1, r3.2.2.1, r3.2.2.2.1, r3.2.2.2.2.1, r3.2.2.2.2.2)) = some (r, q', t', l, cs', vs, z) ∧ SP q' t' l cs' vs := fun u => by
   cases u
   ·exact ⟨_, _, _, _, rfl, hT.sp h h.S.2.2.2.1 h.S.2.2.2.2.1⟩
   ·exact ⟨_, _, _, _, rfl, hT.sp h h.S.2.2.2.1 (by rw [y1L]; exact h.S.2.2.2.2.1)⟩
  cases (kQ q t a b).2.2.2.2.2
  ·exact key false
  ·exact key ((kQ q t a b).2.2.1 == 1)
theorem yhm (n : ByteArray) (b w : Int) (hn : n.size ≤ 60) : Res q t l cs vs z (W2 (q, t, l, cs, vs, z, n, b, w)) := by
 obtain ⟨cs', i, u, e1, h1, h2⟩ := yb0 cs w h.S.2.2.2.2.1
 have hS : SP q t l cs' vs := SP.of h.tq h.S.2.2.2.1 (by rw [h1]; exact h.S.2.2.2.2.1) h.S.2.2.2.2.2 h.N
 have main : vV q t l cs vs z n b = 0 → Res q t l cs vs z (bif u then if (0 : Int) ≤ YB vs n then if YB vs n < ((List.length vs : Nat) : Int) then if (0 : Int) ≤ i then if i < ((List.length cs' : Nat) : Int) then Option.bind (zD (q, t, l, cs', vs, z, b, (yj vs (YB vs n)).2.1, (1 : Int), i, (ym cs' i).1)) fun r7 => yQ (q, t, l, cs, vs, z, r7.2.1, r7.2.2.1, r7.2.2.2.1, r7.2.2.2.2.1, r7.2.2.2.2.2.1, r7.2.2.2.2.2.2, r7.1) else none else none else none else none else yQ (q, t, l, cs, vs, z, q, t, l, cs', vs, z, false)) := by
  intro hb
  have hi : 0 ≤ YB vs n ∧ YB vs n < ((List.length vs : Nat) : Int) := by
   unfold vV at hb
   have := kR vs n
   by_cases hc : yr q t l cs vs z = true ∧ jv n = true
   ·rw [if_pos hc] at hb
    by_cases hv : YB vs n < 0
    ·rw [if_pos hv] at hb
     cases hb
    ·omega
   ·rw [if_neg hc] at hb
    cases hb
  cases u with
  | false => exact Res.fin z h hS false
  | true =>
   have h3 := h2 rfl
   obtain ⟨r, q', t', cs2, e2, h4⟩ := yfd z hS b (yj vs (YB vs n)).2.1 1 i (ym cs' i).1
   simp only [cond_true, if_pos hi.1, if_pos hi.2, if_pos h3.1, if_pos (show i < ((List.length cs' : Nat) : Int) by rw [h1]; exact h3.2), e2, Option.bind_some]
   exact Res.fin z h h4 r
 unfold W2
 simp only [qG z h n (y4t hn), y02 z h, Zh q t l cs vs z _ h.S.2.2.2.2.2, q9, e1, Option.bind_some, ylz, yiN]
 cases hb : vV q t l cs vs z n b == 0 with
 | false =>
  have hne : (vV q t l cs vs z n b != 0) = true := by
   rw [bne, hb]
   rfl
  simp only [cond_false, Option.bind_some, hne, cond_true]
  exact Res.same z _
 | true =>
  have h0 : vV q t l cs vs z n b = 0 := by simpa using hb
  cases hw : isW w with
  | false =>
   simp only [cond_true, Option.bind_some, Bool.not_false, show ((4 : Int) != 0) = true from rfl]
   exact Res.same z _
  | true =>
   have hne : (vV q t l cs vs z n b != 0) = false := by
    rw [bne, hb]
    rfl
   simp only [cond_true, Option.bind_some, Bool.not_true, cond_false, hne]
   exact main h0
theorem y03 (i b : Int) (h0 : 0 ≤ i) (h1 : i < (vs.length : Int)) : ∃ r q' t' cs', Yb (q, t, l, cs, vs, z, i, b) = some (r, q', t', l, cs', vs, z) ∧ SP q' t' l cs' vs := by
 have hq := h.tq
 unfold Yb
 simp only [if_pos h0, if_pos h1, y1C q t l _ _ hq.T h.S.2.2.2.1, K6 q t _ _ hq.T hq.q, Option.bind_some, yxM, yiN]
 have key : ∀ u : Bool, ∃ r q' t' cs', (bif u then zD (q, t, l, cs, vs, z, b, (yj vs i).2.1, (2 : Int), (0 : Int), (0 : Int)) else bif (!(kQ q t b (yj vs i).2.1).2.2.2.2.2) then some (true, q, t, l, cs, vs, z) else zD (q, t, l, cs, vs, z, b, (yj vs i).2.1, (0 : Int), (0 : Int), (0 : Int))) = some (r, q', t', l, cs', vs, z) ∧ SP q' t' l cs' vs := fun u => by
  cases u
  ·cases (kQ q t b (yj vs i).2.1).2.2.2.2.2
   ·exact ⟨_, _, _, _, rfl, h⟩
   ·exact yfd z h _ _ _ _ _
  ·exact yfd z h _ _ _ _ _
 cases (ans (ybT t l b (yj vs i).2.1)).2.2.2.2.2
 ·exact key false
 ·exact key _
theorem ydf (n : ByteArray) (b : Int) (hn : n.size ≤ 60) : Res q t l cs vs z (jz (q, t, l, cs, vs, z, n, b)) := by
 unfold jz
 simp only [qG z h n (y4t hn), y02 z h, Zh q t l cs vs z _ h.S.2.2.2.2.2, Option.bind_some, ylz, yiN]
 refine Jz (P := Res q t l cs vs z) _ (fun _ => Res.same z _) fun hb => ?_
 have hi : 0 ≤ YB vs n ∧ YB vs n < ((List.length vs : Nat) : Int) := by
  unfold vV at hb
  have := kR vs n
  by_cases hc : yr q t l cs vs z = true ∧ jv n = true
  ·rw [if_pos hc] at hb
   by_cases hv : YB vs n < 0
   ·rw [if_pos hv] at hb
    cases hb
   ·omega
  ·rw [if_neg hc] at hb
   cases hb
 obtain ⟨r, q', t', cs', e1, h1⟩ := y03 z h (YB vs n) b hi.1 hi.2
 rw [e1]
 exact Res.fin z h h1 r
omit h in
theorem yhn {n : ByteArray} {b : Int} (hb : vV q t l cs vs z n b = 0) : (0 ≤ YB vs n ∧ YB vs n < ((List.length vs : Nat) : Int)) ∧ yr q t l cs vs z = true := by
 unfold vV at hb
 have := kR vs n
 by_cases hc : yr q t l cs vs z = true ∧ jv n = true
 ·rw [if_pos hc] at hb
  by_cases hv : YB vs n < 0
  ·rw [if_pos hv] at hb
   cases hb
  ·exact ⟨by omega, hc.1⟩
 ·rw [if_neg hc] at hb
  cases hb
theorem yfe (n : ByteArray) (s : Int) (hn : n.size ≤ 60) : Res q t l cs vs z (JL (q, t, l, cs, vs, z, n, s)) := by
 have fin : ∀ (i : Int) (s : Int) (ok : Bool) (q' : List yb) (t' : List y0) (cs' : List y7), 0 ≤ i → i < (vs.length : Int) → SP q' t' l cs' vs → Res q t l cs vs z (if (0 : Int) ≤ i then if i < ((List.length vs : Nat) : Int) then yQ (q, t, l, cs, vs, z, q', t', l, cs', List.set vs (Int.toNat i) ((yj vs i).1, (yj vs i).2.1, s, (yj vs i).2.2.2), z, ok) else none else none) := by
  intro i s ok q' t' cs' h0 h1 hS
  rw [if_pos h0, if_pos h1]
  refine Res.fin z h ⟨⟨hS.S.1, hS.S.2.1, hS.S.2.2.1, hS.S.2.2.2.1, hS.S.2.2.2.2.1, by rw [List.length_set]; exact h.S.2.2.2.2.2⟩, fun v hv => ?_⟩ ok
  rcases List.mem_or_eq_of_mem_set hv with hv | rfl
  ·exact h.N v hv
  ·exact h.N (yj vs i) (ze Yu vs i h0 h1)
 have loop : ∀ (k0 : Int × Int × Bool × List yb × List y0 × List ya × List y7 × List ye × Int × Int × Int × List yb × List y0 × List ya × List y7 × List ye → Option P7a) (k1 : Int × Int × Bool × List yb × List y0 × List ya × List y7 × List ye × Int × Int × List yb × List y0 × List ya × Int × List y7 × List ye → Option P7a) (s i b : Int) (ok : Bool) (y : Int), 0 ≤ i → i < (vs.length : Int) → b ≤ 1000 → -1000 ≤ b → 0 ≤ s →
   (∀ ok q' t' cs', SP q' t' l cs' vs → Res q t l cs vs z (k0 (s, i, ok, q, t, l, cs, vs, z, y, z, q', t', l, cs', vs))) →
   (∀ ok q' t' cs', SP q' t' l cs' vs → Res q t l cs vs z (k1 (s, i, ok, q, t, l, cs, vs, z, y, q', t', l, z, cs', vs))) →
   Res q t l cs vs z (wI k0 k1 (Sum.inl (s, i, ok, b, q, t, l, cs, vs, z, y, z, q, t, l, cs, vs))) := by
  intro k0 k1 s i b ok y h0 h1 hb hb0 hs f0 f1
  unfold wI
  refine Js (step := jm k0 k1) (fun u : wH => match u with | .inl u => (u.2.2.2.1 + 1).toNat + 1 | .inr u => (u.2.2.2.1 + 1).toNat)
   (fun u => match u with
    | .inl u => ∃ b ok q' t' cs', b ≤ 1000 ∧ -1000 ≤ b ∧ SP q' t' l cs' vs ∧ u = (s, i, ok, b, q, t, l, cs, vs, z, y, z, q', t', l, cs', vs)
    | .inr u => ∃ b ok q' t' cs', b ≤ 1000 ∧ -1001 ≤ b ∧ SP q' t' l cs' vs ∧ u = (s, i, ok, b, q, t, l, cs, vs, z, y, q', t', l, z, cs', vs))
   (fun _ res => Res q t l cs vs z res) ?_ _ ⟨b, ok, q, t, cs, hb, hb0, h, rfl⟩ (by simp only; omega)
  intro again u hu hag
  cases u with
  | inl u =>
   obtain ⟨b, ok, q', t', cs', k1', k2', hS, rfl⟩ := hu
   unfold jm
   simp only at hag ⊢
   by_cases hbs : b ≥ s
   ·cases ok with
    | false =>
     simp only [decide_eq_true hbs, cond_true, Option.bind_some, cond_false]
     exact f0 _ _ _ _ hS
    | true =>
     obtain ⟨r, q2, t2, cs2, e1, h2⟩ := y03 z hS i b h0 h1
     have hw : Go.IntKind.wrap .i64 (b - 1) = b - 1 := w64 (by omega) (by omega)
     simp only [decide_eq_true hbs, cond_true, Option.bind_some, e1, hw]
     exact hag _ ⟨b - 1, r, q2, t2, cs2, by omega, by omega, h2, rfl⟩ (by simp only; omega)
   ·simp only [decide_eq_false hbs, cond_false, Option.bind_some]
    exact f0 _ _ _ _ hS
  | inr u =>
   obtain ⟨b, ok, q', t', cs', k1', k2', hS, rfl⟩ := hu
   unfold jm
   simp only at hag ⊢
   by_cases hbs : b ≥ s
   ·cases ok with
    | false =>
     simp only [decide_eq_true hbs, cond_true, Option.bind_some, cond_false]
     exact f1 _ _ _ _ hS
    | true =>
     obtain ⟨r, q2, t2, cs2, e1, h2⟩ := y03 z hS i b h0 h1
     have hw : Go.IntKind.wrap .i64 (b - 1) = b - 1 := w64 (by omega) (by omega)
     simp only [decide_eq_true hbs, cond_true, Option.bind_some, e1, hw]
     exact hag _ ⟨b - 1, r, q2, t2, cs2, by omega, by omega, h2, rfl⟩ (by simp only; omega)
   ·simp only [decide_eq_false hbs, cond_false, Option.bind_some]
    exact f1 _ _ _ _ hS
 unfold JL
 simp only [qG z h n (y4t hn), y02 z h, Zh q t l cs vs z _ h.S.2.2.2.2.2, Zp, Option.bind_some, ylz, yiN]
 cases hb : vV q t l cs vs z n 0 == 0 with
 | false =>
  have hne : (vV q t l cs vs z n 0 != 0) = true := by
   rw [bne, hb]
   rfl
  simp only [cond_false, Option.bind_some, hne, cond_true]
  exact Res.same z _
 | true =>
  have h0 : vV q t l cs vs z n 0 = 0 := by simpa using hb
  cases hs : inR s 1 12 with
  | false =>
   simp only [cond_true, Option.bind_some, Bool.not_false, show ((4 : Int) != 0) = true from rfl]
   exact Res.same z _
  | true =>
   have hne : (vV q t l cs vs z n 0 != 0) = false := by
    rw [bne, hb]
    rfl
   simp only [cond_true, Option.bind_some, Bool.not_true, cond_false, hne]
   obtain ⟨hi, hp⟩ := yhn z h0
   rw [if_pos hi.1, if_pos hi.2]
   have hs' := zl.1 hs
   have hr : 1 ≤ (yj vs (YB vs n)).2.2.1 ∧ (yj vs (YB vs n)).2.2.1 ≤ 12 := by
    unfold yr at hp
    simp only [Bool.and_eq_true] at hp
    have hv := hp.2.2.2.2.2.1
    unfold w6 at hv
    simp only [Bool.and_eq_true, Bool.not_eq_true'] at hv
    obtain ⟨j, hj⟩ := w7 _ vs 0 hv.1 _ (ze Yu vs _ hi.1 hi.2)
    unfold ydx at hj
    simp only [Bool.or_eq_false_iff, Bool.not_eq_false', zl] at hj
    exact hj.2.1
   have hw : Go.IntKind.wrap .i64 ((yj vs (YB vs n)).2.2.1 - 1) = (yj vs (YB vs n)).2.2.1 - 1 := w64 (by omega) (by omega)
   rw [hw]
   exact loop _ _ s (YB vs n) _ true 0 hi.1 hi.2 (by omega) (by omega) (by omega) (fun ok q' t' cs' hS => fin _ s ok q' t' cs' hi.1 hi.2 hS) (fun ok q' t' cs' hS => fin _ s ok q' t' cs' hi.1 hi.2 hS)
end
end Go.Proofs.YtjllpipmaejeoaaGreat.Pl
namespace Go.Proofs.YtjllpipmaejeoaaGreat.Pl
open Go.Proofs.YtjllpipmaejeoaaGreat.R Go.Proofs.YtjllpipmaejeoaaGreat.XU
def za (cs : List y7) : Int := zQ (fun c : y7 => !c.2.1) cs 0
def yb1 (cs : List y7) (n : Int) : List y7 × Int × Bool :=
 if yZ cs = true ∧ isW n = true ∧ ¬ za cs < 0 then (cs.set (za cs).toNat ((cs.getD (za cs).toNat yo).1, true, n), za cs, true) else (cs, 0, false)
theorem JY {cs : List y7} (h : ¬ za cs < 0) : 0 ≤ za cs ∧ za cs < (cs.length : Int) ∧ (cs.getD (za cs).toNat yo).2.1 = false := by
 rcases YE (fun c : y7 => !c.2.1) yo cs 0 (Int.le_refl _) with h1 | ⟨h1, h2, h3⟩
 ·exact absurd (show za cs < 0 by unfold za; omega) h
 ·rw [Int.sub_zero] at h3
  refine ⟨h1, by show zQ (fun c : y7 => !c.2.1) cs 0 < _; omega, ?_⟩
  have : (!(cs.getD (za cs).toNat yo).2.1) = true := h3
  simpa using this
theorem y4u (cs : List y7) (n : Int) : (yb1 cs n).1.length = cs.length := by
 unfold yb1
 split <;> simp
theorem y0M (cs : List y7) (hc : cs.length ≤ 1048576) : JP cs = some (za cs) := by
 unfold JP QG
 refine (Ze (step := Jn _ _) (fun i => (cs, (cs.length : Int), i)) (fun c : y7 => !c.2.1) (fun i => some i) (some (-1)) yo cs (by omega) ?_ ?_).trans ?_
 ·intro again i h0 h1
  have hw : Go.IntKind.wrap .i64 (i + 1) = i + 1 := w64 (by omega) (by omega)
  unfold Jn
  have hx : cs.getD i.toNat yo = ym cs i := rfl
  rw [hx]
  simp only [Bool.cond_eq_ite, decide_eq_true_eq, h0, h1, if_true, hw]
 ·intro again i hi
  unfold Jn
  simp only [Bool.cond_eq_ite, decide_eq_true_eq, if_neg hi]
 ·unfold za
  rcases y3o (fun c : y7 => !c.2.1) cs 0 with h | ⟨h, _⟩
  ·rw [h]
   rfl
  ·rw [if_neg (by omega)]
theorem y9d (cs : List y7) (i : Int) (n : Int) (h0 : 0 ≤ i) (h1 : i < (cs.length : Int)) :
  (List.set (List.set cs (Int.toNat i) ((ym cs i).1, true, (ym cs i).2.2)) (Int.toNat i) ((ym (List.set cs (Int.toNat i) ((ym cs i).1, true, (ym cs i).2.2)) i).1, (ym (List.set cs (Int.toNat i) ((ym cs i).1, true, (ym cs i).2.2)) i).2.1, n)) = cs.set i.toNat ((cs.getD i.toNat yo).1, true, n) := by
 have hr : ym (List.set cs (Int.toNat i) ((ym cs i).1, true, (ym cs i).2.2)) i = ((ym cs i).1, true, (ym cs i).2.2) := by
  show (List.set cs (Int.toNat i) ((ym cs i).1, true, (ym cs i).2.2)).getD i.toNat yo = _
  rw [List.getD_eq_getElem?_getD, List.getElem?_set_self (by omega)]
  rfl
 rw [hr, List.set_set]
 rfl
theorem y2l {cs : List y7} {n : Int} (h : ¬ (yZ cs = true ∧ isW n = true ∧ ¬ za cs < 0)) : yb1 cs n = (cs, 0, false) := if_neg h
theorem y1M {cs : List y7} {n : Int} (h : yZ cs = true ∧ isW n = true ∧ ¬ za cs < 0) : yb1 cs n = (cs.set (za cs).toNat ((cs.getD (za cs).toNat yo).1, true, n), za cs, true) := if_pos h
theorem y2W (cs : List y7) (n : Int) (hc : cs.length ≤ 1048576) : Jo (cs, n) = some (yb1 cs n) := by
 have e1 : zz cs = some cs := by
  unfold zz
  rw [if_pos (by simp only [List.length_nil]; omega)]
  rfl
 unfold Jo
 simp only [e1, y0M cs hc, y8S, vR cs hc, Option.bind_some]
 by_cases hf : za cs < 0
 ·rw [y2l fun h => h.2.2 hf]
  simp only [decide_eq_true hf, cond_true, Option.bind_some]
 ·obtain ⟨f0, f1, _⟩ := JY hf
  simp only [decide_eq_false hf, cond_false, Option.bind_some]
  cases hw : isW n with
  | false =>
   rw [y2l fun h => by rw [hw] at h; exact Bool.noConfusion h.2.1]
   rfl
  | true =>
   simp only [Bool.not_true, cond_false, Option.bind_some]
   cases hk : yZ cs with
   | false =>
    rw [y2l fun h => by rw [hk] at h; exact Bool.noConfusion h.1]
    rfl
   | true =>
    rw [y1M ⟨hk, hw, hf⟩]
    simp only [Bool.not_true, cond_false, List.length_set, if_pos f0, if_pos f1, y9d cs _ n f0 f1]
theorem y2X (cs : List y7) (n : Int) (hc : cs.length ≤ 1048576) : zY (cs, n) = some (yb1 cs n) := by
 have e1 : zX cs = some cs := by
  unfold zX
  rw [if_pos (by simp only [List.length_nil]; omega)]
  rfl
 unfold zY ku
 simp only [e1, Option.bind_some]
 by_cases hok : yZ cs = true ∧ isW n = true
 ·refine (Ze (step := zC _ _) (fun i => (cs, n, i, cs)) (fun c : y7 => !c.2.1) (fun i => some (cs.set i.toNat ((cs.getD i.toNat yo).1, true, n), i, true)) (some (cs, 0, false)) yo cs (by omega) ?_ ?_).trans ?_
  ·intro again i h0 h1
   have hw : Go.IntKind.wrap .i64 (i + 1) = i + 1 := w64 (by omega) (by omega)
   unfold zC
   have hx : cs.getD i.toNat yo = ym cs i := rfl
   have hs := y9d cs i n h0 h1
   rw [hx] at hs ⊢
   simp only [Bool.cond_eq_ite, decide_eq_true_eq, h0, h1, if_true, hw, Jt cs hc, q9, hok.1, hok.2, Option.bind_some, List.length_set, hs]
  ·intro again i hi
   unfold zC
   simp only [Bool.cond_eq_ite, decide_eq_true_eq, if_neg hi, Option.bind_some, Bool.false_eq_true, if_false]
  ·show (if za cs < 0 then _ else _) = _
   by_cases hf : za cs < 0
   ·rw [if_pos hf, y2l fun h => h.2.2 hf]
   ·rw [if_neg hf, y1M ⟨hok.1, hok.2, hf⟩]
    rfl
 ·rw [y2l fun h => hok ⟨h.1, h.2.1⟩]
  refine YM (step := zC _ _) (fun _ => 0) (fun u => u = (cs, n, 0, cs)) (fun _ => some (cs, 0, false)) ?_ _ rfl (by decide)
  rintro again u rfl _
  unfold zC
  simp only [Jt cs hc, q9, Option.bind_some]
  cases hk : yZ cs with
  | false => cases decide ((0 : Int) < (cs.length : Int)) <;> rfl
  | true =>
   have hw : isW n = false := by
    cases hw : isW n with
    | false => rfl
    | true => exact absurd ⟨hk, hw⟩ hok
   rw [hw]
   cases decide ((0 : Int) < (cs.length : Int)) <;> rfl
def y4v (q : List Int) (t : List y0) (i : Int) : List Int × List y0 := (q, t.set i.toNat (yK (yA (yf t i))))
theorem y9e (q : List Int) (t : List y0) (i : Int) (h : TS t) (hq : q.length ≤ 1048576) (h0 : 0 ≤ i) (h1 : i < (t.length : Int)) : J4 (q, t, i) = some (y4v q t i) := by
 have ht := h.ok.len
 have hN := nk h h0 h1
 have hk := hN.keys
 have hm : Go.IntKind.wrap .i64 ((t.length : Int) - 1) = (t.length : Int) - 1 := w64 (by omega) (by omega)
 unfold J4 Wy
 simp only [Vx q t hq (by omega) (fun n hn => (h.node n hn).q), Zp, hm, Option.bind_some]
 rw [zl.2 ⟨h0, by omega⟩, cond_true, if_pos h0, if_pos h1, vT h h0 h1]
 simp only [Option.bind_some]
 rw [Jw _ (by omega)]
 simp only [Option.bind_some]
 rw [if_pos h0, if_pos h1]
 rfl
theorem y9f (q : List Int) (t : List y0) (i : Int) (h : TS t) (hq : q.length ≤ 1048576) (h0 : 0 ≤ i) (h1 : i < (t.length : Int)) : Jl (q, t, i) = some (y4v q t i) := by
 have ht := h.ok.len
 have hN := nk h h0 h1
 have hk := hN.keys
 have hm : Go.IntKind.wrap .i64 ((t.length : Int) - 1) = (t.length : Int) - 1 := w64 (by omega) (by omega)
 unfold Jl WM
 simp only [KF q t hq (by omega) (fun n hn => (h.node n hn).q), YN, hm, Option.bind_some]
 rw [zl.2 ⟨h0, by omega⟩, cond_true, if_pos h0, if_pos h1, y10 h h0 h1]
 simp only [Option.bind_some]
 rw [Jx _ (by omega)]
 simp only [Option.bind_some]
 rw [if_pos h0, if_pos h1]
 rfl
end Go.Proofs.YtjllpipmaejeoaaGreat.Pl
namespace Go.Proofs.YtjllpipmaejeoaaGreat.Pl
open Go.Proofs.YtjllpipmaejeoaaGreat.R Go.Proofs.YtjllpipmaejeoaaGreat.XU
end Go.Proofs.YtjllpipmaejeoaaGreat.Pl
namespace Go.Proofs.YtjllpipmaejeoaaGreat.Pl
open Go.Proofs.YtjllpipmaejeoaaGreat.R Go.Proofs.YtjllpipmaejeoaaGreat.XU
def yAs (l : List ye) : Prop := ∀ j, j + 1 < l.length → Go.Op.bytesLess (ByteArray.toList (l.getD j Yu).1) (ByteArray.toList (l.getD (j + 1) Yu).1) = true
theorem yho {vs : List ye} {l : List ya} (h : w6 vs l = true) : yAs vs := by
 intro j hj
 unfold w6 at h
 simp only [Bool.and_eq_true, Bool.not_eq_true'] at h
 have := JT Yu vs 0 h.1 (j + 1) hj
 unfold ydx at this
 simp only [Bool.or_eq_false_iff, Bool.not_eq_false', Bool.and_eq_false_iff] at this
 rcases this.2.2.2.2.1 with h1 | h1
 ·have := of_decide_eq_false h1
  omega
 ·rwa [show ((0 : Int) + ((j + 1 : Nat) : Int) - 1).toNat = j by omega] at h1
section
variable (q : List yb) (t : List y0) (l : List ya) (cs : List y7) (vs : List ye) (z : Int)
variable {q t l cs vs} (h : SP q t l cs vs)
include h
omit h in
end
end Go.Proofs.YtjllpipmaejeoaaGreat.Pl
namespace Go.Proofs.YtjllpipmaejeoaaGreat.Pl
open Go.Proofs.YtjllpipmaejeoaaGreat.R Go.Proofs.YtjllpipmaejeoaaGreat.XU
section
variable {q : List yb} {t : List y0} {l : List ya} {cs : List y7} {vs : List ye} (z : Int) (h : SP q t l cs vs)
include h
end
end Go.Proofs.YtjllpipmaejeoaaGreat.Pl
namespace Go.Proofs.YtjllpipmaejeoaaGreat.Pl
open Go.Proofs.YtjllpipmaejeoaaGreat.R Go.Proofs.YtjllpipmaejeoaaGreat.XU
theorem yc9 {l : List Int} {v : Int} : yfB l v = true ↔ v ∈ l := by
 unfold yfB
 constructor
 ·intro h
  have h := of_decide_eq_true h
  rcases YE (fun a : Int => a == v) y27 l 0 (Int.le_refl _) with h1 | ⟨h1, h2, h3⟩
  ·omega
  ·have h4 : l.getD (zQ (fun a : Int => a == v) l 0 - 0).toNat y27 = v := by simpa using h3
   rw [← h4, Int.sub_zero]
   exact ze y27 l _ h1 (by omega)
 ·intro h
  refine decide_eq_true ?_
  refine Decidable.byContradiction fun hn => ?_
  have := y5S (p := fun a : Int => a == v) l 0 (Int.le_refl _) (by omega) v h
  simp at this
theorem yca (b : Int) : ∀ (l s : List y8), l.foldl (QP b) s = s ++ l.filter fun k => k.1 == b
 | [], s => by simp
 | c :: l, s => by
  rw [List.foldl_cons, yca b l, List.filter_cons]
  unfold QP
  cases c.1 == b <;> simp
theorem kS {l : List y8} {b : Int} {k : y8} : k ∈ Zr l b ↔ k ∈ l ∧ k.1 = b := by
 unfold Zr
 rw [yca, List.nil_append, List.mem_filter]
 simp
theorem ylC (path : List Int) : ∀ (l : List y8) (s : Bool × y8), (l.foldl (wR path) s = s ∧ ∀ c ∈ l, c.2.1 ∈ path → s.1 = true ∧ c.2.1 ≤ s.2.2.1) ∨
  ((l.foldl (wR path) s).1 = true ∧ (l.foldl (wR path) s).2 ∈ l ∧ (l.foldl (wR path) s).2.2.1 ∈ path ∧ (s.1 = true → s.2.2.1 ≤ (l.foldl (wR path) s).2.2.1) ∧ ∀ c ∈ l, c.2.1 ∈ path → c.2.1 ≤ (l.foldl (wR path) s).2.2.1)
 | [], s => .inl ⟨rfl, fun c hc => by simp at hc⟩
 | a :: l, s => by
  rw [List.foldl_cons]
  by_cases h : yfB path a.2.1 = true ∧ (s.1 = false ∨ s.2.2.1 < a.2.1)
  ·have e : wR path s a = (true, a) := if_pos h
   have hp := yc9.1 h.1
   have hs : s.1 = true → s.2.2.1 ≤ a.2.1 := fun h1 => by
    rcases h.2 with h2 | h2
    ·rw [h1] at h2
     cases h2
    ·omega
   rw [e]
   rcases ylC path l (true, a) with ⟨h1, h2⟩ | ⟨h1, h2, h3, h4, h5⟩
   ·rw [h1]
    exact .inr ⟨rfl, by simp, hp, hs, fun c hc hcp => by
     rcases List.mem_cons.1 hc with rfl | hc
     ·exact Int.le_refl _
     ·exact (h2 c hc hcp).2⟩
   ·have h6 := h4 rfl
    exact .inr ⟨h1, List.mem_cons_of_mem _ h2, h3, fun h7 => Int.le_trans (hs h7) h6, fun c hc hcp => by
     rcases List.mem_cons.1 hc with rfl | hc
     ·exact h6
     ·exact h5 c hc hcp⟩
  ·have e : wR path s a = s := if_neg h
   rw [e]
   have ha : a.2.1 ∈ path → s.1 = true ∧ a.2.1 ≤ s.2.2.1 := fun hp => by
    have h1 := yc9.2 hp
    refine ⟨?_, ?_⟩
    ·cases hs : s.1 with
     | true => rfl
     | false => exact absurd ⟨h1, .inl hs⟩ h
    ·by_cases h2 : s.2.2.1 < a.2.1
     ·exact absurd ⟨h1, .inr h2⟩ h
     ·omega
   rcases ylC path l s with ⟨h1, h2⟩ | ⟨h1, h2, h3, h4, h5⟩
   ·exact .inl ⟨h1, fun c hc hcp => by
     rcases List.mem_cons.1 hc with rfl | hc
     ·exact ha hcp
     ·exact h2 c hc hcp⟩
   ·exact .inr ⟨h1, List.mem_cons_of_mem _ h2, h3, h4, fun c hc hcp => by
     rcases List.mem_cons.1 hc with rfl | hc
     ·have := ha hcp
      exact Int.le_trans this.2 (h4 this.1)
     ·exact h5 c hc hcp⟩
theorem y4w (ks : List y8) (path : List Int) : (YR ks path = (false, (0, 0, 0, 0, 0)) ∧ ∀ c ∈ ks, c.2.1 ∉ path) ∨ ((YR ks path).1 = true ∧ (YR ks path).2 ∈ ks ∧ (YR ks path).2.2.1 ∈ path ∧ ∀ c ∈ ks, c.2.1 ∈ path → c.2.1 ≤ (YR ks path).2.2.1) := by
 rcases ylC path ks (false, (0, 0, 0, 0, 0)) with ⟨h1, h2⟩ | ⟨h1, h2, h3, _, h5⟩
 ·exact .inl ⟨h1, fun c hc hp => by have := (h2 c hc hp).1; cases this⟩
 ·exact .inr ⟨h1, h2, h3, h5⟩
theorem ycb (id : Int) : ∀ (l : List ya) (s : List Int), l.foldl (qa id) s = s ++ (l.filter fun a => a.2 == id && id != 0).map fun a => a.1
 | [], s => by simp
 | c :: l, s => by
  rw [List.foldl_cons, ycb id l, List.filter_cons]
  unfold qa
  cases c.2 == id && id != 0 <;> simp
theorem yff {l : List ya} {id : Int} (h0 : id ≠ 0) {a : ya} (ha : a ∈ l) (he : a.2 = id) : 0 < (Y8 l id).length := by
 unfold Y8
 rw [ycb, List.nil_append, List.length_map]
 refine List.length_pos_of_mem (List.mem_filter.2 ⟨ha, ?_⟩)
 rw [he]
 simp [h0]
theorem y4x {l : List ya} {id : Int} (h : 0 ≤ zJ l id) : zJ l id < l.length ∧ (l.getD (zJ l id).toNat zA).1 = id := by
 rcases YE (fun a : ya => a.1 == id) zA l 0 (Int.le_refl _) with h1 | ⟨h1, h2, h3⟩
 ·unfold zJ at h
  omega
 ·rw [Int.sub_zero] at h3
  exact ⟨by unfold zJ; omega, by simpa [zJ] using h3⟩
structure AgesR (l : List ya) : Prop where
 up : ∀ i, i + 1 < l.length → (l.getD i zA).1 < (l.getD (i + 1) zA).1
 pos : ∀ i, i < l.length → 1 ≤ (l.getD i zA).1 ∧ (l.getD i zA).1 ≤ 60
 frm : ∀ i, i < l.length → (l.getD i zA).2 ≠ 0 → ∃ j, j < i ∧ (l.getD j zA).1 = (l.getD i zA).2
theorem ys2 {l : List ya} (h : jF l = true) : AgesR l := by
 unfold jF at h
 simp only [Bool.and_eq_true, Bool.not_eq_true', decide_eq_true_eq] at h
 have hb : ∀ i, i < l.length → y2T l i (l.getD i zA) = false := fun i hi => by
  have := JT zA l 0 h.1 i hi
  rwa [show (0 : Int) + (i : Int) = i by omega] at this
 refine ⟨fun i hi => ?_, fun i hi => ?_, fun i hi h0 => ?_⟩
 ·have := hb (i + 1) hi
  unfold y2T at this
  simp only [Bool.or_eq_false_iff, Bool.and_eq_false_iff, decide_eq_false_iff_not] at this
  rcases this.2.1 with h1 | h1
  ·omega
  ·rw [show (((i + 1 : Nat) : Int) - 1).toNat = i by omega] at h1
   omega
 ·have := hb i hi
  unfold y2T at this
  simp only [Bool.or_eq_false_iff, Bool.not_eq_false', zl] at this
  exact this.1
 ·have := hb i hi
  unfold y2T at this
  simp only [Bool.or_eq_false_iff, Bool.and_eq_false_iff, decide_eq_false_iff_not, bne_eq_false_iff_eq] at this
  rcases this.2.2 with h1 | h1
  ·exact absurd h1 h0
  ·have hf : yd6 l (i : Int) = l.take i := by
    unfold yd6
    simp
   rw [hf] at h1
   obtain ⟨h2, h3⟩ := y4x (l := l.take i) (id := (l.getD i zA).2) (by omega)
   rw [List.length_take] at h2
   refine ⟨(zJ (l.take i) (l.getD i zA).2).toNat, by omega, ?_⟩
   rw [List.getD_eq_getElem?_getD, List.getElem?_take, if_pos (by omega), ← List.getD_eq_getElem?_getD] at h3
   exact h3
theorem AgesR.lt {l : List ya} (h : AgesR l) : ∀ (d i : Nat), i + 1 + d < l.length → (l.getD i zA).1 < (l.getD (i + 1 + d) zA).1
 | 0, i, hi => h.up i hi
 | d + 1, i, hi => by
  have h1 := AgesR.lt h d i (by omega)
  have h2 := h.up (i + 1 + d) (by omega)
  rw [show i + 1 + (d + 1) = i + 1 + d + 1 by omega]
  omega
theorem ycc {l : List ya} (h : AgesR l) : ∀ (n : Nat) (i : Int), 0 ≤ i → i < l.length → ∀ x ∈ VZ l n i, x = (l.getD i.toNat zA).1 ∨ (x < (l.getD i.toNat zA).1 ∧ x ≠ 0 ∧ ∃ a ∈ l, a.2 = x)
 | 0, _, _, _, x, hx => by simp [VZ] at hx
 | n + 1, i, h0, h1, x, hx => by
  rw [y42 l n i h0] at hx
  rcases List.mem_cons.1 hx with rfl | hx
  ·exact .inl rfl
  ·have hj : 0 ≤ zJ l (l.getD i.toNat zA).2 := by
    refine Decidable.byContradiction fun hn => ?_
    cases n with
    | zero => simp [VZ] at hx
    | succ n =>
     rw [VZ, if_pos (by omega)] at hx
     simp at hx
   obtain ⟨j1, j2⟩ := y4x hj
   have hp := h.pos (zJ l (l.getD i.toNat zA).2).toNat (by omega)
   rw [j2] at hp
   have hlt : (l.getD i.toNat zA).2 < (l.getD i.toNat zA).1 := by
    obtain ⟨j, hj1, hj2⟩ := h.frm i.toNat (by omega) (by omega)
    rw [← hj2]
    have := h.lt (i.toNat - (j + 1)) j (by omega)
    rw [show j + 1 + (i.toNat - (j + 1)) = i.toNat by omega] at this
    exact this
   have hmem : l.getD i.toNat zA ∈ l := ze zA l i h0 h1
   rcases ycc h n _ hj j1 x hx with h3 | ⟨h3, h4, h5⟩
   ·rw [j2] at h3
    subst h3
    exact .inr ⟨hlt, by omega, _, hmem, rfl⟩
   ·rw [j2] at h3
    exact .inr ⟨by omega, h4, h5⟩
theorem ydg {l : List ya} (h : AgesR l) {id : Int} (hi : 0 ≤ zJ l id) {x : Int} (hx : x ∈ wC l id) : x = id ∨ (x < id ∧ x ≠ 0 ∧ ∃ a ∈ l, a.2 = x) := by
 obtain ⟨h1, h2⟩ := y4x hi
 have := ycc h _ _ hi h1 x hx
 rwa [h2] at this
def y9g (K : List y8) (l : List ya) (cs : List y7) (b age : Int) : Int :=
 if ((YR (Zr K b) (wC l age)).1 && (YR (Zr K b) (wC l age)).2.2.2.1 == 1) = true then (Yo cs (YR (Zr K b) (wC l age)).2.2.2.2.1 (YR (Zr K b) (wC l age)).2.2.2.2.2).1 else 0
section
variable {q : List yb} {t : List y0} {l : List ya} {cs : List y7} {vs : List ye} (z : Int) (h : SP q t l cs vs)
include h
theorem y2Y (i b : Int) (h0 : 0 ≤ i) (h1 : i < (vs.length : Int)) (hr : 1 ≤ (yj vs i).2.2.1 ∧ (yj vs i).2.2.1 ≤ 12) (hb : inR b 0 (Go.IntKind.wrap .i64 ((yj vs i).2.2.1 - 1)) = true) : Zo (q, t, l, cs, vs, z, i, b) = some (y9g (yn t) l cs b (yj vs i).2.1) := by
 have hq := h.tq
 have hv := h.S.2.2.2.2.2
 have hm : Go.IntKind.wrap .i64 ((vs.length : Int) - 1) = (vs.length : Int) - 1 := w64 (by omega) (by omega)
 unfold Zo y9g
 simp only [YN, hm, hb, zl.2 ⟨h0, show i ≤ (vs.length : Int) - 1 by omega⟩, Bool.not_true, cond_false, if_pos h0, if_pos h1, Option.bind_some, y8Q q t l b _ hq.T h.S.2.2.2.1, y0K cs _ _ h.S.2.2.2.2.1]
 unfold yd2 ans
 obtain ⟨r1, r2⟩ := YR (Zr (yn t) b) (wC l (yj vs i).2.1)
 cases r1 with
 | false => rfl
 | true =>
  simp only [Bool.not_true, cond_false, Bool.true_and]
  by_cases hk : r2.2.2.1 = 1
  ·rw [show (r2.2.2.1 != 1) = false by simp [hk], show (r2.2.2.1 == 1) = true by simp [hk]]
   rfl
  ·rw [show (r2.2.2.1 != 1) = true by simp [hk], show (r2.2.2.1 == 1) = false by simp [hk]]
   rfl
end
end Go.Proofs.YtjllpipmaejeoaaGreat.Pl
namespace Go.Proofs.YtjllpipmaejeoaaGreat.Pl
open Go.Proofs.YtjllpipmaejeoaaGreat.R Go.Proofs.YtjllpipmaejeoaaGreat.XU
theorem vW {A : Type} [BEq A] [LawfulBEq A] : ∀ (l m : List A), l.Nodup → (∀ x ∈ l, x ∈ m) → l.length ≤ m.length
 | [], _, _, _ => Nat.zero_le _
 | a :: l, m, hn, hs => by
  have h1 := List.nodup_cons.1 hn
  have ha := hs a (by simp)
  have h2 := vW l (m.erase a) h1.2 fun x hx => (List.mem_erase_of_ne (by rintro rfl; exact h1.1 hx)).2 (hs x (by simp [hx]))
  rw [List.length_erase_of_mem ha] at h2
  have := List.length_pos_of_mem ha
  simp only [List.length_cons]
  omega
def y1N (k : y8) : Bool := k.2.2.1 == 1
def k7 (ks : List y8) : List Int := (ks.filter y1N).map fun k : y8 => k.2.2.2.1
def Y6 : List y7 → Int → List Int
 | [], _ => []
 | c :: l, i => if c.2.1 = true then i :: Y6 l (i + 1) else Y6 l (i + 1)
theorem kT : ∀ (l : List y7) (i : Int) (j : Nat), j < l.length → (l.getD j yo).2.1 = true → i + j ∈ Y6 l i
 | c :: l, i, 0, _, h => by
  have h' : c.2.1 = true := h
  rw [Y6, if_pos h']
  simp
 | c :: l, i, j + 1, hj, h => by
  have := kT l (i + 1) j (by simpa using hj) (by simpa using h)
  rw [show i + ((j + 1 : Nat) : Int) = i + 1 + j by omega, Y6]
  split
  ·exact List.mem_cons_of_mem _ this
  ·exact this
theorem qH : ∀ (l : List y7) (s i : Int), 0 ≤ s → s + l.length ≤ 1048576 → l.foldl qB s = s + (Y6 l i).length
 | [], s, _, _, _ => by simp [Y6]
 | c :: l, s, i, h0, h1 => by
  simp only [List.length_cons] at h1
  rw [List.foldl_cons, Y6]
  unfold qB
  split
  ·rw [w64 (by omega) (by omega)]
   have := qH l (s + 1) (i + 1) (by omega) (by omega)
   unfold qB at this
   rw [this, List.length_cons]
   omega
  ·have := qH l s (i + 1) h0 (by omega)
   unfold qB at this
   rw [this]
theorem y7R : ∀ (l : List y8) (s : Int), 0 ≤ s → s + l.length ≤ 1048576 → l.foldl QR s = s + (k7 l).length
 | [], s, _, _ => by simp [k7]
 | k :: l, s, h0, h1 => by
  simp only [List.length_cons] at h1
  rw [List.foldl_cons]
  unfold QR
  by_cases hk : (k.2.2.1 == 1) = true
  ·rw [if_pos hk, w64 (by omega) (by omega)]
   have := y7R l (s + 1) (by omega) (by omega)
   unfold QR at this
   rw [this]
   have hk' : y1N k = true := hk
   simp only [k7, List.filter_cons, hk', if_true, List.map_cons, List.length_cons]
   omega
  ·rw [if_neg hk]
   have := y7R l s h0 (by omega)
   unfold QR at this
   rw [this]
   have hk' : y1N k = false := by simpa [y1N] using hk
   simp only [k7, List.filter_cons, hk', Bool.false_eq_true, if_false]
section
variable {ks : List y8} {l : List ya} {cs : List y7} (h : Zu ks l cs = true)
include h
theorem y7S : Ym (yaP ks l cs) ks 0 = false ∧ ks.foldl QR 0 = vZ cs := by
 unfold Zu at h
 simp only [Bool.and_eq_true, Bool.not_eq_true', beq_iff_eq] at h
 exact h
theorem y11 (j : Nat) (hj : j < ks.length) (hd : y1N (ks.getD j yI) = true) : (0 ≤ (ks.getD j yI).2.2.2.1 ∧ (ks.getD j yI).2.2.2.1 < (cs.length : Int) ∧ (cs.getD (ks.getD j yI).2.2.2.1.toNat yo).2.1 = true) ∧ ∀ i, i < j → y1N (ks.getD i yI) = true → (ks.getD i yI).2.2.2.1 ≠ (ks.getD j yI).2.2.2.1 := by
 have h1 := JT yI ks 0 (y7S h).1 j hj
 unfold yaP at h1
 have hd' : ((ks.getD j yI).2.2.1 == 1) = true := hd
 simp only [hd', Bool.or_eq_false_iff, Bool.true_and, Bool.not_eq_false'] at h1
 obtain ⟨_, h2, h3⟩ := h1
 refine ⟨?_, fun i hi hdi he => ?_⟩
 ·unfold Yo at h2
  split at h2
  ·rename_i hh
   simp only [Bool.and_eq_true] at hh
   have := zl.1 hh.1
   exact ⟨this.1, by omega, hh.2.1⟩
  ·cases h2
 ·have hlen : (ks.take j).length = j := by simp; omega
  rw [show ((0 : Int) + (j : Int)).toNat = j by omega] at h3
  have h4 := JT yI (ks.take j) 0 h3 i (by omega)
  unfold yU at h4
  have e : (ks.take j).getD i yI = ks.getD i yI := by
   rw [List.getD_eq_getElem?_getD, List.getD_eq_getElem?_getD, List.getElem?_take, if_pos hi]
  rw [e, show ((ks.getD i yI).2.2.1 == 1) = true from hdi, he] at h4
  simp at h4
theorem yfg : (k7 ks).Nodup := by
 unfold k7 List.Nodup
 rw [List.pairwise_map, List.pairwise_filter, List.pairwise_iff_getElem]
 intro i j hi hj hij h1 h2
 have ei : ks.getD i yI = ks[i] := by simp [hi]
 have ej : ks.getD j yI = ks[j] := by simp [hj]
 have := (y11 h j hj (by rw [ej]; exact h2)).2 i hij (by rw [ei]; exact h1)
 rw [ei, ej] at this
 exact this
theorem y7T (hk : ks.length ≤ 1048576) (hc : cs.length ≤ 1048576) {i : Int} (i0 : 0 ≤ i) (i1 : i < (cs.length : Int)) (hu : (cs.getD i.toNat yo).2.1 = true) :
  ¬ zQ (yU i 0) ks 0 < 0 ∧ ∀ j : Nat, j < ks.length → (j : Int) ≠ zQ (yU i 0) ks 0 → yU i 0 (ks.getD j yI) = false := by
 have hmem : i ∈ k7 ks := by
  refine Classical.byContradiction fun hn => ?_
  have h1 := vW (i :: k7 ks) (Y6 cs 0) (List.nodup_cons.2 ⟨hn, yfg h⟩) fun x hx => by
   rcases List.mem_cons.1 hx with rfl | hx
   ·have := kT cs 0 x.toNat (by omega) hu
    rwa [show (0 : Int) + (x.toNat : Int) = x by omega] at this
   ·obtain ⟨k, hk, rfl⟩ := List.mem_map.1 hx
    obtain ⟨hk, hd⟩ := List.mem_filter.1 hk
    obtain ⟨j, hj, rfl⟩ := List.mem_iff_getElem.1 hk
    have ej : ks.getD j yI = ks[j] := by simp [hj]
    obtain ⟨⟨a1, a2, a3⟩, _⟩ := y11 h j hj (by rw [ej]; exact hd)
    rw [ej] at a1 a2 a3
    have := kT cs 0 (ks[j].2.2.2.1).toNat (by omega) a3
    rwa [show (0 : Int) + ((ks[j].2.2.2.1).toNat : Int) = ks[j].2.2.2.1 by omega] at this
  have h2 := (y7S h).2
  unfold vZ at h2
  rw [y7R ks 0 (Int.le_refl _) (by omega), qH cs 0 0 (Int.le_refl _) (by omega)] at h2
  simp only [List.length_cons] at h1
  omega
 obtain ⟨k, hk, rfl⟩ := List.mem_map.1 hmem
 obtain ⟨hk, hd⟩ := List.mem_filter.1 hk
 obtain ⟨j, hj, rfl⟩ := List.mem_iff_getElem.1 hk
 have ej : ks.getD j yI = ks[j] := by simp [hj]
 have hdj : yU (ks[j].2.2.2.1) 0 ks[j] = true := by
  unfold yU
  rw [show (ks[j].2.2.1 == 1) = true from hd]
  simp
 have hf : ¬ zQ (yU (ks[j].2.2.2.1) 0) ks 0 < 0 := fun hneg => by
  have hall : ∀ (l : List y8) (i : Int), 0 ≤ i → zQ (yU (ks[j].2.2.2.1) 0) l i < 0 → ∀ a ∈ l, yU (ks[j].2.2.2.1) 0 a = false := by
   intro l
   induction l with
   | nil => intro _ _ _ a ha; simp at ha
   | cons b l ih =>
    intro i hi hl a ha
    rw [zQ] at hl
    split at hl
    ·omega
    ·rename_i hb
     rcases List.mem_cons.1 ha with rfl | ha
     ·simpa using hb
     ·exact ih (i + 1) (by omega) hl a ha
  rw [hall ks 0 (Int.le_refl _) hneg _ hk] at hdj
  cases hdj
 refine ⟨hf, fun j' hj' hne => ?_⟩
 rcases YE (yU (ks[j].2.2.2.1) 0) yI ks 0 (Int.le_refl _) with h1 | ⟨h1, h2, h3⟩
 ·omega
 ·rw [Int.sub_zero] at h3
  have hkey : ∀ k : y8, yU (ks[j].2.2.2.1) 0 k = true → y1N k = true ∧ k.2.2.2.1 = ks[j].2.2.2.1 := fun k hk => by
   unfold yU at hk
   rw [Bool.and_eq_true, beq_iff_eq (a := k.2.2.2.1)] at hk
   exact hk
  cases hdup : yU (ks[j].2.2.2.1) 0 (ks.getD j' yI) with
  | false => rfl
  | true =>
   obtain ⟨a1, a2⟩ := hkey _ hdup
   obtain ⟨b1, b2⟩ := hkey _ h3
   have hm' : (zQ (yU (ks[j].2.2.2.1) 0) ks 0).toNat < ks.length := by omega
   rcases Nat.lt_or_gt_of_ne (show j' ≠ (zQ (yU (ks[j].2.2.2.1) 0) ks 0).toNat by omega) with hlt | hlt
   ·exact absurd (a2.trans b2.symm) ((y11 h _ hm' b1).2 j' hlt a1)
   ·exact absurd (b2.trans a2.symm) ((y11 h j' hj' a1).2 _ hlt b1)
end
theorem y5a (q : List Int) (t : List y0) (l : List ya) (cs : List y7) (vs : List ye) (z i : Int) (ht : TOk t) : Wz (q, t, l, cs, vs, z, i) = some (if zQ (yU i 0) (yn t) 0 < 0 then (0, 0, 0, 0, 0) else (yn t).getD (zQ (yU i 0) (yn t) 0).toNat yI) := by
 have ek : yM (q, t) = some (yn t) := Ys q t (by have := ht.len; omega) ht.nodes ht.sum
 have hk := ht.keys
 unfold Wz Qx
 simp only [ek, Option.bind_some]
 refine (Ze (step := J5 _ _) (fun j => (i, j, 0, 0, 0, 0, 0, yn t)) (yU i 0) (fun j => some ((yn t).getD j.toNat yI)) (some (0, 0, 0, 0, 0)) yI (yn t) (by omega) ?_ ?_).trans ?_
 ·intro again j h0 h1
  have hw : Go.IntKind.wrap .i64 (j + 1) = j + 1 := w64 (by omega) (by omega)
  unfold J5 yU
  have hx : (yn t).getD j.toNat yI = y6 (yn t) j := rfl
  rw [hx]
  simp only [Bool.cond_eq_ite, decide_eq_true_eq, h0, h1, if_true, hw]
  cases ((y6 (yn t) j).2.2.1 == 1) <;> cases ((y6 (yn t) j).2.2.2.1 == i) <;> rfl
 ·intro again j hj
  unfold J5
  simp only [Bool.cond_eq_ite, decide_eq_true_eq, if_neg hj]
 ·split <;> rfl
section
variable (q : List yb) (t : List y0) (l : List ya) (cs : List y7) (vs : List ye) (z : Int)
def YQ (i : Int) : y8 := (yn t).getD (zQ (yU i 0) (yn t) 0).toNat yI
def KJ (i : Int) : List y7 := (yb1 cs (cs.getD i.toNat yo).2.2).1
def vX (i : Int) : List Int × List y0 × Bool := yB q t ((YQ t i).1, (YQ t i).2.1, (YQ t i).2.2.1, za cs, ((KJ cs i).getD (za cs).toNat yo).1)
def k8 (i : Int) : PO × Bool := (((vX q t cs i).1, (vX q t cs i).2.1, l, jG (KJ cs i) i, vs, z), (vX q t cs i).2.2)
noncomputable def VA (i : Int) : PO × Bool :=
 if yr q t l cs vs z = true ∧ 0 ≤ i ∧ i ≤ 23 ∧ (cs.getD i.toNat yo).2.1 = true ∧ ¬ za cs < 0 ∧ za cs ≤ i then y9B (q, t, l, cs, vs, z) (k8 q t l cs vs z i) else ((q, t, l, cs, vs, z), false)
theorem kU {i : Int} (h : ¬ (yr q t l cs vs z = true ∧ 0 ≤ i ∧ i ≤ 23 ∧ (cs.getD i.toNat yo).2.1 = true ∧ ¬ za cs < 0 ∧ za cs ≤ i)) : VA q t l cs vs z i = ((q, t, l, cs, vs, z), false) := if_neg h
variable {q t l cs vs} (h : SP q t l cs vs)
include h
theorem y4y (i : Int) : SP (k8 q t l cs vs z i).1.1 (k8 q t l cs vs z i).1.2.1 (k8 q t l cs vs z i).1.2.2.1 (k8 q t l cs vs z i).1.2.2.2.1 (k8 q t l cs vs z i).1.2.2.2.2.1 :=
 (KV _ h.tq).sp h h.S.2.2.2.1 (by
  have h1 := y1L (KJ cs i) i
  have h2 := y4u cs (cs.getD i.toNat yo).2.2
  have h3 := h.S.2.2.2.2.1
  show (jG (KJ cs i) i).length ≤ _
  unfold KJ at h1 ⊢
  omega)
theorem ylD (i : Int) : SP (VA q t l cs vs z i).1.1 (VA q t l cs vs z i).1.2.1 (VA q t l cs vs z i).1.2.2.1 (VA q t l cs vs z i).1.2.2.2.1 (VA q t l cs vs z i).1.2.2.2.2.1 := by
 unfold VA
 split
 ·unfold y9B
  split
  ·exact y4y z h i
  ·exact h
 ·exact h
theorem y0o (hp : yr q t l cs vs z = true) : yZ cs = true ∧ Zu (yn t) l cs = true ∧ z7 q t = true := by
 unfold yr at hp
 simp only [Bool.and_eq_true] at hp
 exact ⟨hp.2.2.1, hp.2.2.2.2.2.2, hp.1⟩
omit h in
theorem y04 {cs : List y7} (hc : yZ cs = true) (i : Nat) (hi : i < cs.length) : isW (cs.getD i yo).2.2 = true := by
 unfold yZ at hc
 simp only [Bool.and_eq_true, Bool.not_eq_true'] at hc
 have := JT yo cs 0 hc.1 i hi
 unfold y54 at this
 simp only [Bool.or_eq_false_iff, Bool.not_eq_false'] at this
 exact this.2.1
theorem y9h (i : Int) : Yj (q, t, l, cs, vs, z, i) = some (y59 (VA q t l cs vs z i)) := by
 have hc := h.S.2.2.2.2.1
 have hq := h.tq
 have hm : Go.IntKind.wrap .i64 ((cs.length : Int) - 1) = (cs.length : Int) - 1 := w64 (by omega) (by omega)
 have ec : yl (q, t, l, cs, vs, z) = some (q, t, l, cs, vs, z) := WZ q t l cs vs z h.S
 unfold Yj
 simp only [ec, Zq z h, Zp, hm, Option.bind_some]
 cases hp : yr q t l cs vs z with
 | false =>
  rw [kU _ _ _ _ _ _ fun hh => by rw [hp] at hh; exact Bool.noConfusion hh.1]
  rfl
 | true =>
  obtain ⟨hcs, hfit, htr⟩ := y0o z h hp
  have h24 := ZT hcs
  simp only [Bool.not_true, cond_false, Option.bind_some]
  cases hi : inR i 0 ((cs.length : Int) - 1) with
  | false =>
   rw [kU _ _ _ _ _ _ fun hh => by
    rw [zl.2 ⟨hh.2.1, by have := hh.2.2.1; omega⟩] at hi
    cases hi]
   rfl
  | true =>
   obtain ⟨i0, i1⟩ := zl.1 hi
   have i2 : i < (cs.length : Int) := by omega
   have hrd : ym cs i = cs.getD i.toNat yo := rfl
   simp only [Bool.not_true, cond_false, if_pos i0, if_pos i2, hrd, Option.bind_some]
   cases hu : (cs.getD i.toNat yo).2.1 with
   | false =>
    rw [kU _ _ _ _ _ _ fun hh => by rw [hu] at hh; exact Bool.noConfusion hh.2.2.2.1]
    rfl
   | true =>
    have hw := y04 hcs i.toNat (by omega)
    obtain ⟨hf, _⟩ := y7T hfit hq.T.keys (by omega) i0 i2 hu
    simp only [Bool.not_true, cond_false, y5a q t l cs vs z i hq.T, y2X cs _ hc, Option.bind_some, if_neg hf]
    by_cases hfree : za cs < 0
    ·rw [kU _ _ _ _ _ _ fun hh => hh.2.2.2.2.1 hfree, y2l fun hh => hh.2.2 hfree]
     rfl
    ·obtain ⟨f0, f1, f2⟩ := JY hfree
     have htk := y1M ⟨hcs, hw, hfree⟩
     have hcm : KJ cs i = cs.set (za cs).toNat ((cs.getD (za cs).toNat yo).1, true, (cs.getD i.toNat yo).2.2) := by
      unfold KJ
      rw [htk]
     rw [htk, ← hcm]
     have hcl : (KJ cs i).length = cs.length := by
      unfold KJ
      exact y4u _ _
     simp only [Bool.not_true, cond_false, Option.bind_some]
     by_cases hgt : za cs > i
     ·rw [decide_eq_true hgt, cond_true, kU _ _ _ _ _ _ fun hh => by have := hh.2.2.2.2.2; omega]
      rfl
     ·rw [decide_eq_false hgt, cond_false, if_pos f0, if_pos (by omega)]
      have hmk : VA q t l cs vs z i = y9B (q, t, l, cs, vs, z) (k8 q t l cs vs z i) := if_pos ⟨hp, i0, by omega, hu, hfree, by omega⟩
      rw [hmk]
      have hcell : ym (KJ cs i) (za cs) = (KJ cs i).getD (za cs).toNat yo := rfl
      have hput := Jy q t (YQ t i).1 (YQ t i).2.1 (YQ t i).2.2.1 (za cs) ((KJ cs i).getD (za cs).toNat yo).1 hq.T hq.Q hq.q
      have hSP := y4y z h i
      have hpo : yJ (k8 q t l cs vs z i).1 = some (y0t (k8 q t l cs vs z i).1) := Zq z hSP
      simp only [hcell, show (yn t).getD (zQ (yU i 0) (yn t) 0).toNat yI = YQ t i from rfl]
      rw [hput]
      simp only [Option.bind_some, KI (KJ cs i) i (by omega)]
      unfold y9B
      cases hok : (k8 q t l cs vs z i).2 with
      | false =>
       have hok' : (vX q t cs i).2.2 = false := hok
       unfold vX at hok'
       rw [hok']
       rfl
      | true =>
       have hok' : (vX q t cs i).2.2 = true := hok
       unfold vX at hok'
       rw [hok']
       simp only [Bool.not_true, cond_false]
       refine Eq.trans (congrArg (fun o => Option.bind (Option.bind o fun r12 => some (!r12)) _) hpo) ?_
       cases hb : y0t (k8 q t l cs vs z i).1 <;> rfl
end
end Go.Proofs.YtjllpipmaejeoaaGreat.Pl
namespace Go.Proofs.YtjllpipmaejeoaaGreat.Pl
open Go.Proofs.YtjllpipmaejeoaaGreat.R Go.Proofs.YtjllpipmaejeoaaGreat.XU
theorem ylE (i : Int) (k : y8) : (bif (k.2.2.1 == (1 : Int)) then some (k.2.2.2.1 == i) else some false) = some (yU i 0 k) := by
 unfold yU
 cases (k.2.2.1 == 1) <;> rfl
section
variable {q : List yb} {t : List y0} {l : List ya} {cs : List y7} {vs : List ye} (z : Int) (h : SP q t l cs vs)
include h
theorem y05 (i : Int) : YK (q, t, l, cs, vs, z, i) = some (y59 (VA q t l cs vs z i)) := by
 have hc := h.S.2.2.2.2.1
 have hq := h.tq
 have ec : z4 (q, t, l, cs, vs, z) = some (q, t, l, cs, vs, z) := KG q t l cs vs z h.S
 have ek : zN (q, t) = some (yn t) := KB q t (by have := hq.T.len; omega) hq.T.nodes hq.T.sum
 unfold YK
 simp only [y0M cs hc, ec, jC z h, YN, Option.bind_some]
 cases hp : yr q t l cs vs z with
 | false =>
  rw [kU _ _ _ _ _ _ fun hh => by rw [hp] at hh; exact Bool.noConfusion hh.1]
  rfl
 | true =>
  obtain ⟨hcs, hfit, htr⟩ := y0o z h hp
  have h24 := ZT hcs
  simp only [Bool.not_true, cond_false, Option.bind_some]
  cases hi : inR i 0 23 with
  | false =>
   rw [kU _ _ _ _ _ _ fun hh => by
    rw [zl.2 ⟨hh.2.1, hh.2.2.1⟩] at hi
    cases hi]
   rfl
  | true =>
   obtain ⟨i0, i1⟩ := zl.1 hi
   have i2 : i < (cs.length : Int) := by omega
   have hrd : ym cs i = cs.getD i.toNat yo := rfl
   simp only [Bool.not_true, cond_false, if_pos i0, if_pos i2, hrd, Option.bind_some]
   cases hu : (cs.getD i.toNat yo).2.1 with
   | false =>
    rw [kU _ _ _ _ _ _ fun hh => by rw [hu] at hh; exact Bool.noConfusion hh.2.2.2.1]
    rfl
   | true =>
    have hw := y04 hcs i.toNat (by omega)
    obtain ⟨hf, huq⟩ := y7T hfit hq.T.keys (by omega) i0 i2 hu
    simp only [Bool.not_true, cond_false, Option.bind_some]
    by_cases hfree : za cs < 0
    ·rw [kU _ _ _ _ _ _ fun hh => hh.2.2.2.2.1 hfree]
     simp only [decide_eq_true hfree, cond_true, Option.bind_some]
     rfl
    ·simp only [decide_eq_false hfree, cond_false, Option.bind_some]
     by_cases hgt : za cs > i
     ·rw [decide_eq_true hgt, cond_true, kU _ _ _ _ _ _ fun hh => by have := hh.2.2.2.2.2; omega]
      rfl
     ·obtain ⟨f0, f1, f2⟩ := JY hfree
      have htk := y1M ⟨hcs, hw, hfree⟩
      have hcm : KJ cs i = cs.set (za cs).toNat ((cs.getD (za cs).toNat yo).1, true, (cs.getD i.toNat yo).2.2) := by
       unfold KJ
       rw [htk]
      have hcl : (KJ cs i).length = cs.length := by
       unfold KJ
       exact y4u _ _
      have hmk : VA q t l cs vs z i = y9B (q, t, l, cs, vs, z) (k8 q t l cs vs z i) := if_pos ⟨hp, i0, by omega, hu, hfree, by omega⟩
      rw [decide_eq_false hgt, cond_false, hmk]
      simp only [y2W cs _ hc, htk, ← hcm, ek, Option.bind_some]
      have hkl := hq.T.keys
      have hput := y4g q t (YQ t i).1 (YQ t i).2.1 (YQ t i).2.2.1 (za cs) ((KJ cs i).getD (za cs).toNat yo).1 hq.T hq.Q hq.q
      have hSP := y4y z h i
      have hpo : zG (k8 q t l cs vs z i).1 = some (y0t (k8 q t l cs vs z i).1) := jC z hSP
      have hfr := y2V (KJ cs i) i (by omega)
      have hm1 := YE (yU i 0) yI (yn t) 0 (Int.le_refl _)
      have hkey : y6 (yn t) (zQ (yU i 0) (yn t) 0) = YQ t i := rfl
      generalize zQ (yU i 0) (yn t) 0 = m at *
      obtain ⟨m0, m1, m2⟩ : 0 ≤ m ∧ m < ((yn t).length : Int) ∧ yU i 0 ((yn t).getD m.toNat yI) = true := by
       rcases hm1 with h1 | ⟨h1, h2, h3⟩
       ·omega
       ·rw [Int.sub_zero] at h3
        exact ⟨h1, by omega, h3⟩
      unfold VX
      refine YM (step := ZR _ _ _ _) (fun x : JQ => (yn t).length - (match x with | .inl x => x.2.2.2.1.toNat | .inr x => x.2.2.2.1.toNat))
       (fun x => (∃ j : Int, x = .inl (i, za cs, ((yn t).length : Int), j, q, t, l, cs, vs, z, 0, z, KJ cs i, yn t, q, t, l, cs, vs) ∧ 0 ≤ j ∧ j ≤ m) ∨ (∃ j : Int, x = .inr (i, za cs, ((yn t).length : Int), j, q, t, l, cs, vs, z, 0, (vX q t cs i).1, (vX q t cs i).2.1, z, KJ cs i, yn t, l, cs, vs) ∧ m < j ∧ j ≤ ((yn t).length : Int) ∧ (vX q t cs i).2.2 = true))
       (fun _ => some (y59 (y9B (q, t, l, cs, vs, z) (k8 q t l cs vs z i)))) ?_ _ (.inl ⟨0, rfl, Int.le_refl _, m0⟩) (by simp only; omega)
      rintro again x hinv hag
      have hstep : ∀ j : Int, 0 ≤ j → j < ((yn t).length : Int) → Go.IntKind.wrap .i64 (j + 1) = j + 1 ∧ (bif ((y6 (yn t) j).2.2.1 == (1 : Int)) then some ((y6 (yn t) j).2.2.2.1 == i) else some false) = some (decide (j = m)) := fun j j0 j1 => by
       refine ⟨w64 (by omega) (by omega), ?_⟩
       rw [ylE]
       by_cases hjm : j = m
       ·rw [decide_eq_true hjm, hjm]
        exact congrArg some m2
       ·have := huq j.toNat (by omega) (by omega)
        rw [decide_eq_false hjm]
        exact congrArg some this
      rcases hinv with ⟨j, rfl, j0, j1⟩ | ⟨j, rfl, j0, j1, hok⟩
      ·obtain ⟨hw2, hdup⟩ := hstep j j0 (by omega)
       unfold ZR
       simp only [decide_eq_true (show j < ((yn t).length : Int) by omega), cond_true, if_pos j0, if_pos (show j < ((yn t).length : Int) by omega), hdup, hw2, Option.bind_some]
       by_cases hjm : j = m
       ·subst hjm
        rw [decide_eq_true rfl, cond_true, if_pos f0, if_pos (by omega), hkey]
        have hcell : ym (KJ cs i) (za cs) = (KJ cs i).getD (za cs).toNat yo := rfl
        rw [hcell, hput]
        simp only [Option.bind_some, ec]
        cases hok : (vX q t cs i).2.2 with
        | false =>
         have hok' := hok
         unfold vX at hok'
         rw [hok', Bool.not_false, cond_true]
         unfold y9B
         rw [if_neg (by
          show ¬ ((vX q t cs i).2.2 && _) = true
          rw [hok]
          simp)]
         rfl
        | true =>
         have hok' := hok
         unfold vX at hok'
         rw [hok', Bool.not_true, cond_false]
         exact hag _ (.inr ⟨j + 1, rfl, by omega, by omega, hok⟩) (by simp only; omega)
       ·rw [decide_eq_false hjm, cond_false]
        exact hag _ (.inl ⟨j + 1, rfl, by omega, by omega⟩) (by simp only; omega)
      ·unfold ZR
       by_cases hj : j < ((yn t).length : Int)
       ·obtain ⟨hw2, hdup⟩ := hstep j (by omega) hj
        simp only [decide_eq_true hj, cond_true, if_pos (show 0 ≤ j by omega), if_pos hj, hdup, hw2, Option.bind_some]
        rw [decide_eq_false (show ¬ j = m by omega), cond_false]
        exact hag _ (.inr ⟨j + 1, rfl, by omega, by omega, hok⟩) (by simp only; omega)
       ·simp only [decide_eq_false hj, cond_false, hfr, Option.bind_some]
        unfold y9B
        rw [show (k8 q t l cs vs z i).2 = true from hok]
        refine Eq.trans (congrArg (fun o => Option.bind o _) hpo) ?_
        cases hb : y0t (k8 q t l cs vs z i).1 with
        | false =>
         simp only [Option.bind_some, Bool.not_false, cond_true, ec]
         rfl
        | true => rfl
end
def w8 (cs : List y7) : Nat → Int
 | 0 => -1
 | n + 1 => if (cs.getD n yo).2.1 = true then (n : Int) else w8 cs n
theorem y2I (cs : List y7) (hc : cs.length ≤ 1048576) : ZS cs = some (w8 cs cs.length) := by
 have hm : Go.IntKind.wrap .i64 ((cs.length : Int) - 1) = (cs.length : Int) - 1 := w64 (by omega) (by omega)
 unfold ZS VY
 rw [hm]
 refine (YM (step := JS _ _) (fun x : JR => (x.2 + 1).toNat) (fun x => ∃ j : Int, x = (cs, j) ∧ -1 ≤ j ∧ j < (cs.length : Int)) (fun x => some (w8 cs (x.2 + 1).toNat)) ?_ _ ⟨_, rfl, by omega, by omega⟩ (by simp only; omega)).trans ?_
 ·rintro again x ⟨j, rfl, j0, j1⟩ hag
  unfold JS
  by_cases hj : j ≥ 0
  ·have hw : Go.IntKind.wrap .i64 (j - 1) = j - 1 := w64 (by omega) (by omega)
   have hrd : ym cs j = cs.getD j.toNat yo := rfl
   simp only [decide_eq_true hj, cond_true, if_pos (show 0 ≤ j from hj), if_pos j1, hrd, hw]
   rw [show (j + 1).toNat = j.toNat + 1 by omega, w8]
   cases hu : (cs.getD j.toNat yo).2.1 with
   | true =>
    simp only [cond_true, if_true]
    rw [show ((j.toNat : Nat) : Int) = j by omega]
   | false =>
    simp only [cond_false, Bool.false_eq_true, if_false]
    rw [hag _ ⟨j - 1, rfl, by omega, by omega⟩ (by simp only; omega), show (j - 1 + 1).toNat = j.toNat by omega]
  ·simp only [decide_eq_false hj, cond_false]
   rw [show (j + 1).toNat = 0 by omega]
   rfl
 ·rw [show ((cs.length : Int) - 1 + 1).toNat = cs.length by omega]
def SPm (p : PO) : Prop := SP p.1 p.2.1 p.2.2.1 p.2.2.2.1 p.2.2.2.2.1
noncomputable def mvP (p : PO) : PO × Bool := VA p.1 p.2.1 p.2.2.1 p.2.2.2.1 p.2.2.2.2.1 p.2.2.2.2.2 (w8 p.2.2.2.1 p.2.2.2.1.length)
noncomputable def ycd : Nat → PO → PO
 | 0, p => p
 | m + 1, p => if (mvP p).2 = true then ycd m (mvP p).1 else p
theorem ys3 {p : PO} (h : SPm p) : SPm (mvP p).1 := ylD p.2.2.2.2.2 h _
theorem ydh {R : Type} (a b : PO → Option R) (i : Int) (p : PO) (again : Int → PO → Option R) (i0 : 0 ≤ i) (i1 : i ≤ 24) (hp : SPm p) (f : PO → R) (ha0 : ∀ p, a p = some (f p)) (hb0 : ∀ p, b p = some (f p))
  (ha : ∀ p', SPm p' → i < 24 → again (i + 1) p' = some (f (ycd (24 - (i + 1).toNat) p'))) :
  (bif (decide (i < (24 : Int))) then (bif (!(mvP p).2) then a p else again (Go.IntKind.wrap .i64 (i + (1 : Int))) (mvP p).1) else b p) = some (f (ycd (24 - i.toNat) p)) := by
 by_cases hi : i < 24
 ·have hw : Go.IntKind.wrap .i64 (i + 1) = i + 1 := w64 (by omega) (by omega)
  rw [decide_eq_true hi, cond_true, hw, show 24 - i.toNat = (24 - (i + 1).toNat) + 1 by omega, ycd]
  cases hb : (mvP p).2 with
  | false => exact ha0 p
  | true => exact ha _ (ys3 hp) hi
 ·rw [decide_eq_false hi, cond_false, show 24 - i.toNat = 0 by omega]
  exact hb0 p
abbrev M2 : Type := Int × Int × Int × List yb × List y0 × List ya × List y7 × List ye
abbrev M3 : Type := Int × Int × List yb × List y0 × Int × List ya × List y7 × List ye
def mP (x : M2) : PO := (x.2.2.2.1, x.2.2.2.2.1, x.2.2.2.2.2.1, x.2.2.2.2.2.2.1, x.2.2.2.2.2.2.2, x.2.2.1)
def mI : M2 ⊕ M3 → Int
 | .inl x => x.1
 | .inr x => x.1
def mQ : M2 ⊕ M3 → PO
 | .inl x => mP x
 | .inr x => (x.2.2.1, x.2.2.2.1, x.2.2.2.2.2.1, x.2.2.2.2.2.2.1, x.2.2.2.2.2.2.2, x.2.2.2.2.1)
theorem y4z (p : PO) (h : SPm p) : wz p = some (ycd 24 p) := by
 have ec : z4 p = some p := KG p.1 p.2.1 p.2.2.1 p.2.2.2.1 p.2.2.2.2.1 p.2.2.2.2.2 h.S
 unfold wz qY
 rw [ec]
 obtain ⟨q, t, l, cs, vs, z⟩ := p
 simp only [Option.bind_some]
 refine YM (step := jt _ _ _) (fun x : M2 ⊕ M3 => 24 - (mI x).toNat) (fun x => 0 ≤ (mI x) ∧ (mI x) ≤ 24 ∧ SPm (mQ x))
  (fun x => some (ycd (24 - (mI x).toNat) (mQ x))) ?_ (Sum.inl (0, 0, z, q, t, l, cs, vs)) ⟨Int.le_refl _, show (0 : Int) ≤ 24 by decide, h⟩ (show 24 - (0 : Int).toNat < 18446744073709551616 by decide)
 have key : ∀ (i b : Int) (q : List yb) (t : List y0) (l : List ya) (cs : List y7) (vs : List ye) (z : Int) (again : M2 ⊕ M3 → Option PO) (hag : ∀ t', 0 ≤ mI t' ∧ mI t' ≤ 24 ∧ SPm (mQ t') → 24 - (mI t').toNat < 24 - i.toNat → again t' = some (ycd (24 - (mI t').toNat) (mQ t'))), 0 ≤ i → i ≤ 24 → SPm (q, t, l, cs, vs, z) →
   (bif (decide (i < (24 : Int))) then (bif (!(mvP (q, t, l, cs, vs, z)).2) then some (q, t, l, cs, vs, z) else again (.inr ((Go.IntKind.wrap .i64 (i + (1 : Int))), b, (mvP (q, t, l, cs, vs, z)).1.1, (mvP (q, t, l, cs, vs, z)).1.2.1, (mvP (q, t, l, cs, vs, z)).1.2.2.2.2.2, (mvP (q, t, l, cs, vs, z)).1.2.2.1, (mvP (q, t, l, cs, vs, z)).1.2.2.2.1, (mvP (q, t, l, cs, vs, z)).1.2.2.2.2.1))) else some (q, t, l, cs, vs, z)) = some (ycd (24 - i.toNat) (q, t, l, cs, vs, z)) := by
  intro i b q t l cs vs z again hag i0 i1 hp
  exact ydh (fun p => some p) (fun p => some p) i (q, t, l, cs, vs, z) (fun i x => again (.inr (i, b, x.1, x.2.1, x.2.2.2.2.2, x.2.2.1, x.2.2.2.1, x.2.2.2.2.1))) i0 i1 hp id (fun _ => rfl) (fun _ => rfl) fun p' hp' hi => hag (.inr (i + 1, b, p'.1, p'.2.1, p'.2.2.2.2.2, p'.2.2.1, p'.2.2.2.1, p'.2.2.2.2.1)) ⟨by simp only [mI]; omega, by simp only [mI]; omega, hp'⟩ (by simp only [mI]; omega)
 rintro again (⟨i, b, z, q, t, l, cs, vs⟩ | ⟨i, b, q, t, z, l, cs, vs⟩) ⟨i0, i1, hp⟩ hag
 ·have hp' : SP q t l cs vs := hp
  have e1 := y2I cs hp'.S.2.2.2.2.1
  have e2 := y05 z hp' (w8 cs cs.length)
  refine Eq.trans ?_ (key i b q t l cs vs z again hag i0 i1 hp)
  unfold jt
  simp only [e1, e2, Option.bind_some]
  rfl
 ·have hp' : SP q t l cs vs := hp
  have e1 := y2I cs hp'.S.2.2.2.2.1
  have e2 := y05 z hp' (w8 cs cs.length)
  refine Eq.trans ?_ (key i b q t l cs vs z again hag i0 i1 hp)
  unfold jt
  simp only [e1, e2, Option.bind_some]
  rfl
section
variable (q : List yb) (t : List y0) (l : List ya) (cs : List y7) (vs : List ye) (z : Int)
noncomputable def yfh (i : Int) : PO × Bool := if yr q t l cs vs z = true ∧ 0 ≤ i ∧ i ≤ (t.length : Int) - 1 then (((y4v q t i).1, (y4v q t i).2, l, cs, vs, z), true) else ((q, t, l, cs, vs, z), false)
theorem y2m {i : Int} (h : ¬ (yr q t l cs vs z = true ∧ 0 ≤ i ∧ i ≤ (t.length : Int) - 1)) : yfh q t l cs vs z i = ((q, t, l, cs, vs, z), false) := if_neg h
theorem y3q {i : Int} (h : yr q t l cs vs z = true ∧ 0 ≤ i ∧ i ≤ (t.length : Int) - 1) : yfh q t l cs vs z i = (((y4v q t i).1, (y4v q t i).2, l, cs, vs, z), true) := if_pos h
variable {q t l cs vs} (h : SP q t l cs vs)
include h
theorem y2Z (i : Int) : Yi (q, t, l, cs, vs, z, i) = some (y59 (yfh q t l cs vs z i)) := by
 have hq := h.tq
 have hm : Go.IntKind.wrap .i64 ((t.length : Int) - 1) = (t.length : Int) - 1 := w64 (by have := hq.T.len; omega) (by have := hq.T.len; omega)
 have ec : yl (q, t, l, cs, vs, z) = some (q, t, l, cs, vs, z) := WZ q t l cs vs z h.S
 unfold Yi
 simp only [ec, Zq z h, Zp, hm, Option.bind_some]
 cases hp : yr q t l cs vs z with
 | false =>
  rw [y2m _ _ _ _ _ _ fun hh => by rw [hp] at hh; exact Bool.noConfusion hh.1]
  rfl
 | true =>
  simp only [Bool.not_true, cond_false, Option.bind_some]
  cases hi : inR i 0 ((t.length : Int) - 1) with
  | false =>
   rw [y2m _ _ _ _ _ _ fun hh => by
    rw [zl.2 hh.2] at hi
    cases hi]
   rfl
  | true =>
   obtain ⟨i0, i1⟩ := zl.1 hi
   rw [y3q _ _ _ _ _ _ ⟨hp, i0, i1⟩, y9e q t i (QV (y0o z h hp).2.2) h.S.1 i0 (by omega)]
   rfl
theorem y30 (i : Int) : Jm (q, t, l, cs, vs, z, i) = some (y59 (yfh q t l cs vs z i)) := by
 have hq := h.tq
 have hm : Go.IntKind.wrap .i64 ((t.length : Int) - 1) = (t.length : Int) - 1 := w64 (by have := hq.T.len; omega) (by have := hq.T.len; omega)
 have ec : z4 (q, t, l, cs, vs, z) = some (q, t, l, cs, vs, z) := KG q t l cs vs z h.S
 unfold Jm
 simp only [ec, jC z h, YN, hm, Option.bind_some]
 cases hp : yr q t l cs vs z with
 | false =>
  rw [y2m _ _ _ _ _ _ fun hh => by rw [hp] at hh; exact Bool.noConfusion hh.1]
  rfl
 | true =>
  simp only [Bool.not_true, cond_false, Option.bind_some]
  cases hi : inR i 0 ((t.length : Int) - 1) with
  | false =>
   rw [y2m _ _ _ _ _ _ fun hh => by
    rw [zl.2 hh.2] at hi
    cases hi]
   rfl
  | true =>
   obtain ⟨i0, i1⟩ := zl.1 hi
   rw [y3q _ _ _ _ _ _ ⟨hp, i0, i1⟩, y9f q t i (QV (y0o z h hp).2.2) h.S.1 i0 (by omega)]
   rfl
end
end Go.Proofs.YtjllpipmaejeoaaGreat.Pl
namespace Go.Proofs.YtjllpipmaejeoaaGreat.Pl
open Go.Proofs.YtjllpipmaejeoaaGreat.R Go.Proofs.YtjllpipmaejeoaaGreat.XU
def yxN {A : Type} (q : List yb) (t : List y0) (l : List ya) (cs : List y7) (vs : List ye) (z : Int) (o : Option (List yb × List y0 × List ya × List y7 × List ye × Int × A)) : Prop :=
 ∃ q' t' l' cs' vs' z' c, o = some (q', t', l', cs', vs', z', c) ∧ (Tn q' t' l' cs' vs' ∨ (q', t', l', cs', vs', z') = (q, t, l, cs, vs, z))
section
variable {q : List yb} {t : List y0} {l : List ya} {cs : List y7} {vs : List ye} {z : Int}
theorem Res.a {o : Option P7a} (h : Res q t l cs vs z o) : yxN q t l cs vs z o := by
 obtain ⟨q', t', l', cs', vs', z', c, e, hc⟩ := h
 exact ⟨q', t', l', cs', vs', z', c, e, hc.imp y00 id⟩
theorem yxN.same {A : Type} (c : A) : yxN q t l cs vs z (some (q, t, l, cs, vs, z, c)) := ⟨_, _, _, _, _, _, c, rfl, .inr rfl⟩
end
section
variable {q : List yb} {t : List y0} {l : List ya} {cs : List y7} {vs : List ye} (z : Int) (h : SP q t l cs vs)
include h
end
end Go.Proofs.YtjllpipmaejeoaaGreat.Pl
namespace Go.Proofs.YtjllpipmaejeoaaGreat.Pl
open Go.Proofs.YtjllpipmaejeoaaGreat.R Go.Proofs.YtjllpipmaejeoaaGreat.XU
theorem yiO (c : List Int) (p s : Int) (L : List ByteArray) (hL : 0 < L.length) (hL2 : L.length ≤ 1048576) (hs : ∀ t ∈ L, t.size ≤ 60) (h : Vz c p) : ydd (wY (c, p, s, L)) c (fun v => v.size ≤ 60) := by
 obtain ⟨v, p1, s1, e1, h1, q1⟩ := y0n c p s (L.length : Int) h
 have := q1.2 (by omega)
 unfold wY
 rw [e1]
 simp only [Option.bind_some]
 rw [if_pos q1.1, if_pos this]
 exact ⟨_, _, _, rfl, h1, hs _ (ze ygj L v q1.1 this)⟩
theorem ylF (c : List Int) (p s : Int) (h : Vz c p) : ydd (Yy (c, p, s)) c (fun v => v.size ≤ 60) := by
 obtain ⟨v, p1, s1, e1, h1, q1⟩ := yiO c p s [{ data := #[97] }, { data := #[98] }, { data := #[99] }, { data := #[100] }, { data := #[101, 53] }] (by simp) (by simp) (by decide) h
 unfold Yy
 rw [e1]
 exact ⟨_, _, _, rfl, h1, q1⟩
theorem yhp (c : List Int) (p s : Int) (h : Vz c p) : ydd (Yz (c, p, s)) c (fun _ => True) := by
 obtain ⟨v, p1, s1, e1, h1, q1⟩ := y0n c p s 200 h
 unfold Yz
 rw [e1]
 simp only [Option.bind_some]
 obtain ⟨v2, p2, s2, e2, h2, q2⟩ := yc7 c p1 s1 [0, 1, 2, 7, 65535, Go.IntKind.wrap .i64 (1 + v)] (by simp) (by simp) h1
 rw [e2]
 exact ⟨_, _, _, rfl, h2, trivial⟩
def y4A (o : Option (Int × ByteArray × ByteArray × Int × Int × List Int × Int × Int)) (c : List Int) : Prop := ∃ k n t a b p s, o = some (k, n, t, a, b, c, p, s) ∧ Vz c p ∧ ByteArray.size n ≤ 60 ∧ ByteArray.size t ≤ 60
theorem ys4 {c : List Int} {p s : Int} {L : List Int} {k b : Int} {n t : ByteArray} (hL : 0 < L.length) (hL2 : L.length ≤ 1048576) (h : Vz c p) (hn : n.size ≤ 60) (ht : t.size ≤ 60) :
  y4A (Option.bind (zt (c, p, s, L)) fun r => some (k, n, t, r.1, b, r.2.1, r.2.2.1, r.2.2.2)) c := by
 obtain ⟨v, p1, s1, e1, h1, _⟩ := yc7 c p s L hL hL2 h
 rw [e1]
 exact ⟨_, _, _, _, _, _, _, rfl, h1, hn, ht⟩
theorem ys5 {c : List Int} {p s m : Int} {k b : Int} {n t : ByteArray} (h : Vz c p) (hn : n.size ≤ 60) (ht : t.size ≤ 60) :
  y4A (Option.bind (yy (c, p, s, m)) fun r => some (k, n, t, r.1, b, r.2.1, r.2.2.1, r.2.2.2)) c := by
 obtain ⟨v, p1, s1, e1, h1, _⟩ := y0n c p s m h
 rw [e1]
 exact ⟨_, _, _, _, _, _, _, rfl, h1, hn, ht⟩
theorem ys6 {c : List Int} {p s : Int} {L : List Int} {k a : Int} {n : ByteArray} (hL : 0 < L.length) (hL2 : L.length ≤ 1048576) (h : Vz c p) (hn : n.size ≤ 60) :
  y4A (Option.bind (Yy (c, p, s)) fun r4 => Option.bind (zt (r4.2.1, r4.2.2.1, r4.2.2.2, L)) fun r5 => some (k, n, r4.1, a, r5.1, r5.2.1, r5.2.2.1, r5.2.2.2)) c := by
 obtain ⟨v, p1, s1, e1, h1, q1⟩ := ylF c p s h
 rw [e1]
 simp only [Option.bind_some]
 obtain ⟨v2, p2, s2, e2, h2, _⟩ := yc7 c p1 s1 L hL hL2 h1
 rw [e2]
 exact ⟨_, _, _, _, _, _, _, rfl, h2, hn, q1⟩
theorem ys7 {c : List Int} {p s m : Int} {k : Int} {n t : ByteArray} (h : Vz c p) (hn : n.size ≤ 60) (ht : t.size ≤ 60) :
  y4A (Option.bind (yy (c, p, s, m)) fun r6 => Option.bind (Yz (r6.2.1, r6.2.2.1, r6.2.2.2)) fun r7 => some (k, n, t, r6.1, r7.1, r7.2.1, r7.2.2.1, r7.2.2.2)) c := by
 obtain ⟨v, p1, s1, e1, h1, _⟩ := y0n c p s m h
 rw [e1]
 simp only [Option.bind_some]
 obtain ⟨v2, p2, s2, e2, h2, _⟩ := yhp c p1 s1 h1
 rw [e2]
 exact ⟨_, _, _, _, _, _, _, rfl, h2, hn, ht⟩
theorem ys8 {c : List Int} {p s k a b : Int} {n t : ByteArray} (h : Vz c p) (hn : n.size ≤ 60) (ht : t.size ≤ 60) : y4A (some (k, n, t, a, b, c, p, s)) c := ⟨_, _, _, _, _, _, _, rfl, h, hn, ht⟩
theorem yxO : (⟨#[]⟩ : ByteArray).size ≤ 60 := by decide
theorem ydi {A : Type} {P : A → Prop} (b : Bool) {x y : A} (hx : P x) (hy : P y) : P (bif b then x else y) := by cases b <;> assumption
theorem ys9 (c : List Int) (p s : Int) (h : Vz c p) : y4A (YC (c, p, s)) c := by
 unfold YC
 obtain ⟨v, p1, s1, e1, h1, _⟩ := yc7 c p s [1, 1, 1, 2, 2, 3, 4, 4, 4, 4, 4, 4, 5, 6, 7, 7, 8, 9] (by simp) (by simp) h
 rw [e1]
 simp only [Option.bind_some]
 obtain ⟨n, p2, s2, e2, h2, hn⟩ := yiO c p1 s1 [{ data := #[97] }, { data := #[97] }, { data := #[98] }, { data := #[99] }, { data := #[100] }] (by simp) (by simp) (by decide) h1
 rw [e2]
 simp only [Option.bind_some]
 have hz := yxO
 repeat' (first
  | with_reducible refine ydi (P := fun o => y4A o c) _ ?_ ?_
  | with_reducible exact ys4 (by simp) (by simp) h2 hn hz
  | with_reducible exact ys4 (by simp) (by simp) h1 hz hz
  | with_reducible exact ys6 (by simp) (by simp) h2 hn
  | with_reducible exact ys6 (by simp) (by simp) h1 hz
  | with_reducible exact ys7 h2 hn hz
  | with_reducible exact ys7 h1 hz hz
  | with_reducible exact ys5 h2 hn hz
  | with_reducible exact ys5 h1 hz hz
  | with_reducible exact ys8 h2 hn hz
  | with_reducible exact ys8 h1 hz hz)
end Go.Proofs.YtjllpipmaejeoaaGreat.Pl
namespace Go.Proofs.YtjllpipmaejeoaaGreat.Pl
open Go.Proofs.YtjllpipmaejeoaaGreat.R Go.Proofs.YtjllpipmaejeoaaGreat.XU
def Nsm (n : List y9) (a : Nat) (b : Int) : Prop := n.length ≤ a ∧ WW VC n ≤ b
theorem Nsm.ns {n : List y9} {a : Nat} {b : Int} (h : Nsm n a b) (ha : a ≤ 900) (hb : b ≤ 900) : NS n := ⟨Nat.le_trans h.1 (by omega), by have := h.2; omega⟩
end Go.Proofs.YtjllpipmaejeoaaGreat.Pl
namespace Go.Proofs.YtjllpipmaejeoaaGreat.Pl
open Go.Proofs.YtjllpipmaejeoaaGreat.R Go.Proofs.YtjllpipmaejeoaaGreat.XU
theorem ylG (x : List Int) (m : Int) (hx : x.length ≤ 1099511627776) (hm : 3 ≤ m) : ∃ n, WA (x, m) = some n ∧ 0 ≤ n ∧ n ≤ m := by
 unfold WA
 have hd : Int.tdiv ((List.length x : Nat) : Int) 12 = ((List.length x : Nat) : Int) / 12 := Int.tdiv_eq_ediv_of_nonneg (by omega)
 simp only [hd]
 rw [show Go.IntKind.wrap .i64 (((List.length x : Nat) : Int) / 12) = ((List.length x : Nat) : Int) / 12 from w64 (by omega) (by omega), show Go.IntKind.wrap .i64 (3 + ((List.length x : Nat) : Int) / 12) = 3 + ((List.length x : Nat) : Int) / 12 from w64 (by omega) (by omega)]
 by_cases h : 3 + ((List.length x : Nat) : Int) / 12 > m
 ·rw [decide_eq_true h]
  exact ⟨_, rfl, by omega, Int.le_refl _⟩
 ·rw [decide_eq_false h]
  exact ⟨_, rfl, by omega, by omega⟩
end Go.Proofs.YtjllpipmaejeoaaGreat.Pl
namespace Go.Proofs.YtjllpipmaejeoaaGreat.Pl
open Go.Proofs.YtjllpipmaejeoaaGreat.R Go.Proofs.YtjllpipmaejeoaaGreat.XU
theorem yfi {A : Type} (t : List A) (i : Nat) (h : i < t.length) (x : A) : t.set i x = t.take i ++ ([x] ++ t.drop (i + 1)) := by
 rw [List.set_eq_take_append_cons_drop, if_pos h]
 rfl
theorem y4B {A : Type} (t : List A) (i : Nat) (x d : A) (j : Nat) (h : i ≠ j) : (t.set i x).getD j d = t.getD j d := by
 rw [List.getD_eq_getElem?_getD, List.getD_eq_getElem?_getD, List.getElem?_set_ne h]
theorem y1O {A : Type} (t : List A) (i : Nat) (x d : A) (h : i < t.length) : (t.set i x).getD i d = x := by
 rw [List.getD_eq_getElem?_getD, List.getElem?_set_self h]
 rfl
theorem y4C (t : List y0) (i : Nat) (hi : i < t.length) : yn (t.set i (yK (yA (t.getD i yh)))) = yn t := by
 have e := Zg (Km (t.getD i yh)) fun x hx => vU hx
 conv => rhs; rw [y0m yh t i hi]
 rw [yfi t i hi, YO, YO, YO, YO, KS, KS, e]
theorem yfj {q : List Int} {t : List y0} (h : z7 q t = true) (i : Nat) (hi : i < t.length) : z7 q (t.set i (yK (yA (t.getD i yh)))) = true := by
 have hk := y4C t i hi
 have hf := jw h
 unfold z7 at h ⊢
 rw [hk, List.length_set]
 simp only [Bool.and_eq_true, Bool.not_eq_true', decide_eq_true_eq] at h ⊢
 refine ⟨h.1, h.2.1, h.2.2.1, Kn yh _ 0 fun j hj => ?_, h.2.2.2.2⟩
 rw [List.length_set] at hj
 have hb := JT yh t 0 h.2.2.2.1 j hj
 by_cases hij : i = j
 ·subst hij
  rw [y1O t i _ _ hi]
  unfold KC y1A at hb ⊢
  simp only [Bool.or_eq_false_iff, Bool.not_eq_false', Bool.and_eq_true, Bool.not_eq_true'] at hb ⊢
  obtain ⟨h1, h2, h3, h4⟩ := hb
  obtain ⟨f1, f2, f3⟩ := JW h2
  have hl := Ki (t.getD i yh)
  have hkey : ∀ k ∈ yA (t.getD i yh), zR k = true := fun k hk => by
   obtain ⟨c, hc, hkc⟩ := QS hk
   exact f3 c hc k hkc
  refine ⟨h1, y2d (Km _) hkey (by omega), ?_, ?_⟩
  ·unfold y5M at h3 ⊢
   rw [Zg (Km _) fun x hx => vU hx]
   exact h3
  ·unfold yK
   split
   ·rfl
   ·show (y9A q _ 0 (yA (t.getD i yh)) || false) = false
    rw [Bool.or_false]
    unfold y9A
    refine Kn yI _ 0 fun m hm => ?_
    have hmm : (yA (t.getD i yh)).getD m yI ∈ yA (t.getD i yh) := by
     rw [zd _ _ _ hm]
     exact List.getElem_mem _
    obtain ⟨c, hc, hkc⟩ := QS hmm
    obtain ⟨j1, hj1⟩ := w7 _ _ 0 h4 c hc
    unfold y9A at hj1
    obtain ⟨j2, hj2⟩ := w7 _ _ 0 hj1 _ hkc
    exact hj2
 ·rw [y4B t i _ _ j hij]
  exact hb
theorem y9i {q : List Int} {t : List y0} {l : List ya} {cs : List y7} {vs : List ye} {z : Int} (h : yr q t l cs vs z = true) (i : Int) (h0 : 0 ≤ i) (h1 : i < (t.length : Int)) : yr (y4v q t i).1 (y4v q t i).2 l cs vs z = true := by
 have hk := y4C t i.toNat (by omega)
 rw [show y4v q t i = (q, t.set i.toNat (yK (yA (t.getD i.toNat yh)))) from rfl]
 unfold yr at *
 simp only [Bool.and_eq_true] at h ⊢
 rw [hk]
 exact ⟨yfj h.1 i.toNat (by omega), h.2⟩
def y5T {A : Type} (o : Option (List yb × List y0 × List ya × List y7 × List ye × Int × A)) : Prop :=
 ∃ q' t' l' cs' vs' z' c, o = some (q', t', l', cs', vs', z', c) ∧ yr q' t' l' cs' vs' z' = true
section
variable {q : List yb} {t : List y0} {l : List ya} {cs : List y7} {vs : List ye} {z : Int}
theorem Res.b {o : Option P7a} (hp : yr q t l cs vs z = true) (h : Res q t l cs vs z o) : y5T o := by
 obtain ⟨q', t', l', cs', vs', z', c, e, hc⟩ := h
 refine ⟨q', t', l', cs', vs', z', c, e, ?_⟩
 rcases hc with hc | hc
 ·exact hc
 ·simp only [Prod.mk.injEq] at hc
  obtain ⟨rfl, rfl, rfl, rfl, rfl, rfl⟩ := hc
  exact hp
theorem y5T.same {A : Type} (hp : yr q t l cs vs z = true) (c : A) : y5T (some (q, t, l, cs, vs, z, c)) := ⟨_, _, _, _, _, _, c, rfl, hp⟩
variable (z) (h : SP q t l cs vs) (hp : yr q t l cs vs z = true)
include h hp
theorem y9j (r : PO × Bool) : y0t (y9B (q, t, l, cs, vs, z) r).1 = true := by
 unfold y9B
 split
 ·rename_i hh
  rw [Bool.and_eq_true] at hh
  exact hh.2
 ·exact hp
theorem ydj (i : Int) : y5T (Yi (q, t, l, cs, vs, z, i)) := by
 rw [y2Z z h i]
 by_cases hh : yr q t l cs vs z = true ∧ 0 ≤ i ∧ i ≤ (t.length : Int) - 1
 ·rw [y3q q t l cs vs z hh]
  exact ⟨_, _, _, _, _, _, _, rfl, y9i hp i hh.2.1 (by omega)⟩
 ·rw [y2m q t l cs vs z hh]
  exact y5T.same hp _
theorem ydk (i : Int) : y5T (Yj (q, t, l, cs, vs, z, i)) := by
 rw [y9h z h i]
 have hb : y0t (VA q t l cs vs z i).1 = true := by
  unfold VA
  split
  ·exact y9j z h hp _
  ·exact hp
 exact ⟨_, _, _, _, _, _, _, rfl, hb⟩
theorem yb2 : y5T (Y5 (q, t, l, cs, vs, z)) := by
 rw [y2k z h]
 have hb : y0t (y98 q t l cs vs z).1 = true := by
  unfold y98
  split
  ·split
   ·exact hp
   ·exact y9j z h hp _
  ·exact hp
 exact ⟨_, _, _, _, _, _, _, rfl, hb⟩
theorem yb3 (k : Int) (n m : ByteArray) (a b : Int) (hn : n.size ≤ 60) (hm : m.size ≤ 60) : y5T (J6 (q, t, l, cs, vs, z, k, n, m, a, b)) := by
 unfold J6 K1
 simp only [y9b k n m a b (y4t hn) (y4t hm), Zq z h, y02 z h, Option.bind_some, ylz, yxL, yiN]
 have key : ∀ u : Bool, y5T (bif u then some (q, t, l, cs, vs, z, (1 : Int)) else bif (k == (1 : Int)) then JG (q, t, l, cs, vs, z, n, a) else bif (k == (2 : Int)) then kr (q, t, l, cs, vs, z, n, m, (b == (1 : Int))) else bif (k == (3 : Int)) then kt (q, t, l, cs, vs, z, n) else bif (k == (4 : Int)) then W2 (q, t, l, cs, vs, z, n, a, b) else bif (k == (5 : Int)) then jz (q, t, l, cs, vs, z, n, a) else bif (k == (6 : Int)) then JL (q, t, l, cs, vs, z, n, a) else
   Option.bind (bif (k == (7 : Int)) then Y5 (q, t, l, cs, vs, z) else bif (k == (8 : Int)) then Yi (q, t, l, cs, vs, z, a) else Yj (q, t, l, cs, vs, z, a)) fun r11 => bif (!r11.2.2.2.2.2.2) then some (r11.1, r11.2.1, r11.2.2.1, r11.2.2.2.1, r11.2.2.2.2.1, r11.2.2.2.2.2.1, (2 : Int)) else some (r11.1, r11.2.1, r11.2.2.1, r11.2.2.2.1, r11.2.2.2.2.1, r11.2.2.2.2.2.1, (0 : Int))) := by
  intro u
  refine Jz (P := y5T) _ (fun _ => y5T.same hp _) fun _ => Jz (P := y5T) _ (fun _ => (yfc z h n a hn).b hp) fun _ => Jz (P := y5T) _ (fun _ => (ylA z h n m _ hn hm).b hp) fun _ => Jz (P := y5T) _ (fun _ => (ylB z h n hn).b hp) fun _ => Jz (P := y5T) _ (fun _ => (yhm z h n a b hn).b hp) fun _ => Jz (P := y5T) _ (fun _ => (ydf z h n a hn).b hp) fun _ => Jz (P := y5T) _ (fun _ => (yfe z h n a hn).b hp) fun _ => ?_
  have hs : y5T (bif (k == (7 : Int)) then Y5 (q, t, l, cs, vs, z) else bif (k == (8 : Int)) then Yi (q, t, l, cs, vs, z, a) else Yj (q, t, l, cs, vs, z, a)) :=
   Jz (P := y5T) _ (fun _ => yb2 z h hp) fun _ => Jz (P := y5T) _ (fun _ => ydj z h hp a) fun _ => ydk z h hp a
  obtain ⟨q', t', l', cs', vs', z', c, e, hc⟩ := hs
  rw [e]
  cases c
  ·exact ⟨_, _, _, _, _, _, _, rfl, hc⟩
  ·exact ⟨_, _, _, _, _, _, _, rfl, hc⟩
 cases yxK k n m a b
 ·exact key true
 ·exact key _
end
def yce (o : Option (List yb × List y0 × List ya × List y7 × List ye × Int × List Int × Int × Int)) (c : List Int) : Prop := ∃ q t l cs vs z p s, o = some (q, t, l, cs, vs, z, c, p, s) ∧ Vz c p ∧ yr q t l cs vs z = true
theorem yhq : yr [0] [[]] [] (List.replicate (Int.toNat (24 : Int)) yo) [] 1 = true := by decide
theorem yb4 (c : List Int) (p s m : Int) (h : Vz c p) (m0 : 0 ≤ m) (m1 : m ≤ 1000) : yce (ws (c, p, s, m)) c := by
 obtain ⟨v1, p1, s1, e1, h1, q1⟩ := y0n c p s (m + 1) h
 have b1 := q1.2 (by omega)
 unfold ws qU kZ kY Wa
 rw [if_pos (by omega), if_pos (by omega), if_pos (by decide)]
 simp only [Option.bind_some]
 rw [show Go.IntKind.wrap .i64 (m + 1) = m + 1 from w64 (by omega) (by omega), e1]
 simp only [Option.bind_some]
 refine Js (step := jo _ _) (fun u : wJ => match u with | .inl u => u.1.toNat | .inr u => u.1.toNat) (fun u => match u with | .inl u => ∃ k y q t l cs vs z p s, u = (k, c, p, s, y, z, q, t, l, cs, vs) ∧ Vz c p ∧ 0 ≤ k ∧ k ≤ 1000 ∧ yr q t l cs vs z = true | .inr u => ∃ k y q t l cs vs z p s, u = (k, c, p, s, y, q, t, l, z, cs, vs) ∧ Vz c p ∧ 0 ≤ k ∧ k ≤ 1000 ∧ yr q t l cs vs z = true) (fun _ (res : Option (List yb × List y0 × List ya × List y7 × List ye × Int × List Int × Int × Int)) => yce res c) ?_ _ ⟨v1, 0, _, _, _, _, _, 1, p1, s1, rfl, h1, q1.1, by omega, yhq⟩ (by simp only; omega)
 intro again u hu hag
 have step : ∀ (k y : Int) q t l cs vs (z p s : Int), Vz c p → 0 ≤ k → k ≤ 1000 → yr q t l cs vs z = true → k > 0 → (∀ k' q' t' l' cs' vs' z' p' s', Vz c p' → 0 ≤ k' → k' < k → yr q' t' l' cs' vs' z' = true → yce (again (Sum.inr (k', c, p', s', y, q', t', l', z', cs', vs'))) c) → yce (Option.bind (YC (c, p, s)) fun r3 => Option.bind (J6 (q, t, l, cs, vs, z, r3.1, r3.2.1, r3.2.2.1, r3.2.2.2.1, r3.2.2.2.2.1)) fun r4 => again (Sum.inr ((Go.IntKind.wrap .i64 (k - (1 : Int))), r3.2.2.2.2.2.1, r3.2.2.2.2.2.2.1, r3.2.2.2.2.2.2.2, y, r4.1, r4.2.1, r4.2.2.1, r4.2.2.2.2.2.1, r4.2.2.2.1, r4.2.2.2.2.1))) c := by
  intro k y q t l cs vs z p s hc k0 k1 hT hk hag2
  obtain ⟨kd, n, m, a, b, p2, s2, e2, h2, hn, hm⟩ := ys9 c p s hc
  obtain ⟨q', t', l', cs', vs', z', cc, e3, h3⟩ := yb3 z (y00 hT).sp hT kd n m a b hn hm
  have hw : Go.IntKind.wrap .i64 (k - 1) = k - 1 := w64 (by omega) (by omega)
  simp only [e2, e3, Option.bind_some, hw]
  exact hag2 _ _ _ _ _ _ _ _ _ h2 (by omega) (by omega) h3
 cases u with
 | inl u =>
  obtain ⟨k, y, q, t, l, cs, vs, z, p, s, rfl, hc, k0, k1, hT⟩ := hu
  unfold jo
  simp only [Bool.cond_eq_ite, decide_eq_true_eq]
  by_cases hk : k > 0
  ·simp only [if_pos hk]
   exact step k y q t l cs vs z p s hc k0 k1 hT hk fun k' q' t' l' cs' vs' z' p' s' g1 g2 g3 g4 => hag _ ⟨_, _, _, _, _, _, _, _, _, _, rfl, g1, g2, by omega, g4⟩ (by simp only; omega)
  ·simp only [if_neg hk]
   exact ⟨_, _, _, _, _, _, _, _, rfl, hc, hT⟩
 | inr u =>
  obtain ⟨k, y, q, t, l, cs, vs, z, p, s, rfl, hc, k0, k1, hT⟩ := hu
  unfold jo
  simp only [Bool.cond_eq_ite, decide_eq_true_eq]
  by_cases hk : k > 0
  ·simp only [if_pos hk]
   exact step k y q t l cs vs z p s hc k0 k1 hT hk fun k' q' t' l' cs' vs' z' p' s' g1 g2 g3 g4 => hag _ ⟨_, _, _, _, _, _, _, _, _, _, rfl, g1, g2, by omega, g4⟩ (by simp only; omega)
  ·simp only [if_neg hk]
   exact ⟨_, _, _, _, _, _, _, _, rfl, hc, hT⟩
end Go.Proofs.YtjllpipmaejeoaaGreat.Pl
namespace Go.Proofs.YtjllpipmaejeoaaGreat.Pl
open Go.Proofs.YtjllpipmaejeoaaGreat.R Go.Proofs.YtjllpipmaejeoaaGreat.XU
structure PoolR (q : List yb) (t : List y0) (l : List ya) (cs : List y7) (vs : List ye) (z : Int) : Prop where
 tree : z7 q t = true
 ages : jF l = true
 cells : yZ cs = true
 fit : Zu (yn t) l cs = true
 late : ∀ a ∈ l, a.1 < z
 next : 1 ≤ z ∧ z ≤ 61
 srt : yAs vs
 name : ∀ i, i < vs.length → jv (vs.getD i Yu).1 = true
 size : ∀ i, i < vs.length → 1 ≤ (vs.getD i Yu).2.2.1 ∧ (vs.getD i Yu).2.2.1 ≤ 12
 age : ∀ i, i < vs.length → 0 ≤ zJ l (vs.getD i Yu).2.1
 leaf : ∀ i, i < vs.length → (Y8 l (vs.getD i Yu).2.1).length = 0
 apart : ∀ i j, i < j → j < vs.length → (vs.getD i Yu).2.1 ≠ (vs.getD j Yu).2.1
 few : vs.length ≤ 6
theorem ke {q : List yb} {t : List y0} {l : List ya} {cs : List y7} {vs : List ye} {z : Int} (h : yr q t l cs vs z = true) : PoolR q t l cs vs z := by
 unfold yr at h
 simp only [Bool.and_eq_true, Bool.not_eq_true', zl] at h
 obtain ⟨h1, h2, h3, h4, h5, h6, h7⟩ := h
 have hs := yho h6
 unfold w6 at h6
 simp only [Bool.and_eq_true, Bool.not_eq_true', decide_eq_true_eq] at h6
 have hv : ∀ i, i < vs.length → ydx vs l i (vs.getD i Yu) = false := fun i hi => by
  have := JT Yu vs 0 h6.1 i hi
  rwa [show (0 : Int) + (i : Int) = i by omega] at this
 unfold ydx at hv
 simp only [Bool.or_eq_false_iff, Bool.not_eq_false', decide_eq_false_iff_not, zl] at hv
 refine ⟨h1, h2, h3, h7, fun a ha => ?_, h4, hs, fun i hi => (hv i hi).1, fun i hi => (hv i hi).2.1, fun i hi => ?_, fun i hi => ?_, fun i j hij hj he => ?_, by omega⟩
 ·obtain ⟨j, hj⟩ := w7 _ _ 0 h5 a ha
  unfold Vv at hj
  have := of_decide_eq_false hj
  omega
 ·have := (hv i hi).2.2.1
  omega
 ·have := (hv i hi).2.2.2.1
  omega
 ·have h8 := (hv j hj).2.2.2.2.2
  rw [show ((j : Int)).toNat = j by omega] at h8
  have h9 := JT Yu _ 0 h8 i (by rw [List.length_take]; omega)
  have e9 : (vs.take j).getD i Yu = vs.getD i Yu := by
   rw [List.getD_eq_getElem?_getD, List.getElem?_take, if_pos hij, ← List.getD_eq_getElem?_getD]
  rw [e9] at h9
  unfold wS at h9
  rw [he] at h9
  simp at h9
theorem PoolR.unlike {q : List yb} {t : List y0} {l : List ya} {cs : List y7} {vs : List ye} {z : Int} (h : PoolR q t l cs vs z) {i j : Nat} (hi : i < vs.length) (hj : j < vs.length) (hij : i ≠ j) : (vs.getD i Yu).2.1 ≠ (vs.getD j Yu).2.1 := by
 rcases Nat.lt_or_gt_of_ne hij with h1 | h1
 ·exact h.apart i j h1 hj
 ·exact fun he => h.apart j i h1 hi he.symm
theorem PoolR.off {q : List yb} {t : List y0} {l : List ya} {cs : List y7} {vs : List ye} {z : Int} (h : PoolR q t l cs vs z) {i j : Nat} (hi : i < vs.length) (hj : j < vs.length) (hij : i ≠ j) : (vs.getD i Yu).2.1 ∉ wC l (vs.getD j Yu).2.1 := fun hx => by
 rcases ydg (ys2 h.ages) (h.age j hj) hx with h1 | ⟨h1, h2, a, ha, he⟩
 ·exact h.unlike hi hj hij h1
 ·have := yff h2 ha he
  have := h.leaf i hi
  omega
section
variable {ks : List y8} {l : List ya} {cs : List y7} (h : Zu ks l cs = true)
include h
theorem yhr {c : y8} (hc : c ∈ ks) (hd : c.2.2.1 = 1) : 0 ≤ c.2.2.2.1 ∧ c.2.2.2.1 < (cs.length : Int) ∧ (cs.getD c.2.2.2.1.toNat yo).2.1 = true := by
 obtain ⟨j, hj, rfl⟩ := List.mem_iff_getElem.1 hc
 have := (y11 h j hj (by rw [zd _ _ _ hj]; unfold y1N; rw [hd]; rfl)).1
 rwa [zd _ _ _ hj] at this
theorem y9k {c d : y8} (hc : c ∈ ks) (hd : d ∈ ks) (h1 : c.2.2.1 = 1) (h2 : d.2.2.1 = 1) (he : c.2.2.2.1 = d.2.2.2.1) : c = d := by
 obtain ⟨i, hi, rfl⟩ := List.mem_iff_getElem.1 hc
 obtain ⟨j, hj, rfl⟩ := List.mem_iff_getElem.1 hd
 have di : y1N (ks.getD i yI) = true := by rw [zd _ _ _ hi]; unfold y1N; rw [h1]; rfl
 have dj : y1N (ks.getD j yI) = true := by rw [zd _ _ _ hj]; unfold y1N; rw [h2]; rfl
 rcases Nat.lt_trichotomy i j with h5 | h5 | h5
 ·have := (y11 h j hj dj).2 i h5 di
  rw [zd _ _ _ hi, zd _ _ _ hj] at this
  exact absurd he this
 ·subst h5
  rfl
 ·have := (y11 h i hi di).2 j h5 dj
  rw [zd _ _ _ hi, zd _ _ _ hj] at this
  exact absurd he.symm this
theorem yfk {c : y8} (hc : c ∈ ks) : 0 ≤ zJ l c.2.1 := by
 obtain ⟨j, hj⟩ := w7 _ _ 0 (y7S h).1 c hc
 unfold yaP at hj
 simp only [Bool.or_eq_false_iff, decide_eq_false_iff_not] at hj
 omega
theorem yfl {c : y8} (hc : c ∈ ks) (hd : c.2.2.1 = 1) : (Yo cs c.2.2.2.1 c.2.2.2.2).2 = true := by
 obtain ⟨j, hj⟩ := w7 _ _ 0 (y7S h).1 c hc
 unfold yaP at hj
 rw [show (c.2.2.1 == 1) = true by rw [hd]; rfl, Bool.true_and] at hj
 simp only [Bool.or_eq_false_iff, Bool.not_eq_false'] at hj
 exact hj.2.1
end
theorem yb5 {cs cs' : List y7} {n g : Int} (hl : cs'.length = cs.length) (he : cs'.getD n.toNat yo = cs.getD n.toNat yo) : Yo cs' n g = Yo cs n g := by
 unfold Yo
 rw [hl, he]
theorem yfm {cs : List y7} {i : Int} {n : Nat} (hn : i.toNat ≠ n) : (jG cs i).getD n yo = cs.getD n yo := by
 unfold jG
 split
 ·exact y4B _ _ _ _ _ hn
 ·rfl
section
variable {q : List yb} {t : List y0} {l : List ya} {cs cs2 : List y7} {k : y8} (ht : z7 q t = true) (hok : (yB q t k).2.2 = true)
include ht hok
theorem ydl {x : y8} : x ∈ yn (yB q t k).2.1 ↔ (x = k ∨ (x ∈ yn t ∧ ZU x k = false)) ∧ x.2.2.1 ≠ 0 := by
 rw [(QZ hok).2.2.2, qE, Vy]
end
section
variable {q : List yb} {t : List y0} {l : List ya} {cs : List y7} {vs : List ye} {z : Int} (h : PoolR q t l cs vs z) {b w : Int} {i : Nat} (hi : i < vs.length) (hw : isW w = true) (hf : ¬ za cs < 0)
def yCQ (cs : List y7) (vs : List ye) (b : Int) (i : Nat) : y8 := (b, (vs.getD i Yu).2.1, 1, za cs, (cs.getD (za cs).toNat yo).1)
variable (hok : (yB q t (yCQ cs vs b i)).2.2 = true)
include h hi hf hok
end
end Go.Proofs.YtjllpipmaejeoaaGreat.Pl
namespace Go.Proofs.YtjllpipmaejeoaaGreat.Pl
open Go.Proofs.YtjllpipmaejeoaaGreat.R Go.Proofs.YtjllpipmaejeoaaGreat.XU
section
variable {q : List yb} {t : List y0} {l : List ya} {cs : List y7} {vs : List ye} (z : Int) (h : SP q t l cs vs) (hp : yr q t l cs vs z = true)
theorem ysa (i : Nat) : yj vs (i : Int) = vs.getD i Yu := by
 show vs.getD ((i : Int)).toNat Yu = _
 rw [Int.toNat_natCast]
include hp in
include h
include hp
end
end Go.Proofs.YtjllpipmaejeoaaGreat.Pl
namespace Go.Proofs.YtjllpipmaejeoaaGreat.Pl
open Go.Proofs.YtjllpipmaejeoaaGreat.R Go.Proofs.YtjllpipmaejeoaaGreat.XU
def jR {A : Type} (eq : A → A → Bool) (da : A) (a b : List A) : Bool := decide (a.length = b.length) && !Ym (fun i x => !eq x (b.getD i.toNat da)) a 0
theorem qI {A : Type} (eq : A → A → Bool) (da : A) {a b : List A} (h : a.length ≠ b.length) : jR eq da a b = false := by
 unfold jR
 rw [decide_eq_false h]
 rfl
theorem y4D {A B : Type} {a : List A} {b : List B} (h : a.length = b.length) : (((List.length a : Nat) : Int) != ((List.length b : Nat) : Int)) = false := by
 rw [h]
 simp
theorem y4E {A B : Type} {a : List A} {b : List B} (h : a.length ≠ b.length) : (((List.length a : Nat) : Int) != ((List.length b : Nat) : Int)) = true := by
 simp only [bne_iff_ne]
 omega
theorem vY {T A : Type} {step : (T → Option Bool) → T → Option Bool} (mk : Int → T) (eq : A → A → Bool) (da : A) (a b : List A) (hl : a.length ≤ 1048576) (he : a.length = b.length)
  (h : ∀ again i, 0 ≤ i → i < ((List.length a : Nat) : Int) → i < ((List.length b : Nat) : Int) → a.getD i.toNat da ∈ a → b.getD i.toNat da ∈ b → step again (mk i) = bif (!eq (a.getD i.toNat da) (b.getD i.toNat da)) then some false else again (mk (i + 1)))
  (hd : ∀ again i, ¬ i < ((List.length a : Nat) : Int) → step again (mk i) = some true) : zL step Y4 (mk 0) = some (jR eq da a b) := by
 refine (zP (step := step) mk (fun i x => !eq x (b.getD i.toNat da)) (some false) (some true) da a (by omega) (fun again i h0 h1 => ?_) hd).trans ?_
 ·rw [h again i h0 h1 (by omega) (ze da a i h0 h1) (ze da b i h0 (by omega)), Bool.cond_eq_ite]
 ·unfold jR
  rw [decide_eq_true he]
  cases Ym (fun i x => !eq x (b.getD i.toNat da)) a 0 <;> rfl
theorem kV {A : Type} {eq : A → A → Bool} (da : A) (a : List A) (h : ∀ x, eq x x = true) : jR eq da a a = true := by
 unfold jR
 rw [decide_eq_true rfl, Kn da a 0 fun j hj => by
  rw [show (0 + (j : Int)).toNat = j by omega, h]
  rfl]
 rfl
def eqI (x y : Int) : Bool := x == y
def eqK (x y : y8) : Bool := (x.1 == y.1) && ((x.2.1 == y.2.1) && ((x.2.2.1 == y.2.2.1) && ((x.2.2.2.1 == y.2.2.2.1) && ((x.2.2.2.2 == y.2.2.2.2) && true))))
def eqA (x y : ya) : Bool := (x.1 == y.1) && ((x.2 == y.2) && true)
def eqC (x y : y7) : Bool := (x.1 == y.1) && ((x.2.1 == y.2.1) && ((x.2.2 == y.2.2) && true))
def eqV (x y : ye) : Bool := (ByteArray.toList x.1 == ByteArray.toList y.1) && ((x.2.1 == y.2.1) && ((x.2.2.1 == y.2.2.1) && ((x.2.2.2 == y.2.2.2) && true)))
def eqS (x y : y9) : Bool := jR eqK yI x y
def eqN (x y : y0) : Bool := jR eqS z6 x y
theorem yhs (x : Int) : eqI x x = true := by simp [eqI]
theorem yht (x : y8) : eqK x x = true := by simp [eqK]
theorem yhu (x : ya) : eqA x x = true := by simp [eqA]
theorem yhv (x : y7) : eqC x x = true := by simp [eqC]
theorem yhw (x : ye) : eqV x x = true := by simp [eqV]
theorem yhx (x : y9) : eqS x x = true := kV _ _ yht
theorem yhy (x : y0) : eqN x x = true := kV _ _ yhx
def y1P (q : List yb) (t : List y0) (l : List ya) (cs : List y7) (vs : List ye) (z : Int) (q' : List yb) (t' : List y0) (l' : List ya) (cs' : List y7) (vs' : List ye) (z' : Int) : Bool :=
 jR eqI y27 q q' && (jR eqN yh t t' && (jR eqA zA l l' && (jR eqC yo cs cs' && (jR eqV Yu vs vs' && (z == z')))))
theorem y5b (q : List yb) (t : List y0) (l : List ya) (cs : List y7) (vs : List ye) (z : Int) : y1P q t l cs vs z q t l cs vs z = true := by
 unfold y1P
 rw [kV _ _ yhs, kV _ _ yhy, kV _ _ yhu, kV _ _ yhv, kV _ _ yhw]
 simp
theorem y31 (a b : List yb) (hl : a.length ≤ 1048576) : J8 (a, b) = some (jR eqI y27 a b) := by
 unfold J8 VN
 by_cases he : a.length = b.length
 ·simp only [y4D he, cond_false]
  refine vY (step := ZE _ _) (fun i => (a, b, i)) eqI y27 a b hl he (fun again i h0 h1 h2 _ _ => ?_) fun again i hi => ?_
  ·have hw : Go.IntKind.wrap .i64 (i + 1) = i + 1 := w64 (by omega) (by omega)
   unfold ZE
   simp only [decide_eq_true h1, cond_true, if_pos h0, if_pos h1, if_pos h2, hw]
   rfl
  ·unfold ZE
   simp only [decide_eq_false hi, cond_false]
 ·simp only [y4E he, cond_true, qI _ _ he]
theorem y32 (a b : List y8) (hl : a.length ≤ 1048576) : J9 (a, b) = some (jR eqK yI a b) := by
 unfold J9 VO
 by_cases he : a.length = b.length
 ·simp only [y4D he, cond_false]
  refine vY (step := ZF _ _) (fun i => (a, b, i)) eqK yI a b hl he (fun again i h0 h1 h2 _ _ => ?_) fun again i hi => ?_
  ·have hw : Go.IntKind.wrap .i64 (i + 1) = i + 1 := w64 (by omega) (by omega)
   unfold ZF
   simp only [decide_eq_true h1, cond_true, if_pos h0, if_pos h1, if_pos h2, hw]
   rfl
  ·unfold ZF
   simp only [decide_eq_false hi, cond_false]
 ·simp only [y4E he, cond_true, qI _ _ he]
theorem y33 (a b : List ya) (hl : a.length ≤ 1048576) : Jc (a, b) = some (jR eqA zA a b) := by
 unfold Jc VR
 by_cases he : a.length = b.length
 ·simp only [y4D he, cond_false]
  refine vY (step := ZI _ _) (fun i => (a, b, i)) eqA zA a b hl he (fun again i h0 h1 h2 _ _ => ?_) fun again i hi => ?_
  ·have hw : Go.IntKind.wrap .i64 (i + 1) = i + 1 := w64 (by omega) (by omega)
   unfold ZI
   simp only [decide_eq_true h1, cond_true, if_pos h0, if_pos h1, if_pos h2, hw]
   rfl
  ·unfold ZI
   simp only [decide_eq_false hi, cond_false]
 ·simp only [y4E he, cond_true, qI _ _ he]
theorem y2n (a b : List y7) (hl : a.length ≤ 1048576) : jp (a, b) = some (jR eqC yo a b) := by
 unfold jp Vd
 by_cases he : a.length = b.length
 ·simp only [y4D he, cond_false]
  refine vY (step := Z6 _ _) (fun i => (a, b, i)) eqC yo a b hl he (fun again i h0 h1 h2 _ _ => ?_) fun again i hi => ?_
  ·have hw : Go.IntKind.wrap .i64 (i + 1) = i + 1 := w64 (by omega) (by omega)
   unfold Z6
   simp only [decide_eq_true h1, cond_true, if_pos h0, if_pos h1, if_pos h2, hw]
   rfl
  ·unfold Z6
   simp only [decide_eq_false hi, cond_false]
 ·simp only [y4E he, cond_true, qI _ _ he]
theorem y34 (a b : List y9) (hl : a.length ≤ 1048576) (hs : ∀ s ∈ a, List.length s ≤ 1048576) : Ja (a, b) = some (jR eqS z6 a b) := by
 unfold Ja VP
 by_cases he : a.length = b.length
 ·simp only [y4D he, cond_false]
  refine vY (step := ZG _ _) (fun i => (i, a, b)) eqS z6 a b hl he (fun again i h0 h1 h2 hm _ => ?_) fun again i hi => ?_
  ·have hw : Go.IntKind.wrap .i64 (i + 1) = i + 1 := w64 (by omega) (by omega)
   unfold ZG
   simp only [decide_eq_true h1, cond_true, if_pos h0, if_pos h1, if_pos h2, hw]
   rw [y32 (yq a i) (yq b i) (hs _ hm)]
   rfl
  ·unfold ZG
   simp only [decide_eq_false hi, cond_false]
 ·simp only [y4E he, cond_true, qI _ _ he]
theorem y35 (q q' : List yb) (t t' : List y0) (hq : q.length ≤ 1048576) (ht : t.length ≤ 1048576) (hn : ∀ n ∈ t, List.length n ≤ 1048576 ∧ ∀ s ∈ (show List y9 from n), List.length s ≤ 1048576) : Jb (q, t, q', t') = some (jR eqI y27 q q' && jR eqN yh t t') := by
 unfold Jb VQ
 simp only [y31 q q' hq, Option.bind_some]
 cases jR eqI y27 q q' with
 | false => rfl
 | true =>
  simp only [Bool.not_true, cond_false, Option.bind_some, Bool.true_and]
  by_cases he : t.length = t'.length
  ·simp only [y4D he, cond_false]
   refine vY (step := ZH _ _) (fun i => (i, q, t, q', t')) eqN yh t t' ht he (fun again i h0 h1 h2 hm _ => ?_) fun again i hi => ?_
   ·have hw : Go.IntKind.wrap .i64 (i + 1) = i + 1 := w64 (by omega) (by omega)
    unfold ZH
    simp only [decide_eq_true h1, cond_true, if_pos h0, if_pos h1, if_pos h2, hw]
    rw [y34 (yf t i) (yf t' i) (hn _ hm).1 (hn _ hm).2]
    rfl
   ·unfold ZH
    simp only [decide_eq_false hi, cond_false]
  ·simp only [y4E he, cond_true, qI _ _ he]
section
variable {q : List yb} {t : List y0} {l : List ya} {cs : List y7} {vs : List ye} (z : Int) (hs : small q t l cs vs) (q' : List yb) (t' : List y0) (l' : List ya) (cs' : List y7) (vs' : List ye) (z' : Int)
include hs
theorem y36 : zZ (q, t, l, cs, vs, z, q', t', l', cs', vs', z') = some (y1P q t l cs vs z q' t' l' cs' vs' z') := by
 have hv : vs.length ≤ 1048576 := hs.2.2.2.2.2
 have loop : vs.length = vs'.length → kG (fun x8 => some x8) (fun x9 => some true) ((0 : Int), q, t, l, cs, vs, z, q', t', l', cs', vs', z') = some (jR eqV Yu vs vs') := by
  intro he
  unfold kG
  refine vY (step := ZJ _ _) (fun i => (i, q, t, l, cs, vs, z, q', t', l', cs', vs', z')) eqV Yu vs vs' hv he (fun again i h0 h1 h2 _ _ => ?_) fun again i hi => ?_
  ·have hw : Go.IntKind.wrap .i64 (i + 1) = i + 1 := w64 (by omega) (by omega)
   unfold ZJ
   simp only [decide_eq_true h1, cond_true, if_pos h0, if_pos h1, if_pos h2, hw]
   rfl
  ·unfold ZJ
   simp only [decide_eq_false hi, cond_false]
 unfold zZ y1P
 simp only [y35 q q' t t' hs.1 hs.2.1 (fun n hn => KU hs.2.2.1 hn), y33 l l' hs.2.2.2.1, y2n cs cs' hs.2.2.2.2.1, Option.bind_some]
 cases jR eqI y27 q q' <;> cases jR eqN yh t t' <;> try rfl
 cases jR eqA zA l l' <;> cases jR eqC yo cs cs' <;> try rfl
 by_cases he : vs.length = vs'.length
 ·simp only [y4D he, loop he]
  cases hz : z == z'
  ·simp [bne, hz]
  ·simp [bne, hz]
 ·simp only [y4E he, qI _ _ he]
  rfl
end
end Go.Proofs.YtjllpipmaejeoaaGreat.Pl
namespace Go.Proofs.YtjllpipmaejeoaaGreat.Pl
open Go.Proofs.YtjllpipmaejeoaaGreat.R Go.Proofs.YtjllpipmaejeoaaGreat.XU
theorem yiP (x : List Int) (i : Int) (hb : isBytes x) (hx : x.length ≤ 1048576) (h0 : 0 ≤ i) (h1 : i ≤ 1000) : ∃ v, vx (x, i) = some v ∧ 0 ≤ v ∧ v < 256 := by
 unfold vx
 simp only [Bool.cond_eq_ite, decide_eq_true_eq]
 by_cases h : i < (x.length : Int)
 ·rw [if_pos h, if_pos h0, if_pos h, yxI, ys0 hb]
  exact ⟨_, rfl, ybK hb i⟩
 ·rw [if_neg h, w64 (n := i * 31) (by omega) (by omega), w64 (n := (x.length : Int) * 7) (by omega) (by omega), w64 (n := i * 31 + (x.length : Int) * 7) (by omega) (by omega), Int.tmod_eq_emod_of_nonneg (by omega)]
  exact ⟨_, rfl, by omega, by omega⟩
theorem y5c (x : List Int) (hx : x.length ≤ 1048576) : ∃ q t l cs vs z o, J7 x = some (q, t, l, cs, vs, z, o) ∧ yr q t l cs vs z = true := by
 obtain ⟨s0, e0⟩ := yrZ x (by omega)
 obtain ⟨m, e1, m0, m1⟩ := ylG x 30 (by omega) (by omega)
 obtain ⟨q, t, l, cs, vs, z, p3, s3, e3, h3, hp⟩ := yb4 x 0 s0 (8 + m) (yCP x (by omega)) (by omega) (by omega)
 obtain ⟨k, n, y, a, b, p4, s4, e4, h4, _⟩ := ys9 x p3 s3 h3
 unfold J7
 rw [e0]
 simp only [e1, Option.bind_some]
 rw [w64 (n := 8 + m) (by omega) (by omega), e3]
 simp only [e4, Option.bind_some]
 exact ⟨_, _, _, _, _, _, _, rfl, hp⟩
section
variable {x : List Int} {i b r7 z z' : Int} {q q' : List yb} {t t' : List y0} {l l' : List ya} {cs cs' : List y7} {vs vs' : List ye} {v1 : ByteArray} {v2 v3 : Int} {v4 : Bool}
end
end Go.Proofs.YtjllpipmaejeoaaGreat.Pl
namespace Go.Proofs.YtjllpipmaejeoaaGreat.Pl
open Go.Proofs.YtjllpipmaejeoaaGreat.R Go.Proofs.YtjllpipmaejeoaaGreat.XU
def upT (u : Option Int) : List Int → Option Int
 | [] => u
 | a :: _ => some a
structure NB (a : Int) (v : Option Int) (n : y0) : Prop where
 ok : Yn n = true
 ent : ∀ s ∈ (show List y9 from n), ∀ x ∈ (show List y8 from s), a ≤ jN x ∧ ∀ b, v = some b → jN x < b
 low : ∀ b, v = some b → a < b
def Wu (u : Option Int) : List Int → List y0 → Prop
 | [], [] => True
 | a :: q, n :: t => NB a (upT u q) n ∧ Wu u q t
 | _, _ => False
theorem Wu.len {u : Option Int} : ∀ {q : List Int} {t : List y0}, Wu u q t → q.length = t.length
 | [], [], _ => rfl
 | a :: q, n :: t, h => by
  have := Wu.len h.2
  simp only [List.length_cons]
  omega
 | [], _ :: _, h => h.elim
 | _ :: _, [], h => h.elim
theorem ysb (u : Option Int) (q1 q2 : List Int) : upT u (q1 ++ q2) = upT (upT u q2) q1 := by
 cases q1 <;> rfl
theorem y4F {u : Option Int} : ∀ {q1 : List Int} {t1 : List y0} (q2 : List Int) (t2 : List y0), q1.length = t1.length → (Wu u (q1 ++ q2) (t1 ++ t2) ↔ Wu (upT u q2) q1 t1 ∧ Wu u q2 t2)
 | [], [], q2, t2, _ => by simp [Wu]
 | a :: q1, n :: t1, q2, t2, h => by
  have ih := y4F (u := u) (q1 := q1) (t1 := t1) q2 t2 (by simpa using h)
  simp only [List.cons_append, Wu, ysb]
  rw [ih, and_assoc]
 | [], _ :: _, _, _, h => by simp at h
 | _ :: _, [], _, _, h => by simp at h
theorem NB.up {a : Int} {v v' : Option Int} {n : y0} (h : NB a v n) (hv : ∀ b', v' = some b' → ∃ b, v = some b ∧ b ≤ b') : NB a v' n :=
 ⟨h.ok, fun s hs x hx => ⟨(h.ent s hs x hx).1, fun b' e => by
  obtain ⟨b, e1, e2⟩ := hv b' e
  have := (h.ent s hs x hx).2 b e1
  omega⟩, fun b' e => by
  obtain ⟨b, e1, e2⟩ := hv b' e
  have := h.low b e1
  omega⟩
theorem Wu.up {u u' : Option Int} (hv : ∀ b', u' = some b' → ∃ b, u = some b ∧ b ≤ b') : ∀ {q : List Int} {t : List y0}, Wu u q t → Wu u' q t
 | [], [], _ => trivial
 | a :: q, n :: t, h => by
  refine ⟨h.1.up ?_, Wu.up hv h.2⟩
  cases q with
  | nil => exact hv
  | cons b q => exact fun b' e => ⟨b', e, Int.le_refl _⟩
 | [], _ :: _, h => h.elim
 | _ :: _, [], h => h.elim
theorem ylH {u : Option Int} : ∀ {q : List Int} {t : List y0}, Wu u q t → ∀ j, j < t.length → NB (q.getD j 0) (if j + 1 < t.length then some (q.getD (j + 1) 0) else u) (t.getD j yh)
 | [], [], _, j, hj => by simp at hj
 | a :: q, n :: t, h, 0, _ => by
  have h1 := h.1
  have hl := Wu.len h.2
  cases q with
  | nil =>
   cases t with
   | nil => simpa [upT] using h1
   | cons m t => simp at hl
  | cons b q =>
   cases t with
   | nil => simp at hl
   | cons m t => simpa [upT] using h1
 | a :: q, n :: t, h, j + 1, hj => by
  have := ylH h.2 j (by simpa using hj)
  simpa using this
 | [], _ :: _, h, _, _ => h.elim
 | _ :: _, [], h, _, _ => h.elim
theorem ysc {u : Option Int} : ∀ {q : List Int} {t : List y0}, q.length = t.length → (∀ j, j < t.length → NB (q.getD j 0) (if j + 1 < t.length then some (q.getD (j + 1) 0) else u) (t.getD j yh)) → Wu u q t
 | [], [], _, _ => trivial
 | a :: q, n :: t, hl, h => by
  refine ⟨?_, ysc (by simpa using hl) fun j hj => ?_⟩
  ·have h0 := h 0 (by simp)
   cases q with
   | nil =>
    cases t with
    | nil => simpa [upT] using h0
    | cons m t => simp at hl
   | cons b q =>
    cases t with
    | nil => simp at hl
    | cons m t => simpa [upT] using h0
  ·have := h (j + 1) (by simpa using hj)
   simpa using this
 | [], _ :: _, hl, _ => by simp at hl
 | _ :: _, [], hl, _ => by simp at hl
theorem y1Q {A : Type} {p : Int → A → Bool} (hp : ∀ i j a, p i a = p j a) {l : List A} (h : ∀ a ∈ l, p 0 a = false) : ∀ i, Ym p l i = false := by
 induction l with
 | nil => intro i; rfl
 | cons a l ih =>
  intro i
  rw [Ym, hp i 0 a, h a (by simp), ih (fun b hb => h b (by simp [hb])) (i + 1)]
  rfl
structure Wt (q : List Int) (t : List y0) : Prop where
 w : Wu none q t
 zero : q.getD 0 0 = 0
 pos : 0 < t.length
 full : ∀ n ∈ t.drop 1, 0 < (yA n).length
theorem ylI {q : List Int} {t : List y0} (h : z7 q t = true) : Wt q t := by
 have hP := JX h
 obtain ⟨f1, f2, f3, f4⟩ := jw h
 have h0 := h
 unfold z7 at h
 simp only [Bool.and_eq_true, Bool.not_eq_true', decide_eq_true_eq, zl, beq_iff_eq] at h
 have hb : ∀ i, i < t.length → y1A q i (t.getD i yh) = true := fun i hi => by
  have := JT yh t 0 h.2.2.2.1 i hi
  unfold KC at this
  simp only [Bool.or_eq_false_iff, Bool.not_eq_false'] at this
  rw [show (0 : Int) + (i : Int) = i by omega] at this
  exact this.2
 have hmem : ∀ i, i < t.length → t.getD i yh ∈ t := fun i hi => by
  rw [zd _ _ _ hi]
  exact List.getElem_mem _
 refine ⟨ysc f1 fun j hj => ⟨f4 _ (hmem j hj), fun s hs x hx => ?_, fun b e => ?_⟩, hP.zero, hP.pos, fun n hn => ?_⟩
 ·have h1 := hb j hj
  unfold y1A at h1
  simp only [Bool.and_eq_true, Bool.not_eq_true'] at h1
  obtain ⟨_, h2⟩ := w7 _ _ 0 h1.2.2 s hs
  unfold y9A at h2
  obtain ⟨_, h3⟩ := w7 _ _ 0 h2 x hx
  unfold yfC at h3
  simp only [Bool.or_eq_false_iff, decide_eq_false_iff_not, Bool.and_eq_false_iff] at h3
  rw [show ((j : Nat) : Int).toNat = j by omega, show (((j : Nat) : Int) + 1).toNat = j + 1 by omega] at h3
  refine ⟨by omega, fun b e => ?_⟩
  split at e
  ·injection e with e
   rw [← e]
   rcases h3.2 with h5 | h5 <;> omega
  ·cases e
 ·split at e
  ·injection e with e
   rw [← e]
   exact hP.low j (by assumption)
  ·cases e
 ·obtain ⟨i, hi, rfl⟩ := List.mem_iff_getElem.1 hn
  rw [List.length_drop] at hi
  rw [List.getElem_drop, ← zd yh t (1 + i) (by omega)]
  have h1 := hb (1 + i) (by omega)
  unfold y1A y5M at h1
  simp only [Bool.and_eq_true, Bool.not_eq_true', Bool.and_eq_false_iff, decide_eq_false_iff_not, beq_eq_false_iff_ne] at h1
  rcases h1.2.1 with h2 | h2
  ·omega
  ·omega
theorem ylJ {q : List Int} {t : List y0} (h : Wt q t) (hl : t.length ≤ 20) (hk : (yn t).length ≤ 60) : z7 q t = true := by
 have hlen := h.w.len
 have hpos := h.pos
 unfold z7
 simp only [Bool.and_eq_true, Bool.not_eq_true', decide_eq_true_eq, zl, beq_iff_eq]
 refine ⟨by omega, hlen, h.zero, Kn yh _ 0 fun j hj => ?_, by omega⟩
 have hn := ylH h.w j hj
 rw [show (0 : Int) + (j : Int) = j by omega]
 unfold KC yd5 y1A y5M
 simp only [Bool.or_eq_false_iff, Bool.not_eq_false', Bool.and_eq_true, Bool.not_eq_true', Bool.and_eq_false_iff, decide_eq_false_iff_not, beq_eq_false_iff_ne]
 refine ⟨?_, hn.ok, ?_, ?_⟩
 ·by_cases hj0 : j = 0
  ·exact .inl (by omega)
  ·have hp := ylH h.w (j - 1) (by omega)
   rw [if_pos (by omega)] at hp
   have := hp.low _ rfl
   rw [show j - 1 + 1 = j by omega] at this
   rw [show ((j : Int) - 1).toNat = j - 1 by omega, show ((j : Int)).toNat = j by omega]
   exact .inr (by omega)
 ·by_cases hj0 : j = 0
  ·exact .inl (by omega)
  ·refine .inr ?_
   have hm : t.getD j yh ∈ t.drop 1 := by
    rw [zd _ _ _ hj]
    refine List.mem_iff_getElem.2 ⟨j - 1, by rw [List.length_drop]; omega, ?_⟩
    rw [List.getElem_drop]
    congr 1
    omega
   have := h.full _ hm
   omega
 ·refine y1Q (fun _ _ _ => rfl) (fun s hs => y1Q (fun _ _ _ => rfl) (fun x hx => ?_) 0) 0
  have hx := hn.ent s hs x hx
  unfold yfC
  simp only [Bool.or_eq_false_iff, decide_eq_false_iff_not, Bool.and_eq_false_iff]
  rw [show ((j : Nat) : Int).toNat = j by omega, show (((j : Nat) : Int) + 1).toNat = j + 1 by omega]
  refine ⟨by omega, ?_⟩
  by_cases hj1 : j + 1 < t.length
  ·rw [if_pos hj1] at hx
   exact .inr (by have := hx.2 _ rfl; omega)
  ·exact .inl (by omega)
theorem yb6 {l : List y8} {s : y9} (h : s ∈ (show List y9 from yK l)) : s = l := by
 unfold yK at h
 split at h
 ·cases h
 ·exact List.mem_singleton.1 h
theorem y5U {a : Int} {v : Option Int} {n : y0} (h : NB a v n) {x : y8} (hx : x ∈ yA n) : zR x = true ∧ a ≤ jN x ∧ ∀ b, v = some b → jN x < b := by
 obtain ⟨c, hc, hxc⟩ := QS hx
 exact ⟨(JW h.ok).2.2 c hc x hxc, h.ent c hc x hxc⟩
theorem ycf {a : Int} {v : Option Int} {l : List y8} (hs : srt l) (hl : l.length ≤ 8) (hk : ∀ x ∈ l, zR x = true ∧ a ≤ jN x ∧ ∀ b, v = some b → jN x < b) (hlow : ∀ b, v = some b → a < b) : NB a v (yK l) :=
 ⟨y2d hs (fun x hx => (hk x hx).1) hl, fun s hs x hx => by
  rw [yb6 hs] at hx
  exact (hk x hx).2, hlow⟩
theorem ydm (t : List y0) (i : Nat) (h : i + 2 ≤ t.length) : t = t.take i ++ (t.getD i yh :: t.getD (i + 1) yh :: t.drop (i + 2)) := by
 conv => lhs; rw [← List.take_append_drop i t]
 rw [List.drop_eq_getElem_cons (by omega), List.drop_eq_getElem_cons (by omega), zd _ _ _ (by omega), zd _ _ _ (by omega)]
theorem y4G (t : List Int) (i : Nat) (h : i + 2 ≤ t.length) : t = t.take i ++ (t.getD i 0 :: t.getD (i + 1) 0 :: t.drop (i + 2)) := by
 conv => lhs; rw [← List.take_append_drop i t]
 rw [List.drop_eq_getElem_cons (by omega), List.drop_eq_getElem_cons (by omega), zd _ _ _ (by omega), zd _ _ _ (by omega)]
theorem y0p {A : Type} (d : A) (t : List A) (i : Nat) (h : i + 1 ≤ t.length) : t = t.take i ++ (t.getD i d :: t.drop (i + 1)) := by
 conv => lhs; rw [← List.take_append_drop i t]
 rw [List.drop_eq_getElem_cons (by omega), zd _ _ _ (by omega)]
theorem qJ {t : List y0} {i c : Nat} {m : List y0} (h : ∀ n ∈ t.drop 1, 0 < (yA n).length) (hic : i ≤ t.length) (hm : ∀ n ∈ (if i = 0 then m.drop 1 else m), 0 < (yA n).length) (hd : i = 0 → 0 < m.length) (hc : 0 < c) : ∀ n ∈ (yV t i c m).drop 1, 0 < (yA n).length := by
 intro n hn
 unfold yV at hn
 by_cases hi : i = 0
 ·subst hi
  rw [if_pos rfl] at hm
  have hd := hd rfl
  rw [List.take_zero, List.nil_append, List.drop_append] at hn
  rcases List.mem_append.1 hn with h1 | h1
  ·exact hm n h1
  ·rw [show 1 - m.length = 0 by omega, List.drop_zero, Nat.zero_add] at h1
   exact h n (by
    rw [show c = 1 + (c - 1) by omega, ← List.drop_drop] at h1
    exact List.mem_of_mem_drop h1)
 ·rw [if_neg hi] at hm
  rw [List.append_assoc, List.drop_append] at hn
  rcases List.mem_append.1 hn with h1 | h1
  ·rw [List.drop_take] at h1
   exact h n (List.mem_of_mem_take h1)
  ·rw [List.length_take, show 1 - min i t.length = 0 by omega, List.drop_zero] at h1
   rcases List.mem_append.1 h1 with h2 | h2
   ·exact hm n h2
   ·refine h n ?_
    rw [show i + c = 1 + (i + c - 1) by omega, ← List.drop_drop] at h2
    exact List.mem_of_mem_drop h2
theorem y06 {q1 q2 : List Int} : (q1 ++ q2).getD 0 0 = if q1.length = 0 then q2.getD 0 0 else q1.getD 0 0 := by
 cases q1 <;> simp
theorem ylK {q : List Int} {t : List y0} (h : Wt q t) (hp : ¬ yE t 0 < 0) : Wt (yV q (yE t 0).toNat 2 [q.getD (yE t 0).toNat 0]) (yV t (yE t 0).toNat 2 [yK (yA (t.getD (yE t 0).toNat yh) ++ yA (t.getD (yE t 0 + 1).toNat yh))]) := by
 obtain ⟨h1, h2, h3⟩ := y2g hp
 have hq := h.w.len
 rw [show (yE t 0 + 1).toNat = (yE t 0).toNat + 1 by omega]
 have h3' : (yA (t.getD (yE t 0).toNat yh)).length + (yA (t.getD ((yE t 0).toNat + 1) yh)).length ≤ 6 := by
  have e1 : yf t (yE t 0 + 1) = t.getD ((yE t 0).toNat + 1) yh := by
   show t.getD (yE t 0 + 1).toNat yh = _
   rw [show (yE t 0 + 1).toNat = (yE t 0).toNat + 1 by omega]
  rw [e1] at h3
  exact h3
 clear h3
 generalize hj : (yE t 0).toNat = j at *
 have hj2 : j + 2 ≤ t.length := by omega
 clear h1 h2 hp hj
 have hw := h.w
 rw [ydm t j hj2, y4G q j (by omega), y4F _ _ (by simp [hq])] at hw
 obtain ⟨w1, w2, w3, w4⟩ := hw
 have hb := w2.low _ rfl
 have hsort : srt (yA (t.getD j yh) ++ yA (t.getD (j + 1) yh)) := by
  refine List.pairwise_append.2 ⟨Km _, Km _, fun x hx y hy => ?_⟩
  obtain ⟨kx, _, ux⟩ := y5U w2 hx
  obtain ⟨ky, ly, _⟩ := y5U w3 hy
  rw [qd kx ky]
  have := ux _ rfl
  omega
 refine ⟨?_, ?_, ?_, ?_⟩
 ·unfold yV
  rw [List.append_assoc, List.append_assoc, y4F _ _ (by simp [hq])]
  refine ⟨w1, ?_, w4⟩
  refine ycf hsort (by rw [List.length_append]; omega) (fun x hx => ?_) fun b e => ?_
  ·rcases List.mem_append.1 hx with hx | hx
   ·obtain ⟨kx, lx, ux⟩ := y5U w2 hx
    refine ⟨kx, lx, fun b e => ?_⟩
    have := ux _ rfl
    have := w3.low b e
    omega
   ·obtain ⟨kx, lx, ux⟩ := y5U w3 hx
    exact ⟨kx, by omega, ux⟩
  ·have := w3.low b e
   omega
 ·unfold yV
  rw [List.append_assoc, y06]
  have hz := h.zero
  rw [y4G q j (by omega), y06] at hz
  split
  ·rename_i e
   rw [if_pos e] at hz
   exact hz
  ·rename_i e
   rw [if_neg e] at hz
   exact hz
 ·rw [Yq _ _ _ _ hj2]
  simp only [List.length_cons, List.length_nil]
  omega
 ·refine qJ h.full (by omega) (fun n hn => ?_) (fun _ => by simp) (by decide)
  split at hn
  ·cases hn
  ·rename_i hj0
   obtain rfl := List.mem_singleton.1 hn
   rw [Zg hsort (fun x hx => (List.mem_append.1 hx).elim vU vU), List.length_append]
   have := h.full (t.getD j yh) (by
    rw [zd _ _ _ (by omega)]
    refine List.mem_iff_getElem.2 ⟨j - 1, by rw [List.length_drop]; omega, ?_⟩
    rw [List.getElem_drop]
    congr 1
    omega)
   omega
theorem ycg : ∀ (m : Nat) (q : List Int) (t : List y0), Wt q t → Wt (ZV m q t).1 (ZV m q t).2
 | 0, _, _, h => h
 | m + 1, q, t, h => by
  rw [ZV]
  split
  ·exact h
  ·rename_i hp
   exact ycg m _ _ (ylK h hp)
theorem y5V : ∀ (m : Nat) (q : List Int) (t : List y0), t.length ≤ m → yE (ZV m q t).2 0 < 0
 | 0, q, t, h => by
  rw [ZV, y0Z _ _ (by simp only; omega)]
  decide
 | m + 1, q, t, h => by
  rw [ZV]
  split
  ·assumption
  ·rename_i hp
   obtain ⟨h1, h2, h3⟩ := y2g hp
   exact y5V m _ _ (by
    rw [Yq _ _ _ _ (by omega)]
    simp only [List.length_cons, List.length_nil]
    omega)
theorem y9l : ∀ (t : List y0) (i : Int), 0 ≤ i → yE t i < 0 → 7 * (t.length / 2) ≤ (t.flatMap yA).length
 | [], _, _, _ => by simp
 | [_], _, _, _ => by simp
 | a :: b :: r, i, hi, h => by
  rw [yE] at h
  by_cases h6 : (yA a).length + (yA b).length ≤ 6
  ·rw [if_pos h6] at h
   omega
  ·rw [if_neg h6] at h
   have h2 : yE r (i + 2) < 0 := by
    cases r with
    | nil => show (-1 : Int) < 0; decide
    | cons c r =>
     rw [yE] at h
     split at h
     ·omega
     ·rw [show i + 1 + 1 = i + 2 by omega] at h
      exact h
   have := y9l r (i + 2) (by omega) h2
   simp only [List.flatMap_cons, List.length_append, List.length_cons]
   omega
theorem ydn {n : List y9} {k : y8} {s : y9} (hs : s ∈ Jv n k) {x : y8} (hx : x ∈ (show List y8 from s)) : x = k ∨ ∃ c ∈ n, x ∈ (show List y8 from c) := by
 unfold Jv at hs
 split at hs
 ·rename_i hl
  rcases List.mem_or_eq_of_mem_set hs with h1 | h1
  ·exact .inr ⟨s, h1, hx⟩
  ·rw [h1] at hx
   rcases y0i hx with h2 | h2
   ·exact .inl h2
   ·exact .inr ⟨_, y1F hl.1, h2⟩
 ·rcases List.mem_append.1 hs with h1 | h1
  ·exact .inr ⟨s, h1, hx⟩
  ·rw [List.mem_singleton.1 h1] at hx
   exact .inl (List.mem_singleton.1 hx)
theorem ych {n : List y9} {k x : y8} (h : x ∈ Y3 n k) : x = k ∨ x ∈ yA n := y0i (y4a h)
theorem ysd {a : Int} {v : Option Int} {n : y0} (h : NB a v n) {k : y8} (hk : zR k = true) (ha : a ≤ jN k) (hv : ∀ b, v = some b → jN k < b) : NB a v (zg n k).1 := by
 unfold zg
 split
 ·rename_i h1
  refine ⟨h1, fun s hs x hx => ?_, h.low⟩
  rcases ydn hs hx with rfl | ⟨c, hc, hxc⟩
  ·exact ⟨ha, hv⟩
  ·exact h.ent c hc x hxc
 ·split
  ·exact h
  ·split
   ·rename_i h8 _
    refine ycf (y3m n k) (by omega) (fun x hx => ?_) h.low
    rcases ych hx with rfl | hx
    ·exact ⟨hk, ha, hv⟩
    ·exact y5U h hx
   ·exact h
theorem ydo {q : List Int} {t : List y0} {k : y8} (h : z7 q t = true) (hk : zR k = true) : Wt (yu q t k).1 (yu q t k).2 := by
 have hW := ylI h
 obtain ⟨e1, e2, e3⟩ := y0l h hk
 have hs : Ju k.1 k.2.1 = jN k := rfl
 rw [hs] at e1
 have hhalf := y7M h hk
 obtain ⟨b1, b2, b3⟩ := y7P q (jN k) q.length _ e1
 have hq := hW.w.len
 have hw := hW.w
 unfold yu
 generalize hj : z9 q k = j at *
 rw [y0p yh t j (by omega), y0p 0 q j (by omega), y4F _ _ (by simp [hq])] at hw
 obtain ⟨w1, w2, w3⟩ := hw
 have hv : ∀ b, upT none (q.drop (j + 1)) = some b → jN k < b := fun b e => by
  by_cases hj1 : j + 1 < q.length
  ·rw [List.drop_eq_getElem_cons hj1] at e
   have e' : q[j + 1] = b := by injection e
   have := b3 (j + 1) (by omega) hj1
   rw [zd _ _ _ hj1, e'] at this
   exact this
  ·rw [List.drop_eq_nil_of_le (by omega)] at e
   cases e
 generalize hn : t.getD j yh = n at *
 have hz := hW.zero
 rw [y0p 0 q j (by omega), y06] at hz
 have hnj : 0 < j → 0 < (yA n).length := fun h0 => hW.full n (by
  rw [← hn, zd _ _ _ (by omega)]
  refine List.mem_iff_getElem.2 ⟨j - 1, by rw [List.length_drop]; omega, ?_⟩
  rw [List.getElem_drop]
  congr 1
  omega)
 split
 ·rename_i hm
  obtain ⟨g1, g2⟩ := hhalf hm
  have hws := y3m n k
  have hkey : ∀ x ∈ Y3 n k, zR x = true ∧ q.getD j 0 ≤ jN x ∧ ∀ b, upT none (q.drop (j + 1)) = some b → jN x < b := fun x hx => by
   rcases ych hx with rfl | hx
   ·exact ⟨hk, b1, hv⟩
   ·exact y5U w2 hx
  have hlive : ∀ x ∈ Y3 n k, x.2.2.1 ≠ 0 := fun x hx => y1J hx
  generalize hl : Y3 n k = l at *
  generalize hh : wT l = m at *
  have hm0 : 0 < m := by
   rw [← hh]
   unfold wT
   omega
  have hml : m ≤ 8 ∧ l.length - m ≤ 8 := by
   rw [← hh]
   unfold wT
   omega
  have hat : l.getD m yI = l[m] := zd _ _ _ g1
  have hf := hkey l[m] (List.getElem_mem _)
  have hlt : ∀ x ∈ l.take m, jN x < jN l[m] := fun x hx => by
   obtain ⟨i, hi, rfl⟩ := List.mem_iff_getElem.1 hx
   rw [List.length_take] at hi
   rw [List.getElem_take]
   have := List.pairwise_iff_getElem.1 hws i m (by omega) g1 (by omega)
   exact (qd (hkey _ (List.getElem_mem _)).1 hf.1).1 this
  have hge : ∀ x ∈ l.drop m, jN l[m] ≤ jN x := fun x hx => by
   obtain ⟨i, hi, rfl⟩ := List.mem_iff_getElem.1 hx
   rw [List.length_drop] at hi
   rw [List.getElem_drop]
   by_cases hi0 : i = 0
   ·subst hi0
    exact Int.le_refl _
   ·have := List.pairwise_iff_getElem.1 hws m (m + i) g1 (by omega) (by omega)
    have := (qd hf.1 (hkey _ (List.getElem_mem _)).1).1 this
    omega
  have hsp : q.getD j 0 < jN l[m] := by
   have h0 : l[0] ∈ l.take m := by
    refine List.mem_iff_getElem.2 ⟨0, by rw [List.length_take]; omega, ?_⟩
    rw [List.getElem_take]
   have := hlt _ h0
   have := (hkey l[0] (List.getElem_mem _)).2.1
   omega
  rw [hat]
  refine ⟨?_, ?_, ?_, ?_⟩
  ·unfold yV
   rw [List.append_assoc, List.append_assoc, y4F _ _ (by simp [hq])]
   refine ⟨w1, ?_, ?_, w3⟩
   ·refine ycf (List.Pairwise.sublist (List.take_sublist _ _) hws) (by rw [List.length_take]; omega) (fun x hx => ?_) fun b e => ?_
    ·obtain ⟨x1, x2, x3⟩ := hkey x (List.mem_of_mem_take hx)
     refine ⟨x1, x2, fun b e => ?_⟩
     have e' : jN l[m] = b := by injection e
     have := hlt x hx
     omega
    ·have e' : jN l[m] = b := by injection e
     omega
   ·refine ycf (List.Pairwise.sublist (List.drop_sublist _ _) hws) (by rw [List.length_drop]; omega) (fun x hx => ?_) fun b e => ?_
    ·obtain ⟨x1, x2, x3⟩ := hkey x (List.mem_of_mem_drop hx)
     exact ⟨x1, hge x hx, x3⟩
    ·exact hf.2.2 b e
  ·unfold yV
   rw [List.append_assoc, y06]
   split
   ·rename_i e
    rw [if_pos e] at hz
    exact hz
   ·rename_i e
    rw [if_neg e] at hz
    exact hz
  ·rw [Yq _ _ _ _ (by omega)]
   simp only [List.length_cons, List.length_nil]
   omega
  ·refine qJ hW.full (by omega) (fun x hx => ?_) (fun _ => by simp) (by decide)
   have e4 : 0 < (yA (yK (l.take m))).length := by
    rw [Zg (List.Pairwise.sublist (List.take_sublist _ _) hws) fun x hx => hlive x (List.mem_of_mem_take hx), List.length_take]
    omega
   have e5 : 0 < (yA (yK (l.drop m))).length := by
    rw [Zg (List.Pairwise.sublist (List.drop_sublist _ _) hws) fun x hx => hlive x (List.mem_of_mem_drop hx), List.length_drop]
    omega
   split at hx
   ·obtain rfl := List.mem_singleton.1 hx
    exact e5
   ·simp only [List.mem_cons, List.mem_nil_iff, or_false] at hx
    rcases hx with rfl | rfl
    ·exact e4
    ·exact e5
 ·split
  ·rename_i h0
   obtain ⟨h0, _⟩ := h0
   refine ⟨?_, ?_, ?_, ?_⟩
   ·unfold yV
    simp only [List.append_nil]
    rw [y4F _ _ (by simp [hq])]
    refine ⟨Wu.up (fun b' e => ⟨q.getD j 0, rfl, ?_⟩) w1, w3⟩
    have := w2.low b' e
    omega
   ·unfold yV
    rw [List.append_assoc, y06, if_neg (by rw [List.length_take]; omega)]
    rw [if_neg (by rw [List.length_take]; omega)] at hz
    exact hz
   ·rw [Yq _ _ _ _ (by omega)]
    simp only [List.length_nil]
    omega
   ·refine qJ hW.full (by omega) (fun x hx => ?_) (fun e => by omega) (by decide)
    split at hx <;> cases hx
  ·rename_i hm h0
   have hsp := y0k t j (zg n k).1 (by omega)
   rw [← hsp]
   refine ⟨?_, hW.zero, by rw [Yq _ _ _ _ (by omega)]; simp only [List.length_cons, List.length_nil]; omega, ?_⟩
   ·unfold yV
    conv => rw [y0p 0 q j (by omega)]
    rw [List.append_assoc, y4F _ _ (by simp [hq])]
    exact ⟨w1, ysd w2 hk b1 hv, w3⟩
   ·refine qJ hW.full (by omega) (fun x hx => ?_) (fun _ => by simp) (by decide)
    split at hx
    ·cases hx
    ·rename_i hj0
     obtain rfl := List.mem_singleton.1 hx
     have : ¬ (yA (zg n k).1).length = 0 := fun e => h0 ⟨by omega, e⟩
     omega
theorem ydp {q : List Int} {t : List y0} {k : y8} (h : z7 q t = true) (hk : zR k = true) (hn : (ka (zT (yn t) k)).length ≤ 60) : (yB q t k).2.2 = true := by
 have hW := ycg (yu q t k).2.length _ _ (ydo h hk)
 have hd := y5V (yu q t k).2.length (yu q t k).1 (yu q t k).2 (Nat.le_refl _)
 have hkeys : yn (ZV (yu q t k).2.length (yu q t k).1 (yu q t k).2).2 = ka (zT (yn t) k) := (y4k _ _ _ (y4l h hk)).trans (QY h hk)
 have hm := y9l _ 0 (Int.le_refl _) hd
 rw [← Ko, hkeys] at hm
 have hok := ylJ hW (by omega) (by rw [hkeys]; exact hn)
 unfold yB
 rw [if_pos (by rw [h, hk]; rfl), if_pos hok]
end Go.Proofs.YtjllpipmaejeoaaGreat.Pl
namespace Go.Proofs.YtjllpipmaejeoaaGreat.Pl
open Go.Proofs.YtjllpipmaejeoaaGreat.R Go.Proofs.YtjllpipmaejeoaaGreat.XU
theorem qe : ∀ (l : List y7) (i : Int), ∀ x ∈ Y6 l i, i ≤ x ∧ x < i + l.length ∧ (l.getD (x - i).toNat yo).2.1 = true
 | [], i, x, hx => by simp [Y6] at hx
 | c :: l, i, x, hx => by
  rw [Y6] at hx
  have hr : x ∈ Y6 l (i + 1) → i ≤ x ∧ x < i + ((c :: l).length : Nat) ∧ ((c :: l).getD (x - i).toNat yo).2.1 = true := fun hx => by
   obtain ⟨h1, h2, h3⟩ := qe l (i + 1) x hx
   refine ⟨by omega, by simp only [List.length_cons]; omega, ?_⟩
   rw [show (x - i).toNat = (x - (i + 1)).toNat + 1 by omega, List.getD_cons_succ]
   exact h3
  split at hx
  ·rename_i hc
   rcases List.mem_cons.1 hx with rfl | hx
   ·refine ⟨Int.le_refl _, by simp only [List.length_cons]; omega, ?_⟩
    rw [show (x - x).toNat = 0 by omega]
    exact hc
   ·exact hr hx
  ·exact hr hx
theorem k9 : ∀ (l : List y7) (i : Int), (Y6 l i).Nodup
 | [], i => by simp [Y6]
 | c :: l, i => by
  rw [Y6]
  split
  ·refine List.nodup_cons.2 ⟨fun hm => ?_, k9 l (i + 1)⟩
   have := (qe l (i + 1) i hm).1
   omega
  ·exact k9 l (i + 1)
theorem yiQ {ks : List y8} (h : srt ks) {i j : Nat} (hi : i < ks.length) (hj : j < ks.length) (hij : i < j) : ks[i] ≠ ks[j] := fun e => by
 have := List.pairwise_iff_getElem.1 h i j hi hj hij
 rw [e, QX] at this
 cases this
theorem yse {ks : List y8} {l : List ya} {cs : List y7} (hs : srt ks) (hk : ks.length ≤ 1048576) (hc : cs.length ≤ 1048576) (ha : ∀ c ∈ ks, 0 ≤ zJ l c.2.1) (hg : ∀ c ∈ ks, c.2.2.1 = 1 → (Yo cs c.2.2.2.1 c.2.2.2.2).2 = true) (hd : ∀ c ∈ ks, ∀ d ∈ ks, c.2.2.1 = 1 → d.2.2.1 = 1 → c.2.2.2.1 = d.2.2.2.1 → c = d) (hu : ∀ i : Int, 0 ≤ i → i < (cs.length : Int) → (cs.getD i.toNat yo).2.1 = true → ∃ c ∈ ks, c.2.2.1 = 1 ∧ c.2.2.2.1 = i) : Zu ks l cs = true := by
 have hdat : ∀ c : y8, y1N c = true ↔ c.2.2.1 = 1 := fun c => by unfold y1N; exact beq_iff_eq
 have hused : ∀ c ∈ ks, c.2.2.1 = 1 → 0 ≤ c.2.2.2.1 ∧ c.2.2.2.1 < (cs.length : Int) ∧ (cs.getD c.2.2.2.1.toNat yo).2.1 = true := fun c hcm h1 => by
  have h2 := hg c hcm h1
  unfold Yo at h2
  split at h2
  ·rename_i hh
   simp only [Bool.and_eq_true] at hh
   have := zl.1 hh.1
   exact ⟨this.1, by omega, hh.2.1⟩
  ·cases h2
 have hnd : (k7 ks).Nodup := by
  unfold k7 List.Nodup
  rw [List.pairwise_map, List.pairwise_filter, List.pairwise_iff_getElem]
  intro i j hi hj hij h1 h2 he
  exact yiQ hs hi hj hij (hd _ (List.getElem_mem _) _ (List.getElem_mem _) ((hdat _).1 h1) ((hdat _).1 h2) he)
 have e1 : (k7 ks).length = (Y6 cs 0).length := by
  refine Nat.le_antisymm (vW _ _ hnd fun x hx => ?_) (vW _ _ (k9 _ _) fun x hx => ?_)
  ·obtain ⟨k, hk, rfl⟩ := List.mem_map.1 hx
   obtain ⟨hk, hd⟩ := List.mem_filter.1 hk
   obtain ⟨a1, a2, a3⟩ := hused k hk ((hdat _).1 hd)
   have := kT cs 0 k.2.2.2.1.toNat (by omega) a3
   rwa [show (0 : Int) + (k.2.2.2.1.toNat : Int) = k.2.2.2.1 by omega] at this
  ·obtain ⟨h1, h2, h3⟩ := qe cs 0 x hx
   rw [show x - 0 = x by omega] at h3
   obtain ⟨c, hc, hc1, hc2⟩ := hu x (by omega) (by omega) h3
   exact List.mem_map.2 ⟨c, List.mem_filter.2 ⟨hc, (hdat c).2 hc1⟩, hc2⟩
 unfold Zu
 simp only [Bool.and_eq_true, Bool.not_eq_true', beq_iff_eq]
 refine ⟨Kn yI ks 0 fun j hj => ?_, ?_⟩
 ·rw [zd _ _ _ hj]
  unfold yaP
  have hm : ks[j] ∈ ks := List.getElem_mem _
  have h1 := ha _ hm
  rw [decide_eq_false (show ¬ zJ l ks[j].2.1 < 0 by omega), Bool.false_or, Bool.and_eq_false_iff]
  by_cases hj1 : ks[j].2.2.1 = 1
  ·refine .inr ?_
   rw [hg _ hm hj1, Bool.not_true, Bool.false_or]
   refine y1Q (fun _ _ _ => rfl) (fun a ha => ?_) 0
   rw [show ((0 : Int) + (j : Int)).toNat = j by omega] at ha
   obtain ⟨i, hi, rfl⟩ := List.mem_iff_getElem.1 ha
   rw [List.length_take] at hi
   rw [List.getElem_take]
   unfold yU
   rw [Bool.and_eq_false_iff]
   by_cases hi1 : ks[i].2.2.1 = 1
   ·refine .inr (beq_eq_false_iff_ne.2 fun he => ?_)
    exact yiQ hs (by omega) hj (by omega) (hd _ (List.getElem_mem _) _ hm hi1 hj1 he)
   ·exact .inl (beq_eq_false_iff_ne.2 hi1)
  ·exact .inl (beq_eq_false_iff_ne.2 hj1)
 ·unfold vZ
  rw [y7R ks 0 (Int.le_refl _) (by omega), qH cs 0 0 (Int.le_refl _) (by omega), e1]
theorem yfn {ks : List y8} {l : List ya} {cs : List y7} (h : Zu ks l cs = true) (hk : ks.length ≤ 1048576) (hc : cs.length ≤ 1048576) {i : Int} (i0 : 0 ≤ i) (i1 : i < (cs.length : Int)) (hu : (cs.getD i.toNat yo).2.1 = true) : ∃ c ∈ ks, c.2.2.1 = 1 ∧ c.2.2.2.1 = i := by
 obtain ⟨h1, _⟩ := y7T h hk hc i0 i1 hu
 rcases YE (yU i 0) yI ks 0 (Int.le_refl _) with h2 | ⟨h2, h3, h4⟩
 ·omega
 ·rw [Int.sub_zero] at h4
  have hm : (zQ (yU i 0) ks 0).toNat < ks.length := by omega
  refine ⟨ks.getD (zQ (yU i 0) ks 0).toNat yI, by rw [zd _ _ _ hm]; exact List.getElem_mem _, ?_⟩
  unfold yU at h4
  rw [Bool.and_eq_true, beq_iff_eq, beq_iff_eq] at h4
  exact h4
theorem ylL {q : List yb} {t : List y0} {l : List ya} {cs : List y7} {vs : List ye} {z : Int} (ht : z7 q t = true) (hl : jF l = true) (hc : yZ cs = true) (hz : 1 ≤ z ∧ z ≤ 61) (hla : ∀ a ∈ l, a.1 < z) (hv : w6 vs l = true) (hf : Zu (yn t) l cs = true) : yr q t l cs vs z = true := by
 unfold yr
 rw [ht, hl, hc, zl.2 hz, hv, hf]
 have : Ym (Vv z) l 0 = false := y1Q (fun _ _ _ => rfl) (fun a ha => by
  unfold Vv
  have := hla a ha
  exact decide_eq_false (by omega)) 0
 rw [this]
 rfl
theorem y4H {cs : List y7} (h : yZ cs = true) (i : Nat) (hi : i < cs.length) : (0 ≤ (cs.getD i yo).1 ∧ (cs.getD i yo).1 ≤ 999) ∧ isW (cs.getD i yo).2.2 = true := by
 have hw := y04 h i hi
 unfold yZ at h
 simp only [Bool.and_eq_true, Bool.not_eq_true'] at h
 have := JT yo cs 0 h.1 i hi
 unfold y54 at this
 simp only [Bool.or_eq_false_iff, Bool.not_eq_false'] at this
 exact ⟨zl.1 this.1, hw⟩
theorem y9m {cs : List y7} (h : yZ cs = true) (i : Nat) (c : y7) (hg : 0 ≤ c.1 ∧ c.1 ≤ 999) (hw : isW c.2.2 = true) (hn : c.2.1 = false → c.2.2 = 0) : yZ (cs.set i c) = true := by
 have h24 := ZT h
 unfold yZ at h ⊢
 simp only [Bool.and_eq_true, Bool.not_eq_true'] at h ⊢
 refine ⟨y1Q (fun _ _ _ => rfl) (fun a ha => ?_) 0, by rw [List.length_set]; exact h.2⟩
 rcases List.mem_or_eq_of_mem_set ha with h1 | rfl
 ·obtain ⟨j, hj⟩ := w7 _ _ 0 h.1 a h1
  exact hj
 ·unfold y54
  rw [zl.2 hg, hw]
  cases hu : a.2.1 with
  | true => rfl
  | false => rw [hn hu]; rfl
theorem yhz : isW 0 = true := by decide
theorem yhA {g : Int} (h : 0 ≤ g ∧ g ≤ 999) : 0 ≤ Int.tmod (Go.IntKind.wrap .i64 (g + 1)) 1000 ∧ Int.tmod (Go.IntKind.wrap .i64 (g + 1)) 1000 ≤ 999 := by
 rw [w64 (n := g + 1) (by omega) (by omega), Int.tmod_eq_emod_of_nonneg (by omega)]
 omega
theorem ylM {cs : List y7} (h : yZ cs = true) (i : Int) : yZ (jG cs i) = true := by
 unfold jG
 split
 ·rename_i hh
  have := (y4H h i.toNat (by have := ZT h; omega)).1
  exact y9m h _ _ (yhA this) yhz fun _ => rfl
 ·exact h
theorem yfo {cs : List y7} (h : yZ cs = true) {i : Int} (h0 : 0 ≤ i) (h1 : i ≤ 23) : ((jG cs i).getD i.toNat yo).2.1 = false := by
 have h24 := ZT h
 by_cases hu : (cs.getD i.toNat yo).2.1 = true
 ·rw [y4n ⟨h, h0, h1, hu⟩, y1O _ _ _ _ (by omega)]
 ·rw [qF (fun hh => hu hh.2.2.2)]
  simpa using hu
end Go.Proofs.YtjllpipmaejeoaaGreat.Pl
namespace Go.Proofs.YtjllpipmaejeoaaGreat.Pl
open Go.Proofs.YtjllpipmaejeoaaGreat.R Go.Proofs.YtjllpipmaejeoaaGreat.XU
theorem y9n {K : List y8} (hK : srt K) {b : Int} {path : List Int} {d : y8} (hd : d ∈ K) (hb : d.1 = b) (hp : d.2.1 ∈ path) (hm : ∀ c ∈ K, c.1 = b → c.2.1 ∈ path → c.2.1 ≤ d.2.1) : YR (Zr K b) path = (true, d) := by
 rcases y4w (Zr K b) path with ⟨h1, h2⟩ | ⟨h1, h2, h3, h4⟩
 ·exact absurd hp (h2 d (kS.2 ⟨hd, hb⟩))
 ·obtain ⟨h5, h6⟩ := kS.1 h2
  have e1 := h4 d (kS.2 ⟨hd, hb⟩) hp
  have e2 := hm _ h5 h6 h3
  have e3 := yaV hK h5 hd (WY.2 ⟨h6.trans hb.symm, by omega⟩)
  exact Prod.ext h1 e3
theorem yfp {K : List y8} {b : Int} {path : List Int} (h : ∀ c ∈ K, c.1 = b → c.2.1 ∉ path) : YR (Zr K b) path = (false, (0, 0, 0, 0, 0)) := by
 rcases y4w (Zr K b) path with ⟨h1, h2⟩ | ⟨h1, h2, h3, h4⟩
 ·exact h1
 ·obtain ⟨h5, h6⟩ := kS.1 h2
  exact absurd h3 (h _ h5 h6)
theorem ydq (K : List y8) (b : Int) (path : List Int) : (YR (Zr K b) path = (false, (0, 0, 0, 0, 0)) ∧ ∀ c ∈ K, c.1 = b → c.2.1 ∉ path) ∨ ∃ d ∈ K, d.1 = b ∧ d.2.1 ∈ path ∧ YR (Zr K b) path = (true, d) ∧ ∀ c ∈ K, c.1 = b → c.2.1 ∈ path → c.2.1 ≤ d.2.1 := by
 rcases y4w (Zr K b) path with ⟨h1, h2⟩ | ⟨h1, h2, h3, h4⟩
 ·exact .inl ⟨h1, fun c hc hb => h2 c (kS.2 ⟨hc, hb⟩)⟩
 ·obtain ⟨h5, h6⟩ := kS.1 h2
  exact .inr ⟨_, h5, h6, h3, Prod.ext h1 rfl, fun c hc hb hp => h4 c (kS.2 ⟨hc, hb⟩) hp⟩
theorem yci {K : List y8} {l : List ya} {cs : List y7} {b a : Int} (h : ∀ c ∈ K, c.1 = b → c.2.1 ∉ wC l a) : y9g K l cs b a = 0 := by
 unfold y9g
 rw [yfp h]
 rfl
theorem y7U {K : List y8} {l : List ya} {cs : List y7} {b a : Int} {d : y8} (h : YR (Zr K b) (wC l a) = (true, d)) : y9g K l cs b a = if d.2.2.1 = 1 then (Yo cs d.2.2.2.1 d.2.2.2.2).1 else 0 := by
 unfold y9g
 rw [h]
 by_cases hd : d.2.2.1 = 1
 ·rw [if_pos hd, if_pos (by rw [show (d.2.2.1 == 1) = true by rw [hd]; rfl]; rfl)]
 ·rw [if_neg hd, if_neg (by simp [hd])]
def ydr (l : List y8) : List (Int × Int) := l.map fun x : y8 => (x.1, x.2.1)
theorem yb7 {l : List y8} (h : srt l) : (ydr l).Nodup := by
 unfold ydr List.Nodup
 rw [List.pairwise_map]
 refine List.Pairwise.imp (fun {a b} hab he => ?_) h
 injection he with e1 e2
 have := Kj.1 hab
 omega
theorem y9o (l : List y8) : (ydr l).length = l.length := by unfold ydr; rw [List.length_map]
theorem y9p {l : List y8} {p : Int × Int} : p ∈ ydr l ↔ ∃ x ∈ l, x.1 = p.1 ∧ x.2.1 = p.2 := by
 unfold ydr
 rw [List.mem_map]
 constructor
 ·rintro ⟨x, hx, rfl⟩
  exact ⟨x, hx, rfl, rfl⟩
 ·rintro ⟨x, hx, h1, h2⟩
  exact ⟨x, hx, Prod.ext h1 h2⟩
theorem yds {a b : List y8} (ha : srt a) (h : ∀ x ∈ a, ∃ y ∈ b, y.1 = x.1 ∧ y.2.1 = x.2.1) : a.length ≤ b.length := by
 rw [← y9o a, ← y9o b]
 refine vW _ _ (yb7 ha) fun p hp => ?_
 obtain ⟨x, hx, h1, h2⟩ := y9p.1 hp
 obtain ⟨y, hy, h3, h4⟩ := h x hx
 exact y9p.2 ⟨y, hy, h3.trans h1, h4.trans h2⟩
theorem yb8 {ks : List y8} (hs : srt ks) (k : y8) : srt (ka (zT ks k)) := Kl (JU k hs)
theorem yb9 {ks : List y8} {k x : y8} : x ∈ ka (zT ks k) ↔ (x = k ∨ (x ∈ ks ∧ ZU x k = false)) ∧ x.2.2.1 ≠ 0 := by rw [qE, Vy]
theorem yhB {t : List y0} {q : List Int} (h : z7 q t = true) {x : y8} (hx : x ∈ yn t) : zR x = true := by
 obtain ⟨n, hn, hx⟩ := y3n.1 hx
 obtain ⟨i, hi, rfl⟩ := List.mem_iff_getElem.1 hn
 rw [← zd yh t i hi] at hx
 exact ((JX h).key i hi x hx).1
theorem y3r {t : List y0} {q : List Int} (h : z7 q t = true) : (yn t).length ≤ 60 := by
 unfold z7 at h
 simp only [Bool.and_eq_true, decide_eq_true_eq] at h
 omega
theorem y9q {k : y8} : zR k = true ↔ (0 ≤ k.1 ∧ k.1 ≤ 15) ∧ (1 ≤ k.2.1 ∧ k.2.1 ≤ 60) ∧ (0 ≤ k.2.2.1 ∧ k.2.2.1 ≤ 2) ∧ (if k.2.2.1 = 1 then (0 ≤ k.2.2.2.1 ∧ k.2.2.2.1 ≤ 23) ∧ 0 ≤ k.2.2.2.2 ∧ k.2.2.2.2 ≤ 999 else k.2.2.2.1 = 0 ∧ k.2.2.2.2 = 0) := by
 unfold zR
 split <;> simp [zl]
theorem yhC {q : List Int} {t : List y0} (h : z7 q t = true) {k k' : y8} (hk : k ∈ yn t) (hs : k'.1 = k.1 ∧ k'.2.1 = k.2.1) (hok : zR k' = true) : (yB q t k').2.2 = true := by
 have hS := (JX h).srt
 refine ydp h hok (Nat.le_trans (yds (yb8 hS k') fun x hx => ?_) (y3r h))
 rcases (yb9.1 hx).1 with rfl | ⟨hx, _⟩
 ·exact ⟨k, hk, hs.1.symm, hs.2.symm⟩
 ·exact ⟨x, hx, rfl, rfl⟩
end Go.Proofs.YtjllpipmaejeoaaGreat.Pl
namespace Go.Proofs.YtjllpipmaejeoaaGreat.Pl
open Go.Proofs.YtjllpipmaejeoaaGreat.R Go.Proofs.YtjllpipmaejeoaaGreat.XU
theorem y4I {A : Type} {p : A → Bool} (d : A) : ∀ (l : List A) (i : Int), 0 ≤ i → ∀ j : Nat, j < l.length → (zQ p l i < 0 ∨ (i + j : Int) < zQ p l i) → p (l.getD j d) = false
 | [], _, _, j, hj, _ => by simp at hj
 | a :: l, i, hi, j, hj, h => by
  rw [zQ] at h
  cases hp : p a with
  | true =>
   rw [if_pos hp] at h
   omega
  | false =>
   rw [if_neg (by rw [hp]; decide)] at h
   cases j with
   | zero => simpa using hp
   | succ j =>
    rw [List.getD_cons_succ]
    exact y4I d l (i + 1) (by omega) j (by simpa using hj) (by omega)
theorem ydt {cs : List y7} {j : Nat} (hj : j < cs.length) (h : za cs < 0 ∨ (j : Int) < za cs) : (cs.getD j yo).2.1 = true := by
 have := y4I (p := fun c : y7 => !c.2.1) yo cs 0 (Int.le_refl _) j hj (by unfold za at h; omega)
 simpa using this
theorem qf (cs : List y7) : ∀ n, (w8 cs n = -1 ∨ (0 ≤ w8 cs n ∧ w8 cs n < n ∧ (cs.getD (w8 cs n).toNat yo).2.1 = true)) ∧ ∀ j : Nat, j < n → w8 cs n < (j : Int) → (cs.getD j yo).2.1 = false
 | 0 => ⟨.inl rfl, fun j hj => by omega⟩
 | n + 1 => by
  obtain ⟨h1, h2⟩ := qf cs n
  rw [w8]
  by_cases hu : (cs.getD n yo).2.1 = true
  ·rw [if_pos hu]
   refine ⟨.inr ⟨by omega, by omega, ?_⟩, fun j hj hl => by omega⟩
   rw [show ((n : Int)).toNat = n by omega]
   exact hu
  ·rw [if_neg hu]
   refine ⟨?_, fun j hj hl => ?_⟩
   ·rcases h1 with h1 | ⟨h3, h4, h5⟩
    ·exact .inl h1
    ·exact .inr ⟨h3, by omega, h5⟩
   ·by_cases hjn : j = n
    ·subst hjn
     simpa using hu
    ·exact h2 j (by omega) hl
section
variable {q : List yb} {t : List y0} {l : List ya} {cs : List y7} {vs : List ye} {z : Int} (hp : yr q t l cs vs z = true) {i : Int} (hi : 0 ≤ i ∧ i ≤ 23) (hu : (cs.getD i.toNat yo).2.1 = true) (hf : ¬ za cs < 0) (hfi : za cs ≤ i)
def y9r (t : List y0) (cs : List y7) (i : Int) : y8 := ((YQ t i).1, (YQ t i).2.1, (YQ t i).2.2.1, za cs, (cs.getD (za cs).toNat yo).1)
def mCs (cs : List y7) (i : Int) : List y7 := cs.set (za cs).toNat ((cs.getD (za cs).toNat yo).1, true, (cs.getD i.toNat yo).2.2)
include hp hi hu
theorem y4J : YQ t i ∈ yn t ∧ (YQ t i).2.2.1 = 1 ∧ (YQ t i).2.2.2.1 = i := by
 have hr := ke hp
 have h24 := ZT hr.cells
 obtain ⟨h1, _⟩ := y7T hr.fit (by have := y3r hr.tree; omega) (by omega) hi.1 (by omega) hu
 rcases YE (yU i 0) yI (yn t) 0 (Int.le_refl _) with h2 | ⟨h2, h3, h4⟩
 ·omega
 ·rw [Int.sub_zero] at h4
  refine ⟨by unfold YQ; rw [zd _ _ _ (by omega)]; exact List.getElem_mem _, ?_⟩
  unfold yU at h4
  rw [Bool.and_eq_true, beq_iff_eq, beq_iff_eq] at h4
  exact h4
include hf hfi
theorem yfq : za cs ≠ i := fun e => by
 obtain ⟨f1, f2, f3⟩ := JY hf
 rw [e, hu] at f3
 cases f3
theorem ylN : k8 q t l cs vs z i = (((yB q t (y9r t cs i)).1, (yB q t (y9r t cs i)).2.1, l, jG (mCs cs i) i, vs, z), (yB q t (y9r t cs i)).2.2) := by
 have hr := ke hp
 have h24 := ZT hr.cells
 obtain ⟨f1, f2, f3⟩ := JY hf
 have e1 : KJ cs i = mCs cs i := by
  unfold KJ mCs
  rw [y1M ⟨hr.cells, y04 hr.cells i.toNat (by omega), hf⟩]
 have e2 : ((mCs cs i).getD (za cs).toNat yo).1 = (cs.getD (za cs).toNat yo).1 := by
  unfold mCs
  rw [y1O _ _ _ _ (by omega)]
 unfold k8 vX
 rw [e1, e2]
 rfl
theorem y7V : (yB q t (y9r t cs i)).2.2 = true := by
 have hr := ke hp
 have h24 := ZT hr.cells
 obtain ⟨f1, f2, f3⟩ := JY hf
 obtain ⟨m1, m2, m3⟩ := y4J hp hi hu
 refine yhC hr.tree m1 ⟨rfl, rfl⟩ (y9q.2 ?_)
 have hk := y9q.1 (yhB hr.tree m1)
 have hg := (y4H hr.cells (za cs).toNat (by omega)).1
 refine ⟨hk.1, hk.2.1, hk.2.2.1, ?_⟩
 show if (YQ t i).2.2.1 = 1 then (0 ≤ za cs ∧ za cs ≤ 23) ∧ 0 ≤ (cs.getD (za cs).toNat yo).1 ∧ (cs.getD (za cs).toNat yo).1 ≤ 999 else za cs = 0 ∧ (cs.getD (za cs).toNat yo).1 = 0
 rw [if_pos m2]
 omega
theorem yfr {x : y8} : x ∈ yn (yB q t (y9r t cs i)).2.1 ↔ x = y9r t cs i ∨ (x ∈ yn t ∧ ZU x (YQ t i) = false) := by
 have hr := ke hp
 rw [ydl hr.tree (y7V hp hi hu hf hfi)]
 obtain ⟨m1, m2, m3⟩ := y4J hp hi hu
 constructor
 ·exact fun h => h.1
 ·rintro (rfl | h)
  ·exact ⟨.inl rfl, by show (YQ t i).2.2.1 ≠ 0; rw [m2]; decide⟩
  ·exact ⟨.inr h, y4j h.1⟩
theorem yiR : yZ (mCs cs i) = true := by
 have hr := ke hp
 have h24 := ZT hr.cells
 obtain ⟨f1, f2, f3⟩ := JY hf
 have hg := (y4H hr.cells (za cs).toNat (by omega)).1
 exact y9m hr.cells _ _ hg (y04 hr.cells i.toNat (by omega)) fun h => by cases h
theorem y1R : ((jG (mCs cs i) i).getD i.toNat yo).2.1 = false ∧ (jG (mCs cs i) i).getD (za cs).toNat yo = ((cs.getD (za cs).toNat yo).1, true, (cs.getD i.toNat yo).2.2) ∧ ∀ n : Nat, n ≠ i.toNat → n ≠ (za cs).toNat → (jG (mCs cs i) i).getD n yo = cs.getD n yo := by
 have hr := ke hp
 have h24 := ZT hr.cells
 obtain ⟨f1, f2, f3⟩ := JY hf
 have hne := yfq hp hi hu hf hfi
 refine ⟨yfo (yiR hp hi hu hf hfi) hi.1 hi.2, ?_, fun n h1 h2 => ?_⟩
 ·rw [yfm (by omega)]
  unfold mCs
  exact y1O _ _ _ _ (by omega)
 ·rw [yfm (by omega)]
  unfold mCs
  exact y4B _ _ _ _ _ (by omega)
theorem y4K : (jG (mCs cs i) i).length = cs.length := by
 rw [y1L]
 unfold mCs
 rw [List.length_set]
theorem y4L {c : y8} (hc : c ∈ yn t) (hd : c.2.2.1 = 1) (hn : ZU c (YQ t i) = false) : c.2.2.2.1.toNat ≠ i.toNat ∧ c.2.2.2.1.toNat ≠ (za cs).toNat ∧ c.2.2.2.1 ≠ za cs := by
 have hr := ke hp
 obtain ⟨f1, f2, f3⟩ := JY hf
 obtain ⟨m1, m2, m3⟩ := y4J hp hi hu
 obtain ⟨u1, u2, u3⟩ := yhr hr.fit hc hd
 have h2 : c.2.2.2.1.toNat ≠ (za cs).toNat := fun e => by
  rw [e, f3] at u3
  cases u3
 refine ⟨fun e => ?_, h2, fun e => h2 (by rw [e])⟩
 have := y9k hr.fit hc m1 hd m2 (by omega)
 subst this
 rw [WY.2 ⟨rfl, rfl⟩] at hn
 cases hn
theorem yfs : Yo (jG (mCs cs i) i) (y9r t cs i).2.2.2.1 (y9r t cs i).2.2.2.2 = ((cs.getD i.toNat yo).2.2, true) := by
 obtain ⟨f1, f2, f3⟩ := JY hf
 obtain ⟨c1, c2, c3⟩ := y1R hp hi hu hf hfi
 have hl := y4K hp hi hu hf hfi
 show Yo (jG (mCs cs i) i) (za cs) (cs.getD (za cs).toNat yo).1 = _
 unfold Yo
 rw [c2, hl, zl.2 ⟨f1, by omega⟩]
 simp
theorem ycj {c : y8} (hc : c ∈ yn t) (hd : c.2.2.1 = 1) (hn : ZU c (YQ t i) = false) : Yo (jG (mCs cs i) i) c.2.2.2.1 c.2.2.2.2 = Yo cs c.2.2.2.1 c.2.2.2.2 := by
 obtain ⟨c1, c2, c3⟩ := y1R hp hi hu hf hfi
 obtain ⟨h1, h2, _⟩ := y4L hp hi hu hf hfi hc hd hn
 exact yb5 (y4K hp hi hu hf hfi) (c3 _ h1 h2)
theorem yck : yr (yB q t (y9r t cs i)).1 (yB q t (y9r t cs i)).2.1 l (jG (mCs cs i) i) vs z = true := by
 have hr := ke hp
 have h24 := ZT hr.cells
 have hok := y7V hp hi hu hf hfi
 obtain ⟨f1, f2, f3⟩ := JY hf
 obtain ⟨m1, m2, m3⟩ := y4J hp hi hu
 obtain ⟨c1, c2, c3⟩ := y1R hp hi hu hf hfi
 have hl := y4K hp hi hu hf hfi
 have hmem := fun x : y8 => yfr hp hi hu hf hfi (x := x)
 have hv : w6 vs l = true := by
  unfold yr at hp
  simp only [Bool.and_eq_true] at hp
  exact hp.2.2.2.2.2.1
 have hT := (QZ hok).2.2.1
 refine ylL hT hr.ages (ylM (yiR hp hi hu hf hfi) i) hr.next hr.late hv (yse (JX hT).srt (by have := y3r hT; omega) (by rw [hl]; omega) (fun c hc => ?_) (fun c hc hd => ?_) (fun c hc d hd h1 h2 he => ?_) fun j j0 j1 hj => ?_)
 ·rcases (hmem c).1 hc with rfl | ⟨hc, _⟩
  ·exact (show 0 ≤ zJ l (YQ t i).2.1 from yfk hr.fit m1)
  ·exact yfk hr.fit hc
 ·rcases (hmem c).1 hc with rfl | ⟨hc, hn⟩
  ·rw [yfs hp hi hu hf hfi]
  ·rw [ycj hp hi hu hf hfi hc hd hn]
   exact yfl hr.fit hc hd
 ·rcases (hmem c).1 hc with rfl | ⟨hc, hcn⟩
  ·rcases (hmem d).1 hd with rfl | ⟨hd, hdn⟩
   ·rfl
   ·exact absurd he.symm (y4L hp hi hu hf hfi hd h2 hdn).2.2
  ·rcases (hmem d).1 hd with rfl | ⟨hd, hdn⟩
   ·exact absurd he (y4L hp hi hu hf hfi hc h1 hcn).2.2
   ·exact y9k hr.fit hc hd h1 h2 he
 ·by_cases e1 : j.toNat = i.toNat
  ·rw [e1, c1] at hj
   cases hj
  ·by_cases e2 : j.toNat = (za cs).toNat
   ·exact ⟨y9r t cs i, (hmem _).2 (.inl rfl), m2, show za cs = j by omega⟩
   ·rw [c3 _ e1 e2] at hj
    obtain ⟨c, hc, h1, h2⟩ := yfn hr.fit (by have := y3r hr.tree; omega) (by omega) j0 (by omega) hj
    refine ⟨c, (hmem _).2 (.inr ⟨hc, ?_⟩), h1, h2⟩
    cases hs : ZU c (YQ t i) with
    | false => rfl
    | true =>
     have := yaV (JX hr.tree).srt hc m1 hs
     subst this
     omega
theorem yba : VA q t l cs vs z i = (((yB q t (y9r t cs i)).1, (yB q t (y9r t cs i)).2.1, l, jG (mCs cs i) i, vs, z), true) := by
 unfold VA
 rw [if_pos ⟨hp, hi.1, hi.2, hu, hf, hfi⟩, ylN hp hi hu hf hfi]
 unfold y9B
 rw [if_pos]
 simp only [Bool.and_eq_true]
 exact ⟨y7V hp hi hu hf hfi, yck hp hi hu hf hfi⟩
theorem ylO (b a : Int) : y9g (yn (yB q t (y9r t cs i)).2.1) l (jG (mCs cs i) i) b a = y9g (yn t) l cs b a := by
 have hr := ke hp
 obtain ⟨m1, m2, m3⟩ := y4J hp hi hu
 have hmem := fun x : y8 => yfr hp hi hu hf hfi (x := x)
 have hS := (JX hr.tree).srt
 have hS' := (JX (QZ (y7V hp hi hu hf hfi)).2.2.1).srt
 have hgen : (Yo cs (YQ t i).2.2.2.1 (YQ t i).2.2.2.2).1 = (cs.getD i.toNat yo).2.2 := by
  have h1 := yfl hr.fit m1 m2
  unfold Yo at h1 ⊢
  split
  ·rw [m3]
  ·rename_i hh
   rw [if_neg hh] at h1
   cases h1
 have hle : ∀ d : y8, (∀ c ∈ yn t, c.1 = b → c.2.1 ∈ wC l a → c.2.1 ≤ d.2.1) → ∀ c ∈ yn (yB q t (y9r t cs i)).2.1, c.1 = b → c.2.1 ∈ wC l a → c.2.1 ≤ d.2.1 := fun d hd c hc hb hpa => by
  rcases (hmem c).1 hc with rfl | ⟨hc, _⟩
  ·exact hd (YQ t i) m1 hb hpa
  ·exact hd _ hc hb hpa
 rcases ydq (yn t) b (wC l a) with ⟨h1, h2⟩ | ⟨d, hd, db, dp, h1, h2⟩
 ·rw [yci h2, yci fun c hc hb hpa => ?_]
  rcases (hmem c).1 hc with rfl | ⟨hc, _⟩
  ·exact h2 (YQ t i) m1 hb hpa
  ·exact h2 _ hc hb hpa
 ·cases hs : ZU d (YQ t i) with
  | false =>
   rw [y7U h1, y7U (y9n hS' ((hmem d).2 (.inr ⟨hd, hs⟩)) db dp (hle d h2))]
   by_cases hk : d.2.2.1 = 1
   ·rw [if_pos hk, if_pos hk, ycj hp hi hu hf hfi hd hk hs]
   ·rw [if_neg hk, if_neg hk]
  | true =>
   have := yaV hS hd m1 hs
   subst this
   rw [y7U h1, y7U (y9n hS' ((hmem (y9r t cs i)).2 (.inl rfl)) db dp (hle _ h2)), if_pos m2, if_pos (show (y9r t cs i).2.2.1 = 1 from m2), yfs hp hi hu hf hfi, hgen]
theorem yhD : vZ (jG (mCs cs i) i) = vZ cs := by
 have hr := ke hp
 have h24 := ZT hr.cells
 obtain ⟨f1, f2, f3⟩ := JY hf
 obtain ⟨c1, c2, c3⟩ := y1R hp hi hu hf hfi
 have hl := y4K hp hi hu hf hfi
 have hne := yfq hp hi hu hf hfi
 have mem1 : ∀ x, x ∈ Y6 cs 0 ↔ 0 ≤ x ∧ x < 24 ∧ (cs.getD x.toNat yo).2.1 = true := fun x => by
  constructor
  ·intro hx
   obtain ⟨g1, g2, g3⟩ := qe cs 0 x hx
   rw [show x - 0 = x by omega] at g3
   exact ⟨g1, by omega, g3⟩
  ·rintro ⟨g1, g2, g3⟩
   have := kT cs 0 x.toNat (by omega) g3
   rwa [show (0 : Int) + (x.toNat : Int) = x by omega] at this
 have mem2 : ∀ x, x ∈ Y6 (jG (mCs cs i) i) 0 ↔ 0 ≤ x ∧ x < 24 ∧ ((jG (mCs cs i) i).getD x.toNat yo).2.1 = true := fun x => by
  constructor
  ·intro hx
   obtain ⟨g1, g2, g3⟩ := qe _ 0 x hx
   rw [show x - 0 = x by omega] at g3
   exact ⟨g1, by omega, g3⟩
  ·rintro ⟨g1, g2, g3⟩
   have := kT (jG (mCs cs i) i) 0 x.toNat (by omega) g3
   rwa [show (0 : Int) + (x.toNat : Int) = x by omega] at this
 have e : (Y6 (jG (mCs cs i) i) 0).length = (Y6 cs 0).length := by
  refine Nat.le_antisymm ?_ ?_
  ·have := vW (i :: Y6 (jG (mCs cs i) i) 0) (za cs :: Y6 cs 0) (List.nodup_cons.2 ⟨fun hm => ?_, k9 _ _⟩) fun x hx => ?_
   ·simpa using this
   ·have := ((mem2 i).1 hm).2.2
    rw [c1] at this
    cases this
   ·rcases List.mem_cons.1 hx with rfl | hx
    ·exact List.mem_cons_of_mem _ ((mem1 _).2 ⟨hi.1, by omega, hu⟩)
    ·obtain ⟨g1, g2, g3⟩ := (mem2 x).1 hx
     by_cases e1 : x = za cs
     ·exact List.mem_cons.2 (.inl e1)
     ·by_cases e2 : x = i
      ·rw [e2, c1] at g3
       cases g3
      ·rw [c3 _ (by omega) (by omega)] at g3
       exact List.mem_cons_of_mem _ ((mem1 _).2 ⟨g1, g2, g3⟩)
  ·have := vW (za cs :: Y6 cs 0) (i :: Y6 (jG (mCs cs i) i) 0) (List.nodup_cons.2 ⟨fun hm => ?_, k9 _ _⟩) fun x hx => ?_
   ·simpa using this
   ·have := ((mem1 _).1 hm).2.2
    rw [f3] at this
    cases this
   ·rcases List.mem_cons.1 hx with rfl | hx
    ·exact List.mem_cons_of_mem _ ((mem2 _).2 ⟨f1, by omega, by rw [c2]⟩)
    ·obtain ⟨g1, g2, g3⟩ := (mem1 x).1 hx
     by_cases e1 : x = i
     ·exact List.mem_cons.2 (.inl e1)
     ·by_cases e2 : x = za cs
      ·rw [e2, f3] at g3
       cases g3
      ·refine List.mem_cons_of_mem _ ((mem2 _).2 ⟨g1, g2, ?_⟩)
       rw [c3 _ (by omega) (by omega)]
       exact g3
 unfold vZ
 rw [qH cs 0 0 (Int.le_refl _) (by omega), qH _ 0 0 (Int.le_refl _) (by omega), e]
end
structure Kept (p p' : PO) : Prop where
 ok : y0t p' = true
 l : p'.2.2.1 = p.2.2.1
 vs : p'.2.2.2.2.1 = p.2.2.2.2.1
 val : ∀ b a, y9g (yn p'.2.1) p.2.2.1 p'.2.2.2.1 b a = y9g (yn p.2.1) p.2.2.1 p.2.2.2.1 b a
 used : vZ p'.2.2.2.1 = vZ p.2.2.2.1
theorem Kept.refl {p : PO} (h : y0t p = true) : Kept p p := ⟨h, rfl, rfl, fun _ _ => rfl, rfl⟩
theorem Kept.trans {p p' p2 : PO} (h : Kept p p') (h2 : Kept p' p2) : Kept p p2 :=
 ⟨h2.ok, h2.l.trans h.l, h2.vs.trans h.vs, fun b a => by
  have := h2.val b a
  rw [h.l] at this
  exact this.trans (h.val b a), h2.used.trans h.used⟩
theorem y4M {p : PO} (hp : y0t p = true) (i : Int) : Kept p (VA p.1 p.2.1 p.2.2.1 p.2.2.2.1 p.2.2.2.2.1 p.2.2.2.2.2 i).1 ∧ ((VA p.1 p.2.1 p.2.2.1 p.2.2.2.1 p.2.2.2.2.1 p.2.2.2.2.2 i).2 = false → (VA p.1 p.2.1 p.2.2.1 p.2.2.2.1 p.2.2.2.2.1 p.2.2.2.2.2 i).1 = p) := by
 by_cases h : 0 ≤ i ∧ i ≤ 23 ∧ (p.2.2.2.1.getD i.toNat yo).2.1 = true ∧ ¬ za p.2.2.2.1 < 0 ∧ za p.2.2.2.1 ≤ i
 ·have hp' : yr p.1 p.2.1 p.2.2.1 p.2.2.2.1 p.2.2.2.2.1 p.2.2.2.2.2 = true := hp
  rw [yba hp' ⟨h.1, h.2.1⟩ h.2.2.1 h.2.2.2.1 h.2.2.2.2]
  refine ⟨⟨yck hp' ⟨h.1, h.2.1⟩ h.2.2.1 h.2.2.2.1 h.2.2.2.2, rfl, rfl, ylO hp' ⟨h.1, h.2.1⟩ h.2.2.1 h.2.2.2.1 h.2.2.2.2, yhD hp' ⟨h.1, h.2.1⟩ h.2.2.1 h.2.2.2.1 h.2.2.2.2⟩, fun e => by cases e⟩
 ·rw [kU _ _ _ _ _ _ fun hh => h hh.2]
  exact ⟨Kept.refl hp, fun _ => rfl⟩
theorem y9s : ∀ (m : Nat) (p : PO), y0t p = true → Kept p (ycd m p)
 | 0, p, h => Kept.refl h
 | m + 1, p, h => by
  rw [ycd]
  split
  ·have h1 := (y4M h (w8 p.2.2.2.1 p.2.2.2.1.length)).1
   exact h1.trans (y9s m _ h1.ok)
  ·exact Kept.refl h
theorem ycl : ∀ (m : Nat) (p : PO), y0t p = true → w8 p.2.2.2.1 p.2.2.2.1.length < (m : Int) → (mvP (ycd m p)).2 = false
 | 0, p, h, hm => by
  rw [ycd]
  unfold mvP
  rw [kU _ _ _ _ _ _ fun hh => by have := hh.2.1; omega]
 | m + 1, p, h, hm => by
  rw [ycd]
  split
  ·rename_i hy
   have hp' : yr p.1 p.2.1 p.2.2.1 p.2.2.2.1 p.2.2.2.2.1 p.2.2.2.2.2 = true := h
   have h24 := ZT (ke hp').cells
   have hc : 0 ≤ w8 p.2.2.2.1 p.2.2.2.1.length ∧ w8 p.2.2.2.1 p.2.2.2.1.length ≤ 23 ∧ (p.2.2.2.1.getD (w8 p.2.2.2.1 p.2.2.2.1.length).toNat yo).2.1 = true ∧ ¬ za p.2.2.2.1 < 0 ∧ za p.2.2.2.1 ≤ w8 p.2.2.2.1 p.2.2.2.1.length := Decidable.byContradiction fun hn => by
    unfold mvP at hy
    rw [kU _ _ _ _ _ _ fun hh => hn hh.2] at hy
    cases hy
   have e := yba hp' ⟨hc.1, hc.2.1⟩ hc.2.2.1 hc.2.2.2.1 hc.2.2.2.2
   have hl := y4K hp' ⟨hc.1, hc.2.1⟩ hc.2.2.1 hc.2.2.2.1 hc.2.2.2.2
   obtain ⟨c1, c2, c3⟩ := y1R hp' ⟨hc.1, hc.2.1⟩ hc.2.2.1 hc.2.2.2.1 hc.2.2.2.2
   have hne := yfq hp' ⟨hc.1, hc.2.1⟩ hc.2.2.1 hc.2.2.2.1 hc.2.2.2.2
   have hk := (y4M h (w8 p.2.2.2.1 p.2.2.2.1.length)).1
   refine ycl m _ hk.ok ?_
   show w8 (VA p.1 p.2.1 p.2.2.1 p.2.2.2.1 p.2.2.2.2.1 p.2.2.2.2.2 (w8 p.2.2.2.1 p.2.2.2.1.length)).1.2.2.2.1 _ < _
   rw [show (mvP p).1 = _ from congrArg Prod.fst e]
   rw [congrArg Prod.fst e]
   show w8 (jG (mCs p.2.2.2.1 (w8 p.2.2.2.1 p.2.2.2.1.length)) (w8 p.2.2.2.1 p.2.2.2.1.length)) (jG (mCs p.2.2.2.1 (w8 p.2.2.2.1 p.2.2.2.1.length)) (w8 p.2.2.2.1 p.2.2.2.1.length)).length < (m : Int)
   rw [hl]
   have hlast := (qf p.2.2.2.1 p.2.2.2.1.length).2
   generalize w8 p.2.2.2.1 p.2.2.2.1.length = L at *
   rcases (qf (jG (mCs p.2.2.2.1 L) L) p.2.2.2.1.length).1 with h1 | ⟨h1, h2, h3⟩
   ·omega
   ·generalize w8 (jG (mCs p.2.2.2.1 L) L) p.2.2.2.1.length = L' at *
    by_cases e1 : L'.toNat = L.toNat
    ·rw [e1, c1] at h3
     cases h3
    ·by_cases e2 : L'.toNat = (za p.2.2.2.1).toNat
     ·omega
     ·rw [c3 _ e1 e2] at h3
      by_cases e3 : L' < L
      ·omega
      ·rw [hlast L'.toNat (by omega) (by omega)] at h3
       cases h3
  ·rename_i hy
   simpa using hy
theorem y12 : ∀ (cs : List y7) (i : Int) (n : Nat), n ≤ cs.length → (∀ j : Nat, j < cs.length → ((cs.getD j yo).2.1 = true ↔ j < n)) → (Y6 cs i).length = n
 | [], i, n, hn, _ => by simp at hn; simp [Y6, hn]
 | c :: cs, i, n, hn, h => by
  have h0 := h 0 (by simp)
  rw [List.getD_cons_zero] at h0
  have hr := fun j (hj : j < cs.length) => h (j + 1) (by simpa using hj)
  rw [Y6]
  cases n with
  | zero =>
   rw [if_neg (fun e => by have := h0.1 e; omega)]
   exact y12 cs (i + 1) 0 (by omega) fun j hj => by
    have := hr j hj
    rw [List.getD_cons_succ] at this
    rw [this]
    omega
  | succ n =>
   rw [if_pos (h0.2 (by omega)), List.length_cons]
   rw [y12 cs (i + 1) n (by simpa using hn) fun j hj => by
    have := hr j hj
    rw [List.getD_cons_succ] at this
    rw [this]
    omega]
theorem yft {p : PO} (h : y0t p = true) (he : (mvP p).2 = false) : ∀ j : Nat, j < 24 → ((p.2.2.2.1.getD j yo).2.1 = true ↔ (j : Int) < vZ p.2.2.2.1) := by
 have hp' : yr p.1 p.2.1 p.2.2.1 p.2.2.2.1 p.2.2.2.2.1 p.2.2.2.2.2 = true := h
 have h24 := ZT (ke hp').cells
 obtain ⟨h1, h2⟩ := qf p.2.2.2.1 p.2.2.2.1.length
 have hno : ¬ (0 ≤ w8 p.2.2.2.1 p.2.2.2.1.length ∧ ¬ za p.2.2.2.1 < 0 ∧ za p.2.2.2.1 ≤ w8 p.2.2.2.1 p.2.2.2.1.length) := fun hh => by
  have hu := h1.resolve_left (by omega)
  have e := yba hp' ⟨hh.1, by omega⟩ hu.2.2 hh.2.1 hh.2.2
  unfold mvP at he
  rw [e] at he
  cases he
 have hff := @ydt p.2.2.2.1
 have hfr := @JY p.2.2.2.1
 generalize p.2.2.2.1 = cs at *
 have hpre : ∃ n : Nat, n ≤ cs.length ∧ ∀ j : Nat, j < cs.length → ((cs.getD j yo).2.1 = true ↔ j < n) := by
  by_cases hf : za cs < 0
  ·exact ⟨cs.length, Nat.le_refl _, fun j hj => ⟨fun _ => hj, fun _ => hff hj (.inl hf)⟩⟩
  ·obtain ⟨f1, f2, f3⟩ := hfr hf
   refine ⟨(za cs).toNat, by omega, fun j hj => ⟨fun hu => ?_, fun hlt => hff hj (.inr (by omega))⟩⟩
   refine Decidable.byContradiction fun hge => ?_
   rw [h2 j hj (by omega)] at hu
   cases hu
 obtain ⟨n, hn, hpre⟩ := hpre
 have hc := y12 cs 0 n hn hpre
 have hk : vZ cs = n := by
  unfold vZ
  rw [qH cs 0 0 (Int.le_refl _) (by omega), hc]
  omega
 intro j hj
 rw [hk, hpre j (by omega)]
 omega
end Go.Proofs.YtjllpipmaejeoaaGreat.Pl
namespace Go.Proofs.YtjllpipmaejeoaaGreat.Pl
open Go.Proofs.YtjllpipmaejeoaaGreat.R Go.Proofs.YtjllpipmaejeoaaGreat.XU
def yfu (K : List y8) (l : List ya) (cs : List y7) (v : ye) : List yb := (List.range v.2.2.1.toNat).map fun b : Nat => y9g K l cs b v.2.1
def y13 (K : List y8) (l : List ya) (cs : List y7) (vs : List ye) : List km := vs.map fun v : ye => (v.1, v.2.2.2, yfu K l cs v)
theorem yfv {K K' : List y8} {l l' : List ya} {cs cs' : List y7} {v : ye} (h : ∀ b, 0 ≤ b → b < v.2.2.1 → y9g K' l' cs' b v.2.1 = y9g K l cs b v.2.1) : yfu K' l' cs' v = yfu K l cs v := by
 unfold yfu
 refine List.map_congr_left fun b hb => ?_
 have := List.mem_range.1 hb
 exact h b (by omega) (by omega)
theorem y9t {K K' : List y8} {l l' : List ya} {cs cs' : List y7} {vs : List ye} (h : ∀ v ∈ vs, ∀ b, 0 ≤ b → b < v.2.2.1 → y9g K' l' cs' b v.2.1 = y9g K l cs b v.2.1) : y13 K' l' cs' vs = y13 K l cs vs := by
 unfold y13
 refine List.map_congr_left fun v hv => ?_
 rw [yfv (h v hv)]
section
variable {q : List yb} {t : List y0} {l : List ya} {cs : List y7} {vs : List ye} (z : Int) (h : SP q t l cs vs)
include h
theorem ydu {R : Type} (k n : Int) (k0 : 0 ≤ k) (k1 : k < (vs.length : Int)) (hr : 1 ≤ (yj vs k).2.2.1 ∧ (yj vs k).2.2.1 ≤ 12) (out : List km) (v1 w1 : ByteArray) (v2 v3 : Int) (v4 w4 : Bool) (hv3 : v3 = (yj vs k).2.2.1) (c0 : _ → Option R) (c1 : _ → Option R) :
  vP c0 c1 (Sum.inl (k, 0, vs, n, k, q, t, l, cs, vs, z, v1, v2, v3, v4, w1, w4, out)) = c1 (vs, n, k, q, t, l, cs, vs, z, w1, w4, out, yfu (yn t) l cs (yj vs k)) := by
 subst hv3
 unfold vP
 have hblk : ∀ b : Int, 0 ≤ b → b < (yj vs k).2.2.1 → Zo (q, t, l, cs, vs, z, k, b) = some (y9g (yn t) l cs b (yj vs k).2.1) := fun b b0 b1 => y2Y z h k b k0 k1 hr (zl.2 ⟨b0, by rw [w64 (n := (yj vs k).2.2.1 - 1) (by omega) (by omega)]; omega⟩)
 refine Js (step := Jr c0 c1) (fun u : WS => match u with | .inl _ => 20 | .inr u => (13 - u.2.1).toNat) (fun u => u = Sum.inl (k, 0, vs, n, k, q, t, l, cs, vs, z, v1, v2, (yj vs k).2.2.1, v4, w1, w4, out) ∨ ∃ b : Nat, u = Sum.inr (k, (b : Int), vs, n, k, q, t, l, cs, vs, z, v1, v2, (yj vs k).2.2.1, v4, w1, w4, out, (List.range b).map fun b : Nat => y9g (yn t) l cs b (yj vs k).2.1) ∧ 1 ≤ b ∧ (b : Int) ≤ (yj vs k).2.2.1) (fun _ res => res = c1 (vs, n, k, q, t, l, cs, vs, z, w1, w4, out, yfu (yn t) l cs (yj vs k))) ?_ _ (.inl rfl) (by simp only; omega)
 rintro again _ (rfl | ⟨b, rfl, b1, b2⟩) hag
 ·unfold Jr
  simp only [decide_eq_true (show (0 : Int) < (yj vs k).2.2.1 by omega), cond_true, Option.bind_some, hblk 0 (Int.le_refl _) (by omega), show decide ((0 : Int) < 12) = true from rfl]
  rw [if_pos (by simp only [List.length_cons, List.length_nil]; decide)]
  exact hag _ (.inr ⟨1, rfl, Nat.le_refl _, hr.1⟩) (by simp only; decide)
 ·unfold Jr
  by_cases hb : (b : Int) < (yj vs k).2.2.1
  ·have hw : Go.IntKind.wrap .i64 ((b : Int) + 1) = (b : Int) + 1 := w64 (by omega) (by omega)
   simp only [decide_eq_true hb, cond_true, Option.bind_some, hblk b (by omega) hb, decide_eq_true (show (b : Int) < 12 by omega), hw]
   rw [if_pos (by simp only [List.length_map, List.length_range, List.length_cons, List.length_nil]; omega)]
   refine hag _ (.inr ⟨b + 1, ?_, by omega, by omega⟩) (by simp only; omega)
   rw [List.range_succ, List.map_append]
   simp
  ·simp only [decide_eq_false hb, cond_false, Option.bind_some]
   have : b = (yj vs k).2.2.1.toNat := by omega
   unfold yfu
   rw [this]
theorem y5d (hr : ∀ k, 0 ≤ k → k < (vs.length : Int) → 1 ≤ (yj vs k).2.2.1 ∧ (yj vs k).2.2.1 ≤ 12) : YA (q, t, l, cs, vs, z) = some (y13 (yn t) l cs vs) := by
 have hv := h.S.2.2.2.2.2
 unfold YA QL
 refine Js (step := WU _) (fun u : WT => vs.length + 1 - u.2.2.1.toNat) (fun u => ∃ k : Nat, u = (vs, (vs.length : Int), (k : Int), q, t, l, cs, vs, z, (vs.take k).map fun v : ye => (v.1, v.2.2.2, yfu (yn t) l cs v)) ∧ k ≤ vs.length) (fun _ res => res = some (y13 (yn t) l cs vs)) ?_ _ ⟨0, by simp, Nat.zero_le _⟩ (by simp only; omega)
 rintro again _ ⟨k, rfl, k1⟩ hag
 unfold WU
 by_cases hk : (k : Int) < (vs.length : Int)
 ·have hw : Go.IntKind.wrap .i64 ((k : Int) + 1) = (k : Int) + 1 := w64 (by omega) (by omega)
  simp only [decide_eq_true hk, cond_true]
  rw [if_pos (by omega), if_pos hk, ydu z h (k : Int) _ (by omega) hk (hr k (by omega) hk) _ _ _ _ _ _ _ rfl]
  simp only [hw]
  rw [if_pos (by simp only [List.length_map, List.length_take, List.length_cons, List.length_nil]; omega)]
  refine hag _ ⟨k + 1, ?_, by omega⟩ (by simp only; omega)
  rw [List.take_succ_eq_append_getElem (by omega), List.map_append, ← zd Yu vs k (by omega)]
  rfl
 ·simp only [decide_eq_false hk, cond_false]
  unfold y13
  rw [List.take_of_length_le (by omega)]
theorem y7W (hp : yr q t l cs vs z = true) : YA (q, t, l, cs, vs, z) = some (y13 (yn t) l cs vs) :=
 y5d z h fun k k0 k1 => by
  have := (ke hp).size k.toNat (by omega)
  rwa [← ysa, show ((k.toNat : Nat) : Int) = k by omega] at this
end
theorem y2o (a : List Int) (ha : a.length ≤ 1048576) : Zd (a, a) = some true := by
 unfold Zd KL
 simp only [bne_self_eq_false, cond_false]
 refine Js (step := Zt _ _) (fun u : Zs => a.length + 1 - u.2.2.2.toNat) (fun u => ∃ k : Nat, u = (a, a, (a.length : Int), (k : Int)) ∧ k ≤ a.length) (fun _ res => res = some true) ?_ _ ⟨0, rfl, Nat.zero_le _⟩ (by simp only; omega)
 rintro again _ ⟨k, rfl, k1⟩ hag
 unfold Zt
 by_cases hk : (k : Int) < (a.length : Int)
 ·have hw : Go.IntKind.wrap .i64 ((k : Int) + 1) = (k : Int) + 1 := w64 (by omega) (by omega)
  simp only [decide_eq_true hk, cond_true, bne_self_eq_false, cond_false, hw]
  rw [if_pos (by omega), if_pos hk, if_pos (by omega), if_pos hk]
  exact hag _ ⟨k + 1, rfl, by omega⟩ (by simp only; omega)
 ·simp only [decide_eq_false hk, cond_false]
theorem y9u (n : ByteArray) (f : Bool) (a : List Int) (ha : a.length ≤ 1048576) : wA (n, f, a, n, f, a) = some true := by
 unfold wA
 simp only [beq_self_eq_true, cond_true, Option.bind_some, y2o a ha]
theorem y7X (m : List km) (hm : m.length ≤ 1048576) (hl : ∀ x ∈ m, List.length x.2.2 ≤ 1048576) : Yl (m, m) = some true := by
 unfold Yl zq Yx
 simp only [bne_self_eq_false, cond_false]
 have key : zL (@yX Bool (fun x2 => some x2) (fun x3 => some true)) Y4 (m, m, (m.length : Int), (0 : Int)) = some true := by
  refine Js (step := yX _ _) (fun u : zj => m.length + 1 - u.2.2.2.toNat) (fun u => ∃ k : Nat, u = (m, m, (m.length : Int), (k : Int)) ∧ k ≤ m.length) (fun _ res => res = some true) ?_ _ ⟨0, rfl, Nat.zero_le _⟩ (by simp only; omega)
  rintro again _ ⟨k, rfl, k1⟩ hag
  unfold yX
  by_cases hk : (k : Int) < (m.length : Int)
  ·have hw : Go.IntKind.wrap .i64 ((k : Int) + 1) = (k : Int) + 1 := w64 (by omega) (by omega)
   have hx : List.length (y3V m (k : Int)).2.2 ≤ 1048576 := hl _ (ze ysW m k (by omega) hk)
   simp only [decide_eq_true hk, cond_true, hw]
   rw [if_pos (by omega), if_pos hk, if_pos (by omega), if_pos hk, y9u _ _ _ hx]
   exact hag _ ⟨k + 1, rfl, by omega⟩ (by simp only; omega)
  ·simp only [decide_eq_false hk, cond_false]
 rw [key]
 rfl
theorem yhE (K : List y8) (l : List ya) (cs : List y7) (v : ye) : (yfu K l cs v).length = v.2.2.1.toNat := by
 unfold yfu
 rw [List.length_map, List.length_range]
theorem y7Y {q : List yb} {t : List y0} {l : List ya} {cs : List y7} {vs : List ye} {z : Int} (hp : yr q t l cs vs z = true) : Yl (y13 (yn t) l cs vs, y13 (yn t) l cs vs) = some true := by
 have hr := ke hp
 have hf := hr.few
 refine y7X _ (by unfold y13; rw [List.length_map]; omega) fun x hx => ?_
 unfold y13 at hx
 obtain ⟨v, hv, rfl⟩ := List.mem_map.1 hx
 obtain ⟨i, hi, rfl⟩ := List.mem_iff_getElem.1 hv
 have := hr.size i hi
 rw [zd _ _ _ hi] at this
 show (yfu (yn t) l cs vs[i]).length ≤ _
 rw [yhE]
 omega
end Go.Proofs.YtjllpipmaejeoaaGreat.Pl
namespace Go.Proofs.YtjllpipmaejeoaaGreat.Pl
open Go.Proofs.YtjllpipmaejeoaaGreat.R Go.Proofs.YtjllpipmaejeoaaGreat.XU
theorem yfw {R : Type} (x : List y2D) (ok is : Bool) (n : Int) (B : List yb × List y0 × List ya × List y7 × List ye × Int × Int × List yb × List y0 × Int × List yb × List y0 × List ya × List y7 × List ye × Int × List km × List yb × List y0 × List ya × List y7 × List ye × List ya × List y7 × List ye) (hl : B.2.2.2.2.2.2.2.2.2.2.2.2.2.1.length = 24) (hc : ∀ j : Nat, j < 24 → ((B.2.2.2.2.2.2.2.2.2.2.2.2.2.1.getD j yo).2.1 = true ↔ (j : Int) < n)) (c0 : _ → Option R) (c1 : _ → Option R) :
  WV c0 c1 (x, ok, is, n, 0, B) = c1 (x, ok, is, n, B) := by
 unfold WV
 refine Js (step := jL c0 c1) (fun u : jK => (25 - u.2.2.2.2.1).toNat) (fun u => ∃ j : Nat, u = (x, ok, is, n, (j : Int), B) ∧ j ≤ 24) (fun _ res => res = c1 (x, ok, is, n, B)) ?_ _ ⟨0, rfl, Nat.zero_le _⟩ (by simp only; omega)
 rintro again _ ⟨j, rfl, j1⟩ hag
 unfold jL
 have hl' : (List.length B.2.2.2.2.2.2.2.2.2.2.2.2.2.1 : Int) = 24 := by omega
 simp only [hl']
 by_cases hj : (j : Int) < 24
 ·have hw : Go.IntKind.wrap .i64 ((j : Int) + 1) = (j : Int) + 1 := w64 (by omega) (by omega)
  have he : (ym B.2.2.2.2.2.2.2.2.2.2.2.2.2.1 (j : Int)).2.1 = decide ((j : Int) < n) := by
   show (B.2.2.2.2.2.2.2.2.2.2.2.2.2.1.getD ((j : Int)).toNat yo).2.1 = _
   rw [Int.toNat_natCast]
   have := hc j (by omega)
   by_cases hn : (j : Int) < n
   ·rw [this.2 hn, decide_eq_true hn]
   ·rw [decide_eq_false hn]
    cases hu : (B.2.2.2.2.2.2.2.2.2.2.2.2.2.1.getD j yo).2.1 with
    | false => rfl
    | true => exact absurd (this.1 hu) hn
  rw [decide_eq_true hj, cond_true, if_pos (by omega), if_pos hj, he, beq_self_eq_true, Bool.not_true, cond_false, hw]
  exact hag (x, ok, is, n, ((j + 1 : Nat) : Int), B) ⟨j + 1, rfl, by omega⟩ (by simp only; omega)
 ·rw [decide_eq_false hj, cond_false]
theorem ydv {q : List yb} {t : List y0} {l : List ya} {cs : List y7} {vs : List ye} (z : Int) (h : SP q t l cs vs) : zZ (q, t, l, cs, vs, z, q, t, l, cs, vs, z) = some true := by
 rw [y36 z h.S, y5b]
theorem ydw {q : List yb} {t : List y0} {l : List ya} {cs : List y7} {vs : List ye} {z : Int} (hp : yr q t l cs vs z = true) (i : Int) (i0 : 0 ≤ i) : ∃ q' t', yfh q t l cs vs z i = ((q', t', l, cs, vs, z), decide (i < (t.length : Int))) ∧ yr q' t' l cs vs z = true ∧ yn t' = yn t := by
 by_cases hi : i < (t.length : Int)
 ·refine ⟨(y4v q t i).1, (y4v q t i).2, ?_, y9i hp i i0 hi, y4C t i.toNat (by omega)⟩
  rw [y3q _ _ _ _ _ _ ⟨hp, i0, by omega⟩, decide_eq_true hi]
 ·refine ⟨q, t, ?_, hp, rfl⟩
  rw [y2m _ _ _ _ _ _ fun hh => by omega, decide_eq_false hi]
theorem law_Tidies (x : List Int) (hbx : isBytes x) : YL x = some true := by
 unfold YL y0d
 simp only [Option.bind_some]
 cases hbig : decide ((List.length x : Int) > (1048576 : Int)) with
 | true => rfl
 | false =>
  have hx : x.length ≤ 1048576 := by
   have := of_decide_eq_false hbig
   omega
  obtain ⟨q, t, l, cs, vs, z, o, e, hp⟩ := y5c x hx
  have h := (y00 hp).sp
  obtain ⟨r3, e3, a3, _⟩ := yiP x 2 hbx hx (by omega) (by omega)
  obtain ⟨r5, e5, a5, _⟩ := yiP x 3 hbx hx (by omega) (by omega)
  have hi : 0 ≤ Int.tmod r3 3 := by
   rw [Int.tmod_eq_emod_of_nonneg a3]
   omega
  obtain ⟨qx, tx, ex, hpx, hkx⟩ := ydw hp (Int.tmod r3 3) hi
  have hB : y0t (q, t, l, cs, vs, z) = true := hp
  have hmv := y4M hB (Int.tmod r5 24)
  have hall := y9s 24 _ hB
  have hend := yft hall.ok (ycl 24 _ hB (by
   have h24 := ZT (ke hp).cells
   rcases (qf cs cs.length).1 with h1 | ⟨h1, h2, h3⟩
   ·show w8 cs cs.length < _
    omega
   ·show w8 cs cs.length < _
    omega))
  simp only [e, e3, e5, Option.bind_some, cond_false, y30 z h, y05 z h, y4z (q, t, l, cs, vs, z) h, ex, y59]
  simp only at hmv
  generalize VA q t l cs vs z (Int.tmod r5 24) = y at *
  generalize ycd 24 (q, t, l, cs, vs, z) = w at *
  obtain ⟨⟨qy, ty, ly, csy, vsy, zy⟩, by_⟩ := y
  obtain ⟨qw, tw, lw, csw, vsw, zw⟩ := w
  obtain ⟨hy, hyn⟩ := hmv
  have ly1 : ly = l := hy.l
  have vy1 : vsy = vs := hy.vs
  have lw1 : lw = l := hall.l
  have vw1 : vsw = vs := hall.vs
  subst ly1 vy1 lw1 vw1
  have hpy : yr qy ty lw csy vsw zy = true := hy.ok
  have hpw : yr qw tw lw csw vsw zw = true := hall.ok
  have hsy := (y00 hpy).sp
  have hsw := (y00 hpw).sp
  have hsx := (y00 hpx).sp
  have my : y13 (yn ty) lw csy vsw = y13 (yn t) lw cs vsw := y9t fun v _ b _ _ => hy.val b v.2.1
  have mw : y13 (yn tw) lw csw vsw = y13 (yn t) lw cs vsw := y9t fun v _ b _ _ => hall.val b v.2.1
  have hu : vZ csw = vZ cs := hall.used
  have hend' : ∀ j : Nat, j < 24 → ((csw.getD j yo).2.1 = true ↔ (j : Int) < vZ csw) := hend
  simp only [y7W z h hp, QQ csw (by rw [ZT (ke hpw).cells]; decide), Option.bind_some]
  rw [yfw x _ _ _ _ (ZT (ke hpw).cells) hend']
  simp only [jC z hsx, jC zy hsy, jC zw hsw, hpx, hpy, hpw, y7W z hsx hpx, y7W zy hsy hpy, y7W zw hsw hpw, Option.bind_some, cond_true, hkx, my, mw, y7Y hp, e3, beq_self_eq_true, QQ cs (by rw [ZT (ke hp).cells]; decide), hu]
  cases by_ with
  | true => rfl
  | false =>
   have e1 := hyn rfl
   injection e1 with e1 e2
   injection e2 with e2 e4
   injection e4 with _ e4
   injection e4 with e4 e6
   injection e6 with _ e6
   subst e1 e2 e4 e6
   simp only [cond_false, ydv _ h, Option.bind_some]
end Go.Proofs.YtjllpipmaejeoaaGreat.Pl
