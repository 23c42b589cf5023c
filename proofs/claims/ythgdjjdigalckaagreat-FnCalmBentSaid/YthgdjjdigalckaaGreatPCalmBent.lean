/- Draw, Crc, ReadW, Four, Crc1, Draw2, Put4, Txt, PutPool, Ops, Apply, Apply2, Apply3, EntDraw, DrawP, DrawQ, Same, CalmBent. No condition. -/
import Derived.Test.YthgdjjdigalckaaGreatPStepsC
set_option linter.all false
namespace Go.Proofs.YthgdjjdigalckaaGreat.Pl
open Go.Proofs.YthgdjjdigalckaaGreat.R Go.Proofs.YthgdjjdigalckaaGreat.XC
def Yg (c : List Int) (p : Int) : Prop := c.length ≤ 1099511627776 ∧ 0 ≤ p ∧ p ≤ c.length
def J0 {A : Type} (o : Option (A × List Int × Int × Int)) (c : List Int) (Q : A → Prop) : Prop := ∃ v p s, o = some (v, c, p, s) ∧ Yg c p ∧ Q v
theorem ybx (c : List Int) (p s : Int) (h : Yg c p) : J0 (Z7 (c, p, s)) c (fun v => 0 ≤ v ∧ v < 256) := by
 obtain ⟨h1, h2, h3⟩ := h
 unfold Z7
 simp only [Bool.cond_eq_ite, decide_eq_true_eq, yuK]
 by_cases hp : p < (c.length : Int)
 ·rw [if_pos hp, if_pos h2, if_pos hp]
  refine ⟨_, _, _, rfl, ⟨h1, ?_, ?_⟩, by omega⟩
  ·rw [w64 (by omega) (by omega)]
   omega
  ·rw [w64 (by omega) (by omega)]
   omega
 ·rw [if_neg hp]
  exact ⟨_, _, _, rfl, ⟨h1, h2, h3⟩, by omega⟩
theorem z9 (c : List Int) (p s n : Int) (h : Yg c p) : J0 (yc (c, p, s, n)) c (fun v => 0 ≤ v ∧ (0 < n → v < n)) := by
 unfold yc
 simp only [Bool.cond_eq_ite, decide_eq_true_eq]
 by_cases hn : n ≤ 0
 ·rw [if_pos hn]
  exact ⟨_, _, _, rfl, h, Int.le_refl _, fun hh => by omega⟩
 ·rw [if_neg hn]
  obtain ⟨v1, p1, s1, e1, h1, q1⟩ := ybx c p s h
  obtain ⟨v2, p2, s2, e2, h2, q2⟩ := ybx c p1 s1 h1
  obtain ⟨v3, p3, s3, e3, h3, q3⟩ := ybx c p2 s2 h2
  rw [e1]
  simp only [Option.bind_some]
  have mod : ∀ v : Int, 0 ≤ v → 0 ≤ Int.tmod v n ∧ (0 < n → Int.tmod v n < n) := fun v hv => by
   rw [Int.tmod_eq_emod_of_nonneg hv]
   exact ⟨Int.emod_nonneg _ (by omega), fun hh => Int.emod_lt_of_pos _ hh⟩
  by_cases h6 : n ≤ 256
  ·rw [if_pos h6, if_neg (by omega)]
   exact ⟨_, _, _, rfl, h1, mod _ q1.1⟩
  ·rw [if_neg h6, e2]
   simp only [Option.bind_some]
   rw [e3]
   simp only [Option.bind_some]
   rw [if_neg (by omega)]
   rw [w64 (n := v1 * 65536) (by omega) (by omega), w64 (n := v2 * 256) (by omega) (by omega), w64 (n := v1 * 65536 + v2 * 256) (by omega) (by omega), w64 (n := v1 * 65536 + v2 * 256 + v3) (by omega) (by omega)]
   exact ⟨_, _, _, rfl, h3, mod _ (by omega)⟩
theorem W7 (c : List Int) (p s : Int) (L : List Int) (hL : 0 < L.length) (hL2 : L.length ≤ 1048576) (h : Yg c p) : J0 (yr (c, p, s, L)) c (fun v => v ∈ L) := by
 obtain ⟨v, p1, s1, e1, h1, q1⟩ := z9 c p s (L.length : Int) h
 have := q1.2 (by omega)
 unfold yr
 rw [e1]
 simp only [Option.bind_some]
 rw [if_pos q1.1, if_pos this]
 exact ⟨_, _, _, rfl, h1, zg y5j L v q1.1 this⟩
theorem yfm (c : List Int) (hc : c.length ≤ 1099511627776) : ∃ s, wW c = some (c, 0, s) := by
 have key := Zm (step := Kg (fun x2 : List Int × Int => some (x2.1, (0 : Int), x2.2))) (fun t : List Int × Int × Int => c.length - t.2.2.toNat) (fun t => t.1 = c ∧ 0 ≤ t.2.2 ∧ t.2.2 ≤ c.length) (fun _ res => ∃ s, res = some (c, 0, s)) ?_ (c, (Go.IntKind.wrap .i64 ((941941 : Int) + ((List.length c : Nat) : Int))), (0 : Int)) ⟨rfl, Int.le_refl _, by simp⟩ (by simp; omega)
 ·exact key
 ·rintro again ⟨c', s, i⟩ ⟨rfl, h0, h1⟩ hag
  simp only at h0 h1
  unfold Kg
  simp only [Bool.cond_eq_ite, decide_eq_true_eq]
  by_cases hi : i < (c'.length : Int)
  ·rw [if_pos hi]
   simp only [Option.bind_some, decide_eq_true_eq]
   by_cases h4 : i < 4000
   ·rw [if_pos h4, if_pos h0, if_pos hi]
    have hw : Go.IntKind.wrap .i64 (i + 1) = i + 1 := w64 (by omega) (by omega)
    rw [hw]
    exact hag _ ⟨rfl, by simp only; omega, by simp only; omega⟩ (by simp only; omega)
   ·rw [if_neg h4]
    exact ⟨_, rfl⟩
  ·rw [if_neg hi]
   exact ⟨_, rfl⟩
end Go.Proofs.YthgdjjdigalckaaGreat.Pl
namespace Go.Proofs.YthgdjjdigalckaaGreat.Pl
open Go.Proofs.YthgdjjdigalckaaGreat.R Go.Proofs.YthgdjjdigalckaaGreat.XC
end Go.Proofs.YthgdjjdigalckaaGreat.Pl
namespace Go.Proofs.YthgdjjdigalckaaGreat.Pl
open Go.Proofs.YthgdjjdigalckaaGreat.R Go.Proofs.YthgdjjdigalckaaGreat.XC
def w2 (l : List Int) (i : Int) : Int := by_ l i * 256 + by_ l (i + 1)
end Go.Proofs.YthgdjjdigalckaaGreat.Pl
namespace Go.Proofs.YthgdjjdigalckaaGreat.Pl
open Go.Proofs.YthgdjjdigalckaaGreat.R Go.Proofs.YthgdjjdigalckaaGreat.XC
end Go.Proofs.YthgdjjdigalckaaGreat.Pl
namespace Go.Proofs.YthgdjjdigalckaaGreat.Pl
open Go.Proofs.YthgdjjdigalckaaGreat.R Go.Proofs.YthgdjjdigalckaaGreat.XC
end Go.Proofs.YthgdjjdigalckaaGreat.Pl
namespace Go.Proofs.YthgdjjdigalckaaGreat.Pl
open Go.Proofs.YthgdjjdigalckaaGreat.R Go.Proofs.YthgdjjdigalckaaGreat.XC
theorem yA5 (x : List Int) (hx : x.length ≤ 1099511627776) : Yg x 0 := ⟨hx, Int.le_refl _, by omega⟩
end Go.Proofs.YthgdjjdigalckaaGreat.Pl
namespace Go.Proofs.YthgdjjdigalckaaGreat.Pl
open Go.Proofs.YthgdjjdigalckaaGreat.R Go.Proofs.YthgdjjdigalckaaGreat.XC
def two (x : Int) : List Int := [x / 256 % 256, x % 256]
end Go.Proofs.YthgdjjdigalckaaGreat.Pl
namespace Go.Proofs.YthgdjjdigalckaaGreat.Pl
open Go.Proofs.YthgdjjdigalckaaGreat.R Go.Proofs.YthgdjjdigalckaaGreat.XC
def tx (s : ByteArray) : List Int := two (s.size : Int) ++ Vk s
end Go.Proofs.YthgdjjdigalckaaGreat.Pl
namespace Go.Proofs.YthgdjjdigalckaaGreat.Pl
open Go.Proofs.YthgdjjdigalckaaGreat.R Go.Proofs.YthgdjjdigalckaaGreat.XC
structure PoolF (q : List Int) (t : List y8) (l : List yd) (cs : List yb) (vs : List yl) : Prop where
 ql : q.length = t.length
 tl : t.length ≤ 20
 ll : l.length ≤ 16
 cl : cs.length = 24
 vl : vs.length ≤ 6
 nm : ∀ v ∈ vs, ByteArray.size v.1 ≤ 6
 nl : ∀ n ∈ t, List.length n ≤ 3
 sl : ∀ n ∈ t, ∀ s ∈ (show List ya from n), List.length s ≤ 60 ∧ ∀ k ∈ (show List y9 from s), w3 k = true
theorem yA6 {q : List Int} {t : List y8} {l : List yd} {cs : List yb} {vs : List yl} {z : Int} (h : zk q t l cs vs z = true) : PoolF q t l cs vs := by
 unfold zk at h
 simp only [Bool.and_eq_true] at h
 obtain ⟨h1, h2, h3, _, _, h4, _⟩ := h
 obtain ⟨t1, t2, t3, t4⟩ := wz h1
 unfold wP at h2
 unfold YS at h3
 unfold Vb at h4
 simp only [Bool.and_eq_true, Bool.not_eq_true', decide_eq_true_eq, beq_iff_eq] at h2 h3 h4
 refine ⟨t1, t3, by omega, by omega, by omega, fun v hv => ?_, fun n hn => (y4T (t4 n hn)).1, fun n hn s hs => y8o ((y4T (t4 n hn)).2 s hs)⟩
 obtain ⟨j, hj⟩ := y2C _ vs 0 h4.1 v hv
 unfold yhr at hj
 simp only [Bool.or_eq_false_iff, Bool.not_eq_false'] at hj
 have hn := hj.1
 unfold jZ at hn
 simp only [Bool.and_eq_true, jS] at hn
 omega
section
variable {q : List Int} {t : List y8} {l : List yd} {cs : List yb} {vs : List yl} (z : Int) (h : PoolF q t l cs vs)
include h
end
end Go.Proofs.YthgdjjdigalckaaGreat.Pl
namespace Go.Proofs.YthgdjjdigalckaaGreat.Pl
open Go.Proofs.YthgdjjdigalckaaGreat.R Go.Proofs.YthgdjjdigalckaaGreat.XC
def ycC (kind a b : Int) : Bool :=
 if kind = 2 then decide (a = 0) && inR b 0 1 else if kind = 3 ∨ kind = 7 then decide (a = 0) && decide (b = 0) else if kind = 4 then true else decide (b = 0)
def yfn (s : ByteArray) : Bool := s.toList == ([] : List UInt8)
def yA7 (kind : Int) (name tt : ByteArray) (a b : Int) : Bool :=
 inR kind 1 9 && (if kind ≥ 7 then yfn name else jZ name) && (if kind = 2 then jZ tt else yfn tt) && isW a && isW b && ycC kind a b
theorem y54 (kind : Int) (name tt : ByteArray) (a b : Int) : YA (kind, name, tt, a, b) = some (ycC kind a b) := by
 unfold YA ycC
 simp only [Bool.cond_eq_ite, Zy, Option.bind_some, beq_iff_eq]
 by_cases h2 : kind = 2 <;> by_cases h3 : kind = 3 <;> by_cases h7 : kind = 7 <;> by_cases h4 : kind = 4 <;> by_cases ha : a = 0 <;> by_cases hb : b = 0 <;> simp_all
theorem yaf : (ByteArray.toList { data := #[] }) = [] := by
 unfold ByteArray.toList ByteArray.toList.loop
 rfl
theorem yag (kind : Int) (name tt : ByteArray) (a b : Int) (hn : name.size ≤ maxLen) (ht : tt.size ≤ maxLen) : vM (kind, name, tt, a, b) = some (yA7 kind name tt a b) := by
 unfold vM yA7 yfn
 simp only [Bool.cond_eq_ite, wy _ hn, wy _ ht, Zy, y27, y54, Option.bind_some, bi, yaf, decide_eq_true_eq]
 generalize (name.toList == ([] : List UInt8)) = n1
 generalize (tt.toList == ([] : List UInt8)) = n2
 generalize inR kind 1 9 = n3
 generalize ycC kind a b = n4
 by_cases h7 : kind ≥ 7 <;> by_cases h2 : kind = 2 <;> simp only [h7, h2, if_true, if_false, Option.bind_some] <;> cases n1 <;> cases n2 <;> cases n3 <;> cases n4 <;> cases jZ name <;> cases jZ tt <;> cases isW a <;> cases isW b <;> rfl
end Go.Proofs.YthgdjjdigalckaaGreat.Pl
namespace Go.Proofs.YthgdjjdigalckaaGreat.Pl
open Go.Proofs.YthgdjjdigalckaaGreat.R Go.Proofs.YthgdjjdigalckaaGreat.XC
abbrev P7a : Type := List ye × List y8 × List yd × List yb × List yl × Int × Int
theorem yjn {A : Type} {o : Option A} : (Option.bind o fun r => some r) = o := by cases o <;> rfl
theorem ymz {o : Option P7a} : (Option.bind o fun r => some (r.1, r.2.1, r.2.2.1, r.2.2.2.1, r.2.2.2.2.1, r.2.2.2.2.2.1, r.2.2.2.2.2.2)) = o := by cases o <;> rfl
theorem yA8 {o : Option (List ye × List y8 × List yd × List yb × List yl × Int × Bool)} : (Option.bind o fun r => some (r.1, r.2.1, r.2.2.1, r.2.2.2.1, r.2.2.2.2.1, r.2.2.2.2.2.1, r.2.2.2.2.2.2)) = o := by cases o <;> rfl
theorem yA9 {o : Option (Bool × List ye × List y8 × List yd × List yb × List yl × Int)} : (Option.bind o fun r => some (r.1, r.2.1, r.2.2.1, r.2.2.2.1, r.2.2.2.2.1, r.2.2.2.2.2.1, r.2.2.2.2.2.2)) = o := by cases o <;> rfl
theorem ZA {A : Type} {P : A → Prop} (b : Bool) {x y : A} (hx : b = true → P x) (hy : b = false → P y) : P (bif b then x else y) := by cases b <;> first | exact hx rfl | exact hy rfl
structure Tn (q : List ye) (t : List y8) (l : List yd) (cs : List yb) (vs : List yl) : Prop where
 ql : q.length ≤ 100
 T : TS t
 ll : l.length ≤ 100
 cl : cs.length = 24
 vl : vs.length ≤ 100
 N : ∀ v ∈ vs, ByteArray.size v.1 ≤ 60
 e : q.length = t.length
 p : 0 < t.length
theorem Tn.sp {q : List ye} {t : List y8} {l : List yd} {cs : List yb} {vs : List yl} (h : Tn q t l cs vs) : SP q t l cs vs := by
 have hT := h.T.ok
 refine ⟨⟨Nat.le_trans h.ql (by decide), hT.len, hT.sum, Nat.le_trans h.ll (by decide), by rw [h.cl]; decide, Nat.le_trans h.vl (by decide)⟩, fun v hv => Nat.le_trans (h.N v hv) (by decide)⟩
theorem y0C {q : List ye} {t : List y8} {l : List yd} {cs : List yb} {vs : List yl} {z : Int} (h : zk q t l cs vs z = true) : Tn q t l cs vs := by
 have hF := yA6 h
 unfold zk at h
 rw [Bool.and_eq_true] at h
 have h1 := wz h.1
 exact ⟨by have := hF.ql; have := hF.tl; omega, y2f h.1, by have := hF.ll; omega, hF.cl, by have := hF.vl; omega, fun v hv => by have := hF.nm v hv; omega, hF.ql, by omega⟩
def Res (q : List ye) (t : List y8) (l : List yd) (cs : List yb) (vs : List yl) (z : Int) (o : Option P7a) : Prop :=
 ∃ q' t' l' cs' vs' z' c, o = some (q', t', l', cs', vs', z', c) ∧ (zk q' t' l' cs' vs' z' = true ∨ (q', t', l', cs', vs', z') = (q, t, l, cs, vs, z))
def Yx (vs : List yl) (n : ByteArray) : Int := Zn (fun v : yl => ByteArray.toList v.1 == ByteArray.toList n) vs 0
theorem Kd (vs : List yl) (n : ByteArray) : Yx vs n = -1 ∨ (0 ≤ Yx vs n ∧ Yx vs n < vs.length) := by
 rcases K9 (fun v : yl => ByteArray.toList v.1 == ByteArray.toList n) w8 vs 0 (Int.le_refl _) with h | ⟨h1, h2, h3⟩
 ·exact .inl h
 ·exact .inr ⟨h1, by simpa [Yx] using h2⟩
section
variable (q : List ye) (t : List y8) (l : List yd) (cs : List yb) (vs : List yl) (z : Int)
theorem Zq (n : ByteArray) (hv : vs.length ≤ 1048576) : zm (q, t, l, cs, vs, z, n) = some (Yx vs n) := by
 unfold zm y14
 refine (YQ (step := w9 _ _) (fun i => (n, i, q, t, l, cs, vs, z)) (fun v : yl => ByteArray.toList v.1 == ByteArray.toList n) (fun x => some x) (some (-1)) w8 vs (by omega) ?_ ?_).trans ?_
 ·intro again i h0 h1
  have hw : Go.IntKind.wrap .i64 (i + 1) = i + 1 := w64 (by omega) (by omega)
  unfold w9
  simp only [Bool.cond_eq_ite, decide_eq_true_eq, h0, h1, if_true, hw]
  rfl
 ·intro again i hi
  unfold w9
  simp only [Bool.cond_eq_ite, decide_eq_true_eq, if_neg hi]
 ·rcases Kd vs n with h | ⟨h1, h2⟩ <;> unfold Yx at *
  ·rw [h]
   rfl
  ·rw [if_neg (by omega)]
def ydq (n : ByteArray) : Int := if zk q t l cs vs z = true ∧ jZ n = true then 0 else 1
noncomputable def yvs (n : ByteArray) : Int := if zk q t l cs vs z = true ∧ jZ n = true then (if Yx vs n < 0 then 2 else 0) else 1
noncomputable def Vf (n : ByteArray) (b : Int) : Int := if zk q t l cs vs z = true ∧ jZ n = true then (if Yx vs n < 0 then 2 else if (yq vs (Yx vs n)).2.2.2 = true then 5 else if inR b 0 (Go.IntKind.wrap .i64 ((yq vs (Yx vs n)).2.2.1 - 1)) = true then 0 else 4) else 1
variable {q t l cs vs} (h : SP q t l cs vs)
include h
theorem y0D (n : ByteArray) (hn : n.size ≤ maxLen) : Zu (q, t, l, cs, vs, z, n) = some (ydq q t l cs vs z n) := by
 unfold Zu ydq
 simp only [Zz z h, wy n hn, Option.bind_some]
 cases zk q t l cs vs z <;> cases jZ n <;> rfl
theorem y55 (n : ByteArray) (hn : n.size ≤ maxLen) : JK (q, t, l, cs, vs, z, n) = some (yvs q t l cs vs z n) := by
 unfold JK yvs
 simp only [y0D z h n hn, Zq q t l cs vs z n h.S.2.2.2.2.2, Option.bind_some]
 unfold ydq
 by_cases hc : zk q t l cs vs z = true ∧ jZ n = true
 ·simp only [if_pos hc, beq_self_eq_true, cond_true, Option.bind_some]
  by_cases hv : Yx vs n < 0
  ·simp only [if_pos hv, decide_eq_true hv]
   rfl
  ·simp only [if_neg hv, decide_eq_false hv]
   rfl
 ·simp only [if_neg hc]
  rfl
theorem Q1 (n : ByteArray) (hn : n.size ≤ maxLen) (b : Int) : YG (q, t, l, cs, vs, z, n, b) = some (Vf q t l cs vs z n b) := by
 unfold YG Vf
 simp only [y55 z h n hn, Zq q t l cs vs z n h.S.2.2.2.2.2, Zy, Option.bind_some]
 unfold yvs
 by_cases hc : zk q t l cs vs z = true ∧ jZ n = true
 ·simp only [if_pos hc]
  by_cases hv : Yx vs n < 0
  ·simp only [if_pos hv]
   rfl
  ·have h2 := Kd vs n
   simp only [if_neg hv, show ((0 : Int) != 0) = false from rfl, cond_false, if_pos (show (0 : Int) ≤ Yx vs n by omega), if_pos (show Yx vs n < ((List.length vs : Nat) : Int) by omega)]
   cases (yq vs (Yx vs n)).2.2.2 with
   | true => rfl
   | false => cases inR b 0 (Go.IntKind.wrap .i64 ((yq vs (Yx vs n)).2.2.1 - 1)) <;> rfl
 ·simp only [if_neg hc]
  rfl
theorem VX : ym (q, t, l, cs, vs, z) = some (q, t, l, cs, vs, z) := kr q t l cs vs z h.S
omit h in
theorem Res.same (c : Int) : Res q t l cs vs z (some (q, t, l, cs, vs, z, c)) := ⟨_, _, _, _, _, _, c, rfl, .inr rfl⟩
theorem yuM {q' : List ye} {t' : List y8} {l' : List yd} {cs' : List yb} {vs' : List yl} {z' : Int} (hx : SP q' t' l' cs' vs') (b : Bool) : yP (q, t, l, cs, vs, z, q', t', l', cs', vs', z', b) = some (if b = true ∧ zk q' t' l' cs' vs' z' = true then (q', t', l', cs', vs', z', 0) else (q, t, l, cs, vs, z, 6)) := by
 unfold yP
 simp only [Zz z' hx, VX z h, Option.bind_some]
 cases b <;> cases hp : zk q' t' l' cs' vs' z' <;> simp
theorem Res.fin {q' : List ye} {t' : List y8} {l' : List yd} {cs' : List yb} {vs' : List yl} {z' : Int} (hx : SP q' t' l' cs' vs') (b : Bool) : Res q t l cs vs z (yP (q, t, l, cs, vs, z, q', t', l', cs', vs', z', b)) := by
 rw [yuM z h hx b]
 by_cases hc : b = true ∧ zk q' t' l' cs' vs' z' = true
 ·rw [if_pos hc]
  exact ⟨_, _, _, _, _, _, _, rfl, .inl hc.2⟩
 ·rw [if_neg hc]
  exact ⟨_, _, _, _, _, _, _, rfl, .inr rfl⟩
end
theorem y2i (l : List yd) (id fr : Int) (hl : l.length ≤ 1000) : ∃ l' b, zU (l, id, fr) = some (l', b) ∧ l'.length ≤ l.length + 1 := by
 unfold zU QS
 rw [Zo l id (by omega)]
 simp only [Option.bind_some]
 refine Zm (step := Wk _) (fun u : Wj => l.length - u.2.2.2.2.1.toNat) (fun u => u.1 = l ∧ u.2.1 = id ∧ 0 ≤ u.2.2.2.2.1 ∧ u.2.2.2.2.1 ≤ l.length ∧ (u.2.2.2.2.2.length : Int) ≤ u.2.2.2.2.1 + (if u.2.2.2.1 = true then 1 else 0)) (fun _ (res : Option (List yd × Bool)) => ∃ (l' : List yd) (b : Bool), res = some (l', b) ∧ l'.length ≤ l.length + 1) ?_ (l, id, fr, decide (zZ l id ≥ 0), 0, []) ⟨rfl, rfl, Int.le_refl _, by simp, by simp; split <;> omega⟩ (by simp; omega)
 ·rintro again ⟨l1, id1, fr1, d, i, o⟩ ⟨rfl, rfl, h0, h1, ho⟩ hag
  simp only at h0 h1 ho hl hag ⊢
  unfold Wk
  simp only [Bool.cond_eq_ite, decide_eq_true_eq]
  by_cases hi : i < (l1.length : Int)
  ·have hw : Go.IntKind.wrap .i64 (i + 1) = i + 1 := w64 (by omega) (by omega)
   have ho2 : o.length ≤ 1001 := by split at ho <;> omega
   simp only [if_pos hi, if_pos h0, hw, List.length_append, List.length_cons, List.length_nil]
   cases d with
   | true =>
    simp only [Bool.not_true, Bool.false_eq_true, if_false, Option.bind_some]
    rw [if_pos (by omega)]
    exact hag _ ⟨rfl, rfl, by simp only; omega, by simp only; omega, by simp at ho ⊢; omega⟩ (by simp only; omega)
   | false =>
    simp only [Bool.not_false, if_true, Option.bind_some, decide_eq_true_eq]
    split
    ·rw [if_pos (by omega), if_pos (by omega)]
     exact hag _ ⟨rfl, rfl, by simp only; omega, by simp only; omega, by simp at ho ⊢; omega⟩ (by simp only; omega)
    ·rw [if_pos (by omega)]
     exact hag _ ⟨rfl, rfl, by simp only; omega, by simp only; omega, by simp at ho ⊢; omega⟩ (by simp only; omega)
  ·have ho2 : o.length ≤ 1001 := by split at ho <;> omega
   simp only [if_neg hi, List.length_append, List.length_cons, List.length_nil, Zo l1 id1 (by omega), Option.bind_some, Kn o (by omega), Kn (o ++ [(id1, fr1)]) (by simp; omega)]
   cases d with
   | true =>
    have e1 : ∀ u : Bool, ∃ (l' : List yd) (b : Bool), (if u = true then (if (0 + l1.length) * 16 < 140737488355328 then some ([] ++ l1, false) else none) else some (o, true)) = some (l', b) ∧ l'.length ≤ l1.length + 1 := fun u => by
     rw [if_pos (show (0 + l1.length) * 16 < 140737488355328 by omega)]
     cases u
     ·exact ⟨_, _, rfl, by simp at ho; omega⟩
     ·exact ⟨_, _, rfl, by simp⟩
    simp only [Bool.not_true, Bool.false_eq_true, if_false]
    by_cases ha : zZ l1 id1 ≥ 0
    ·rw [if_pos ha]
     exact e1 true
    ·rw [if_neg ha]
     exact e1 _
   | false =>
    have e1 : ∀ u : Bool, ∃ (l' : List yd) (b : Bool), (if u = true then (if (0 + l1.length) * 16 < 140737488355328 then some ([] ++ l1, false) else none) else some (o ++ [(id1, fr1)], true)) = some (l', b) ∧ l'.length ≤ l1.length + 1 := fun u => by
     rw [if_pos (show (0 + l1.length) * 16 < 140737488355328 by omega)]
     cases u
     ·exact ⟨_, _, rfl, by simp at ho ⊢; omega⟩
     ·exact ⟨_, _, rfl, by simp⟩
    simp only [Bool.not_false, if_true]
    rw [if_pos (by omega)]
    by_cases ha : zZ l1 id1 ≥ 0
    ·rw [if_pos ha]
     exact e1 true
    ·rw [if_neg ha]
     exact e1 _
theorem yah (vs : List yl) (n : ByteArray) (a s : Int) (f : Bool) (hv : vs.length ≤ 1000) (hN : ∀ v ∈ vs, ByteArray.size v.1 ≤ 60) (hn : n.size ≤ 60) : ∃ vs', YW (vs, n, a, s, f) = some vs' ∧ vs'.length = vs.length + 1 ∧ ∀ v ∈ vs', ByteArray.size v.1 ≤ 60 := by
 unfold YW Vs
 simp only [List.nil_append, List.length_nil, List.length_append, List.length_cons]
 rw [if_pos (by omega), if_pos (by omega), w64 (by omega) (by omega)]
 refine Zm (step := jY _) (fun u : jX => u.1.toNat) (fun u => 0 ≤ u.1 ∧ u.1 ≤ vs.length ∧ u.2.1 = n ∧ u.2.2.2.2.2.length = vs.length + 1 ∧ ∀ v ∈ u.2.2.2.2.2, ByteArray.size v.1 ≤ 60) (fun _ (res : Option (List yl)) => ∃ vs' : List yl, res = some vs' ∧ vs'.length = vs.length + 1 ∧ ∀ v ∈ vs', ByteArray.size v.1 ≤ 60) ?_ (((vs.length + (0 + 1) : Nat) : Int) - 1, n, a, s, f, vs ++ [(n, a, s, f)]) ⟨by simp only; omega, by simp only; omega, rfl, by simp, fun v hv => ?_⟩ (by simp only; omega)
 ·rintro again ⟨k, n1, a1, s1, f1, o⟩ ⟨h0, h1, rfl, ho, hoN⟩ hag
  simp only at h0 h1 ho hoN hag ⊢
  unfold jY
  simp only [Bool.cond_eq_ite, decide_eq_true_eq]
  by_cases hk : k > 0
  ·have hw : Go.IntKind.wrap .i64 (k - 1) = k - 1 := w64 (by omega) (by omega)
   simp only [if_pos hk, hw, if_pos (show (0 : Int) ≤ k - 1 by omega), if_pos (show k - 1 < ((List.length o : Nat) : Int) by omega), if_pos h0, if_pos (show k < ((List.length o : Nat) : Int) by omega), Option.bind_some]
   split
   ·refine hag _ ⟨by simp only; omega, by simp only; omega, rfl, by simp only [List.length_set]; exact ho, fun v hv => ?_⟩ (by simp only; omega)
    rcases List.mem_or_eq_of_mem_set hv with h | rfl
    ·exact hoN v h
    ·exact hoN _ (zg w8 o (k - 1) (by omega) (by omega))
   ·refine ⟨_, rfl, by rw [List.length_set]; exact ho, fun v hv => ?_⟩
    rcases List.mem_or_eq_of_mem_set hv with h | rfl
    ·exact hoN v h
    ·exact hn
  ·simp only [if_neg hk, Option.bind_some, Bool.false_eq_true, if_false, if_pos h0, if_pos (show k < ((List.length o : Nat) : Int) by omega)]
   refine ⟨_, rfl, by rw [List.length_set]; exact ho, fun v hv => ?_⟩
   rcases List.mem_or_eq_of_mem_set hv with h | rfl
   ·exact hoN v h
   ·exact hn
 ·rcases List.mem_append.1 hv with h | h
  ·exact hN v h
  ·rw [List.mem_singleton.1 h]
   exact hn
theorem y1A (cs : List yb) (n : Int) (hc : cs.length ≤ 1048576) : ∃ cs' i b, Ye (cs, n) = some (cs', i, b) ∧ cs'.length = cs.length ∧ (b = true → 0 ≤ i ∧ i < cs.length) := by
 unfold Ye Yv qq
 simp only [List.nil_append, List.length_nil]
 rw [if_pos (by omega)]
 simp only [Option.bind_some]
 refine Zm (step := JO _ _) (fun u : JN => cs.length - u.2.2.1.toNat) (fun u => u.1 = cs ∧ 0 ≤ u.2.2.1 ∧ u.2.2.1 ≤ cs.length ∧ u.2.2.2 = cs) (fun _ (res : Option (List yb × Int × Bool)) => ∃ (cs' : List yb) (i : Int) (b : Bool), res = some (cs', i, b) ∧ cs'.length = cs.length ∧ (b = true → 0 ≤ i ∧ i < cs.length)) ?_ (cs, n, 0, cs) ⟨rfl, Int.le_refl _, by simp, rfl⟩ (by simp; omega)
 ·rintro again ⟨l1, n1, i, o⟩ ⟨e1, h0, h1, e2⟩ hag
  simp only at e1 e2 h0 h1 hag ⊢
  subst e1
  subst e2
  unfold JO
  simp only [Bool.cond_eq_ite, decide_eq_true_eq, Va o hc, y27, Option.bind_some]
  by_cases hi : i < (o.length : Int)
  ·have hw : Go.IntKind.wrap .i64 (i + 1) = i + 1 := w64 (by omega) (by omega)
   simp only [if_pos hi, if_pos h0, hw, List.length_set, Option.bind_some]
   split
   ·simp only [Option.bind_some]
    split
    ·split
     ·exact ⟨_, _, _, rfl, by simp, fun _ => ⟨h0, hi⟩⟩
     ·exact hag _ ⟨rfl, by simp only; omega, by simp only; omega, rfl⟩ (by simp only; omega)
    ·exact ⟨_, _, _, rfl, rfl, fun h => by cases h⟩
   ·simp only [Option.bind_some, Bool.false_eq_true, if_false]
    exact ⟨_, _, _, rfl, rfl, fun h => by cases h⟩
  ·simp only [if_neg hi, Option.bind_some, Bool.false_eq_true, if_false]
   exact ⟨_, _, _, rfl, rfl, fun h => by cases h⟩
end Go.Proofs.YthgdjjdigalckaaGreat.Pl
namespace Go.Proofs.YthgdjjdigalckaaGreat.Pl
open Go.Proofs.YthgdjjdigalckaaGreat.R Go.Proofs.YthgdjjdigalckaaGreat.XC
theorem SP.of {q : List ye} {t : List y8} {l : List yd} {cs : List yb} {vs : List yl} (h : TQ q t) (hl : l.length ≤ 1048576) (hc : cs.length ≤ 1048576) (hv : vs.length ≤ 1048576) (hN : ∀ v ∈ vs, ByteArray.size v.1 ≤ maxLen) : SP q t l cs vs :=
 ⟨⟨h.q, h.T.len, h.T.sum, hl, hc, hv⟩, hN⟩
theorem y3r {n : Nat} (h : n ≤ 60) : n ≤ maxLen := Nat.le_trans h (by decide)
section
variable {q : List ye} {t : List y8} {l : List yd} {cs : List yb} {vs : List yl} (z : Int) (h : SP q t l cs vs)
include h
theorem yfo (n : ByteArray) (s : Int) (hn : n.size ≤ 60) : Res q t l cs vs z (JM (q, t, l, cs, vs, z, n, s)) := by
 unfold JM
 simp only [y0D z h n (y3r hn), VX z h, Zq q t l cs vs z n h.S.2.2.2.2.2, Zy, Option.bind_some, ymz, yjn]
 refine ZA (P := Res q t l cs vs z) _ (fun _ => Res.same z _) fun hf => ZA (P := Res q t l cs vs z) _ (fun _ => Res.same z _) fun _ => ZA (P := Res q t l cs vs z) _ (fun _ => Res.same z _) fun _ => ?_
 have hp : zk q t l cs vs z = true := by
  unfold ydq at hf
  by_cases hc : zk q t l cs vs z = true ∧ jZ n = true
  ·exact hc.1
  ·rw [if_neg hc] at hf
   cases hf
 have hT := y0C hp
 obtain ⟨l', b, e1, h1⟩ := y2i l z 0 (by have := hT.ll; omega)
 obtain ⟨vs', e2, h2, h3⟩ := yah vs n z s false (by have := hT.vl; omega) hT.N hn
 rw [e1]
 simp only [Option.bind_some]
 rw [e2]
 simp only [Option.bind_some]
 exact Res.fin z h (SP.of h.tq (by have := hT.ll; omega) h.S.2.2.2.2.1 (by have := hT.vl; omega) fun v hv => y3r (h3 v hv)) b
theorem ymA (n m : ByteArray) (f : Bool) (hn : n.size ≤ 60) (hm : m.size ≤ 60) : Res q t l cs vs z (kQ (q, t, l, cs, vs, z, n, m, f)) := by
 unfold kQ
 simp only [y0D z h n (y3r hn), VX z h, Zq q t l cs vs z _ h.S.2.2.2.2.2, wy m (y3r hm), Option.bind_some, ymz, yjn]
 cases hf : ydq q t l cs vs z n != 0 with
 | true =>
  simp only [cond_true, Option.bind_some]
  exact Res.same z _
 | false =>
 simp only [cond_false, Option.bind_some]
 have hp : zk q t l cs vs z = true := by
  unfold ydq at hf
  by_cases hc : zk q t l cs vs z = true ∧ jZ n = true
  ·exact hc.1
  ·rw [if_neg hc] at hf
   cases hf
 have hT := y0C hp
 refine ZA (P := Res q t l cs vs z) _ (fun _ => Res.same z _) fun _ => ZA (P := Res q t l cs vs z) _ (fun _ => Res.same z _) fun hi => ZA (P := Res q t l cs vs z) _ (fun _ => Res.same z _) fun _ => ?_
 have hi' : 0 ≤ Yx vs n ∧ Yx vs n < ((List.length vs : Nat) : Int) := by
  have := of_decide_eq_false hi
  have := Kd vs n
  omega
 obtain ⟨l', b, e1, h1⟩ := y2i l z (yq vs (Yx vs n)).2.1 (by have := hT.ll; omega)
 obtain ⟨l2, b2, e2, h2⟩ := y2i l' (Go.IntKind.wrap .i64 (z + 1)) (yq vs (Yx vs n)).2.1 (by have := hT.ll; omega)
 obtain ⟨vs', e3, h3, h4⟩ := yah (vs.set (Int.toNat (Yx vs n)) ((yq vs (Yx vs n)).1, z, (yq vs (Yx vs n)).2.2)) m (Go.IntKind.wrap .i64 (z + 1)) (yq vs (Yx vs n)).2.2.1 f (by rw [List.length_set]; have := hT.vl; omega) (fun v hv => by
  rcases List.mem_or_eq_of_mem_set hv with hv | rfl
  ·exact hT.N v hv
  ·exact hT.N (yq vs (Yx vs n)) (zg w8 vs _ hi'.1 hi'.2)) hm
 simp only [if_pos hi'.1, if_pos hi'.2]
 rw [e1]
 simp only [Option.bind_some]
 rw [e2]
 simp only [Option.bind_some]
 rw [e3]
 simp only [Option.bind_some]
 rw [List.length_set] at h3
 have hS : SP q t l2 cs vs' := SP.of h.tq (by have := hT.ll; omega) h.S.2.2.2.2.1 (by have := hT.vl; omega) fun v hv => y3r (h4 v hv)
 cases b <;> simp only [cond_true, cond_false, Option.bind_some] <;> exact Res.fin z h hS _
theorem yfp (n : ByteArray) (hn : n.size ≤ 60) : Res q t l cs vs z (jk (q, t, l, cs, vs, z, n)) := by
 unfold jk
 simp only [y55 z h n (y3r hn), VX z h, Zq q t l cs vs z _ h.S.2.2.2.2.2, Option.bind_some, ymz, yjn]
 refine ZA (P := Res q t l cs vs z) _ (fun _ => Res.same z _) fun hf => ?_
 have hi : 0 ≤ Yx vs n ∧ Yx vs n < ((List.length vs : Nat) : Int) := by
  unfold yvs at hf
  have := Kd vs n
  by_cases hc : zk q t l cs vs z = true ∧ jZ n = true
  ·rw [if_pos hc] at hf
   by_cases hv : Yx vs n < 0
   ·rw [if_pos hv] at hf
    cases hf
   ·omega
  ·rw [if_neg hc] at hf
   cases hf
 have hv := h.S.2.2.2.2.2
 have hw : Go.IntKind.wrap .i64 (Yx vs n + 1) = Yx vs n + 1 := w64 (by omega) (by omega)
 simp only [hw]
 rw [if_pos (Int.le_refl _), if_pos hi.1, if_pos (by omega), if_pos (by simp only [List.length_nil, List.length_drop, List.length_take]; omega), if_pos (by omega), if_pos (by omega), if_pos (Int.le_refl _), if_pos (by simp only [List.length_append, List.length_nil, List.length_drop, List.length_take]; omega)]
 refine Res.fin z h (SP.of h.tq h.S.2.2.2.1 h.S.2.2.2.2.1 (by simp only [List.length_append, List.length_nil, List.length_drop, List.length_take]; omega) fun v hv => ?_) true
 simp only [List.nil_append, List.mem_append] at hv
 rcases hv with hv | hv
 ·exact h.N v (List.mem_of_mem_take (List.mem_of_mem_drop hv))
 ·exact h.N v (List.mem_of_mem_take (List.mem_of_mem_drop hv))
theorem yfq (a b c d e : Int) : ∃ r q' t' cs', zA (q, t, l, cs, vs, z, a, b, c, d, e) = some (r, q', t', l, cs', vs, z) ∧ SP q' t' l cs' vs := by
 have hq := h.tq
 unfold zA
 simp only [Kq q t a b hq.T hq.q, jc q t a b c d e hq.T hq.Q hq.q, Option.bind_some]
 cases (yw q t (a, b, c, d, e)).2.2 with
 | false => exact ⟨_, _, _, _, rfl, h⟩
 | true =>
  unfold wk
  simp only [Bool.not_true, cond_false, wK cs _ h.S.2.2.2.2.1]
  have hT := Kc (a, b, c, d, e) hq
  have key : ∀ u : Bool, ∃ r q' t' cs', (Option.bind (bif u then Option.bind (some (y5w cs (JE q t a b).2.2.2.1)) fun r2 => some ((yw q t (a, b, c, d, e)).1, (yw q t (a, b, c, d, e)).2.1, l, r2, vs, z) else some ((yw q t (a, b, c, d, e)).1, (yw q t (a, b, c, d, e)).2.1, l, cs, vs, z)) fun r3 => some (true, r3.1, r3.2.1, r3.2.2.1, r3.2.2.2.1, r3.2.2.2.2.1, r3.2.2.2.2.2)) = some (r, q', t', l, cs', vs, z) ∧ SP q' t' l cs' vs := fun u => by
   cases u
   ·exact ⟨_, _, _, _, rfl, hT.sp h h.S.2.2.2.1 h.S.2.2.2.2.1⟩
   ·exact ⟨_, _, _, _, rfl, hT.sp h h.S.2.2.2.1 (by rw [y2g]; exact h.S.2.2.2.2.1)⟩
  cases (JE q t a b).2.2.2.2.2
  ·exact key false
  ·exact key ((JE q t a b).2.2.1 == 1)
theorem yhy (n : ByteArray) (b w : Int) (hn : n.size ≤ 60) : Res q t l cs vs z (wY (q, t, l, cs, vs, z, n, b, w)) := by
 obtain ⟨cs', i, u, e1, h1, h2⟩ := y1A cs w h.S.2.2.2.2.1
 have hS : SP q t l cs' vs := SP.of h.tq h.S.2.2.2.1 (by rw [h1]; exact h.S.2.2.2.2.1) h.S.2.2.2.2.2 h.N
 have main : Vf q t l cs vs z n b = 0 → Res q t l cs vs z (bif u then if (0 : Int) ≤ Yx vs n then if Yx vs n < ((List.length vs : Nat) : Int) then if (0 : Int) ≤ i then if i < ((List.length cs' : Nat) : Int) then Option.bind (zA (q, t, l, cs', vs, z, b, (yq vs (Yx vs n)).2.1, (1 : Int), i, (yA cs' i).1)) fun r7 => yP (q, t, l, cs, vs, z, r7.2.1, r7.2.2.1, r7.2.2.2.1, r7.2.2.2.2.1, r7.2.2.2.2.2.1, r7.2.2.2.2.2.2, r7.1) else none else none else none else none else yP (q, t, l, cs, vs, z, q, t, l, cs', vs, z, false)) := by
  intro hb
  have hi : 0 ≤ Yx vs n ∧ Yx vs n < ((List.length vs : Nat) : Int) := by
   unfold Vf at hb
   have := Kd vs n
   by_cases hc : zk q t l cs vs z = true ∧ jZ n = true
   ·rw [if_pos hc] at hb
    by_cases hv : Yx vs n < 0
    ·rw [if_pos hv] at hb
     cases hb
    ·omega
   ·rw [if_neg hc] at hb
    cases hb
  cases u with
  | false => exact Res.fin z h hS false
  | true =>
   have h3 := h2 rfl
   obtain ⟨r, q', t', cs2, e2, h4⟩ := yfq z hS b (yq vs (Yx vs n)).2.1 1 i (yA cs' i).1
   simp only [cond_true, if_pos hi.1, if_pos hi.2, if_pos h3.1, if_pos (show i < ((List.length cs' : Nat) : Int) by rw [h1]; exact h3.2), e2, Option.bind_some]
   exact Res.fin z h h4 r
 unfold wY
 simp only [Q1 z h n (y3r hn), VX z h, Zq q t l cs vs z _ h.S.2.2.2.2.2, y27, e1, Option.bind_some, ymz, yjn]
 cases hb : Vf q t l cs vs z n b == 0 with
 | false =>
  have hne : (Vf q t l cs vs z n b != 0) = true := by
   rw [bne, hb]
   rfl
  simp only [cond_false, Option.bind_some, hne, cond_true]
  exact Res.same z _
 | true =>
  have h0 : Vf q t l cs vs z n b = 0 := by simpa using hb
  cases hw : isW w with
  | false =>
   simp only [cond_true, Option.bind_some, Bool.not_false, show ((4 : Int) != 0) = true from rfl]
   exact Res.same z _
  | true =>
   have hne : (Vf q t l cs vs z n b != 0) = false := by
    rw [bne, hb]
    rfl
   simp only [cond_true, Option.bind_some, Bool.not_true, cond_false, hne]
   exact main h0
theorem y0E (i b : Int) (h0 : 0 ≤ i) (h1 : i < (vs.length : Int)) : ∃ r q' t' cs', Y4 (q, t, l, cs, vs, z, i, b) = some (r, q', t', l, cs', vs, z) ∧ SP q' t' l cs' vs := by
 have hq := h.tq
 unfold Y4
 simp only [if_pos h0, if_pos h1, y29 q t l _ _ hq.T h.S.2.2.2.1, Kq q t _ _ hq.T hq.q, Option.bind_some, yA9, yjn]
 have key : ∀ u : Bool, ∃ r q' t' cs', (bif u then zA (q, t, l, cs, vs, z, b, (yq vs i).2.1, (2 : Int), (0 : Int), (0 : Int)) else bif (!(JE q t b (yq vs i).2.1).2.2.2.2.2) then some (true, q, t, l, cs, vs, z) else zA (q, t, l, cs, vs, z, b, (yq vs i).2.1, (0 : Int), (0 : Int), (0 : Int))) = some (r, q', t', l, cs', vs, z) ∧ SP q' t' l cs' vs := fun u => by
  cases u
  ·cases (JE q t b (yq vs i).2.1).2.2.2.2.2
   ·exact ⟨_, _, _, _, rfl, h⟩
   ·exact yfq z h _ _ _ _ _
  ·exact yfq z h _ _ _ _ _
 cases (ans (y6f t l b (yq vs i).2.1)).2.2.2.2.2
 ·exact key false
 ·exact key _
theorem ydr (n : ByteArray) (b : Int) (hn : n.size ≤ 60) : Res q t l cs vs z (jN (q, t, l, cs, vs, z, n, b)) := by
 unfold jN
 simp only [Q1 z h n (y3r hn), VX z h, Zq q t l cs vs z _ h.S.2.2.2.2.2, Option.bind_some, ymz, yjn]
 refine ZA (P := Res q t l cs vs z) _ (fun _ => Res.same z _) fun hb => ?_
 have hi : 0 ≤ Yx vs n ∧ Yx vs n < ((List.length vs : Nat) : Int) := by
  unfold Vf at hb
  have := Kd vs n
  by_cases hc : zk q t l cs vs z = true ∧ jZ n = true
  ·rw [if_pos hc] at hb
   by_cases hv : Yx vs n < 0
   ·rw [if_pos hv] at hb
    cases hb
   ·omega
  ·rw [if_neg hc] at hb
   cases hb
 obtain ⟨r, q', t', cs', e1, h1⟩ := y0E z h (Yx vs n) b hi.1 hi.2
 rw [e1]
 exact Res.fin z h h1 r
omit h in
theorem yhz {n : ByteArray} {b : Int} (hb : Vf q t l cs vs z n b = 0) : (0 ≤ Yx vs n ∧ Yx vs n < ((List.length vs : Nat) : Int)) ∧ zk q t l cs vs z = true := by
 unfold Vf at hb
 have := Kd vs n
 by_cases hc : zk q t l cs vs z = true ∧ jZ n = true
 ·rw [if_pos hc] at hb
  by_cases hv : Yx vs n < 0
  ·rw [if_pos hv] at hb
   cases hb
  ·exact ⟨by omega, hc.1⟩
 ·rw [if_neg hc] at hb
  cases hb
theorem yfr (n : ByteArray) (s : Int) (hn : n.size ≤ 60) : Res q t l cs vs z (JR (q, t, l, cs, vs, z, n, s)) := by
 have fin : ∀ (i : Int) (s : Int) (ok : Bool) (q' : List ye) (t' : List y8) (cs' : List yb), 0 ≤ i → i < (vs.length : Int) → SP q' t' l cs' vs → Res q t l cs vs z (if (0 : Int) ≤ i then if i < ((List.length vs : Nat) : Int) then yP (q, t, l, cs, vs, z, q', t', l, cs', List.set vs (Int.toNat i) ((yq vs i).1, (yq vs i).2.1, s, (yq vs i).2.2.2), z, ok) else none else none) := by
  intro i s ok q' t' cs' h0 h1 hS
  rw [if_pos h0, if_pos h1]
  refine Res.fin z h ⟨⟨hS.S.1, hS.S.2.1, hS.S.2.2.1, hS.S.2.2.2.1, hS.S.2.2.2.2.1, by rw [List.length_set]; exact h.S.2.2.2.2.2⟩, fun v hv => ?_⟩ ok
  rcases List.mem_or_eq_of_mem_set hv with hv | rfl
  ·exact h.N v hv
  ·exact h.N (yq vs i) (zg w8 vs i h0 h1)
 have loop : ∀ (k0 : Int × Int × Bool × List ye × List y8 × List yd × List yb × List yl × Int × Int × Int × List ye × List y8 × List yd × List yb × List yl → Option P7a) (k1 : Int × Int × Bool × List ye × List y8 × List yd × List yb × List yl × Int × Int × List ye × List y8 × List yd × Int × List yb × List yl → Option P7a) (s i b : Int) (ok : Bool) (y : Int), 0 ≤ i → i < (vs.length : Int) → b ≤ 1000 → -1000 ≤ b → 0 ≤ s →
   (∀ ok q' t' cs', SP q' t' l cs' vs → Res q t l cs vs z (k0 (s, i, ok, q, t, l, cs, vs, z, y, z, q', t', l, cs', vs))) →
   (∀ ok q' t' cs', SP q' t' l cs' vs → Res q t l cs vs z (k1 (s, i, ok, q, t, l, cs, vs, z, y, q', t', l, z, cs', vs))) →
   Res q t l cs vs z (wF k0 k1 (Sum.inl (s, i, ok, b, q, t, l, cs, vs, z, y, z, q, t, l, cs, vs))) := by
  intro k0 k1 s i b ok y h0 h1 hb hb0 hs f0 f1
  unfold wF
  refine Zm (step := jy k0 k1) (fun u : wE => match u with | .inl u => (u.2.2.2.1 + 1).toNat + 1 | .inr u => (u.2.2.2.1 + 1).toNat)
   (fun u => match u with
    | .inl u => ∃ b ok q' t' cs', b ≤ 1000 ∧ -1000 ≤ b ∧ SP q' t' l cs' vs ∧ u = (s, i, ok, b, q, t, l, cs, vs, z, y, z, q', t', l, cs', vs)
    | .inr u => ∃ b ok q' t' cs', b ≤ 1000 ∧ -1001 ≤ b ∧ SP q' t' l cs' vs ∧ u = (s, i, ok, b, q, t, l, cs, vs, z, y, q', t', l, z, cs', vs))
   (fun _ res => Res q t l cs vs z res) ?_ _ ⟨b, ok, q, t, cs, hb, hb0, h, rfl⟩ (by simp only; omega)
  intro again u hu hag
  cases u with
  | inl u =>
   obtain ⟨b, ok, q', t', cs', k1', k2', hS, rfl⟩ := hu
   unfold jy
   simp only at hag ⊢
   by_cases hbs : b ≥ s
   ·cases ok with
    | false =>
     simp only [decide_eq_true hbs, cond_true, Option.bind_some, cond_false]
     exact f0 _ _ _ _ hS
    | true =>
     obtain ⟨r, q2, t2, cs2, e1, h2⟩ := y0E z hS i b h0 h1
     have hw : Go.IntKind.wrap .i64 (b - 1) = b - 1 := w64 (by omega) (by omega)
     simp only [decide_eq_true hbs, cond_true, Option.bind_some, e1, hw]
     exact hag _ ⟨b - 1, r, q2, t2, cs2, by omega, by omega, h2, rfl⟩ (by simp only; omega)
   ·simp only [decide_eq_false hbs, cond_false, Option.bind_some]
    exact f0 _ _ _ _ hS
  | inr u =>
   obtain ⟨b, ok, q', t', cs', k1', k2', hS, rfl⟩ := hu
   unfold jy
   simp only at hag ⊢
   by_cases hbs : b ≥ s
   ·cases ok with
    | false =>
     simp only [decide_eq_true hbs, cond_true, Option.bind_some, cond_false]
     exact f1 _ _ _ _ hS
    | true =>
     obtain ⟨r, q2, t2, cs2, e1, h2⟩ := y0E z hS i b h0 h1
     have hw : Go.IntKind.wrap .i64 (b - 1) = b - 1 := w64 (by omega) (by omega)
     simp only [decide_eq_true hbs, cond_true, Option.bind_some, e1, hw]
     exact hag _ ⟨b - 1, r, q2, t2, cs2, by omega, by omega, h2, rfl⟩ (by simp only; omega)
   ·simp only [decide_eq_false hbs, cond_false, Option.bind_some]
    exact f1 _ _ _ _ hS
 unfold JR
 simp only [Q1 z h n (y3r hn), VX z h, Zq q t l cs vs z _ h.S.2.2.2.2.2, Zy, Option.bind_some, ymz, yjn]
 cases hb : Vf q t l cs vs z n 0 == 0 with
 | false =>
  have hne : (Vf q t l cs vs z n 0 != 0) = true := by
   rw [bne, hb]
   rfl
  simp only [cond_false, Option.bind_some, hne, cond_true]
  exact Res.same z _
 | true =>
  have h0 : Vf q t l cs vs z n 0 = 0 := by simpa using hb
  cases hs : inR s 1 12 with
  | false =>
   simp only [cond_true, Option.bind_some, Bool.not_false, show ((4 : Int) != 0) = true from rfl]
   exact Res.same z _
  | true =>
   have hne : (Vf q t l cs vs z n 0 != 0) = false := by
    rw [bne, hb]
    rfl
   simp only [cond_true, Option.bind_some, Bool.not_true, cond_false, hne]
   obtain ⟨hi, hp⟩ := yhz z h0
   rw [if_pos hi.1, if_pos hi.2]
   have hs' := jS.1 hs
   have hr : 1 ≤ (yq vs (Yx vs n)).2.2.1 ∧ (yq vs (Yx vs n)).2.2.1 ≤ 12 := by
    unfold zk at hp
    simp only [Bool.and_eq_true] at hp
    have hv := hp.2.2.2.2.2.1
    unfold Vb at hv
    simp only [Bool.and_eq_true, Bool.not_eq_true'] at hv
    obtain ⟨j, hj⟩ := y2C _ vs 0 hv.1 _ (zg w8 vs _ hi.1 hi.2)
    unfold yhr at hj
    simp only [Bool.or_eq_false_iff, Bool.not_eq_false', jS] at hj
    exact hj.2.1
   have hw : Go.IntKind.wrap .i64 ((yq vs (Yx vs n)).2.2.1 - 1) = (yq vs (Yx vs n)).2.2.1 - 1 := w64 (by omega) (by omega)
   rw [hw]
   exact loop _ _ s (Yx vs n) _ true 0 hi.1 hi.2 (by omega) (by omega) (by omega) (fun ok q' t' cs' hS => fin _ s ok q' t' cs' hi.1 hi.2 hS) (fun ok q' t' cs' hS => fin _ s ok q' t' cs' hi.1 hi.2 hS)
end
end Go.Proofs.YthgdjjdigalckaaGreat.Pl
namespace Go.Proofs.YthgdjjdigalckaaGreat.Pl
open Go.Proofs.YthgdjjdigalckaaGreat.R Go.Proofs.YthgdjjdigalckaaGreat.XC
def y0S {A : Type} (q : List ye) (t : List y8) (l : List yd) (cs : List yb) (vs : List yl) (z : Int) (o : Option (List ye × List y8 × List yd × List yb × List yl × Int × A)) : Prop :=
 ∃ q' t' l' cs' vs' z' c, o = some (q', t', l', cs', vs', z', c) ∧ (Tn q' t' l' cs' vs' ∨ (q', t', l', cs', vs', z') = (q, t, l, cs, vs, z))
section
variable {q : List ye} {t : List y8} {l : List yd} {cs : List yb} {vs : List yl} {z : Int}
theorem Res.a {o : Option P7a} (h : Res q t l cs vs z o) : y0S q t l cs vs z o := by
 obtain ⟨q', t', l', cs', vs', z', c, e, hc⟩ := h
 exact ⟨q', t', l', cs', vs', z', c, e, hc.imp y0C id⟩
theorem y0S.same {A : Type} (c : A) : y0S q t l cs vs z (some (q, t, l, cs, vs, z, c)) := ⟨_, _, _, _, _, _, c, rfl, .inr rfl⟩
theorem y0S.tn {A : Type} (c : A) {q' : List ye} {t' : List y8} {l' : List yd} {cs' : List yb} {vs' : List yl} {z' : Int} (h : Tn q' t' l' cs' vs') : y0S q t l cs vs z (some (q', t', l', cs', vs', z', c)) := ⟨_, _, _, _, _, _, c, rfl, .inl h⟩
theorem Tn.pack (h : Tn q t l cs vs) {i : Int} (h0 : 0 ≤ i) (h1 : i < (t.length : Int)) : Tn q (t.set i.toNat (zt (z4 (yh t i)))) l cs vs := by
 refine ⟨h.ql, ⟨by rw [List.length_set]; exact h.T.len, fun n hn => ?_⟩, h.ll, h.cl, h.vl, h.N, by rw [List.length_set]; exact h.e, by rw [List.length_set]; exact h.p⟩
 rcases List.mem_or_eq_of_mem_set hn with hn | rfl
 ·exact h.T.node n hn
 ·exact qE (nk h.T h0 h1).keys
end
section
variable {q : List ye} {t : List y8} {l : List yd} {cs : List yb} {vs : List yl} (z : Int) (h : SP q t l cs vs)
include h
theorem yby (i : Int) : y0S q t l cs vs z (YI (q, t, l, cs, vs, z, i)) := by
 unfold YI
 simp only [VX z h, Zz z h, Zy, Option.bind_some]
 cases hp : zk q t l cs vs z with
 | false =>
  simp only [Bool.not_false, cond_true, Option.bind_some]
  exact y0S.same _
 | true =>
  have hT := y0C hp
  simp only [Bool.not_true, cond_false, Option.bind_some]
  cases hi : inR i 0 (Go.IntKind.wrap .i64 (((List.length t : Nat) : Int) - (1 : Int))) with
  | false =>
   simp only [Bool.not_false, cond_true]
   exact y0S.same _
  | true =>
   have hl := hT.T.len
   have hw : Go.IntKind.wrap .i64 (((List.length t : Nat) : Int) - (1 : Int)) = ((List.length t : Nat) : Int) - 1 := w64 (by omega) (by omega)
   have hi2 := hi
   rw [hw, jS] at hi
   simp only [Bool.not_true, cond_false]
   unfold Wu Wt
   have hk := nk hT.T hi.1 (show i < (t.length : Int) by omega)
   simp only [VW q t h.S.1 h.S.2.1 (fun n hn => W6 h.S.2.2.1 hn), Zy, hi2, Option.bind_some, cond_true]
   simp only [if_pos hi.1, if_pos (show i < ((List.length t : Nat) : Int) by omega), Vc hT.T hi.1 (show i < (t.length : Int) by omega), JF (z4 (yh t i)) (Nat.le_trans hk.keys (by decide)), Option.bind_some]
   exact y0S.tn _ (hT.pack hi.1 (by omega))
theorem yhA (i : Int) : ∃ a b c d e, Wx (q, t, l, cs, vs, z, i) = some (a, b, c, d, e) := by
 have hq := h.tq
 have hk := y9q t
 have hs3 := h.S.2.2.1
 unfold Wx QZ
 simp only [zz q t (by have := h.S.2.1; omega) (fun n hn => by have := (W6 h.S.2.2.1 hn).1; omega) h.S.2.2.1, Option.bind_some]
 refine Zm (step := Ww _ _) (fun u : Wv => (zb t).length - u.2.1.toNat) (fun u => u.2.2.2.2.2.2.2 = zb t ∧ 0 ≤ u.2.1 ∧ u.2.1 ≤ (zb t).length) (fun _ (res : Option (Int × Int × Int × Int × Int)) => ∃ a b c d e : Int, res = some (a, b, c, d, e)) ?_ (i, 0, 0, 0, 0, 0, 0, zb t) ⟨rfl, Int.le_refl _, by simp⟩ (by simp only; omega)
 rintro again ⟨i1, j, a, b, c, d, e, ks⟩ ⟨e1, h0, h1⟩ hag
 simp only at e1 h0 h1 hag ⊢
 subst e1
 unfold Ww
 simp only [Bool.cond_eq_ite, decide_eq_true_eq]
 by_cases hj : j < ((zb t).length : Int)
 ·have hw : Go.IntKind.wrap .i64 (j + 1) = j + 1 := w64 (by omega) (by omega)
  simp only [if_pos hj, if_pos h0, hw, Option.bind_some]
  split
  ·simp only [Option.bind_some]
   split
   ·exact ⟨_, _, _, _, _, rfl⟩
   ·exact hag _ ⟨rfl, by simp only; omega, by simp only; omega⟩ (by simp only; omega)
  ·simp only [Option.bind_some, Bool.false_eq_true, if_false]
   exact hag _ ⟨rfl, by simp only; omega, by simp only; omega⟩ (by simp only; omega)
 ·simp only [if_neg hj]
  exact ⟨_, _, _, _, _, rfl⟩
theorem ybz (i : Int) : y0S q t l cs vs z (YJ (q, t, l, cs, vs, z, i)) := by
 unfold YJ
 simp only [VX z h, Zz z h, Zy, Option.bind_some]
 cases hp : zk q t l cs vs z with
 | false =>
  simp only [Bool.not_false, cond_true, Option.bind_some]
  exact y0S.same _
 | true =>
  have hT := y0C hp
  have hcl := hT.cl
  simp only [Bool.not_true, cond_false, Option.bind_some]
  have hw : Go.IntKind.wrap .i64 (((List.length cs : Nat) : Int) - (1 : Int)) = ((List.length cs : Nat) : Int) - 1 := w64 (by omega) (by omega)
  rw [hw]
  cases hi : inR i 0 (((List.length cs : Nat) : Int) - 1) with
  | false =>
   simp only [Bool.not_false, cond_true, Option.bind_some]
   exact y0S.same _
  | true =>
   rw [jS] at hi
   simp only [Bool.not_true, cond_false, if_pos hi.1, if_pos (show i < ((List.length cs : Nat) : Int) by omega), Option.bind_some]
   obtain ⟨a, b, c, d, e, e1⟩ := yhA z h i
   obtain ⟨cs', j, u, e2, h1, h2⟩ := y1A cs (yA cs i).2.2 h.S.2.2.2.2.1
   have hq := h.tq
   have hT2 := Kc (a, b, c, j, (yA cs' j).1) hq
   have hc' : cs'.length ≤ 1048576 := by rw [h1]; exact h.S.2.2.2.2.1
   cases (yA cs i).2.1 with
   | false =>
    simp only [Bool.not_false, cond_true]
    exact y0S.same _
   | true =>
    simp only [Bool.not_true, cond_false, e1, e2, Option.bind_some]
    cases u with
    | false =>
     simp only [Bool.not_false, cond_true, Option.bind_some]
     exact y0S.same _
    | true =>
     have h3 := h2 rfl
     simp only [Bool.not_true, cond_false, Option.bind_some]
     cases decide (j > i) with
     | true =>
      simp only [cond_true]
      exact y0S.same _
     | false =>
      have hx : SP (yw q t (a, b, c, j, (yA cs' j).1)).1 (yw q t (a, b, c, j, (yA cs' j).1)).2.1 l (y5w cs' i) vs := hT2.sp h h.S.2.2.2.1 (by rw [y2g]; exact hc')
      simp only [cond_false, if_pos h3.1, if_pos (show j < ((List.length cs' : Nat) : Int) by rw [h1]; exact h3.2), jc q t a b c j (yA cs' j).1 hq.T hq.Q hq.q, wK cs' i hc', Zz z hx, Option.bind_some]
      cases (yw q t (a, b, c, j, (yA cs' j).1)).2.2 with
      | false =>
       simp only [Bool.not_false, cond_true, Option.bind_some]
       exact y0S.same _
      | true =>
       simp only [Bool.not_true, cond_false, Option.bind_some]
       cases hp2 : zk (yw q t (a, b, c, j, (yA cs' j).1)).1 (yw q t (a, b, c, j, (yA cs' j).1)).2.1 l (y5w cs' i) vs z with
       | false =>
        simp only [Bool.not_false, cond_true]
        exact y0S.same _
       | true =>
        simp only [Bool.not_true, cond_false]
        exact y0S.tn _ (y0C hp2)
theorem yai : y0S q t l cs vs z (yI (q, t, l, cs, vs, z)) := by
 rw [qF z h]
 have key : yhw (KY q t l cs vs z).1 = true ∨ (KY q t l cs vs z).1 = (q, t, l, cs, vs, z) := by
  unfold KY
  split
  ·split
   ·exact .inr rfl
   ·unfold yfj
    split
    ·rename_i hh
     rw [Bool.and_eq_true] at hh
     exact .inl hh.2
    ·exact .inr rfl
  ·exact .inr rfl
 unfold y0Y
 rcases key with hk | hk
 ·exact y0S.tn _ (y0C hk)
 ·rw [hk]
  exact y0S.same _
theorem yhB (k : Int) (n m : ByteArray) (a b : Int) (hn : n.size ≤ 60) (hm : m.size ≤ 60) : y0S q t l cs vs z (Jm (q, t, l, cs, vs, z, k, n, m, a, b)) := by
 unfold Jm Kj
 simp only [yag k n m a b (y3r hn) (y3r hm), Zz z h, VX z h, Option.bind_some, ymz, yA8, yjn]
 have key : ∀ u : Bool, y0S q t l cs vs z (bif u then some (q, t, l, cs, vs, z, (1 : Int)) else bif (k == (1 : Int)) then JM (q, t, l, cs, vs, z, n, a) else bif (k == (2 : Int)) then kQ (q, t, l, cs, vs, z, n, m, (b == (1 : Int))) else bif (k == (3 : Int)) then jk (q, t, l, cs, vs, z, n) else bif (k == (4 : Int)) then wY (q, t, l, cs, vs, z, n, a, b) else bif (k == (5 : Int)) then jN (q, t, l, cs, vs, z, n, a) else bif (k == (6 : Int)) then JR (q, t, l, cs, vs, z, n, a) else
   Option.bind (bif (k == (7 : Int)) then yI (q, t, l, cs, vs, z) else bif (k == (8 : Int)) then YI (q, t, l, cs, vs, z, a) else YJ (q, t, l, cs, vs, z, a)) fun r11 => bif (!r11.2.2.2.2.2.2) then some (r11.1, r11.2.1, r11.2.2.1, r11.2.2.2.1, r11.2.2.2.2.1, r11.2.2.2.2.2.1, (2 : Int)) else some (r11.1, r11.2.1, r11.2.2.1, r11.2.2.2.1, r11.2.2.2.2.1, r11.2.2.2.2.2.1, (0 : Int))) := by
  intro u
  refine ZA (P := y0S q t l cs vs z) _ (fun _ => y0S.same _) fun _ => ZA (P := y0S q t l cs vs z) _ (fun _ => (yfo z h n a hn).a) fun _ => ZA (P := y0S q t l cs vs z) _ (fun _ => (ymA z h n m _ hn hm).a) fun _ => ZA (P := y0S q t l cs vs z) _ (fun _ => (yfp z h n hn).a) fun _ => ZA (P := y0S q t l cs vs z) _ (fun _ => (yhy z h n a b hn).a) fun _ => ZA (P := y0S q t l cs vs z) _ (fun _ => (ydr z h n a hn).a) fun _ => ZA (P := y0S q t l cs vs z) _ (fun _ => (yfr z h n a hn).a) fun _ => ?_
  have hs : y0S q t l cs vs z (bif (k == (7 : Int)) then yI (q, t, l, cs, vs, z) else bif (k == (8 : Int)) then YI (q, t, l, cs, vs, z, a) else YJ (q, t, l, cs, vs, z, a)) :=
   ZA (P := y0S q t l cs vs z) _ (fun _ => yai z h) fun _ => ZA (P := y0S q t l cs vs z) _ (fun _ => yby z h a) fun _ => ybz z h a
  obtain ⟨q', t', l', cs', vs', z', c, e, hc⟩ := hs
  rw [e]
  cases c
  ·exact ⟨_, _, _, _, _, _, _, rfl, hc⟩
  ·exact ⟨_, _, _, _, _, _, _, rfl, hc⟩
 cases yA7 k n m a b
 ·exact key true
 ·exact key _
end
end Go.Proofs.YthgdjjdigalckaaGreat.Pl
namespace Go.Proofs.YthgdjjdigalckaaGreat.Pl
open Go.Proofs.YthgdjjdigalckaaGreat.R Go.Proofs.YthgdjjdigalckaaGreat.XC
theorem yfs (c : List Int) (p s : Int) (L : List ByteArray) (hL : 0 < L.length) (hL2 : L.length ≤ 1048576) (hs : ∀ t ∈ L, t.size ≤ 60) (h : Yg c p) : J0 (Jh (c, p, s, L)) c (fun v => v.size ≤ 60) := by
 obtain ⟨v, p1, s1, e1, h1, q1⟩ := z9 c p s (L.length : Int) h
 have := q1.2 (by omega)
 unfold Jh
 rw [e1]
 simp only [Option.bind_some]
 rw [if_pos q1.1, if_pos this]
 exact ⟨_, _, _, rfl, h1, hs _ (zg ygi L v q1.1 this)⟩
theorem yft (c : List Int) (p s : Int) (h : Yg c p) : J0 (zM (c, p, s)) c (fun v => v.size ≤ 60) := by
 obtain ⟨v, p1, s1, e1, h1, q1⟩ := yfs c p s [{ data := #[97] }, { data := #[98] }, { data := #[99] }, { data := #[100] }, { data := #[101, 53] }] (by simp) (by simp) (by decide) h
 unfold zM
 rw [e1]
 exact ⟨_, _, _, rfl, h1, q1⟩
theorem yhC (c : List Int) (p s : Int) (h : Yg c p) : J0 (Yw (c, p, s)) c (fun _ => True) := by
 obtain ⟨v, p1, s1, e1, h1, q1⟩ := z9 c p s 200 h
 unfold Yw
 rw [e1]
 simp only [Option.bind_some]
 obtain ⟨v2, p2, s2, e2, h2, q2⟩ := W7 c p1 s1 [0, 1, 2, 7, 65535, Go.IntKind.wrap .i64 (1 + v)] (by simp) (by simp) h1
 rw [e2]
 exact ⟨_, _, _, rfl, h2, trivial⟩
def y56 (o : Option (Int × ByteArray × ByteArray × Int × Int × List Int × Int × Int)) (c : List Int) : Prop := ∃ k n t a b p s, o = some (k, n, t, a, b, c, p, s) ∧ Yg c p ∧ ByteArray.size n ≤ 60 ∧ ByteArray.size t ≤ 60
theorem yuN {c : List Int} {p s : Int} {L : List Int} {k b : Int} {n t : ByteArray} (hL : 0 < L.length) (hL2 : L.length ≤ 1048576) (h : Yg c p) (hn : n.size ≤ 60) (ht : t.size ≤ 60) :
  y56 (Option.bind (yr (c, p, s, L)) fun r => some (k, n, t, r.1, b, r.2.1, r.2.2.1, r.2.2.2)) c := by
 obtain ⟨v, p1, s1, e1, h1, _⟩ := W7 c p s L hL hL2 h
 rw [e1]
 exact ⟨_, _, _, _, _, _, _, rfl, h1, hn, ht⟩
theorem yuO {c : List Int} {p s m : Int} {k b : Int} {n t : ByteArray} (h : Yg c p) (hn : n.size ≤ 60) (ht : t.size ≤ 60) :
  y56 (Option.bind (yc (c, p, s, m)) fun r => some (k, n, t, r.1, b, r.2.1, r.2.2.1, r.2.2.2)) c := by
 obtain ⟨v, p1, s1, e1, h1, _⟩ := z9 c p s m h
 rw [e1]
 exact ⟨_, _, _, _, _, _, _, rfl, h1, hn, ht⟩
theorem yuP {c : List Int} {p s : Int} {L : List Int} {k a : Int} {n : ByteArray} (hL : 0 < L.length) (hL2 : L.length ≤ 1048576) (h : Yg c p) (hn : n.size ≤ 60) :
  y56 (Option.bind (zM (c, p, s)) fun r4 => Option.bind (yr (r4.2.1, r4.2.2.1, r4.2.2.2, L)) fun r5 => some (k, n, r4.1, a, r5.1, r5.2.1, r5.2.2.1, r5.2.2.2)) c := by
 obtain ⟨v, p1, s1, e1, h1, q1⟩ := yft c p s h
 rw [e1]
 simp only [Option.bind_some]
 obtain ⟨v2, p2, s2, e2, h2, _⟩ := W7 c p1 s1 L hL hL2 h1
 rw [e2]
 exact ⟨_, _, _, _, _, _, _, rfl, h2, hn, q1⟩
theorem yuQ {c : List Int} {p s m : Int} {k : Int} {n t : ByteArray} (h : Yg c p) (hn : n.size ≤ 60) (ht : t.size ≤ 60) :
  y56 (Option.bind (yc (c, p, s, m)) fun r6 => Option.bind (Yw (r6.2.1, r6.2.2.1, r6.2.2.2)) fun r7 => some (k, n, t, r6.1, r7.1, r7.2.1, r7.2.2.1, r7.2.2.2)) c := by
 obtain ⟨v, p1, s1, e1, h1, _⟩ := z9 c p s m h
 rw [e1]
 simp only [Option.bind_some]
 obtain ⟨v2, p2, s2, e2, h2, _⟩ := yhC c p1 s1 h1
 rw [e2]
 exact ⟨_, _, _, _, _, _, _, rfl, h2, hn, ht⟩
theorem yuR {c : List Int} {p s k a b : Int} {n t : ByteArray} (h : Yg c p) (hn : n.size ≤ 60) (ht : t.size ≤ 60) : y56 (some (k, n, t, a, b, c, p, s)) c := ⟨_, _, _, _, _, _, _, rfl, h, hn, ht⟩
theorem yAa : (⟨#[]⟩ : ByteArray).size ≤ 60 := by decide
theorem yK {A : Type} {P : A → Prop} (b : Bool) {x y : A} (hx : P x) (hy : P y) : P (bif b then x else y) := by cases b <;> assumption
theorem yAb (c : List Int) (p s : Int) (h : Yg c p) : y56 (Zv (c, p, s)) c := by
 unfold Zv
 obtain ⟨v, p1, s1, e1, h1, _⟩ := W7 c p s [1, 1, 1, 2, 2, 3, 4, 4, 4, 4, 4, 4, 5, 6, 7, 7, 8, 9] (by simp) (by simp) h
 rw [e1]
 simp only [Option.bind_some]
 obtain ⟨n, p2, s2, e2, h2, hn⟩ := yfs c p1 s1 [{ data := #[97] }, { data := #[97] }, { data := #[98] }, { data := #[99] }, { data := #[100] }] (by simp) (by simp) (by decide) h1
 rw [e2]
 simp only [Option.bind_some]
 have hz := yAa
 repeat' (first
  | with_reducible refine yK (P := fun o => y56 o c) _ ?_ ?_
  | with_reducible exact yuN (by simp) (by simp) h2 hn hz
  | with_reducible exact yuN (by simp) (by simp) h1 hz hz
  | with_reducible exact yuP (by simp) (by simp) h2 hn
  | with_reducible exact yuP (by simp) (by simp) h1 hz
  | with_reducible exact yuQ h2 hn hz
  | with_reducible exact yuQ h1 hz hz
  | with_reducible exact yuO h2 hn hz
  | with_reducible exact yuO h1 hz hz
  | with_reducible exact yuR h2 hn hz
  | with_reducible exact yuR h1 hz hz)
end Go.Proofs.YthgdjjdigalckaaGreat.Pl
namespace Go.Proofs.YthgdjjdigalckaaGreat.Pl
open Go.Proofs.YthgdjjdigalckaaGreat.R Go.Proofs.YthgdjjdigalckaaGreat.XC
def Q2 (o : Option (Int × Int × Int × Int × Int × List Int × Int × Int)) (c : List Int) : Prop := ∃ a b k d g p s, o = some (a, b, k, d, g, c, p, s) ∧ Yg c p
theorem y0T (c : List Int) (p s : Int) (h : Yg c p) : Q2 (zN (c, p, s)) c := by
 obtain ⟨v1, p1, s1, e1, h1, q1⟩ := z9 c p s 4 h
 obtain ⟨v2, p2, s2, e2, h2, q2⟩ := z9 c p1 s1 5 h1
 obtain ⟨v3, p3, s3, e3, h3, q3⟩ := W7 c p2 s2 [0, 1, 1, 1, 2] (by simp) (by simp) h2
 obtain ⟨v4, p4, s4, e4, h4, q4⟩ := z9 c p3 s3 24 h3
 obtain ⟨v5, p5, s5, e5, h5, q5⟩ := W7 c p4 s4 [0, 1, 256, 999] (by simp) (by simp) h4
 unfold zN
 simp only [e1, e2, e3, e4, e5, Option.bind_some]
 exact yK (P := fun o => Q2 o c) _ ⟨_, _, _, _, _, _, _, rfl, h5⟩ ⟨_, _, _, _, _, _, _, rfl, h3⟩
theorem ymB (c : List Int) (p s : Int) (h : Yg c p) : Q2 (Ky (c, p, s)) c := by
 obtain ⟨a, b, k, d, g, p1, s1, e1, h1⟩ := y0T c p s h
 obtain ⟨v2, p2, s2, e2, h2, q2⟩ := z9 c p1 s1 12 h1
 obtain ⟨v3, p3, s3, e3, h3, q3⟩ := W7 c p2 s2 [-1, 15, 16] (by simp) (by simp) h2
 obtain ⟨v4, p4, s4, e4, h4, q4⟩ := W7 c p2 s2 [0, 60, 61] (by simp) (by simp) h2
 obtain ⟨v5, p5, s5, e5, h5, q5⟩ := W7 c p2 s2 [-1, 3] (by simp) (by simp) h2
 obtain ⟨v6, p6, s6, e6, h6, q6⟩ := W7 c p2 s2 [-1, 1, 23, 24] (by simp) (by simp) h2
 obtain ⟨v7, p7, s7, e7, h7, q7⟩ := W7 c p2 s2 [-1, 1, 999, 1000] (by simp) (by simp) h2
 unfold Ky
 simp only [e1, e2, e3, e4, e5, e6, e7, Option.bind_some]
 exact yK (P := fun o => Q2 o c) _ ⟨_, _, _, _, _, _, _, rfl, h3⟩ (yK (P := fun o => Q2 o c) _ ⟨_, _, _, _, _, _, _, rfl, h4⟩ (yK (P := fun o => Q2 o c) _ ⟨_, _, _, _, _, _, _, rfl, h5⟩ (yK (P := fun o => Q2 o c) _ ⟨_, _, _, _, _, _, _, rfl, h6⟩ (yK (P := fun o => Q2 o c) _ ⟨_, _, _, _, _, _, _, rfl, h7⟩ ⟨_, _, _, _, _, _, _, rfl, h2⟩))))
theorem ymC (c : List Int) (p s : Int) (h : Yg c p) : Q2 (Jn (c, p, s)) c := by
 obtain ⟨a, b, k, d, g, p1, s1, e1, h1⟩ := y0T c p s h
 obtain ⟨v2, p2, s2, e2, h2, q2⟩ := z9 c p1 s1 12 h1
 unfold Jn
 simp only [e1, e2, Option.bind_some]
 exact ⟨_, _, _, _, _, _, _, rfl, h2⟩
theorem ymD (c : List Int) (p s m : Int) (h : Yg c p) (m0 : 0 ≤ m) (m1 : m ≤ 100) : J0 (WL (c, p, s, m)) c (fun l => l.length ≤ 101) := by
 obtain ⟨v1, p1, s1, e1, h1, q1⟩ := z9 c p s (m + 1) h
 have b1 := q1.2 (by omega)
 unfold WL y04
 try simp only []
 rw [show Go.IntKind.wrap .i64 (m + 1) = m + 1 from w64 (by omega) (by omega), e1]
 simp only [Option.bind_some]
 refine Zm (step := WK _) (fun u : WJ => u.1.toNat) (fun u => ∃ k l p s, u = (k, c, p, s, l) ∧ Yg c p ∧ 0 ≤ k ∧ (List.length l : Int) + k ≤ 101) (fun _ (res : Option (List y9 × List Int × Int × Int)) => J0 res c (fun l : List y9 => l.length ≤ 101)) ?_ (v1, c, p1, s1, []) ⟨v1, [], p1, s1, rfl, h1, q1.1, by simp; omega⟩ (by simp only; omega)
 rintro again _ ⟨k, l, p, s, rfl, hc, hk, hl⟩ hag
 unfold WK
 simp only [Bool.cond_eq_ite, decide_eq_true_eq]
 by_cases hk2 : k > 0
 ·obtain ⟨a, b, kk, d, g, p2, s2, e2, h2⟩ := y0T c p s hc
  have hs := JX l (a, b, kk, d, g)
  have hw : Go.IntKind.wrap .i64 (k - 1) = k - 1 := w64 (by omega) (by omega)
  simp only [if_pos hk2, e2, Option.bind_some, wx l a b kk d g (by omega), hw]
  exact hag _ ⟨_, _, _, _, rfl, h2, by omega, by omega⟩ (by simp only; omega)
 ·simp only [if_neg hk2]
  exact ⟨_, _, _, rfl, hc, by simp only; omega⟩
theorem yds (c : List Int) (p s m : Int) (h : Yg c p) (m0 : 0 ≤ m) (m1 : m ≤ 100) : J0 (Kz (c, p, s, m)) c (fun l => l.length ≤ 102) := by
 obtain ⟨l, p1, s1, e1, h1, q1⟩ := ymD c p s m h m0 m1
 obtain ⟨v2, p2, s2, e2, h2, q2⟩ := z9 c p1 s1 8 h1
 obtain ⟨a, b, k, d, g, p3, s3, e3, h3⟩ := ymB c p2 s2 h2
 unfold Kz
 simp only [e1, e2, e3, Option.bind_some]
 refine yK (P := fun o => J0 o c (fun l : List y9 => l.length ≤ 102)) _ ?_ (yK (P := fun o => J0 o c (fun l : List y9 => l.length ≤ 102)) _ (ZA (P := fun o => J0 o c (fun l : List y9 => l.length ≤ 102)) _ (fun hh => ?_) fun _ => ⟨_, _, _, rfl, h2, by omega⟩) ⟨_, _, _, rfl, h2, by omega⟩)
 ·rw [if_pos (by simp only [List.length_cons, List.length_nil]; omega)]
  exact ⟨_, _, _, rfl, h3, by simp only [List.length_append, List.length_cons, List.length_nil]; omega⟩
 ·have hh := of_decide_eq_true hh
  simp only [List.length_set, if_pos (Int.le_refl (0 : Int)), if_pos (show (0 : Int) < ((List.length l : Nat) : Int) by omega), if_pos (show (0 : Int) ≤ 1 by omega), if_pos (show (1 : Int) < ((List.length l : Nat) : Int) by omega)]
  exact ⟨_, _, _, rfl, h2, by simp only [List.length_set]; omega⟩
def Nsm (n : List ya) (a : Nat) (b : Int) : Prop := n.length ≤ a ∧ W4 Vi n ≤ b
theorem Nsm.ns {n : List ya} {a : Nat} {b : Int} (h : Nsm n a b) (ha : a ≤ 900) (hb : b ≤ 900) : NS n := ⟨Nat.le_trans h.1 (by omega), by have := h.2; omega⟩
theorem ybA (n : List ya) (k : y9) (h : Nsm n 3 8) : Nsm (zs n k).1 3 8 := by
 unfold zs
 split
 ·rename_i hh
  exact ⟨(jb hh).1, (jb hh).2.1⟩
 ·split
  ·exact h
  ·split
   ·rename_i hh
    exact ⟨(jb hh).1, (jb hh).2.1⟩
   ·exact h
theorem yhD (c : List Int) (p s : Int) (h : Yg c p) : J0 (WI (c, p, s)) c (fun n : List ya => Nsm n 3 8) := by
 obtain ⟨v1, p1, s1, e1, h1, q1⟩ := z9 c p s 12 h
 have b1 := q1.2 (by omega)
 have z0 : Nsm [] 3 8 := ⟨by simp, by simp [W4]⟩
 unfold WI y03
 rw [e1]
 simp only [Option.bind_some]
 refine Zm (step := Jo _ _) (fun u : WH => match u with | .inl u => u.1.toNat | .inr u => u.1.toNat) (fun u => match u with | .inl u => ∃ k p s, u = (k, c, p, s) ∧ Yg c p ∧ 0 ≤ k ∧ k ≤ 100 | .inr u => ∃ k n p s, u = (k, c, p, s, n) ∧ Yg c p ∧ 0 ≤ k ∧ k ≤ 100 ∧ Nsm n 3 8) (fun _ (res : Option (List ya × List Int × Int × Int)) => J0 res c (fun n : List ya => Nsm n 3 8)) ?_ (Sum.inl (v1, c, p1, s1)) ⟨v1, p1, s1, rfl, h1, q1.1, by omega⟩ (by simp only; omega)
 intro again u hu hag
 have step : ∀ (k : Int) (n : List ya) (p s : Int), Yg c p → 0 ≤ k → k ≤ 100 → Nsm n 3 8 → k > 0 → (∀ k' n' p' s', Yg c p' → 0 ≤ k' → k' < k → Nsm n' 3 8 → J0 (again (Sum.inr (k', c, p', s', n'))) c (fun n : List ya => Nsm n 3 8)) → J0 (Option.bind (zN (c, p, s)) fun r2 => Option.bind (Yz (n, r2.1, r2.2.1, r2.2.2.1, r2.2.2.2.1, r2.2.2.2.2.1)) fun r3 => again (Sum.inr ((Go.IntKind.wrap .i64 (k - (1 : Int))), r2.2.2.2.2.2.1, r2.2.2.2.2.2.2.1, r2.2.2.2.2.2.2.2, r3.1))) c (fun n : List ya => Nsm n 3 8) := by
  intro k n p s hc k0 k1 hn hk hag2
  obtain ⟨a, b, kk, d, g, p2, s2, e2, h2⟩ := y0T c p s hc
  have hw : Go.IntKind.wrap .i64 (k - 1) = k - 1 := w64 (by omega) (by omega)
  simp only [e2, Option.bind_some, y0x n a b kk d g (hn.ns (by omega) (by omega)), hw]
  exact hag2 _ _ _ _ h2 (by omega) (by omega) (ybA n _ hn)
 cases u with
 | inl u =>
  obtain ⟨k, p, s, rfl, hc, k0, k1⟩ := hu
  unfold Jo
  simp only [Bool.cond_eq_ite, decide_eq_true_eq]
  by_cases hk : k > 0
  ·simp only [if_pos hk]
   exact step k [] p s hc k0 k1 z0 hk fun k' n' p' s' g1 g2 g3 g4 => hag _ ⟨_, _, _, _, rfl, g1, g2, by omega, g4⟩ (by simp only; omega)
  ·simp only [if_neg hk]
   exact ⟨_, _, _, rfl, hc, z0⟩
 | inr u =>
  obtain ⟨k, n, p, s, rfl, hc, k0, k1, hn⟩ := hu
  unfold Jo
  simp only [Bool.cond_eq_ite, decide_eq_true_eq]
  by_cases hk : k > 0
  ·simp only [if_pos hk]
   exact step k n p s hc k0 k1 hn hk fun k' n' p' s' g1 g2 g3 g4 => hag _ ⟨_, _, _, _, rfl, g1, g2, by omega, g4⟩ (by simp only; omega)
  ·simp only [if_neg hk]
   exact ⟨_, _, _, rfl, hc, hn⟩
theorem y57 (c : List Int) (p s : Int) (h : Yg c p) : J0 (wZ (c, p, s)) c (fun n : List ya => NS n) := by
 obtain ⟨n, p1, s1, e1, h1, q1⟩ := yhD c p s h
 obtain ⟨v2, p2, s2, e2, h2, q2⟩ := z9 c p1 s1 8 h1
 obtain ⟨l, p3, s3, e3, h3, q3⟩ := yds c p2 s2 6 h2 (by omega) (by omega)
 obtain ⟨a, b, k, d, g, p4, s4, e4, h4⟩ := y0T c p2 s2 h2
 obtain ⟨a5, b5, k5, d5, g5, p5, s5, e5, h5⟩ := y0T c p4 s4 h4
 have hl := q1.1
 have hs := q1.2
 unfold wZ
 simp only [e1, e2, e3, e4, e5, Option.bind_some]
 refine yK (P := fun o => J0 o c (fun n : List ya => NS n)) _ ?_ (yK (P := fun o => J0 o c (fun n : List ya => NS n)) _ ?_ ⟨_, _, _, rfl, h2, q1.ns (by omega) (by omega)⟩)
 ·rw [if_pos (by simp only [List.length_cons, List.length_nil]; omega)]
  refine ⟨_, _, _, rfl, h3, ⟨by rw [List.length_append]; simp only [List.length_cons, List.length_nil]; omega, ?_⟩⟩
  rw [y2d]
  have : Vi l = (List.length l : Int) := rfl
  omega
 ·rw [if_pos (by simp only [List.length_cons, List.length_nil]; omega)]
  refine ⟨_, _, _, rfl, h5, ⟨by rw [List.length_append]; simp only [List.length_cons, List.length_nil]; omega, ?_⟩⟩
  rw [show n ++ [[(a, b, k, d, g)], [(a5, b5, k5, d5, g5)]] = (n ++ [[(a, b, k, d, g)]]) ++ [[(a5, b5, k5, d5, g5)]] by simp, y2d, y2d]
  have e1 : Vi [(a, b, k, d, g)] = 1 := rfl
  have e2 : Vi [(a5, b5, k5, d5, g5)] = 1 := rfl
  omega
theorem yfu (q : List ye) (t : List y8) (k : y9) (h : TS t ∧ q.length = t.length ∧ 1 ≤ t.length ∧ t.length ≤ 20) : TS (yw q t k).2.1 ∧ (yw q t k).1.length = (yw q t k).2.1.length ∧ 1 ≤ (yw q t k).2.1.length ∧ (yw q t k).2.1.length ≤ 20 := by
 unfold yw
 split
 ·split
  ·rename_i hj
   have h1 := wz hj
   exact ⟨y2f hj, h1.1, h1.2.1, h1.2.2.1⟩
  ·exact h
 ·exact h
def y58 (o : Option (List ye × List y8 × List Int × Int × Int)) (c : List Int) (Q : List ye → List y8 → Prop) : Prop := ∃ q t p s, o = some (q, t, c, p, s) ∧ Yg c p ∧ Q q t
def yvt (q : List ye) (t : List y8) : Prop := TS t ∧ q.length = t.length ∧ 1 ≤ t.length ∧ t.length ≤ 20
theorem yhE (c : List Int) (p s m : Int) (h : Yg c p) (m0 : 0 ≤ m) (m1 : m ≤ 1000) : y58 (WG (c, p, s, m)) c yvt := by
 obtain ⟨v1, p1, s1, e1, h1, q1⟩ := z9 c p s (m + 1) h
 have b1 := q1.2 (by omega)
 have z0 : yvt [0] [[]] := ⟨⟨by simp, fun n hn => by
  rw [List.mem_singleton.1 hn]
  exact ⟨by simp, by simp [W4]⟩⟩, rfl, by simp, by simp⟩
 unfold WG y02 jL
 simp only [Option.bind_some]
 try simp only []
 rw [show Go.IntKind.wrap .i64 (m + 1) = m + 1 from w64 (by omega) (by omega), e1]
 simp only [Option.bind_some]
 refine Zm (step := WF _) (fun u : WE => u.1.toNat) (fun u => ∃ k q t p s, u = (k, c, p, s, q, t) ∧ Yg c p ∧ 0 ≤ k ∧ k ≤ 1000 ∧ yvt q t) (fun _ (res : Option (List ye × List y8 × List Int × Int × Int)) => y58 res c yvt) ?_ (v1, c, p1, s1, [0], [[]]) ⟨v1, _, _, p1, s1, rfl, h1, q1.1, by omega, z0⟩ (by simp only; omega)
 rintro again _ ⟨k, q, t, p, s, rfl, hc, k0, k1, hT⟩ hag
 unfold WF
 simp only [Bool.cond_eq_ite, decide_eq_true_eq]
 by_cases hk : k > 0
 ·obtain ⟨a, b, kk, d, g, p2, s2, e2, h2⟩ := ymC c p s hc
  have hw : Go.IntKind.wrap .i64 (k - 1) = k - 1 := w64 (by omega) (by omega)
  have hq := hT.1.tq (q := q) (by have := hT.2.1; have := hT.2.2.2; omega)
  simp only [if_pos hk, e2, Option.bind_some, jc q t a b kk d g hq.T hq.Q hq.q, hw]
  exact hag _ ⟨_, _, _, _, _, rfl, h2, by omega, by omega, yfu q t _ hT⟩ (by simp only; omega)
 ·simp only [if_neg hk]
  exact ⟨_, _, _, _, rfl, hc, hT⟩
theorem ybB (c : List Int) (p s m : Int) (h : Yg c p) (m0 : 0 ≤ m) (m1 : m ≤ 1000) : y58 (KA (c, p, s, m)) c TQ := by
 obtain ⟨q, t, p1, s1, e1, h1, q1⟩ := yhE c p s m h m0 m1
 obtain ⟨v2, p2, s2, e2, h2, q2⟩ := z9 c p1 s1 12 h1
 obtain ⟨v3, p3, s3, e3, h3, q3⟩ := z9 c p2 s2 (q.length : Int) h2
 obtain ⟨v4, p4, s4, e4, h4, q4⟩ := W7 c p3 s3 [0, -1, 1, 300] (by simp) (by simp) h3
 obtain ⟨n5, p5, s5, e5, h5, q5⟩ := y57 c p2 s2 h2
 obtain ⟨v6, p6, s6, e6, h6, q6⟩ := z9 c p2 s2 (t.length : Int) h2
 obtain ⟨n7, p7, s7, e7, h7, q7⟩ := y57 c p6 s6 h6
 obtain ⟨hT, hql, t1, t2⟩ := q1
 have b3 := q3.2 (by omega)
 have b6 := q6.2 (by omega)
 unfold KA
 simp only [e1, e2, e3, e4, e5, e6, e7, Option.bind_some]
 refine yK (P := fun o => y58 o c TQ) _ ?_ (yK (P := fun o => y58 o c TQ) _ ?_ (yK (P := fun o => y58 o c TQ) _ ?_ (yK (P := fun o => y58 o c TQ) _ ?_ ?_)))
 ·rw [if_pos q3.1, if_pos b3]
  exact ⟨_, _, _, _, rfl, h4, hT.tq (by rw [List.length_set]; omega)⟩
 ·rw [if_pos (by simp only [List.length_cons, List.length_nil]; omega)]
  refine ⟨_, _, _, _, rfl, h5, TS.tq ⟨by rw [List.length_append]; simp only [List.length_cons, List.length_nil]; omega, fun n hn => ?_⟩ (by omega)⟩
  rcases List.mem_append.1 hn with hn | hn
  ·exact hT.node n hn
  ·rw [List.mem_singleton.1 hn]
   exact q5
 ·rw [if_pos q6.1, if_pos b6]
  refine ⟨_, _, _, _, rfl, h7, TS.tq ⟨by rw [List.length_set]; omega, fun n hn => ?_⟩ (by omega)⟩
  rcases List.mem_or_eq_of_mem_set hn with hn | rfl
  ·exact hT.node n hn
  ·exact q7
 ·exact ⟨_, _, _, _, rfl, h2, TS.tq ⟨by simp, fun n hn => by cases hn⟩ (by simp)⟩
 ·exact ⟨_, _, _, _, rfl, h2, hT.tq (by omega)⟩
end Go.Proofs.YthgdjjdigalckaaGreat.Pl
namespace Go.Proofs.YthgdjjdigalckaaGreat.Pl
open Go.Proofs.YthgdjjdigalckaaGreat.R Go.Proofs.YthgdjjdigalckaaGreat.XC
theorem y8y (c : List Int) (p s n : Int) (h : Yg c p) : J0 (Zc (c, p, s, n)) c (fun _ => True) := by
 obtain ⟨v, p1, s1, e1, h1, q1⟩ := z9 c p s n h
 unfold Zc
 rw [e1]
 exact ⟨_, _, _, rfl, h1, trivial⟩
abbrev AL : Type := List yd × List Int × Int × Int
theorem yhF (c : List Int) (p s : Int) (h : Yg c p) : J0 (WO (c, p, s)) c (fun l : List yd => l.length ≤ 8) := by
 obtain ⟨v1, p1, s1, e1, h1, q1⟩ := z9 c p s 8 h
 have b1 := q1.2 (by omega)
 unfold WO y05
 rw [e1]
 simp only [Option.bind_some]
 refine Zm (step := WN _) (fun u : WM => u.1.toNat) (fun u => ∃ k l p s, u = (k, c, p, s, l) ∧ Yg c p ∧ 0 ≤ k ∧ (List.length l : Int) + k ≤ 8) (fun _ (res : Option AL) => J0 res c (fun l : List yd => l.length ≤ 8)) ?_ (v1, c, p1, s1, []) ⟨v1, [], p1, s1, rfl, h1, q1.1, by simp; omega⟩ (by simp only; omega)
 rintro again _ ⟨k, l, p, s, rfl, hc, hk, hl⟩ hag
 unfold WN
 simp only [Bool.cond_eq_ite, decide_eq_true_eq]
 by_cases hk2 : k > 0
 ·have hw : Go.IntKind.wrap .i64 (k - 1) = k - 1 := w64 (by omega) (by omega)
  have step : ∀ (p s id fr : Int), Yg c p → J0 (Option.bind (zU (l, id, fr)) fun r => again (k - 1, c, p, s, r.1)) c (fun l : List yd => l.length ≤ 8) := fun p s id fr hp => by
   obtain ⟨l', b, e2, h2⟩ := y2i l id fr (by omega)
   rw [e2]
   exact hag (k - 1, c, p, s, l') ⟨k - 1, l', p, s, rfl, hp, by omega, by omega⟩ (by simp only; omega)
  obtain ⟨v2, p2, s2, e2, h2, _⟩ := y8y c p s 4 hc
  obtain ⟨v3, p3, s3, e3, h3, q3⟩ := z9 c p2 s2 (l.length : Int) h2
  obtain ⟨v4, p4, s4, e4, h4, _⟩ := z9 c p3 s3 8 h3
  obtain ⟨v6, p6, s6, e6, h6, _⟩ := z9 c p2 s2 8 h2
  obtain ⟨v8, p8, s8, e8, h8, _⟩ := z9 c p s 8 hc
  simp only [if_pos hk2, hw, e2, e3, e6, e8, Option.bind_some]
  split
  ·rename_i hlen
   split
   ·rw [if_pos q3.1, if_pos (q3.2 hlen), e4]
    exact step _ _ _ _ h4
   ·exact step _ _ _ _ h6
  ·exact step _ _ _ _ h8
 ·simp only [if_neg hk2]
  exact ⟨_, _, _, rfl, hc, by simp only; omega⟩
theorem ybC (c : List Int) (p s : Int) (h : Yg c p) : J0 (KB (c, p, s)) c (fun l : List yd => l.length ≤ 100) := by
 obtain ⟨l, p1, s1, e1, h1, q1⟩ := yhF c p s h
 obtain ⟨v2, p2, s2, e2, h2, q2⟩ := z9 c p1 s1 8 h1
 obtain ⟨v3, p3, s3, e3, h3, q3⟩ := W7 c p2 s2 [0, 3, 60, 61] (by simp) (by simp) h2
 obtain ⟨v4, p4, s4, e4, h4, q4⟩ := W7 c p3 s3 [0, 1, 9, -1] (by simp) (by simp) h3
 obtain ⟨v5, p5, s5, e5, h5, q5⟩ := W7 c p2 s2 [1, 2, 3] (by simp) (by simp) h2
 unfold KB
 simp only [e1, e2, e3, e4, e5, Option.bind_some]
 refine yK (P := fun o => J0 o c (fun l : List yd => l.length ≤ 100)) _ ?_ (yK (P := fun o => J0 o c (fun l : List yd => l.length ≤ 100)) _ (ZA (P := fun o => J0 o c (fun l : List yd => l.length ≤ 100)) _ (fun hh => ?_) fun _ => ⟨_, _, _, rfl, h2, by omega⟩) (yK (P := fun o => J0 o c (fun l : List yd => l.length ≤ 100)) _ ?_ ⟨_, _, _, rfl, h2, by omega⟩))
 ·rw [if_pos (by simp only [List.length_cons, List.length_nil]; omega)]
  exact ⟨_, _, _, rfl, h4, by simp only [List.length_append, List.length_cons, List.length_nil]; omega⟩
 ·have hh := of_decide_eq_true hh
  rw [if_pos (Int.le_refl _), if_pos (show (0 : Int) < ((List.length l : Nat) : Int) by omega)]
  exact ⟨_, _, _, rfl, h5, by simp only [List.length_set]; omega⟩
 ·unfold y06
  refine Zm (step := WQ _) (fun u : WP => (14 - u.1).toNat) (fun u => ∃ k l p s, u = (k, c, p, s, l) ∧ Yg c p ∧ 0 ≤ k ∧ k ≤ 14 ∧ (List.length l : Int) ≤ 8 + k) (fun _ (res : Option AL) => J0 res c (fun l : List yd => l.length ≤ 100)) ?_ (0, c, p2, s2, l) ⟨0, l, p2, s2, rfl, h2, Int.le_refl _, by omega, by omega⟩ (by simp only; omega)
  rintro again _ ⟨k, l, p, s, rfl, hc, k0, k1, hl⟩ hag
  unfold WQ
  simp only [Bool.cond_eq_ite, decide_eq_true_eq]
  by_cases hk2 : k < 14
  ·have hw : Go.IntKind.wrap .i64 (k + 1) = k + 1 := w64 (by omega) (by omega)
   simp only [if_pos hk2, hw, List.length_cons, List.length_nil]
   rw [if_pos (by omega)]
   exact hag _ ⟨_, _, _, _, rfl, hc, by omega, by omega, by simp only [List.length_append, List.length_cons, List.length_nil]; omega⟩ (by simp only; omega)
  ·simp only [if_neg hk2]
   exact ⟨_, _, _, rfl, hc, by simp only; omega⟩
abbrev CL : Type := List yb × List Int × Int × Int
theorem yfv (c : List Int) (p s : Int) (h : Yg c p) : J0 (WT (c, p, s)) c (fun l : List yb => l.length = 24) := by
 obtain ⟨v1, p1, s1, e1, h1, q1⟩ := z9 c p s 30 h
 have b1 := q1.2 (by omega)
 unfold WT y07 ZO
 rw [if_pos (by omega), if_pos (by omega), if_pos (by decide)]
 simp only [Option.bind_some]
 rw [e1]
 simp only [Option.bind_some]
 refine Zm (step := WS _) (fun u : WR => u.1.toNat) (fun u => ∃ k l p s, u = (k, c, p, s, l) ∧ Yg c p ∧ 0 ≤ k ∧ k ≤ 30 ∧ List.length l = 24) (fun _ (res : Option CL) => J0 res c (fun l : List yb => l.length = 24)) ?_ (v1, c, p1, s1, List.replicate (Int.toNat (24 : Int)) ZB) ⟨v1, _, p1, s1, rfl, h1, q1.1, by omega, by simp⟩ (by simp only; omega)
 rintro again _ ⟨k, l, p, s, rfl, hc, k0, k1, hl⟩ hag
 unfold WS
 simp only [Bool.cond_eq_ite, decide_eq_true_eq]
 by_cases hk2 : k > 0
 ·have hw : Go.IntKind.wrap .i64 (k - 1) = k - 1 := w64 (by omega) (by omega)
  obtain ⟨v2, p2, s2, e2, h2, _⟩ := y8y c p s 3 hc
  obtain ⟨v3, p3, s3, e3, h3, q3⟩ := z9 c p2 s2 6 h2
  obtain ⟨v4, p4, s4, e4, h4, q4⟩ := W7 c p2 s2 [0, 5, 65535] (by simp) (by simp) h2
  obtain ⟨l', i, b, e5, h5, _⟩ := y1A l v4 (by omega)
  simp only [if_pos hk2, hw, e2, e3, e4, e5, Option.bind_some, wK l v3 (by omega)]
  split
  ·exact hag _ ⟨_, _, _, _, rfl, h3, by omega, by omega, by rw [y2g]; exact hl⟩ (by simp only; omega)
  ·exact hag _ ⟨_, _, _, _, rfl, h4, by omega, by omega, by rw [h5]; exact hl⟩ (by simp only; omega)
 ·simp only [if_neg hk2]
  exact ⟨_, _, _, rfl, hc, hl⟩
theorem yaj (c : List Int) (p s : Int) (h : Yg c p) : J0 (KC (c, p, s)) c (fun l : List yb => l.length ≤ 24) := by
 obtain ⟨l, p1, s1, e1, h1, q1⟩ := yfv c p s h
 obtain ⟨v2, p2, s2, e2, h2, q2⟩ := z9 c p1 s1 10 h1
 obtain ⟨v3, p3, s3, e3, h3, q3⟩ := z9 c p2 s2 (l.length : Int) h2
 obtain ⟨v4, p4, s4, e4, h4, q4⟩ := W7 c p3 s3 [-1, 999, 1000] (by simp) (by simp) h3
 obtain ⟨v5, p5, s5, e5, h5, q5⟩ := W7 c p3 s3 [-1, 5, 65536] (by simp) (by simp) h3
 have b3 := q3.2 (by omega)
 unfold KC
 simp only [e1, e2, e3, e4, e5, Option.bind_some]
 refine yK (P := fun o => J0 o c (fun l : List yb => l.length ≤ 24)) _ ?_ (yK (P := fun o => J0 o c (fun l : List yb => l.length ≤ 24)) _ ?_ (yK (P := fun o => J0 o c (fun l : List yb => l.length ≤ 24)) _ ?_ (yK (P := fun o => J0 o c (fun l : List yb => l.length ≤ 24)) _ ?_ ⟨_, _, _, rfl, h2, by omega⟩)))
 ·rw [if_pos (by omega), if_pos (by omega), if_pos (by omega)]
  exact ⟨_, _, _, rfl, h2, by simp only [List.length_drop, List.length_take]; omega⟩
 ·rw [if_pos q3.1, if_pos b3]
  exact ⟨_, _, _, rfl, h4, by simp only [List.length_set]; omega⟩
 ·rw [if_pos q3.1, if_pos b3]
  exact ⟨_, _, _, rfl, h5, by simp only [List.length_set]; omega⟩
 ·rw [if_pos (by omega), if_pos (by omega)]
  exact ⟨_, _, _, rfl, h2, by simp only [List.length_set]; omega⟩
def qG (o : Option (List ye × List y8 × List yd × List yb × List yl × Int × List Int × Int × Int)) (c : List Int) (Q : List ye → List y8 → List yd → List yb → List yl → Prop) : Prop := ∃ q t l cs vs z p s, o = some (q, t, l, cs, vs, z, c, p, s) ∧ Yg c p ∧ Q q t l cs vs
theorem Tn0 : Tn [0] [[]] [] (List.replicate (Int.toNat (24 : Int)) ZB) [] := by
 have hT : TS [[]] := ⟨by simp, fun n hn => by
  rw [List.mem_singleton.1 hn]
  exact ⟨by simp, by simp [W4]⟩⟩
 have hN : ∀ v ∈ ([] : List yl), ByteArray.size v.1 ≤ 60 := fun v hv => nomatch hv
 exact ⟨by simp, hT, by simp, by simp, by simp, hN, rfl, by simp⟩
theorem yfw (c : List Int) (p s m : Int) (h : Yg c p) (m0 : 0 ≤ m) (m1 : m ≤ 1000) : qG (wm (c, p, s, m)) c Tn := by
 obtain ⟨v1, p1, s1, e1, h1, q1⟩ := z9 c p s (m + 1) h
 have b1 := q1.2 (by omega)
 unfold wm Qe Kh jL ZO
 rw [if_pos (by omega), if_pos (by omega), if_pos (by decide)]
 simp only [Option.bind_some]
 rw [show Go.IntKind.wrap .i64 (m + 1) = m + 1 from w64 (by omega) (by omega), e1]
 simp only [Option.bind_some]
 refine Zm (step := jz _ _) (fun u : wG => match u with | .inl u => u.1.toNat | .inr u => u.1.toNat) (fun u => match u with | .inl u => ∃ k y q t l cs vs z p s, u = (k, c, p, s, y, z, q, t, l, cs, vs) ∧ Yg c p ∧ 0 ≤ k ∧ k ≤ 1000 ∧ Tn q t l cs vs | .inr u => ∃ k y q t l cs vs z p s, u = (k, c, p, s, y, q, t, l, z, cs, vs) ∧ Yg c p ∧ 0 ≤ k ∧ k ≤ 1000 ∧ Tn q t l cs vs) (fun _ (res : Option (List ye × List y8 × List yd × List yb × List yl × Int × List Int × Int × Int)) => qG res c Tn) ?_ _ ⟨v1, 0, _, _, _, _, _, 1, p1, s1, rfl, h1, q1.1, by omega, Tn0⟩ (by simp only; omega)
 intro again u hu hag
 have step : ∀ (k y : Int) q t l cs vs (z p s : Int), Yg c p → 0 ≤ k → k ≤ 1000 → Tn q t l cs vs → k > 0 → (∀ k' q' t' l' cs' vs' z' p' s', Yg c p' → 0 ≤ k' → k' < k → Tn q' t' l' cs' vs' → qG (again (Sum.inr (k', c, p', s', y, q', t', l', z', cs', vs'))) c Tn) → qG (Option.bind (Zv (c, p, s)) fun r3 => Option.bind (Jm (q, t, l, cs, vs, z, r3.1, r3.2.1, r3.2.2.1, r3.2.2.2.1, r3.2.2.2.2.1)) fun r4 => again (Sum.inr ((Go.IntKind.wrap .i64 (k - (1 : Int))), r3.2.2.2.2.2.1, r3.2.2.2.2.2.2.1, r3.2.2.2.2.2.2.2, y, r4.1, r4.2.1, r4.2.2.1, r4.2.2.2.2.2.1, r4.2.2.2.1, r4.2.2.2.2.1))) c Tn := by
  intro k y q t l cs vs z p s hc k0 k1 hT hk hag2
  obtain ⟨kd, n, m, a, b, p2, s2, e2, h2, hn, hm⟩ := yAb c p s hc
  obtain ⟨q', t', l', cs', vs', z', cc, e3, h3⟩ := yhB z hT.sp kd n m a b hn hm
  have hw : Go.IntKind.wrap .i64 (k - 1) = k - 1 := w64 (by omega) (by omega)
  simp only [e2, e3, Option.bind_some, hw]
  refine hag2 _ _ _ _ _ _ _ _ _ h2 (by omega) (by omega) ?_
  rcases h3 with h3 | h3
  ·exact h3
  ·simp only [Prod.mk.injEq] at h3
   obtain ⟨rfl, rfl, rfl, rfl, rfl, rfl⟩ := h3
   exact hT
 cases u with
 | inl u =>
  obtain ⟨k, y, q, t, l, cs, vs, z, p, s, rfl, hc, k0, k1, hT⟩ := hu
  unfold jz
  simp only [Bool.cond_eq_ite, decide_eq_true_eq]
  by_cases hk : k > 0
  ·simp only [if_pos hk]
   exact step k y q t l cs vs z p s hc k0 k1 hT hk fun k' q' t' l' cs' vs' z' p' s' g1 g2 g3 g4 => hag _ ⟨_, _, _, _, _, _, _, _, _, _, rfl, g1, g2, by omega, g4⟩ (by simp only; omega)
  ·simp only [if_neg hk]
   exact ⟨_, _, _, _, _, _, _, _, rfl, hc, hT⟩
 | inr u =>
  obtain ⟨k, y, q, t, l, cs, vs, z, p, s, rfl, hc, k0, k1, hT⟩ := hu
  unfold jz
  simp only [Bool.cond_eq_ite, decide_eq_true_eq]
  by_cases hk : k > 0
  ·simp only [if_pos hk]
   exact step k y q t l cs vs z p s hc k0 k1 hT hk fun k' q' t' l' cs' vs' z' p' s' g1 g2 g3 g4 => hag _ ⟨_, _, _, _, _, _, _, _, _, _, rfl, g1, g2, by omega, g4⟩ (by simp only; omega)
  ·simp only [if_neg hk]
   exact ⟨_, _, _, _, _, _, _, _, rfl, hc, hT⟩
theorem y3b (c : List Int) (p s m : Int) (h : Yg c p) (m0 : 0 ≤ m) (m1 : m ≤ 1000) : qG (JT (c, p, s, m)) c SP := by
 obtain ⟨q, t, l, cs, vs, z, p1, s1, e1, h1, hT⟩ := yfw c p s m h m0 m1
 obtain ⟨v2, p2, s2, e2, h2, _⟩ := z9 c p1 s1 20 h1
 obtain ⟨q3, t3, p3, s3, e3, h3, hq3⟩ := ybB c p2 s2 6 h2 (by omega) (by omega)
 obtain ⟨l4, p4, s4, e4, h4, hl4⟩ := ybC c p2 s2 h2
 obtain ⟨c5, p5, s5, e5, h5, hc5⟩ := yaj c p2 s2 h2
 obtain ⟨v6, p6, s6, e6, h6, hv6⟩ := yfs c p2 s2 [{ data := #[97] }, { data := #[122, 122] }, { data := #[65] }] (by simp) (by simp) (by decide) h2
 obtain ⟨v7, p7, s7, e7, h7, _⟩ := z9 c p6 s6 4 h6
 obtain ⟨v8, p8, s8, e8, h8, _⟩ := W7 c p7 s7 [0, 1, 13] (by simp) (by simp) h7
 obtain ⟨v9, p9, s9, e9, h9, _⟩ := W7 c p2 s2 [0, 1, 60, 61, 62] (by simp) (by simp) h2
 obtain ⟨vA, pA, sA, eA, hA, qA⟩ := z9 c p2 s2 (cs.length : Int) h2
 obtain ⟨vB, pB, sB, eB, hB, _⟩ := z9 c p2 s2 6 h2
 have hS := hT.sp
 have hcl := hT.cl
 have hvl := hT.vl
 have bA := qA.2 (by omega)
 unfold JT
 simp only [e1, e2, e3, e4, e5, e6, e7, e8, e9, eA, eB, Option.bind_some]
 refine yK (P := fun o => qG o c SP) _ ?_ (yK (P := fun o => qG o c SP) _ ?_ (yK (P := fun o => qG o c SP) _ ?_ (yK (P := fun o => qG o c SP) _ ?_ (yK (P := fun o => qG o c SP) _ ?_ (yK (P := fun o => qG o c SP) _ ?_ (yK (P := fun o => qG o c SP) _ (ZA (P := fun o => qG o c SP) _ (fun hh => ?_) fun _ => ?_) ?_))))))
 ·exact ⟨_, _, _, _, _, _, _, _, rfl, h3, hq3.sp hS hS.S.2.2.2.1 hS.S.2.2.2.2.1⟩
 ·exact ⟨_, _, _, _, _, _, _, _, rfl, h4, hS.tq.sp hS (by omega) hS.S.2.2.2.2.1⟩
 ·exact ⟨_, _, _, _, _, _, _, _, rfl, h5, hS.tq.sp hS hS.S.2.2.2.1 (by omega)⟩
 ·rw [if_pos (by simp only [List.length_cons, List.length_nil]; omega)]
  refine ⟨_, _, _, _, _, _, _, _, rfl, h8, SP.of hS.tq hS.S.2.2.2.1 hS.S.2.2.2.2.1 (by simp only [List.length_append, List.length_cons, List.length_nil]; omega) fun v hv => ?_⟩
  rcases List.mem_append.1 hv with hv | hv
  ·exact hS.N v hv
  ·rw [List.mem_singleton.1 hv]
   exact y3r hv6
 ·exact ⟨_, _, _, _, _, _, _, _, rfl, h9, hS⟩
 ·rw [if_pos qA.1, if_pos bA]
  exact ⟨_, _, _, _, _, _, _, _, rfl, hA, hS.tq.sp hS hS.S.2.2.2.1 (by rw [List.length_set]; omega)⟩
 ·have hh := of_decide_eq_true hh
  rw [if_pos (Int.le_refl _), if_pos (show (0 : Int) < ((List.length vs : Nat) : Int) by omega)]
  refine ⟨_, _, _, _, _, _, _, _, rfl, hB, SP.of hS.tq hS.S.2.2.2.1 hS.S.2.2.2.2.1 (by rw [List.length_set]; omega) fun v hv => ?_⟩
  rcases List.mem_or_eq_of_mem_set hv with hv | rfl
  ·exact hS.N v hv
  ·exact hS.N (yq vs 0) (zg w8 vs 0 (Int.le_refl _) (by omega))
 ·exact ⟨_, _, _, _, _, _, _, _, rfl, h2, hS⟩
 ·exact ⟨_, _, _, _, _, _, _, _, rfl, h2, hS⟩
theorem yfx (x : List Int) (m : Int) (hx : x.length ≤ 1099511627776) (hm : 3 ≤ m) : ∃ n, JL (x, m) = some n ∧ 0 ≤ n ∧ n ≤ m := by
 unfold JL
 have hd : Int.tdiv ((List.length x : Nat) : Int) 12 = ((List.length x : Nat) : Int) / 12 := Int.tdiv_eq_ediv_of_nonneg (by omega)
 simp only [hd]
 rw [show Go.IntKind.wrap .i64 (((List.length x : Nat) : Int) / 12) = ((List.length x : Nat) : Int) / 12 from w64 (by omega) (by omega), show Go.IntKind.wrap .i64 (3 + ((List.length x : Nat) : Int) / 12) = 3 + ((List.length x : Nat) : Int) / 12 from w64 (by omega) (by omega)]
 by_cases h : 3 + ((List.length x : Nat) : Int) / 12 > m
 ·rw [decide_eq_true h]
  exact ⟨_, rfl, by omega, Int.le_refl _⟩
 ·rw [decide_eq_false h]
  exact ⟨_, rfl, by omega, by omega⟩
def y1B (o : Option (List ye × List y8 × List yd × List yb × List yl × Int)) : Prop := ∃ q t l cs vs z, o = some (q, t, l, cs, vs, z) ∧ SP q t l cs vs
theorem yak (x : List Int) (hx : x.length ≤ 1099511627776) : y1B (jO x) := by
 obtain ⟨s0, e0⟩ := yfm x hx
 obtain ⟨m, e1, m0, m1⟩ := yfx x 24 hx (by omega)
 obtain ⟨q, t, l, cs, vs, z, p3, s3, e3, h3, hS⟩ := y3b x 0 s0 (6 + m) (yA5 x hx) (by omega) (by omega)
 obtain ⟨v4, p4, s4, e4, h4, q4⟩ := z9 x p3 s3 3 h3
 have b4 := q4.2 (by omega)
 unfold jO Qg
 simp only [e0, e1, Option.bind_some]
 rw [show Go.IntKind.wrap .i64 (6 + m) = 6 + m from w64 (by omega) (by omega)]
 simp only [e3, e4, Option.bind_some]
 refine Zm (step := jA _ _) (fun u : wH => match u with | .inl u => u.1.toNat | .inr u => u.1.toNat) (fun u => match u with | .inl u => ∃ k y q t l cs vs z p s, u = (k, y, x, p, s, q, t, l, cs, z, vs) ∧ Yg x p ∧ 0 ≤ k ∧ k ≤ 1000 ∧ SP q t l cs vs | .inr u => ∃ k y q t l cs vs z p s, u = (k, y, x, p, s, q, t, l, z, cs, vs) ∧ Yg x p ∧ 0 ≤ k ∧ k ≤ 1000 ∧ SP q t l cs vs) (fun _ (res : Option (List ye × List y8 × List yd × List yb × List yl × Int)) => y1B res) ?_ _ ⟨v4, 0, _, _, _, _, _, z, p4, s4, rfl, h4, q4.1, by omega, hS⟩ (by simp only; omega)
 intro again u hu hag
 have step : ∀ (k y : Int) q t l cs vs (z p s : Int), Yg x p → 0 ≤ k → k ≤ 1000 → SP q t l cs vs → k > 0 → (∀ k' q' t' l' cs' vs' z' p' s', Yg x p' → 0 ≤ k' → k' < k → SP q' t' l' cs' vs' → y1B (again (Sum.inr (k', y, x, p', s', q', t', l', z', cs', vs')))) → y1B (Option.bind (zM (x, p, s)) fun r5 => Option.bind (jk (q, t, l, cs, vs, z, r5.1)) fun r6 => again (Sum.inr ((Go.IntKind.wrap .i64 (k - (1 : Int))), y, r5.2.1, r5.2.2.1, r5.2.2.2, r6.1, r6.2.1, r6.2.2.1, r6.2.2.2.2.2.1, r6.2.2.2.1, r6.2.2.2.2.1))) := by
  intro k y q t l cs vs z p s hc k0 k1 hS hk hag2
  obtain ⟨n, p2, s2, e2, h2, hn⟩ := yft x p s hc
  obtain ⟨q', t', l', cs', vs', z', cc, e3, h3⟩ := yfp z hS n hn
  have hw : Go.IntKind.wrap .i64 (k - 1) = k - 1 := w64 (by omega) (by omega)
  simp only [e2, e3, Option.bind_some, hw]
  refine hag2 _ _ _ _ _ _ _ _ _ h2 (by omega) (by omega) ?_
  rcases h3 with h3 | h3
  ·exact (y0C h3).sp
  ·simp only [Prod.mk.injEq] at h3
   obtain ⟨rfl, rfl, rfl, rfl, rfl, rfl⟩ := h3
   exact hS
 cases u with
 | inl u =>
  obtain ⟨k, y, q, t, l, cs, vs, z, p, s, rfl, hc, k0, k1, hS⟩ := hu
  unfold jA
  simp only [Bool.cond_eq_ite, decide_eq_true_eq]
  by_cases hk : k > 0
  ·simp only [if_pos hk]
   exact step k y q t l cs vs z p s hc k0 k1 hS hk fun k' q' t' l' cs' vs' z' p' s' g1 g2 g3 g4 => hag _ ⟨_, _, _, _, _, _, _, _, _, _, rfl, g1, g2, by omega, g4⟩ (by simp only; omega)
  ·simp only [if_neg hk]
   exact ⟨_, _, _, _, _, _, rfl, hS⟩
 | inr u =>
  obtain ⟨k, y, q, t, l, cs, vs, z, p, s, rfl, hc, k0, k1, hS⟩ := hu
  unfold jA
  simp only [Bool.cond_eq_ite, decide_eq_true_eq]
  by_cases hk : k > 0
  ·simp only [if_pos hk]
   exact step k y q t l cs vs z p s hc k0 k1 hS hk fun k' q' t' l' cs' vs' z' p' s' g1 g2 g3 g4 => hag _ ⟨_, _, _, _, _, _, _, _, _, _, rfl, g1, g2, by omega, g4⟩ (by simp only; omega)
  ·simp only [if_neg hk]
   exact ⟨_, _, _, _, _, _, rfl, hS⟩
end Go.Proofs.YthgdjjdigalckaaGreat.Pl
namespace Go.Proofs.YthgdjjdigalckaaGreat.Pl
open Go.Proofs.YthgdjjdigalckaaGreat.R Go.Proofs.YthgdjjdigalckaaGreat.XC
def J4 {A : Type} (eq : A → A → Bool) (da : A) (a b : List A) : Bool := decide (a.length = b.length) && !Yl (fun i x => !eq x (b.getD i.toNat da)) a 0
theorem Q3 {A : Type} (eq : A → A → Bool) (da : A) {a b : List A} (h : a.length ≠ b.length) : J4 eq da a b = false := by
 unfold J4
 rw [decide_eq_false h]
 rfl
theorem y59 {A B : Type} {a : List A} {b : List B} (h : a.length = b.length) : (((List.length a : Nat) : Int) != ((List.length b : Nat) : Int)) = false := by
 rw [h]
 simp
theorem y5a {A B : Type} {a : List A} {b : List B} (h : a.length ≠ b.length) : (((List.length a : Nat) : Int) != ((List.length b : Nat) : Int)) = true := by
 simp only [bne_iff_ne]
 omega
theorem Vg {T A : Type} {step : (T → Option Bool) → T → Option Bool} (mk : Int → T) (eq : A → A → Bool) (da : A) (a b : List A) (hl : a.length ≤ 1048576) (he : a.length = b.length)
  (h : ∀ again i, 0 ≤ i → i < ((List.length a : Nat) : Int) → i < ((List.length b : Nat) : Int) → a.getD i.toNat da ∈ a → b.getD i.toNat da ∈ b → step again (mk i) = bif (!eq (a.getD i.toNat da) (b.getD i.toNat da)) then some false else again (mk (i + 1)))
  (hd : ∀ again i, ¬ i < ((List.length a : Nat) : Int) → step again (mk i) = some true) : zx step zO (mk 0) = some (J4 eq da a b) := by
 refine (zD (step := step) mk (fun i x => !eq x (b.getD i.toNat da)) (some false) (some true) da a (by omega) (fun again i h0 h1 => ?_) hd).trans ?_
 ·rw [h again i h0 h1 (by omega) (zg da a i h0 h1) (zg da b i h0 (by omega)), Bool.cond_eq_ite]
 ·unfold J4
  rw [decide_eq_true he]
  cases Yl (fun i x => !eq x (b.getD i.toNat da)) a 0 <;> rfl
theorem Ke {A : Type} {eq : A → A → Bool} (da : A) (a : List A) (h : ∀ x, eq x x = true) : J4 eq da a a = true := by
 unfold J4
 rw [decide_eq_true rfl, y28 da a 0 fun j hj => by
  rw [show (0 + (j : Int)).toNat = j by omega, h]
  rfl]
 rfl
def eqI (x y : Int) : Bool := x == y
def eqK (x y : y9) : Bool := (x.1 == y.1) && ((x.2.1 == y.2.1) && ((x.2.2.1 == y.2.2.1) && ((x.2.2.2.1 == y.2.2.2.1) && ((x.2.2.2.2 == y.2.2.2.2) && true))))
def eqA (x y : yd) : Bool := (x.1 == y.1) && ((x.2 == y.2) && true)
def eqC (x y : yb) : Bool := (x.1 == y.1) && ((x.2.1 == y.2.1) && ((x.2.2 == y.2.2) && true))
def eqV (x y : yl) : Bool := (ByteArray.toList x.1 == ByteArray.toList y.1) && ((x.2.1 == y.2.1) && ((x.2.2.1 == y.2.2.1) && ((x.2.2.2 == y.2.2.2) && true)))
def eqS (x y : ya) : Bool := J4 eqK z6 x y
def eqN (x y : y8) : Bool := J4 eqS yX x y
theorem yhG (x : Int) : eqI x x = true := by simp [eqI]
theorem yhH (x : y9) : eqK x x = true := by simp [eqK]
theorem yhI (x : yd) : eqA x x = true := by simp [eqA]
theorem yhJ (x : yb) : eqC x x = true := by simp [eqC]
theorem yhK (x : yl) : eqV x x = true := by simp [eqV]
theorem yhL (x : ya) : eqS x x = true := Ke _ _ yhH
theorem yhM (x : y8) : eqN x x = true := Ke _ _ yhL
def y2j (q : List ye) (t : List y8) (l : List yd) (cs : List yb) (vs : List yl) (z : Int) (q' : List ye) (t' : List y8) (l' : List yd) (cs' : List yb) (vs' : List yl) (z' : Int) : Bool :=
 J4 eqI y5j q q' && (J4 eqN yB t t' && (J4 eqA Y0 l l' && (J4 eqC ZB cs cs' && (J4 eqV w8 vs vs' && (z == z')))))
theorem y5z (q : List ye) (t : List y8) (l : List yd) (cs : List yb) (vs : List yl) (z : Int) : y2j q t l cs vs z q t l cs vs z = true := by
 unfold y2j
 rw [Ke _ _ yhG, Ke _ _ yhM, Ke _ _ yhI, Ke _ _ yhJ, Ke _ _ yhK]
 simp
theorem y3s (a b : List ye) (hl : a.length ≤ 1048576) : J5 (a, b) = some (J4 eqI y5j a b) := by
 unfold J5 qh
 by_cases he : a.length = b.length
 ·simp only [y59 he, cond_false]
  refine Vg (step := ZD _ _) (fun i => (a, b, i)) eqI y5j a b hl he (fun again i h0 h1 h2 _ _ => ?_) fun again i hi => ?_
  ·have hw : Go.IntKind.wrap .i64 (i + 1) = i + 1 := w64 (by omega) (by omega)
   unfold ZD
   simp only [decide_eq_true h1, cond_true, if_pos h0, if_pos h1, if_pos h2, hw]
   rfl
  ·unfold ZD
   simp only [decide_eq_false hi, cond_false]
 ·simp only [y5a he, cond_true, Q3 _ _ he]
theorem y3t (a b : List y9) (hl : a.length ≤ 1048576) : J6 (a, b) = some (J4 eqK z6 a b) := by
 unfold J6 qi
 by_cases he : a.length = b.length
 ·simp only [y59 he, cond_false]
  refine Vg (step := ZE _ _) (fun i => (a, b, i)) eqK z6 a b hl he (fun again i h0 h1 h2 _ _ => ?_) fun again i hi => ?_
  ·have hw : Go.IntKind.wrap .i64 (i + 1) = i + 1 := w64 (by omega) (by omega)
   unfold ZE
   simp only [decide_eq_true h1, cond_true, if_pos h0, if_pos h1, if_pos h2, hw]
   rfl
  ·unfold ZE
   simp only [decide_eq_false hi, cond_false]
 ·simp only [y5a he, cond_true, Q3 _ _ he]
theorem y3u (a b : List yd) (hl : a.length ≤ 1048576) : J9 (a, b) = some (J4 eqA Y0 a b) := by
 unfold J9 qm
 by_cases he : a.length = b.length
 ·simp only [y59 he, cond_false]
  refine Vg (step := ZH _ _) (fun i => (a, b, i)) eqA Y0 a b hl he (fun again i h0 h1 h2 _ _ => ?_) fun again i hi => ?_
  ·have hw : Go.IntKind.wrap .i64 (i + 1) = i + 1 := w64 (by omega) (by omega)
   unfold ZH
   simp only [decide_eq_true h1, cond_true, if_pos h0, if_pos h1, if_pos h2, hw]
   rfl
  ·unfold ZH
   simp only [decide_eq_false hi, cond_false]
 ·simp only [y5a he, cond_true, Q3 _ _ he]
theorem y2K (a b : List yb) (hl : a.length ≤ 1048576) : jq (a, b) = some (J4 eqC ZB a b) := by
 unfold jq Vp
 by_cases he : a.length = b.length
 ·simp only [y59 he, cond_false]
  refine Vg (step := Z2 _ _) (fun i => (a, b, i)) eqC ZB a b hl he (fun again i h0 h1 h2 _ _ => ?_) fun again i hi => ?_
  ·have hw : Go.IntKind.wrap .i64 (i + 1) = i + 1 := w64 (by omega) (by omega)
   unfold Z2
   simp only [decide_eq_true h1, cond_true, if_pos h0, if_pos h1, if_pos h2, hw]
   rfl
  ·unfold Z2
   simp only [decide_eq_false hi, cond_false]
 ·simp only [y5a he, cond_true, Q3 _ _ he]
theorem y3v (a b : List ya) (hl : a.length ≤ 1048576) (hs : ∀ s ∈ a, List.length s ≤ 1048576) : J7 (a, b) = some (J4 eqS yX a b) := by
 unfold J7 qj
 by_cases he : a.length = b.length
 ·simp only [y59 he, cond_false]
  refine Vg (step := ZF _ _) (fun i => (i, a, b)) eqS yX a b hl he (fun again i h0 h1 h2 hm _ => ?_) fun again i hi => ?_
  ·have hw : Go.IntKind.wrap .i64 (i + 1) = i + 1 := w64 (by omega) (by omega)
   unfold ZF
   simp only [decide_eq_true h1, cond_true, if_pos h0, if_pos h1, if_pos h2, hw]
   rw [y3t (yo a i) (yo b i) (hs _ hm)]
   rfl
  ·unfold ZF
   simp only [decide_eq_false hi, cond_false]
 ·simp only [y5a he, cond_true, Q3 _ _ he]
theorem y3w (q q' : List ye) (t t' : List y8) (hq : q.length ≤ 1048576) (ht : t.length ≤ 1048576) (hn : ∀ n ∈ t, List.length n ≤ 1048576 ∧ ∀ s ∈ (show List ya from n), List.length s ≤ 1048576) : J8 (q, t, q', t') = some (J4 eqI y5j q q' && J4 eqN yB t t') := by
 unfold J8 qk
 simp only [y3s q q' hq, Option.bind_some]
 cases J4 eqI y5j q q' with
 | false => rfl
 | true =>
  simp only [Bool.not_true, cond_false, Option.bind_some, Bool.true_and]
  by_cases he : t.length = t'.length
  ·simp only [y59 he, cond_false]
   refine Vg (step := ZG _ _) (fun i => (i, q, t, q', t')) eqN yB t t' ht he (fun again i h0 h1 h2 hm _ => ?_) fun again i hi => ?_
   ·have hw : Go.IntKind.wrap .i64 (i + 1) = i + 1 := w64 (by omega) (by omega)
    unfold ZG
    simp only [decide_eq_true h1, cond_true, if_pos h0, if_pos h1, if_pos h2, hw]
    rw [y3v (yh t i) (yh t' i) (hn _ hm).1 (hn _ hm).2]
    rfl
   ·unfold ZG
    simp only [decide_eq_false hi, cond_false]
  ·simp only [y5a he, cond_true, Q3 _ _ he]
section
variable {q : List ye} {t : List y8} {l : List yd} {cs : List yb} {vs : List yl} (z : Int) (hs : small q t l cs vs) (q' : List ye) (t' : List y8) (l' : List yd) (cs' : List yb) (vs' : List yl) (z' : Int)
include hs
theorem Qt : ZJ (q, t, l, cs, vs, z, q', t', l', cs', vs', z') = some (y2j q t l cs vs z q' t' l' cs' vs' z') := by
 have hv : vs.length ≤ 1048576 := hs.2.2.2.2.2
 have loop : vs.length = vs'.length → kL (fun x8 => some x8) (fun x9 => some true) ((0 : Int), q, t, l, cs, vs, z, q', t', l', cs', vs', z') = some (J4 eqV w8 vs vs') := by
  intro he
  unfold kL
  refine Vg (step := ZI _ _) (fun i => (i, q, t, l, cs, vs, z, q', t', l', cs', vs', z')) eqV w8 vs vs' hv he (fun again i h0 h1 h2 _ _ => ?_) fun again i hi => ?_
  ·have hw : Go.IntKind.wrap .i64 (i + 1) = i + 1 := w64 (by omega) (by omega)
   unfold ZI
   simp only [decide_eq_true h1, cond_true, if_pos h0, if_pos h1, if_pos h2, hw]
   rfl
  ·unfold ZI
   simp only [decide_eq_false hi, cond_false]
 unfold ZJ y2j
 simp only [y3w q q' t t' hs.1 hs.2.1 (fun n hn => W6 hs.2.2.1 hn), y3u l l' hs.2.2.2.1, y2K cs cs' hs.2.2.2.2.1, Option.bind_some]
 cases J4 eqI y5j q q' <;> cases J4 eqN yB t t' <;> try rfl
 cases J4 eqA Y0 l l' <;> cases J4 eqC ZB cs cs' <;> try rfl
 by_cases he : vs.length = vs'.length
 ·simp only [y59 he, loop he]
  cases hz : z == z'
  ·simp [bne, hz]
  ·simp [bne, hz]
 ·simp only [y5a he, Q3 _ _ he]
  rfl
end
end Go.Proofs.YthgdjjdigalckaaGreat.Pl
namespace Go.Proofs.YthgdjjdigalckaaGreat.Pl
open Go.Proofs.YthgdjjdigalckaaGreat.R Go.Proofs.YthgdjjdigalckaaGreat.XC
theorem ybD (x : List Int) (hx : x.length ≤ 1099511627776) : y1B (YL x) := by
 obtain ⟨q, t, l, cs, vs, z, e, h⟩ := yak x hx
 unfold YL
 rw [e]
 exact ⟨_, _, _, _, _, _, rfl, h⟩
theorem ybE (x : List Int) (hx : x.length ≤ 1099511627776) : y1B (j6 x) := by
 obtain ⟨q, t, l, cs, vs, z, e, h⟩ := yak x hx
 obtain ⟨s0, e0⟩ := yfm x hx
 obtain ⟨b, p1, s1, e1, h1, _⟩ := y8y x 0 s0 2 (yA5 x hx)
 unfold j6
 have hr := ybw 1000 (q, t, l, cs, vs, z) h
 simp only [e, e0, e1, Qs (q, t, l, cs, vs, z) h, Option.bind_some]
 exact yK (P := y1B) _ ⟨_, _, _, _, _, _, rfl, hr⟩ ⟨_, _, _, _, _, _, rfl, h⟩
def ybF (o : Option (List ye × List y8 × List yd × List yb × List yl × Int × Int × Int × Int × Int × Int)) : Prop := ∃ q t l cs vs z a b k d g, o = some (q, t, l, cs, vs, z, a, b, k, d, g) ∧ SP q t l cs vs
theorem ybG (x : List Int) (hx : x.length ≤ 1099511627776) : ybF (Yr x) := by
 obtain ⟨s0, e0⟩ := yfm x hx
 obtain ⟨m, e1, m0, m1⟩ := yfx x 14 hx (by omega)
 obtain ⟨q, t, l, cs, vs, z, p3, s3, e3, h3, hS⟩ := y3b x 0 s0 m (yA5 x hx) (by omega) (by omega)
 unfold Yr Km
 have ht := hS.tq.T
 have ek : yu (q, t) = some (zb t) := zz q t (by have := ht.len; omega) ht.nodes ht.sum
 simp only [e0, e1, e3, ek, Option.bind_some]
 refine ZA (P := ybF) _ (fun hh => ?_) fun _ => ?_
 ·obtain ⟨b, p4, s4, e4, h4, _⟩ := y8y x p3 s3 4 h3
  simp only [e4, Option.bind_some]
  refine yK (P := ybF) _ ?_ ?_
  ·obtain ⟨v, p5, s5, e5, h5, v0, v1⟩ := z9 x p4 s4 ((zb t).length : Int) h4
   have hh := of_decide_eq_true hh
   simp only [e5, Option.bind_some]
   rw [if_pos v0, if_pos (v1 hh)]
   exact ⟨_, _, _, _, _, _, _, _, _, _, _, rfl, hS⟩
  ·obtain ⟨a, b, k, d, g, p5, s5, e5, h5⟩ := ymC x p4 s4 h4
   simp only [e5, Option.bind_some]
   exact ⟨_, _, _, _, _, _, _, _, _, _, _, rfl, hS⟩
 ·obtain ⟨a, b, k, d, g, p5, s5, e5, h5⟩ := ymC x p3 s3 h3
  simp only [e5, Option.bind_some]
  exact ⟨_, _, _, _, _, _, _, _, _, _, _, rfl, hS⟩
theorem law_CalmBent (x : List Int) : Y7 x = some true := by
 unfold Y7 y0J
 simp only [Option.bind_some]
 cases hbig : decide (((List.length x : Nat) : Int) > (1048576 : Int)) with
 | true => rfl
 | false =>
  have hx : x.length ≤ 1099511627776 := by
   have := of_decide_eq_false hbig
   omega
  obtain ⟨q, t, l, cs, vs, z, e1, hS⟩ := ybD x hx
  obtain ⟨q2, t2, l2, cs2, vs2, z2, e2, hS2⟩ := ybE x hx
  obtain ⟨q3, t3, l3, cs3, vs3, z3, a, b, k, d, g, e3, hS3⟩ := ybG x hx
  obtain ⟨⟨r1, r2⟩, hn⟩ := y0R q t l cs vs z
  obtain ⟨ok, c1, c2⟩ := ymy q2 t2 l2 cs2 vs2 z2 hS2.tq.T hS2.S.1 hS2.S.2.2.2.1 hS2.S.2.2.2.2.1 hS2.S.2.2.2.2.2 hS2.N
  have n1 := (y0z q t l cs vs z hS.tq.T hS.S.1 hS.S.2.2.2.1 hS.S.2.2.2.2.1 hS.S.2.2.2.2.2 hS.N).trans hn
  have n2 := (y0A q t l cs vs z hS.tq.T hS.S.1 hS.S.2.2.2.1 hS.S.2.2.2.2.1 hS.S.2.2.2.2.2 hS.N).trans hn
  have ht := hS.tq.T
  have k1 : yu (q, t) = some (zb t) := zz q t (by have := ht.len; omega) ht.nodes ht.sum
  have k2 : yS (q, t) = some (zb t) := Z1 q t (by have := ht.len; omega) ht.nodes ht.sum
  have p1 : yI (q, t, l, cs, vs, z) = some (y0Y (prP (q, t, l, cs, vs, z))) := y8x hS
  have p2 : zy (q, t, l, cs, vs, z) = some (y0Y (prP (q, t, l, cs, vs, z))) := ycB hS
  have hP := yfk (p := (q, t, l, cs, vs, z)) hS
  have hR := ybw 1000 (q, t, l, cs, vs, z) hS
  have b1 : KE (q, t, l, cs, vs, z) = JA (q, t, l, cs, vs, z) := by
   unfold KE JA
   simp only [k1, k2]
  obtain ⟨bd, b2⟩ : ∃ n, JA (q, t, l, cs, vs, z) = some n := by
   unfold JA
   simp only [k2, Option.bind_some]
   exact ⟨_, rfl⟩
  generalize prP (q, t, l, cs, vs, z) = r at *
  obtain ⟨⟨y1, y2, y3, y4, y5, y6⟩, y7⟩ := r
  have hR2 := Qs (q, t, l, cs, vs, z) hS
  have hR3 := y3q (q, t, l, cs, vs, z) hS
  generalize ydp 1000 (q, t, l, cs, vs, z) = u at *
  obtain ⟨u1, u2, u3, u4, u5, u6⟩ := u
  have s1 := Qt y6 (show SP y1 y2 y3 y4 y5 from hP).S (q' := y1) (t' := y2) (l' := y3) (cs' := y4) (vs' := y5) (z' := y6)
  have s2 := Qt u6 (show SP u1 u2 u3 u4 u5 from hR).S (q' := u1) (t' := u2) (l' := u3) (cs' := u4) (vs' := u5) (z' := u6)
  rw [y5z] at s1 s2
  simp only [e1, e2, e3, n1, n2, p1, p2, c1, c2, b1, b2, hR2, hR3, y0Y, s1, s2, Option.bind_some, beq_self_eq_true, cond_true, y2I (q, t, l, cs, vs, z) hS, y2J (q, t, l, cs, vs, z) hS,
   Ka q3 t3 l3 cs3 vs3 z3 a b k d g hS3.tq.T hS3.S.2.2.2.1 hS3.S.2.2.2.2.2, Kb q3 t3 l3 cs3 vs3 z3 a b k d g hS3.tq.T hS3.S.2.2.2.1 hS3.S.2.2.2.2.2,
   Ql q t l cs vs z hS.tq.T hS.S.2.2.2.1 hS.S.2.2.2.2.2, Qm q t l cs vs z hS.tq.T hS.S.2.2.2.1 hS.S.2.2.2.2.2]
  rfl
end Go.Proofs.YthgdjjdigalckaaGreat.Pl
