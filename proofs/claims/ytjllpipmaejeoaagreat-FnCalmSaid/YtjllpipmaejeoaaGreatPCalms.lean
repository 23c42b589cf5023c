/- Draw, Crc, ReadW, Four, Crc1, Draw2, Put4, Txt, PutPool, Ops, Apply, Apply2, Take, Do1, Do2, Do3, Sem1, Move, Move2, Apply3, EntDraw, DrawP, DrawQ, Sem2, Sem3, Sem4, Same, Reads, Prog1, Prog2, Prog3, Age1, Prn1, Prn2, Prn3, CalmF, Maps, Calms. No condition. -/
import Derived.Test.YtjllpipmaejeoaaGreatPPrune2
set_option linter.all false
namespace Go.Proofs.YtjllpipmaejeoaaGreat.Pl
open Go.Proofs.YtjllpipmaejeoaaGreat.R Go.Proofs.YtjllpipmaejeoaaGreat.XW
def q9 (c : List Int) (p : Int) : Prop := c.length ≤ 1099511627776 ∧ 0 ≤ p ∧ p ≤ c.length
def yez {A : Type} (o : Option (A × List Int × Int × Int)) (c : List Int) (Q : A → Prop) : Prop := ∃ v p s, o = some (v, c, p, s) ∧ q9 c p ∧ Q v
theorem ycg (c : List Int) (p s : Int) (h : q9 c p) : yez (Zg (c, p, s)) c (fun v => 0 ≤ v ∧ v < 256) := by
 obtain ⟨h1, h2, h3⟩ := h
 unfold Zg
 simp only [Bool.cond_eq_ite, decide_eq_true_eq, ytM]
 by_cases hp : p < (c.length : Int)
 ·rw [if_pos hp, if_pos h2, if_pos hp]
  refine ⟨_, _, _, rfl, ⟨h1, ?_, ?_⟩, by omega⟩
  ·rw [w64 (by omega) (by omega)]
   omega
  ·rw [w64 (by omega) (by omega)]
   omega
 ·rw [if_neg hp]
  exact ⟨_, _, _, rfl, ⟨h1, h2, h3⟩, by omega⟩
theorem y0T (c : List Int) (p s n : Int) (h : q9 c p) : yez (yx (c, p, s, n)) c (fun v => 0 ≤ v ∧ (0 < n → v < n)) := by
 unfold yx
 simp only [Bool.cond_eq_ite, decide_eq_true_eq]
 by_cases hn : n ≤ 0
 ·rw [if_pos hn]
  exact ⟨_, _, _, rfl, h, Int.le_refl _, fun hh => by omega⟩
 ·rw [if_neg hn]
  obtain ⟨v1, p1, s1, e1, h1, q1⟩ := ycg c p s h
  obtain ⟨v2, p2, s2, e2, h2, q2⟩ := ycg c p1 s1 h1
  obtain ⟨v3, p3, s3, e3, h3, q3⟩ := ycg c p2 s2 h2
  rw [e1]
  simp only [Option.bind_some]
  have mod : ∀ v : Int, 0 ≤ v → 0 ≤ Int.tmod v n ∧ (0 < n → Int.tmod v n < n) := fun v hv => by
   rw [Int.tmod_eq_emod_of_nonneg hv]
   exact ⟨Int.emod_nonneg _ (by omega), fun hh => Int.emod_lt_of_pos _ hh⟩
  by_cases h6 : n ≤ 256
  ·rw [if_pos h6, if_neg (by omega)]
   exact ⟨_, _, _, rfl, h1, mod _ q1.1⟩
  ·rw [if_neg h6, e2]
   simp only [Option.bind_some]
   rw [e3]
   simp only [Option.bind_some]
   rw [if_neg (by omega)]
   rw [w64 (n := v1 * 65536) (by omega) (by omega), w64 (n := v2 * 256) (by omega) (by omega), w64 (n := v1 * 65536 + v2 * 256) (by omega) (by omega), w64 (n := v1 * 65536 + v2 * 256 + v3) (by omega) (by omega)]
   exact ⟨_, _, _, rfl, h3, mod _ (by omega)⟩
theorem ydo (c : List Int) (p s : Int) (L : List Int) (hL : 0 < L.length) (hL2 : L.length ≤ 1048576) (h : q9 c p) : yez (zE (c, p, s, L)) c (fun v => v ∈ L) := by
 obtain ⟨v, p1, s1, e1, h1, q1⟩ := y0T c p s (L.length : Int) h
 have := q1.2 (by omega)
 unfold zE
 rw [e1]
 simp only [Option.bind_some]
 rw [if_pos q1.1, if_pos this]
 exact ⟨_, _, _, rfl, h1, yX ybx L v q1.1 this⟩
theorem ytO (c : List Int) (hc : c.length ≤ 1099511627776) : ∃ s, Vv c = some (c, 0, s) := by
 have key := jc (step := Kf (fun x2 : List Int × Int => some (x2.1, (0 : Int), x2.2))) (fun t : List Int × Int × Int => c.length - t.2.2.toNat) (fun t => t.1 = c ∧ 0 ≤ t.2.2 ∧ t.2.2 ≤ c.length) (fun _ res => ∃ s, res = some (c, 0, s)) ?_ (c, (Go.IntKind.wrap .i64 ((941941 : Int) + ((List.length c : Nat) : Int))), (0 : Int)) ⟨rfl, Int.le_refl _, by simp⟩ (by simp; omega)
 ·exact key
 ·rintro again ⟨c', s, i⟩ ⟨rfl, h0, h1⟩ hag
  simp only at h0 h1
  unfold Kf
  simp only [Bool.cond_eq_ite, decide_eq_true_eq]
  by_cases hi : i < (c'.length : Int)
  ·rw [if_pos hi]
   simp only [Option.bind_some, decide_eq_true_eq]
   by_cases h4 : i < 4000
   ·rw [if_pos h4, if_pos h0, if_pos hi]
    have hw : Go.IntKind.wrap .i64 (i + 1) = i + 1 := w64 (by omega) (by omega)
    rw [hw]
    exact hag _ ⟨rfl, by simp only; omega, by simp only; omega⟩ (by simp only; omega)
   ·rw [if_neg h4]
    exact ⟨_, rfl⟩
  ·rw [if_neg hi]
   exact ⟨_, rfl⟩
end Go.Proofs.YtjllpipmaejeoaaGreat.Pl
namespace Go.Proofs.YtjllpipmaejeoaaGreat.Pl
open Go.Proofs.YtjllpipmaejeoaaGreat.R Go.Proofs.YtjllpipmaejeoaaGreat.XW
end Go.Proofs.YtjllpipmaejeoaaGreat.Pl
namespace Go.Proofs.YtjllpipmaejeoaaGreat.Pl
open Go.Proofs.YtjllpipmaejeoaaGreat.R Go.Proofs.YtjllpipmaejeoaaGreat.XW
def w2 (l : List Int) (i : Int) : Int := by_ l i * 256 + by_ l (i + 1)
end Go.Proofs.YtjllpipmaejeoaaGreat.Pl
namespace Go.Proofs.YtjllpipmaejeoaaGreat.Pl
open Go.Proofs.YtjllpipmaejeoaaGreat.R Go.Proofs.YtjllpipmaejeoaaGreat.XW
end Go.Proofs.YtjllpipmaejeoaaGreat.Pl
namespace Go.Proofs.YtjllpipmaejeoaaGreat.Pl
open Go.Proofs.YtjllpipmaejeoaaGreat.R Go.Proofs.YtjllpipmaejeoaaGreat.XW
end Go.Proofs.YtjllpipmaejeoaaGreat.Pl
namespace Go.Proofs.YtjllpipmaejeoaaGreat.Pl
open Go.Proofs.YtjllpipmaejeoaaGreat.R Go.Proofs.YtjllpipmaejeoaaGreat.XW
theorem yEd (x : List Int) (hx : x.length ≤ 1099511627776) : q9 x 0 := ⟨hx, Int.le_refl _, by omega⟩
end Go.Proofs.YtjllpipmaejeoaaGreat.Pl
namespace Go.Proofs.YtjllpipmaejeoaaGreat.Pl
open Go.Proofs.YtjllpipmaejeoaaGreat.R Go.Proofs.YtjllpipmaejeoaaGreat.XW
def two (x : Int) : List Int := [x / 256 % 256, x % 256]
end Go.Proofs.YtjllpipmaejeoaaGreat.Pl
namespace Go.Proofs.YtjllpipmaejeoaaGreat.Pl
open Go.Proofs.YtjllpipmaejeoaaGreat.R Go.Proofs.YtjllpipmaejeoaaGreat.XW
def tx (s : ByteArray) : List Int := two (s.size : Int) ++ Vq s
end Go.Proofs.YtjllpipmaejeoaaGreat.Pl
namespace Go.Proofs.YtjllpipmaejeoaaGreat.Pl
open Go.Proofs.YtjllpipmaejeoaaGreat.R Go.Proofs.YtjllpipmaejeoaaGreat.XW
structure PoolF (q : List Int) (t : List y0) (l : List y9) (cs : List y8) (vs : List ye) : Prop where
 ql : q.length = t.length
 tl : t.length ≤ 20
 ll : l.length ≤ 16
 cl : cs.length = 24
 vl : vs.length ≤ 6
 nm : ∀ v ∈ vs, ByteArray.size v.1 ≤ 6
 nl : ∀ n ∈ t, List.length n ≤ 3
 sl : ∀ n ∈ t, ∀ s ∈ (show List ya from n), List.length s ≤ 60 ∧ ∀ k ∈ (show List y7 from s), zO k = true
theorem yyY {q : List Int} {t : List y0} {l : List y9} {cs : List y8} {vs : List ye} {z : Int} (h : yo q t l cs vs z = true) : PoolF q t l cs vs := by
 unfold yo at h
 simp only [Bool.and_eq_true] at h
 obtain ⟨h1, h2, h3, _, _, h4, _⟩ := h
 obtain ⟨t1, t2, t3, t4⟩ := jR h1
 unfold YK at h2
 unfold ze at h3
 unfold je at h4
 simp only [Bool.and_eq_true, Bool.not_eq_true', decide_eq_true_eq, beq_iff_eq] at h2 h3 h4
 refine ⟨t1, t3, by omega, by omega, by omega, fun v hv => ?_, fun n hn => (y2j (t4 n hn)).1, fun n hn s hs => y49 ((y2j (t4 n hn)).2 s hs)⟩
 obtain ⟨j, hj⟩ := J2 _ vs 0 h4.1 v hv
 unfold yeu at hj
 simp only [Bool.or_eq_false_iff, Bool.not_eq_false'] at hj
 have hn := hj.1
 unfold jQ at hn
 simp only [Bool.and_eq_true, zt] at hn
 omega
section
variable {q : List Int} {t : List y0} {l : List y9} {cs : List y8} {vs : List ye} (z : Int) (h : PoolF q t l cs vs)
include h
end
end Go.Proofs.YtjllpipmaejeoaaGreat.Pl
namespace Go.Proofs.YtjllpipmaejeoaaGreat.Pl
open Go.Proofs.YtjllpipmaejeoaaGreat.R Go.Proofs.YtjllpipmaejeoaaGreat.XW
def ydp (kind a b : Int) : Bool :=
 if kind = 2 then decide (a = 0) && inR b 0 1 else if kind = 3 ∨ kind = 7 then decide (a = 0) && decide (b = 0) else if kind = 4 then true else decide (b = 0)
def ygB (s : ByteArray) : Bool := s.toList == ([] : List UInt8)
def yyZ (kind : Int) (name tt : ByteArray) (a b : Int) : Bool :=
 inR kind 1 9 && (if kind ≥ 7 then ygB name else jQ name) && (if kind = 2 then jQ tt else ygB tt) && isW a && isW b && ydp kind a b
theorem y5h (kind : Int) (name tt : ByteArray) (a b : Int) : YX (kind, name, tt, a, b) = some (ydp kind a b) := by
 unfold YX ydp
 simp only [Bool.cond_eq_ite, ZK, Option.bind_some, beq_iff_eq]
 by_cases h2 : kind = 2 <;> by_cases h3 : kind = 3 <;> by_cases h7 : kind = 7 <;> by_cases h4 : kind = 4 <;> by_cases ha : a = 0 <;> by_cases hb : b = 0 <;> simp_all
theorem yay : (ByteArray.toList { data := #[] }) = [] := by
 unfold ByteArray.toList ByteArray.toList.loop
 rfl
theorem yaz (kind : Int) (name tt : ByteArray) (a b : Int) (hn : name.size ≤ maxLen) (ht : tt.size ≤ maxLen) : vz (kind, name, tt, a, b) = some (yyZ kind name tt a b) := by
 unfold vz yyZ ygB
 simp only [Bool.cond_eq_ite, wL _ hn, wL _ ht, ZK, qy, y5h, Option.bind_some, bi, yay, decide_eq_true_eq]
 generalize (name.toList == ([] : List UInt8)) = n1
 generalize (tt.toList == ([] : List UInt8)) = n2
 generalize inR kind 1 9 = n3
 generalize ydp kind a b = n4
 by_cases h7 : kind ≥ 7 <;> by_cases h2 : kind = 2 <;> simp only [h7, h2, if_true, if_false, Option.bind_some] <;> cases n1 <;> cases n2 <;> cases n3 <;> cases n4 <;> cases jQ name <;> cases jQ tt <;> cases isW a <;> cases isW b <;> rfl
end Go.Proofs.YtjllpipmaejeoaaGreat.Pl
namespace Go.Proofs.YtjllpipmaejeoaaGreat.Pl
open Go.Proofs.YtjllpipmaejeoaaGreat.R Go.Proofs.YtjllpipmaejeoaaGreat.XW
abbrev P7a : Type := List yc × List y0 × List y9 × List y8 × List ye × Int × Int
theorem ykj {A : Type} {o : Option A} : (Option.bind o fun r => some r) = o := by cases o <;> rfl
theorem yn9 {o : Option P7a} : (Option.bind o fun r => some (r.1, r.2.1, r.2.2.1, r.2.2.2.1, r.2.2.2.2.1, r.2.2.2.2.2.1, r.2.2.2.2.2.2)) = o := by cases o <;> rfl
theorem yz0 {o : Option (List yc × List y0 × List y9 × List y8 × List ye × Int × Bool)} : (Option.bind o fun r => some (r.1, r.2.1, r.2.2.1, r.2.2.2.1, r.2.2.2.2.1, r.2.2.2.2.2.1, r.2.2.2.2.2.2)) = o := by cases o <;> rfl
theorem yz1 {o : Option (Bool × List yc × List y0 × List y9 × List y8 × List ye × Int)} : (Option.bind o fun r => some (r.1, r.2.1, r.2.2.1, r.2.2.2.1, r.2.2.2.2.1, r.2.2.2.2.2.1, r.2.2.2.2.2.2)) = o := by cases o <;> rfl
theorem JM {A : Type} {P : A → Prop} (b : Bool) {x y : A} (hx : b = true → P x) (hy : b = false → P y) : P (bif b then x else y) := by cases b <;> first | exact hx rfl | exact hy rfl
structure Tn (q : List yc) (t : List y0) (l : List y9) (cs : List y8) (vs : List ye) : Prop where
 ql : q.length ≤ 100
 T : TS t
 ll : l.length ≤ 100
 cl : cs.length = 24
 vl : vs.length ≤ 100
 N : ∀ v ∈ vs, ByteArray.size v.1 ≤ 60
 e : q.length = t.length
 p : 0 < t.length
theorem Tn.sp {q : List yc} {t : List y0} {l : List y9} {cs : List y8} {vs : List ye} (h : Tn q t l cs vs) : SP q t l cs vs := by
 have hT := h.T.ok
 refine ⟨⟨Nat.le_trans h.ql (by decide), hT.len, hT.sum, Nat.le_trans h.ll (by decide), by rw [h.cl]; decide, Nat.le_trans h.vl (by decide)⟩, fun v hv => Nat.le_trans (h.N v hv) (by decide)⟩
theorem y34 {q : List yc} {t : List y0} {l : List y9} {cs : List y8} {vs : List ye} {z : Int} (h : yo q t l cs vs z = true) : Tn q t l cs vs := by
 have hF := yyY h
 unfold yo at h
 rw [Bool.and_eq_true] at h
 have h1 := jR h.1
 exact ⟨by have := hF.ql; have := hF.tl; omega, y2q h.1, by have := hF.ll; omega, hF.cl, by have := hF.vl; omega, fun v hv => by have := hF.nm v hv; omega, hF.ql, by omega⟩
def Res (q : List yc) (t : List y0) (l : List y9) (cs : List y8) (vs : List ye) (z : Int) (o : Option P7a) : Prop :=
 ∃ q' t' l' cs' vs' z' c, o = some (q', t', l', cs', vs', z', c) ∧ (yo q' t' l' cs' vs' z' = true ∨ (q', t', l', cs', vs', z') = (q, t, l, cs, vs, z))
def YU (vs : List ye) (n : ByteArray) : Int := zF (fun v : ye => ByteArray.toList v.1 == ByteArray.toList n) vs 0
theorem Kd (vs : List ye) (n : ByteArray) : YU vs n = -1 ∨ (0 ≤ YU vs n ∧ YU vs n < vs.length) := by
 rcases Yc (fun v : ye => ByteArray.toList v.1 == ByteArray.toList n) Yi vs 0 (Int.le_refl _) with h | ⟨h1, h2, h3⟩
 ·exact .inl h
 ·exact .inr ⟨h1, by simpa [YU] using h2⟩
section
variable (q : List yc) (t : List y0) (l : List y9) (cs : List y8) (vs : List ye) (z : Int)
theorem ZC (n : ByteArray) (hv : vs.length ≤ 1048576) : zv (q, t, l, cs, vs, z, n) = some (YU vs n) := by
 unfold zv y1a
 refine (YA (step := wx _ _) (fun i => (n, i, q, t, l, cs, vs, z)) (fun v : ye => ByteArray.toList v.1 == ByteArray.toList n) (fun x => some x) (some (-1)) Yi vs (by omega) ?_ ?_).trans ?_
 ·intro again i h0 h1
  have hw : Go.IntKind.wrap .i64 (i + 1) = i + 1 := w64 (by omega) (by omega)
  unfold wx
  simp only [Bool.cond_eq_ite, decide_eq_true_eq, h0, h1, if_true, hw]
  rfl
 ·intro again i hi
  unfold wx
  simp only [Bool.cond_eq_ite, decide_eq_true_eq, if_neg hi]
 ·rcases Kd vs n with h | ⟨h1, h2⟩ <;> unfold YU at *
  ·rw [h]
   rfl
  ·rw [if_neg (by omega)]
def yeA (n : ByteArray) : Int := if yo q t l cs vs z = true ∧ jQ n = true then 0 else 1
noncomputable def yuB (n : ByteArray) : Int := if yo q t l cs vs z = true ∧ jQ n = true then (if YU vs n < 0 then 2 else 0) else 1
noncomputable def Vj (n : ByteArray) (b : Int) : Int := if yo q t l cs vs z = true ∧ jQ n = true then (if YU vs n < 0 then 2 else if (yi vs (YU vs n)).2.2.2 = true then 5 else if inR b 0 (Go.IntKind.wrap .i64 ((yi vs (YU vs n)).2.2.1 - 1)) = true then 0 else 4) else 1
variable {q t l cs vs} (h : SP q t l cs vs)
include h
theorem y0y (n : ByteArray) (hn : n.size ≤ maxLen) : ZG (q, t, l, cs, vs, z, n) = some (yeA q t l cs vs z n) := by
 unfold ZG yeA
 simp only [ZL z h, wL n hn, Option.bind_some]
 cases yo q t l cs vs z <;> cases jQ n <;> rfl
theorem y5i (n : ByteArray) (hn : n.size ≤ maxLen) : JT (q, t, l, cs, vs, z, n) = some (yuB q t l cs vs z n) := by
 unfold JT yuB
 simp only [y0y z h n hn, ZC q t l cs vs z n h.S.2.2.2.2.2, Option.bind_some]
 unfold yeA
 by_cases hc : yo q t l cs vs z = true ∧ jQ n = true
 ·simp only [if_pos hc, beq_self_eq_true, cond_true, Option.bind_some]
  by_cases hv : YU vs n < 0
  ·simp only [if_pos hv, decide_eq_true hv]
   rfl
  ·simp only [if_neg hv, decide_eq_false hv]
   rfl
 ·simp only [if_neg hc]
  rfl
theorem Q0 (n : ByteArray) (hn : n.size ≤ maxLen) (b : Int) : Z3 (q, t, l, cs, vs, z, n, b) = some (Vj q t l cs vs z n b) := by
 unfold Z3 Vj
 simp only [y5i z h n hn, ZC q t l cs vs z n h.S.2.2.2.2.2, ZK, Option.bind_some]
 unfold yuB
 by_cases hc : yo q t l cs vs z = true ∧ jQ n = true
 ·simp only [if_pos hc]
  by_cases hv : YU vs n < 0
  ·simp only [if_pos hv]
   rfl
  ·have h2 := Kd vs n
   simp only [if_neg hv, show ((0 : Int) != 0) = false from rfl, cond_false, if_pos (show (0 : Int) ≤ YU vs n by omega), if_pos (show YU vs n < ((List.length vs : Nat) : Int) by omega)]
   cases (yi vs (YU vs n)).2.2.2 with
   | true => rfl
   | false => cases inR b 0 (Go.IntKind.wrap .i64 ((yi vs (YU vs n)).2.2.1 - 1)) <;> rfl
 ·simp only [if_neg hc]
  rfl
theorem y0z : ym (q, t, l, cs, vs, z) = some (q, t, l, cs, vs, z) := kz q t l cs vs z h.S
omit h in
theorem Res.same (c : Int) : Res q t l cs vs z (some (q, t, l, cs, vs, z, c)) := ⟨_, _, _, _, _, _, c, rfl, .inr rfl⟩
theorem ytP {q' : List yc} {t' : List y0} {l' : List y9} {cs' : List y8} {vs' : List ye} {z' : Int} (hx : SP q' t' l' cs' vs') (b : Bool) : yV (q, t, l, cs, vs, z, q', t', l', cs', vs', z', b) = some (if b = true ∧ yo q' t' l' cs' vs' z' = true then (q', t', l', cs', vs', z', 0) else (q, t, l, cs, vs, z, 6)) := by
 unfold yV
 simp only [ZL z' hx, y0z z h, Option.bind_some]
 cases b <;> cases hp : yo q' t' l' cs' vs' z' <;> simp
theorem Res.fin {q' : List yc} {t' : List y0} {l' : List y9} {cs' : List y8} {vs' : List ye} {z' : Int} (hx : SP q' t' l' cs' vs') (b : Bool) : Res q t l cs vs z (yV (q, t, l, cs, vs, z, q', t', l', cs', vs', z', b)) := by
 rw [ytP z h hx b]
 by_cases hc : b = true ∧ yo q' t' l' cs' vs' z' = true
 ·rw [if_pos hc]
  exact ⟨_, _, _, _, _, _, _, rfl, .inl hc.2⟩
 ·rw [if_neg hc]
  exact ⟨_, _, _, _, _, _, _, rfl, .inr rfl⟩
end
theorem y5j (l : List y9) (id fr : Int) (hl : l.length ≤ 1000) : ∃ l' b, jp (l, id, fr) = some (l', b) ∧ l'.length ≤ l.length + 1 := by
 unfold jp QR
 rw [Zz l id (by omega)]
 simp only [Option.bind_some]
 refine jc (step := WD _) (fun u : WC => l.length - u.2.2.2.2.1.toNat) (fun u => u.1 = l ∧ u.2.1 = id ∧ 0 ≤ u.2.2.2.2.1 ∧ u.2.2.2.2.1 ≤ l.length ∧ (u.2.2.2.2.2.length : Int) ≤ u.2.2.2.2.1 + (if u.2.2.2.1 = true then 1 else 0)) (fun _ (res : Option (List y9 × Bool)) => ∃ (l' : List y9) (b : Bool), res = some (l', b) ∧ l'.length ≤ l.length + 1) ?_ (l, id, fr, decide (yR l id ≥ 0), 0, []) ⟨rfl, rfl, Int.le_refl _, by simp, by simp; split <;> omega⟩ (by simp; omega)
 ·rintro again ⟨l1, id1, fr1, d, i, o⟩ ⟨rfl, rfl, h0, h1, ho⟩ hag
  simp only at h0 h1 ho hl hag ⊢
  unfold WD
  simp only [Bool.cond_eq_ite, decide_eq_true_eq]
  by_cases hi : i < (l1.length : Int)
  ·have hw : Go.IntKind.wrap .i64 (i + 1) = i + 1 := w64 (by omega) (by omega)
   have ho2 : o.length ≤ 1001 := by split at ho <;> omega
   simp only [if_pos hi, if_pos h0, hw, List.length_append, List.length_cons, List.length_nil]
   cases d with
   | true =>
    simp only [Bool.not_true, Bool.false_eq_true, if_false, Option.bind_some]
    rw [if_pos (by omega)]
    exact hag _ ⟨rfl, rfl, by simp only; omega, by simp only; omega, by simp at ho ⊢; omega⟩ (by simp only; omega)
   | false =>
    simp only [Bool.not_false, if_true, Option.bind_some, decide_eq_true_eq]
    split
    ·rw [if_pos (by omega), if_pos (by omega)]
     exact hag _ ⟨rfl, rfl, by simp only; omega, by simp only; omega, by simp at ho ⊢; omega⟩ (by simp only; omega)
    ·rw [if_pos (by omega)]
     exact hag _ ⟨rfl, rfl, by simp only; omega, by simp only; omega, by simp at ho ⊢; omega⟩ (by simp only; omega)
  ·have ho2 : o.length ≤ 1001 := by split at ho <;> omega
   simp only [if_neg hi, List.length_append, List.length_cons, List.length_nil, Zz l1 id1 (by omega), Option.bind_some, Ko o (by omega), Ko (o ++ [(id1, fr1)]) (by simp; omega)]
   cases d with
   | true =>
    have e1 : ∀ u : Bool, ∃ (l' : List y9) (b : Bool), (if u = true then (if (0 + l1.length) * 16 < 140737488355328 then some ([] ++ l1, false) else none) else some (o, true)) = some (l', b) ∧ l'.length ≤ l1.length + 1 := fun u => by
     rw [if_pos (show (0 + l1.length) * 16 < 140737488355328 by omega)]
     cases u
     ·exact ⟨_, _, rfl, by simp at ho; omega⟩
     ·exact ⟨_, _, rfl, by simp⟩
    simp only [Bool.not_true, Bool.false_eq_true, if_false]
    by_cases ha : yR l1 id1 ≥ 0
    ·rw [if_pos ha]
     exact e1 true
    ·rw [if_neg ha]
     exact e1 _
   | false =>
    have e1 : ∀ u : Bool, ∃ (l' : List y9) (b : Bool), (if u = true then (if (0 + l1.length) * 16 < 140737488355328 then some ([] ++ l1, false) else none) else some (o ++ [(id1, fr1)], true)) = some (l', b) ∧ l'.length ≤ l1.length + 1 := fun u => by
     rw [if_pos (show (0 + l1.length) * 16 < 140737488355328 by omega)]
     cases u
     ·exact ⟨_, _, rfl, by simp at ho ⊢; omega⟩
     ·exact ⟨_, _, rfl, by simp⟩
    simp only [Bool.not_false, if_true]
    rw [if_pos (by omega)]
    by_cases ha : yR l1 id1 ≥ 0
    ·rw [if_pos ha]
     exact e1 true
    ·rw [if_neg ha]
     exact e1 _
theorem yaA (vs : List ye) (n : ByteArray) (a s : Int) (f : Bool) (hv : vs.length ≤ 1000) (hN : ∀ v ∈ vs, ByteArray.size v.1 ≤ 60) (hn : n.size ≤ 60) : ∃ vs', Zb (vs, n, a, s, f) = some vs' ∧ vs'.length = vs.length + 1 ∧ ∀ v ∈ vs', ByteArray.size v.1 ≤ 60 := by
 unfold Zb Vy
 simp only [List.nil_append, List.length_nil, List.length_append, List.length_cons]
 rw [if_pos (by omega), if_pos (by omega), w64 (by omega) (by omega)]
 refine jc (step := J5 _) (fun u : J4 => u.1.toNat) (fun u => 0 ≤ u.1 ∧ u.1 ≤ vs.length ∧ u.2.1 = n ∧ u.2.2.2.2.2.length = vs.length + 1 ∧ ∀ v ∈ u.2.2.2.2.2, ByteArray.size v.1 ≤ 60) (fun _ (res : Option (List ye)) => ∃ vs' : List ye, res = some vs' ∧ vs'.length = vs.length + 1 ∧ ∀ v ∈ vs', ByteArray.size v.1 ≤ 60) ?_ (((vs.length + (0 + 1) : Nat) : Int) - 1, n, a, s, f, vs ++ [(n, a, s, f)]) ⟨by simp only; omega, by simp only; omega, rfl, by simp, fun v hv => ?_⟩ (by simp only; omega)
 ·rintro again ⟨k, n1, a1, s1, f1, o⟩ ⟨h0, h1, rfl, ho, hoN⟩ hag
  simp only at h0 h1 ho hoN hag ⊢
  unfold J5
  simp only [Bool.cond_eq_ite, decide_eq_true_eq]
  by_cases hk : k > 0
  ·have hw : Go.IntKind.wrap .i64 (k - 1) = k - 1 := w64 (by omega) (by omega)
   simp only [if_pos hk, hw, if_pos (show (0 : Int) ≤ k - 1 by omega), if_pos (show k - 1 < ((List.length o : Nat) : Int) by omega), if_pos h0, if_pos (show k < ((List.length o : Nat) : Int) by omega), Option.bind_some]
   split
   ·refine hag _ ⟨by simp only; omega, by simp only; omega, rfl, by simp only [List.length_set]; exact ho, fun v hv => ?_⟩ (by simp only; omega)
    rcases List.mem_or_eq_of_mem_set hv with h | rfl
    ·exact hoN v h
    ·exact hoN _ (yX Yi o (k - 1) (by omega) (by omega))
   ·refine ⟨_, rfl, by rw [List.length_set]; exact ho, fun v hv => ?_⟩
    rcases List.mem_or_eq_of_mem_set hv with h | rfl
    ·exact hoN v h
    ·exact hn
  ·simp only [if_neg hk, Option.bind_some, Bool.false_eq_true, if_false, if_pos h0, if_pos (show k < ((List.length o : Nat) : Int) by omega)]
   refine ⟨_, rfl, by rw [List.length_set]; exact ho, fun v hv => ?_⟩
   rcases List.mem_or_eq_of_mem_set hv with h | rfl
   ·exact hoN v h
   ·exact hn
 ·rcases List.mem_append.1 hv with h | h
  ·exact hN v h
  ·rw [List.mem_singleton.1 h]
   exact hn
theorem ych (cs : List y8) (n : Int) (hc : cs.length ≤ 1048576) : ∃ cs' i b, Y6 (cs, n) = some (cs', i, b) ∧ cs'.length = cs.length ∧ (b = true → 0 ≤ i ∧ i < cs.length) := by
 unfold Y6 Y5 kR
 simp only [List.nil_append, List.length_nil]
 rw [if_pos (by omega)]
 simp only [Option.bind_some]
 refine jc (step := zK _ _) (fun u : JU => cs.length - u.2.2.1.toNat) (fun u => u.1 = cs ∧ 0 ≤ u.2.2.1 ∧ u.2.2.1 ≤ cs.length ∧ u.2.2.2 = cs) (fun _ (res : Option (List y8 × Int × Bool)) => ∃ (cs' : List y8) (i : Int) (b : Bool), res = some (cs', i, b) ∧ cs'.length = cs.length ∧ (b = true → 0 ≤ i ∧ i < cs.length)) ?_ (cs, n, 0, cs) ⟨rfl, Int.le_refl _, by simp, rfl⟩ (by simp; omega)
 ·rintro again ⟨l1, n1, i, o⟩ ⟨e1, h0, h1, e2⟩ hag
  simp only at e1 e2 h0 h1 hag ⊢
  subst e1
  subst e2
  unfold zK
  simp only [Bool.cond_eq_ite, decide_eq_true_eq, JH o hc, qy, Option.bind_some]
  by_cases hi : i < (o.length : Int)
  ·have hw : Go.IntKind.wrap .i64 (i + 1) = i + 1 := w64 (by omega) (by omega)
   simp only [if_pos hi, if_pos h0, hw, List.length_set, Option.bind_some]
   split
   ·simp only [Option.bind_some]
    split
    ·split
     ·exact ⟨_, _, _, rfl, by simp, fun _ => ⟨h0, hi⟩⟩
     ·exact hag _ ⟨rfl, by simp only; omega, by simp only; omega, rfl⟩ (by simp only; omega)
    ·exact ⟨_, _, _, rfl, rfl, fun h => by cases h⟩
   ·simp only [Option.bind_some, Bool.false_eq_true, if_false]
    exact ⟨_, _, _, rfl, rfl, fun h => by cases h⟩
  ·simp only [if_neg hi, Option.bind_some, Bool.false_eq_true, if_false]
   exact ⟨_, _, _, rfl, rfl, fun h => by cases h⟩
end Go.Proofs.YtjllpipmaejeoaaGreat.Pl
namespace Go.Proofs.YtjllpipmaejeoaaGreat.Pl
open Go.Proofs.YtjllpipmaejeoaaGreat.R Go.Proofs.YtjllpipmaejeoaaGreat.XW
theorem SP.of {q : List yc} {t : List y0} {l : List y9} {cs : List y8} {vs : List ye} (h : TQ q t) (hl : l.length ≤ 1048576) (hc : cs.length ≤ 1048576) (hv : vs.length ≤ 1048576) (hN : ∀ v ∈ vs, ByteArray.size v.1 ≤ maxLen) : SP q t l cs vs :=
 ⟨⟨h.q, h.T.len, h.T.sum, hl, hc, hv⟩, hN⟩
theorem y5k {n : Nat} (h : n ≤ 60) : n ≤ maxLen := Nat.le_trans h (by decide)
section
variable {q : List yc} {t : List y0} {l : List y9} {cs : List y8} {vs : List ye} (z : Int) (h : SP q t l cs vs)
include h
theorem ygC (n : ByteArray) (s : Int) (hn : n.size ≤ 60) : Res q t l cs vs z (JS (q, t, l, cs, vs, z, n, s)) := by
 unfold JS
 simp only [y0y z h n (y5k hn), y0z z h, ZC q t l cs vs z n h.S.2.2.2.2.2, ZK, Option.bind_some, yn9, ykj]
 refine JM (P := Res q t l cs vs z) _ (fun _ => Res.same z _) fun hf => JM (P := Res q t l cs vs z) _ (fun _ => Res.same z _) fun _ => JM (P := Res q t l cs vs z) _ (fun _ => Res.same z _) fun _ => ?_
 have hp : yo q t l cs vs z = true := by
  unfold yeA at hf
  by_cases hc : yo q t l cs vs z = true ∧ jQ n = true
  ·exact hc.1
  ·rw [if_neg hc] at hf
   cases hf
 have hT := y34 hp
 obtain ⟨l', b, e1, h1⟩ := y5j l z 0 (by have := hT.ll; omega)
 obtain ⟨vs', e2, h2, h3⟩ := yaA vs n z s false (by have := hT.vl; omega) hT.N hn
 rw [e1]
 simp only [Option.bind_some]
 rw [e2]
 simp only [Option.bind_some]
 exact Res.fin z h (SP.of h.tq (by have := hT.ll; omega) h.S.2.2.2.2.1 (by have := hT.vl; omega) fun v hv => y5k (h3 v hv)) b
theorem yna (n m : ByteArray) (f : Bool) (hn : n.size ≤ 60) (hm : m.size ≤ 60) : Res q t l cs vs z (kP (q, t, l, cs, vs, z, n, m, f)) := by
 unfold kP
 simp only [y0y z h n (y5k hn), y0z z h, ZC q t l cs vs z _ h.S.2.2.2.2.2, wL m (y5k hm), Option.bind_some, yn9, ykj]
 cases hf : yeA q t l cs vs z n != 0 with
 | true =>
  simp only [cond_true, Option.bind_some]
  exact Res.same z _
 | false =>
 simp only [cond_false, Option.bind_some]
 have hp : yo q t l cs vs z = true := by
  unfold yeA at hf
  by_cases hc : yo q t l cs vs z = true ∧ jQ n = true
  ·exact hc.1
  ·rw [if_neg hc] at hf
   cases hf
 have hT := y34 hp
 refine JM (P := Res q t l cs vs z) _ (fun _ => Res.same z _) fun _ => JM (P := Res q t l cs vs z) _ (fun _ => Res.same z _) fun hi => JM (P := Res q t l cs vs z) _ (fun _ => Res.same z _) fun _ => ?_
 have hi' : 0 ≤ YU vs n ∧ YU vs n < ((List.length vs : Nat) : Int) := by
  have := of_decide_eq_false hi
  have := Kd vs n
  omega
 obtain ⟨l', b, e1, h1⟩ := y5j l z (yi vs (YU vs n)).2.1 (by have := hT.ll; omega)
 obtain ⟨l2, b2, e2, h2⟩ := y5j l' (Go.IntKind.wrap .i64 (z + 1)) (yi vs (YU vs n)).2.1 (by have := hT.ll; omega)
 obtain ⟨vs', e3, h3, h4⟩ := yaA (vs.set (Int.toNat (YU vs n)) ((yi vs (YU vs n)).1, z, (yi vs (YU vs n)).2.2)) m (Go.IntKind.wrap .i64 (z + 1)) (yi vs (YU vs n)).2.2.1 f (by rw [List.length_set]; have := hT.vl; omega) (fun v hv => by
  rcases List.mem_or_eq_of_mem_set hv with hv | rfl
  ·exact hT.N v hv
  ·exact hT.N (yi vs (YU vs n)) (yX Yi vs _ hi'.1 hi'.2)) hm
 simp only [if_pos hi'.1, if_pos hi'.2]
 rw [e1]
 simp only [Option.bind_some]
 rw [e2]
 simp only [Option.bind_some]
 rw [e3]
 simp only [Option.bind_some]
 rw [List.length_set] at h3
 have hS : SP q t l2 cs vs' := SP.of h.tq (by have := hT.ll; omega) h.S.2.2.2.2.1 (by have := hT.vl; omega) fun v hv => y5k (h4 v hv)
 cases b <;> simp only [cond_true, cond_false, Option.bind_some] <;> exact Res.fin z h hS _
theorem ynb (n : ByteArray) (hn : n.size ≤ 60) : Res q t l cs vs z (kQ (q, t, l, cs, vs, z, n)) := by
 unfold kQ
 simp only [y5i z h n (y5k hn), y0z z h, ZC q t l cs vs z _ h.S.2.2.2.2.2, Option.bind_some, yn9, ykj]
 refine JM (P := Res q t l cs vs z) _ (fun _ => Res.same z _) fun hf => ?_
 have hi : 0 ≤ YU vs n ∧ YU vs n < ((List.length vs : Nat) : Int) := by
  unfold yuB at hf
  have := Kd vs n
  by_cases hc : yo q t l cs vs z = true ∧ jQ n = true
  ·rw [if_pos hc] at hf
   by_cases hv : YU vs n < 0
   ·rw [if_pos hv] at hf
    cases hf
   ·omega
  ·rw [if_neg hc] at hf
   cases hf
 have hv := h.S.2.2.2.2.2
 have hw : Go.IntKind.wrap .i64 (YU vs n + 1) = YU vs n + 1 := w64 (by omega) (by omega)
 simp only [hw]
 rw [if_pos (Int.le_refl _), if_pos hi.1, if_pos (by omega), if_pos (by simp only [List.length_nil, List.length_drop, List.length_take]; omega), if_pos (by omega), if_pos (by omega), if_pos (Int.le_refl _), if_pos (by simp only [List.length_append, List.length_nil, List.length_drop, List.length_take]; omega)]
 refine Res.fin z h (SP.of h.tq h.S.2.2.2.1 h.S.2.2.2.2.1 (by simp only [List.length_append, List.length_nil, List.length_drop, List.length_take]; omega) fun v hv => ?_) true
 simp only [List.nil_append, List.mem_append] at hv
 rcases hv with hv | hv
 ·exact h.N v (List.mem_of_mem_take (List.mem_of_mem_drop hv))
 ·exact h.N v (List.mem_of_mem_take (List.mem_of_mem_drop hv))
theorem ygD (a b c d e : Int) : ∃ r q' t' cs', zL (q, t, l, cs, vs, z, a, b, c, d, e) = some (r, q', t', l, cs', vs, z) ∧ SP q' t' l cs' vs := by
 have hq := h.tq
 unfold zL
 simp only [Kq q t a b hq.T hq.q, JL q t a b c d e hq.T hq.Q hq.q, Option.bind_some]
 cases (yl q t (a, b, c, d, e)).2.2 with
 | false => exact ⟨_, _, _, _, rfl, h⟩
 | true =>
  unfold wA
  simp only [Bool.not_true, cond_false, v8 cs _ h.S.2.2.2.2.1]
  have hT := Kc (a, b, c, d, e) hq
  have key : ∀ u : Bool, ∃ r q' t' cs', (Option.bind (bif u then Option.bind (some (y11 cs (YT q t a b).2.2.2.1)) fun r2 => some ((yl q t (a, b, c, d, e)).1, (yl q t (a, b, c, d, e)).2.1, l, r2, vs, z) else some ((yl q t (a, b, c, d, e)).1, (yl q t (a, b, c, d, e)).2.1, l, cs, vs, z)) fun r3 => some (true, r3.1, r3.2.1, r3.2.2.1, r3.2.2.2.1, r3.2.2.2.2.1, r3.2.2.2.2.2)) = some (r, q', t', l, cs', vs, z) ∧ SP q' t' l cs' vs := fun u => by
   cases u
   ·exact ⟨_, _, _, _, rfl, hT.sp h h.S.2.2.2.1 h.S.2.2.2.2.1⟩
   ·exact ⟨_, _, _, _, rfl, hT.sp h h.S.2.2.2.1 (by rw [y5b]; exact h.S.2.2.2.2.1)⟩
  cases (YT q t a b).2.2.2.2.2
  ·exact key false
  ·exact key ((YT q t a b).2.2.1 == 1)
theorem yiK (n : ByteArray) (b w : Int) (hn : n.size ≤ 60) : Res q t l cs vs z (Wg (q, t, l, cs, vs, z, n, b, w)) := by
 obtain ⟨cs', i, u, e1, h1, h2⟩ := ych cs w h.S.2.2.2.2.1
 have hS : SP q t l cs' vs := SP.of h.tq h.S.2.2.2.1 (by rw [h1]; exact h.S.2.2.2.2.1) h.S.2.2.2.2.2 h.N
 have main : Vj q t l cs vs z n b = 0 → Res q t l cs vs z (bif u then if (0 : Int) ≤ YU vs n then if YU vs n < ((List.length vs : Nat) : Int) then if (0 : Int) ≤ i then if i < ((List.length cs' : Nat) : Int) then Option.bind (zL (q, t, l, cs', vs, z, b, (yi vs (YU vs n)).2.1, (1 : Int), i, (yG cs' i).1)) fun r7 => yV (q, t, l, cs, vs, z, r7.2.1, r7.2.2.1, r7.2.2.2.1, r7.2.2.2.2.1, r7.2.2.2.2.2.1, r7.2.2.2.2.2.2, r7.1) else none else none else none else none else yV (q, t, l, cs, vs, z, q, t, l, cs', vs, z, false)) := by
  intro hb
  have hi : 0 ≤ YU vs n ∧ YU vs n < ((List.length vs : Nat) : Int) := by
   unfold Vj at hb
   have := Kd vs n
   by_cases hc : yo q t l cs vs z = true ∧ jQ n = true
   ·rw [if_pos hc] at hb
    by_cases hv : YU vs n < 0
    ·rw [if_pos hv] at hb
     cases hb
    ·omega
   ·rw [if_neg hc] at hb
    cases hb
  cases u with
  | false => exact Res.fin z h hS false
  | true =>
   have h3 := h2 rfl
   obtain ⟨r, q', t', cs2, e2, h4⟩ := ygD z hS b (yi vs (YU vs n)).2.1 1 i (yG cs' i).1
   simp only [cond_true, if_pos hi.1, if_pos hi.2, if_pos h3.1, if_pos (show i < ((List.length cs' : Nat) : Int) by rw [h1]; exact h3.2), e2, Option.bind_some]
   exact Res.fin z h h4 r
 unfold Wg
 simp only [Q0 z h n (y5k hn), y0z z h, ZC q t l cs vs z _ h.S.2.2.2.2.2, qy, e1, Option.bind_some, yn9, ykj]
 cases hb : Vj q t l cs vs z n b == 0 with
 | false =>
  have hne : (Vj q t l cs vs z n b != 0) = true := by
   rw [bne, hb]
   rfl
  simp only [cond_false, Option.bind_some, hne, cond_true]
  exact Res.same z _
 | true =>
  have h0 : Vj q t l cs vs z n b = 0 := by simpa using hb
  cases hw : isW w with
  | false =>
   simp only [cond_true, Option.bind_some, Bool.not_false, show ((4 : Int) != 0) = true from rfl]
   exact Res.same z _
  | true =>
   have hne : (Vj q t l cs vs z n b != 0) = false := by
    rw [bne, hb]
    rfl
   simp only [cond_true, Option.bind_some, Bool.not_true, cond_false, hne]
   exact main h0
theorem y0A (i b : Int) (h0 : 0 ≤ i) (h1 : i < (vs.length : Int)) : ∃ r q' t' cs', Yn (q, t, l, cs, vs, z, i, b) = some (r, q', t', l, cs', vs, z) ∧ SP q' t' l cs' vs := by
 have hq := h.tq
 unfold Yn
 simp only [if_pos h0, if_pos h1, y2k q t l _ _ hq.T h.S.2.2.2.1, Kq q t _ _ hq.T hq.q, Option.bind_some, yz1, ykj]
 have key : ∀ u : Bool, ∃ r q' t' cs', (bif u then zL (q, t, l, cs, vs, z, b, (yi vs i).2.1, (2 : Int), (0 : Int), (0 : Int)) else bif (!(YT q t b (yi vs i).2.1).2.2.2.2.2) then some (true, q, t, l, cs, vs, z) else zL (q, t, l, cs, vs, z, b, (yi vs i).2.1, (0 : Int), (0 : Int), (0 : Int))) = some (r, q', t', l, cs', vs, z) ∧ SP q' t' l cs' vs := fun u => by
  cases u
  ·cases (YT q t b (yi vs i).2.1).2.2.2.2.2
   ·exact ⟨_, _, _, _, rfl, h⟩
   ·exact ygD z h _ _ _ _ _
  ·exact ygD z h _ _ _ _ _
 cases (ans (y3s t l b (yi vs i).2.1)).2.2.2.2.2
 ·exact key false
 ·exact key _
theorem yeB (n : ByteArray) (b : Int) (hn : n.size ≤ 60) : Res q t l cs vs z (jW (q, t, l, cs, vs, z, n, b)) := by
 unfold jW
 simp only [Q0 z h n (y5k hn), y0z z h, ZC q t l cs vs z _ h.S.2.2.2.2.2, Option.bind_some, yn9, ykj]
 refine JM (P := Res q t l cs vs z) _ (fun _ => Res.same z _) fun hb => ?_
 have hi : 0 ≤ YU vs n ∧ YU vs n < ((List.length vs : Nat) : Int) := by
  unfold Vj at hb
  have := Kd vs n
  by_cases hc : yo q t l cs vs z = true ∧ jQ n = true
  ·rw [if_pos hc] at hb
   by_cases hv : YU vs n < 0
   ·rw [if_pos hv] at hb
    cases hb
   ·omega
  ·rw [if_neg hc] at hb
   cases hb
 obtain ⟨r, q', t', cs', e1, h1⟩ := y0A z h (YU vs n) b hi.1 hi.2
 rw [e1]
 exact Res.fin z h h1 r
omit h in
theorem yiL {n : ByteArray} {b : Int} (hb : Vj q t l cs vs z n b = 0) : (0 ≤ YU vs n ∧ YU vs n < ((List.length vs : Nat) : Int)) ∧ yo q t l cs vs z = true := by
 unfold Vj at hb
 have := Kd vs n
 by_cases hc : yo q t l cs vs z = true ∧ jQ n = true
 ·rw [if_pos hc] at hb
  by_cases hv : YU vs n < 0
  ·rw [if_pos hv] at hb
   cases hb
  ·exact ⟨by omega, hc.1⟩
 ·rw [if_neg hc] at hb
  cases hb
theorem ygE (n : ByteArray) (s : Int) (hn : n.size ≤ 60) : Res q t l cs vs z (JX (q, t, l, cs, vs, z, n, s)) := by
 have fin : ∀ (i : Int) (s : Int) (ok : Bool) (q' : List yc) (t' : List y0) (cs' : List y8), 0 ≤ i → i < (vs.length : Int) → SP q' t' l cs' vs → Res q t l cs vs z (if (0 : Int) ≤ i then if i < ((List.length vs : Nat) : Int) then yV (q, t, l, cs, vs, z, q', t', l, cs', List.set vs (Int.toNat i) ((yi vs i).1, (yi vs i).2.1, s, (yi vs i).2.2.2), z, ok) else none else none) := by
  intro i s ok q' t' cs' h0 h1 hS
  rw [if_pos h0, if_pos h1]
  refine Res.fin z h ⟨⟨hS.S.1, hS.S.2.1, hS.S.2.2.1, hS.S.2.2.2.1, hS.S.2.2.2.2.1, by rw [List.length_set]; exact h.S.2.2.2.2.2⟩, fun v hv => ?_⟩ ok
  rcases List.mem_or_eq_of_mem_set hv with hv | rfl
  ·exact h.N v hv
  ·exact h.N (yi vs i) (yX Yi vs i h0 h1)
 have loop : ∀ (k0 : Int × Int × Bool × List yc × List y0 × List y9 × List y8 × List ye × Int × Int × Int × List yc × List y0 × List y9 × List y8 × List ye → Option P7a) (k1 : Int × Int × Bool × List yc × List y0 × List y9 × List y8 × List ye × Int × Int × List yc × List y0 × List y9 × Int × List y8 × List ye → Option P7a) (s i b : Int) (ok : Bool) (y : Int), 0 ≤ i → i < (vs.length : Int) → b ≤ 1000 → -1000 ≤ b → 0 ≤ s →
   (∀ ok q' t' cs', SP q' t' l cs' vs → Res q t l cs vs z (k0 (s, i, ok, q, t, l, cs, vs, z, y, z, q', t', l, cs', vs))) →
   (∀ ok q' t' cs', SP q' t' l cs' vs → Res q t l cs vs z (k1 (s, i, ok, q, t, l, cs, vs, z, y, q', t', l, z, cs', vs))) →
   Res q t l cs vs z (wT k0 k1 (Sum.inl (s, i, ok, b, q, t, l, cs, vs, z, y, z, q, t, l, cs, vs))) := by
  intro k0 k1 s i b ok y h0 h1 hb hb0 hs f0 f1
  unfold wT
  refine jc (step := jI k0 k1) (fun u : wS => match u with | .inl u => (u.2.2.2.1 + 1).toNat + 1 | .inr u => (u.2.2.2.1 + 1).toNat)
   (fun u => match u with
    | .inl u => ∃ b ok q' t' cs', b ≤ 1000 ∧ -1000 ≤ b ∧ SP q' t' l cs' vs ∧ u = (s, i, ok, b, q, t, l, cs, vs, z, y, z, q', t', l, cs', vs)
    | .inr u => ∃ b ok q' t' cs', b ≤ 1000 ∧ -1001 ≤ b ∧ SP q' t' l cs' vs ∧ u = (s, i, ok, b, q, t, l, cs, vs, z, y, q', t', l, z, cs', vs))
   (fun _ res => Res q t l cs vs z res) ?_ _ ⟨b, ok, q, t, cs, hb, hb0, h, rfl⟩ (by simp only; omega)
  intro again u hu hag
  cases u with
  | inl u =>
   obtain ⟨b, ok, q', t', cs', k1', k2', hS, rfl⟩ := hu
   unfold jI
   simp only at hag ⊢
   by_cases hbs : b ≥ s
   ·cases ok with
    | false =>
     simp only [decide_eq_true hbs, cond_true, Option.bind_some, cond_false]
     exact f0 _ _ _ _ hS
    | true =>
     obtain ⟨r, q2, t2, cs2, e1, h2⟩ := y0A z hS i b h0 h1
     have hw : Go.IntKind.wrap .i64 (b - 1) = b - 1 := w64 (by omega) (by omega)
     simp only [decide_eq_true hbs, cond_true, Option.bind_some, e1, hw]
     exact hag _ ⟨b - 1, r, q2, t2, cs2, by omega, by omega, h2, rfl⟩ (by simp only; omega)
   ·simp only [decide_eq_false hbs, cond_false, Option.bind_some]
    exact f0 _ _ _ _ hS
  | inr u =>
   obtain ⟨b, ok, q', t', cs', k1', k2', hS, rfl⟩ := hu
   unfold jI
   simp only at hag ⊢
   by_cases hbs : b ≥ s
   ·cases ok with
    | false =>
     simp only [decide_eq_true hbs, cond_true, Option.bind_some, cond_false]
     exact f1 _ _ _ _ hS
    | true =>
     obtain ⟨r, q2, t2, cs2, e1, h2⟩ := y0A z hS i b h0 h1
     have hw : Go.IntKind.wrap .i64 (b - 1) = b - 1 := w64 (by omega) (by omega)
     simp only [decide_eq_true hbs, cond_true, Option.bind_some, e1, hw]
     exact hag _ ⟨b - 1, r, q2, t2, cs2, by omega, by omega, h2, rfl⟩ (by simp only; omega)
   ·simp only [decide_eq_false hbs, cond_false, Option.bind_some]
    exact f1 _ _ _ _ hS
 unfold JX
 simp only [Q0 z h n (y5k hn), y0z z h, ZC q t l cs vs z _ h.S.2.2.2.2.2, ZK, Option.bind_some, yn9, ykj]
 cases hb : Vj q t l cs vs z n 0 == 0 with
 | false =>
  have hne : (Vj q t l cs vs z n 0 != 0) = true := by
   rw [bne, hb]
   rfl
  simp only [cond_false, Option.bind_some, hne, cond_true]
  exact Res.same z _
 | true =>
  have h0 : Vj q t l cs vs z n 0 = 0 := by simpa using hb
  cases hs : inR s 1 12 with
  | false =>
   simp only [cond_true, Option.bind_some, Bool.not_false, show ((4 : Int) != 0) = true from rfl]
   exact Res.same z _
  | true =>
   have hne : (Vj q t l cs vs z n 0 != 0) = false := by
    rw [bne, hb]
    rfl
   simp only [cond_true, Option.bind_some, Bool.not_true, cond_false, hne]
   obtain ⟨hi, hp⟩ := yiL z h0
   rw [if_pos hi.1, if_pos hi.2]
   have hs' := zt.1 hs
   have hr : 1 ≤ (yi vs (YU vs n)).2.2.1 ∧ (yi vs (YU vs n)).2.2.1 ≤ 12 := by
    unfold yo at hp
    simp only [Bool.and_eq_true] at hp
    have hv := hp.2.2.2.2.2.1
    unfold je at hv
    simp only [Bool.and_eq_true, Bool.not_eq_true'] at hv
    obtain ⟨j, hj⟩ := J2 _ vs 0 hv.1 _ (yX Yi vs _ hi.1 hi.2)
    unfold yeu at hj
    simp only [Bool.or_eq_false_iff, Bool.not_eq_false', zt] at hj
    exact hj.2.1
   have hw : Go.IntKind.wrap .i64 ((yi vs (YU vs n)).2.2.1 - 1) = (yi vs (YU vs n)).2.2.1 - 1 := w64 (by omega) (by omega)
   rw [hw]
   exact loop _ _ s (YU vs n) _ true 0 hi.1 hi.2 (by omega) (by omega) (by omega) (fun ok q' t' cs' hS => fin _ s ok q' t' cs' hi.1 hi.2 hS) (fun ok q' t' cs' hS => fin _ s ok q' t' cs' hi.1 hi.2 hS)
end
end Go.Proofs.YtjllpipmaejeoaaGreat.Pl
namespace Go.Proofs.YtjllpipmaejeoaaGreat.Pl
open Go.Proofs.YtjllpipmaejeoaaGreat.R Go.Proofs.YtjllpipmaejeoaaGreat.XW
def JN (cs : List y8) : Int := zF (fun c : y8 => !c.2.1) cs 0
def yeC (cs : List y8) (n : Int) : List y8 × Int × Bool :=
 if ze cs = true ∧ isW n = true ∧ ¬ JN cs < 0 then (cs.set (JN cs).toNat ((cs.getD (JN cs).toNat z0).1, true, n), JN cs, true) else (cs, 0, false)
theorem yiM {cs : List y8} (h : ¬ JN cs < 0) : 0 ≤ JN cs ∧ JN cs < (cs.length : Int) ∧ (cs.getD (JN cs).toNat z0).2.1 = false := by
 rcases Yc (fun c : y8 => !c.2.1) z0 cs 0 (Int.le_refl _) with h1 | ⟨h1, h2, h3⟩
 ·exact absurd (show JN cs < 0 by unfold JN; omega) h
 ·rw [Int.sub_zero] at h3
  refine ⟨h1, by show zF (fun c : y8 => !c.2.1) cs 0 < _; omega, ?_⟩
  have : (!(cs.getD (JN cs).toNat z0).2.1) = true := h3
  simpa using this
theorem yaB (cs : List y8) (n : Int) : (yeC cs n).1.length = cs.length := by
 unfold yeC
 split <;> simp
theorem ygF (cs : List y8) (i : Int) (n : Int) (h0 : 0 ≤ i) (h1 : i < (cs.length : Int)) :
  (List.set (List.set cs (Int.toNat i) ((yG cs i).1, true, (yG cs i).2.2)) (Int.toNat i) ((yG (List.set cs (Int.toNat i) ((yG cs i).1, true, (yG cs i).2.2)) i).1, (yG (List.set cs (Int.toNat i) ((yG cs i).1, true, (yG cs i).2.2)) i).2.1, n)) = cs.set i.toNat ((cs.getD i.toNat z0).1, true, n) := by
 have hr : yG (List.set cs (Int.toNat i) ((yG cs i).1, true, (yG cs i).2.2)) i = ((yG cs i).1, true, (yG cs i).2.2) := by
  show (List.set cs (Int.toNat i) ((yG cs i).1, true, (yG cs i).2.2)).getD i.toNat z0 = _
  rw [List.getD_eq_getElem?_getD, List.getElem?_set_self (by omega)]
  rfl
 rw [hr, List.set_set]
 rfl
theorem yci {cs : List y8} {n : Int} (h : ¬ (ze cs = true ∧ isW n = true ∧ ¬ JN cs < 0)) : yeC cs n = (cs, 0, false) := if_neg h
theorem ydq {cs : List y8} {n : Int} (h : ze cs = true ∧ isW n = true ∧ ¬ JN cs < 0) : yeC cs n = (cs.set (JN cs).toNat ((cs.getD (JN cs).toNat z0).1, true, n), JN cs, true) := if_pos h
theorem y3S (cs : List y8) (n : Int) (hc : cs.length ≤ 1048576) : Y6 (cs, n) = some (yeC cs n) := by
 have e1 : Y5 cs = some cs := by
  unfold Y5
  rw [if_pos (by simp only [List.length_nil]; omega)]
  rfl
 unfold Y6 kR
 simp only [e1, Option.bind_some]
 by_cases hok : ze cs = true ∧ isW n = true
 ·refine (YA (step := zK _ _) (fun i => (cs, n, i, cs)) (fun c : y8 => !c.2.1) (fun i => some (cs.set i.toNat ((cs.getD i.toNat z0).1, true, n), i, true)) (some (cs, 0, false)) z0 cs (by omega) ?_ ?_).trans ?_
  ·intro again i h0 h1
   have hw : Go.IntKind.wrap .i64 (i + 1) = i + 1 := w64 (by omega) (by omega)
   unfold zK
   have hx : cs.getD i.toNat z0 = yG cs i := rfl
   have hs := ygF cs i n h0 h1
   rw [hx] at hs ⊢
   simp only [Bool.cond_eq_ite, decide_eq_true_eq, h0, h1, if_true, hw, JH cs hc, qy, hok.1, hok.2, Option.bind_some, List.length_set, hs]
  ·intro again i hi
   unfold zK
   simp only [Bool.cond_eq_ite, decide_eq_true_eq, if_neg hi, Option.bind_some, Bool.false_eq_true, if_false]
  ·show (if JN cs < 0 then _ else _) = _
   by_cases hf : JN cs < 0
   ·rw [if_pos hf, yci fun h => h.2.2 hf]
   ·rw [if_neg hf, ydq ⟨hok.1, hok.2, hf⟩]
    rfl
 ·rw [yci fun h => hok ⟨h.1, h.2.1⟩]
  refine Zy (step := zK _ _) (fun _ => 0) (fun u => u = (cs, n, 0, cs)) (fun _ => some (cs, 0, false)) ?_ _ rfl (by decide)
  rintro again u rfl _
  unfold zK
  simp only [JH cs hc, qy, Option.bind_some]
  cases hk : ze cs with
  | false => cases decide ((0 : Int) < (cs.length : Int)) <;> rfl
  | true =>
   have hw : isW n = false := by
    cases hw : isW n with
    | false => rfl
    | true => exact absurd ⟨hk, hw⟩ hok
   rw [hw]
   cases decide ((0 : Int) < (cs.length : Int)) <;> rfl
def yaC (q : List Int) (t : List y0) (i : Int) : List Int × List y0 := (q, t.set i.toNat (yN (yz (yf t i))))
theorem yaD (q : List Int) (t : List y0) (i : Int) (h : TS t) (hq : q.length ≤ 1048576) (h0 : 0 ≤ i) (h1 : i < (t.length : Int)) : Jo (q, t, i) = some (yaC q t i) := by
 have ht := h.ok.len
 have hN := nk h h0 h1
 have hk := hN.keys
 have hm : Go.IntKind.wrap .i64 ((t.length : Int) - 1) = (t.length : Int) - 1 := w64 (by omega) (by omega)
 unfold Jo WS
 simp only [VX q t hq (by omega) (fun n hn => (h.node n hn).q), ZK, hm, Option.bind_some]
 rw [zt.2 ⟨h0, by omega⟩, cond_true, if_pos h0, if_pos h1, Vg h h0 h1]
 simp only [Option.bind_some]
 rw [JK _ (by omega)]
 simp only [Option.bind_some]
 rw [if_pos h0, if_pos h1]
 rfl
end Go.Proofs.YtjllpipmaejeoaaGreat.Pl
namespace Go.Proofs.YtjllpipmaejeoaaGreat.Pl
open Go.Proofs.YtjllpipmaejeoaaGreat.R Go.Proofs.YtjllpipmaejeoaaGreat.XW
end Go.Proofs.YtjllpipmaejeoaaGreat.Pl
namespace Go.Proofs.YtjllpipmaejeoaaGreat.Pl
open Go.Proofs.YtjllpipmaejeoaaGreat.R Go.Proofs.YtjllpipmaejeoaaGreat.XW
def yBO (l : List ye) : Prop := ∀ j, j + 1 < l.length → Go.Op.bytesLess (ByteArray.toList (l.getD j Yi).1) (ByteArray.toList (l.getD (j + 1) Yi).1) = true
theorem yiN {vs : List ye} {l : List y9} (h : je vs l = true) : yBO vs := by
 intro j hj
 unfold je at h
 simp only [Bool.and_eq_true, Bool.not_eq_true'] at h
 have := J6 Yi vs 0 h.1 (j + 1) hj
 unfold yeu at this
 simp only [Bool.or_eq_false_iff, Bool.not_eq_false', Bool.and_eq_false_iff] at this
 rcases this.2.2.2.2.1 with h1 | h1
 ·have := of_decide_eq_false h1
  omega
 ·rwa [show ((0 : Int) + ((j + 1 : Nat) : Int) - 1).toNat = j by omega] at h1
section
variable (q : List yc) (t : List y0) (l : List y9) (cs : List y8) (vs : List ye) (z : Int)
variable {q t l cs vs} (h : SP q t l cs vs)
include h
omit h in
end
end Go.Proofs.YtjllpipmaejeoaaGreat.Pl
namespace Go.Proofs.YtjllpipmaejeoaaGreat.Pl
open Go.Proofs.YtjllpipmaejeoaaGreat.R Go.Proofs.YtjllpipmaejeoaaGreat.XW
section
variable {q : List yc} {t : List y0} {l : List y9} {cs : List y8} {vs : List ye} (z : Int) (h : SP q t l cs vs)
include h
end
end Go.Proofs.YtjllpipmaejeoaaGreat.Pl
namespace Go.Proofs.YtjllpipmaejeoaaGreat.Pl
open Go.Proofs.YtjllpipmaejeoaaGreat.R Go.Proofs.YtjllpipmaejeoaaGreat.XW
theorem ydr {l : List Int} {v : Int} : yhm l v = true ↔ v ∈ l := by
 unfold yhm
 constructor
 ·intro h
  have h := of_decide_eq_true h
  rcases Yc (fun a : Int => a == v) ybx l 0 (Int.le_refl _) with h1 | ⟨h1, h2, h3⟩
  ·omega
  ·have h4 : l.getD (zF (fun a : Int => a == v) l 0 - 0).toNat ybx = v := by simpa using h3
   rw [← h4, Int.sub_zero]
   exact yX ybx l _ h1 (by omega)
 ·intro h
  refine decide_eq_true ?_
  refine Decidable.byContradiction fun hn => ?_
  have := Wn (p := fun a : Int => a == v) l 0 (Int.le_refl _) (by omega) v h
  simp at this
theorem yds (b : Int) : ∀ (l s : List y7), l.foldl (y0i b) s = s ++ l.filter fun k => k.1 == b
 | [], s => by simp
 | c :: l, s => by
  rw [List.foldl_cons, yds b l, List.filter_cons]
  unfold y0i
  cases c.1 == b <;> simp
theorem YF {l : List y7} {b : Int} {k : y7} : k ∈ zG l b ↔ k ∈ l ∧ k.1 = b := by
 unfold zG
 rw [yds, List.nil_append, List.mem_filter]
 simp
theorem ync (path : List Int) : ∀ (l : List y7) (s : Bool × y7), (l.foldl (W6 path) s = s ∧ ∀ c ∈ l, c.2.1 ∈ path → s.1 = true ∧ c.2.1 ≤ s.2.2.1) ∨
  ((l.foldl (W6 path) s).1 = true ∧ (l.foldl (W6 path) s).2 ∈ l ∧ (l.foldl (W6 path) s).2.2.1 ∈ path ∧ (s.1 = true → s.2.2.1 ≤ (l.foldl (W6 path) s).2.2.1) ∧ ∀ c ∈ l, c.2.1 ∈ path → c.2.1 ≤ (l.foldl (W6 path) s).2.2.1)
 | [], s => .inl ⟨rfl, fun c hc => by simp at hc⟩
 | a :: l, s => by
  rw [List.foldl_cons]
  by_cases h : yhm path a.2.1 = true ∧ (s.1 = false ∨ s.2.2.1 < a.2.1)
  ·have e : W6 path s a = (true, a) := if_pos h
   have hp := ydr.1 h.1
   have hs : s.1 = true → s.2.2.1 ≤ a.2.1 := fun h1 => by
    rcases h.2 with h2 | h2
    ·rw [h1] at h2
     cases h2
    ·omega
   rw [e]
   rcases ync path l (true, a) with ⟨h1, h2⟩ | ⟨h1, h2, h3, h4, h5⟩
   ·rw [h1]
    exact .inr ⟨rfl, by simp, hp, hs, fun c hc hcp => by
     rcases List.mem_cons.1 hc with rfl | hc
     ·exact Int.le_refl _
     ·exact (h2 c hc hcp).2⟩
   ·have h6 := h4 rfl
    exact .inr ⟨h1, List.mem_cons_of_mem _ h2, h3, fun h7 => Int.le_trans (hs h7) h6, fun c hc hcp => by
     rcases List.mem_cons.1 hc with rfl | hc
     ·exact h6
     ·exact h5 c hc hcp⟩
  ·have e : W6 path s a = s := if_neg h
   rw [e]
   have ha : a.2.1 ∈ path → s.1 = true ∧ a.2.1 ≤ s.2.2.1 := fun hp => by
    have h1 := ydr.2 hp
    refine ⟨?_, ?_⟩
    ·cases hs : s.1 with
     | true => rfl
     | false => exact absurd ⟨h1, .inl hs⟩ h
    ·by_cases h2 : s.2.2.1 < a.2.1
     ·exact absurd ⟨h1, .inr h2⟩ h
     ·omega
   rcases ync path l s with ⟨h1, h2⟩ | ⟨h1, h2, h3, h4, h5⟩
   ·exact .inl ⟨h1, fun c hc hcp => by
     rcases List.mem_cons.1 hc with rfl | hc
     ·exact ha hcp
     ·exact h2 c hc hcp⟩
   ·exact .inr ⟨h1, List.mem_cons_of_mem _ h2, h3, h4, fun c hc hcp => by
     rcases List.mem_cons.1 hc with rfl | hc
     ·have := ha hcp
      exact Int.le_trans this.2 (h4 this.1)
     ·exact h5 c hc hcp⟩
theorem qD (ks : List y7) (path : List Int) : (zB ks path = (false, (0, 0, 0, 0, 0)) ∧ ∀ c ∈ ks, c.2.1 ∉ path) ∨ ((zB ks path).1 = true ∧ (zB ks path).2 ∈ ks ∧ (zB ks path).2.2.1 ∈ path ∧ ∀ c ∈ ks, c.2.1 ∈ path → c.2.1 ≤ (zB ks path).2.2.1) := by
 rcases ync path ks (false, (0, 0, 0, 0, 0)) with ⟨h1, h2⟩ | ⟨h1, h2, h3, _, h5⟩
 ·exact .inl ⟨h1, fun c hc hp => by have := (h2 c hc hp).1; cases this⟩
 ·exact .inr ⟨h1, h2, h3, h5⟩
theorem y8P (id : Int) : ∀ (l : List y9) (s : List Int), l.foldl (qz id) s = s ++ (l.filter fun a => a.2 == id && id != 0).map fun a => a.1
 | [], s => by simp
 | c :: l, s => by
  rw [List.foldl_cons, y8P id l, List.filter_cons]
  unfold qz
  cases c.2 == id && id != 0 <;> simp
theorem yaE {l : List y9} {id : Int} (h0 : id ≠ 0) {a : y9} (ha : a ∈ l) (he : a.2 = id) : 0 < (yQ l id).length := by
 unfold yQ
 rw [y8P, List.nil_append, List.length_map]
 refine List.length_pos_of_mem (List.mem_filter.2 ⟨ha, ?_⟩)
 rw [he]
 simp [h0]
theorem wN {l : List y9} {id : Int} (h : 0 ≤ yR l id) : yR l id < l.length ∧ (l.getD (yR l id).toNat yy).1 = id := by
 rcases Yc (fun a : y9 => a.1 == id) yy l 0 (Int.le_refl _) with h1 | ⟨h1, h2, h3⟩
 ·unfold yR at h
  omega
 ·rw [Int.sub_zero] at h3
  exact ⟨by unfold yR; omega, by simpa [yR] using h3⟩
structure AgesR (l : List y9) : Prop where
 up : ∀ i, i + 1 < l.length → (l.getD i yy).1 < (l.getD (i + 1) yy).1
 pos : ∀ i, i < l.length → 1 ≤ (l.getD i yy).1 ∧ (l.getD i yy).1 ≤ 60
 frm : ∀ i, i < l.length → (l.getD i yy).2 ≠ 0 → ∃ j, j < i ∧ (l.getD j yy).1 = (l.getD i yy).2
theorem Qr {l : List y9} (h : YK l = true) : AgesR l := by
 unfold YK at h
 simp only [Bool.and_eq_true, Bool.not_eq_true', decide_eq_true_eq] at h
 have hb : ∀ i, i < l.length → y2U l i (l.getD i yy) = false := fun i hi => by
  have := J6 yy l 0 h.1 i hi
  rwa [show (0 : Int) + (i : Int) = i by omega] at this
 refine ⟨fun i hi => ?_, fun i hi => ?_, fun i hi h0 => ?_⟩
 ·have := hb (i + 1) hi
  unfold y2U at this
  simp only [Bool.or_eq_false_iff, Bool.and_eq_false_iff, decide_eq_false_iff_not] at this
  rcases this.2.1 with h1 | h1
  ·omega
  ·rw [show (((i + 1 : Nat) : Int) - 1).toNat = i by omega] at h1
   omega
 ·have := hb i hi
  unfold y2U at this
  simp only [Bool.or_eq_false_iff, Bool.not_eq_false', zt] at this
  exact this.1
 ·have := hb i hi
  unfold y2U at this
  simp only [Bool.or_eq_false_iff, Bool.and_eq_false_iff, decide_eq_false_iff_not, bne_eq_false_iff_eq] at this
  rcases this.2.2 with h1 | h1
  ·exact absurd h1 h0
  ·have hf : yc7 l (i : Int) = l.take i := by
    unfold yc7
    simp
   rw [hf] at h1
   obtain ⟨h2, h3⟩ := wN (l := l.take i) (id := (l.getD i yy).2) (by omega)
   rw [List.length_take] at h2
   refine ⟨(yR (l.take i) (l.getD i yy).2).toNat, by omega, ?_⟩
   rw [List.getD_eq_getElem?_getD, List.getElem?_take, if_pos (by omega), ← List.getD_eq_getElem?_getD] at h3
   exact h3
theorem AgesR.lt {l : List y9} (h : AgesR l) : ∀ (d i : Nat), i + 1 + d < l.length → (l.getD i yy).1 < (l.getD (i + 1 + d) yy).1
 | 0, i, hi => h.up i hi
 | d + 1, i, hi => by
  have h1 := AgesR.lt h d i (by omega)
  have h2 := h.up (i + 1 + d) (by omega)
  rw [show i + 1 + (d + 1) = i + 1 + d + 1 by omega]
  omega
theorem ydt {l : List y9} (h : AgesR l) : ∀ (n : Nat) (i : Int), 0 ≤ i → i < l.length → ∀ x ∈ K7 l n i, x = (l.getD i.toNat yy).1 ∨ (x < (l.getD i.toNat yy).1 ∧ x ≠ 0 ∧ ∃ a ∈ l, a.2 = x)
 | 0, _, _, _, x, hx => by simp [K7] at hx
 | n + 1, i, h0, h1, x, hx => by
  rw [kv l n i h0] at hx
  rcases List.mem_cons.1 hx with rfl | hx
  ·exact .inl rfl
  ·have hj : 0 ≤ yR l (l.getD i.toNat yy).2 := by
    refine Decidable.byContradiction fun hn => ?_
    cases n with
    | zero => simp [K7] at hx
    | succ n =>
     rw [K7, if_pos (by omega)] at hx
     simp at hx
   obtain ⟨j1, j2⟩ := wN hj
   have hp := h.pos (yR l (l.getD i.toNat yy).2).toNat (by omega)
   rw [j2] at hp
   have hlt : (l.getD i.toNat yy).2 < (l.getD i.toNat yy).1 := by
    obtain ⟨j, hj1, hj2⟩ := h.frm i.toNat (by omega) (by omega)
    rw [← hj2]
    have := h.lt (i.toNat - (j + 1)) j (by omega)
    rw [show j + 1 + (i.toNat - (j + 1)) = i.toNat by omega] at this
    exact this
   have hmem : l.getD i.toNat yy ∈ l := yX yy l i h0 h1
   rcases ydt h n _ hj j1 x hx with h3 | ⟨h3, h4, h5⟩
   ·rw [j2] at h3
    subst h3
    exact .inr ⟨hlt, by omega, _, hmem, rfl⟩
   ·rw [j2] at h3
    exact .inr ⟨by omega, h4, h5⟩
theorem y6G {l : List y9} (h : AgesR l) {id : Int} (hi : 0 ≤ yR l id) {x : Int} (hx : x ∈ yO l id) : x = id ∨ (x < id ∧ x ≠ 0 ∧ ∃ a ∈ l, a.2 = x) := by
 obtain ⟨h1, h2⟩ := wN hi
 have := ydt h _ _ hi h1 x hx
 rwa [h2] at this
theorem ycj {l : List y9} {id : Int} (hi : 0 ≤ yR l id) : id ∈ yO l id := by
 obtain ⟨h1, h2⟩ := wN hi
 unfold yO
 rw [kv l _ _ hi, h2]
 simp
def y6H (K : List y7) (l : List y9) (cs : List y8) (b age : Int) : Int :=
 if ((zB (zG K b) (yO l age)).1 && (zB (zG K b) (yO l age)).2.2.2.1 == 1) = true then (Z9 cs (zB (zG K b) (yO l age)).2.2.2.2.1 (zB (zG K b) (yO l age)).2.2.2.2.2).1 else 0
section
variable {q : List yc} {t : List y0} {l : List y9} {cs : List y8} {vs : List ye} (z : Int) (h : SP q t l cs vs)
include h
theorem y3T (i b : Int) (h0 : 0 ≤ i) (h1 : i < (vs.length : Int)) (hr : 1 ≤ (yi vs i).2.2.1 ∧ (yi vs i).2.2.1 ≤ 12) (hb : inR b 0 (Go.IntKind.wrap .i64 ((yi vs i).2.2.1 - 1)) = true) : ZI (q, t, l, cs, vs, z, i, b) = some (y6H (yb t) l cs b (yi vs i).2.1) := by
 have hq := h.tq
 have hv := h.S.2.2.2.2.2
 have hm : Go.IntKind.wrap .i64 ((vs.length : Int) - 1) = (vs.length : Int) - 1 := w64 (by omega) (by omega)
 unfold ZI y6H
 simp only [jd, hm, hb, zt.2 ⟨h0, show i ≤ (vs.length : Int) - 1 by omega⟩, Bool.not_true, cond_false, if_pos h0, if_pos h1, Option.bind_some, y3q q t l b _ hq.T h.S.2.2.2.1, y1m cs _ _ h.S.2.2.2.2.1]
 unfold y9R ans
 obtain ⟨r1, r2⟩ := zB (zG (yb t) b) (yO l (yi vs i).2.1)
 cases r1 with
 | false => rfl
 | true =>
  simp only [Bool.not_true, cond_false, Bool.true_and]
  by_cases hk : r2.2.2.1 = 1
  ·rw [show (r2.2.2.1 != 1) = false by simp [hk], show (r2.2.2.1 == 1) = true by simp [hk]]
   rfl
  ·rw [show (r2.2.2.1 != 1) = true by simp [hk], show (r2.2.2.1 == 1) = false by simp [hk]]
   rfl
end
end Go.Proofs.YtjllpipmaejeoaaGreat.Pl
namespace Go.Proofs.YtjllpipmaejeoaaGreat.Pl
open Go.Proofs.YtjllpipmaejeoaaGreat.R Go.Proofs.YtjllpipmaejeoaaGreat.XW
theorem wO {A : Type} [BEq A] [LawfulBEq A] : ∀ (l m : List A), l.Nodup → (∀ x ∈ l, x ∈ m) → l.length ≤ m.length
 | [], _, _, _ => Nat.zero_le _
 | a :: l, m, hn, hs => by
  have h1 := List.nodup_cons.1 hn
  have ha := hs a (by simp)
  have h2 := wO l (m.erase a) h1.2 fun x hx => (List.mem_erase_of_ne (by rintro rfl; exact h1.1 hx)).2 (hs x (by simp [hx]))
  rw [List.length_erase_of_mem ha] at h2
  have := List.length_pos_of_mem ha
  simp only [List.length_cons]
  omega
def y1H (k : y7) : Bool := k.2.2.1 == 1
def we (ks : List y7) : List Int := (ks.filter y1H).map fun k : y7 => k.2.2.2.1
def jz : List y8 → Int → List Int
 | [], _ => []
 | c :: l, i => if c.2.1 = true then i :: jz l (i + 1) else jz l (i + 1)
theorem Vk : ∀ (l : List y8) (i : Int) (j : Nat), j < l.length → (l.getD j z0).2.1 = true → i + j ∈ jz l i
 | c :: l, i, 0, _, h => by
  have h' : c.2.1 = true := h
  rw [jz, if_pos h']
  simp
 | c :: l, i, j + 1, hj, h => by
  have := Vk l (i + 1) j (by simpa using hj) (by simpa using h)
  rw [show i + ((j + 1 : Nat) : Int) = i + 1 + j by omega, jz]
  split
  ·exact List.mem_cons_of_mem _ this
  ·exact this
theorem y0U : ∀ (l : List y8) (s i : Int), 0 ≤ s → s + l.length ≤ 1048576 → l.foldl qS s = s + (jz l i).length
 | [], s, _, _, _ => by simp [jz]
 | c :: l, s, i, h0, h1 => by
  simp only [List.length_cons] at h1
  rw [List.foldl_cons, jz]
  unfold qS
  split
  ·rw [w64 (by omega) (by omega)]
   have := y0U l (s + 1) (i + 1) (by omega) (by omega)
   unfold qS at this
   rw [this, List.length_cons]
   omega
  ·have := y0U l s (i + 1) h0 (by omega)
   unfold qS at this
   rw [this]
theorem y5l : ∀ (l : List y7) (s : Int), 0 ≤ s → s + l.length ≤ 1048576 → l.foldl y0k s = s + (we l).length
 | [], s, _, _ => by simp [we]
 | k :: l, s, h0, h1 => by
  simp only [List.length_cons] at h1
  rw [List.foldl_cons]
  unfold y0k
  by_cases hk : (k.2.2.1 == 1) = true
  ·rw [if_pos hk, w64 (by omega) (by omega)]
   have := y5l l (s + 1) (by omega) (by omega)
   unfold y0k at this
   rw [this]
   have hk' : y1H k = true := hk
   simp only [we, List.filter_cons, hk', if_true, List.map_cons, List.length_cons]
   omega
  ·rw [if_neg hk]
   have := y5l l s h0 (by omega)
   unfold y0k at this
   rw [this]
   have hk' : y1H k = false := by simpa [y1H] using hk
   simp only [we, List.filter_cons, hk', Bool.false_eq_true, if_false]
section
variable {ks : List y7} {l : List y9} {cs : List y8} (h : ZA ks l cs = true)
include h
theorem y5m : Yq (yc9 ks l cs) ks 0 = false ∧ ks.foldl y0k 0 = Qv cs := by
 unfold ZA at h
 simp only [Bool.and_eq_true, Bool.not_eq_true', beq_iff_eq] at h
 exact h
theorem y1I (j : Nat) (hj : j < ks.length) (hd : y1H (ks.getD j yF) = true) : (0 ≤ (ks.getD j yF).2.2.2.1 ∧ (ks.getD j yF).2.2.2.1 < (cs.length : Int) ∧ (cs.getD (ks.getD j yF).2.2.2.1.toNat z0).2.1 = true) ∧ ∀ i, i < j → y1H (ks.getD i yF) = true → (ks.getD i yF).2.2.2.1 ≠ (ks.getD j yF).2.2.2.1 := by
 have h1 := J6 yF ks 0 (y5m h).1 j hj
 unfold yc9 at h1
 have hd' : ((ks.getD j yF).2.2.1 == 1) = true := hd
 simp only [hd', Bool.or_eq_false_iff, Bool.true_and, Bool.not_eq_false'] at h1
 obtain ⟨_, h2, h3⟩ := h1
 refine ⟨?_, fun i hi hdi he => ?_⟩
 ·unfold Z9 at h2
  split at h2
  ·rename_i hh
   simp only [Bool.and_eq_true] at hh
   have := zt.1 hh.1
   exact ⟨this.1, by omega, hh.2.1⟩
  ·cases h2
 ·have hlen : (ks.take j).length = j := by simp; omega
  rw [show ((0 : Int) + (j : Int)).toNat = j by omega] at h3
  have h4 := J6 yF (ks.take j) 0 h3 i (by omega)
  unfold zm at h4
  have e : (ks.take j).getD i yF = ks.getD i yF := by
   rw [List.getD_eq_getElem?_getD, List.getD_eq_getElem?_getD, List.getElem?_take, if_pos hi]
  rw [e, show ((ks.getD i yF).2.2.1 == 1) = true from hdi, he] at h4
  simp at h4
theorem ygG : (we ks).Nodup := by
 unfold we List.Nodup
 rw [List.pairwise_map, List.pairwise_filter, List.pairwise_iff_getElem]
 intro i j hi hj hij h1 h2
 have ei : ks.getD i yF = ks[i] := by simp [hi]
 have ej : ks.getD j yF = ks[j] := by simp [hj]
 have := (y1I h j hj (by rw [ej]; exact h2)).2 i hij (by rw [ei]; exact h1)
 rw [ei, ej] at this
 exact this
theorem ygH (hk : ks.length ≤ 1048576) (hc : cs.length ≤ 1048576) {i : Int} (i0 : 0 ≤ i) (i1 : i < (cs.length : Int)) (hu : (cs.getD i.toNat z0).2.1 = true) :
  ¬ zF (zm i 0) ks 0 < 0 ∧ ∀ j : Nat, j < ks.length → (j : Int) ≠ zF (zm i 0) ks 0 → zm i 0 (ks.getD j yF) = false := by
 have hmem : i ∈ we ks := by
  refine Classical.byContradiction fun hn => ?_
  have h1 := wO (i :: we ks) (jz cs 0) (List.nodup_cons.2 ⟨hn, ygG h⟩) fun x hx => by
   rcases List.mem_cons.1 hx with rfl | hx
   ·have := Vk cs 0 x.toNat (by omega) hu
    rwa [show (0 : Int) + (x.toNat : Int) = x by omega] at this
   ·obtain ⟨k, hk, rfl⟩ := List.mem_map.1 hx
    obtain ⟨hk, hd⟩ := List.mem_filter.1 hk
    obtain ⟨j, hj, rfl⟩ := List.mem_iff_getElem.1 hk
    have ej : ks.getD j yF = ks[j] := by simp [hj]
    obtain ⟨⟨a1, a2, a3⟩, _⟩ := y1I h j hj (by rw [ej]; exact hd)
    rw [ej] at a1 a2 a3
    have := Vk cs 0 (ks[j].2.2.2.1).toNat (by omega) a3
    rwa [show (0 : Int) + ((ks[j].2.2.2.1).toNat : Int) = ks[j].2.2.2.1 by omega] at this
  have h2 := (y5m h).2
  unfold Qv at h2
  rw [y5l ks 0 (Int.le_refl _) (by omega), y0U cs 0 0 (Int.le_refl _) (by omega)] at h2
  simp only [List.length_cons] at h1
  omega
 obtain ⟨k, hk, rfl⟩ := List.mem_map.1 hmem
 obtain ⟨hk, hd⟩ := List.mem_filter.1 hk
 obtain ⟨j, hj, rfl⟩ := List.mem_iff_getElem.1 hk
 have ej : ks.getD j yF = ks[j] := by simp [hj]
 have hdj : zm (ks[j].2.2.2.1) 0 ks[j] = true := by
  unfold zm
  rw [show (ks[j].2.2.1 == 1) = true from hd]
  simp
 have hf : ¬ zF (zm (ks[j].2.2.2.1) 0) ks 0 < 0 := fun hneg => by
  have hall : ∀ (l : List y7) (i : Int), 0 ≤ i → zF (zm (ks[j].2.2.2.1) 0) l i < 0 → ∀ a ∈ l, zm (ks[j].2.2.2.1) 0 a = false := by
   intro l
   induction l with
   | nil => intro _ _ _ a ha; simp at ha
   | cons b l ih =>
    intro i hi hl a ha
    rw [zF] at hl
    split at hl
    ·omega
    ·rename_i hb
     rcases List.mem_cons.1 ha with rfl | ha
     ·simpa using hb
     ·exact ih (i + 1) (by omega) hl a ha
  rw [hall ks 0 (Int.le_refl _) hneg _ hk] at hdj
  cases hdj
 refine ⟨hf, fun j' hj' hne => ?_⟩
 rcases Yc (zm (ks[j].2.2.2.1) 0) yF ks 0 (Int.le_refl _) with h1 | ⟨h1, h2, h3⟩
 ·omega
 ·rw [Int.sub_zero] at h3
  have hkey : ∀ k : y7, zm (ks[j].2.2.2.1) 0 k = true → y1H k = true ∧ k.2.2.2.1 = ks[j].2.2.2.1 := fun k hk => by
   unfold zm at hk
   rw [Bool.and_eq_true, beq_iff_eq (a := k.2.2.2.1)] at hk
   exact hk
  cases hdup : zm (ks[j].2.2.2.1) 0 (ks.getD j' yF) with
  | false => rfl
  | true =>
   obtain ⟨a1, a2⟩ := hkey _ hdup
   obtain ⟨b1, b2⟩ := hkey _ h3
   have hm' : (zF (zm (ks[j].2.2.2.1) 0) ks 0).toNat < ks.length := by omega
   rcases Nat.lt_or_gt_of_ne (show j' ≠ (zF (zm (ks[j].2.2.2.1) 0) ks 0).toNat by omega) with hlt | hlt
   ·exact absurd (a2.trans b2.symm) ((y1I h _ hm' b1).2 j' hlt a1)
   ·exact absurd (b2.trans a2.symm) ((y1I h j' hj' a1).2 _ hlt b1)
end
theorem y5W (q : List Int) (t : List y0) (l : List y9) (cs : List y8) (vs : List ye) (z i : Int) (ht : TOk t) : WT (q, t, l, cs, vs, z, i) = some (if zF (zm i 0) (yb t) 0 < 0 then (0, 0, 0, 0, 0) else (yb t).getD (zF (zm i 0) (yb t) 0).toNat yF) := by
 have ek : yP (q, t) = some (yb t) := YJ q t (by have := ht.len; omega) ht.nodes ht.sum
 have hk := ht.keys
 unfold WT y00
 simp only [ek, Option.bind_some]
 refine (YA (step := Jp _ _) (fun j => (i, j, 0, 0, 0, 0, 0, yb t)) (zm i 0) (fun j => some ((yb t).getD j.toNat yF)) (some (0, 0, 0, 0, 0)) yF (yb t) (by omega) ?_ ?_).trans ?_
 ·intro again j h0 h1
  have hw : Go.IntKind.wrap .i64 (j + 1) = j + 1 := w64 (by omega) (by omega)
  unfold Jp zm
  have hx : (yb t).getD j.toNat yF = y6 (yb t) j := rfl
  rw [hx]
  simp only [Bool.cond_eq_ite, decide_eq_true_eq, h0, h1, if_true, hw]
  cases ((y6 (yb t) j).2.2.1 == 1) <;> cases ((y6 (yb t) j).2.2.2.1 == i) <;> rfl
 ·intro again j hj
  unfold Jp
  simp only [Bool.cond_eq_ite, decide_eq_true_eq, if_neg hj]
 ·split <;> rfl
section
variable (q : List yc) (t : List y0) (l : List y9) (cs : List y8) (vs : List ye) (z : Int)
def y5n (i : Int) : y7 := (yb t).getD (zF (zm i 0) (yb t) 0).toNat yF
def y35 (i : Int) : List y8 := (yeC cs (cs.getD i.toNat z0).2.2).1
def y5o (i : Int) : List Int × List y0 × Bool := yl q t ((y5n t i).1, (y5n t i).2.1, (y5n t i).2.2.1, JN cs, ((y35 cs i).getD (JN cs).toNat z0).1)
def y0B (i : Int) : PO × Bool := (((y5o q t cs i).1, (y5o q t cs i).2.1, l, y11 (y35 cs i) i, vs, z), (y5o q t cs i).2.2)
noncomputable def ygI (i : Int) : PO × Bool :=
 if yo q t l cs vs z = true ∧ 0 ≤ i ∧ i ≤ 23 ∧ (cs.getD i.toNat z0).2.1 = true ∧ ¬ JN cs < 0 ∧ JN cs ≤ i then yaY (q, t, l, cs, vs, z) (y0B q t l cs vs z i) else ((q, t, l, cs, vs, z), false)
theorem y5p {i : Int} (h : ¬ (yo q t l cs vs z = true ∧ 0 ≤ i ∧ i ≤ 23 ∧ (cs.getD i.toNat z0).2.1 = true ∧ ¬ JN cs < 0 ∧ JN cs ≤ i)) : ygI q t l cs vs z i = ((q, t, l, cs, vs, z), false) := if_neg h
variable {q t l cs vs} (h : SP q t l cs vs)
include h
theorem ygJ (i : Int) : SP (y0B q t l cs vs z i).1.1 (y0B q t l cs vs z i).1.2.1 (y0B q t l cs vs z i).1.2.2.1 (y0B q t l cs vs z i).1.2.2.2.1 (y0B q t l cs vs z i).1.2.2.2.2.1 :=
 (Kc _ h.tq).sp h h.S.2.2.2.1 (by
  have h1 := y5b (y35 cs i) i
  have h2 := yaB cs (cs.getD i.toNat z0).2.2
  have h3 := h.S.2.2.2.2.1
  show (y11 (y35 cs i) i).length ≤ _
  unfold y35 at h1 ⊢
  omega)
theorem y6I (hp : yo q t l cs vs z = true) : ze cs = true ∧ ZA (yb t) l cs = true ∧ z8 q t = true := by
 unfold yo at hp
 simp only [Bool.and_eq_true] at hp
 exact ⟨hp.2.2.1, hp.2.2.2.2.2.2, hp.1⟩
omit h in
theorem yaF {cs : List y8} (hc : ze cs = true) (i : Nat) (hi : i < cs.length) : isW (cs.getD i z0).2.2 = true := by
 unfold ze at hc
 simp only [Bool.and_eq_true, Bool.not_eq_true'] at hc
 have := J6 z0 cs 0 hc.1 i hi
 unfold y5P at this
 simp only [Bool.or_eq_false_iff, Bool.not_eq_false'] at this
 exact this.2.1
theorem yaG (i : Int) : Yy (q, t, l, cs, vs, z, i) = some (y2t (ygI q t l cs vs z i)) := by
 have hc := h.S.2.2.2.2.1
 have hq := h.tq
 have hm : Go.IntKind.wrap .i64 ((cs.length : Int) - 1) = (cs.length : Int) - 1 := w64 (by omega) (by omega)
 have ec : ym (q, t, l, cs, vs, z) = some (q, t, l, cs, vs, z) := kz q t l cs vs z h.S
 unfold Yy
 simp only [ec, ZL z h, ZK, hm, Option.bind_some]
 cases hp : yo q t l cs vs z with
 | false =>
  rw [y5p _ _ _ _ _ _ fun hh => by rw [hp] at hh; exact Bool.noConfusion hh.1]
  rfl
 | true =>
  obtain ⟨hcs, hfit, htr⟩ := y6I z h hp
  have h24 := v7 hcs
  simp only [Bool.not_true, cond_false, Option.bind_some]
  cases hi : inR i 0 ((cs.length : Int) - 1) with
  | false =>
   rw [y5p _ _ _ _ _ _ fun hh => by
    rw [zt.2 ⟨hh.2.1, by have := hh.2.2.1; omega⟩] at hi
    cases hi]
   rfl
  | true =>
   obtain ⟨i0, i1⟩ := zt.1 hi
   have i2 : i < (cs.length : Int) := by omega
   have hrd : yG cs i = cs.getD i.toNat z0 := rfl
   simp only [Bool.not_true, cond_false, if_pos i0, if_pos i2, hrd, Option.bind_some]
   cases hu : (cs.getD i.toNat z0).2.1 with
   | false =>
    rw [y5p _ _ _ _ _ _ fun hh => by rw [hu] at hh; exact Bool.noConfusion hh.2.2.2.1]
    rfl
   | true =>
    have hw := yaF hcs i.toNat (by omega)
    obtain ⟨hf, _⟩ := ygH hfit hq.T.keys (by omega) i0 i2 hu
    simp only [Bool.not_true, cond_false, y5W q t l cs vs z i hq.T, y3S cs _ hc, Option.bind_some, if_neg hf]
    by_cases hfree : JN cs < 0
    ·rw [y5p _ _ _ _ _ _ fun hh => hh.2.2.2.2.1 hfree, yci fun hh => hh.2.2 hfree]
     rfl
    ·obtain ⟨f0, f1, f2⟩ := yiM hfree
     have htk := ydq ⟨hcs, hw, hfree⟩
     have hcm : y35 cs i = cs.set (JN cs).toNat ((cs.getD (JN cs).toNat z0).1, true, (cs.getD i.toNat z0).2.2) := by
      unfold y35
      rw [htk]
     rw [htk, ← hcm]
     have hcl : (y35 cs i).length = cs.length := by
      unfold y35
      exact yaB _ _
     simp only [Bool.not_true, cond_false, Option.bind_some]
     by_cases hgt : JN cs > i
     ·rw [decide_eq_true hgt, cond_true, y5p _ _ _ _ _ _ fun hh => by have := hh.2.2.2.2.2; omega]
      rfl
     ·rw [decide_eq_false hgt, cond_false, if_pos f0, if_pos (by omega)]
      have hmk : ygI q t l cs vs z i = yaY (q, t, l, cs, vs, z) (y0B q t l cs vs z i) := if_pos ⟨hp, i0, by omega, hu, hfree, by omega⟩
      rw [hmk]
      have hcell : yG (y35 cs i) (JN cs) = (y35 cs i).getD (JN cs).toNat z0 := rfl
      have hput := JL q t (y5n t i).1 (y5n t i).2.1 (y5n t i).2.2.1 (JN cs) ((y35 cs i).getD (JN cs).toNat z0).1 hq.T hq.Q hq.q
      have hSP := ygJ z h i
      have hpo : yL (y0B q t l cs vs z i).1 = some (y0x (y0B q t l cs vs z i).1) := ZL z hSP
      simp only [hcell, show (yb t).getD (zF (zm i 0) (yb t) 0).toNat yF = y5n t i from rfl]
      rw [hput]
      simp only [Option.bind_some, v8 (y35 cs i) i (by omega)]
      unfold yaY
      cases hok : (y0B q t l cs vs z i).2 with
      | false =>
       have hok' : (y5o q t cs i).2.2 = false := hok
       unfold y5o at hok'
       rw [hok']
       rfl
      | true =>
       have hok' : (y5o q t cs i).2.2 = true := hok
       unfold y5o at hok'
       rw [hok']
       simp only [Bool.not_true, cond_false]
       refine Eq.trans (congrArg (fun o => Option.bind (Option.bind o fun r12 => some (!r12)) _) hpo) ?_
       cases hb : y0x (y0B q t l cs vs z i).1 <;> rfl
end
end Go.Proofs.YtjllpipmaejeoaaGreat.Pl
namespace Go.Proofs.YtjllpipmaejeoaaGreat.Pl
open Go.Proofs.YtjllpipmaejeoaaGreat.R Go.Proofs.YtjllpipmaejeoaaGreat.XW
section
variable {q : List yc} {t : List y0} {l : List y9} {cs : List y8} {vs : List ye} (z : Int) (h : SP q t l cs vs)
include h
end
section
variable (q : List yc) (t : List y0) (l : List y9) (cs : List y8) (vs : List ye) (z : Int)
noncomputable def ynd (i : Int) : PO × Bool := if yo q t l cs vs z = true ∧ 0 ≤ i ∧ i ≤ (t.length : Int) - 1 then (((yaC q t i).1, (yaC q t i).2, l, cs, vs, z), true) else ((q, t, l, cs, vs, z), false)
theorem yck {i : Int} (h : ¬ (yo q t l cs vs z = true ∧ 0 ≤ i ∧ i ≤ (t.length : Int) - 1)) : ynd q t l cs vs z i = ((q, t, l, cs, vs, z), false) := if_neg h
theorem ydu {i : Int} (h : yo q t l cs vs z = true ∧ 0 ≤ i ∧ i ≤ (t.length : Int) - 1) : ynd q t l cs vs z i = (((yaC q t i).1, (yaC q t i).2, l, cs, vs, z), true) := if_pos h
variable {q t l cs vs} (h : SP q t l cs vs)
include h
theorem y3U (i : Int) : Yx (q, t, l, cs, vs, z, i) = some (y2t (ynd q t l cs vs z i)) := by
 have hq := h.tq
 have hm : Go.IntKind.wrap .i64 ((t.length : Int) - 1) = (t.length : Int) - 1 := w64 (by have := hq.T.len; omega) (by have := hq.T.len; omega)
 have ec : ym (q, t, l, cs, vs, z) = some (q, t, l, cs, vs, z) := kz q t l cs vs z h.S
 unfold Yx
 simp only [ec, ZL z h, ZK, hm, Option.bind_some]
 cases hp : yo q t l cs vs z with
 | false =>
  rw [yck _ _ _ _ _ _ fun hh => by rw [hp] at hh; exact Bool.noConfusion hh.1]
  rfl
 | true =>
  simp only [Bool.not_true, cond_false, Option.bind_some]
  cases hi : inR i 0 ((t.length : Int) - 1) with
  | false =>
   rw [yck _ _ _ _ _ _ fun hh => by
    rw [zt.2 hh.2] at hi
    cases hi]
   rfl
  | true =>
   obtain ⟨i0, i1⟩ := zt.1 hi
   rw [ydu _ _ _ _ _ _ ⟨hp, i0, i1⟩, yaD q t i (y2q (y6I z h hp).2.2) h.S.1 i0 (by omega)]
   rfl
end
end Go.Proofs.YtjllpipmaejeoaaGreat.Pl
namespace Go.Proofs.YtjllpipmaejeoaaGreat.Pl
open Go.Proofs.YtjllpipmaejeoaaGreat.R Go.Proofs.YtjllpipmaejeoaaGreat.XW
def yz2 {A : Type} (q : List yc) (t : List y0) (l : List y9) (cs : List y8) (vs : List ye) (z : Int) (o : Option (List yc × List y0 × List y9 × List y8 × List ye × Int × A)) : Prop :=
 ∃ q' t' l' cs' vs' z' c, o = some (q', t', l', cs', vs', z', c) ∧ (Tn q' t' l' cs' vs' ∨ (q', t', l', cs', vs', z') = (q, t, l, cs, vs, z))
section
variable {q : List yc} {t : List y0} {l : List y9} {cs : List y8} {vs : List ye} {z : Int}
theorem Res.a {o : Option P7a} (h : Res q t l cs vs z o) : yz2 q t l cs vs z o := by
 obtain ⟨q', t', l', cs', vs', z', c, e, hc⟩ := h
 exact ⟨q', t', l', cs', vs', z', c, e, hc.imp y34 id⟩
theorem yz2.same {A : Type} (c : A) : yz2 q t l cs vs z (some (q, t, l, cs, vs, z, c)) := ⟨_, _, _, _, _, _, c, rfl, .inr rfl⟩
end
section
variable {q : List yc} {t : List y0} {l : List y9} {cs : List y8} {vs : List ye} (z : Int) (h : SP q t l cs vs)
include h
end
end Go.Proofs.YtjllpipmaejeoaaGreat.Pl
namespace Go.Proofs.YtjllpipmaejeoaaGreat.Pl
open Go.Proofs.YtjllpipmaejeoaaGreat.R Go.Proofs.YtjllpipmaejeoaaGreat.XW
theorem ykk (c : List Int) (p s : Int) (L : List ByteArray) (hL : 0 < L.length) (hL2 : L.length ≤ 1048576) (hs : ∀ t ∈ L, t.size ≤ 60) (h : q9 c p) : yez (Wd (c, p, s, L)) c (fun v => v.size ≤ 60) := by
 obtain ⟨v, p1, s1, e1, h1, q1⟩ := y0T c p s (L.length : Int) h
 have := q1.2 (by omega)
 unfold Wd
 rw [e1]
 simp only [Option.bind_some]
 rw [if_pos q1.1, if_pos this]
 exact ⟨_, _, _, rfl, h1, hs _ (yX yi3 L v q1.1 this)⟩
theorem yne (c : List Int) (p s : Int) (h : q9 c p) : yez (YR (c, p, s)) c (fun v => v.size ≤ 60) := by
 obtain ⟨v, p1, s1, e1, h1, q1⟩ := ykk c p s [{ data := #[97] }, { data := #[98] }, { data := #[99] }, { data := #[100] }, { data := #[101, 53] }] (by simp) (by simp) (by decide) h
 unfold YR
 rw [e1]
 exact ⟨_, _, _, rfl, h1, q1⟩
theorem yiO (c : List Int) (p s : Int) (h : q9 c p) : yez (YS (c, p, s)) c (fun _ => True) := by
 obtain ⟨v, p1, s1, e1, h1, q1⟩ := y0T c p s 200 h
 unfold YS
 rw [e1]
 simp only [Option.bind_some]
 obtain ⟨v2, p2, s2, e2, h2, q2⟩ := ydo c p1 s1 [0, 1, 2, 7, 65535, Go.IntKind.wrap .i64 (1 + v)] (by simp) (by simp) h1
 rw [e2]
 exact ⟨_, _, _, rfl, h2, trivial⟩
def y5q (o : Option (Int × ByteArray × ByteArray × Int × Int × List Int × Int × Int)) (c : List Int) : Prop := ∃ k n t a b p s, o = some (k, n, t, a, b, c, p, s) ∧ q9 c p ∧ ByteArray.size n ≤ 60 ∧ ByteArray.size t ≤ 60
theorem ytQ {c : List Int} {p s : Int} {L : List Int} {k b : Int} {n t : ByteArray} (hL : 0 < L.length) (hL2 : L.length ≤ 1048576) (h : q9 c p) (hn : n.size ≤ 60) (ht : t.size ≤ 60) :
  y5q (Option.bind (zE (c, p, s, L)) fun r => some (k, n, t, r.1, b, r.2.1, r.2.2.1, r.2.2.2)) c := by
 obtain ⟨v, p1, s1, e1, h1, _⟩ := ydo c p s L hL hL2 h
 rw [e1]
 exact ⟨_, _, _, _, _, _, _, rfl, h1, hn, ht⟩
theorem ytR {c : List Int} {p s m : Int} {k b : Int} {n t : ByteArray} (h : q9 c p) (hn : n.size ≤ 60) (ht : t.size ≤ 60) :
  y5q (Option.bind (yx (c, p, s, m)) fun r => some (k, n, t, r.1, b, r.2.1, r.2.2.1, r.2.2.2)) c := by
 obtain ⟨v, p1, s1, e1, h1, _⟩ := y0T c p s m h
 rw [e1]
 exact ⟨_, _, _, _, _, _, _, rfl, h1, hn, ht⟩
theorem ytS {c : List Int} {p s : Int} {L : List Int} {k a : Int} {n : ByteArray} (hL : 0 < L.length) (hL2 : L.length ≤ 1048576) (h : q9 c p) (hn : n.size ≤ 60) :
  y5q (Option.bind (YR (c, p, s)) fun r4 => Option.bind (zE (r4.2.1, r4.2.2.1, r4.2.2.2, L)) fun r5 => some (k, n, r4.1, a, r5.1, r5.2.1, r5.2.2.1, r5.2.2.2)) c := by
 obtain ⟨v, p1, s1, e1, h1, q1⟩ := yne c p s h
 rw [e1]
 simp only [Option.bind_some]
 obtain ⟨v2, p2, s2, e2, h2, _⟩ := ydo c p1 s1 L hL hL2 h1
 rw [e2]
 exact ⟨_, _, _, _, _, _, _, rfl, h2, hn, q1⟩
theorem ytT {c : List Int} {p s m : Int} {k : Int} {n t : ByteArray} (h : q9 c p) (hn : n.size ≤ 60) (ht : t.size ≤ 60) :
  y5q (Option.bind (yx (c, p, s, m)) fun r6 => Option.bind (YS (r6.2.1, r6.2.2.1, r6.2.2.2)) fun r7 => some (k, n, t, r6.1, r7.1, r7.2.1, r7.2.2.1, r7.2.2.2)) c := by
 obtain ⟨v, p1, s1, e1, h1, _⟩ := y0T c p s m h
 rw [e1]
 simp only [Option.bind_some]
 obtain ⟨v2, p2, s2, e2, h2, _⟩ := yiO c p1 s1 h1
 rw [e2]
 exact ⟨_, _, _, _, _, _, _, rfl, h2, hn, ht⟩
theorem ytU {c : List Int} {p s k a b : Int} {n t : ByteArray} (h : q9 c p) (hn : n.size ≤ 60) (ht : t.size ≤ 60) : y5q (some (k, n, t, a, b, c, p, s)) c := ⟨_, _, _, _, _, _, _, rfl, h, hn, ht⟩
theorem yz3 : (⟨#[]⟩ : ByteArray).size ≤ 60 := by decide
theorem yeD {A : Type} {P : A → Prop} (b : Bool) {x y : A} (hx : P x) (hy : P y) : P (bif b then x else y) := by cases b <;> assumption
theorem ytV (c : List Int) (p s : Int) (h : q9 c p) : y5q (YW (c, p, s)) c := by
 unfold YW
 obtain ⟨v, p1, s1, e1, h1, _⟩ := ydo c p s [1, 1, 1, 2, 2, 3, 4, 4, 4, 4, 4, 4, 5, 6, 7, 7, 8, 9] (by simp) (by simp) h
 rw [e1]
 simp only [Option.bind_some]
 obtain ⟨n, p2, s2, e2, h2, hn⟩ := ykk c p1 s1 [{ data := #[97] }, { data := #[97] }, { data := #[98] }, { data := #[99] }, { data := #[100] }] (by simp) (by simp) (by decide) h1
 rw [e2]
 simp only [Option.bind_some]
 have hz := yz3
 repeat' (first
  | with_reducible refine yeD (P := fun o => y5q o c) _ ?_ ?_
  | with_reducible exact ytQ (by simp) (by simp) h2 hn hz
  | with_reducible exact ytQ (by simp) (by simp) h1 hz hz
  | with_reducible exact ytS (by simp) (by simp) h2 hn
  | with_reducible exact ytS (by simp) (by simp) h1 hz
  | with_reducible exact ytT h2 hn hz
  | with_reducible exact ytT h1 hz hz
  | with_reducible exact ytR h2 hn hz
  | with_reducible exact ytR h1 hz hz
  | with_reducible exact ytU h2 hn hz
  | with_reducible exact ytU h1 hz hz)
end Go.Proofs.YtjllpipmaejeoaaGreat.Pl
namespace Go.Proofs.YtjllpipmaejeoaaGreat.Pl
open Go.Proofs.YtjllpipmaejeoaaGreat.R Go.Proofs.YtjllpipmaejeoaaGreat.XW
def Nsm (n : List ya) (a : Nat) (b : Int) : Prop := n.length ≤ a ∧ kr qc n ≤ b
theorem Nsm.ns {n : List ya} {a : Nat} {b : Int} (h : Nsm n a b) (ha : a ≤ 900) (hb : b ≤ 900) : NS n := ⟨Nat.le_trans h.1 (by omega), by have := h.2; omega⟩
end Go.Proofs.YtjllpipmaejeoaaGreat.Pl
namespace Go.Proofs.YtjllpipmaejeoaaGreat.Pl
open Go.Proofs.YtjllpipmaejeoaaGreat.R Go.Proofs.YtjllpipmaejeoaaGreat.XW
theorem ynf (x : List Int) (m : Int) (hx : x.length ≤ 1099511627776) (hm : 3 ≤ m) : ∃ n, WU (x, m) = some n ∧ 0 ≤ n ∧ n ≤ m := by
 unfold WU
 have hd : Int.tdiv ((List.length x : Nat) : Int) 12 = ((List.length x : Nat) : Int) / 12 := Int.tdiv_eq_ediv_of_nonneg (by omega)
 simp only [hd]
 rw [show Go.IntKind.wrap .i64 (((List.length x : Nat) : Int) / 12) = ((List.length x : Nat) : Int) / 12 from w64 (by omega) (by omega), show Go.IntKind.wrap .i64 (3 + ((List.length x : Nat) : Int) / 12) = 3 + ((List.length x : Nat) : Int) / 12 from w64 (by omega) (by omega)]
 by_cases h : 3 + ((List.length x : Nat) : Int) / 12 > m
 ·rw [decide_eq_true h]
  exact ⟨_, rfl, by omega, Int.le_refl _⟩
 ·rw [decide_eq_false h]
  exact ⟨_, rfl, by omega, by omega⟩
end Go.Proofs.YtjllpipmaejeoaaGreat.Pl
namespace Go.Proofs.YtjllpipmaejeoaaGreat.Pl
open Go.Proofs.YtjllpipmaejeoaaGreat.R Go.Proofs.YtjllpipmaejeoaaGreat.XW
theorem ygK {A : Type} (t : List A) (i : Nat) (h : i < t.length) (x : A) : t.set i x = t.take i ++ ([x] ++ t.drop (i + 1)) := by
 rw [List.set_eq_take_append_cons_drop, if_pos h]
 rfl
theorem yaH {A : Type} (t : List A) (i : Nat) (x d : A) (j : Nat) (h : i ≠ j) : (t.set i x).getD j d = t.getD j d := by
 rw [List.getD_eq_getElem?_getD, List.getD_eq_getElem?_getD, List.getElem?_set_ne h]
theorem yaI {A : Type} (t : List A) (i : Nat) (x d : A) (h : i < t.length) : (t.set i x).getD i d = x := by
 rw [List.getD_eq_getElem?_getD, List.getElem?_set_self h]
 rfl
theorem yaJ (t : List y0) (i : Nat) (hi : i < t.length) : yb (t.set i (yN (yz (t.getD i yg)))) = yb t := by
 have e := ZB (KG (t.getD i yg)) fun x hx => Vi hx
 conv => rhs; rw [qB yg t i hi]
 rw [ygK t i hi, YE, YE, YE, YE, Kr, Kr, e]
theorem ygL {q : List Int} {t : List y0} (h : z8 q t = true) (i : Nat) (hi : i < t.length) : z8 q (t.set i (yN (yz (t.getD i yg)))) = true := by
 have hk := yaJ t i hi
 have hf := jR h
 unfold z8 at h ⊢
 rw [hk, List.length_set]
 simp only [Bool.and_eq_true, Bool.not_eq_true', decide_eq_true_eq] at h ⊢
 refine ⟨h.1, h.2.1, h.2.2.1, kw yg _ 0 fun j hj => ?_, h.2.2.2.2⟩
 rw [List.length_set] at hj
 have hb := J6 yg t 0 h.2.2.2.1 j hj
 by_cases hij : i = j
 ·subst hij
  rw [yaI t i _ _ hi]
  unfold KX y2i at hb ⊢
  simp only [Bool.or_eq_false_iff, Bool.not_eq_false', Bool.and_eq_true, Bool.not_eq_true'] at hb ⊢
  obtain ⟨h1, h2, h3, h4⟩ := hb
  obtain ⟨f1, f2, f3⟩ := wc h2
  have hl := KD (t.getD i yg)
  have hkey : ∀ k ∈ yz (t.getD i yg), zO k = true := fun k hk => by
   obtain ⟨c, hc, hkc⟩ := y0l hk
   exact f3 c hc k hkc
  refine ⟨h1, y2V (KG _) hkey (by omega), ?_, ?_⟩
  ·unfold y6y at h3 ⊢
   rw [ZB (KG _) fun x hx => Vi hx]
   exact h3
  ·unfold yN
   split
   ·rfl
   ·show (yaX q _ 0 (yz (t.getD i yg)) || false) = false
    rw [Bool.or_false]
    unfold yaX
    refine kw yF _ 0 fun m hm => ?_
    have hmm : (yz (t.getD i yg)).getD m yF ∈ yz (t.getD i yg) := by
     rw [yE _ _ _ hm]
     exact List.getElem_mem _
    obtain ⟨c, hc, hkc⟩ := y0l hmm
    obtain ⟨j1, hj1⟩ := J2 _ _ 0 h4 c hc
    unfold yaX at hj1
    obtain ⟨j2, hj2⟩ := J2 _ _ 0 hj1 _ hkc
    exact hj2
 ·rw [yaH t i _ _ j hij]
  exact hb
theorem ygM {q : List Int} {t : List y0} {l : List y9} {cs : List y8} {vs : List ye} {z : Int} (h : yo q t l cs vs z = true) (i : Int) (h0 : 0 ≤ i) (h1 : i < (t.length : Int)) : yo (yaC q t i).1 (yaC q t i).2 l cs vs z = true := by
 have hk := yaJ t i.toNat (by omega)
 rw [show yaC q t i = (q, t.set i.toNat (yN (yz (t.getD i.toNat yg)))) from rfl]
 unfold yo at *
 simp only [Bool.and_eq_true] at h ⊢
 rw [hk]
 exact ⟨ygL h.1 i.toNat (by omega), h.2⟩
def y6J {A : Type} (o : Option (List yc × List y0 × List y9 × List y8 × List ye × Int × A)) : Prop :=
 ∃ q' t' l' cs' vs' z' c, o = some (q', t', l', cs', vs', z', c) ∧ yo q' t' l' cs' vs' z' = true
section
variable {q : List yc} {t : List y0} {l : List y9} {cs : List y8} {vs : List ye} {z : Int}
theorem Res.b {o : Option P7a} (hp : yo q t l cs vs z = true) (h : Res q t l cs vs z o) : y6J o := by
 obtain ⟨q', t', l', cs', vs', z', c, e, hc⟩ := h
 refine ⟨q', t', l', cs', vs', z', c, e, ?_⟩
 rcases hc with hc | hc
 ·exact hc
 ·simp only [Prod.mk.injEq] at hc
  obtain ⟨rfl, rfl, rfl, rfl, rfl, rfl⟩ := hc
  exact hp
theorem y6J.same {A : Type} (hp : yo q t l cs vs z = true) (c : A) : y6J (some (q, t, l, cs, vs, z, c)) := ⟨_, _, _, _, _, _, c, rfl, hp⟩
variable (z) (h : SP q t l cs vs) (hp : yo q t l cs vs z = true)
include h hp
theorem yaK (r : PO × Bool) : y0x (yaY (q, t, l, cs, vs, z) r).1 = true := by
 unfold yaY
 split
 ·rename_i hh
  rw [Bool.and_eq_true] at hh
  exact hh.2
 ·exact hp
theorem yeE (i : Int) : y6J (Yx (q, t, l, cs, vs, z, i)) := by
 rw [y3U z h i]
 by_cases hh : yo q t l cs vs z = true ∧ 0 ≤ i ∧ i ≤ (t.length : Int) - 1
 ·rw [ydu q t l cs vs z hh]
  exact ⟨_, _, _, _, _, _, _, rfl, ygM hp i hh.2.1 (by omega)⟩
 ·rw [yck q t l cs vs z hh]
  exact y6J.same hp _
theorem yeF (i : Int) : y6J (Yy (q, t, l, cs, vs, z, i)) := by
 rw [yaG z h i]
 have hb : y0x (ygI q t l cs vs z i).1 = true := by
  unfold ygI
  split
  ·exact yaK z h hp _
  ·exact hp
 exact ⟨_, _, _, _, _, _, _, rfl, hb⟩
theorem ycl : y6J (Ye (q, t, l, cs, vs, z)) := by
 rw [y32 z h]
 have hb : y0x (wM q t l cs vs z).1 = true := by
  unfold wM
  split
  ·split
   ·exact hp
   ·exact yaK z h hp _
  ·exact hp
 exact ⟨_, _, _, _, _, _, _, rfl, hb⟩
theorem ycm (k : Int) (n m : ByteArray) (a b : Int) (hn : n.size ≤ 60) (hm : m.size ≤ 60) : y6J (Jq (q, t, l, cs, vs, z, k, n, m, a, b)) := by
 unfold Jq Kj
 simp only [yaz k n m a b (y5k hn) (y5k hm), ZL z h, y0z z h, Option.bind_some, yn9, yz0, ykj]
 have key : ∀ u : Bool, y6J (bif u then some (q, t, l, cs, vs, z, (1 : Int)) else bif (k == (1 : Int)) then JS (q, t, l, cs, vs, z, n, a) else bif (k == (2 : Int)) then kP (q, t, l, cs, vs, z, n, m, (b == (1 : Int))) else bif (k == (3 : Int)) then kQ (q, t, l, cs, vs, z, n) else bif (k == (4 : Int)) then Wg (q, t, l, cs, vs, z, n, a, b) else bif (k == (5 : Int)) then jW (q, t, l, cs, vs, z, n, a) else bif (k == (6 : Int)) then JX (q, t, l, cs, vs, z, n, a) else
   Option.bind (bif (k == (7 : Int)) then Ye (q, t, l, cs, vs, z) else bif (k == (8 : Int)) then Yx (q, t, l, cs, vs, z, a) else Yy (q, t, l, cs, vs, z, a)) fun r11 => bif (!r11.2.2.2.2.2.2) then some (r11.1, r11.2.1, r11.2.2.1, r11.2.2.2.1, r11.2.2.2.2.1, r11.2.2.2.2.2.1, (2 : Int)) else some (r11.1, r11.2.1, r11.2.2.1, r11.2.2.2.1, r11.2.2.2.2.1, r11.2.2.2.2.2.1, (0 : Int))) := by
  intro u
  refine JM (P := y6J) _ (fun _ => y6J.same hp _) fun _ => JM (P := y6J) _ (fun _ => (ygC z h n a hn).b hp) fun _ => JM (P := y6J) _ (fun _ => (yna z h n m _ hn hm).b hp) fun _ => JM (P := y6J) _ (fun _ => (ynb z h n hn).b hp) fun _ => JM (P := y6J) _ (fun _ => (yiK z h n a b hn).b hp) fun _ => JM (P := y6J) _ (fun _ => (yeB z h n a hn).b hp) fun _ => JM (P := y6J) _ (fun _ => (ygE z h n a hn).b hp) fun _ => ?_
  have hs : y6J (bif (k == (7 : Int)) then Ye (q, t, l, cs, vs, z) else bif (k == (8 : Int)) then Yx (q, t, l, cs, vs, z, a) else Yy (q, t, l, cs, vs, z, a)) :=
   JM (P := y6J) _ (fun _ => ycl z h hp) fun _ => JM (P := y6J) _ (fun _ => yeE z h hp a) fun _ => yeF z h hp a
  obtain ⟨q', t', l', cs', vs', z', c, e, hc⟩ := hs
  rw [e]
  cases c
  ·exact ⟨_, _, _, _, _, _, _, rfl, hc⟩
  ·exact ⟨_, _, _, _, _, _, _, rfl, hc⟩
 cases yyZ k n m a b
 ·exact key true
 ·exact key _
end
def ydv (o : Option (List yc × List y0 × List y9 × List y8 × List ye × Int × List Int × Int × Int)) (c : List Int) : Prop := ∃ q t l cs vs z p s, o = some (q, t, l, cs, vs, z, c, p, s) ∧ q9 c p ∧ yo q t l cs vs z = true
theorem yiP : yo [0] [[]] [] (List.replicate (Int.toNat (24 : Int)) z0) [] 1 = true := by decide
theorem ycn (c : List Int) (p s m : Int) (h : q9 c p) (m0 : 0 ≤ m) (m1 : m ≤ 1000) : ydv (wC (c, p, s, m)) c := by
 obtain ⟨v1, p1, s1, e1, h1, q1⟩ := y0T c p s (m + 1) h
 have b1 := q1.2 (by omega)
 unfold wC Qh Kh Kg Ww
 rw [if_pos (by omega), if_pos (by omega), if_pos (by decide)]
 simp only [Option.bind_some]
 rw [show Go.IntKind.wrap .i64 (m + 1) = m + 1 from w64 (by omega) (by omega), e1]
 simp only [Option.bind_some]
 refine jc (step := jK _ _) (fun u : wU => match u with | .inl u => u.1.toNat | .inr u => u.1.toNat) (fun u => match u with | .inl u => ∃ k y q t l cs vs z p s, u = (k, c, p, s, y, z, q, t, l, cs, vs) ∧ q9 c p ∧ 0 ≤ k ∧ k ≤ 1000 ∧ yo q t l cs vs z = true | .inr u => ∃ k y q t l cs vs z p s, u = (k, c, p, s, y, q, t, l, z, cs, vs) ∧ q9 c p ∧ 0 ≤ k ∧ k ≤ 1000 ∧ yo q t l cs vs z = true) (fun _ (res : Option (List yc × List y0 × List y9 × List y8 × List ye × Int × List Int × Int × Int)) => ydv res c) ?_ _ ⟨v1, 0, _, _, _, _, _, 1, p1, s1, rfl, h1, q1.1, by omega, yiP⟩ (by simp only; omega)
 intro again u hu hag
 have step : ∀ (k y : Int) q t l cs vs (z p s : Int), q9 c p → 0 ≤ k → k ≤ 1000 → yo q t l cs vs z = true → k > 0 → (∀ k' q' t' l' cs' vs' z' p' s', q9 c p' → 0 ≤ k' → k' < k → yo q' t' l' cs' vs' z' = true → ydv (again (Sum.inr (k', c, p', s', y, q', t', l', z', cs', vs'))) c) → ydv (Option.bind (YW (c, p, s)) fun r3 => Option.bind (Jq (q, t, l, cs, vs, z, r3.1, r3.2.1, r3.2.2.1, r3.2.2.2.1, r3.2.2.2.2.1)) fun r4 => again (Sum.inr ((Go.IntKind.wrap .i64 (k - (1 : Int))), r3.2.2.2.2.2.1, r3.2.2.2.2.2.2.1, r3.2.2.2.2.2.2.2, y, r4.1, r4.2.1, r4.2.2.1, r4.2.2.2.2.2.1, r4.2.2.2.1, r4.2.2.2.2.1))) c := by
  intro k y q t l cs vs z p s hc k0 k1 hT hk hag2
  obtain ⟨kd, n, m, a, b, p2, s2, e2, h2, hn, hm⟩ := ytV c p s hc
  obtain ⟨q', t', l', cs', vs', z', cc, e3, h3⟩ := ycm z (y34 hT).sp hT kd n m a b hn hm
  have hw : Go.IntKind.wrap .i64 (k - 1) = k - 1 := w64 (by omega) (by omega)
  simp only [e2, e3, Option.bind_some, hw]
  exact hag2 _ _ _ _ _ _ _ _ _ h2 (by omega) (by omega) h3
 cases u with
 | inl u =>
  obtain ⟨k, y, q, t, l, cs, vs, z, p, s, rfl, hc, k0, k1, hT⟩ := hu
  unfold jK
  simp only [Bool.cond_eq_ite, decide_eq_true_eq]
  by_cases hk : k > 0
  ·simp only [if_pos hk]
   exact step k y q t l cs vs z p s hc k0 k1 hT hk fun k' q' t' l' cs' vs' z' p' s' g1 g2 g3 g4 => hag _ ⟨_, _, _, _, _, _, _, _, _, _, rfl, g1, g2, by omega, g4⟩ (by simp only; omega)
  ·simp only [if_neg hk]
   exact ⟨_, _, _, _, _, _, _, _, rfl, hc, hT⟩
 | inr u =>
  obtain ⟨k, y, q, t, l, cs, vs, z, p, s, rfl, hc, k0, k1, hT⟩ := hu
  unfold jK
  simp only [Bool.cond_eq_ite, decide_eq_true_eq]
  by_cases hk : k > 0
  ·simp only [if_pos hk]
   exact step k y q t l cs vs z p s hc k0 k1 hT hk fun k' q' t' l' cs' vs' z' p' s' g1 g2 g3 g4 => hag _ ⟨_, _, _, _, _, _, _, _, _, _, rfl, g1, g2, by omega, g4⟩ (by simp only; omega)
  ·simp only [if_neg hk]
   exact ⟨_, _, _, _, _, _, _, _, rfl, hc, hT⟩
end Go.Proofs.YtjllpipmaejeoaaGreat.Pl
namespace Go.Proofs.YtjllpipmaejeoaaGreat.Pl
open Go.Proofs.YtjllpipmaejeoaaGreat.R Go.Proofs.YtjllpipmaejeoaaGreat.XW
structure PoolR (q : List yc) (t : List y0) (l : List y9) (cs : List y8) (vs : List ye) (z : Int) : Prop where
 tree : z8 q t = true
 ages : YK l = true
 cells : ze cs = true
 fit : ZA (yb t) l cs = true
 late : ∀ a ∈ l, a.1 < z
 next : 1 ≤ z ∧ z ≤ 61
 srt : yBO vs
 name : ∀ i, i < vs.length → jQ (vs.getD i Yi).1 = true
 size : ∀ i, i < vs.length → 1 ≤ (vs.getD i Yi).2.2.1 ∧ (vs.getD i Yi).2.2.1 ≤ 12
 age : ∀ i, i < vs.length → 0 ≤ yR l (vs.getD i Yi).2.1
 leaf : ∀ i, i < vs.length → (yQ l (vs.getD i Yi).2.1).length = 0
 apart : ∀ i j, i < j → j < vs.length → (vs.getD i Yi).2.1 ≠ (vs.getD j Yi).2.1
 few : vs.length ≤ 6
theorem YG {q : List yc} {t : List y0} {l : List y9} {cs : List y8} {vs : List ye} {z : Int} (h : yo q t l cs vs z = true) : PoolR q t l cs vs z := by
 unfold yo at h
 simp only [Bool.and_eq_true, Bool.not_eq_true', zt] at h
 obtain ⟨h1, h2, h3, h4, h5, h6, h7⟩ := h
 have hs := yiN h6
 unfold je at h6
 simp only [Bool.and_eq_true, Bool.not_eq_true', decide_eq_true_eq] at h6
 have hv : ∀ i, i < vs.length → yeu vs l i (vs.getD i Yi) = false := fun i hi => by
  have := J6 Yi vs 0 h6.1 i hi
  rwa [show (0 : Int) + (i : Int) = i by omega] at this
 unfold yeu at hv
 simp only [Bool.or_eq_false_iff, Bool.not_eq_false', decide_eq_false_iff_not, zt] at hv
 refine ⟨h1, h2, h3, h7, fun a ha => ?_, h4, hs, fun i hi => (hv i hi).1, fun i hi => (hv i hi).2.1, fun i hi => ?_, fun i hi => ?_, fun i j hij hj he => ?_, by omega⟩
 ·obtain ⟨j, hj⟩ := J2 _ _ 0 h5 a ha
  unfold VV at hj
  have := of_decide_eq_false hj
  omega
 ·have := (hv i hi).2.2.1
  omega
 ·have := (hv i hi).2.2.2.1
  omega
 ·have h8 := (hv j hj).2.2.2.2.2
  rw [show ((j : Int)).toNat = j by omega] at h8
  have h9 := J6 Yi _ 0 h8 i (by rw [List.length_take]; omega)
  have e9 : (vs.take j).getD i Yi = vs.getD i Yi := by
   rw [List.getD_eq_getElem?_getD, List.getElem?_take, if_pos hij, ← List.getD_eq_getElem?_getD]
  rw [e9] at h9
  unfold JI at h9
  rw [he] at h9
  simp at h9
theorem PoolR.unlike {q : List yc} {t : List y0} {l : List y9} {cs : List y8} {vs : List ye} {z : Int} (h : PoolR q t l cs vs z) {i j : Nat} (hi : i < vs.length) (hj : j < vs.length) (hij : i ≠ j) : (vs.getD i Yi).2.1 ≠ (vs.getD j Yi).2.1 := by
 rcases Nat.lt_or_gt_of_ne hij with h1 | h1
 ·exact h.apart i j h1 hj
 ·exact fun he => h.apart j i h1 hi he.symm
theorem PoolR.off {q : List yc} {t : List y0} {l : List y9} {cs : List y8} {vs : List ye} {z : Int} (h : PoolR q t l cs vs z) {i j : Nat} (hi : i < vs.length) (hj : j < vs.length) (hij : i ≠ j) : (vs.getD i Yi).2.1 ∉ yO l (vs.getD j Yi).2.1 := fun hx => by
 rcases y6G (Qr h.ages) (h.age j hj) hx with h1 | ⟨h1, h2, a, ha, he⟩
 ·exact h.unlike hi hj hij h1
 ·have := yaE h2 ha he
  have := h.leaf i hi
  omega
section
variable {ks : List y7} {l : List y9} {cs : List y8} (h : ZA ks l cs = true)
include h
theorem y8Q {c : y7} (hc : c ∈ ks) (hd : c.2.2.1 = 1) : 0 ≤ c.2.2.2.1 ∧ c.2.2.2.1 < (cs.length : Int) ∧ (cs.getD c.2.2.2.1.toNat z0).2.1 = true := by
 obtain ⟨j, hj, rfl⟩ := List.mem_iff_getElem.1 hc
 have := (y1I h j hj (by rw [yE _ _ _ hj]; unfold y1H; rw [hd]; rfl)).1
 rwa [yE _ _ _ hj] at this
theorem Vl {c d : y7} (hc : c ∈ ks) (hd : d ∈ ks) (h1 : c.2.2.1 = 1) (h2 : d.2.2.1 = 1) (he : c.2.2.2.1 = d.2.2.2.1) : c = d := by
 obtain ⟨i, hi, rfl⟩ := List.mem_iff_getElem.1 hc
 obtain ⟨j, hj, rfl⟩ := List.mem_iff_getElem.1 hd
 have di : y1H (ks.getD i yF) = true := by rw [yE _ _ _ hi]; unfold y1H; rw [h1]; rfl
 have dj : y1H (ks.getD j yF) = true := by rw [yE _ _ _ hj]; unfold y1H; rw [h2]; rfl
 rcases Nat.lt_trichotomy i j with h5 | h5 | h5
 ·have := (y1I h j hj dj).2 i h5 di
  rw [yE _ _ _ hi, yE _ _ _ hj] at this
  exact absurd he this
 ·subst h5
  rfl
 ·have := (y1I h i hi di).2 j h5 dj
  rw [yE _ _ _ hi, yE _ _ _ hj] at this
  exact absurd he.symm this
theorem y8R {c : y7} (hc : c ∈ ks) : 0 ≤ yR l c.2.1 := by
 obtain ⟨j, hj⟩ := J2 _ _ 0 (y5m h).1 c hc
 unfold yc9 at hj
 simp only [Bool.or_eq_false_iff, decide_eq_false_iff_not] at hj
 omega
theorem y8S {c : y7} (hc : c ∈ ks) (hd : c.2.2.1 = 1) : (Z9 cs c.2.2.2.1 c.2.2.2.2).2 = true := by
 obtain ⟨j, hj⟩ := J2 _ _ 0 (y5m h).1 c hc
 unfold yc9 at hj
 rw [show (c.2.2.1 == 1) = true by rw [hd]; rfl, Bool.true_and] at hj
 simp only [Bool.or_eq_false_iff, Bool.not_eq_false'] at hj
 exact hj.2.1
end
theorem yco {cs cs' : List y8} {n g : Int} (hl : cs'.length = cs.length) (he : cs'.getD n.toNat z0 = cs.getD n.toNat z0) : Z9 cs' n g = Z9 cs n g := by
 unfold Z9
 rw [hl, he]
theorem ygN {cs : List y8} {i : Int} {n : Nat} (hn : i.toNat ≠ n) : (y11 cs i).getD n z0 = cs.getD n z0 := by
 unfold y11
 split
 ·exact yaH _ _ _ _ _ hn
 ·rfl
section
variable {q : List yc} {t : List y0} {l : List y9} {cs cs2 : List y8} {k : y7} (ht : z8 q t = true) (hok : (yl q t k).2.2 = true)
include ht hok
theorem y6K {x : y7} : x ∈ yb (yl q t k).2.1 ↔ (x = k ∨ (x ∈ yb t ∧ Y1 x k = false)) ∧ x.2.2.1 ≠ 0 := by
 rw [(y0v hok).2.2.2, wd, VZ]
end
section
variable {q : List yc} {t : List y0} {l : List y9} {cs : List y8} {vs : List ye} {z : Int} (h : PoolR q t l cs vs z) {b w : Int} {i : Nat} (hi : i < vs.length) (hw : isW w = true) (hf : ¬ JN cs < 0)
def yEe (cs : List y8) (vs : List ye) (b : Int) (i : Nat) : y7 := (b, (vs.getD i Yi).2.1, 1, JN cs, (cs.getD (JN cs).toNat z0).1)
variable (hok : (yl q t (yEe cs vs b i)).2.2 = true)
include h hi hf hok
end
end Go.Proofs.YtjllpipmaejeoaaGreat.Pl
namespace Go.Proofs.YtjllpipmaejeoaaGreat.Pl
open Go.Proofs.YtjllpipmaejeoaaGreat.R Go.Proofs.YtjllpipmaejeoaaGreat.XW
theorem yeG {K K' : List y7} {b : Int} {path path' : List Int} (hK : srt K) (hK' : srt K') (h : ∀ c : y7, c.1 = b → (c ∈ K ∧ c.2.1 ∈ path ↔ c ∈ K' ∧ c.2.1 ∈ path')) : zB (zG K b) path = zB (zG K' b) path' := by
 rcases qD (zG K b) path with ⟨h1, h2⟩ | ⟨h1, h2, h3, h4⟩
 ·rcases qD (zG K' b) path' with ⟨g1, g2⟩ | ⟨g1, g2, g3, g4⟩
  ·rw [h1, g1]
  ·obtain ⟨g5, g6⟩ := YF.1 g2
   have := (h _ g6).2 ⟨g5, g3⟩
   exact absurd this.2 (h2 _ (YF.2 ⟨this.1, g6⟩))
 ·obtain ⟨h5, h6⟩ := YF.1 h2
  have hm := (h _ h6).1 ⟨h5, h3⟩
  rcases qD (zG K' b) path' with ⟨g1, g2⟩ | ⟨g1, g2, g3, g4⟩
  ·exact absurd hm.2 (g2 _ (YF.2 ⟨hm.1, h6⟩))
  ·obtain ⟨g5, g6⟩ := YF.1 g2
   have gm := (h _ g6).2 ⟨g5, g3⟩
   have e1 := g4 _ (YF.2 ⟨hm.1, h6⟩) hm.2
   have e2 := h4 _ (YF.2 ⟨gm.1, g6⟩) gm.2
   have e3 := qW hK h5 gm.1 (zw.2 ⟨h6.trans g6.symm, by omega⟩)
   exact Prod.ext (h1.trans g1.symm) e3
section
variable {q : List yc} {t : List y0} {l : List y9} {cs : List y8} {vs : List ye} (z : Int) (h : SP q t l cs vs) (hp : yo q t l cs vs z = true)
theorem ytW (i : Nat) : yi vs (i : Int) = vs.getD i Yi := by
 show vs.getD ((i : Int)).toNat Yi = _
 rw [Int.toNat_natCast]
include hp in
include h
include hp
end
end Go.Proofs.YtjllpipmaejeoaaGreat.Pl
namespace Go.Proofs.YtjllpipmaejeoaaGreat.Pl
open Go.Proofs.YtjllpipmaejeoaaGreat.R Go.Proofs.YtjllpipmaejeoaaGreat.XW
def y4J {A : Type} (eq : A → A → Bool) (da : A) (a b : List A) : Bool := decide (a.length = b.length) && !Yq (fun i x => !eq x (b.getD i.toNat da)) a 0
def eqK (x y : y7) : Bool := (x.1 == y.1) && ((x.2.1 == y.2.1) && ((x.2.2.1 == y.2.2.1) && ((x.2.2.2.1 == y.2.2.2.1) && ((x.2.2.2.2 == y.2.2.2.2) && true))))
def eqS (x y : ya) : Bool := y4J eqK yF x y
def eqN (x y : y0) : Bool := y4J eqS z7 x y
section
variable {q : List yc} {t : List y0} {l : List y9} {cs : List y8} {vs : List ye} (z : Int) (hs : small q t l cs vs) (q' : List yc) (t' : List y0) (l' : List y9) (cs' : List y8) (vs' : List ye) (z' : Int)
include hs
end
end Go.Proofs.YtjllpipmaejeoaaGreat.Pl
namespace Go.Proofs.YtjllpipmaejeoaaGreat.Pl
open Go.Proofs.YtjllpipmaejeoaaGreat.R Go.Proofs.YtjllpipmaejeoaaGreat.XW
theorem y5X (x : List Int) (hx : x.length ≤ 1048576) : ∃ q t l cs vs z o, Jr x = some (q, t, l, cs, vs, z, o) ∧ yo q t l cs vs z = true := by
 obtain ⟨s0, e0⟩ := ytO x (by omega)
 obtain ⟨m, e1, m0, m1⟩ := ynf x 30 (by omega) (by omega)
 obtain ⟨q, t, l, cs, vs, z, p3, s3, e3, h3, hp⟩ := ycn x 0 s0 (8 + m) (yEd x (by omega)) (by omega) (by omega)
 obtain ⟨k, n, y, a, b, p4, s4, e4, h4, _⟩ := ytV x p3 s3 h3
 unfold Jr
 rw [e0]
 simp only [e1, Option.bind_some]
 rw [w64 (n := 8 + m) (by omega) (by omega), e3]
 simp only [e4, Option.bind_some]
 exact ⟨_, _, _, _, _, _, _, rfl, hp⟩
section
variable {x : List Int} {i b r7 z z' : Int} {q q' : List yc} {t t' : List y0} {l l' : List y9} {cs cs' : List y8} {vs vs' : List ye} {v1 : ByteArray} {v2 v3 : Int} {v4 : Bool}
end
end Go.Proofs.YtjllpipmaejeoaaGreat.Pl
namespace Go.Proofs.YtjllpipmaejeoaaGreat.Pl
open Go.Proofs.YtjllpipmaejeoaaGreat.R Go.Proofs.YtjllpipmaejeoaaGreat.XW
def upT (u : Option Int) : List Int → Option Int
 | [] => u
 | a :: _ => some a
structure NB (a : Int) (v : Option Int) (n : y0) : Prop where
 ok : YB n = true
 ent : ∀ s ∈ (show List ya from n), ∀ x ∈ (show List y7 from s), a ≤ J7 x ∧ ∀ b, v = some b → J7 x < b
 low : ∀ b, v = some b → a < b
def Wu (u : Option Int) : List Int → List y0 → Prop
 | [], [] => True
 | a :: q, n :: t => NB a (upT u q) n ∧ Wu u q t
 | _, _ => False
theorem Wu.len {u : Option Int} : ∀ {q : List Int} {t : List y0}, Wu u q t → q.length = t.length
 | [], [], _ => rfl
 | a :: q, n :: t, h => by
  have := Wu.len h.2
  simp only [List.length_cons]
  omega
 | [], _ :: _, h => h.elim
 | _ :: _, [], h => h.elim
theorem ytX (u : Option Int) (q1 q2 : List Int) : upT u (q1 ++ q2) = upT (upT u q2) q1 := by
 cases q1 <;> rfl
theorem y5r {u : Option Int} : ∀ {q1 : List Int} {t1 : List y0} (q2 : List Int) (t2 : List y0), q1.length = t1.length → (Wu u (q1 ++ q2) (t1 ++ t2) ↔ Wu (upT u q2) q1 t1 ∧ Wu u q2 t2)
 | [], [], q2, t2, _ => by simp [Wu]
 | a :: q1, n :: t1, q2, t2, h => by
  have ih := y5r (u := u) (q1 := q1) (t1 := t1) q2 t2 (by simpa using h)
  simp only [List.cons_append, Wu, ytX]
  rw [ih, and_assoc]
 | [], _ :: _, _, _, h => by simp at h
 | _ :: _, [], _, _, h => by simp at h
theorem NB.up {a : Int} {v v' : Option Int} {n : y0} (h : NB a v n) (hv : ∀ b', v' = some b' → ∃ b, v = some b ∧ b ≤ b') : NB a v' n :=
 ⟨h.ok, fun s hs x hx => ⟨(h.ent s hs x hx).1, fun b' e => by
  obtain ⟨b, e1, e2⟩ := hv b' e
  have := (h.ent s hs x hx).2 b e1
  omega⟩, fun b' e => by
  obtain ⟨b, e1, e2⟩ := hv b' e
  have := h.low b e1
  omega⟩
theorem Wu.up {u u' : Option Int} (hv : ∀ b', u' = some b' → ∃ b, u = some b ∧ b ≤ b') : ∀ {q : List Int} {t : List y0}, Wu u q t → Wu u' q t
 | [], [], _ => trivial
 | a :: q, n :: t, h => by
  refine ⟨h.1.up ?_, Wu.up hv h.2⟩
  cases q with
  | nil => exact hv
  | cons b q => exact fun b' e => ⟨b', e, Int.le_refl _⟩
 | [], _ :: _, h => h.elim
 | _ :: _, [], h => h.elim
theorem yng {u : Option Int} : ∀ {q : List Int} {t : List y0}, Wu u q t → ∀ j, j < t.length → NB (q.getD j 0) (if j + 1 < t.length then some (q.getD (j + 1) 0) else u) (t.getD j yg)
 | [], [], _, j, hj => by simp at hj
 | a :: q, n :: t, h, 0, _ => by
  have h1 := h.1
  have hl := Wu.len h.2
  cases q with
  | nil =>
   cases t with
   | nil => simpa [upT] using h1
   | cons m t => simp at hl
  | cons b q =>
   cases t with
   | nil => simp at hl
   | cons m t => simpa [upT] using h1
 | a :: q, n :: t, h, j + 1, hj => by
  have := yng h.2 j (by simpa using hj)
  simpa using this
 | [], _ :: _, h, _, _ => h.elim
 | _ :: _, [], h, _, _ => h.elim
theorem ytY {u : Option Int} : ∀ {q : List Int} {t : List y0}, q.length = t.length → (∀ j, j < t.length → NB (q.getD j 0) (if j + 1 < t.length then some (q.getD (j + 1) 0) else u) (t.getD j yg)) → Wu u q t
 | [], [], _, _ => trivial
 | a :: q, n :: t, hl, h => by
  refine ⟨?_, ytY (by simpa using hl) fun j hj => ?_⟩
  ·have h0 := h 0 (by simp)
   cases q with
   | nil =>
    cases t with
    | nil => simpa [upT] using h0
    | cons m t => simp at hl
   | cons b q =>
    cases t with
    | nil => simp at hl
    | cons m t => simpa [upT] using h0
  ·have := h (j + 1) (by simpa using hj)
   simpa using this
 | [], _ :: _, hl, _ => by simp at hl
 | _ :: _, [], hl, _ => by simp at hl
theorem Q1 {A : Type} {p : Int → A → Bool} (hp : ∀ i j a, p i a = p j a) {l : List A} (h : ∀ a ∈ l, p 0 a = false) : ∀ i, Yq p l i = false := by
 induction l with
 | nil => intro i; rfl
 | cons a l ih =>
  intro i
  rw [Yq, hp i 0 a, h a (by simp), ih (fun b hb => h b (by simp [hb])) (i + 1)]
  rfl
structure Wt (q : List Int) (t : List y0) : Prop where
 w : Wu none q t
 zero : q.getD 0 0 = 0
 pos : 0 < t.length
 full : ∀ n ∈ t.drop 1, 0 < (yz n).length
theorem ynh {q : List Int} {t : List y0} (h : z8 q t = true) : Wt q t := by
 have hP := zx h
 obtain ⟨f1, f2, f3, f4⟩ := jR h
 have h0 := h
 unfold z8 at h
 simp only [Bool.and_eq_true, Bool.not_eq_true', decide_eq_true_eq, zt, beq_iff_eq] at h
 have hb : ∀ i, i < t.length → y2i q i (t.getD i yg) = true := fun i hi => by
  have := J6 yg t 0 h.2.2.2.1 i hi
  unfold KX at this
  simp only [Bool.or_eq_false_iff, Bool.not_eq_false'] at this
  rw [show (0 : Int) + (i : Int) = i by omega] at this
  exact this.2
 have hmem : ∀ i, i < t.length → t.getD i yg ∈ t := fun i hi => by
  rw [yE _ _ _ hi]
  exact List.getElem_mem _
 refine ⟨ytY f1 fun j hj => ⟨f4 _ (hmem j hj), fun s hs x hx => ?_, fun b e => ?_⟩, hP.zero, hP.pos, fun n hn => ?_⟩
 ·have h1 := hb j hj
  unfold y2i at h1
  simp only [Bool.and_eq_true, Bool.not_eq_true'] at h1
  obtain ⟨_, h2⟩ := J2 _ _ 0 h1.2.2 s hs
  unfold yaX at h2
  obtain ⟨_, h3⟩ := J2 _ _ 0 h2 x hx
  unfold yhn at h3
  simp only [Bool.or_eq_false_iff, decide_eq_false_iff_not, Bool.and_eq_false_iff] at h3
  rw [show ((j : Nat) : Int).toNat = j by omega, show (((j : Nat) : Int) + 1).toNat = j + 1 by omega] at h3
  refine ⟨by omega, fun b e => ?_⟩
  split at e
  ·injection e with e
   rw [← e]
   rcases h3.2 with h5 | h5 <;> omega
  ·cases e
 ·split at e
  ·injection e with e
   rw [← e]
   exact hP.low j (by assumption)
  ·cases e
 ·obtain ⟨i, hi, rfl⟩ := List.mem_iff_getElem.1 hn
  rw [List.length_drop] at hi
  rw [List.getElem_drop, ← yE yg t (1 + i) (by omega)]
  have h1 := hb (1 + i) (by omega)
  unfold y2i y6y at h1
  simp only [Bool.and_eq_true, Bool.not_eq_true', Bool.and_eq_false_iff, decide_eq_false_iff_not, beq_eq_false_iff_ne] at h1
  rcases h1.2.1 with h2 | h2
  ·omega
  ·omega
theorem yni {q : List Int} {t : List y0} (h : Wt q t) (hl : t.length ≤ 20) (hk : (yb t).length ≤ 60) : z8 q t = true := by
 have hlen := h.w.len
 have hpos := h.pos
 unfold z8
 simp only [Bool.and_eq_true, Bool.not_eq_true', decide_eq_true_eq, zt, beq_iff_eq]
 refine ⟨by omega, hlen, h.zero, kw yg _ 0 fun j hj => ?_, by omega⟩
 have hn := yng h.w j hj
 rw [show (0 : Int) + (j : Int) = j by omega]
 unfold KX yet y2i y6y
 simp only [Bool.or_eq_false_iff, Bool.not_eq_false', Bool.and_eq_true, Bool.not_eq_true', Bool.and_eq_false_iff, decide_eq_false_iff_not, beq_eq_false_iff_ne]
 refine ⟨?_, hn.ok, ?_, ?_⟩
 ·by_cases hj0 : j = 0
  ·exact .inl (by omega)
  ·have hp := yng h.w (j - 1) (by omega)
   rw [if_pos (by omega)] at hp
   have := hp.low _ rfl
   rw [show j - 1 + 1 = j by omega] at this
   rw [show ((j : Int) - 1).toNat = j - 1 by omega, show ((j : Int)).toNat = j by omega]
   exact .inr (by omega)
 ·by_cases hj0 : j = 0
  ·exact .inl (by omega)
  ·refine .inr ?_
   have hm : t.getD j yg ∈ t.drop 1 := by
    rw [yE _ _ _ hj]
    refine List.mem_iff_getElem.2 ⟨j - 1, by rw [List.length_drop]; omega, ?_⟩
    rw [List.getElem_drop]
    congr 1
    omega
   have := h.full _ hm
   omega
 ·refine Q1 (fun _ _ _ => rfl) (fun s hs => Q1 (fun _ _ _ => rfl) (fun x hx => ?_) 0) 0
  have hx := hn.ent s hs x hx
  unfold yhn
  simp only [Bool.or_eq_false_iff, decide_eq_false_iff_not, Bool.and_eq_false_iff]
  rw [show ((j : Nat) : Int).toNat = j by omega, show (((j : Nat) : Int) + 1).toNat = j + 1 by omega]
  refine ⟨by omega, ?_⟩
  by_cases hj1 : j + 1 < t.length
  ·rw [if_pos hj1] at hx
   exact .inr (by have := hx.2 _ rfl; omega)
  ·exact .inl (by omega)
theorem ycp {l : List y7} {s : ya} (h : s ∈ (show List ya from yN l)) : s = l := by
 unfold yN at h
 split at h
 ·cases h
 ·exact List.mem_singleton.1 h
theorem y6L {a : Int} {v : Option Int} {n : y0} (h : NB a v n) {x : y7} (hx : x ∈ yz n) : zO x = true ∧ a ≤ J7 x ∧ ∀ b, v = some b → J7 x < b := by
 obtain ⟨c, hc, hxc⟩ := y0l hx
 exact ⟨(wc h.ok).2.2 c hc x hxc, h.ent c hc x hxc⟩
theorem ydw {a : Int} {v : Option Int} {l : List y7} (hs : srt l) (hl : l.length ≤ 8) (hk : ∀ x ∈ l, zO x = true ∧ a ≤ J7 x ∧ ∀ b, v = some b → J7 x < b) (hlow : ∀ b, v = some b → a < b) : NB a v (yN l) :=
 ⟨y2V hs (fun x hx => (hk x hx).1) hl, fun s hs x hx => by
  rw [ycp hs] at hx
  exact (hk x hx).2, hlow⟩
theorem yeH (t : List y0) (i : Nat) (h : i + 2 ≤ t.length) : t = t.take i ++ (t.getD i yg :: t.getD (i + 1) yg :: t.drop (i + 2)) := by
 conv => lhs; rw [← List.take_append_drop i t]
 rw [List.drop_eq_getElem_cons (by omega), List.drop_eq_getElem_cons (by omega), yE _ _ _ (by omega), yE _ _ _ (by omega)]
theorem y5s (t : List Int) (i : Nat) (h : i + 2 ≤ t.length) : t = t.take i ++ (t.getD i 0 :: t.getD (i + 1) 0 :: t.drop (i + 2)) := by
 conv => lhs; rw [← List.take_append_drop i t]
 rw [List.drop_eq_getElem_cons (by omega), List.drop_eq_getElem_cons (by omega), yE _ _ _ (by omega), yE _ _ _ (by omega)]
theorem y0V {A : Type} (d : A) (t : List A) (i : Nat) (h : i + 1 ≤ t.length) : t = t.take i ++ (t.getD i d :: t.drop (i + 1)) := by
 conv => lhs; rw [← List.take_append_drop i t]
 rw [List.drop_eq_getElem_cons (by omega), yE _ _ _ (by omega)]
theorem Q2 {t : List y0} {i c : Nat} {m : List y0} (h : ∀ n ∈ t.drop 1, 0 < (yz n).length) (hic : i ≤ t.length) (hm : ∀ n ∈ (if i = 0 then m.drop 1 else m), 0 < (yz n).length) (hd : i = 0 → 0 < m.length) (hc : 0 < c) : ∀ n ∈ (yZ t i c m).drop 1, 0 < (yz n).length := by
 intro n hn
 unfold yZ at hn
 by_cases hi : i = 0
 ·subst hi
  rw [if_pos rfl] at hm
  have hd := hd rfl
  rw [List.take_zero, List.nil_append, List.drop_append] at hn
  rcases List.mem_append.1 hn with h1 | h1
  ·exact hm n h1
  ·rw [show 1 - m.length = 0 by omega, List.drop_zero, Nat.zero_add] at h1
   exact h n (by
    rw [show c = 1 + (c - 1) by omega, ← List.drop_drop] at h1
    exact List.mem_of_mem_drop h1)
 ·rw [if_neg hi] at hm
  rw [List.append_assoc, List.drop_append] at hn
  rcases List.mem_append.1 hn with h1 | h1
  ·rw [List.drop_take] at h1
   exact h n (List.mem_of_mem_take h1)
  ·rw [List.length_take, show 1 - min i t.length = 0 by omega, List.drop_zero] at h1
   rcases List.mem_append.1 h1 with h2 | h2
   ·exact hm n h2
   ·refine h n ?_
    rw [show i + c = 1 + (i + c - 1) by omega, ← List.drop_drop] at h2
    exact List.mem_of_mem_drop h2
theorem y0C {q1 q2 : List Int} : (q1 ++ q2).getD 0 0 = if q1.length = 0 then q2.getD 0 0 else q1.getD 0 0 := by
 cases q1 <;> simp
theorem ynj {q : List Int} {t : List y0} (h : Wt q t) (hp : ¬ yD t 0 < 0) : Wt (yZ q (yD t 0).toNat 2 [q.getD (yD t 0).toNat 0]) (yZ t (yD t 0).toNat 2 [yN (yz (t.getD (yD t 0).toNat yg) ++ yz (t.getD (yD t 0 + 1).toNat yg))]) := by
 obtain ⟨h1, h2, h3⟩ := y2Y hp
 have hq := h.w.len
 rw [show (yD t 0 + 1).toNat = (yD t 0).toNat + 1 by omega]
 have h3' : (yz (t.getD (yD t 0).toNat yg)).length + (yz (t.getD ((yD t 0).toNat + 1) yg)).length ≤ 6 := by
  have e1 : yf t (yD t 0 + 1) = t.getD ((yD t 0).toNat + 1) yg := by
   show t.getD (yD t 0 + 1).toNat yg = _
   rw [show (yD t 0 + 1).toNat = (yD t 0).toNat + 1 by omega]
  rw [e1] at h3
  exact h3
 clear h3
 generalize hj : (yD t 0).toNat = j at *
 have hj2 : j + 2 ≤ t.length := by omega
 clear h1 h2 hp hj
 have hw := h.w
 rw [yeH t j hj2, y5s q j (by omega), y5r _ _ (by simp [hq])] at hw
 obtain ⟨w1, w2, w3, w4⟩ := hw
 have hb := w2.low _ rfl
 have hsort : srt (yz (t.getD j yg) ++ yz (t.getD (j + 1) yg)) := by
  refine List.pairwise_append.2 ⟨KG _, KG _, fun x hx y hy => ?_⟩
  obtain ⟨kx, _, ux⟩ := y6L w2 hx
  obtain ⟨ky, ly, _⟩ := y6L w3 hy
  rw [qC kx ky]
  have := ux _ rfl
  omega
 refine ⟨?_, ?_, ?_, ?_⟩
 ·unfold yZ
  rw [List.append_assoc, List.append_assoc, y5r _ _ (by simp [hq])]
  refine ⟨w1, ?_, w4⟩
  refine ydw hsort (by rw [List.length_append]; omega) (fun x hx => ?_) fun b e => ?_
  ·rcases List.mem_append.1 hx with hx | hx
   ·obtain ⟨kx, lx, ux⟩ := y6L w2 hx
    refine ⟨kx, lx, fun b e => ?_⟩
    have := ux _ rfl
    have := w3.low b e
    omega
   ·obtain ⟨kx, lx, ux⟩ := y6L w3 hx
    exact ⟨kx, by omega, ux⟩
  ·have := w3.low b e
   omega
 ·unfold yZ
  rw [List.append_assoc, y0C]
  have hz := h.zero
  rw [y5s q j (by omega), y0C] at hz
  split
  ·rename_i e
   rw [if_pos e] at hz
   exact hz
  ·rename_i e
   rw [if_neg e] at hz
   exact hz
 ·rw [YD _ _ _ _ hj2]
  simp only [List.length_cons, List.length_nil]
  omega
 ·refine Q2 h.full (by omega) (fun n hn => ?_) (fun _ => by simp) (by decide)
  split at hn
  ·cases hn
  ·rename_i hj0
   obtain rfl := List.mem_singleton.1 hn
   rw [ZB hsort (fun x hx => (List.mem_append.1 hx).elim Vi Vi), List.length_append]
   have := h.full (t.getD j yg) (by
    rw [yE _ _ _ (by omega)]
    refine List.mem_iff_getElem.2 ⟨j - 1, by rw [List.length_drop]; omega, ?_⟩
    rw [List.getElem_drop]
    congr 1
    omega)
   omega
theorem ydx : ∀ (m : Nat) (q : List Int) (t : List y0), Wt q t → Wt (jh m q t).1 (jh m q t).2
 | 0, _, _, h => h
 | m + 1, q, t, h => by
  rw [jh]
  split
  ·exact h
  ·rename_i hp
   exact ydx m _ _ (ynj h hp)
theorem y6M : ∀ (m : Nat) (q : List Int) (t : List y0), t.length ≤ m → yD (jh m q t).2 0 < 0
 | 0, q, t, h => by
  rw [jh, y1F _ _ (by simp only; omega)]
  decide
 | m + 1, q, t, h => by
  rw [jh]
  split
  ·assumption
  ·rename_i hp
   obtain ⟨h1, h2, h3⟩ := y2Y hp
   exact y6M m _ _ (by
    rw [YD _ _ _ _ (by omega)]
    simp only [List.length_cons, List.length_nil]
    omega)
theorem yaL : ∀ (t : List y0) (i : Int), 0 ≤ i → yD t i < 0 → 7 * (t.length / 2) ≤ (t.flatMap yz).length
 | [], _, _, _ => by simp
 | [_], _, _, _ => by simp
 | a :: b :: r, i, hi, h => by
  rw [yD] at h
  by_cases h6 : (yz a).length + (yz b).length ≤ 6
  ·rw [if_pos h6] at h
   omega
  ·rw [if_neg h6] at h
   have h2 : yD r (i + 2) < 0 := by
    cases r with
    | nil => show (-1 : Int) < 0; decide
    | cons c r =>
     rw [yD] at h
     split at h
     ·omega
     ·rw [show i + 1 + 1 = i + 2 by omega] at h
      exact h
   have := yaL r (i + 2) (by omega) h2
   simp only [List.flatMap_cons, List.length_append, List.length_cons]
   omega
theorem yeI {n : List ya} {k : y7} {s : ya} (hs : s ∈ JJ n k) {x : y7} (hx : x ∈ (show List y7 from s)) : x = k ∨ ∃ c ∈ n, x ∈ (show List y7 from c) := by
 unfold JJ at hs
 split at hs
 ·rename_i hl
  rcases List.mem_or_eq_of_mem_set hs with h1 | h1
  ·exact .inr ⟨s, h1, hx⟩
  ·rw [h1] at hx
   rcases y0Q hx with h2 | h2
   ·exact .inl h2
   ·exact .inr ⟨_, y2n hl.1, h2⟩
 ·rcases List.mem_append.1 hs with h1 | h1
  ·exact .inr ⟨s, h1, hx⟩
  ·rw [List.mem_singleton.1 h1] at hx
   exact .inl (List.mem_singleton.1 hx)
theorem ydy {n : List ya} {k x : y7} (h : x ∈ Ya n k) : x = k ∨ x ∈ yz n := y0Q (y51 h)
theorem ytZ {a : Int} {v : Option Int} {n : y0} (h : NB a v n) {k : y7} (hk : zO k = true) (ha : a ≤ J7 k) (hv : ∀ b, v = some b → J7 k < b) : NB a v (zn n k).1 := by
 unfold zn
 split
 ·rename_i h1
  refine ⟨h1, fun s hs x hx => ?_, h.low⟩
  rcases yeI hs hx with rfl | ⟨c, hc, hxc⟩
  ·exact ⟨ha, hv⟩
  ·exact h.ent c hc x hxc
 ·split
  ·exact h
  ·split
   ·rename_i h8 _
    refine ydw (y4c n k) (by omega) (fun x hx => ?_) h.low
    rcases ydy hx with rfl | hx
    ·exact ⟨hk, ha, hv⟩
    ·exact y6L h hx
   ·exact h
theorem yeJ {q : List Int} {t : List y0} {k : y7} (h : z8 q t = true) (hk : zO k = true) : Wt (yr q t k).1 (yr q t k).2 := by
 have hW := ynh h
 obtain ⟨e1, e2, e3⟩ := qV h hk
 have hs : jS k.1 k.2.1 = J7 k := rfl
 rw [hs] at e1
 have hhalf := y8K h hk
 obtain ⟨b1, b2, b3⟩ := y8M q (J7 k) q.length _ e1
 have hq := hW.w.len
 have hw := hW.w
 unfold yr
 generalize hj : z6 q k = j at *
 rw [y0V yg t j (by omega), y0V 0 q j (by omega), y5r _ _ (by simp [hq])] at hw
 obtain ⟨w1, w2, w3⟩ := hw
 have hv : ∀ b, upT none (q.drop (j + 1)) = some b → J7 k < b := fun b e => by
  by_cases hj1 : j + 1 < q.length
  ·rw [List.drop_eq_getElem_cons hj1] at e
   have e' : q[j + 1] = b := by injection e
   have := b3 (j + 1) (by omega) hj1
   rw [yE _ _ _ hj1, e'] at this
   exact this
  ·rw [List.drop_eq_nil_of_le (by omega)] at e
   cases e
 generalize hn : t.getD j yg = n at *
 have hz := hW.zero
 rw [y0V 0 q j (by omega), y0C] at hz
 have hnj : 0 < j → 0 < (yz n).length := fun h0 => hW.full n (by
  rw [← hn, yE _ _ _ (by omega)]
  refine List.mem_iff_getElem.2 ⟨j - 1, by rw [List.length_drop]; omega, ?_⟩
  rw [List.getElem_drop]
  congr 1
  omega)
 split
 ·rename_i hm
  obtain ⟨g1, g2⟩ := hhalf hm
  have hws := y4c n k
  have hkey : ∀ x ∈ Ya n k, zO x = true ∧ q.getD j 0 ≤ J7 x ∧ ∀ b, upT none (q.drop (j + 1)) = some b → J7 x < b := fun x hx => by
   rcases ydy hx with rfl | hx
   ·exact ⟨hk, b1, hv⟩
   ·exact y6L w2 hx
  have hlive : ∀ x ∈ Ya n k, x.2.2.1 ≠ 0 := fun x hx => y2r hx
  generalize hl : Ya n k = l at *
  generalize hh : W8 l = m at *
  have hm0 : 0 < m := by
   rw [← hh]
   unfold W8
   omega
  have hml : m ≤ 8 ∧ l.length - m ≤ 8 := by
   rw [← hh]
   unfold W8
   omega
  have hat : l.getD m yF = l[m] := yE _ _ _ g1
  have hf := hkey l[m] (List.getElem_mem _)
  have hlt : ∀ x ∈ l.take m, J7 x < J7 l[m] := fun x hx => by
   obtain ⟨i, hi, rfl⟩ := List.mem_iff_getElem.1 hx
   rw [List.length_take] at hi
   rw [List.getElem_take]
   have := List.pairwise_iff_getElem.1 hws i m (by omega) g1 (by omega)
   exact (qC (hkey _ (List.getElem_mem _)).1 hf.1).1 this
  have hge : ∀ x ∈ l.drop m, J7 l[m] ≤ J7 x := fun x hx => by
   obtain ⟨i, hi, rfl⟩ := List.mem_iff_getElem.1 hx
   rw [List.length_drop] at hi
   rw [List.getElem_drop]
   by_cases hi0 : i = 0
   ·subst hi0
    exact Int.le_refl _
   ·have := List.pairwise_iff_getElem.1 hws m (m + i) g1 (by omega) (by omega)
    have := (qC hf.1 (hkey _ (List.getElem_mem _)).1).1 this
    omega
  have hsp : q.getD j 0 < J7 l[m] := by
   have h0 : l[0] ∈ l.take m := by
    refine List.mem_iff_getElem.2 ⟨0, by rw [List.length_take]; omega, ?_⟩
    rw [List.getElem_take]
   have := hlt _ h0
   have := (hkey l[0] (List.getElem_mem _)).2.1
   omega
  rw [hat]
  refine ⟨?_, ?_, ?_, ?_⟩
  ·unfold yZ
   rw [List.append_assoc, List.append_assoc, y5r _ _ (by simp [hq])]
   refine ⟨w1, ?_, ?_, w3⟩
   ·refine ydw (List.Pairwise.sublist (List.take_sublist _ _) hws) (by rw [List.length_take]; omega) (fun x hx => ?_) fun b e => ?_
    ·obtain ⟨x1, x2, x3⟩ := hkey x (List.mem_of_mem_take hx)
     refine ⟨x1, x2, fun b e => ?_⟩
     have e' : J7 l[m] = b := by injection e
     have := hlt x hx
     omega
    ·have e' : J7 l[m] = b := by injection e
     omega
   ·refine ydw (List.Pairwise.sublist (List.drop_sublist _ _) hws) (by rw [List.length_drop]; omega) (fun x hx => ?_) fun b e => ?_
    ·obtain ⟨x1, x2, x3⟩ := hkey x (List.mem_of_mem_drop hx)
     exact ⟨x1, hge x hx, x3⟩
    ·exact hf.2.2 b e
  ·unfold yZ
   rw [List.append_assoc, y0C]
   split
   ·rename_i e
    rw [if_pos e] at hz
    exact hz
   ·rename_i e
    rw [if_neg e] at hz
    exact hz
  ·rw [YD _ _ _ _ (by omega)]
   simp only [List.length_cons, List.length_nil]
   omega
  ·refine Q2 hW.full (by omega) (fun x hx => ?_) (fun _ => by simp) (by decide)
   have e4 : 0 < (yz (yN (l.take m))).length := by
    rw [ZB (List.Pairwise.sublist (List.take_sublist _ _) hws) fun x hx => hlive x (List.mem_of_mem_take hx), List.length_take]
    omega
   have e5 : 0 < (yz (yN (l.drop m))).length := by
    rw [ZB (List.Pairwise.sublist (List.drop_sublist _ _) hws) fun x hx => hlive x (List.mem_of_mem_drop hx), List.length_drop]
    omega
   split at hx
   ·obtain rfl := List.mem_singleton.1 hx
    exact e5
   ·simp only [List.mem_cons, List.mem_nil_iff, or_false] at hx
    rcases hx with rfl | rfl
    ·exact e4
    ·exact e5
 ·split
  ·rename_i h0
   obtain ⟨h0, _⟩ := h0
   refine ⟨?_, ?_, ?_, ?_⟩
   ·unfold yZ
    simp only [List.append_nil]
    rw [y5r _ _ (by simp [hq])]
    refine ⟨Wu.up (fun b' e => ⟨q.getD j 0, rfl, ?_⟩) w1, w3⟩
    have := w2.low b' e
    omega
   ·unfold yZ
    rw [List.append_assoc, y0C, if_neg (by rw [List.length_take]; omega)]
    rw [if_neg (by rw [List.length_take]; omega)] at hz
    exact hz
   ·rw [YD _ _ _ _ (by omega)]
    simp only [List.length_nil]
    omega
   ·refine Q2 hW.full (by omega) (fun x hx => ?_) (fun e => by omega) (by decide)
    split at hx <;> cases hx
  ·rename_i hm h0
   have hsp := y0S t j (zn n k).1 (by omega)
   rw [← hsp]
   refine ⟨?_, hW.zero, by rw [YD _ _ _ _ (by omega)]; simp only [List.length_cons, List.length_nil]; omega, ?_⟩
   ·unfold yZ
    conv => rw [y0V 0 q j (by omega)]
    rw [List.append_assoc, y5r _ _ (by simp [hq])]
    exact ⟨w1, ytZ w2 hk b1 hv, w3⟩
   ·refine Q2 hW.full (by omega) (fun x hx => ?_) (fun _ => by simp) (by decide)
    split at hx
    ·cases hx
    ·rename_i hj0
     obtain rfl := List.mem_singleton.1 hx
     have : ¬ (yz (zn n k).1).length = 0 := fun e => h0 ⟨by omega, e⟩
     omega
theorem y6N {q : List Int} {t : List y0} {k : y7} (h : z8 q t = true) (hk : zO k = true) (hn : (W5 (Y0 (yb t) k)).length ≤ 60) : (yl q t k).2.2 = true := by
 have hW := ydx (yr q t k).2.length _ _ (yeJ h hk)
 have hd := y6M (yr q t k).2.length (yr q t k).1 (yr q t k).2 (Nat.le_refl _)
 have hkeys : yb (jh (yr q t k).2.length (yr q t k).1 (yr q t k).2).2 = W5 (Y0 (yb t) k) := (y59 _ _ _ (y5a h hk)).trans (y0u h hk)
 have hm := yaL _ 0 (Int.le_refl _) hd
 rw [← KI, hkeys] at hm
 have hok := yni hW (by omega) (by rw [hkeys]; exact hn)
 unfold yl
 rw [if_pos (by rw [h, hk]; rfl), if_pos hok]
end Go.Proofs.YtjllpipmaejeoaaGreat.Pl
namespace Go.Proofs.YtjllpipmaejeoaaGreat.Pl
open Go.Proofs.YtjllpipmaejeoaaGreat.R Go.Proofs.YtjllpipmaejeoaaGreat.XW
theorem y0W : ∀ (l : List y8) (i : Int), ∀ x ∈ jz l i, i ≤ x ∧ x < i + l.length ∧ (l.getD (x - i).toNat z0).2.1 = true
 | [], i, x, hx => by simp [jz] at hx
 | c :: l, i, x, hx => by
  rw [jz] at hx
  have hr : x ∈ jz l (i + 1) → i ≤ x ∧ x < i + ((c :: l).length : Nat) ∧ ((c :: l).getD (x - i).toNat z0).2.1 = true := fun hx => by
   obtain ⟨h1, h2, h3⟩ := y0W l (i + 1) x hx
   refine ⟨by omega, by simp only [List.length_cons]; omega, ?_⟩
   rw [show (x - i).toNat = (x - (i + 1)).toNat + 1 by omega, List.getD_cons_succ]
   exact h3
  split at hx
  ·rename_i hc
   rcases List.mem_cons.1 hx with rfl | hx
   ·refine ⟨Int.le_refl _, by simp only [List.length_cons]; omega, ?_⟩
    rw [show (x - x).toNat = 0 by omega]
    exact hc
   ·exact hr hx
  ·exact hr hx
theorem vk : ∀ (l : List y8) (i : Int), (jz l i).Nodup
 | [], i => by simp [jz]
 | c :: l, i => by
  rw [jz]
  split
  ·refine List.nodup_cons.2 ⟨fun hm => ?_, vk l (i + 1)⟩
   have := (y0W l (i + 1) i hm).1
   omega
  ·exact vk l (i + 1)
theorem ygO {ks : List y7} (h : srt ks) {i j : Nat} (hi : i < ks.length) (hj : j < ks.length) (hij : i < j) : ks[i] ≠ ks[j] := fun e => by
 have := List.pairwise_iff_getElem.1 h i j hi hj hij
 rw [e, y0r] at this
 cases this
theorem ygP {ks : List y7} {l : List y9} {cs : List y8} (hs : srt ks) (hk : ks.length ≤ 1048576) (hc : cs.length ≤ 1048576) (ha : ∀ c ∈ ks, 0 ≤ yR l c.2.1) (hg : ∀ c ∈ ks, c.2.2.1 = 1 → (Z9 cs c.2.2.2.1 c.2.2.2.2).2 = true) (hd : ∀ c ∈ ks, ∀ d ∈ ks, c.2.2.1 = 1 → d.2.2.1 = 1 → c.2.2.2.1 = d.2.2.2.1 → c = d) (hu : ∀ i : Int, 0 ≤ i → i < (cs.length : Int) → (cs.getD i.toNat z0).2.1 = true → ∃ c ∈ ks, c.2.2.1 = 1 ∧ c.2.2.2.1 = i) : ZA ks l cs = true := by
 have hdat : ∀ c : y7, y1H c = true ↔ c.2.2.1 = 1 := fun c => by unfold y1H; exact beq_iff_eq
 have hused : ∀ c ∈ ks, c.2.2.1 = 1 → 0 ≤ c.2.2.2.1 ∧ c.2.2.2.1 < (cs.length : Int) ∧ (cs.getD c.2.2.2.1.toNat z0).2.1 = true := fun c hcm h1 => by
  have h2 := hg c hcm h1
  unfold Z9 at h2
  split at h2
  ·rename_i hh
   simp only [Bool.and_eq_true] at hh
   have := zt.1 hh.1
   exact ⟨this.1, by omega, hh.2.1⟩
  ·cases h2
 have hnd : (we ks).Nodup := by
  unfold we List.Nodup
  rw [List.pairwise_map, List.pairwise_filter, List.pairwise_iff_getElem]
  intro i j hi hj hij h1 h2 he
  exact ygO hs hi hj hij (hd _ (List.getElem_mem _) _ (List.getElem_mem _) ((hdat _).1 h1) ((hdat _).1 h2) he)
 have e1 : (we ks).length = (jz cs 0).length := by
  refine Nat.le_antisymm (wO _ _ hnd fun x hx => ?_) (wO _ _ (vk _ _) fun x hx => ?_)
  ·obtain ⟨k, hk, rfl⟩ := List.mem_map.1 hx
   obtain ⟨hk, hd⟩ := List.mem_filter.1 hk
   obtain ⟨a1, a2, a3⟩ := hused k hk ((hdat _).1 hd)
   have := Vk cs 0 k.2.2.2.1.toNat (by omega) a3
   rwa [show (0 : Int) + (k.2.2.2.1.toNat : Int) = k.2.2.2.1 by omega] at this
  ·obtain ⟨h1, h2, h3⟩ := y0W cs 0 x hx
   rw [show x - 0 = x by omega] at h3
   obtain ⟨c, hc, hc1, hc2⟩ := hu x (by omega) (by omega) h3
   exact List.mem_map.2 ⟨c, List.mem_filter.2 ⟨hc, (hdat c).2 hc1⟩, hc2⟩
 unfold ZA
 simp only [Bool.and_eq_true, Bool.not_eq_true', beq_iff_eq]
 refine ⟨kw yF ks 0 fun j hj => ?_, ?_⟩
 ·rw [yE _ _ _ hj]
  unfold yc9
  have hm : ks[j] ∈ ks := List.getElem_mem _
  have h1 := ha _ hm
  rw [decide_eq_false (show ¬ yR l ks[j].2.1 < 0 by omega), Bool.false_or, Bool.and_eq_false_iff]
  by_cases hj1 : ks[j].2.2.1 = 1
  ·refine .inr ?_
   rw [hg _ hm hj1, Bool.not_true, Bool.false_or]
   refine Q1 (fun _ _ _ => rfl) (fun a ha => ?_) 0
   rw [show ((0 : Int) + (j : Int)).toNat = j by omega] at ha
   obtain ⟨i, hi, rfl⟩ := List.mem_iff_getElem.1 ha
   rw [List.length_take] at hi
   rw [List.getElem_take]
   unfold zm
   rw [Bool.and_eq_false_iff]
   by_cases hi1 : ks[i].2.2.1 = 1
   ·refine .inr (beq_eq_false_iff_ne.2 fun he => ?_)
    exact ygO hs (by omega) hj (by omega) (hd _ (List.getElem_mem _) _ hm hi1 hj1 he)
   ·exact .inl (beq_eq_false_iff_ne.2 hi1)
  ·exact .inl (beq_eq_false_iff_ne.2 hj1)
 ·unfold Qv
  rw [y5l ks 0 (Int.le_refl _) (by omega), y0U cs 0 0 (Int.le_refl _) (by omega), e1]
theorem ygQ {ks : List y7} {l : List y9} {cs : List y8} (h : ZA ks l cs = true) (hk : ks.length ≤ 1048576) : Qv cs = (we ks).length := by
 rw [← (y5m h).2, y5l ks 0 (Int.le_refl _) (by omega)]
 omega
theorem y5t {ks : List y7} {l : List y9} {cs : List y8} (h : ZA ks l cs = true) (hk : ks.length ≤ 1048576) (hc : cs.length ≤ 1048576) {i : Int} (i0 : 0 ≤ i) (i1 : i < (cs.length : Int)) (hu : (cs.getD i.toNat z0).2.1 = true) : ∃ c ∈ ks, c.2.2.1 = 1 ∧ c.2.2.2.1 = i := by
 obtain ⟨h1, _⟩ := ygH h hk hc i0 i1 hu
 rcases Yc (zm i 0) yF ks 0 (Int.le_refl _) with h2 | ⟨h2, h3, h4⟩
 ·omega
 ·rw [Int.sub_zero] at h4
  have hm : (zF (zm i 0) ks 0).toNat < ks.length := by omega
  refine ⟨ks.getD (zF (zm i 0) ks 0).toNat yF, by rw [yE _ _ _ hm]; exact List.getElem_mem _, ?_⟩
  unfold zm at h4
  rw [Bool.and_eq_true, beq_iff_eq, beq_iff_eq] at h4
  exact h4
theorem ycq {q : List yc} {t : List y0} {l : List y9} {cs : List y8} {vs : List ye} {z : Int} (ht : z8 q t = true) (hl : YK l = true) (hc : ze cs = true) (hz : 1 ≤ z ∧ z ≤ 61) (hla : ∀ a ∈ l, a.1 < z) (hv : je vs l = true) (hf : ZA (yb t) l cs = true) : yo q t l cs vs z = true := by
 unfold yo
 rw [ht, hl, hc, zt.2 hz, hv, hf]
 have : Yq (VV z) l 0 = false := Q1 (fun _ _ _ => rfl) (fun a ha => by
  unfold VV
  have := hla a ha
  exact decide_eq_false (by omega)) 0
 rw [this]
 rfl
theorem ygR {cs : List y8} (h : ze cs = true) (i : Nat) (hi : i < cs.length) : (0 ≤ (cs.getD i z0).1 ∧ (cs.getD i z0).1 ≤ 999) ∧ isW (cs.getD i z0).2.2 = true := by
 have hw := yaF h i hi
 unfold ze at h
 simp only [Bool.and_eq_true, Bool.not_eq_true'] at h
 have := J6 z0 cs 0 h.1 i hi
 unfold y5P at this
 simp only [Bool.or_eq_false_iff, Bool.not_eq_false'] at this
 exact ⟨zt.1 this.1, hw⟩
theorem ygS {cs : List y8} (h : ze cs = true) (i : Nat) (c : y8) (hg : 0 ≤ c.1 ∧ c.1 ≤ 999) (hw : isW c.2.2 = true) (hn : c.2.1 = false → c.2.2 = 0) : ze (cs.set i c) = true := by
 have h24 := v7 h
 unfold ze at h ⊢
 simp only [Bool.and_eq_true, Bool.not_eq_true'] at h ⊢
 refine ⟨Q1 (fun _ _ _ => rfl) (fun a ha => ?_) 0, by rw [List.length_set]; exact h.2⟩
 rcases List.mem_or_eq_of_mem_set ha with h1 | rfl
 ·obtain ⟨j, hj⟩ := J2 _ _ 0 h.1 a h1
  exact hj
 ·unfold y5P
  rw [zt.2 hg, hw]
  cases hu : a.2.1 with
  | true => rfl
  | false => rw [hn hu]; rfl
theorem yiQ : isW 0 = true := by decide
theorem yiR {g : Int} (h : 0 ≤ g ∧ g ≤ 999) : 0 ≤ Int.tmod (Go.IntKind.wrap .i64 (g + 1)) 1000 ∧ Int.tmod (Go.IntKind.wrap .i64 (g + 1)) 1000 ≤ 999 := by
 rw [w64 (n := g + 1) (by omega) (by omega), Int.tmod_eq_emod_of_nonneg (by omega)]
 omega
theorem ynk {cs : List y8} (h : ze cs = true) (i : Int) : ze (y11 cs i) = true := by
 unfold y11
 split
 ·rename_i hh
  have := (ygR h i.toNat (by have := v7 h; omega)).1
  exact ygS h _ _ (yiR this) yiQ fun _ => rfl
 ·exact h
theorem ygT {cs : List y8} (h : ze cs = true) {i : Int} (h0 : 0 ≤ i) (h1 : i ≤ 23) : ((y11 cs i).getD i.toNat z0).2.1 = false := by
 have h24 := v7 h
 by_cases hu : (cs.getD i.toNat z0).2.1 = true
 ·rw [y5c ⟨h, h0, h1, hu⟩, yaI _ _ _ _ (by omega)]
 ·rw [qX (fun hh => hu hh.2.2.2)]
  simpa using hu
end Go.Proofs.YtjllpipmaejeoaaGreat.Pl
namespace Go.Proofs.YtjllpipmaejeoaaGreat.Pl
open Go.Proofs.YtjllpipmaejeoaaGreat.R Go.Proofs.YtjllpipmaejeoaaGreat.XW
theorem y5u {K : List y7} (hK : srt K) {b : Int} {path : List Int} {d : y7} (hd : d ∈ K) (hb : d.1 = b) (hp : d.2.1 ∈ path) (hm : ∀ c ∈ K, c.1 = b → c.2.1 ∈ path → c.2.1 ≤ d.2.1) : zB (zG K b) path = (true, d) := by
 rcases qD (zG K b) path with ⟨h1, h2⟩ | ⟨h1, h2, h3, h4⟩
 ·exact absurd hp (h2 d (YF.2 ⟨hd, hb⟩))
 ·obtain ⟨h5, h6⟩ := YF.1 h2
  have e1 := h4 d (YF.2 ⟨hd, hb⟩) hp
  have e2 := hm _ h5 h6 h3
  have e3 := qW hK h5 hd (zw.2 ⟨h6.trans hb.symm, by omega⟩)
  exact Prod.ext h1 e3
theorem yaM {K : List y7} {b : Int} {path : List Int} (h : ∀ c ∈ K, c.1 = b → c.2.1 ∉ path) : zB (zG K b) path = (false, (0, 0, 0, 0, 0)) := by
 rcases qD (zG K b) path with ⟨h1, h2⟩ | ⟨h1, h2, h3, h4⟩
 ·exact h1
 ·obtain ⟨h5, h6⟩ := YF.1 h2
  exact absurd h3 (h _ h5 h6)
theorem wg (K : List y7) (b : Int) (path : List Int) : (zB (zG K b) path = (false, (0, 0, 0, 0, 0)) ∧ ∀ c ∈ K, c.1 = b → c.2.1 ∉ path) ∨ ∃ d ∈ K, d.1 = b ∧ d.2.1 ∈ path ∧ zB (zG K b) path = (true, d) ∧ ∀ c ∈ K, c.1 = b → c.2.1 ∈ path → c.2.1 ≤ d.2.1 := by
 rcases qD (zG K b) path with ⟨h1, h2⟩ | ⟨h1, h2, h3, h4⟩
 ·exact .inl ⟨h1, fun c hc hb => h2 c (YF.2 ⟨hc, hb⟩)⟩
 ·obtain ⟨h5, h6⟩ := YF.1 h2
  exact .inr ⟨_, h5, h6, h3, Prod.ext h1 rfl, fun c hc hb hp => h4 c (YF.2 ⟨hc, hb⟩) hp⟩
theorem yiS {K : List y7} {l : List y9} {cs : List y8} {b a : Int} (h : ∀ c ∈ K, c.1 = b → c.2.1 ∉ yO l a) : y6H K l cs b a = 0 := by
 unfold y6H
 rw [yaM h]
 rfl
theorem ynl {K : List y7} {l : List y9} {cs : List y8} {b a : Int} {d : y7} (h : zB (zG K b) (yO l a) = (true, d)) : y6H K l cs b a = if d.2.2.1 = 1 then (Z9 cs d.2.2.2.1 d.2.2.2.2).1 else 0 := by
 unfold y6H
 rw [h]
 by_cases hd : d.2.2.1 = 1
 ·rw [if_pos hd, if_pos (by rw [show (d.2.2.1 == 1) = true by rw [hd]; rfl]; rfl)]
 ·rw [if_neg hd, if_neg (by simp [hd])]
def y5Y (l : List y7) : List (Int × Int) := l.map fun x : y7 => (x.1, x.2.1)
theorem y1J {l : List y7} (h : srt l) : (y5Y l).Nodup := by
 unfold y5Y List.Nodup
 rw [List.pairwise_map]
 refine List.Pairwise.imp (fun {a b} hab he => ?_) h
 injection he with e1 e2
 have := KE.1 hab
 omega
theorem y2u (l : List y7) : (y5Y l).length = l.length := by unfold y5Y; rw [List.length_map]
theorem KJ {l : List y7} {p : Int × Int} : p ∈ y5Y l ↔ ∃ x ∈ l, x.1 = p.1 ∧ x.2.1 = p.2 := by
 unfold y5Y
 rw [List.mem_map]
 constructor
 ·rintro ⟨x, hx, rfl⟩
  exact ⟨x, hx, rfl, rfl⟩
 ·rintro ⟨x, hx, h1, h2⟩
  exact ⟨x, hx, Prod.ext h1 h2⟩
theorem y6O {a b : List y7} (ha : srt a) (h : ∀ x ∈ a, ∃ y ∈ b, y.1 = x.1 ∧ y.2.1 = x.2.1) : a.length ≤ b.length := by
 rw [← y2u a, ← y2u b]
 refine wO _ _ (y1J ha) fun p hp => ?_
 obtain ⟨x, hx, h1, h2⟩ := KJ.1 hp
 obtain ⟨y, hy, h3, h4⟩ := h x hx
 exact KJ.2 ⟨y, hy, h3.trans h1, h4.trans h2⟩
theorem y5v {a b : List y7} (ha : srt a) (hb : srt b) {k : y7} (hk : k ∈ b) (hka : ∀ x ∈ a, Y1 x k = false) (h1 : ∀ x ∈ a, x ∈ b) (h2 : ∀ x ∈ b, Y1 x k = false → x ∈ a) : a.length + 1 = b.length := by
 rw [← y2u a, ← y2u b]
 refine Nat.le_antisymm ?_ ?_
 ·have := wO ((k.1, k.2.1) :: y5Y a) (y5Y b) (List.nodup_cons.2 ⟨fun hm => ?_, y1J ha⟩) fun p hp => ?_
  ·simpa using this
  ·obtain ⟨x, hx, h3, h4⟩ := KJ.1 hm
   have := hka x hx
   rw [zw.2 ⟨h3, h4⟩] at this
   cases this
  ·rcases List.mem_cons.1 hp with rfl | hp
   ·exact KJ.2 ⟨k, hk, rfl, rfl⟩
   ·obtain ⟨x, hx, h3, h4⟩ := KJ.1 hp
    exact KJ.2 ⟨x, h1 x hx, h3, h4⟩
 ·have := wO (y5Y b) ((k.1, k.2.1) :: y5Y a) (y1J hb) fun p hp => ?_
  ·simpa using this
  ·obtain ⟨x, hx, h3, h4⟩ := KJ.1 hp
   cases hs : Y1 x k with
   | false => exact List.mem_cons_of_mem _ (KJ.2 ⟨x, h2 x hx hs, h3, h4⟩)
   | true =>
    obtain ⟨h5, h6⟩ := zw.1 hs
    exact List.mem_cons.2 (.inl (Prod.ext (h3.symm.trans h5) (h4.symm.trans h6)))
theorem y5w {ks : List y7} (hs : srt ks) (k : y7) : srt (W5 (Y0 ks k)) := KF (w8 k hs)
theorem y5x {ks : List y7} {k x : y7} : x ∈ W5 (Y0 ks k) ↔ (x = k ∨ (x ∈ ks ∧ Y1 x k = false)) ∧ x.2.2.1 ≠ 0 := by rw [wd, VZ]
theorem y0X {t : List y0} {q : List Int} (h : z8 q t = true) {x : y7} (hx : x ∈ yb t) : zO x = true := by
 obtain ⟨n, hn, hx⟩ := y4d.1 hx
 obtain ⟨i, hi, rfl⟩ := List.mem_iff_getElem.1 hn
 rw [← yE yg t i hi] at hx
 exact ((zx h).key i hi x hx).1
theorem wZ {t : List y0} {q : List Int} (h : z8 q t = true) : (yb t).length ≤ 60 := by
 unfold z8 at h
 simp only [Bool.and_eq_true, decide_eq_true_eq] at h
 omega
theorem KK {k : y7} : zO k = true ↔ (0 ≤ k.1 ∧ k.1 ≤ 15) ∧ (1 ≤ k.2.1 ∧ k.2.1 ≤ 60) ∧ (0 ≤ k.2.2.1 ∧ k.2.2.1 ≤ 2) ∧ (if k.2.2.1 = 1 then (0 ≤ k.2.2.2.1 ∧ k.2.2.2.1 ≤ 23) ∧ 0 ≤ k.2.2.2.2 ∧ k.2.2.2.2 ≤ 999 else k.2.2.2.1 = 0 ∧ k.2.2.2.2 = 0) := by
 unfold zO
 split <;> simp [zt]
theorem yiT {q : List Int} {t : List y0} (h : z8 q t = true) {k k' : y7} (hk : k ∈ yb t) (hs : k'.1 = k.1 ∧ k'.2.1 = k.2.1) (hok : zO k' = true) : (yl q t k').2.2 = true := by
 have hS := (zx h).srt
 refine y6N h hok (Nat.le_trans (y6O (y5w hS k') fun x hx => ?_) (wZ h))
 rcases (y5x.1 hx).1 with rfl | ⟨hx, _⟩
 ·exact ⟨k, hk, hs.1.symm, hs.2.symm⟩
 ·exact ⟨x, hx, rfl, rfl⟩
end Go.Proofs.YtjllpipmaejeoaaGreat.Pl
namespace Go.Proofs.YtjllpipmaejeoaaGreat.Pl
open Go.Proofs.YtjllpipmaejeoaaGreat.R Go.Proofs.YtjllpipmaejeoaaGreat.XW
theorem vm {l : List y9} {id c : Int} : c ∈ yQ l id ↔ id ≠ 0 ∧ ∃ a ∈ l, a.2 = id ∧ a.1 = c := by
 unfold yQ
 rw [y8P, List.nil_append, List.mem_map]
 constructor
 ·rintro ⟨a, ha, rfl⟩
  obtain ⟨h1, h2⟩ := List.mem_filter.1 ha
  simp only [Bool.and_eq_true, beq_iff_eq, bne_iff_ne, ne_eq] at h2
  exact ⟨h2.2, a, h1, h2.1, rfl⟩
 ·rintro ⟨h0, a, ha, h1, h2⟩
  refine ⟨a, List.mem_filter.2 ⟨ha, ?_⟩, h2⟩
  simp [h1, h0]
theorem ynm {l : List y9} (hs : l.Pairwise fun a b : y9 => a.1 < b.1) (hp : ∀ a ∈ l, 1 ≤ a.1 ∧ a.1 ≤ 60) (hf : ∀ a ∈ l, a.2 ≠ 0 → ∃ b ∈ l, b.1 = a.2 ∧ b.1 < a.1) (hl : l.length ≤ 16) : YK l = true := by
 unfold YK
 simp only [Bool.and_eq_true, Bool.not_eq_true', decide_eq_true_eq]
 refine ⟨kw yy l 0 fun j hj => ?_, by omega⟩
 have hg : l.getD j yy = l[j] := yE _ _ _ hj
 have hm : l[j] ∈ l := List.getElem_mem _
 rw [show (0 : Int) + (j : Int) = j by omega, hg]
 unfold y2U
 simp only [Bool.or_eq_false_iff, Bool.not_eq_false', zt, Bool.and_eq_false_iff, decide_eq_false_iff_not, bne_eq_false_iff_eq]
 refine ⟨hp _ hm, ?_, ?_⟩
 ·by_cases h0 : j = 0
  ·exact .inl (by omega)
  ·refine .inr ?_
   rw [show ((j : Int) - 1).toNat = j - 1 by omega, yE _ _ _ (by omega)]
   have := List.pairwise_iff_getElem.1 hs (j - 1) j (by omega) hj (by omega)
   omega
 ·by_cases h0 : l[j].2 = 0
  ·exact .inl h0
  ·refine .inr fun hneg => ?_
   obtain ⟨b, hb, e1, e2⟩ := hf _ hm h0
   obtain ⟨m, hm2, rfl⟩ := List.mem_iff_getElem.1 hb
   have hmj : m < j := by
    refine Decidable.byContradiction fun hge => ?_
    by_cases e : m = j
    ·subst e
     omega
    ·have := List.pairwise_iff_getElem.1 hs j m hj hm2 (by omega)
     omega
   have hf2 : yc7 l (j : Int) = l.take j := by
    unfold yc7
    simp
   rw [hf2] at hneg
   have := Wn (p := fun a : y9 => a.1 == l[j].2) (l.take j) 0 (Int.le_refl _) hneg l[m] (List.mem_iff_getElem.2 ⟨m, by rw [List.length_take]; omega, by rw [List.getElem_take]⟩)
   rw [e1] at this
   simp at this
theorem ycr {l : List y9} {id : Int} (h : ∀ a ∈ l, a.1 ≠ id) : yR l id < 0 := by
 refine Decidable.byContradiction fun hn => ?_
 obtain ⟨h1, h2⟩ := wN (l := l) (id := id) (by omega)
 exact h _ (yX yy l (yR l id) (by omega) h1) h2
theorem yaN {l : List y9} {id : Int} (h : 0 ≤ yR l id) : ∃ a ∈ l, a.1 = id := by
 obtain ⟨h1, h2⟩ := wN h
 exact ⟨_, yX yy l (yR l id) h h1, h2⟩
theorem v9 {l : List y9} {a : y9} (ha : a ∈ l) : 0 ≤ yR l a.1 := by
 refine Decidable.byContradiction fun hn => ?_
 have := Wn (p := fun b : y9 => b.1 == a.1) l 0 (Int.le_refl _) (by unfold yR at hn; omega) a ha
 simp at this
theorem Vm {l : List y9} {id : Int} (h : yR l id < 0) : yO l id = [] := by
 unfold yO
 rw [K7, if_pos h]
section
variable {l : List y9} (h : AgesR l)
include h
theorem VG : l.Pairwise fun a b : y9 => a.1 < b.1 := List.pairwise_iff_getElem.2 fun i j hi hj hij => by
 have := h.lt (j - (i + 1)) i (by omega)
 rw [show i + 1 + (j - (i + 1)) = j by omega, yE _ _ _ hi, yE _ _ _ hj] at this
 exact this
theorem y0D {a : y9} (ha : a ∈ l) : 1 ≤ a.1 ∧ a.1 ≤ 60 := by
 obtain ⟨i, hi, rfl⟩ := List.mem_iff_getElem.1 ha
 have := h.pos i hi
 rwa [yE _ _ _ hi] at this
theorem ygU {a b : y9} (ha : a ∈ l) (hb : b ∈ l) (he : a.1 = b.1) : a = b := by
 obtain ⟨i, hi, rfl⟩ := List.mem_iff_getElem.1 ha
 obtain ⟨j, hj, rfl⟩ := List.mem_iff_getElem.1 hb
 rcases Nat.lt_trichotomy i j with h1 | h1 | h1
 ·have := List.pairwise_iff_getElem.1 (VG h) i j hi hj h1
  omega
 ·subst h1
  rfl
 ·have := List.pairwise_iff_getElem.1 (VG h) j i hj hi h1
  omega
theorem y4f : yR l 0 < 0 := ycr fun a ha => by
 have := y0D h ha
 omega
theorem ygV {a : y9} (ha : a ∈ l) : l.getD (yR l a.1).toNat yy = a := by
 have h0 := v9 ha
 obtain ⟨h1, h2⟩ := wN h0
 exact ygU h (yX yy l (yR l a.1) h0 h1) ha h2
theorem Q3 {a : y9} (ha : a ∈ l) (hf : a.2 ≠ 0) : ∃ b ∈ l, b.1 = a.2 ∧ b.1 < a.1 := by
 obtain ⟨i, hi, rfl⟩ := List.mem_iff_getElem.1 ha
 have hg : l.getD i yy = l[i] := yE _ _ _ hi
 obtain ⟨j, hj, he⟩ := h.frm i hi (by rw [hg]; exact hf)
 rw [hg, yE _ _ _ (by omega)] at he
 exact ⟨l[j], List.getElem_mem _, he, List.pairwise_iff_getElem.1 (VG h) j i (by omega) hi hj⟩
theorem ygW : ∀ (k i : Nat), i ≤ k → i < l.length → ∀ n m : Nat, i < n → i < m → K7 l n (i : Int) = K7 l m (i : Int) := by
 intro k
 induction k with
 | zero =>
  intro i hik hi n m hn hm
  obtain ⟨n, rfl⟩ := Nat.exists_eq_succ_of_ne_zero (show n ≠ 0 by omega)
  obtain ⟨m, rfl⟩ := Nat.exists_eq_succ_of_ne_zero (show m ≠ 0 by omega)
  rw [kv _ _ _ (by omega), kv _ _ _ (by omega)]
  have hi0 : i = 0 := by omega
  subst hi0
  have h0 : (l.getD ((0 : Nat) : Int).toNat yy).2 = 0 := Decidable.byContradiction fun hne => by
   obtain ⟨j, hj, _⟩ := h.frm 0 hi hne
   omega
  have hz := y4f h
  rw [h0]
  cases n <;> cases m <;> simp [K7, hz]
 | succ k ih =>
  intro i hik hi n m hn hm
  obtain ⟨n, rfl⟩ := Nat.exists_eq_succ_of_ne_zero (show n ≠ 0 by omega)
  obtain ⟨m, rfl⟩ := Nat.exists_eq_succ_of_ne_zero (show m ≠ 0 by omega)
  rw [kv _ _ _ (by omega), kv _ _ _ (by omega)]
  congr 1
  rw [Int.toNat_natCast]
  by_cases h0 : (l.getD i yy).2 = 0
  ·have hz := y4f h
   rw [h0]
   cases n <;> cases m <;> simp [K7, hz]
  ·obtain ⟨j, hj, he⟩ := h.frm i hi h0
   have hjl : j < l.length := by omega
   have hmem : l.getD j yy ∈ l := by
    rw [yE _ _ _ hjl]
    exact List.getElem_mem _
   obtain ⟨a1, a2⟩ := wN (v9 hmem)
   have h3 := v9 hmem
   have hat : yR l (l.getD i yy).2 = (j : Int) := by
    rw [← he]
    rcases Nat.lt_trichotomy (yR l (l.getD j yy).1).toNat j with h1 | h1 | h1
    ·have := List.pairwise_iff_getElem.1 (VG h) _ j (by omega) hjl h1
     rw [yE yy l _ (show (yR l (l.getD j yy).1).toNat < l.length by omega)] at a2
     have e3 := congrArg Prod.fst (yE yy l j hjl)
     omega
    ·omega
    ·have := List.pairwise_iff_getElem.1 (VG h) j _ hjl (by omega) h1
     rw [yE yy l _ (show (yR l (l.getD j yy).1).toNat < l.length by omega)] at a2
     have e3 := congrArg Prod.fst (yE yy l j hjl)
     omega
   rw [hat]
   exact ih j (by omega) hjl n m (by omega) (by omega)
theorem kB {a : y9} (ha : a ∈ l) : yO l a.1 = a.1 :: yO l a.2 := by
 have h0 := v9 ha
 have hg := ygV h ha
 have h1 : yO l a.1 = (l.getD (yR l a.1).toNat yy).1 :: K7 l l.length (yR l (l.getD (yR l a.1).toNat yy).2) := kv l l.length _ h0
 rw [h1, hg]
 congr 1
 by_cases hn : yR l a.2 < 0
 ·rw [Vm hn]
  cases hl : l.length with
  | zero => rfl
  | succ n => rw [K7, if_pos hn]
 ·obtain ⟨a1, a2⟩ := wN (l := l) (id := a.2) (by omega)
  have := ygW h l.length (yR l a.2).toNat (by omega) (by omega) l.length (l.length + 1) (by omega) (by omega)
  rw [show (((yR l a.2).toNat : Nat) : Int) = yR l a.2 by omega] at this
  exact this
theorem y8T {P : Int → Prop} (h0 : ∀ id, yR l id < 0 → P id) (hs : ∀ a ∈ l, P a.2 → P a.1) : ∀ id, P id := by
 have key : ∀ (n : Nat) (id : Int), id.toNat ≤ n → P id := by
  intro n
  induction n with
  | zero =>
   intro id hid
   refine h0 id (ycr fun a ha he => ?_)
   have := y0D h ha
   omega
  | succ n ih =>
   intro id hid
   by_cases hn : yR l id < 0
   ·exact h0 id hn
   ·obtain ⟨a, ha, rfl⟩ := yaN (l := l) (id := id) (by omega)
    refine hs a ha ?_
    by_cases hz : a.2 = 0
    ·rw [hz]
     exact h0 0 (y4f h)
    ·obtain ⟨b, hb, e1, e2⟩ := Q3 h ha hz
     have := y0D h hb
     exact ih a.2 (by omega)
 exact fun id => key _ id (Nat.le_refl _)
theorem y5y {x v : Int} (hx : x ∈ yO l v) : x ≤ v ∧ 0 ≤ yR l v ∧ 0 ≤ yR l x := by
 have hv : 0 ≤ yR l v := Decidable.byContradiction fun hn => by
  rw [Vm (by omega)] at hx
  cases hx
 have hle : x ≤ v := by
  rcases y6G h hv hx with h1 | h1 <;> omega
 refine ⟨hle, hv, ?_⟩
 revert hx
 refine y8T h (P := fun v => x ∈ yO l v → 0 ≤ yR l x) (fun id hid hx => ?_) (fun a ha ih hx => ?_) v
 ·rw [Vm hid] at hx
  cases hx
 ·rw [kB h ha] at hx
  rcases List.mem_cons.1 hx with rfl | hx
  ·exact v9 ha
  ·exact ih hx
theorem ygX {a : y9} (ha : a ∈ l) (hn : 0 ≤ yR l a.2) : a.2 < a.1 := by
 obtain ⟨b, hb, e1, e2⟩ := Q3 h ha fun hz => by
  have := y4f h
  rw [hz] at hn
  omega
 omega
theorem y6P {x : Int} : ∀ v, x ∈ yO l v → ∃ pre, yO l v = pre ++ yO l x ∧ ∀ y ∈ pre, x < y := by
 refine y8T h (fun id hid hx => ?_) fun a ha ih hx => ?_
 ·rw [Vm hid] at hx
  cases hx
 ·rw [kB h ha] at hx
  rcases List.mem_cons.1 hx with rfl | hx
  ·exact ⟨[], rfl, fun y hy => by cases hy⟩
  ·obtain ⟨pre, e, hp⟩ := ih hx
   refine ⟨a.1 :: pre, by rw [kB h ha, e]; rfl, fun y hy => ?_⟩
   rcases List.mem_cons.1 hy with rfl | hy
   ·obtain ⟨h1, h2, _⟩ := y5y h hx
    have := ygX h ha h2
    omega
   ·exact hp y hy
theorem ynn {x v y : Int} (hx : x ∈ yO l v) (hy : y ∈ yO l x) : y ∈ yO l v := by
 obtain ⟨pre, e, _⟩ := y6P h v hx
 rw [e]
 exact List.mem_append_right _ hy
theorem yeK {x v y : Int} (hx : x ∈ yO l v) (hy : y ∈ yO l v) (hlt : y < x) : y ∈ (yO l x).drop 1 := by
 obtain ⟨pre, e, hp⟩ := y6P h v hx
 rw [e] at hy
 rcases List.mem_append.1 hy with h1 | h1
 ·have := hp y h1
  omega
 ·obtain ⟨_, _, h3⟩ := y5y h hx
  obtain ⟨a, ha, rfl⟩ := yaN h3
  rw [kB h ha] at h1 ⊢
  rcases List.mem_cons.1 h1 with rfl | h1
  ·omega
  ·exact h1
theorem ydz {x : Int} : ∀ v, x ∈ yO l v → x ≠ v → ∃ a ∈ l, a.2 = x ∧ a.1 ∈ yO l v ∧ ∀ y ∈ yO l v, x < y → a.1 ≤ y := by
 refine y8T h (fun id hid hx => ?_) fun a ha ih hx hne => ?_
 ·rw [Vm hid] at hx
  cases hx
 ·have hp := kB h ha
  rw [hp] at hx
  rcases List.mem_cons.1 hx with rfl | hx
  ·exact absurd rfl hne
  ·have hle := y5y h hx
   have hlt := ygX h ha hle.2.1
   by_cases he : x = a.2
   ·refine ⟨a, ha, he.symm, by rw [hp]; simp, fun y hy hxy => ?_⟩
    rw [hp] at hy
    rcases List.mem_cons.1 hy with rfl | hy
    ·exact Int.le_refl _
    ·have := (y5y h hy).1
     omega
   ·obtain ⟨b, hb, b1, b2, b3⟩ := ih hx he
    refine ⟨b, hb, b1, by rw [hp]; exact List.mem_cons_of_mem _ b2, fun y hy hxy => ?_⟩
    rw [hp] at hy
    rcases List.mem_cons.1 hy with rfl | hy
    ·have := (y5y h b2).1
     omega
    ·exact b3 y hy hxy
theorem ydA {x c : Int} (hc : c ∈ yQ l x) : x < c ∧ 0 ≤ yR l c ∧ yO l c = c :: yO l x ∧ 0 ≤ yR l x := by
 obtain ⟨h0, a, ha, rfl, rfl⟩ := vm.1 hc
 obtain ⟨b, hb, e1, e2⟩ := Q3 h ha h0
 exact ⟨by omega, v9 ha, kB h ha, by rw [← e1]; exact v9 hb⟩
end
section
variable {l : List y9} (h : AgesR l) {i : Nat} (hi : i < l.length)
include h hi
theorem y5z {x : y9} : x ∈ y3v l i (l.getD i yy).1 ↔ ∃ y ∈ l, y.1 ≠ (l.getD i yy).1 ∧ x = wh (l.getD i yy).2 (l.getD i yy).1 y := by
 have hg : l.getD i yy = l[i] := yE _ _ _ hi
 unfold y3v
 rw [List.mem_eraseIdx_iff_getElem]
 constructor
 ·rintro ⟨j, hj, hne, e⟩
  rw [List.length_map] at hj
  rw [List.getElem_map] at e
  refine ⟨l[j], List.getElem_mem _, fun he => hne ?_, e.symm⟩
  rw [hg] at he
  rcases Nat.lt_trichotomy j i with h1 | h1 | h1
  ·have := List.pairwise_iff_getElem.1 (VG h) j i hj hi h1
   omega
  ·exact h1
  ·have := List.pairwise_iff_getElem.1 (VG h) i j hi hj h1
   omega
 ·rintro ⟨y, hy, hne, rfl⟩
  obtain ⟨j, hj, rfl⟩ := List.mem_iff_getElem.1 hy
  refine ⟨j, by rw [List.length_map]; exact hj, fun e => hne ?_, by rw [List.getElem_map]⟩
  subst e
  rw [hg]
omit h hi in
theorem Wo (fr id : Int) (y : y9) : (wh fr id y).1 = y.1 := by
 unfold wh
 split <;> rfl
omit h hi in
theorem y36 (fr id : Int) (y : y9) : (wh fr id y).2 = if y.2 = id then fr else y.2 := by
 unfold wh
 by_cases e : y.2 = id
 ·rw [if_pos e, if_pos (by simp [e])]
 ·rw [if_neg e, if_neg (by simp [e])]
omit h in
theorem ycs : (y3v l i (l.getD i yy).1).length + 1 = l.length := by
 unfold y3v
 rw [List.length_eraseIdx_of_lt (by rw [List.length_map]; exact hi), List.length_map]
 omega
omit h hi in
theorem ygY (id : Int) : ((y3v l i id).map fun a : y9 => a.1).Sublist (l.map fun a : y9 => a.1) := by
 unfold y3v
 have h1 := (List.eraseIdx_sublist (l.map (wh (l.getD i yy).2 id)) i).map fun a : y9 => a.1
 rw [List.map_map] at h1
 have e : ((fun a : y9 => a.1) ∘ wh (l.getD i yy).2 id) = fun a : y9 => a.1 := funext fun a => Wo _ _ _
 rw [e] at h1
 exact h1
theorem yiU (hl : l.length ≤ 16) : YK (y3v l i (l.getD i yy).1) = true := by
 have hmem : l.getD i yy ∈ l := by
  rw [yE _ _ _ hi]
  exact List.getElem_mem _
 have hm := fun x : y9 => y5z h hi (x := x)
 refine ynm ?_ (fun x hx => ?_) (fun x hx h0 => ?_) (by have := ycs hi; omega)
 ·have h1 : (l.map fun a : y9 => a.1).Pairwise (· < ·) := List.pairwise_map.2 (VG h)
  exact List.pairwise_map.1 (List.Pairwise.sublist (ygY _) h1)
 ·obtain ⟨y, hy, hne, rfl⟩ := (hm x).1 hx
  rw [Wo]
  exact y0D h hy
 ·obtain ⟨y, hy, hne, rfl⟩ := (hm x).1 hx
  rw [y36] at h0 ⊢
  rw [Wo]
  have hput : ∀ b ∈ l, b.1 ≠ (l.getD i yy).1 → ∃ c ∈ y3v l i (l.getD i yy).1, c.1 = b.1 := fun b hb hbn => ⟨_, (hm _).2 ⟨b, hb, hbn, rfl⟩, Wo _ _ _⟩
  by_cases e : y.2 = (l.getD i yy).1
  ·rw [if_pos e] at h0 ⊢
   obtain ⟨b, hb, e1, e2⟩ := Q3 h hmem h0
   obtain ⟨c, hc, ec⟩ := hput b hb (by omega)
   have hy0 : y.2 ≠ 0 := by
    have := y0D h hmem
    omega
   obtain ⟨d, hd, d1, d2⟩ := Q3 h hy hy0
   exact ⟨c, hc, by omega, by omega⟩
  ·rw [if_neg e] at h0 ⊢
   obtain ⟨b, hb, e1, e2⟩ := Q3 h hy h0
   obtain ⟨c, hc, ec⟩ := hput b hb (by omega)
   exact ⟨c, hc, by omega, by omega⟩
theorem yiV (h' : AgesR (y3v l i (l.getD i yy).1)) {v : Int} (hv : v ≠ (l.getD i yy).1) {y : Int} : y ∈ yO (y3v l i (l.getD i yy).1) v ↔ y ∈ yO l v ∧ y ≠ (l.getD i yy).1 := by
 have hmem : l.getD i yy ∈ l := by
  rw [yE _ _ _ hi]
  exact List.getElem_mem _
 have hm := fun x : y9 => y5z h hi (x := x)
 generalize hA : l.getD i yy = A at *
 generalize hL : y3v l i A.1 = l' at *
 have hA1 := y0D h hmem
 have key : ∀ v, y ∈ yO l' (if v = A.1 then A.2 else v) ↔ y ∈ yO l v ∧ y ≠ A.1 := by
  refine y8T h (fun id hid => ?_) fun b hb ih => ?_
  ·have hne : id ≠ A.1 := fun e => by
    have := v9 hmem
    rw [e] at hid
    omega
   rw [if_neg hne, Vm hid, Vm (ycr fun c hc e => ?_)]
   ·simp
   ·obtain ⟨d, hd, hdn, rfl⟩ := (hm c).1 hc
    rw [Wo] at e
    have := v9 hd
    rw [e] at this
    omega
  ·by_cases hbA : b.1 = A.1
   ·have hbe := ygU h hb hmem hbA
    subst hbe
    rw [if_pos rfl, kB h hb]
    have hne : b.2 ≠ b.1 := fun e => by
     obtain ⟨d, hd, d1, d2⟩ := Q3 h hb (by omega)
     omega
    rw [if_neg hne] at ih
    rw [ih]
    constructor
    ·rintro ⟨h1, h2⟩
     exact ⟨List.mem_cons_of_mem _ h1, h2⟩
    ·rintro ⟨h1, h2⟩
     rcases List.mem_cons.1 h1 with h3 | h3
     ·exact absurd h3 h2
     ·exact ⟨h3, h2⟩
   ·have hc := (hm _).2 ⟨b, hb, hbA, rfl⟩
    have hp := kB h' hc
    rw [Wo, y36] at hp
    rw [if_neg hbA, hp, kB h hb, List.mem_cons, List.mem_cons, ih]
    constructor
    ·rintro (rfl | ⟨h1, h2⟩)
     ·exact ⟨.inl rfl, hbA⟩
     ·exact ⟨.inr h1, h2⟩
    ·rintro ⟨h1 | h1, h2⟩
     ·exact .inl h1
     ·exact .inr ⟨h1, h2⟩
 have := key v
 rwa [if_neg hv] at this
end
end Go.Proofs.YtjllpipmaejeoaaGreat.Pl
namespace Go.Proofs.YtjllpipmaejeoaaGreat.Pl
open Go.Proofs.YtjllpipmaejeoaaGreat.R Go.Proofs.YtjllpipmaejeoaaGreat.XW
def y2v (K : List y7) (l : List y9) (b a : Int) : Option (Int × Int) :=
 if (zB (zG K b) (yO l a)).1 = true ∧ (zB (zG K b) (yO l a)).2.2.2.1 = 1 then some ((zB (zG K b) (yO l a)).2.2.2.2.1, (zB (zG K b) (yO l a)).2.2.2.2.2) else none
theorem Q4 {K : List y7} {l : List y9} {b a : Int} (h : ∀ c ∈ K, c.1 = b → c.2.1 ∉ yO l a) : y2v K l b a = none := by
 unfold y2v
 rw [yaM h, if_neg]
 rintro ⟨h1, _⟩
 cases h1
theorem qa {K : List y7} {l : List y9} {b a : Int} {d : y7} (h : zB (zG K b) (yO l a) = (true, d)) : y2v K l b a = if d.2.2.1 = 1 then some (d.2.2.2.1, d.2.2.2.2) else none := by
 unfold y2v
 rw [h]
 by_cases hd : d.2.2.1 = 1
 ·rw [if_pos hd, if_pos ⟨rfl, hd⟩]
 ·rw [if_neg hd, if_neg fun hh => hd hh.2]
theorem ydB {K : List y7} {l : List y9} {b a : Int} {c : Int × Int} (h : y2v K l b a = some c) : ∃ d ∈ K, d.2.2.1 = 1 ∧ c = (d.2.2.2.1, d.2.2.2.2) ∧ d.1 = b ∧ d.2.1 ∈ yO l a ∧ zB (zG K b) (yO l a) = (true, d) := by
 rcases wg K b (yO l a) with ⟨_, h2⟩ | ⟨d, hd, db, dp, h1, h2⟩
 ·rw [Q4 h2] at h
  cases h
 ·rw [qa h1] at h
  by_cases hk : d.2.2.1 = 1
  ·rw [if_pos hk] at h
   injection h with h
   exact ⟨d, hd, hk, h.symm, db, dp, h1⟩
  ·rw [if_neg hk] at h
   cases h
def yz4 (cs : List y8) : Option (Int × Int) → Int
 | some c => (Z9 cs c.1 c.2).1
 | none => 0
theorem y37 (K : List y7) (l : List y9) (cs : List y8) (b a : Int) : y6H K l cs b a = yz4 cs (y2v K l b a) := by
 rcases wg K b (yO l a) with ⟨_, h2⟩ | ⟨d, hd, db, dp, h1, h2⟩
 ·rw [yiS h2, Q4 h2]
  rfl
 ·rw [ynl h1, qa h1]
  by_cases hk : d.2.2.1 = 1
  ·rw [if_pos hk, if_pos hk]
   rfl
  ·rw [if_neg hk, if_neg hk]
   rfl
section
variable {K K' : List y7} {k : y7} (hK : srt K) (hK' : srt K') (hk : k ∈ K)
include hK hK' hk
theorem ygZ (hm : ∀ x, x ∈ K' ↔ x ∈ K ∧ Y1 x k = false) {l : List y9} {b a : Int} (hn : zB (zG K b) (yO l a) ≠ (true, k)) : y2v K' l b a = y2v K l b a := by
 rcases wg K b (yO l a) with ⟨_, h2⟩ | ⟨d, hd, db, dp, h1, h2⟩
 ·rw [Q4 h2, Q4 fun c hc hb => h2 c ((hm c).1 hc).1 hb]
 ·have hs : Y1 d k = false := by
   cases hs : Y1 d k with
   | false => rfl
   | true =>
    have := qW hK hd hk hs
    subst this
    exact absurd h1 hn
  rw [qa h1, qa (y5u hK' ((hm d).2 ⟨hd, hs⟩) db dp fun c hc hb hp => h2 c ((hm c).1 hc).1 hb hp)]
theorem yiW (hm : ∀ x, x ∈ K' ↔ x ∈ K ∧ Y1 x k = false) {l : List y9} (hl : AgesR l) (h2 : k.2.2.1 ≠ 1) (hab : ∀ c ∈ K, c.1 = k.1 → c.2.1 ∉ (yO l k.2.1).drop 1) (b a : Int) : y2v K' l b a = y2v K l b a := by
 by_cases hn : zB (zG K b) (yO l a) = (true, k)
 ·rcases wg K b (yO l a) with ⟨h3, h4⟩ | ⟨d, hd, db, dp, h3, h4⟩
  ·rw [h3] at hn
   cases hn
  ·rw [h3] at hn
   injection hn with _ hn
   subst hn
   rw [qa h3, if_neg h2, Q4 fun c hc hb hp => ?_]
   obtain ⟨hc, hs⟩ := (hm c).1 hc
   have h5 := h4 c hc hb hp
   have h6 : c.2.1 ≠ d.2.1 := fun e => by
    rw [zw.2 ⟨hb.trans db.symm, e⟩] at hs
    cases hs
   exact hab c hc (hb.trans db.symm) (yeK hl dp hp (by omega))
 ·exact ygZ hK hK' hk hm hn
theorem yiX {c : Int} (hm : ∀ x, x ∈ K' ↔ x = (k.1, c, k.2.2) ∨ (x ∈ K ∧ Y1 x k = false)) {l : List y9} (hl : AgesR l) (hc : c ∈ yQ l k.2.1) (hone : ∀ x ∈ yQ l k.2.1, x = c) (hno : ∀ d ∈ K, ¬ (d.1 = k.1 ∧ d.2.1 = c)) {a : Int} (ha : a ≠ k.2.1) (b : Int) : y2v K' l b a = y2v K l b a := by
 obtain ⟨g1, g2, g3, g4⟩ := ydA hl hc
 have up : k.2.1 ∈ yO l a → c ∈ yO l a ∧ ∀ y ∈ yO l a, k.2.1 < y → c ≤ y := fun hp => by
  obtain ⟨e, he, e1, e2, e3⟩ := ydz hl a hp (fun h => ha h.symm)
  have h0 := (vm.1 hc).1
  have := hone e.1 (vm.2 ⟨h0, e, he, e1, rfl⟩)
  rw [this] at e2 e3
  exact ⟨e2, e3⟩
 have down : c ∈ yO l a → k.2.1 ∈ yO l a := fun hp => ynn hl hp (by
  rw [g3]
  exact List.mem_cons_of_mem _ (ycj g4))
 rcases wg K b (yO l a) with ⟨_, h2⟩ | ⟨d, hd, db, dp, h1, h2⟩
 ·rw [Q4 h2, Q4 fun x hx hb hp => ?_]
  rcases (hm x).1 hx with rfl | ⟨hx, _⟩
  ·exact h2 k hk hb (down hp)
  ·exact h2 x hx hb hp
 ·cases hs : Y1 d k with
  | true =>
   have := qW hK hd hk hs
   subst this
   have hn : zB (zG K' b) (yO l a) = (true, (d.1, c, d.2.2)) := by
    refine y5u hK' ((hm _).2 (.inl rfl)) db (up dp).1 fun x hx hb hp => ?_
    rcases (hm x).1 hx with rfl | ⟨hx, _⟩
    ·exact Int.le_refl _
    ·have := h2 x hx hb hp
     show x.2.1 ≤ c
     omega
   rw [qa h1, qa hn]
  | false =>
   have hn : zB (zG K' b) (yO l a) = (true, d) := by
    refine y5u hK' ((hm _).2 (.inr ⟨hd, hs⟩)) db dp fun x hx hb hp => ?_
    rcases (hm x).1 hx with rfl | ⟨hx, _⟩
    ·have hb' : k.1 = b := hb
     have h3 := h2 k hk hb' (down hp)
     have h4 : k.2.1 ≠ d.2.1 := fun e => by
      rw [zw.2 ⟨db.trans hb'.symm, e.symm⟩] at hs
      cases hs
     exact (up (down hp)).2 _ dp (by omega)
    ·exact h2 x hx hb hp
   rw [qa h1, qa hn]
end
theorem yno {K : List y7} (hK : srt K) {l : List y9} (h : AgesR l) {i : Nat} (hi : i < l.length) (h' : AgesR (y3v l i (l.getD i yy).1)) (hno : ∀ c ∈ K, c.2.1 ≠ (l.getD i yy).1) {a : Int} (ha : a ≠ (l.getD i yy).1) (b : Int) : y2v K (y3v l i (l.getD i yy).1) b a = y2v K l b a := by
 have e : zB (zG K b) (yO (y3v l i (l.getD i yy).1) a) = zB (zG K b) (yO l a) := yeG hK hK fun c _ => by
  rw [yiV h hi h' ha]
  constructor
  ·rintro ⟨h1, h2, _⟩
   exact ⟨h1, h2⟩
  ·rintro ⟨h1, h2⟩
   exact ⟨h1, h2, hno c h1⟩
 unfold y2v
 rw [e]
theorem ydC {t : List y0} {l : List y9} {k : y7} (hS : srt (yb t)) (hk : k ∈ yb t) {a : Int} : y8A t l k a = true ↔ zB (zG (yb t) k.1) (yO l a) = (true, k) := by
 unfold y8A y9R
 rw [Bool.and_eq_true, beq_iff_eq]
 constructor
 ·rintro ⟨h1, h2⟩
  rcases wg (yb t) k.1 (yO l a) with ⟨h3, _⟩ | ⟨d, hd, db, dp, h3, _⟩
  ·rw [h3] at h1
   cases h1
  ·rw [h3] at h2 ⊢
   rw [qW hS hd hk (zw.2 ⟨db, h2⟩)]
 ·intro e
  rw [e]
  exact ⟨rfl, rfl⟩
theorem Q5 {t : List y0} {l : List y9} {vs : List ye} {k : y7} (hS : srt (yb t)) (hk : k ∈ yb t) : K9 t l vs k = true ↔ ∃ v ∈ vs, k.1 < v.2.2.1 ∧ zB (zG (yb t) k.1) (yO l v.2.1) = (true, k) := by
 unfold K9
 rw [decide_eq_true_eq]
 constructor
 ·intro h0
  rcases Yc (K8 t l k) Yi vs 0 (Int.le_refl _) with h1 | ⟨h1, h2, h3⟩
  ·omega
  ·rw [Int.sub_zero] at h3
   have hm : (zF (K8 t l k) vs 0).toNat < vs.length := by omega
   refine ⟨vs.getD (zF (K8 t l k) vs 0).toNat Yi, by rw [yE _ _ _ hm]; exact List.getElem_mem _, ?_⟩
   unfold K8 at h3
   rw [Bool.and_eq_true, decide_eq_true_eq] at h3
   exact ⟨h3.1, (ydC hS hk).1 h3.2⟩
 ·rintro ⟨v, hv, h1, h2⟩
  refine Decidable.byContradiction fun hn => ?_
  have := Wn (p := K8 t l k) vs 0 (Int.le_refl _) (by omega) v hv
  unfold K8 at this
  rw [(ydC hS hk).2 h2, decide_eq_true (show v.2.2.1 > k.1 from h1)] at this
  cases this
theorem y8U {vs : List ye} {id : Int} : v5 vs id = true ↔ ∀ v ∈ vs, v.2.1 ≠ id := by
 unfold v5
 rw [Bool.not_eq_true']
 constructor
 ·intro h v hv he
  obtain ⟨j, hj⟩ := J2 _ _ 0 h v hv
  unfold JI at hj
  rw [he] at hj
  simp at hj
 ·intro h
  refine Q1 (fun _ _ _ => rfl) (fun v hv => ?_) 0
  unfold JI
  exact beq_eq_false_iff_ne.2 (h v hv)
theorem yh0 {l : List y9} {vs : List ye} {id : Int} : y3w l vs id = true ↔ v5 vs id = true ∧ (yQ l id).length = 1 := by
 unfold y3w
 rw [Bool.and_eq_true, beq_iff_eq]
 constructor
 ·rintro ⟨h1, h2⟩
  exact ⟨h1, by omega⟩
 ·rintro ⟨h1, h2⟩
  exact ⟨h1, by omega⟩
theorem yh1 {l : List Int} (h : l.length = 1) : l.getD 0 0 ∈ l ∧ ∀ x ∈ l, x = l.getD 0 0 := by
 match l, h with
 | [c], _ => exact ⟨by simp, fun x hx => by simpa using hx⟩
end Go.Proofs.YtjllpipmaejeoaaGreat.Pl
namespace Go.Proofs.YtjllpipmaejeoaaGreat.Pl
open Go.Proofs.YtjllpipmaejeoaaGreat.R Go.Proofs.YtjllpipmaejeoaaGreat.XW
def gtN (l : List y9) (x : Int) : Nat := ((l.map fun a : y9 => a.1).filter fun y => decide (x < y)).length
def yct (l : List y9) (k : y7) : Nat := 1 + gtN l k.2.1
def ydD (l : List y9) : List y7 → Nat
 | [] => 0
 | k :: K => yct l k + ydD l K
def y6Q (K : List y7) (l : List y9) : Nat := ydD l K + l.length
theorem y2w {l : List y9} {k : y7} : ∀ {K : List y7}, srt K → k ∈ K → ydD l K = ydD l (K.filter fun x => !Y1 x k) + yct l k
 | [], _, hk => by cases hk
 | a :: K, hK, hk => by
  obtain ⟨h1, h2⟩ := List.pairwise_cons.1 hK
  rcases List.mem_cons.1 hk with rfl | hk
  ·rw [List.filter_cons_of_neg (by rw [zw.2 ⟨rfl, rfl⟩]; decide), List.filter_eq_self.2 fun x hx => ?_]
   ·rw [ydD]
    omega
   ·rw [y0s, VY (h1 x hx)]
    rfl
  ·rw [List.filter_cons_of_pos (by rw [VY (h1 k hk)]; rfl), ydD, ydD, y2w h2 hk]
   omega
theorem ykl {l l' : List y9} (h : ∀ x, gtN l' x ≤ gtN l x) : ∀ K : List y7, ydD l' K ≤ ydD l K
 | [] => Nat.le_refl _
 | k :: K => by
  have h1 := ykl h K
  have h2 := h k.2.1
  rw [ydD, ydD]
  unfold yct
  omega
theorem yu0 : ∀ (L : List Int) (x c : Int), x < c → (L.filter fun y => decide (c < y)).length ≤ (L.filter fun y => decide (x < y)).length
 | [], _, _, _ => Nat.le_refl _
 | y :: L, x, c, h => by
  have := yu0 L x c h
  by_cases h1 : c < y
  ·rw [List.filter_cons_of_pos (by simpa using h1), List.filter_cons_of_pos (by simp; omega)]
   simpa using this
  ·rw [List.filter_cons_of_neg (by simpa using h1)]
   by_cases h2 : x < y
   ·rw [List.filter_cons_of_pos (by simpa using h2), List.length_cons]
    omega
   ·rw [List.filter_cons_of_neg (by simpa using h2)]
    exact this
theorem yu1 : ∀ (L : List Int) (x c : Int), x < c → c ∈ L → (L.filter fun y => decide (c < y)).length < (L.filter fun y => decide (x < y)).length
 | [], _, _, _, hm => by cases hm
 | y :: L, x, c, h, hm => by
  rcases List.mem_cons.1 hm with rfl | hm
  ·rw [List.filter_cons_of_neg (by simp), List.filter_cons_of_pos (by simpa using h), List.length_cons]
   have := yu0 L x c h
   omega
  ·have := yu1 L x c h hm
   by_cases h1 : c < y
   ·rw [List.filter_cons_of_pos (by simpa using h1), List.filter_cons_of_pos (by simp; omega)]
    simpa using this
   ·rw [List.filter_cons_of_neg (by simpa using h1)]
    by_cases h2 : x < y
    ·rw [List.filter_cons_of_pos (by simpa using h2), List.length_cons]
     omega
    ·rw [List.filter_cons_of_neg (by simpa using h2)]
     exact this
section
variable {q : List yc} {t : List y0} {l : List y9} {cs : List y8} {vs : List ye} {z : Int} (hp : yo q t l cs vs z = true) {k : y7} (hk : k ∈ yb t)
include hp hk
theorem y8V : (yl q t (jg k)).2.2 = true := by
 have hr := YG hp
 refine yiT hr.tree hk ⟨rfl, rfl⟩ (KK.2 ?_)
 have := KK.1 (y0X hr.tree hk)
 exact ⟨this.1, this.2.1, ⟨Int.le_refl _, show (0 : Int) ≤ 2 by decide⟩, by rw [if_neg (show ¬ (jg k).2.2.1 = 1 by show ¬ (0 : Int) = 1; decide)]; exact ⟨rfl, rfl⟩⟩
theorem Vn {x : y7} : x ∈ yb (yl q t (jg k)).2.1 ↔ x ∈ yb t ∧ Y1 x k = false := by
 have hr := YG hp
 rw [y6K hr.tree (y8V hp hk)]
 constructor
 ·rintro ⟨rfl | ⟨h1, h2⟩, h3⟩
  ·exact absurd rfl h3
  ·exact ⟨h1, h2⟩
 ·rintro ⟨h1, h2⟩
  exact ⟨.inr ⟨h1, h2⟩, y0t h1⟩
theorem y2x : z8 (yl q t (jg k)).1 (yl q t (jg k)).2.1 = true := (y0v (y8V hp hk)).2.2.1
theorem y1K : srt (yb (yl q t (jg k)).2.1) := (zx (y2x hp hk)).srt
theorem ycu : (yb (yl q t (jg k)).2.1).length + 1 = (yb t).length :=
 y5v (y1K hp hk) (zx (YG hp).tree).srt hk (fun x hx => ((Vn hp hk).1 hx).2) (fun x hx => ((Vn hp hk).1 hx).1) fun x hx hs => (Vn hp hk).2 ⟨hx, hs⟩
theorem yu2 : yb (yl q t (jg k)).2.1 = (yb t).filter fun x => !Y1 x k := by
 refine y30 (y1K hp hk) (List.Pairwise.filter _ (zx (YG hp).tree).srt) fun x => ?_
 rw [Vn hp hk, List.mem_filter, Bool.not_eq_true']
theorem yh2 : jy q t cs k = if k.2.2.1 = 1 then y11 cs k.2.2.2.1 else cs := by
 have hr := YG hp
 obtain ⟨_, s1, s2, s3, s4⟩ := y8L (y0X hr.tree hk)
 have hT := y1G hr.tree ⟨s1, s2⟩ ⟨s3, s4⟩
 cases hf : (YT q t k.1 k.2.1).2.2.2.2.2 with
 | false => exact absurd ⟨rfl, rfl⟩ (hT.2 hf k hk)
 | true =>
  obtain ⟨c, hc, c1, c2, e⟩ := hT.1 hf
  have := qW (zx hr.tree).srt hc hk (zw.2 ⟨c1, c2⟩)
  subst this
  unfold jy
  rw [e]
  by_cases hd : c.2.2.1 = 1
  ·rw [if_pos hd, if_pos ⟨rfl, hd⟩]
   rfl
  ·rw [if_neg hd, if_neg fun hh => hd hh.2]
theorem yh3 : ze (jy q t cs k) = true := by
 rw [yh2 hp hk]
 split
 ·exact ynk (YG hp).cells _
 ·exact (YG hp).cells
theorem ydE {d : y7} (hd : d ∈ yb t) (h1 : d.2.2.1 = 1) (hs : Y1 d k = false) : Z9 (jy q t cs k) d.2.2.2.1 d.2.2.2.2 = Z9 cs d.2.2.2.1 d.2.2.2.2 := by
 have hr := YG hp
 refine yco (qZ _ _ _ _) ?_
 rw [yh2 hp hk]
 split
 ·rename_i hk1
  refine ygN fun e => ?_
  have u1 := y8Q hr.fit hd h1
  have u2 := y8Q hr.fit hk hk1
  have := Vl hr.fit hd hk h1 hk1 (by omega)
  subst this
  rw [zw.2 ⟨rfl, rfl⟩] at hs
  cases hs
 ·rfl
theorem ydF (j : Nat) : ((jy q t cs k).getD j z0).2.1 = true → (cs.getD j z0).2.1 = true ∧ (k.2.2.1 = 1 → (j : Int) ≠ k.2.2.2.1) := by
 have hr := YG hp
 have h24 := v7 hr.cells
 rw [yh2 hp hk]
 split
 ·rename_i hk1
  intro hu
  have u2 := y8Q hr.fit hk hk1
  by_cases e : k.2.2.2.1.toNat = j
  ·have := ygT hr.cells u2.1 (by omega)
   rw [e, hu] at this
   cases this
  ·rw [ygN e] at hu
   exact ⟨hu, fun _ e2 => e (by omega)⟩
 ·rename_i hk1
  exact fun hu => ⟨hu, fun h => absurd h hk1⟩
theorem yiY : yo (yl q t (jg k)).1 (yl q t (jg k)).2.1 l (jy q t cs k) vs z = true := by
 have hr := YG hp
 have h24 := v7 hr.cells
 have hl := qZ q t cs k
 have hm := fun x : y7 => Vn hp hk (x := x)
 have hv : je vs l = true := by
  unfold yo at hp
  simp only [Bool.and_eq_true] at hp
  exact hp.2.2.2.2.2.1
 refine ycq (y2x hp hk) hr.ages (yh3 hp hk) hr.next hr.late hv (ygP (y1K hp hk) (by have := wZ (y2x hp hk); omega) (by omega) (fun c hc => y8R hr.fit ((hm c).1 hc).1) (fun c hc hd => ?_) (fun c hc d hd h1 h2 he => Vl hr.fit ((hm c).1 hc).1 ((hm d).1 hd).1 h1 h2 he) fun j j0 j1 hj => ?_)
 ·obtain ⟨h1, h2⟩ := (hm c).1 hc
  rw [ydE hp hk h1 hd h2]
  exact y8S hr.fit h1 hd
 ·obtain ⟨h1, h2⟩ := ydF hp hk j.toNat hj
  obtain ⟨c, hc, c1, c2⟩ := y5t hr.fit (by have := wZ hr.tree; omega) (by omega) j0 (by omega) h1
  refine ⟨c, (hm c).2 ⟨hc, ?_⟩, c1, c2⟩
  cases hs : Y1 c k with
  | false => rfl
  | true =>
   have := qW (zx hr.tree).srt hc hk hs
   subst this
   exact absurd (show ((j.toNat : Nat) : Int) = c.2.2.2.1 by omega) (h2 c1)
theorem yh4 : Qv (jy q t cs k) ≤ Qv cs := by
 have hr := YG hp
 have h24 := v7 hr.cells
 have hl := qZ q t cs k
 have e : (jz (jy q t cs k) 0).length ≤ (jz cs 0).length := wO _ _ (vk _ _) fun x hx => by
  obtain ⟨g1, g2, g3⟩ := y0W _ 0 x hx
  rw [show x - 0 = x by omega] at g3
  have := Vk cs 0 x.toNat (by omega) (ydF hp hk x.toNat g3).1
  rwa [show (0 : Int) + (x.toNat : Int) = x by omega] at this
 unfold Qv
 rw [y0U cs 0 0 (Int.le_refl _) (by omega), y0U _ 0 0 (Int.le_refl _) (by omega)]
 omega
theorem ynp {b a : Int} (he : y2v (yb (yl q t (jg k)).2.1) l b a = y2v (yb t) l b a) : y6H (yb (yl q t (jg k)).2.1) l (jy q t cs k) b a = y6H (yb t) l cs b a := by
 rw [y37, y37, ← he]
 cases hd : y2v (yb (yl q t (jg k)).2.1) l b a with
 | none => rfl
 | some c =>
  obtain ⟨d, hd1, d1, rfl, _⟩ := ydB hd
  obtain ⟨h1, h2⟩ := (Vn hp hk).1 hd1
  exact congrArg Prod.fst (ydE hp hk h1 d1 h2)
theorem ynq : y6Q (yb (yl q t (jg k)).2.1) l < y6Q (yb t) l := by
 have := y2w (l := l) (zx (YG hp).tree).srt hk
 unfold y6Q
 rw [yu2 hp hk]
 unfold yct at this
 omega
variable {c : Int} (hc : c ∈ yQ l k.2.1) (hone : ∀ x ∈ yQ l k.2.1, x = c) (hno : ∀ d ∈ yb t, ¬ (d.1 = k.1 ∧ d.2.1 = c))
def y1L (q : List Int) (t : List y0) (k : y7) (c : Int) : List Int × List y0 × Bool := yl (yl q t (jg k)).1 (yl q t (jg k)).2.1 (k.1, c, k.2.2)
include hc
theorem yh5 : zO (k.1, c, k.2.2) = true := by
 have hr := YG hp
 have h1 := KK.1 (y0X hr.tree hk)
 obtain ⟨_, _, a, ha, _, rfl⟩ : c ∈ yQ l k.2.1 ∧ k.2.1 ≠ 0 ∧ ∃ a ∈ l, a.2 = k.2.1 ∧ a.1 = c := ⟨hc, vm.1 hc⟩
 exact KK.2 ⟨h1.1, y0D (Qr hr.ages) ha, h1.2.2.1, h1.2.2.2⟩
theorem y8W : (y1L q t k c).2.2 = true := by
 have hr := YG hp
 refine y6N (y2x hp hk) (yh5 hp hk hc) (Nat.le_trans (y6O (b := (k.1, c, k.2.2) :: yb (yl q t (jg k)).2.1) (y5w (y1K hp hk) _) fun x hx => ?_) ?_)
 ·rcases (y5x.1 hx).1 with rfl | ⟨hx, _⟩
  ·exact ⟨_, List.mem_cons_self, rfl, rfl⟩
  ·exact ⟨x, List.mem_cons_of_mem _ hx, rfl, rfl⟩
 ·have h1 := ycu hp hk
  have h2 := wZ hr.tree
  rw [List.length_cons]
  omega
theorem y5A : z8 (y1L q t k c).1 (y1L q t k c).2.1 = true := (y0v (y8W hp hk hc)).2.2.1
theorem y2y : srt (yb (y1L q t k c).2.1) := (zx (y5A hp hk hc)).srt
include hno
theorem y4g {x : y7} : x ∈ yb (y1L q t k c).2.1 ↔ x = (k.1, c, k.2.2) ∨ (x ∈ yb t ∧ Y1 x k = false) := by
 have hput := y8W hp hk hc
 unfold y1L at hput ⊢
 rw [y6K (y2x hp hk) hput, Vn hp hk]
 constructor
 ·rintro ⟨h1 | ⟨⟨h1, h2⟩, h3⟩, h4⟩
  ·exact .inl h1
  ·exact .inr ⟨h1, h2⟩
 ·rintro (rfl | ⟨h1, h2⟩)
  ·exact ⟨.inl rfl, (show k.2.2.1 ≠ 0 from y0t hk)⟩
  ·refine ⟨.inr ⟨⟨h1, h2⟩, ?_⟩, y0t h1⟩
   cases hs : Y1 x (k.1, c, k.2.2) with
   | false => rfl
   | true => exact absurd (zw.1 hs) (hno x h1)
theorem yiZ : (yb (y1L q t k c).2.1).length = (yb t).length := by
 have hr := YG hp
 have hm := fun x : y7 => y4g hp hk hc hno (x := x)
 have h1 := y5v (y1K hp hk) (y2y hp hk hc) (k := (k.1, c, k.2.2)) ((hm _).2 (.inl rfl)) (fun x hx => by
  obtain ⟨h1, h2⟩ := (Vn hp hk).1 hx
  cases hs : Y1 x (k.1, c, k.2.2) with
  | false => rfl
  | true => exact absurd (zw.1 hs) (hno x h1)) (fun x hx => (hm x).2 (.inr ((Vn hp hk).1 hx))) fun x hx hs => by
  rcases (hm x).1 hx with rfl | h2
  ·rw [zw.2 ⟨rfl, rfl⟩] at hs
   cases hs
  ·exact (Vn hp hk).2 h2
 have h2 := ycu hp hk
 omega
theorem yh6 : yo (y1L q t k c).1 (y1L q t k c).2.1 l cs vs z = true := by
 have hr := YG hp
 have h24 := v7 hr.cells
 have hm := fun x : y7 => y4g hp hk hc hno (x := x)
 have hv : je vs l = true := by
  unfold yo at hp
  simp only [Bool.and_eq_true] at hp
  exact hp.2.2.2.2.2.1
 have hne : ∀ d : y7, Y1 d k = false → d = k → False := fun d h e => by
  rw [e, zw.2 ⟨rfl, rfl⟩] at h
  cases h
 refine ycq (y5A hp hk hc) hr.ages hr.cells hr.next hr.late hv (ygP (y2y hp hk hc) (by have := wZ (y5A hp hk hc); omega) (by omega) (fun x hx => ?_) (fun x hx hd => ?_) (fun x hx d hd h1 h2 he => ?_) fun j j0 j1 hj => ?_)
 ·rcases (hm x).1 hx with rfl | ⟨hx, _⟩
  ·exact (ydA (Qr hr.ages) hc).2.1
  ·exact y8R hr.fit hx
 ·rcases (hm x).1 hx with rfl | ⟨hx, _⟩
  ·exact (show (Z9 cs k.2.2.2.1 k.2.2.2.2).2 = true from y8S hr.fit hk hd)
  ·exact y8S hr.fit hx hd
 ·rcases (hm x).1 hx with rfl | ⟨hx, hxn⟩
  ·rcases (hm d).1 hd with rfl | ⟨hd, hdn⟩
   ·rfl
   ·exact (hne d hdn (Vl hr.fit hd hk h2 h1 he.symm)).elim
  ·rcases (hm d).1 hd with rfl | ⟨hd, hdn⟩
   ·exact (hne x hxn (Vl hr.fit hx hk h1 h2 he)).elim
   ·exact Vl hr.fit hx hd h1 h2 he
 ·obtain ⟨d, hd, d1, d2⟩ := y5t hr.fit (by have := wZ hr.tree; omega) (by omega) j0 (by omega) hj
  cases hs : Y1 d k with
  | false => exact ⟨d, (hm d).2 (.inr ⟨hd, hs⟩), d1, d2⟩
  | true =>
   have := qW (zx hr.tree).srt hd hk hs
   subst this
   exact ⟨_, (hm _).2 (.inl rfl), d1, d2⟩
theorem yj0 : y6Q (yb (y1L q t k c).2.1) l < y6Q (yb t) l := by
 have hr := YG hp
 have hm := fun x : y7 => y4g hp hk hc hno (x := x)
 have h1 := y2w (l := l) (zx hr.tree).srt hk
 have h2 := y2w (l := l) (y2y hp hk hc) ((hm (k.1, c, k.2.2)).2 (.inl rfl))
 have e : (yb (y1L q t k c).2.1).filter (fun x => !Y1 x (k.1, c, k.2.2)) = (yb t).filter fun x => !Y1 x k := by
  refine y30 (List.Pairwise.filter _ (y2y hp hk hc)) (List.Pairwise.filter _ (zx hr.tree).srt) fun x => ?_
  rw [List.mem_filter, List.mem_filter, hm x, Bool.not_eq_true', Bool.not_eq_true']
  constructor
  ·rintro ⟨rfl | h3, h4⟩
   ·rw [zw.2 ⟨rfl, rfl⟩] at h4
    cases h4
   ·exact h3
  ·rintro ⟨h3, h4⟩
   refine ⟨.inr ⟨h3, h4⟩, ?_⟩
   cases hs : Y1 x (k.1, c, k.2.2) with
   | false => rfl
   | true => exact absurd (zw.1 hs) (hno x h3)
 rw [e] at h2
 obtain ⟨g1, g2, _⟩ := ydA (Qr hr.ages) hc
 obtain ⟨a, ha, rfl⟩ := yaN g2
 have h3 := yu1 (l.map fun a : y9 => a.1) k.2.1 a.1 g1 (List.mem_map.2 ⟨a, ha, rfl⟩)
 have t1 : yct l (k.1, a.1, k.2.2) = 1 + gtN l a.1 := rfl
 have t2 : yct l k = 1 + gtN l k.2.1 := rfl
 unfold gtN at t1 t2
 unfold y6Q
 omega
end
section
variable {q : List yc} {t : List y0} {l : List y9} {cs : List y8} {vs : List ye} {z : Int} (hp : yo q t l cs vs z = true) {i : Nat} (hi : i < l.length) (hno : ∀ k ∈ yb t, k.2.1 ≠ (l.getD i yy).1) (hid : ∀ v ∈ vs, v.2.1 ≠ (l.getD i yy).1)
include hp hi
theorem yaO : YK (y3v l i (l.getD i yy).1) = true := by
 have hr := YG hp
 have hl : l.length ≤ 16 := by
  have := hr.ages
  unfold YK at this
  simp only [Bool.and_eq_true, decide_eq_true_eq] at this
  omega
 exact yiU (Qr hr.ages) hi hl
theorem yh7 {x : Int} (hx : 0 ≤ yR l x) (hne : x ≠ (l.getD i yy).1) : 0 ≤ yR (y3v l i (l.getD i yy).1) x := by
 obtain ⟨a, ha, rfl⟩ := yaN hx
 have h1 := v9 ((y5z (Qr (YG hp).ages) hi).2 ⟨a, ha, hne, rfl⟩)
 rw [Wo] at h1
 exact h1
include hid
theorem yh8 : je vs (y3v l i (l.getD i yy).1) = true := by
 have hr := YG hp
 have hL := Qr hr.ages
 have hmem : l.getD i yy ∈ l := by
  rw [yE _ _ _ hi]
  exact List.getElem_mem _
 have hv : je vs l = true := by
  unfold yo at hp
  simp only [Bool.and_eq_true] at hp
  exact hp.2.2.2.2.2.1
 unfold je at hv ⊢
 simp only [Bool.and_eq_true, Bool.not_eq_true'] at hv ⊢
 refine ⟨kw Yi vs 0 fun j hj => ?_, hv.2⟩
 have h1 := J6 Yi vs 0 hv.1 j hj
 have hvm : vs.getD j Yi ∈ vs := by
  rw [yE _ _ _ hj]
  exact List.getElem_mem _
 have ha := hr.age j hj
 have hleaf := hr.leaf j hj
 have hne := hid _ hvm
 generalize vs.getD j Yi = v at *
 have h2 := yh7 hp hi ha hne
 have h3 : (yQ (y3v l i (l.getD i yy).1) v.2.1).length = 0 := by
  have hno : ∀ x, x ∉ yQ l v.2.1 := fun x hx => by
   have := List.length_pos_of_mem hx
   omega
  refine Nat.eq_zero_of_not_pos fun hpos => ?_
  obtain ⟨x, hx⟩ := List.exists_mem_of_length_pos hpos
  obtain ⟨h0, b, hb, b1, b2⟩ := vm.1 hx
  obtain ⟨y, hy, hyn, rfl⟩ := (y5z hL hi).1 hb
  rw [y36] at b1
  by_cases e : y.2 = (l.getD i yy).1
  ·rw [if_pos e] at b1
   exact hno _ (vm.2 ⟨h0, _, hmem, b1, rfl⟩)
  ·rw [if_neg e] at b1
   exact hno _ (vm.2 ⟨h0, y, hy, b1, rfl⟩)
 unfold yeu at h1 ⊢
 simp only [Bool.or_eq_false_iff, decide_eq_false_iff_not] at h1 ⊢
 exact ⟨h1.1, h1.2.1, by omega, by omega, h1.2.2.2.2⟩
include hno
theorem yh9 : yo q t (y3v l i (l.getD i yy).1) cs vs z = true := by
 have hr := YG hp
 have hL := Qr hr.ages
 have h24 := v7 hr.cells
 refine ycq hr.tree (yaO hp hi) hr.cells hr.next (fun a ha => ?_) (yh8 hp hi hid) (ygP (zx hr.tree).srt (by have := wZ hr.tree; omega) (by omega) (fun c hc => yh7 hp hi (y8R hr.fit hc) (hno c hc)) (fun c hc hd => y8S hr.fit hc hd) (fun c hc d hd h1 h2 he => Vl hr.fit hc hd h1 h2 he) fun j j0 j1 hj => y5t hr.fit (by have := wZ hr.tree; omega) (by omega) j0 j1 hj)
 obtain ⟨y, hy, _, rfl⟩ := (y5z hL hi).1 ha
 rw [Wo]
 exact hr.late y hy
theorem ydG {v : ye} (hv : v ∈ vs) (b : Int) : y2v (yb t) (y3v l i (l.getD i yy).1) b v.2.1 = y2v (yb t) l b v.2.1 :=
 yno (zx (YG hp).tree).srt (Qr (YG hp).ages) hi (Qr (yaO hp hi)) hno (hid v hv) b
omit hp hno hid in
theorem yj1 : y6Q (yb t) (y3v l i (l.getD i yy).1) < y6Q (yb t) l := by
 have h1 := ykl (l := l) (l' := y3v l i (l.getD i yy).1) (fun x => (List.Sublist.filter _ (ygY _)).length_le) (yb t)
 have h2 := ycs hi
 unfold y6Q
 omega
end
end Go.Proofs.YtjllpipmaejeoaaGreat.Pl
namespace Go.Proofs.YtjllpipmaejeoaaGreat.Pl
open Go.Proofs.YtjllpipmaejeoaaGreat.R Go.Proofs.YtjllpipmaejeoaaGreat.XW
structure CalmP (q : List yc) (t : List y0) (l : List y9) (vs : List ye) : Prop where
 seen : ∀ k ∈ yb t, zg q t l vs 1 k = false
 gone : ∀ k ∈ yb t, zg q t l vs 2 k = false
 move : ∀ k ∈ yb t, zg q t l vs 3 k = false
 age : ∀ a ∈ l, yce (yb t) l vs a = false
structure Stepped (q : List yc) (t : List y0) (l : List y9) (cs : List y8) (vs : List ye) (z : Int) (r : PO) (nK nA : Nat) : Prop where
 ok : y0x r = true
 vsE : r.2.2.2.2.1 = vs
 dat : ∀ v ∈ vs, ∀ b, 0 ≤ b → b < v.2.2.1 → y2v (yb r.2.1) r.2.2.1 b v.2.1 = y2v (yb t) l b v.2.1
 val : ∀ v ∈ vs, ∀ b, 0 ≤ b → b < v.2.2.1 → y6H (yb r.2.1) r.2.2.1 r.2.2.2.1 b v.2.1 = y6H (yb t) l cs b v.2.1
 used : Qv r.2.2.2.1 ≤ Qv cs
 keys : (yb r.2.1).length + nK = (yb t).length
 ages : r.2.2.1.length + nA = l.length
 mea : y6Q (yb r.2.1) r.2.2.1 < y6Q (yb t) l
section
variable {q : List yc} {t : List y0} {l : List y9} {cs : List y8} {vs : List ye} {z : Int} (hp : yo q t l cs vs z = true)
include hp
theorem yha : ∃ step i, y12 q t l cs vs z = some (step, i) ∧ ((step = 0 ∧ i = 0 ∧ CalmP q t l vs) ∨ ((step = 1 ∨ step = 2 ∨ step = 3) ∧ Yk t i ∈ yb t ∧ zg q t l vs step (Yk t i) = true) ∨ (step = 4 ∧ ∃ j : Nat, i = j ∧ j < l.length ∧ yce (yb t) l vs (l.getD j yy) = true)) := by
 have hfind : ∀ s, ¬ zF (zg q t l vs s) (yb t) 0 < 0 → Yk t (zF (zg q t l vs s) (yb t) 0) ∈ yb t ∧ zg q t l vs s (Yk t (zF (zg q t l vs s) (yb t) 0)) = true := fun s h0 => by
  rcases Yc (zg q t l vs s) yF (yb t) 0 (Int.le_refl _) with h | ⟨h1, h2, h3⟩
  ·omega
  ·rw [Int.sub_zero] at h3
   refine ⟨?_, h3⟩
   unfold Yk
   exact yX yF (yb t) _ h1 (by omega)
 have hnone : ∀ s, zF (zg q t l vs s) (yb t) 0 < 0 → ∀ k ∈ yb t, zg q t l vs s k = false := fun s h0 => Wn (yb t) 0 (Int.le_refl _) h0
 unfold y12
 rw [if_pos hp]
 simp only [y91, y3x]
 by_cases h1 : zF (zg q t l vs 1) (yb t) 0 < 0
 ·simp only [if_pos h1]
  by_cases h2 : zF (zg q t l vs 2) (yb t) 0 < 0
  ·simp only [if_pos h2]
   by_cases h3 : zF (zg q t l vs 3) (yb t) 0 < 0
   ·simp only [if_pos h3]
    unfold qY
    by_cases h4 : zF (yce (yb t) l vs) l 0 < 0
    ·rw [if_pos h4]
     exact ⟨0, 0, rfl, .inl ⟨rfl, rfl, hnone 1 h1, hnone 2 h2, hnone 3 h3, Wn l 0 (Int.le_refl _) h4⟩⟩
    ·rw [if_neg h4]
     refine ⟨4, _, rfl, .inr (.inr ⟨rfl, (zF (yce (yb t) l vs) l 0).toNat, by omega, ?_⟩)⟩
     rcases Yc (yce (yb t) l vs) yy l 0 (Int.le_refl _) with h | ⟨h5, h6, h7⟩
     ·omega
     ·rw [Int.sub_zero] at h7
      exact ⟨by omega, h7⟩
   ·simp only [if_neg h3]
    exact ⟨3, _, rfl, .inr (.inl ⟨.inr (.inr rfl), hfind 3 h3⟩)⟩
  ·simp only [if_neg h2]
   exact ⟨2, _, rfl, .inr (.inl ⟨.inr (.inl rfl), hfind 2 h2⟩)⟩
 ·simp only [if_neg h1]
  exact ⟨1, _, rfl, .inr (.inl ⟨.inl rfl, hfind 1 h1⟩)⟩
omit hp in
theorem y2z {step i : Int} (hn : y12 q t l cs vs z = some (step, i)) (h0 : step ≠ 0) {r : PO} (ht : Yb q t l cs vs z step i = (r, true)) (hr : y0x r = true) : wM q t l cs vs z = (r, true) := by
 unfold wM
 rw [hn]
 simp only
 rw [if_neg h0, ht]
 unfold yaY
 rw [if_pos]
 simp only [Bool.and_eq_true]
 exact ⟨trivial, hr⟩
omit hp in
theorem yeL {i : Int} (hn : y12 q t l cs vs z = some (0, i)) : wM q t l cs vs z = ((q, t, l, cs, vs, z), false) := by
 unfold wM
 rw [hn]
 exact if_pos rfl
theorem ydH {k : y7} (hk : k ∈ yb t) (hd : ∀ v ∈ vs, ∀ b, 0 ≤ b → b < v.2.2.1 → y2v (yb (yl q t (jg k)).2.1) l b v.2.1 = y2v (yb t) l b v.2.1) : Stepped q t l cs vs z ((yl q t (jg k)).1, (yl q t (jg k)).2.1, l, jy q t cs k, vs, z) 1 0 :=
 ⟨yiY hp hk, rfl, hd, fun v hv b b0 b1 => ynp hp hk (hd v hv b b0 b1), yh4 hp hk, ycu hp hk, rfl, ynq hp hk⟩
theorem yeM : ∃ step i, y12 q t l cs vs z = some (step, i) ∧ ((step = 0 ∧ i = 0 ∧ wM q t l cs vs z = ((q, t, l, cs, vs, z), false) ∧ CalmP q t l vs) ∨ ∃ r nK nA, wM q t l cs vs z = (r, true) ∧ Stepped q t l cs vs z r nK nA ∧ ((step = 1 ∨ step = 2) ∧ nK = 1 ∧ nA = 0 ∨ step = 3 ∧ nK = 0 ∧ nA = 0 ∨ step = 4 ∧ nK = 0 ∧ nA = 1)) := by
 have hr := YG hp
 have hS := (zx hr.tree).srt
 have hL := Qr hr.ages
 obtain ⟨step, i, hn, h⟩ := yha hp
 refine ⟨step, i, hn, ?_⟩
 rcases h with ⟨rfl, rfl, hc⟩ | ⟨hs, hk, hb⟩ | ⟨rfl, j, rfl, hj, hb⟩
 ·exact .inl ⟨rfl, rfl, yeL hn, hc⟩
 ·refine .inr ?_
  generalize hkk : Yk t i = k at *
  have hm := fun x : y7 => Vn hp hk (x := x)
  have htry : step = 1 ∨ step = 2 → Yb q t l cs vs z step i = (((yl q t (jg k)).1, (yl q t (jg k)).2.1, l, jy q t cs k, vs, z), true) := fun h12 => by
   unfold Yb
   rw [if_pos h12, hkk, y8V hp hk]
  rcases hs with rfl | rfl | rfl
  ·have hst := ydH hp hk fun v hv b b0 b1 => ygZ hS (y1K hp hk) hk hm fun he => by
    unfold zg at hb
    rw [if_pos rfl, Bool.not_eq_true'] at hb
    have hbk : k.1 = b := by
     rcases wg (yb t) b (yO l v.2.1) with ⟨h1, _⟩ | ⟨d, hd, db, _, h1, _⟩
     ·rw [h1] at he
      cases he
     ·rw [h1] at he
      injection he with _ he
      rw [← he]
      exact db
    rw [(Q5 hS hk).2 ⟨v, hv, by omega, by rw [hbk]; exact he⟩] at hb
    cases hb
   exact ⟨_, 1, 0, y2z hn (by decide) (htry (.inl rfl)) hst.ok, hst, .inl ⟨.inl rfl, rfl, rfl⟩⟩
  ·have hb' : k.2.2.1 = 2 ∧ (y3s t l k.1 k.2.1).1 = false := by
    unfold zg at hb
    rw [if_neg (by decide), if_pos rfl, Bool.and_eq_true, beq_iff_eq, Bool.not_eq_true'] at hb
    exact hb
   have hab : ∀ c ∈ yb t, c.1 = k.1 → c.2.1 ∉ (yO l k.2.1).drop 1 := fun c hc hcb hcp => by
    have h2 := hb'.2
    unfold y3s at h2
    rcases wg (yb t) k.1 ((yO l k.2.1).drop 1) with ⟨h3, h4⟩ | ⟨d, _, _, _, h3, _⟩
    ·exact h4 c hc hcb hcp
    ·rw [h3] at h2
     cases h2
   have hst := ydH hp hk fun v hv b b0 b1 => yiW hS (y1K hp hk) hk hm hL (by omega) hab b v.2.1
   exact ⟨_, 1, 0, y2z hn (by decide) (htry (.inr rfl)) hst.ok, hst, .inl ⟨.inr rfl, rfl, rfl⟩⟩
  ·have hb' : y3w l vs k.2.1 = true ∧ (YT q t k.1 ((yQ l k.2.1).getD 0 0)).2.2.2.2.2 = false := by
    unfold zg at hb
    rw [if_neg (by decide), if_neg (by decide), Bool.and_eq_true, Bool.not_eq_true'] at hb
    exact hb
   obtain ⟨h1, h2⟩ := yh0.1 hb'.1
   obtain ⟨hc, hone⟩ := yh1 h2
   generalize hcc : (yQ l k.2.1).getD 0 0 = c at *
   have hok := KK.1 (yh5 hp hk hc)
   have hno : ∀ d ∈ yb t, ¬ (d.1 = k.1 ∧ d.2.1 = c) := (y1G hr.tree hok.1 hok.2.1).2 hb'.2
   have hd : ∀ v ∈ vs, ∀ b, y2v (yb (y1L q t k c).2.1) l b v.2.1 = y2v (yb t) l b v.2.1 := fun v hv b => yiX hS (y2y hp hk hc) hk (fun x => y4g hp hk hc hno) hL hc hone hno (fun e => y8U.1 h1 v hv e) b
   have hst : Stepped q t l cs vs z ((y1L q t k c).1, (y1L q t k c).2.1, l, cs, vs, z) 0 0 :=
    ⟨yh6 hp hk hc hno, rfl, fun v hv b _ _ => hd v hv b, fun v hv b _ _ => by rw [y37, y37, hd v hv b], Int.le_refl _, yiZ hp hk hc hno, rfl, yj0 hp hk hc hno⟩
   refine ⟨_, 0, 0, y2z hn (by decide) ?_ hst.ok, hst, .inr (.inl ⟨rfl, rfl, rfl⟩)⟩
   have hput := y8W hp hk hc
   unfold y1L at hput ⊢
   unfold Yb
   rw [if_neg (by decide), if_pos rfl, hkk, hcc, y8V hp hk, hput]
   rfl
 ·refine .inr ?_
  have hmem : l.getD j yy ∈ l := by
   rw [yE _ _ _ hj]
   exact List.getElem_mem _
  obtain ⟨a1, a2⟩ := wN (v9 hmem)
  have a0 := v9 hmem
  have hg := ygV hL hmem
  have hb' : Yq (y3R (l.getD j yy).1) (yb t) 0 = false ∧ v5 vs (l.getD j yy).1 = true := by
   unfold yce at hb
   rw [Bool.and_eq_true, Bool.and_eq_true, Bool.not_eq_true'] at hb
   exact ⟨hb.1, hb.2.1⟩
  have hno : ∀ k ∈ yb t, k.2.1 ≠ (l.getD j yy).1 := fun k hk he => by
   obtain ⟨m, hm⟩ := J2 _ _ 0 hb'.1 k hk
   unfold y3R at hm
   rw [he] at hm
   simp at hm
  have hid := y8U.1 hb'.2
  have htry : Yb q t l cs vs z 4 (j : Int) = ((q, t, y3v l (yR l (l.getD j yy).1).toNat (l.getD j yy).1, cs, vs, z), true) := by
   unfold Yb y0w
   rw [if_neg (by decide), if_neg (by decide), Int.toNat_natCast, if_neg (by omega), if_pos hr.ages]
  have hm : (yR l (l.getD j yy).1).toNat < l.length := by omega
  generalize (yR l (l.getD j yy).1).toNat = m at *
  rw [← hg] at hno hid htry
  have hst : Stepped q t l cs vs z (q, t, y3v l m (l.getD m yy).1, cs, vs, z) 0 1 :=
   ⟨yh9 hp hm hno hid, rfl, fun v hv b _ _ => ydG hp hm hno hid hv b, fun v hv b _ _ => by rw [y37, y37, ydG hp hm hno hid hv b], Int.le_refl _, rfl, ycs hm, yj1 hm⟩
  exact ⟨_, 0, 1, y2z hn (by decide) htry hst.ok, hst, .inr (.inr ⟨rfl, rfl, rfl⟩)⟩
end
end Go.Proofs.YtjllpipmaejeoaaGreat.Pl
namespace Go.Proofs.YtjllpipmaejeoaaGreat.Pl
open Go.Proofs.YtjllpipmaejeoaaGreat.R Go.Proofs.YtjllpipmaejeoaaGreat.XW
noncomputable def prP (p : PO) : PO × Bool := wM p.1 p.2.1 p.2.2.1 p.2.2.2.1 p.2.2.2.2.1 p.2.2.2.2.2
noncomputable def ycv : Nat → Int → PO → Int
 | 0, _, _ => 1000
 | m + 1, i, p => if (prP p).2 = true then ycv m (i + 1) (prP p).1 else i
noncomputable def ycw : Nat → PO → PO
 | 0, p => p
 | m + 1, p => if (prP p).2 = true then ycw m (prP p).1 else p
def SPp (p : PO) : Prop := SP p.1 p.2.1 p.2.2.1 p.2.2.2.1 p.2.2.2.2.1
theorem ykm {p : PO} (h : SPp p) : SPp (prP p).1 := yiJ p.2.2.2.2.2 h
theorem ydI {p : PO} (h : SPp p) : Yg p = some (y2t (prP p)) := y33 p.2.2.2.2.2 h
def yu3 (p : PO) (n : Int) : List yc × List y0 × List y9 × List y8 × List ye × Int × Int := (p.1, p.2.1, p.2.2.1, p.2.2.2.1, p.2.2.2.2.1, p.2.2.2.2.2, n)
theorem y2A (p : PO) (h : SPp p) : Wj p = some (yu3 (ycw 1000 p) (ycv 1000 0 p)) := by
 obtain ⟨q, t, l, cs, vs, z⟩ := p
 unfold Wj y1f
 simp only [Qp q t l cs vs z h.S, Option.bind_some]
 have stp : ∀ (n : Nat) (p : PO), SPp p → n ≤ 1000 → ycw (1000 - n) p = (if n < 1000 ∧ (prP p).2 = true then ycw (1000 - (n + 1)) (prP p).1 else p) ∧ ycv (1000 - n) n p = (if n < 1000 then (if (prP p).2 = true then ycv (1000 - (n + 1)) ((n + 1 : Nat) : Int) (prP p).1 else (n : Int)) else 1000) := by
  intro n p hp hn
  by_cases hlt : n < 1000
  ·rw [show 1000 - n = (1000 - (n + 1)) + 1 by omega, ycw, ycv, if_pos hlt]
   by_cases hy : (prP p).2 = true
   ·rw [if_pos hy, if_pos hy, if_pos ⟨hlt, hy⟩, if_pos hy]
    exact ⟨rfl, by rw [show ((n + 1 : Nat) : Int) = (n : Int) + 1 by omega]⟩
   ·rw [if_neg hy, if_neg hy, if_neg (fun hh => hy hh.2), if_neg hy]
    exact ⟨rfl, rfl⟩
  ·rw [show 1000 - n = 0 by omega, if_neg hlt, if_neg (fun hh => hlt hh.1)]
   exact ⟨rfl, rfl⟩
 refine (jc (step := wK _ _ _) (fun u : Km => match u with | .inl _ => 1001 | .inr u => 1000 - u.1.toNat)
  (fun u => u = Sum.inl (0, 0, z, q, t, l, cs, vs) ∨ ∃ (n : Nat) (b : Int) (p : PO), u = Sum.inr ((n : Int), b, p.1, p.2.1, p.2.2.1, p.2.2.2.1, p.2.2.2.2.2, p.2.2.2.2.1) ∧ SPp p ∧ n ≤ 1000 ∧ ycw (1000 - n) p = ycw 1000 (q, t, l, cs, vs, z) ∧ ycv (1000 - n) n p = ycv 1000 0 (q, t, l, cs, vs, z))
  (fun _ res => res = some (yu3 (ycw 1000 (q, t, l, cs, vs, z)) (ycv 1000 0 (q, t, l, cs, vs, z)))) ?_ (Sum.inl (0, 0, z, q, t, l, cs, vs)) (.inl rfl) (by simp only; omega))
 rintro again u (rfl | ⟨n, b, p, rfl, hp, hn, e1, e2⟩) hag
 ·obtain ⟨s1, s2⟩ := stp 0 (q, t, l, cs, vs, z) h (by omega)
  rw [show 1000 - 0 = 1000 from rfl] at s1 s2
  rw [show ((0 : Nat) : Int) = 0 from rfl] at s2
  unfold wK
  simp only [show decide ((0 : Int) < 1000) = true from rfl, cond_true, ydI (p := (q, t, l, cs, vs, z)) h, Option.bind_some, y2t]
  rw [s1, s2, if_pos (show 0 < 1000 by decide)]
  have hsp := ykm h
  cases hy : (prP (q, t, l, cs, vs, z)).2 with
  | false =>
   rw [if_neg (fun hh => Bool.noConfusion hh.2), if_neg (by decide)]
   rfl
  | true =>
   rw [if_pos ⟨by decide, rfl⟩, if_pos rfl]
   simp only [Bool.not_true, cond_false]
   rw [hy, if_pos ⟨by decide, rfl⟩] at s1
   rw [hy, if_pos (by decide), if_pos rfl] at s2
   have hw : Go.IntKind.wrap .i64 ((0 : Int) + 1) = ((1 : Nat) : Int) := w64 (by omega) (by omega)
   rw [hw, ← s1, ← s2]
   exact hag _ (.inr ⟨1, 0, (prP (q, t, l, cs, vs, z)).1, rfl, hsp, by omega, s1.symm, s2.symm⟩) (by simp only; omega)
 ·obtain ⟨s1, s2⟩ := stp n p hp hn
  rw [← e1, ← e2, s1, s2]
  unfold wK
  by_cases hlt : n < 1000
  ·rw [if_pos hlt]
   have hP : Yg (p.1, p.2.1, p.2.2.1, p.2.2.2.1, p.2.2.2.2.1, p.2.2.2.2.2) = some (y2t (prP p)) := ydI hp
   simp only [decide_eq_true (show (n : Int) < 1000 by omega), cond_true, hP, Option.bind_some, y2t]
   have hsp := ykm hp
   cases hy : (prP p).2 with
   | false =>
    rw [if_neg (fun hh => Bool.noConfusion hh.2), if_neg (by decide)]
    rfl
   | true =>
    rw [if_pos ⟨hlt, rfl⟩, if_pos rfl]
    simp only [Bool.not_true, cond_false]
    rw [hy, if_pos ⟨hlt, rfl⟩] at s1
    rw [hy, if_pos hlt, if_pos rfl] at s2
    have hw : Go.IntKind.wrap .i64 ((n : Int) + 1) = ((n + 1 : Nat) : Int) := (w64 (by omega) (by omega)).trans (by omega)
    rw [hw, ← s1, ← s2, e1, e2]
    exact hag _ (.inr ⟨n + 1, b, (prP p).1, rfl, hsp, by omega, s1.symm.trans e1, s2.symm.trans e2⟩) (by simp only; omega)
  ·simp only [decide_eq_false (show ¬ (n : Int) < 1000 by omega), cond_false]
   rw [if_neg (fun hh => hlt hh.1), if_neg hlt]
   rfl
theorem qE (p : PO) (h : SPp p) : Yh p = some (ycv 1000 0 p) := by
 unfold Yh
 rw [y2A p h]
 rfl
theorem y3V (p : PO) (h : SPp p) : JF p = some (ycw 1000 p) := by
 unfold JF
 rw [y2A p h]
 rfl
structure PK (p p' : PO) : Prop where
 ok : y0x p' = true
 vsE : p'.2.2.2.2.1 = p.2.2.2.2.1
 dat : ∀ v ∈ p.2.2.2.2.1, ∀ b, 0 ≤ b → b < v.2.2.1 → y2v (yb p'.2.1) p'.2.2.1 b v.2.1 = y2v (yb p.2.1) p.2.2.1 b v.2.1
 val : ∀ v ∈ p.2.2.2.2.1, ∀ b, 0 ≤ b → b < v.2.2.1 → y6H (yb p'.2.1) p'.2.2.1 p'.2.2.2.1 b v.2.1 = y6H (yb p.2.1) p.2.2.1 p.2.2.2.1 b v.2.1
theorem PK.refl {p : PO} (h : y0x p = true) : PK p p := ⟨h, rfl, fun _ _ _ _ _ => rfl, fun _ _ _ _ _ => rfl⟩
theorem PK.trans {p p' p2 : PO} (h : PK p p') (h2 : PK p' p2) : PK p p2 :=
 ⟨h2.ok, h2.vsE.trans h.vsE, fun v hv b b0 b1 => (h2.dat v (by rw [h.vsE]; exact hv) b b0 b1).trans (h.dat v hv b b0 b1), fun v hv b b0 b1 => (h2.val v (by rw [h.vsE]; exact hv) b b0 b1).trans (h.val v hv b b0 b1)⟩
theorem y8X {p : PO} (hp : y0x p = true) : ((prP p).2 = false ∧ y12 p.1 p.2.1 p.2.2.1 p.2.2.2.1 p.2.2.2.2.1 p.2.2.2.2.2 = some (0, 0) ∧ CalmP p.1 p.2.1 p.2.2.1 p.2.2.2.2.1) ∨ ((prP p).2 = true ∧ PK p (prP p).1 ∧ y6Q (yb (prP p).1.2.1) (prP p).1.2.2.1 < y6Q (yb p.2.1) p.2.2.1) := by
 have hp' : yo p.1 p.2.1 p.2.2.1 p.2.2.2.1 p.2.2.2.2.1 p.2.2.2.2.2 = true := hp
 obtain ⟨step, i, hn, h⟩ := yeM hp'
 unfold prP
 rcases h with ⟨rfl, rfl, hk, hc⟩ | ⟨r, nK, nA, hk, hst, _⟩
 ·rw [hk]
  exact .inl ⟨rfl, hn, hc⟩
 ·rw [hk]
  exact .inr ⟨rfl, ⟨hst.ok, hst.vsE, hst.dat, hst.val⟩, hst.mea⟩
theorem yaP : ∀ (m : Nat) (p : PO), y0x p = true → PK p (ycw m p)
 | 0, p, h => PK.refl h
 | m + 1, p, h => by
  rw [ycw]
  rcases y8X h with ⟨h1, _⟩ | ⟨h1, h2, _⟩
  ·rw [if_neg (by rw [h1]; decide)]
   exact PK.refl h
  ·rw [if_pos h1]
   exact h2.trans (yaP m _ h2.ok)
theorem ydJ : ∀ (m : Nat) (p : PO), y0x p = true → y6Q (yb p.2.1) p.2.2.1 < m → (prP (ycw m p)).2 = false ∧ ∀ i, ycv m i p ≤ i + (y6Q (yb p.2.1) p.2.2.1 : Nat)
 | 0, p, h, hm => by omega
 | m + 1, p, h, hm => by
  rcases y8X h with ⟨h1, _⟩ | ⟨h1, h2, h3⟩
  ·refine ⟨?_, fun i => ?_⟩
   ·rw [ycw, if_neg (by rw [h1]; decide)]
    exact h1
   ·rw [ycv, if_neg (by rw [h1]; decide)]
    omega
  ·obtain ⟨g1, g2⟩ := ydJ m _ h2.ok (by omega)
   refine ⟨?_, fun i => ?_⟩
   ·rw [ycw, if_pos h1]
    exact g1
   ·rw [ycv, if_pos h1]
    have := g2 (i + 1)
    omega
theorem yj2 {p : PO} (h : (prP p).2 = false) : ycv 1000 0 p = 0 := by
 rw [show (1000 : Nat) = 999 + 1 from rfl, ycv, if_neg (by rw [h]; decide)]
theorem ykn : ∀ (L : List Int) (x : Int), x ∈ L → (L.filter fun y => decide (x < y)).length < L.length
 | [], _, h => by cases h
 | y :: L, x, h => by
  have hle : (L.filter fun y => decide (x < y)).length ≤ L.length := List.length_filter_le _ _
  rcases List.mem_cons.1 h with rfl | h
  ·rw [List.filter_cons_of_neg (by simp), List.length_cons]
   omega
  ·have := ykn L x h
   by_cases h1 : x < y
   ·rw [List.filter_cons_of_pos (by simpa using h1), List.length_cons, List.length_cons]
    omega
   ·rw [List.filter_cons_of_neg (by simpa using h1), List.length_cons]
    omega
theorem yaQ {l : List y9} : ∀ K : List y7, (∀ k ∈ K, 0 ≤ yR l k.2.1) → ydD l K ≤ K.length * l.length
 | [], _ => by simp [ydD]
 | k :: K, h => by
  have h1 := yaQ K fun x hx => h x (by simp [hx])
  obtain ⟨a, ha, he⟩ := yaN (h k (by simp))
  have h2 := ykn (l.map fun a : y9 => a.1) k.2.1 (List.mem_map.2 ⟨a, ha, he⟩)
  rw [List.length_map] at h2
  rw [ydD, List.length_cons, Nat.succ_mul]
  unfold yct gtN
  omega
theorem yhb {q : List yc} {t : List y0} {l : List y9} {cs : List y8} {vs : List ye} {z : Int} (hp : yo q t l cs vs z = true) : y6Q (yb t) l < 1000 ∧ y6Q (yb t) l ≤ (yb t).length * (l.length + 1) + l.length ∧ (yb t).length ≤ 60 ∧ l.length ≤ 16 := by
 have hr := YG hp
 have hf := wZ hr.tree
 have hl : l.length ≤ 16 := by
  have := hr.ages
  unfold YK at this
  simp only [Bool.and_eq_true, decide_eq_true_eq] at this
  omega
 have h1 := yaQ (yb t) fun k hk => y8R hr.fit hk
 have h2 : (yb t).length * l.length ≤ 60 * 16 := Nat.mul_le_mul hf hl
 unfold y6Q
 rw [Nat.mul_succ]
 exact ⟨by omega, by omega, hf, hl⟩
def y3E (t : List y0) (l : List y9) (vs : List ye) (k : y7) : Bool := (k.2.2.1 == 1) && K9 t l vs k
theorem y8Y (t : List y0) (l : List y9) (vs : List ye) : ∀ (K : List y7) (s : Int), 0 ≤ s → s + K.length ≤ 1048576 → K.foldl (y1D t l vs) s = s + (K.filter (y3E t l vs)).length
 | [], s, _, _ => by simp
 | k :: K, s, h0, h1 => by
  simp only [List.length_cons] at h1
  rw [List.foldl_cons]
  unfold y1D
  by_cases hk : k.2.2.1 = 1 ∧ K9 t l vs k = true
  ·rw [if_pos hk, w64 (by omega) (by omega), List.filter_cons_of_pos (by unfold y3E; rw [hk.2, hk.1]; rfl)]
   have := y8Y t l vs K (s + 1) (by omega) (by omega)
   unfold y1D at this
   rw [this, List.length_cons]
   omega
  ·rw [if_neg hk, List.filter_cons_of_neg (by
    unfold y3E
    rw [Bool.and_eq_true, beq_iff_eq]
    exact hk)]
   have := y8Y t l vs K s h0 (by omega)
   unfold y1D at this
   exact this
def ycx (t : List y0) (l : List y9) (vs : List ye) : List Int := ((yb t).filter (y3E t l vs)).map fun k : y7 => k.2.2.2.1
section
variable {q : List yc} {t : List y0} {l : List y9} {cs : List y8} {vs : List ye} {z : Int} (hp : yo q t l cs vs z = true)
include hp
theorem ycy : vj t l vs = (ycx t l vs).length := by
 have := wZ (YG hp).tree
 unfold vj ycx
 rw [y8Y t l vs _ 0 (Int.le_refl _) (by omega), List.length_map]
 omega
theorem y6R : (ycx t l vs).Nodup := by
 have hr := YG hp
 have hS := (zx hr.tree).srt
 unfold ycx List.Nodup
 rw [List.pairwise_map, List.pairwise_filter, List.pairwise_iff_getElem]
 intro i j hi hj hij h1 h2 he
 unfold y3E at h1 h2
 rw [Bool.and_eq_true, beq_iff_eq] at h1 h2
 exact ygO hS hi hj hij (Vl hr.fit (List.getElem_mem _) (List.getElem_mem _) h1.1 h2.1 he)
theorem y4h {x : Int} : x ∈ ycx t l vs ↔ ∃ v ∈ vs, ∃ b g, 0 ≤ b ∧ b < v.2.2.1 ∧ y2v (yb t) l b v.2.1 = some (x, g) := by
 have hr := YG hp
 have hS := (zx hr.tree).srt
 unfold ycx
 rw [List.mem_map]
 constructor
 ·rintro ⟨k, hk, rfl⟩
  obtain ⟨hk, hs⟩ := List.mem_filter.1 hk
  unfold y3E at hs
  rw [Bool.and_eq_true, beq_iff_eq] at hs
  obtain ⟨v, hv, h1, h2⟩ := (Q5 hS hk).1 hs.2
  refine ⟨v, hv, k.1, k.2.2.2.2, (KK.1 (y0X hr.tree hk)).1.1, h1, ?_⟩
  rw [qa h2, if_pos hs.1]
 ·rintro ⟨v, hv, b, g, b0, b1, hd⟩
  obtain ⟨d, hd, d1, d2, d3, d4, d5⟩ := ydB hd
  injection d2 with d2 _
  refine ⟨d, List.mem_filter.2 ⟨hd, ?_⟩, d2.symm⟩
  unfold y3E
  rw [Bool.and_eq_true, beq_iff_eq]
  exact ⟨d1, (Q5 hS hd).2 ⟨v, hv, by omega, by rw [d3]; exact d5⟩⟩
end
theorem yhc {p p' : PO} (hp : y0x p = true) (h : PK p p') : vj p'.2.1 p'.2.2.1 p'.2.2.2.2.1 = vj p.2.1 p.2.2.1 p.2.2.2.2.1 := by
 have hp1 : yo p.1 p.2.1 p.2.2.1 p.2.2.2.1 p.2.2.2.2.1 p.2.2.2.2.2 = true := hp
 have hp2 : yo p'.1 p'.2.1 p'.2.2.1 p'.2.2.2.1 p'.2.2.2.2.1 p'.2.2.2.2.2 = true := h.ok
 rw [ycy hp1, ycy hp2]
 congr 1
 refine Nat.le_antisymm (wO _ _ (y6R hp2) fun x hx => ?_) (wO _ _ (y6R hp1) fun x hx => ?_)
 ·obtain ⟨v, hv, b, g, b0, b1, hd⟩ := (y4h hp2).1 hx
  rw [h.vsE] at hv
  exact (y4h hp1).2 ⟨v, hv, b, g, b0, b1, by rw [← h.dat v hv b b0 b1]; exact hd⟩
 ·obtain ⟨v, hv, b, g, b0, b1, hd⟩ := (y4h hp1).1 hx
  exact (y4h hp2).2 ⟨v, by rw [h.vsE]; exact hv, b, g, b0, b1, by rw [h.dat v hv b b0 b1]; exact hd⟩
section
variable {q : List yc} {t : List y0} {l : List y9} {cs : List y8} {vs : List ye} {z : Int} (hp : yo q t l cs vs z = true) (hc : CalmP q t l vs)
include hp hc
theorem y5B {k : y7} (hk : k ∈ yb t) : K9 t l vs k = true := by
 have := hc.seen k hk
 unfold zg at this
 rw [if_pos rfl, Bool.not_eq_false'] at this
 exact this
theorem ydK {k : y7} (hk : k ∈ yb t) (hid : v5 vs k.2.1 = true) : ¬ (yQ l k.2.1).length < 2 := fun hlt => by
 have hr := YG hp
 have hL := Qr hr.ages
 have hS := (zx hr.tree).srt
 obtain ⟨v, hv, h1, h2⟩ := (Q5 hS hk).1 (y5B hp hc hk)
 have hne := y8U.1 hid v hv
 rcases wg (yb t) k.1 (yO l v.2.1) with ⟨h3, _⟩ | ⟨d, hd, db, dp, h3, h4⟩
 ·rw [h3] at h2
  cases h2
 ·rw [h3] at h2
  injection h2 with _ h2
  subst h2
  obtain ⟨a, ha, a1, a2, a3⟩ := ydz hL v.2.1 dp fun e => hne e.symm
  have h0 : d.2.1 ≠ 0 := by
   have := (KK.1 (y0X hr.tree hk)).2.1
   omega
  have hpos := yaE h0 ha a1
  have hone : (yQ l d.2.1).length = 1 := by omega
  obtain ⟨c1, c2⟩ := yh1 hone
  have hca := c2 a.1 (vm.2 ⟨h0, a, ha, a1, rfl⟩)
  have hm := hc.move d hk
  unfold zg at hm
  rw [if_neg (by decide), if_neg (by decide), yh0.2 ⟨hid, hone⟩, Bool.true_and, Bool.not_eq_false', ← hca] at hm
  have hk1 := (KK.1 (y0X hr.tree hk)).1
  obtain ⟨e, he, e1, e2, _⟩ := (y1G hr.tree hk1 (y0D hL ha)).1 hm
  have := h4 e he e1 (by rw [e2]; exact a2)
  obtain ⟨g1, _⟩ := ydA hL (vm.2 ⟨h0, a, ha, a1, rfl⟩ : a.1 ∈ yQ l d.2.1)
  omega
theorem yj3 {a : y9} (ha : a ∈ l) (hid : v5 vs a.1 = true) : ¬ (yQ l a.1).length < 2 := fun hlt => by
 have h1 := hc.age a ha
 unfold yce at h1
 rw [hid, Bool.true_and, decide_eq_true (show ((yQ l a.1).length : Int) ≤ 1 by omega), Bool.and_true, Bool.not_eq_false'] at h1
 have hex : ∃ k ∈ yb t, k.2.1 = a.1 := Classical.byContradiction fun hn => by
  rw [Q1 (fun _ _ _ => rfl) (fun k hk => by
   unfold y3R
   exact beq_eq_false_iff_ne.2 fun e => hn ⟨k, hk, e⟩) 0] at h1
  cases h1
 obtain ⟨k, hk, e⟩ := hex
 exact ydK hp hc hk (by rw [e]; exact hid) (by rw [e]; exact hlt)
theorem yhd : Qv cs = vj t l vs := by
 have hr := YG hp
 have hf := wZ hr.tree
 rw [ycy hp, ygQ hr.fit (by omega)]
 unfold we ycx
 rw [List.length_map, List.length_map]
 congr 2
 refine List.filter_congr fun k hk => ?_
 unfold y1H y3E
 rw [y5B hp hc hk, Bool.and_true]
end
end Go.Proofs.YtjllpipmaejeoaaGreat.Pl
namespace Go.Proofs.YtjllpipmaejeoaaGreat.Pl
open Go.Proofs.YtjllpipmaejeoaaGreat.R Go.Proofs.YtjllpipmaejeoaaGreat.XW
def yhe (K : List y7) (l : List y9) (cs : List y8) (v : ye) : List yc := (List.range v.2.2.1.toNat).map fun b : Nat => y6H K l cs b v.2.1
def y38 (K : List y7) (l : List y9) (cs : List y8) (vs : List ye) : List vw := vs.map fun v : ye => (v.1, v.2.2.2, yhe K l cs v)
theorem yhf {K K' : List y7} {l l' : List y9} {cs cs' : List y8} {v : ye} (h : ∀ b, 0 ≤ b → b < v.2.2.1 → y6H K' l' cs' b v.2.1 = y6H K l cs b v.2.1) : yhe K' l' cs' v = yhe K l cs v := by
 unfold yhe
 refine List.map_congr_left fun b hb => ?_
 have := List.mem_range.1 hb
 exact h b (by omega) (by omega)
theorem yhg {K K' : List y7} {l l' : List y9} {cs cs' : List y8} {vs : List ye} (h : ∀ v ∈ vs, ∀ b, 0 ≤ b → b < v.2.2.1 → y6H K' l' cs' b v.2.1 = y6H K l cs b v.2.1) : y38 K' l' cs' vs = y38 K l cs vs := by
 unfold y38
 refine List.map_congr_left fun v hv => ?_
 rw [yhf (h v hv)]
section
variable {q : List yc} {t : List y0} {l : List y9} {cs : List y8} {vs : List ye} (z : Int) (h : SP q t l cs vs)
include h
theorem yeN {R : Type} (k n : Int) (k0 : 0 ≤ k) (k1 : k < (vs.length : Int)) (hr : 1 ≤ (yi vs k).2.2.1 ∧ (yi vs k).2.2.1 ≤ 12) (out : List vw) (v1 w1 : ByteArray) (v2 v3 : Int) (v4 w4 : Bool) (hv3 : v3 = (yi vs k).2.2.1) (c0 : _ → Option R) (c1 : _ → Option R) :
  V1 c0 c1 (Sum.inl (k, 0, vs, n, k, q, t, l, cs, vs, z, v1, v2, v3, v4, w1, w4, out)) = c1 (vs, n, k, q, t, l, cs, vs, z, w1, w4, out, yhe (yb t) l cs (yi vs k)) := by
 subst hv3
 unfold V1
 have hblk : ∀ b : Int, 0 ≤ b → b < (yi vs k).2.2.1 → ZI (q, t, l, cs, vs, z, k, b) = some (y6H (yb t) l cs b (yi vs k).2.1) := fun b b0 b1 => y3T z h k b k0 k1 hr (zt.2 ⟨b0, by rw [w64 (n := (yi vs k).2.2.1 - 1) (by omega) (by omega)]; omega⟩)
 refine jc (step := Jv c0 c1) (fun u : k7 => match u with | .inl _ => 20 | .inr u => (13 - u.2.1).toNat) (fun u => u = Sum.inl (k, 0, vs, n, k, q, t, l, cs, vs, z, v1, v2, (yi vs k).2.2.1, v4, w1, w4, out) ∨ ∃ b : Nat, u = Sum.inr (k, (b : Int), vs, n, k, q, t, l, cs, vs, z, v1, v2, (yi vs k).2.2.1, v4, w1, w4, out, (List.range b).map fun b : Nat => y6H (yb t) l cs b (yi vs k).2.1) ∧ 1 ≤ b ∧ (b : Int) ≤ (yi vs k).2.2.1) (fun _ res => res = c1 (vs, n, k, q, t, l, cs, vs, z, w1, w4, out, yhe (yb t) l cs (yi vs k))) ?_ _ (.inl rfl) (by simp only; omega)
 rintro again _ (rfl | ⟨b, rfl, b1, b2⟩) hag
 ·unfold Jv
  simp only [decide_eq_true (show (0 : Int) < (yi vs k).2.2.1 by omega), cond_true, Option.bind_some, hblk 0 (Int.le_refl _) (by omega), show decide ((0 : Int) < 12) = true from rfl]
  rw [if_pos (by simp only [List.length_cons, List.length_nil]; decide)]
  exact hag _ (.inr ⟨1, rfl, Nat.le_refl _, hr.1⟩) (by simp only; decide)
 ·unfold Jv
  by_cases hb : (b : Int) < (yi vs k).2.2.1
  ·have hw : Go.IntKind.wrap .i64 ((b : Int) + 1) = (b : Int) + 1 := w64 (by omega) (by omega)
   simp only [decide_eq_true hb, cond_true, Option.bind_some, hblk b (by omega) hb, decide_eq_true (show (b : Int) < 12 by omega), hw]
   rw [if_pos (by simp only [List.length_map, List.length_range, List.length_cons, List.length_nil]; omega)]
   refine hag _ (.inr ⟨b + 1, ?_, by omega, by omega⟩) (by simp only; omega)
   rw [List.range_succ, List.map_append]
   simp
  ·simp only [decide_eq_false hb, cond_false, Option.bind_some]
   have : b = (yi vs k).2.2.1.toNat := by omega
   unfold yhe
   rw [this]
theorem y5Z (hr : ∀ k, 0 ≤ k → k < (vs.length : Int) → 1 ≤ (yi vs k).2.2.1 ∧ (yi vs k).2.2.1 ≤ 12) : jv (q, t, l, cs, vs, z) = some (y38 (yb t) l cs vs) := by
 have hv := h.S.2.2.2.2.2
 unfold jv y04
 refine jc (step := k9 _) (fun u : k8 => vs.length + 1 - u.2.2.1.toNat) (fun u => ∃ k : Nat, u = (vs, (vs.length : Int), (k : Int), q, t, l, cs, vs, z, (vs.take k).map fun v : ye => (v.1, v.2.2.2, yhe (yb t) l cs v)) ∧ k ≤ vs.length) (fun _ res => res = some (y38 (yb t) l cs vs)) ?_ _ ⟨0, by simp, Nat.zero_le _⟩ (by simp only; omega)
 rintro again _ ⟨k, rfl, k1⟩ hag
 unfold k9
 by_cases hk : (k : Int) < (vs.length : Int)
 ·have hw : Go.IntKind.wrap .i64 ((k : Int) + 1) = (k : Int) + 1 := w64 (by omega) (by omega)
  simp only [decide_eq_true hk, cond_true]
  rw [if_pos (by omega), if_pos hk, yeN z h (k : Int) _ (by omega) hk (hr k (by omega) hk) _ _ _ _ _ _ _ rfl]
  simp only [hw]
  rw [if_pos (by simp only [List.length_map, List.length_take, List.length_cons, List.length_nil]; omega)]
  refine hag _ ⟨k + 1, ?_, by omega⟩ (by simp only; omega)
  rw [List.take_succ_eq_append_getElem (by omega), List.map_append, ← yE Yi vs k (by omega)]
  rfl
 ·simp only [decide_eq_false hk, cond_false]
  unfold y38
  rw [List.take_of_length_le (by omega)]
theorem yhh (hp : yo q t l cs vs z = true) : jv (q, t, l, cs, vs, z) = some (y38 (yb t) l cs vs) :=
 y5Z z h fun k k0 k1 => by
  have := (YG hp).size k.toNat (by omega)
  rwa [← ytW, show ((k.toNat : Nat) : Int) = k by omega] at this
end
theorem y39 (a : List Int) (ha : a.length ≤ 1048576) : Zs (a, a) = some true := by
 unfold Zs vb
 simp only [bne_self_eq_false, cond_false]
 refine jc (step := ZN _ _) (fun u : ZM => a.length + 1 - u.2.2.2.toNat) (fun u => ∃ k : Nat, u = (a, a, (a.length : Int), (k : Int)) ∧ k ≤ a.length) (fun _ res => res = some true) ?_ _ ⟨0, rfl, Nat.zero_le _⟩ (by simp only; omega)
 rintro again _ ⟨k, rfl, k1⟩ hag
 unfold ZN
 by_cases hk : (k : Int) < (a.length : Int)
 ·have hw : Go.IntKind.wrap .i64 ((k : Int) + 1) = (k : Int) + 1 := w64 (by omega) (by omega)
  simp only [decide_eq_true hk, cond_true, bne_self_eq_false, cond_false, hw]
  rw [if_pos (by omega), if_pos hk, if_pos (by omega), if_pos hk]
  exact hag _ ⟨k + 1, rfl, by omega⟩ (by simp only; omega)
 ·simp only [decide_eq_false hk, cond_false]
theorem yaR (n : ByteArray) (f : Bool) (a : List Int) (ha : a.length ≤ 1048576) : wD (n, f, a, n, f, a) = some true := by
 unfold wD
 simp only [beq_self_eq_true, cond_true, Option.bind_some, y39 a ha]
theorem y8Z (m : List vw) (hm : m.length ≤ 1048576) (hl : ∀ x ∈ m, List.length x.2.2 ≤ 1048576) : ZZ (m, m) = some true := by
 unfold ZZ zA YO
 simp only [bne_self_eq_false, cond_false]
 have key : zR (@z5 Bool (fun x2 => some x2) (fun x3 => some true)) Yd (m, m, (m.length : Int), (0 : Int)) = some true := by
  refine jc (step := z5 _ _) (fun u : zp => m.length + 1 - u.2.2.2.toNat) (fun u => ∃ k : Nat, u = (m, m, (m.length : Int), (k : Int)) ∧ k ≤ m.length) (fun _ res => res = some true) ?_ _ ⟨0, rfl, Nat.zero_le _⟩ (by simp only; omega)
  rintro again _ ⟨k, rfl, k1⟩ hag
  unfold z5
  by_cases hk : (k : Int) < (m.length : Int)
  ·have hw : Go.IntKind.wrap .i64 ((k : Int) + 1) = (k : Int) + 1 := w64 (by omega) (by omega)
   have hx : List.length (y4M m (k : Int)).2.2 ≤ 1048576 := hl _ (yX yuK m k (by omega) hk)
   simp only [decide_eq_true hk, cond_true, hw]
   rw [if_pos (by omega), if_pos hk, if_pos (by omega), if_pos hk, yaR _ _ _ hx]
   exact hag _ ⟨k + 1, rfl, by omega⟩ (by simp only; omega)
  ·simp only [decide_eq_false hk, cond_false]
 rw [key]
 rfl
theorem yj4 (K : List y7) (l : List y9) (cs : List y8) (v : ye) : (yhe K l cs v).length = v.2.2.1.toNat := by
 unfold yhe
 rw [List.length_map, List.length_range]
theorem y90 {q : List yc} {t : List y0} {l : List y9} {cs : List y8} {vs : List ye} {z : Int} (hp : yo q t l cs vs z = true) : ZZ (y38 (yb t) l cs vs, y38 (yb t) l cs vs) = some true := by
 have hr := YG hp
 have hf := hr.few
 refine y8Z _ (by unfold y38; rw [List.length_map]; omega) fun x hx => ?_
 unfold y38 at hx
 obtain ⟨v, hv, rfl⟩ := List.mem_map.1 hx
 obtain ⟨i, hi, rfl⟩ := List.mem_iff_getElem.1 hv
 have := hr.size i hi
 rw [yE _ _ _ hi] at this
 show (yhe (yb t) l cs vs[i]).length ≤ _
 rw [yj4]
 omega
end Go.Proofs.YtjllpipmaejeoaaGreat.Pl
namespace Go.Proofs.YtjllpipmaejeoaaGreat.Pl
open Go.Proofs.YtjllpipmaejeoaaGreat.R Go.Proofs.YtjllpipmaejeoaaGreat.XW
section
variable {q q' : List yc} {t t' : List y0} {l l' : List y9} {cs cs' : List y8} {vs vs' : List ye} {z z' n : Int} (h : SP q' t' l' cs' vs')
include h
theorem yeO {R : Type} (ks : List y7) (hk : ks.length ≤ 1048576) (hs : ∀ k ∈ ks, K9 t' l' vs' k = true ∧ (v5 vs' k.2.1 = true → ¬ (yQ l' k.2.1).length < 2)) (c0 : _ → Option R) (c1 : _ → Option R) :
  Ve c0 c1 (n, 0, q, t, l, cs, vs, z, q', t', l', cs', vs', z', ks) = c1 (n, q, t, l, cs, vs, z, q', t', l', cs', vs', z') := by
 unfold Ve
 refine jc (step := kq c0 c1) (fun u : kp => ks.length + 1 - u.2.1.toNat) (fun u => ∃ i : Nat, u = (n, (i : Int), q, t, l, cs, vs, z, q', t', l', cs', vs', z', ks) ∧ i ≤ ks.length) (fun _ res => res = c1 (n, q, t, l, cs, vs, z, q', t', l', cs', vs', z')) ?_ _ ⟨0, rfl, Nat.zero_le _⟩ (by simp only; omega)
 rintro again _ ⟨i, rfl, hi⟩ hag
 unfold kq
 by_cases hj : (i : Int) < (ks.length : Int)
 ·have hw : Go.IntKind.wrap .i64 ((i : Int) + 1) = (i : Int) + 1 := w64 (by omega) (by omega)
  have hm := hs _ (yX yF ks (i : Int) (by omega) hj)
  have e1 : Yf (q', t', l', cs', vs', z', (y6 ks i).1, (y6 ks i).2.1, (y6 ks i).2.2.1, (y6 ks i).2.2.2.1, (y6 ks i).2.2.2.2) = some true := by
   rw [Ka q' t' l' cs' vs' z' _ _ _ _ _ h.tq.T h.S.2.2.2.1 h.S.2.2.2.2.2]
   exact congrArg some hm.1
  have hm2 : v5 vs' (y6 ks i).2.1 = true → ¬ (yQ l' (y6 ks i).2.1).length < 2 := hm.2
  have fin := hag (n, ((i + 1 : Nat) : Int), q, t, l, cs, vs, z, q', t', l', cs', vs', z', ks) ⟨i + 1, rfl, by omega⟩ (by simp only; omega)
  have hw2 : ((i + 1 : Nat) : Int) = (i : Int) + 1 := by omega
  rw [hw2] at fin
  simp only [decide_eq_true hj, cond_true, if_pos (show (0 : Int) ≤ (i : Int) by omega), if_pos hj, e1, Option.bind_some, Bool.not_true, cond_false, VF q' t' l' cs' vs' z' _ h.S.2.2.2.2.2, hw]
  cases hid : v5 vs' (y6 ks i).2.1 with
  | false => exact fin
  | true =>
   have := hm2 hid
   simp only [cond_true, J0 l' _ h.S.2.2.2.1, Option.bind_some, decide_eq_false (show ¬ ((yQ l' (y6 ks i).2.1).length : Int) < 2 by omega), cond_false]
   exact fin
 ·simp only [decide_eq_false hj, cond_false]
theorem yeP {R : Type} (hs : ∀ a ∈ l', v5 vs' a.1 = true → ¬ (yQ l' a.1).length < 2) (c0 : _ → Option R) (c1 : _ → Option R) :
  KW c0 c1 (n, 0, q, t, l, cs, vs, z, q', t', l', cs', vs', z') = c1 (n, q, t, l, cs, vs, z, q', t', l', cs', vs', z') := by
 unfold KW
 have hl := h.S.2.2.2.1
 refine jc (step := wY c0 c1) (fun u : wX => l'.length + 1 - u.2.1.toNat) (fun u => ∃ i : Nat, u = (n, (i : Int), q, t, l, cs, vs, z, q', t', l', cs', vs', z') ∧ i ≤ l'.length) (fun _ res => res = c1 (n, q, t, l, cs, vs, z, q', t', l', cs', vs', z')) ?_ _ ⟨0, rfl, Nat.zero_le _⟩ (by simp only; omega)
 rintro again _ ⟨i, rfl, hi⟩ hag
 unfold wY
 by_cases hj : (i : Int) < (l'.length : Int)
 ·have hw : Go.IntKind.wrap .i64 ((i : Int) + 1) = (i : Int) + 1 := w64 (by omega) (by omega)
  have hm : v5 vs' (yA l' i).1 = true → ¬ (yQ l' (yA l' i).1).length < 2 := hs _ (yX yy l' (i : Int) (by omega) hj)
  have fin := hag (n, ((i + 1 : Nat) : Int), q, t, l, cs, vs, z, q', t', l', cs', vs', z') ⟨i + 1, rfl, by omega⟩ (by simp only; omega)
  have hw2 : ((i + 1 : Nat) : Int) = (i : Int) + 1 := by omega
  rw [hw2] at fin
  simp only [decide_eq_true hj, cond_true, if_pos (show (0 : Int) ≤ (i : Int) by omega), if_pos hj, Option.bind_some, VF q' t' l' cs' vs' z' _ h.S.2.2.2.2.2, hw]
  cases hid : v5 vs' (yA l' i).1 with
  | false => exact fin
  | true =>
   have := hm hid
   simp only [cond_true, J0 l' _ hl, Option.bind_some, decide_eq_false (show ¬ ((yQ l' (yA l' i).1).length : Int) < 2 by omega), cond_false]
   exact fin
 ·simp only [decide_eq_false hj, cond_false]
end
theorem law_Calm (x : List Int) (hbx : isBytes x) : jw x = some true := by
 unfold jw y0K
 simp only [Option.bind_some]
 cases hbig : decide ((List.length x : Int) > (1048576 : Int)) with
 | true => rfl
 | false =>
  have hx : x.length ≤ 1048576 := by
   have := of_decide_eq_false hbig
   omega
  obtain ⟨q, t, l, cs, vs, z, o, e, hp⟩ := y5X x hx
  have h := (y34 hp).sp
  have hr := YG hp
  have hB : y0x (q, t, l, cs, vs, z) = true := hp
  obtain ⟨mb1, mb2, mb3, mb4⟩ := yhb hp
  have hkept := yaP 1000 _ hB
  obtain ⟨hend, hcnt⟩ := ydJ 1000 (q, t, l, cs, vs, z) hB mb1
  have hcnt0 := hcnt 0
  have hdist := yhc hB hkept
  have hstop := (y8X hkept.ok).resolve_right fun hh => by
   rw [hend] at hh
   cases hh.1
  have hzero := yj2 hend
  have keys : ∀ {q : List yc} {t : List y0}, TOk t → yT (q, t) = some (yb t) := fun {q t} ht => Zf q t (by have := ht.len; omega) ht.nodes ht.sum
  simp only [e, Option.bind_some, cond_false, y3V (q, t, l, cs, vs, z) h, qE (q, t, l, cs, vs, z) h]
  generalize ycv 1000 0 (q, t, l, cs, vs, z) = n at *
  generalize ycw 1000 (q, t, l, cs, vs, z) = w at *
  obtain ⟨q', t', l', cs', vs', z'⟩ := w
  obtain ⟨_, hnext, hcalm⟩ := hstop
  have hv : vs' = vs := hkept.vsE
  subst hv
  have hp' : yo q' t' l' cs' vs' z' = true := hkept.ok
  have hc : CalmP q' t' l' vs' := hcalm
  have hn' : y12 q' t' l' cs' vs' z' = some (0, 0) := hnext
  have h' := (y34 hp').sp
  have hr' := YG hp'
  have hm : y38 (yb t') l' cs' vs' = y38 (yb t) l cs vs' := yhg fun v hv b b0 b1 => hkept.val v hv b b0 b1
  have hd : vj t' l' vs' = vj t l vs' := hdist
  have hu := yhd hp' hc
  have hf' := wZ hr'.tree
  have hnx : Z5 (q', t', l', cs', vs', z') = some (0, 0) := (y3y q' t' l' cs' vs' z' h'.tq.T h'.S.1 h'.S.2.2.2.1 h'.S.2.2.2.2.1 h'.S.2.2.2.2.2 h'.N).trans hn'
  have u2 := y3r cs' (by rw [v7 hr'.cells]; decide)
  have d1 := Qm q t l cs vs' z h.tq.T h.S.2.2.2.1 h.S.2.2.2.2.2
  have d2 := Qm q' t' l' cs' vs' z' h'.tq.T h'.S.2.2.2.1 h'.S.2.2.2.2.2
  have hcalmOk : ko (q', t', l', cs', vs', z') = some true := by
   unfold ko
   simp only [hnx, y1q z' h', hp', u2, d2, hu, Option.bind_some, cond_true, beq_self_eq_true]
  have hbound : KB (q, t, l, cs, vs', z) = some (((yb t).length : Int) * ((l.length : Int) + 1) + (l.length : Int)) := by
   have h1 : 0 ≤ ((yb t).length : Int) * ((l.length : Int) + 1) ∧ ((yb t).length : Int) * ((l.length : Int) + 1) ≤ 60 * 17 := ⟨Int.mul_nonneg (by omega) (by omega), Int.mul_le_mul (by omega) (by omega) (by omega) (by omega)⟩
   unfold KB
   simp only [keys h.tq.T, Option.bind_some]
   rw [w64 (n := (l.length : Int) + 1) (by omega) (by omega), w64 (n := ((yb t).length : Int) * ((l.length : Int) + 1)) (by omega) (by omega), w64 (by omega) (by omega)]
  have hle : decide (n ≤ ((yb t).length : Int) * ((l.length : Int) + 1) + (l.length : Int)) = true := by
   refine decide_eq_true ?_
   have h2 : ((y6Q (yb t) l : Nat) : Int) ≤ (((yb t).length * (l.length + 1) + l.length : Nat) : Int) := by omega
   have h3 : (((yb t).length * (l.length + 1) + l.length : Nat) : Int) = ((yb t).length : Int) * ((l.length : Int) + 1) + (l.length : Int) := by push_cast; rfl
   have h4 : n ≤ 0 + ((y6Q (yb t) l : Nat) : Int) := hcnt0
   omega
  have hleft : Yh (q', t', l', cs', vs', z') = some 0 := by
   rw [qE (q', t', l', cs', vs', z') h', hzero]
  simp only [keys h'.tq.T, Option.bind_some]
  rw [yeO h' (yb t') (by omega) fun k hk => ⟨y5B hp' hc hk, ydK hp' hc hk⟩]
  simp only
  rw [yeP h' fun a ha => yj3 hp' hc ha]
  simp only [hbound, hle, hcalmOk, cond_true, Option.bind_some, yhh z h hp, yhh z' h' hp', hm, y90 hp, u2, d1, d2, hu, hd, hleft, beq_self_eq_true]
end Go.Proofs.YtjllpipmaejeoaaGreat.Pl
