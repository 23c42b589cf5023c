/- Draw, Crc, ReadW, Four, Crc1, Draw2, Put4, Txt, PutPool, Ops, Apply, Apply2, Take, Do1, Do2, Do3, Sem1, Move, Move2, Apply3, EntDraw, DrawP, DrawQ, Sem2, Sem3, Sem4, Same, Reads, Prog1, Prog2, Prog3, Age1, Prn1, Prn2, Prn3, Maps, Prunes. No condition. -/
import Derived.Test.YtjllpipmaejeoaaGreatPPrune2
set_option linter.all false
namespace Go.Proofs.YtjllpipmaejeoaaGreat.Pl
open Go.Proofs.YtjllpipmaejeoaaGreat.R Go.Proofs.YtjllpipmaejeoaaGreat.XV
def qe (c : List Int) (p : Int) : Prop := c.length ≤ 1099511627776 ∧ 0 ≤ p ∧ p ≤ c.length
def yex {A : Type} (o : Option (A × List Int × Int × Int)) (c : List Int) (Q : A → Prop) : Prop := ∃ v p s, o = some (v, c, p, s) ∧ qe c p ∧ Q v
theorem ycl (c : List Int) (p s : Int) (h : qe c p) : yex (Zb (c, p, s)) c (fun v => 0 ≤ v ∧ v < 256) := by
 obtain ⟨h1, h2, h3⟩ := h
 unfold Zb
 simp only [Bool.cond_eq_ite, decide_eq_true_eq, ytP]
 by_cases hp : p < (c.length : Int)
 ·rw [if_pos hp, if_pos h2, if_pos hp]
  refine ⟨_, _, _, rfl, ⟨h1, ?_, ?_⟩, by omega⟩
  ·rw [w64 (by omega) (by omega)]
   omega
  ·rw [w64 (by omega) (by omega)]
   omega
 ·rw [if_neg hp]
  exact ⟨_, _, _, rfl, ⟨h1, h2, h3⟩, by omega⟩
theorem y11 (c : List Int) (p s n : Int) (h : qe c p) : yex (yw (c, p, s, n)) c (fun v => 0 ≤ v ∧ (0 < n → v < n)) := by
 unfold yw
 simp only [Bool.cond_eq_ite, decide_eq_true_eq]
 by_cases hn : n ≤ 0
 ·rw [if_pos hn]
  exact ⟨_, _, _, rfl, h, Int.le_refl _, fun hh => by omega⟩
 ·rw [if_neg hn]
  obtain ⟨v1, p1, s1, e1, h1, q1⟩ := ycl c p s h
  obtain ⟨v2, p2, s2, e2, h2, q2⟩ := ycl c p1 s1 h1
  obtain ⟨v3, p3, s3, e3, h3, q3⟩ := ycl c p2 s2 h2
  rw [e1]
  simp only [Option.bind_some]
  have mod : ∀ v : Int, 0 ≤ v → 0 ≤ Int.tmod v n ∧ (0 < n → Int.tmod v n < n) := fun v hv => by
   rw [Int.tmod_eq_emod_of_nonneg hv]
   exact ⟨Int.emod_nonneg _ (by omega), fun hh => Int.emod_lt_of_pos _ hh⟩
  by_cases h6 : n ≤ 256
  ·rw [if_pos h6, if_neg (by omega)]
   exact ⟨_, _, _, rfl, h1, mod _ q1.1⟩
  ·rw [if_neg h6, e2]
   simp only [Option.bind_some]
   rw [e3]
   simp only [Option.bind_some]
   rw [if_neg (by omega)]
   rw [w64 (n := v1 * 65536) (by omega) (by omega), w64 (n := v2 * 256) (by omega) (by omega), w64 (n := v1 * 65536 + v2 * 256) (by omega) (by omega), w64 (n := v1 * 65536 + v2 * 256 + v3) (by omega) (by omega)]
   exact ⟨_, _, _, rfl, h3, mod _ (by omega)⟩
theorem ydr (c : List Int) (p s : Int) (L : List Int) (hL : 0 < L.length) (hL2 : L.length ≤ 1048576) (h : qe c p) : yex (zD (c, p, s, L)) c (fun v => v ∈ L) := by
 obtain ⟨v, p1, s1, e1, h1, q1⟩ := y11 c p s (L.length : Int) h
 have := q1.2 (by omega)
 unfold zD
 rw [e1]
 simp only [Option.bind_some]
 rw [if_pos q1.1, if_pos this]
 exact ⟨_, _, _, rfl, h1, yW y2V L v q1.1 this⟩
theorem ytR (c : List Int) (hc : c.length ≤ 1099511627776) : ∃ s, Vz c = some (c, 0, s) := by
 have key := wQ (step := Ko (fun x2 : List Int × Int => some (x2.1, (0 : Int), x2.2))) (fun t : List Int × Int × Int => c.length - t.2.2.toNat) (fun t => t.1 = c ∧ 0 ≤ t.2.2 ∧ t.2.2 ≤ c.length) (fun _ res => ∃ s, res = some (c, 0, s)) ?_ (c, (Go.IntKind.wrap .i64 ((941941 : Int) + ((List.length c : Nat) : Int))), (0 : Int)) ⟨rfl, Int.le_refl _, by simp⟩ (by simp; omega)
 ·exact key
 ·rintro again ⟨c', s, i⟩ ⟨rfl, h0, h1⟩ hag
  simp only at h0 h1
  unfold Ko
  simp only [Bool.cond_eq_ite, decide_eq_true_eq]
  by_cases hi : i < (c'.length : Int)
  ·rw [if_pos hi]
   simp only [Option.bind_some, decide_eq_true_eq]
   by_cases h4 : i < 4000
   ·rw [if_pos h4, if_pos h0, if_pos hi]
    have hw : Go.IntKind.wrap .i64 (i + 1) = i + 1 := w64 (by omega) (by omega)
    rw [hw]
    exact hag _ ⟨rfl, by simp only; omega, by simp only; omega⟩ (by simp only; omega)
   ·rw [if_neg h4]
    exact ⟨_, rfl⟩
  ·rw [if_neg hi]
   exact ⟨_, rfl⟩
end Go.Proofs.YtjllpipmaejeoaaGreat.Pl
namespace Go.Proofs.YtjllpipmaejeoaaGreat.Pl
open Go.Proofs.YtjllpipmaejeoaaGreat.R Go.Proofs.YtjllpipmaejeoaaGreat.XV
end Go.Proofs.YtjllpipmaejeoaaGreat.Pl
namespace Go.Proofs.YtjllpipmaejeoaaGreat.Pl
open Go.Proofs.YtjllpipmaejeoaaGreat.R Go.Proofs.YtjllpipmaejeoaaGreat.XV
def w2 (l : List Int) (i : Int) : Int := by_ l i * 256 + by_ l (i + 1)
end Go.Proofs.YtjllpipmaejeoaaGreat.Pl
namespace Go.Proofs.YtjllpipmaejeoaaGreat.Pl
open Go.Proofs.YtjllpipmaejeoaaGreat.R Go.Proofs.YtjllpipmaejeoaaGreat.XV
end Go.Proofs.YtjllpipmaejeoaaGreat.Pl
namespace Go.Proofs.YtjllpipmaejeoaaGreat.Pl
open Go.Proofs.YtjllpipmaejeoaaGreat.R Go.Proofs.YtjllpipmaejeoaaGreat.XV
end Go.Proofs.YtjllpipmaejeoaaGreat.Pl
namespace Go.Proofs.YtjllpipmaejeoaaGreat.Pl
open Go.Proofs.YtjllpipmaejeoaaGreat.R Go.Proofs.YtjllpipmaejeoaaGreat.XV
theorem yEB (x : List Int) (hx : x.length ≤ 1099511627776) : qe x 0 := ⟨hx, Int.le_refl _, by omega⟩
end Go.Proofs.YtjllpipmaejeoaaGreat.Pl
namespace Go.Proofs.YtjllpipmaejeoaaGreat.Pl
open Go.Proofs.YtjllpipmaejeoaaGreat.R Go.Proofs.YtjllpipmaejeoaaGreat.XV
def two (x : Int) : List Int := [x / 256 % 256, x % 256]
end Go.Proofs.YtjllpipmaejeoaaGreat.Pl
namespace Go.Proofs.YtjllpipmaejeoaaGreat.Pl
open Go.Proofs.YtjllpipmaejeoaaGreat.R Go.Proofs.YtjllpipmaejeoaaGreat.XV
def tx (s : ByteArray) : List Int := two (s.size : Int) ++ Vu s
end Go.Proofs.YtjllpipmaejeoaaGreat.Pl
namespace Go.Proofs.YtjllpipmaejeoaaGreat.Pl
open Go.Proofs.YtjllpipmaejeoaaGreat.R Go.Proofs.YtjllpipmaejeoaaGreat.XV
structure PoolF (q : List Int) (t : List y0) (l : List y9) (cs : List y8) (vs : List yh) : Prop where
 ql : q.length = t.length
 tl : t.length ≤ 20
 ll : l.length ≤ 16
 cl : cs.length = 24
 vl : vs.length ≤ 6
 nm : ∀ v ∈ vs, ByteArray.size v.1 ≤ 6
 nl : ∀ n ∈ t, List.length n ≤ 3
 sl : ∀ n ∈ t, ∀ s ∈ (show List ya from n), List.length s ≤ 60 ∧ ∀ k ∈ (show List y7 from s), zR k = true
theorem yzr {q : List Int} {t : List y0} {l : List y9} {cs : List y8} {vs : List yh} {z : Int} (h : yr q t l cs vs z = true) : PoolF q t l cs vs := by
 unfold yr at h
 simp only [Bool.and_eq_true] at h
 obtain ⟨h1, h2, h3, _, _, h4, _⟩ := h
 obtain ⟨t1, t2, t3, t4⟩ := jW h1
 unfold YO at h2
 unfold zc at h3
 unfold ji at h4
 simp only [Bool.and_eq_true, Bool.not_eq_true', decide_eq_true_eq, beq_iff_eq] at h2 h3 h4
 refine ⟨t1, t3, by omega, by omega, by omega, fun v hv => ?_, fun n hn => (y2o (t4 n hn)).1, fun n hn s hs => y4m ((y2o (t4 n hn)).2 s hs)⟩
 obtain ⟨j, hj⟩ := J6 _ vs 0 h4.1 v hv
 unfold yes at hj
 simp only [Bool.or_eq_false_iff, Bool.not_eq_false'] at hj
 have hn := hj.1
 unfold jV at hn
 simp only [Bool.and_eq_true, zv] at hn
 omega
section
variable {q : List Int} {t : List y0} {l : List y9} {cs : List y8} {vs : List yh} (z : Int) (h : PoolF q t l cs vs)
include h
end
end Go.Proofs.YtjllpipmaejeoaaGreat.Pl
namespace Go.Proofs.YtjllpipmaejeoaaGreat.Pl
open Go.Proofs.YtjllpipmaejeoaaGreat.R Go.Proofs.YtjllpipmaejeoaaGreat.XV
def yds (kind a b : Int) : Bool :=
 if kind = 2 then decide (a = 0) && inR b 0 1 else if kind = 3 ∨ kind = 7 then decide (a = 0) && decide (b = 0) else if kind = 4 then true else decide (b = 0)
def ygw (s : ByteArray) : Bool := s.toList == ([] : List UInt8)
def yzs (kind : Int) (name tt : ByteArray) (a b : Int) : Bool :=
 inR kind 1 9 && (if kind ≥ 7 then ygw name else jV name) && (if kind = 2 then jV tt else ygw tt) && isW a && isW b && yds kind a b
theorem y5t (kind : Int) (name tt : ByteArray) (a b : Int) : YT (kind, name, tt, a, b) = some (yds kind a b) := by
 unfold YT yds
 simp only [Bool.cond_eq_ite, ZG, Option.bind_some, beq_iff_eq]
 by_cases h2 : kind = 2 <;> by_cases h3 : kind = 3 <;> by_cases h7 : kind = 7 <;> by_cases h4 : kind = 4 <;> by_cases ha : a = 0 <;> by_cases hb : b = 0 <;> simp_all
theorem yaG : (ByteArray.toList { data := #[] }) = [] := by
 unfold ByteArray.toList ByteArray.toList.loop
 rfl
theorem yaH (kind : Int) (name tt : ByteArray) (a b : Int) (hn : name.size ≤ maxLen) (ht : tt.size ≤ maxLen) : vF (kind, name, tt, a, b) = some (yzs kind name tt a b) := by
 unfold vF yzs ygw
 simp only [Bool.cond_eq_ite, wR _ hn, wR _ ht, ZG, qG, y5t, Option.bind_some, bi, yaG, decide_eq_true_eq]
 generalize (name.toList == ([] : List UInt8)) = n1
 generalize (tt.toList == ([] : List UInt8)) = n2
 generalize inR kind 1 9 = n3
 generalize yds kind a b = n4
 by_cases h7 : kind ≥ 7 <;> by_cases h2 : kind = 2 <;> simp only [h7, h2, if_true, if_false, Option.bind_some] <;> cases n1 <;> cases n2 <;> cases n3 <;> cases n4 <;> cases jV name <;> cases jV tt <;> cases isW a <;> cases isW b <;> rfl
end Go.Proofs.YtjllpipmaejeoaaGreat.Pl
namespace Go.Proofs.YtjllpipmaejeoaaGreat.Pl
open Go.Proofs.YtjllpipmaejeoaaGreat.R Go.Proofs.YtjllpipmaejeoaaGreat.XV
abbrev P7a : Type := List yb × List y0 × List y9 × List y8 × List yh × Int × Int
theorem ykg {A : Type} {o : Option A} : (Option.bind o fun r => some r) = o := by cases o <;> rfl
theorem yn3 {o : Option P7a} : (Option.bind o fun r => some (r.1, r.2.1, r.2.2.1, r.2.2.2.1, r.2.2.2.2.1, r.2.2.2.2.2.1, r.2.2.2.2.2.2)) = o := by cases o <;> rfl
theorem yzt {o : Option (List yb × List y0 × List y9 × List y8 × List yh × Int × Bool)} : (Option.bind o fun r => some (r.1, r.2.1, r.2.2.1, r.2.2.2.1, r.2.2.2.2.1, r.2.2.2.2.2.1, r.2.2.2.2.2.2)) = o := by cases o <;> rfl
theorem yzu {o : Option (Bool × List yb × List y0 × List y9 × List y8 × List yh × Int)} : (Option.bind o fun r => some (r.1, r.2.1, r.2.2.1, r.2.2.2.1, r.2.2.2.2.1, r.2.2.2.2.2.1, r.2.2.2.2.2.2)) = o := by cases o <;> rfl
theorem JU {A : Type} {P : A → Prop} (b : Bool) {x y : A} (hx : b = true → P x) (hy : b = false → P y) : P (bif b then x else y) := by cases b <;> first | exact hx rfl | exact hy rfl
structure Tn (q : List yb) (t : List y0) (l : List y9) (cs : List y8) (vs : List yh) : Prop where
 ql : q.length ≤ 100
 T : TS t
 ll : l.length ≤ 100
 cl : cs.length = 24
 vl : vs.length ≤ 100
 N : ∀ v ∈ vs, ByteArray.size v.1 ≤ 60
 e : q.length = t.length
 p : 0 < t.length
theorem Tn.sp {q : List yb} {t : List y0} {l : List y9} {cs : List y8} {vs : List yh} (h : Tn q t l cs vs) : SP q t l cs vs := by
 have hT := h.T.ok
 refine ⟨⟨Nat.le_trans h.ql (by decide), hT.len, hT.sum, Nat.le_trans h.ll (by decide), by rw [h.cl]; decide, Nat.le_trans h.vl (by decide)⟩, fun v hv => Nat.le_trans (h.N v hv) (by decide)⟩
theorem y3b {q : List yb} {t : List y0} {l : List y9} {cs : List y8} {vs : List yh} {z : Int} (h : yr q t l cs vs z = true) : Tn q t l cs vs := by
 have hF := yzr h
 unfold yr at h
 rw [Bool.and_eq_true] at h
 have h1 := jW h.1
 exact ⟨by have := hF.ql; have := hF.tl; omega, y2v h.1, by have := hF.ll; omega, hF.cl, by have := hF.vl; omega, fun v hv => by have := hF.nm v hv; omega, hF.ql, by omega⟩
def Res (q : List yb) (t : List y0) (l : List y9) (cs : List y8) (vs : List yh) (z : Int) (o : Option P7a) : Prop :=
 ∃ q' t' l' cs' vs' z' c, o = some (q', t', l', cs', vs', z', c) ∧ (yr q' t' l' cs' vs' z' = true ∨ (q', t', l', cs', vs', z') = (q, t, l, cs, vs, z))
def YQ (vs : List yh) (n : ByteArray) : Int := zE (fun v : yh => ByteArray.toList v.1 == ByteArray.toList n) vs 0
theorem Kl (vs : List yh) (n : ByteArray) : YQ vs n = -1 ∨ (0 ≤ YQ vs n ∧ YQ vs n < vs.length) := by
 rcases Yh (fun v : yh => ByteArray.toList v.1 == ByteArray.toList n) Y2 vs 0 (Int.le_refl _) with h | ⟨h1, h2, h3⟩
 ·exact .inl h
 ·exact .inr ⟨h1, by simpa [YQ] using h2⟩
section
variable (q : List yb) (t : List y0) (l : List y9) (cs : List y8) (vs : List yh) (z : Int)
theorem Zy (n : ByteArray) (hv : vs.length ≤ 1048576) : zw (q, t, l, cs, vs, z, n) = some (YQ vs n) := by
 unfold zw y1h
 refine (Yz (step := wD _ _) (fun i => (n, i, q, t, l, cs, vs, z)) (fun v : yh => ByteArray.toList v.1 == ByteArray.toList n) (fun x => some x) (some (-1)) Y2 vs (by omega) ?_ ?_).trans ?_
 ·intro again i h0 h1
  have hw : Go.IntKind.wrap .i64 (i + 1) = i + 1 := w64 (by omega) (by omega)
  unfold wD
  simp only [Bool.cond_eq_ite, decide_eq_true_eq, h0, h1, if_true, hw]
  rfl
 ·intro again i hi
  unfold wD
  simp only [Bool.cond_eq_ite, decide_eq_true_eq, if_neg hi]
 ·rcases Kl vs n with h | ⟨h1, h2⟩ <;> unfold YQ at *
  ·rw [h]
   rfl
  ·rw [if_neg (by omega)]
def yey (n : ByteArray) : Int := if yr q t l cs vs z = true ∧ jV n = true then 0 else 1
noncomputable def yuE (n : ByteArray) : Int := if yr q t l cs vs z = true ∧ jV n = true then (if YQ vs n < 0 then 2 else 0) else 1
noncomputable def Vn (n : ByteArray) (b : Int) : Int := if yr q t l cs vs z = true ∧ jV n = true then (if YQ vs n < 0 then 2 else if (yi vs (YQ vs n)).2.2.2 = true then 5 else if inR b 0 (Go.IntKind.wrap .i64 ((yi vs (YQ vs n)).2.2.1 - 1)) = true then 0 else 4) else 1
variable {q t l cs vs} (h : SP q t l cs vs)
include h
theorem y0E (n : ByteArray) (hn : n.size ≤ maxLen) : ZC (q, t, l, cs, vs, z, n) = some (yey q t l cs vs z n) := by
 unfold ZC yey
 simp only [ZH z h, wR n hn, Option.bind_some]
 cases yr q t l cs vs z <;> cases jV n <;> rfl
theorem y5u (n : ByteArray) (hn : n.size ≤ maxLen) : w6 (q, t, l, cs, vs, z, n) = some (yuE q t l cs vs z n) := by
 unfold w6 yuE
 simp only [y0E z h n hn, Zy q t l cs vs z n h.S.2.2.2.2.2, Option.bind_some]
 unfold yey
 by_cases hc : yr q t l cs vs z = true ∧ jV n = true
 ·simp only [if_pos hc, beq_self_eq_true, cond_true, Option.bind_some]
  by_cases hv : YQ vs n < 0
  ·simp only [if_pos hv, decide_eq_true hv]
   rfl
  ·simp only [if_neg hv, decide_eq_false hv]
   rfl
 ·simp only [if_neg hc]
  rfl
theorem Q8 (n : ByteArray) (hn : n.size ≤ maxLen) (b : Int) : YZ (q, t, l, cs, vs, z, n, b) = some (Vn q t l cs vs z n b) := by
 unfold YZ Vn
 simp only [y5u z h n hn, Zy q t l cs vs z n h.S.2.2.2.2.2, ZG, Option.bind_some]
 unfold yuE
 by_cases hc : yr q t l cs vs z = true ∧ jV n = true
 ·simp only [if_pos hc]
  by_cases hv : YQ vs n < 0
  ·simp only [if_pos hv]
   rfl
  ·have h2 := Kl vs n
   simp only [if_neg hv, show ((0 : Int) != 0) = false from rfl, cond_false, if_pos (show (0 : Int) ≤ YQ vs n by omega), if_pos (show YQ vs n < ((List.length vs : Nat) : Int) by omega)]
   cases (yi vs (YQ vs n)).2.2.2 with
   | true => rfl
   | false => cases inR b 0 (Go.IntKind.wrap .i64 ((yi vs (YQ vs n)).2.2.1 - 1)) <;> rfl
 ·simp only [if_neg hc]
  rfl
theorem y0F : ym (q, t, l, cs, vs, z) = some (q, t, l, cs, vs, z) := kz q t l cs vs z h.S
omit h in
theorem Res.same (c : Int) : Res q t l cs vs z (some (q, t, l, cs, vs, z, c)) := ⟨_, _, _, _, _, _, c, rfl, .inr rfl⟩
theorem ytS {q' : List yb} {t' : List y0} {l' : List y9} {cs' : List y8} {vs' : List yh} {z' : Int} (hx : SP q' t' l' cs' vs') (b : Bool) : yU (q, t, l, cs, vs, z, q', t', l', cs', vs', z', b) = some (if b = true ∧ yr q' t' l' cs' vs' z' = true then (q', t', l', cs', vs', z', 0) else (q, t, l, cs, vs, z, 6)) := by
 unfold yU
 simp only [ZH z' hx, y0F z h, Option.bind_some]
 cases b <;> cases hp : yr q' t' l' cs' vs' z' <;> simp
theorem Res.fin {q' : List yb} {t' : List y0} {l' : List y9} {cs' : List y8} {vs' : List yh} {z' : Int} (hx : SP q' t' l' cs' vs') (b : Bool) : Res q t l cs vs z (yU (q, t, l, cs, vs, z, q', t', l', cs', vs', z', b)) := by
 rw [ytS z h hx b]
 by_cases hc : b = true ∧ yr q' t' l' cs' vs' z' = true
 ·rw [if_pos hc]
  exact ⟨_, _, _, _, _, _, _, rfl, .inl hc.2⟩
 ·rw [if_neg hc]
  exact ⟨_, _, _, _, _, _, _, rfl, .inr rfl⟩
end
theorem y5v (l : List y9) (id fr : Int) (hl : l.length ≤ 1000) : ∃ l' b, jt (l, id, fr) = some (l', b) ∧ l'.length ≤ l.length + 1 := by
 unfold jt QW
 rw [Zw l id (by omega)]
 simp only [Option.bind_some]
 refine wQ (step := WG _) (fun u : WF => l.length - u.2.2.2.2.1.toNat) (fun u => u.1 = l ∧ u.2.1 = id ∧ 0 ≤ u.2.2.2.2.1 ∧ u.2.2.2.2.1 ≤ l.length ∧ (u.2.2.2.2.2.length : Int) ≤ u.2.2.2.2.1 + (if u.2.2.2.1 = true then 1 else 0)) (fun _ (res : Option (List y9 × Bool)) => ∃ (l' : List y9) (b : Bool), res = some (l', b) ∧ l'.length ≤ l.length + 1) ?_ (l, id, fr, decide (yS l id ≥ 0), 0, []) ⟨rfl, rfl, Int.le_refl _, by simp, by simp; split <;> omega⟩ (by simp; omega)
 ·rintro again ⟨l1, id1, fr1, d, i, o⟩ ⟨rfl, rfl, h0, h1, ho⟩ hag
  simp only at h0 h1 ho hl hag ⊢
  unfold WG
  simp only [Bool.cond_eq_ite, decide_eq_true_eq]
  by_cases hi : i < (l1.length : Int)
  ·have hw : Go.IntKind.wrap .i64 (i + 1) = i + 1 := w64 (by omega) (by omega)
   have ho2 : o.length ≤ 1001 := by split at ho <;> omega
   simp only [if_pos hi, if_pos h0, hw, List.length_append, List.length_cons, List.length_nil]
   cases d with
   | true =>
    simp only [Bool.not_true, Bool.false_eq_true, if_false, Option.bind_some]
    rw [if_pos (by omega)]
    exact hag _ ⟨rfl, rfl, by simp only; omega, by simp only; omega, by simp at ho ⊢; omega⟩ (by simp only; omega)
   | false =>
    simp only [Bool.not_false, if_true, Option.bind_some, decide_eq_true_eq]
    split
    ·rw [if_pos (by omega), if_pos (by omega)]
     exact hag _ ⟨rfl, rfl, by simp only; omega, by simp only; omega, by simp at ho ⊢; omega⟩ (by simp only; omega)
    ·rw [if_pos (by omega)]
     exact hag _ ⟨rfl, rfl, by simp only; omega, by simp only; omega, by simp at ho ⊢; omega⟩ (by simp only; omega)
  ·have ho2 : o.length ≤ 1001 := by split at ho <;> omega
   simp only [if_neg hi, List.length_append, List.length_cons, List.length_nil, Zw l1 id1 (by omega), Option.bind_some, Kw o (by omega), Kw (o ++ [(id1, fr1)]) (by simp; omega)]
   cases d with
   | true =>
    have e1 : ∀ u : Bool, ∃ (l' : List y9) (b : Bool), (if u = true then (if (0 + l1.length) * 16 < 140737488355328 then some ([] ++ l1, false) else none) else some (o, true)) = some (l', b) ∧ l'.length ≤ l1.length + 1 := fun u => by
     rw [if_pos (show (0 + l1.length) * 16 < 140737488355328 by omega)]
     cases u
     ·exact ⟨_, _, rfl, by simp at ho; omega⟩
     ·exact ⟨_, _, rfl, by simp⟩
    simp only [Bool.not_true, Bool.false_eq_true, if_false]
    by_cases ha : yS l1 id1 ≥ 0
    ·rw [if_pos ha]
     exact e1 true
    ·rw [if_neg ha]
     exact e1 _
   | false =>
    have e1 : ∀ u : Bool, ∃ (l' : List y9) (b : Bool), (if u = true then (if (0 + l1.length) * 16 < 140737488355328 then some ([] ++ l1, false) else none) else some (o ++ [(id1, fr1)], true)) = some (l', b) ∧ l'.length ≤ l1.length + 1 := fun u => by
     rw [if_pos (show (0 + l1.length) * 16 < 140737488355328 by omega)]
     cases u
     ·exact ⟨_, _, rfl, by simp at ho ⊢; omega⟩
     ·exact ⟨_, _, rfl, by simp⟩
    simp only [Bool.not_false, if_true]
    rw [if_pos (by omega)]
    by_cases ha : yS l1 id1 ≥ 0
    ·rw [if_pos ha]
     exact e1 true
    ·rw [if_neg ha]
     exact e1 _
theorem yaI (vs : List yh) (n : ByteArray) (a s : Int) (f : Bool) (hv : vs.length ≤ 1000) (hN : ∀ v ∈ vs, ByteArray.size v.1 ≤ 60) (hn : n.size ≤ 60) : ∃ vs', Z7 (vs, n, a, s, f) = some vs' ∧ vs'.length = vs.length + 1 ∧ ∀ v ∈ vs', ByteArray.size v.1 ≤ 60 := by
 unfold Z7 VC
 simp only [List.nil_append, List.length_nil, List.length_append, List.length_cons]
 rw [if_pos (by omega), if_pos (by omega), w64 (by omega) (by omega)]
 refine wQ (step := J9 _) (fun u : J8 => u.1.toNat) (fun u => 0 ≤ u.1 ∧ u.1 ≤ vs.length ∧ u.2.1 = n ∧ u.2.2.2.2.2.length = vs.length + 1 ∧ ∀ v ∈ u.2.2.2.2.2, ByteArray.size v.1 ≤ 60) (fun _ (res : Option (List yh)) => ∃ vs' : List yh, res = some vs' ∧ vs'.length = vs.length + 1 ∧ ∀ v ∈ vs', ByteArray.size v.1 ≤ 60) ?_ (((vs.length + (0 + 1) : Nat) : Int) - 1, n, a, s, f, vs ++ [(n, a, s, f)]) ⟨by simp only; omega, by simp only; omega, rfl, by simp, fun v hv => ?_⟩ (by simp only; omega)
 ·rintro again ⟨k, n1, a1, s1, f1, o⟩ ⟨h0, h1, rfl, ho, hoN⟩ hag
  simp only at h0 h1 ho hoN hag ⊢
  unfold J9
  simp only [Bool.cond_eq_ite, decide_eq_true_eq]
  by_cases hk : k > 0
  ·have hw : Go.IntKind.wrap .i64 (k - 1) = k - 1 := w64 (by omega) (by omega)
   simp only [if_pos hk, hw, if_pos (show (0 : Int) ≤ k - 1 by omega), if_pos (show k - 1 < ((List.length o : Nat) : Int) by omega), if_pos h0, if_pos (show k < ((List.length o : Nat) : Int) by omega), Option.bind_some]
   split
   ·refine hag _ ⟨by simp only; omega, by simp only; omega, rfl, by simp only [List.length_set]; exact ho, fun v hv => ?_⟩ (by simp only; omega)
    rcases List.mem_or_eq_of_mem_set hv with h | rfl
    ·exact hoN v h
    ·exact hoN _ (yW Y2 o (k - 1) (by omega) (by omega))
   ·refine ⟨_, rfl, by rw [List.length_set]; exact ho, fun v hv => ?_⟩
    rcases List.mem_or_eq_of_mem_set hv with h | rfl
    ·exact hoN v h
    ·exact hn
  ·simp only [if_neg hk, Option.bind_some, Bool.false_eq_true, if_false, if_pos h0, if_pos (show k < ((List.length o : Nat) : Int) by omega)]
   refine ⟨_, rfl, by rw [List.length_set]; exact ho, fun v hv => ?_⟩
   rcases List.mem_or_eq_of_mem_set hv with h | rfl
   ·exact hoN v h
   ·exact hn
 ·rcases List.mem_append.1 hv with h | h
  ·exact hN v h
  ·rw [List.mem_singleton.1 h]
   exact hn
theorem ycm (cs : List y8) (n : Int) (hc : cs.length ≤ 1048576) : ∃ cs' i b, Y9 (cs, n) = some (cs', i, b) ∧ cs'.length = cs.length ∧ (b = true → 0 ≤ i ∧ i < cs.length) := by
 unfold Y9 Y8 kS
 simp only [List.nil_append, List.length_nil]
 rw [if_pos (by omega)]
 simp only [Option.bind_some]
 refine wQ (step := zJ _ _) (fun u : w7 => cs.length - u.2.2.1.toNat) (fun u => u.1 = cs ∧ 0 ≤ u.2.2.1 ∧ u.2.2.1 ≤ cs.length ∧ u.2.2.2 = cs) (fun _ (res : Option (List y8 × Int × Bool)) => ∃ (cs' : List y8) (i : Int) (b : Bool), res = some (cs', i, b) ∧ cs'.length = cs.length ∧ (b = true → 0 ≤ i ∧ i < cs.length)) ?_ (cs, n, 0, cs) ⟨rfl, Int.le_refl _, by simp, rfl⟩ (by simp; omega)
 ·rintro again ⟨l1, n1, i, o⟩ ⟨e1, h0, h1, e2⟩ hag
  simp only at e1 e2 h0 h1 hag ⊢
  subst e1
  subst e2
  unfold zJ
  simp only [Bool.cond_eq_ite, decide_eq_true_eq, JP o hc, qG, Option.bind_some]
  by_cases hi : i < (o.length : Int)
  ·have hw : Go.IntKind.wrap .i64 (i + 1) = i + 1 := w64 (by omega) (by omega)
   simp only [if_pos hi, if_pos h0, hw, List.length_set, Option.bind_some]
   split
   ·simp only [Option.bind_some]
    split
    ·split
     ·exact ⟨_, _, _, rfl, by simp, fun _ => ⟨h0, hi⟩⟩
     ·exact hag _ ⟨rfl, by simp only; omega, by simp only; omega, rfl⟩ (by simp only; omega)
    ·exact ⟨_, _, _, rfl, rfl, fun h => by cases h⟩
   ·simp only [Option.bind_some, Bool.false_eq_true, if_false]
    exact ⟨_, _, _, rfl, rfl, fun h => by cases h⟩
  ·simp only [if_neg hi, Option.bind_some, Bool.false_eq_true, if_false]
   exact ⟨_, _, _, rfl, rfl, fun h => by cases h⟩
end Go.Proofs.YtjllpipmaejeoaaGreat.Pl
namespace Go.Proofs.YtjllpipmaejeoaaGreat.Pl
open Go.Proofs.YtjllpipmaejeoaaGreat.R Go.Proofs.YtjllpipmaejeoaaGreat.XV
theorem SP.of {q : List yb} {t : List y0} {l : List y9} {cs : List y8} {vs : List yh} (h : TQ q t) (hl : l.length ≤ 1048576) (hc : cs.length ≤ 1048576) (hv : vs.length ≤ 1048576) (hN : ∀ v ∈ vs, ByteArray.size v.1 ≤ maxLen) : SP q t l cs vs :=
 ⟨⟨h.q, h.T.len, h.T.sum, hl, hc, hv⟩, hN⟩
theorem y5w {n : Nat} (h : n ≤ 60) : n ≤ maxLen := Nat.le_trans h (by decide)
section
variable {q : List yb} {t : List y0} {l : List y9} {cs : List y8} {vs : List yh} (z : Int) (h : SP q t l cs vs)
include h
theorem ygx (n : ByteArray) (s : Int) (hn : n.size ≤ 60) : Res q t l cs vs z (w5 (q, t, l, cs, vs, z, n, s)) := by
 unfold w5
 simp only [y0E z h n (y5w hn), y0F z h, Zy q t l cs vs z n h.S.2.2.2.2.2, ZG, Option.bind_some, yn3, ykg]
 refine JU (P := Res q t l cs vs z) _ (fun _ => Res.same z _) fun hf => JU (P := Res q t l cs vs z) _ (fun _ => Res.same z _) fun _ => JU (P := Res q t l cs vs z) _ (fun _ => Res.same z _) fun _ => ?_
 have hp : yr q t l cs vs z = true := by
  unfold yey at hf
  by_cases hc : yr q t l cs vs z = true ∧ jV n = true
  ·exact hc.1
  ·rw [if_neg hc] at hf
   cases hf
 have hT := y3b hp
 obtain ⟨l', b, e1, h1⟩ := y5v l z 0 (by have := hT.ll; omega)
 obtain ⟨vs', e2, h2, h3⟩ := yaI vs n z s false (by have := hT.vl; omega) hT.N hn
 rw [e1]
 simp only [Option.bind_some]
 rw [e2]
 simp only [Option.bind_some]
 exact Res.fin z h (SP.of h.tq (by have := hT.ll; omega) h.S.2.2.2.2.1 (by have := hT.vl; omega) fun v hv => y5w (h3 v hv)) b
theorem yn4 (n m : ByteArray) (f : Bool) (hn : n.size ≤ 60) (hm : m.size ≤ 60) : Res q t l cs vs z (kQ (q, t, l, cs, vs, z, n, m, f)) := by
 unfold kQ
 simp only [y0E z h n (y5w hn), y0F z h, Zy q t l cs vs z _ h.S.2.2.2.2.2, wR m (y5w hm), Option.bind_some, yn3, ykg]
 cases hf : yey q t l cs vs z n != 0 with
 | true =>
  simp only [cond_true, Option.bind_some]
  exact Res.same z _
 | false =>
 simp only [cond_false, Option.bind_some]
 have hp : yr q t l cs vs z = true := by
  unfold yey at hf
  by_cases hc : yr q t l cs vs z = true ∧ jV n = true
  ·exact hc.1
  ·rw [if_neg hc] at hf
   cases hf
 have hT := y3b hp
 refine JU (P := Res q t l cs vs z) _ (fun _ => Res.same z _) fun _ => JU (P := Res q t l cs vs z) _ (fun _ => Res.same z _) fun hi => JU (P := Res q t l cs vs z) _ (fun _ => Res.same z _) fun _ => ?_
 have hi' : 0 ≤ YQ vs n ∧ YQ vs n < ((List.length vs : Nat) : Int) := by
  have := of_decide_eq_false hi
  have := Kl vs n
  omega
 obtain ⟨l', b, e1, h1⟩ := y5v l z (yi vs (YQ vs n)).2.1 (by have := hT.ll; omega)
 obtain ⟨l2, b2, e2, h2⟩ := y5v l' (Go.IntKind.wrap .i64 (z + 1)) (yi vs (YQ vs n)).2.1 (by have := hT.ll; omega)
 obtain ⟨vs', e3, h3, h4⟩ := yaI (vs.set (Int.toNat (YQ vs n)) ((yi vs (YQ vs n)).1, z, (yi vs (YQ vs n)).2.2)) m (Go.IntKind.wrap .i64 (z + 1)) (yi vs (YQ vs n)).2.2.1 f (by rw [List.length_set]; have := hT.vl; omega) (fun v hv => by
  rcases List.mem_or_eq_of_mem_set hv with hv | rfl
  ·exact hT.N v hv
  ·exact hT.N (yi vs (YQ vs n)) (yW Y2 vs _ hi'.1 hi'.2)) hm
 simp only [if_pos hi'.1, if_pos hi'.2]
 rw [e1]
 simp only [Option.bind_some]
 rw [e2]
 simp only [Option.bind_some]
 rw [e3]
 simp only [Option.bind_some]
 rw [List.length_set] at h3
 have hS : SP q t l2 cs vs' := SP.of h.tq (by have := hT.ll; omega) h.S.2.2.2.2.1 (by have := hT.vl; omega) fun v hv => y5w (h4 v hv)
 cases b <;> simp only [cond_true, cond_false, Option.bind_some] <;> exact Res.fin z h hS _
theorem yn5 (n : ByteArray) (hn : n.size ≤ 60) : Res q t l cs vs z (kR (q, t, l, cs, vs, z, n)) := by
 unfold kR
 simp only [y5u z h n (y5w hn), y0F z h, Zy q t l cs vs z _ h.S.2.2.2.2.2, Option.bind_some, yn3, ykg]
 refine JU (P := Res q t l cs vs z) _ (fun _ => Res.same z _) fun hf => ?_
 have hi : 0 ≤ YQ vs n ∧ YQ vs n < ((List.length vs : Nat) : Int) := by
  unfold yuE at hf
  have := Kl vs n
  by_cases hc : yr q t l cs vs z = true ∧ jV n = true
  ·rw [if_pos hc] at hf
   by_cases hv : YQ vs n < 0
   ·rw [if_pos hv] at hf
    cases hf
   ·omega
  ·rw [if_neg hc] at hf
   cases hf
 have hv := h.S.2.2.2.2.2
 have hw : Go.IntKind.wrap .i64 (YQ vs n + 1) = YQ vs n + 1 := w64 (by omega) (by omega)
 simp only [hw]
 rw [if_pos (Int.le_refl _), if_pos hi.1, if_pos (by omega), if_pos (by simp only [List.length_nil, List.length_drop, List.length_take]; omega), if_pos (by omega), if_pos (by omega), if_pos (Int.le_refl _), if_pos (by simp only [List.length_append, List.length_nil, List.length_drop, List.length_take]; omega)]
 refine Res.fin z h (SP.of h.tq h.S.2.2.2.1 h.S.2.2.2.2.1 (by simp only [List.length_append, List.length_nil, List.length_drop, List.length_take]; omega) fun v hv => ?_) true
 simp only [List.nil_append, List.mem_append] at hv
 rcases hv with hv | hv
 ·exact h.N v (List.mem_of_mem_take (List.mem_of_mem_drop hv))
 ·exact h.N v (List.mem_of_mem_take (List.mem_of_mem_drop hv))
theorem ygy (a b c d e : Int) : ∃ r q' t' cs', zK (q, t, l, cs, vs, z, a, b, c, d, e) = some (r, q', t', l, cs', vs, z) ∧ SP q' t' l cs' vs := by
 have hq := h.tq
 unfold zK
 simp only [Kz q t a b hq.T hq.q, JT q t a b c d e hq.T hq.Q hq.q, Option.bind_some]
 cases (yk q t (a, b, c, d, e)).2.2 with
 | false => exact ⟨_, _, _, _, rfl, h⟩
 | true =>
  unfold wG
  simp only [Bool.not_true, cond_false, vc cs _ h.S.2.2.2.2.1]
  have hT := Kj (a, b, c, d, e) hq
  have key : ∀ u : Bool, ∃ r q' t' cs', (Option.bind (bif u then Option.bind (some (y19 cs (YP q t a b).2.2.2.1)) fun r2 => some ((yk q t (a, b, c, d, e)).1, (yk q t (a, b, c, d, e)).2.1, l, r2, vs, z) else some ((yk q t (a, b, c, d, e)).1, (yk q t (a, b, c, d, e)).2.1, l, cs, vs, z)) fun r3 => some (true, r3.1, r3.2.1, r3.2.2.1, r3.2.2.2.1, r3.2.2.2.2.1, r3.2.2.2.2.2)) = some (r, q', t', l, cs', vs, z) ∧ SP q' t' l cs' vs := fun u => by
   cases u
   ·exact ⟨_, _, _, _, rfl, hT.sp h h.S.2.2.2.1 h.S.2.2.2.2.1⟩
   ·exact ⟨_, _, _, _, rfl, hT.sp h h.S.2.2.2.1 (by rw [y5n]; exact h.S.2.2.2.2.1)⟩
  cases (YP q t a b).2.2.2.2.2
  ·exact key false
  ·exact key ((YP q t a b).2.2.1 == 1)
theorem yiE (n : ByteArray) (b w : Int) (hn : n.size ≤ 60) : Res q t l cs vs z (Wj (q, t, l, cs, vs, z, n, b, w)) := by
 obtain ⟨cs', i, u, e1, h1, h2⟩ := ycm cs w h.S.2.2.2.2.1
 have hS : SP q t l cs' vs := SP.of h.tq h.S.2.2.2.1 (by rw [h1]; exact h.S.2.2.2.2.1) h.S.2.2.2.2.2 h.N
 have main : Vn q t l cs vs z n b = 0 → Res q t l cs vs z (bif u then if (0 : Int) ≤ YQ vs n then if YQ vs n < ((List.length vs : Nat) : Int) then if (0 : Int) ≤ i then if i < ((List.length cs' : Nat) : Int) then Option.bind (zK (q, t, l, cs', vs, z, b, (yi vs (YQ vs n)).2.1, (1 : Int), i, (yA cs' i).1)) fun r7 => yU (q, t, l, cs, vs, z, r7.2.1, r7.2.2.1, r7.2.2.2.1, r7.2.2.2.2.1, r7.2.2.2.2.2.1, r7.2.2.2.2.2.2, r7.1) else none else none else none else none else yU (q, t, l, cs, vs, z, q, t, l, cs', vs, z, false)) := by
  intro hb
  have hi : 0 ≤ YQ vs n ∧ YQ vs n < ((List.length vs : Nat) : Int) := by
   unfold Vn at hb
   have := Kl vs n
   by_cases hc : yr q t l cs vs z = true ∧ jV n = true
   ·rw [if_pos hc] at hb
    by_cases hv : YQ vs n < 0
    ·rw [if_pos hv] at hb
     cases hb
    ·omega
   ·rw [if_neg hc] at hb
    cases hb
  cases u with
  | false => exact Res.fin z h hS false
  | true =>
   have h3 := h2 rfl
   obtain ⟨r, q', t', cs2, e2, h4⟩ := ygy z hS b (yi vs (YQ vs n)).2.1 1 i (yA cs' i).1
   simp only [cond_true, if_pos hi.1, if_pos hi.2, if_pos h3.1, if_pos (show i < ((List.length cs' : Nat) : Int) by rw [h1]; exact h3.2), e2, Option.bind_some]
   exact Res.fin z h h4 r
 unfold Wj
 simp only [Q8 z h n (y5w hn), y0F z h, Zy q t l cs vs z _ h.S.2.2.2.2.2, qG, e1, Option.bind_some, yn3, ykg]
 cases hb : Vn q t l cs vs z n b == 0 with
 | false =>
  have hne : (Vn q t l cs vs z n b != 0) = true := by
   rw [bne, hb]
   rfl
  simp only [cond_false, Option.bind_some, hne, cond_true]
  exact Res.same z _
 | true =>
  have h0 : Vn q t l cs vs z n b = 0 := by simpa using hb
  cases hw : isW w with
  | false =>
   simp only [cond_true, Option.bind_some, Bool.not_false, show ((4 : Int) != 0) = true from rfl]
   exact Res.same z _
  | true =>
   have hne : (Vn q t l cs vs z n b != 0) = false := by
    rw [bne, hb]
    rfl
   simp only [cond_true, Option.bind_some, Bool.not_true, cond_false, hne]
   exact main h0
theorem y0G (i b : Int) (h0 : 0 ≤ i) (h1 : i < (vs.length : Int)) : ∃ r q' t' cs', Yn (q, t, l, cs, vs, z, i, b) = some (r, q', t', l, cs', vs, z) ∧ SP q' t' l cs' vs := by
 have hq := h.tq
 unfold Yn
 simp only [if_pos h0, if_pos h1, y2p q t l _ _ hq.T h.S.2.2.2.1, Kz q t _ _ hq.T hq.q, Option.bind_some, yzu, ykg]
 have key : ∀ u : Bool, ∃ r q' t' cs', (bif u then zK (q, t, l, cs, vs, z, b, (yi vs i).2.1, (2 : Int), (0 : Int), (0 : Int)) else bif (!(YP q t b (yi vs i).2.1).2.2.2.2.2) then some (true, q, t, l, cs, vs, z) else zK (q, t, l, cs, vs, z, b, (yi vs i).2.1, (0 : Int), (0 : Int), (0 : Int))) = some (r, q', t', l, cs', vs, z) ∧ SP q' t' l cs' vs := fun u => by
  cases u
  ·cases (YP q t b (yi vs i).2.1).2.2.2.2.2
   ·exact ⟨_, _, _, _, rfl, h⟩
   ·exact ygy z h _ _ _ _ _
  ·exact ygy z h _ _ _ _ _
 cases (ans (y3z t l b (yi vs i).2.1)).2.2.2.2.2
 ·exact key false
 ·exact key _
theorem yez (n : ByteArray) (b : Int) (hn : n.size ≤ 60) : Res q t l cs vs z (J1 (q, t, l, cs, vs, z, n, b)) := by
 unfold J1
 simp only [Q8 z h n (y5w hn), y0F z h, Zy q t l cs vs z _ h.S.2.2.2.2.2, Option.bind_some, yn3, ykg]
 refine JU (P := Res q t l cs vs z) _ (fun _ => Res.same z _) fun hb => ?_
 have hi : 0 ≤ YQ vs n ∧ YQ vs n < ((List.length vs : Nat) : Int) := by
  unfold Vn at hb
  have := Kl vs n
  by_cases hc : yr q t l cs vs z = true ∧ jV n = true
  ·rw [if_pos hc] at hb
   by_cases hv : YQ vs n < 0
   ·rw [if_pos hv] at hb
    cases hb
   ·omega
  ·rw [if_neg hc] at hb
   cases hb
 obtain ⟨r, q', t', cs', e1, h1⟩ := y0G z h (YQ vs n) b hi.1 hi.2
 rw [e1]
 exact Res.fin z h h1 r
omit h in
theorem yiF {n : ByteArray} {b : Int} (hb : Vn q t l cs vs z n b = 0) : (0 ≤ YQ vs n ∧ YQ vs n < ((List.length vs : Nat) : Int)) ∧ yr q t l cs vs z = true := by
 unfold Vn at hb
 have := Kl vs n
 by_cases hc : yr q t l cs vs z = true ∧ jV n = true
 ·rw [if_pos hc] at hb
  by_cases hv : YQ vs n < 0
  ·rw [if_pos hv] at hb
   cases hb
  ·exact ⟨by omega, hc.1⟩
 ·rw [if_neg hc] at hb
  cases hb
theorem ygz (n : ByteArray) (s : Int) (hn : n.size ≤ 60) : Res q t l cs vs z (wc (q, t, l, cs, vs, z, n, s)) := by
 have fin : ∀ (i : Int) (s : Int) (ok : Bool) (q' : List yb) (t' : List y0) (cs' : List y8), 0 ≤ i → i < (vs.length : Int) → SP q' t' l cs' vs → Res q t l cs vs z (if (0 : Int) ≤ i then if i < ((List.length vs : Nat) : Int) then yU (q, t, l, cs, vs, z, q', t', l, cs', List.set vs (Int.toNat i) ((yi vs i).1, (yi vs i).2.1, s, (yi vs i).2.2.2), z, ok) else none else none) := by
  intro i s ok q' t' cs' h0 h1 hS
  rw [if_pos h0, if_pos h1]
  refine Res.fin z h ⟨⟨hS.S.1, hS.S.2.1, hS.S.2.2.1, hS.S.2.2.2.1, hS.S.2.2.2.2.1, by rw [List.length_set]; exact h.S.2.2.2.2.2⟩, fun v hv => ?_⟩ ok
  rcases List.mem_or_eq_of_mem_set hv with hv | rfl
  ·exact h.N v hv
  ·exact h.N (yi vs i) (yW Y2 vs i h0 h1)
 have loop : ∀ (k0 : Int × Int × Bool × List yb × List y0 × List y9 × List y8 × List yh × Int × Int × Int × List yb × List y0 × List y9 × List y8 × List yh → Option P7a) (k1 : Int × Int × Bool × List yb × List y0 × List y9 × List y8 × List yh × Int × Int × List yb × List y0 × List y9 × Int × List y8 × List yh → Option P7a) (s i b : Int) (ok : Bool) (y : Int), 0 ≤ i → i < (vs.length : Int) → b ≤ 1000 → -1000 ≤ b → 0 ≤ s →
   (∀ ok q' t' cs', SP q' t' l cs' vs → Res q t l cs vs z (k0 (s, i, ok, q, t, l, cs, vs, z, y, z, q', t', l, cs', vs))) →
   (∀ ok q' t' cs', SP q' t' l cs' vs → Res q t l cs vs z (k1 (s, i, ok, q, t, l, cs, vs, z, y, q', t', l, z, cs', vs))) →
   Res q t l cs vs z (wZ k0 k1 (Sum.inl (s, i, ok, b, q, t, l, cs, vs, z, y, z, q, t, l, cs, vs))) := by
  intro k0 k1 s i b ok y h0 h1 hb hb0 hs f0 f1
  unfold wZ
  refine wQ (step := jJ k0 k1) (fun u : wY => match u with | .inl u => (u.2.2.2.1 + 1).toNat + 1 | .inr u => (u.2.2.2.1 + 1).toNat)
   (fun u => match u with
    | .inl u => ∃ b ok q' t' cs', b ≤ 1000 ∧ -1000 ≤ b ∧ SP q' t' l cs' vs ∧ u = (s, i, ok, b, q, t, l, cs, vs, z, y, z, q', t', l, cs', vs)
    | .inr u => ∃ b ok q' t' cs', b ≤ 1000 ∧ -1001 ≤ b ∧ SP q' t' l cs' vs ∧ u = (s, i, ok, b, q, t, l, cs, vs, z, y, q', t', l, z, cs', vs))
   (fun _ res => Res q t l cs vs z res) ?_ _ ⟨b, ok, q, t, cs, hb, hb0, h, rfl⟩ (by simp only; omega)
  intro again u hu hag
  cases u with
  | inl u =>
   obtain ⟨b, ok, q', t', cs', k1', k2', hS, rfl⟩ := hu
   unfold jJ
   simp only at hag ⊢
   by_cases hbs : b ≥ s
   ·cases ok with
    | false =>
     simp only [decide_eq_true hbs, cond_true, Option.bind_some, cond_false]
     exact f0 _ _ _ _ hS
    | true =>
     obtain ⟨r, q2, t2, cs2, e1, h2⟩ := y0G z hS i b h0 h1
     have hw : Go.IntKind.wrap .i64 (b - 1) = b - 1 := w64 (by omega) (by omega)
     simp only [decide_eq_true hbs, cond_true, Option.bind_some, e1, hw]
     exact hag _ ⟨b - 1, r, q2, t2, cs2, by omega, by omega, h2, rfl⟩ (by simp only; omega)
   ·simp only [decide_eq_false hbs, cond_false, Option.bind_some]
    exact f0 _ _ _ _ hS
  | inr u =>
   obtain ⟨b, ok, q', t', cs', k1', k2', hS, rfl⟩ := hu
   unfold jJ
   simp only at hag ⊢
   by_cases hbs : b ≥ s
   ·cases ok with
    | false =>
     simp only [decide_eq_true hbs, cond_true, Option.bind_some, cond_false]
     exact f1 _ _ _ _ hS
    | true =>
     obtain ⟨r, q2, t2, cs2, e1, h2⟩ := y0G z hS i b h0 h1
     have hw : Go.IntKind.wrap .i64 (b - 1) = b - 1 := w64 (by omega) (by omega)
     simp only [decide_eq_true hbs, cond_true, Option.bind_some, e1, hw]
     exact hag _ ⟨b - 1, r, q2, t2, cs2, by omega, by omega, h2, rfl⟩ (by simp only; omega)
   ·simp only [decide_eq_false hbs, cond_false, Option.bind_some]
    exact f1 _ _ _ _ hS
 unfold wc
 simp only [Q8 z h n (y5w hn), y0F z h, Zy q t l cs vs z _ h.S.2.2.2.2.2, ZG, Option.bind_some, yn3, ykg]
 cases hb : Vn q t l cs vs z n 0 == 0 with
 | false =>
  have hne : (Vn q t l cs vs z n 0 != 0) = true := by
   rw [bne, hb]
   rfl
  simp only [cond_false, Option.bind_some, hne, cond_true]
  exact Res.same z _
 | true =>
  have h0 : Vn q t l cs vs z n 0 = 0 := by simpa using hb
  cases hs : inR s 1 12 with
  | false =>
   simp only [cond_true, Option.bind_some, Bool.not_false, show ((4 : Int) != 0) = true from rfl]
   exact Res.same z _
  | true =>
   have hne : (Vn q t l cs vs z n 0 != 0) = false := by
    rw [bne, hb]
    rfl
   simp only [cond_true, Option.bind_some, Bool.not_true, cond_false, hne]
   obtain ⟨hi, hp⟩ := yiF z h0
   rw [if_pos hi.1, if_pos hi.2]
   have hs' := zv.1 hs
   have hr : 1 ≤ (yi vs (YQ vs n)).2.2.1 ∧ (yi vs (YQ vs n)).2.2.1 ≤ 12 := by
    unfold yr at hp
    simp only [Bool.and_eq_true] at hp
    have hv := hp.2.2.2.2.2.1
    unfold ji at hv
    simp only [Bool.and_eq_true, Bool.not_eq_true'] at hv
    obtain ⟨j, hj⟩ := J6 _ vs 0 hv.1 _ (yW Y2 vs _ hi.1 hi.2)
    unfold yes at hj
    simp only [Bool.or_eq_false_iff, Bool.not_eq_false', zv] at hj
    exact hj.2.1
   have hw : Go.IntKind.wrap .i64 ((yi vs (YQ vs n)).2.2.1 - 1) = (yi vs (YQ vs n)).2.2.1 - 1 := w64 (by omega) (by omega)
   rw [hw]
   exact loop _ _ s (YQ vs n) _ true 0 hi.1 hi.2 (by omega) (by omega) (by omega) (fun ok q' t' cs' hS => fin _ s ok q' t' cs' hi.1 hi.2 hS) (fun ok q' t' cs' hS => fin _ s ok q' t' cs' hi.1 hi.2 hS)
end
end Go.Proofs.YtjllpipmaejeoaaGreat.Pl
namespace Go.Proofs.YtjllpipmaejeoaaGreat.Pl
open Go.Proofs.YtjllpipmaejeoaaGreat.R Go.Proofs.YtjllpipmaejeoaaGreat.XV
def JV (cs : List y8) : Int := zE (fun c : y8 => !c.2.1) cs 0
def yeA (cs : List y8) (n : Int) : List y8 × Int × Bool :=
 if zc cs = true ∧ isW n = true ∧ ¬ JV cs < 0 then (cs.set (JV cs).toNat ((cs.getD (JV cs).toNat yQ).1, true, n), JV cs, true) else (cs, 0, false)
theorem yiG {cs : List y8} (h : ¬ JV cs < 0) : 0 ≤ JV cs ∧ JV cs < (cs.length : Int) ∧ (cs.getD (JV cs).toNat yQ).2.1 = false := by
 rcases Yh (fun c : y8 => !c.2.1) yQ cs 0 (Int.le_refl _) with h1 | ⟨h1, h2, h3⟩
 ·exact absurd (show JV cs < 0 by unfold JV; omega) h
 ·rw [Int.sub_zero] at h3
  refine ⟨h1, by show zE (fun c : y8 => !c.2.1) cs 0 < _; omega, ?_⟩
  have : (!(cs.getD (JV cs).toNat yQ).2.1) = true := h3
  simpa using this
theorem yaJ (cs : List y8) (n : Int) : (yeA cs n).1.length = cs.length := by
 unfold yeA
 split <;> simp
theorem ygA (cs : List y8) (i : Int) (n : Int) (h0 : 0 ≤ i) (h1 : i < (cs.length : Int)) :
  (List.set (List.set cs (Int.toNat i) ((yA cs i).1, true, (yA cs i).2.2)) (Int.toNat i) ((yA (List.set cs (Int.toNat i) ((yA cs i).1, true, (yA cs i).2.2)) i).1, (yA (List.set cs (Int.toNat i) ((yA cs i).1, true, (yA cs i).2.2)) i).2.1, n)) = cs.set i.toNat ((cs.getD i.toNat yQ).1, true, n) := by
 have hr : yA (List.set cs (Int.toNat i) ((yA cs i).1, true, (yA cs i).2.2)) i = ((yA cs i).1, true, (yA cs i).2.2) := by
  show (List.set cs (Int.toNat i) ((yA cs i).1, true, (yA cs i).2.2)).getD i.toNat yQ = _
  rw [List.getD_eq_getElem?_getD, List.getElem?_set_self (by omega)]
  rfl
 rw [hr, List.set_set]
 rfl
theorem ycn {cs : List y8} {n : Int} (h : ¬ (zc cs = true ∧ isW n = true ∧ ¬ JV cs < 0)) : yeA cs n = (cs, 0, false) := if_neg h
theorem ydt {cs : List y8} {n : Int} (h : zc cs = true ∧ isW n = true ∧ ¬ JV cs < 0) : yeA cs n = (cs.set (JV cs).toNat ((cs.getD (JV cs).toNat yQ).1, true, n), JV cs, true) := if_pos h
theorem y40 (cs : List y8) (n : Int) (hc : cs.length ≤ 1048576) : Y9 (cs, n) = some (yeA cs n) := by
 have e1 : Y8 cs = some cs := by
  unfold Y8
  rw [if_pos (by simp only [List.length_nil]; omega)]
  rfl
 unfold Y9 kS
 simp only [e1, Option.bind_some]
 by_cases hok : zc cs = true ∧ isW n = true
 ·refine (Yz (step := zJ _ _) (fun i => (cs, n, i, cs)) (fun c : y8 => !c.2.1) (fun i => some (cs.set i.toNat ((cs.getD i.toNat yQ).1, true, n), i, true)) (some (cs, 0, false)) yQ cs (by omega) ?_ ?_).trans ?_
  ·intro again i h0 h1
   have hw : Go.IntKind.wrap .i64 (i + 1) = i + 1 := w64 (by omega) (by omega)
   unfold zJ
   have hx : cs.getD i.toNat yQ = yA cs i := rfl
   have hs := ygA cs i n h0 h1
   rw [hx] at hs ⊢
   simp only [Bool.cond_eq_ite, decide_eq_true_eq, h0, h1, if_true, hw, JP cs hc, qG, hok.1, hok.2, Option.bind_some, List.length_set, hs]
  ·intro again i hi
   unfold zJ
   simp only [Bool.cond_eq_ite, decide_eq_true_eq, if_neg hi, Option.bind_some, Bool.false_eq_true, if_false]
  ·show (if JV cs < 0 then _ else _) = _
   by_cases hf : JV cs < 0
   ·rw [if_pos hf, ycn fun h => h.2.2 hf]
   ·rw [if_neg hf, ydt ⟨hok.1, hok.2, hf⟩]
    rfl
 ·rw [ycn fun h => hok ⟨h.1, h.2.1⟩]
  refine Zv (step := zJ _ _) (fun _ => 0) (fun u => u = (cs, n, 0, cs)) (fun _ => some (cs, 0, false)) ?_ _ rfl (by decide)
  rintro again u rfl _
  unfold zJ
  simp only [JP cs hc, qG, Option.bind_some]
  cases hk : zc cs with
  | false => cases decide ((0 : Int) < (cs.length : Int)) <;> rfl
  | true =>
   have hw : isW n = false := by
    cases hw : isW n with
    | false => rfl
    | true => exact absurd ⟨hk, hw⟩ hok
   rw [hw]
   cases decide ((0 : Int) < (cs.length : Int)) <;> rfl
def yaK (q : List Int) (t : List y0) (i : Int) : List Int × List y0 := (q, t.set i.toNat (yM (yz (ye t i))))
theorem yaL (q : List Int) (t : List y0) (i : Int) (h : TS t) (hq : q.length ≤ 1048576) (h0 : 0 ≤ i) (h1 : i < (t.length : Int)) : Jt (q, t, i) = some (yaK q t i) := by
 have ht := h.ok.len
 have hN := nk h h0 h1
 have hk := hN.keys
 have hm : Go.IntKind.wrap .i64 ((t.length : Int) - 1) = (t.length : Int) - 1 := w64 (by omega) (by omega)
 unfold Jt WV
 simp only [qb q t hq (by omega) (fun n hn => (h.node n hn).q), ZG, hm, Option.bind_some]
 rw [zv.2 ⟨h0, by omega⟩, cond_true, if_pos h0, if_pos h1, Vk h h0 h1]
 simp only [Option.bind_some]
 rw [JS _ (by omega)]
 simp only [Option.bind_some]
 rw [if_pos h0, if_pos h1]
 rfl
end Go.Proofs.YtjllpipmaejeoaaGreat.Pl
namespace Go.Proofs.YtjllpipmaejeoaaGreat.Pl
open Go.Proofs.YtjllpipmaejeoaaGreat.R Go.Proofs.YtjllpipmaejeoaaGreat.XV
end Go.Proofs.YtjllpipmaejeoaaGreat.Pl
namespace Go.Proofs.YtjllpipmaejeoaaGreat.Pl
open Go.Proofs.YtjllpipmaejeoaaGreat.R Go.Proofs.YtjllpipmaejeoaaGreat.XV
def yCd (l : List yh) : Prop := ∀ j, j + 1 < l.length → Go.Op.bytesLess (ByteArray.toList (l.getD j Y2).1) (ByteArray.toList (l.getD (j + 1) Y2).1) = true
theorem yiH {vs : List yh} {l : List y9} (h : ji vs l = true) : yCd vs := by
 intro j hj
 unfold ji at h
 simp only [Bool.and_eq_true, Bool.not_eq_true'] at h
 have := Ja Y2 vs 0 h.1 (j + 1) hj
 unfold yes at this
 simp only [Bool.or_eq_false_iff, Bool.not_eq_false', Bool.and_eq_false_iff] at this
 rcases this.2.2.2.2.1 with h1 | h1
 ·have := of_decide_eq_false h1
  omega
 ·rwa [show ((0 : Int) + ((j + 1 : Nat) : Int) - 1).toNat = j by omega] at h1
section
variable (q : List yb) (t : List y0) (l : List y9) (cs : List y8) (vs : List yh) (z : Int)
variable {q t l cs vs} (h : SP q t l cs vs)
include h
omit h in
end
end Go.Proofs.YtjllpipmaejeoaaGreat.Pl
namespace Go.Proofs.YtjllpipmaejeoaaGreat.Pl
open Go.Proofs.YtjllpipmaejeoaaGreat.R Go.Proofs.YtjllpipmaejeoaaGreat.XV
section
variable {q : List yb} {t : List y0} {l : List y9} {cs : List y8} {vs : List yh} (z : Int) (h : SP q t l cs vs)
include h
end
end Go.Proofs.YtjllpipmaejeoaaGreat.Pl
namespace Go.Proofs.YtjllpipmaejeoaaGreat.Pl
open Go.Proofs.YtjllpipmaejeoaaGreat.R Go.Proofs.YtjllpipmaejeoaaGreat.XV
theorem ydu {l : List Int} {v : Int} : yhd l v = true ↔ v ∈ l := by
 unfold yhd
 constructor
 ·intro h
  have h := of_decide_eq_true h
  rcases Yh (fun a : Int => a == v) y2V l 0 (Int.le_refl _) with h1 | ⟨h1, h2, h3⟩
  ·omega
  ·have h4 : l.getD (zE (fun a : Int => a == v) l 0 - 0).toNat y2V = v := by simpa using h3
   rw [← h4, Int.sub_zero]
   exact yW y2V l _ h1 (by omega)
 ·intro h
  refine decide_eq_true ?_
  refine Decidable.byContradiction fun hn => ?_
  have := Wp (p := fun a : Int => a == v) l 0 (Int.le_refl _) (by omega) v h
  simp at this
theorem ydv (b : Int) : ∀ (l s : List y7), l.foldl (y0n b) s = s ++ l.filter fun k => k.1 == b
 | [], s => by simp
 | c :: l, s => by
  rw [List.foldl_cons, ydv b l, List.filter_cons]
  unfold y0n
  cases c.1 == b <;> simp
theorem YE {l : List y7} {b : Int} {k : y7} : k ∈ zF l b ↔ k ∈ l ∧ k.1 = b := by
 unfold zF
 rw [ydv, List.nil_append, List.mem_filter]
 simp
theorem yn6 (path : List Int) : ∀ (l : List y7) (s : Bool × y7), (l.foldl (W9 path) s = s ∧ ∀ c ∈ l, c.2.1 ∈ path → s.1 = true ∧ c.2.1 ≤ s.2.2.1) ∨
  ((l.foldl (W9 path) s).1 = true ∧ (l.foldl (W9 path) s).2 ∈ l ∧ (l.foldl (W9 path) s).2.2.1 ∈ path ∧ (s.1 = true → s.2.2.1 ≤ (l.foldl (W9 path) s).2.2.1) ∧ ∀ c ∈ l, c.2.1 ∈ path → c.2.1 ≤ (l.foldl (W9 path) s).2.2.1)
 | [], s => .inl ⟨rfl, fun c hc => by simp at hc⟩
 | a :: l, s => by
  rw [List.foldl_cons]
  by_cases h : yhd path a.2.1 = true ∧ (s.1 = false ∨ s.2.2.1 < a.2.1)
  ·have e : W9 path s a = (true, a) := if_pos h
   have hp := ydu.1 h.1
   have hs : s.1 = true → s.2.2.1 ≤ a.2.1 := fun h1 => by
    rcases h.2 with h2 | h2
    ·rw [h1] at h2
     cases h2
    ·omega
   rw [e]
   rcases yn6 path l (true, a) with ⟨h1, h2⟩ | ⟨h1, h2, h3, h4, h5⟩
   ·rw [h1]
    exact .inr ⟨rfl, by simp, hp, hs, fun c hc hcp => by
     rcases List.mem_cons.1 hc with rfl | hc
     ·exact Int.le_refl _
     ·exact (h2 c hc hcp).2⟩
   ·have h6 := h4 rfl
    exact .inr ⟨h1, List.mem_cons_of_mem _ h2, h3, fun h7 => Int.le_trans (hs h7) h6, fun c hc hcp => by
     rcases List.mem_cons.1 hc with rfl | hc
     ·exact h6
     ·exact h5 c hc hcp⟩
  ·have e : W9 path s a = s := if_neg h
   rw [e]
   have ha : a.2.1 ∈ path → s.1 = true ∧ a.2.1 ≤ s.2.2.1 := fun hp => by
    have h1 := ydu.2 hp
    refine ⟨?_, ?_⟩
    ·cases hs : s.1 with
     | true => rfl
     | false => exact absurd ⟨h1, .inl hs⟩ h
    ·by_cases h2 : s.2.2.1 < a.2.1
     ·exact absurd ⟨h1, .inr h2⟩ h
     ·omega
   rcases yn6 path l s with ⟨h1, h2⟩ | ⟨h1, h2, h3, h4, h5⟩
   ·exact .inl ⟨h1, fun c hc hcp => by
     rcases List.mem_cons.1 hc with rfl | hc
     ·exact ha hcp
     ·exact h2 c hc hcp⟩
   ·exact .inr ⟨h1, List.mem_cons_of_mem _ h2, h3, h4, fun c hc hcp => by
     rcases List.mem_cons.1 hc with rfl | hc
     ·have := ha hcp
      exact Int.le_trans this.2 (h4 this.1)
     ·exact h5 c hc hcp⟩
theorem qL (ks : List y7) (path : List Int) : (zB ks path = (false, (0, 0, 0, 0, 0)) ∧ ∀ c ∈ ks, c.2.1 ∉ path) ∨ ((zB ks path).1 = true ∧ (zB ks path).2 ∈ ks ∧ (zB ks path).2.2.1 ∈ path ∧ ∀ c ∈ ks, c.2.1 ∈ path → c.2.1 ≤ (zB ks path).2.2.1) := by
 rcases yn6 path ks (false, (0, 0, 0, 0, 0)) with ⟨h1, h2⟩ | ⟨h1, h2, h3, _, h5⟩
 ·exact .inl ⟨h1, fun c hc hp => by have := (h2 c hc hp).1; cases this⟩
 ·exact .inr ⟨h1, h2, h3, h5⟩
theorem y95 (id : Int) : ∀ (l : List y9) (s : List Int), l.foldl (qH id) s = s ++ (l.filter fun a => a.2 == id && id != 0).map fun a => a.1
 | [], s => by simp
 | c :: l, s => by
  rw [List.foldl_cons, y95 id l, List.filter_cons]
  unfold qH
  cases c.2 == id && id != 0 <;> simp
theorem ygB {l : List y9} {id : Int} (h0 : id ≠ 0) {a : y9} (ha : a ∈ l) (he : a.2 = id) : 0 < (zg l id).length := by
 unfold zg
 rw [y95, List.nil_append, List.length_map]
 refine List.length_pos_of_mem (List.mem_filter.2 ⟨ha, ?_⟩)
 rw [he]
 simp [h0]
theorem wU {l : List y9} {id : Int} (h : 0 ≤ yS l id) : yS l id < l.length ∧ (l.getD (yS l id).toNat yx).1 = id := by
 rcases Yh (fun a : y9 => a.1 == id) yx l 0 (Int.le_refl _) with h1 | ⟨h1, h2, h3⟩
 ·unfold yS at h
  omega
 ·rw [Int.sub_zero] at h3
  exact ⟨by unfold yS; omega, by simpa [yS] using h3⟩
structure AgesR (l : List y9) : Prop where
 up : ∀ i, i + 1 < l.length → (l.getD i yx).1 < (l.getD (i + 1) yx).1
 pos : ∀ i, i < l.length → 1 ≤ (l.getD i yx).1 ∧ (l.getD i yx).1 ≤ 60
 frm : ∀ i, i < l.length → (l.getD i yx).2 ≠ 0 → ∃ j, j < i ∧ (l.getD j yx).1 = (l.getD i yx).2
theorem y0H {l : List y9} (h : YO l = true) : AgesR l := by
 unfold YO at h
 simp only [Bool.and_eq_true, Bool.not_eq_true', decide_eq_true_eq] at h
 have hb : ∀ i, i < l.length → y31 l i (l.getD i yx) = false := fun i hi => by
  have := Ja yx l 0 h.1 i hi
  rwa [show (0 : Int) + (i : Int) = i by omega] at this
 refine ⟨fun i hi => ?_, fun i hi => ?_, fun i hi h0 => ?_⟩
 ·have := hb (i + 1) hi
  unfold y31 at this
  simp only [Bool.or_eq_false_iff, Bool.and_eq_false_iff, decide_eq_false_iff_not] at this
  rcases this.2.1 with h1 | h1
  ·omega
  ·rw [show (((i + 1 : Nat) : Int) - 1).toNat = i by omega] at h1
   omega
 ·have := hb i hi
  unfold y31 at this
  simp only [Bool.or_eq_false_iff, Bool.not_eq_false', zv] at this
  exact this.1
 ·have := hb i hi
  unfold y31 at this
  simp only [Bool.or_eq_false_iff, Bool.and_eq_false_iff, decide_eq_false_iff_not, bne_eq_false_iff_eq] at this
  rcases this.2.2 with h1 | h1
  ·exact absurd h1 h0
  ·have hf : ycc l (i : Int) = l.take i := by
    unfold ycc
    simp
   rw [hf] at h1
   obtain ⟨h2, h3⟩ := wU (l := l.take i) (id := (l.getD i yx).2) (by omega)
   rw [List.length_take] at h2
   refine ⟨(yS (l.take i) (l.getD i yx).2).toNat, by omega, ?_⟩
   rw [List.getD_eq_getElem?_getD, List.getElem?_take, if_pos (by omega), ← List.getD_eq_getElem?_getD] at h3
   exact h3
theorem AgesR.lt {l : List y9} (h : AgesR l) : ∀ (d i : Nat), i + 1 + d < l.length → (l.getD i yx).1 < (l.getD (i + 1 + d) yx).1
 | 0, i, hi => h.up i hi
 | d + 1, i, hi => by
  have h1 := AgesR.lt h d i (by omega)
  have h2 := h.up (i + 1 + d) (by omega)
  rw [show i + 1 + (d + 1) = i + 1 + d + 1 by omega]
  omega
theorem ydw {l : List y9} (h : AgesR l) : ∀ (n : Nat) (i : Int), 0 ≤ i → i < l.length → ∀ x ∈ Kf l n i, x = (l.getD i.toNat yx).1 ∨ (x < (l.getD i.toNat yx).1 ∧ x ≠ 0 ∧ ∃ a ∈ l, a.2 = x)
 | 0, _, _, _, x, hx => by simp [Kf] at hx
 | n + 1, i, h0, h1, x, hx => by
  rw [kw l n i h0] at hx
  rcases List.mem_cons.1 hx with rfl | hx
  ·exact .inl rfl
  ·have hj : 0 ≤ yS l (l.getD i.toNat yx).2 := by
    refine Decidable.byContradiction fun hn => ?_
    cases n with
    | zero => simp [Kf] at hx
    | succ n =>
     rw [Kf, if_pos (by omega)] at hx
     simp at hx
   obtain ⟨j1, j2⟩ := wU hj
   have hp := h.pos (yS l (l.getD i.toNat yx).2).toNat (by omega)
   rw [j2] at hp
   have hlt : (l.getD i.toNat yx).2 < (l.getD i.toNat yx).1 := by
    obtain ⟨j, hj1, hj2⟩ := h.frm i.toNat (by omega) (by omega)
    rw [← hj2]
    have := h.lt (i.toNat - (j + 1)) j (by omega)
    rw [show j + 1 + (i.toNat - (j + 1)) = i.toNat by omega] at this
    exact this
   have hmem : l.getD i.toNat yx ∈ l := yW yx l i h0 h1
   rcases ydw h n _ hj j1 x hx with h3 | ⟨h3, h4, h5⟩
   ·rw [j2] at h3
    subst h3
    exact .inr ⟨hlt, by omega, _, hmem, rfl⟩
   ·rw [j2] at h3
    exact .inr ⟨by omega, h4, h5⟩
theorem y6U {l : List y9} (h : AgesR l) {id : Int} (hi : 0 ≤ yS l id) {x : Int} (hx : x ∈ yN l id) : x = id ∨ (x < id ∧ x ≠ 0 ∧ ∃ a ∈ l, a.2 = x) := by
 obtain ⟨h1, h2⟩ := wU hi
 have := ydw h _ _ hi h1 x hx
 rwa [h2] at this
theorem yco {l : List y9} {id : Int} (hi : 0 ≤ yS l id) : id ∈ yN l id := by
 obtain ⟨h1, h2⟩ := wU hi
 unfold yN
 rw [kw l _ _ hi, h2]
 simp
def y9h (K : List y7) (l : List y9) (cs : List y8) (b age : Int) : Int :=
 if ((zB (zF K b) (yN l age)).1 && (zB (zF K b) (yN l age)).2.2.2.1 == 1) = true then (Z5 cs (zB (zF K b) (yN l age)).2.2.2.2.1 (zB (zF K b) (yN l age)).2.2.2.2.2).1 else 0
section
variable {q : List yb} {t : List y0} {l : List y9} {cs : List y8} {vs : List yh} (z : Int) (h : SP q t l cs vs)
include h
theorem y41 (i b : Int) (h0 : 0 ≤ i) (h1 : i < (vs.length : Int)) (hr : 1 ≤ (yi vs i).2.2.1 ∧ (yi vs i).2.2.1 ≤ 12) (hb : inR b 0 (Go.IntKind.wrap .i64 ((yi vs i).2.2.1 - 1)) = true) : ZE (q, t, l, cs, vs, z, i, b) = some (y9h (yc t) l cs b (yi vs i).2.1) := by
 have hq := h.tq
 have hv := h.S.2.2.2.2.2
 have hm : Go.IntKind.wrap .i64 ((vs.length : Int) - 1) = (vs.length : Int) - 1 := w64 (by omega) (by omega)
 unfold ZE y9h
 simp only [jh, hm, hb, zv.2 ⟨h0, show i ≤ (vs.length : Int) - 1 by omega⟩, Bool.not_true, cond_false, if_pos h0, if_pos h1, Option.bind_some, y3y q t l b _ hq.T h.S.2.2.2.1, y1s cs _ _ h.S.2.2.2.2.1]
 unfold ya7 ans
 obtain ⟨r1, r2⟩ := zB (zF (yc t) b) (yN l (yi vs i).2.1)
 cases r1 with
 | false => rfl
 | true =>
  simp only [Bool.not_true, cond_false, Bool.true_and]
  by_cases hk : r2.2.2.1 = 1
  ·rw [show (r2.2.2.1 != 1) = false by simp [hk], show (r2.2.2.1 == 1) = true by simp [hk]]
   rfl
  ·rw [show (r2.2.2.1 != 1) = true by simp [hk], show (r2.2.2.1 == 1) = false by simp [hk]]
   rfl
end
end Go.Proofs.YtjllpipmaejeoaaGreat.Pl
namespace Go.Proofs.YtjllpipmaejeoaaGreat.Pl
open Go.Proofs.YtjllpipmaejeoaaGreat.R Go.Proofs.YtjllpipmaejeoaaGreat.XV
theorem KQ {A : Type} [BEq A] [LawfulBEq A] : ∀ (l m : List A), l.Nodup → (∀ x ∈ l, x ∈ m) → l.length ≤ m.length
 | [], _, _, _ => Nat.zero_le _
 | a :: l, m, hn, hs => by
  have h1 := List.nodup_cons.1 hn
  have ha := hs a (by simp)
  have h2 := KQ l (m.erase a) h1.2 fun x hx => (List.mem_erase_of_ne (by rintro rfl; exact h1.1 hx)).2 (hs x (by simp [hx]))
  rw [List.length_erase_of_mem ha] at h2
  have := List.length_pos_of_mem ha
  simp only [List.length_cons]
  omega
def y2z (k : y7) : Bool := k.2.2.1 == 1
def kB (ks : List y7) : List Int := (ks.filter y2z).map fun k : y7 => k.2.2.2.1
def jA : List y8 → Int → List Int
 | [], _ => []
 | c :: l, i => if c.2.1 = true then i :: jA l (i + 1) else jA l (i + 1)
theorem Vo : ∀ (l : List y8) (i : Int) (j : Nat), j < l.length → (l.getD j yQ).2.1 = true → i + j ∈ jA l i
 | c :: l, i, 0, _, h => by
  have h' : c.2.1 = true := h
  rw [jA, if_pos h']
  simp
 | c :: l, i, j + 1, hj, h => by
  have := Vo l (i + 1) j (by simpa using hj) (by simpa using h)
  rw [show i + ((j + 1 : Nat) : Int) = i + 1 + j by omega, jA]
  split
  ·exact List.mem_cons_of_mem _ this
  ·exact this
theorem y12 : ∀ (l : List y8) (s i : Int), 0 ≤ s → s + l.length ≤ 1048576 → l.foldl Q0 s = s + (jA l i).length
 | [], s, _, _, _ => by simp [jA]
 | c :: l, s, i, h0, h1 => by
  simp only [List.length_cons] at h1
  rw [List.foldl_cons, jA]
  unfold Q0
  split
  ·rw [w64 (by omega) (by omega)]
   have := y12 l (s + 1) (i + 1) (by omega) (by omega)
   unfold Q0 at this
   rw [this, List.length_cons]
   omega
  ·have := y12 l s (i + 1) h0 (by omega)
   unfold Q0 at this
   rw [this]
theorem y96 : ∀ (l : List y7) (s : Int), 0 ≤ s → s + l.length ≤ 1048576 → l.foldl y0q s = s + (kB l).length
 | [], s, _, _ => by simp [kB]
 | k :: l, s, h0, h1 => by
  simp only [List.length_cons] at h1
  rw [List.foldl_cons]
  unfold y0q
  by_cases hk : (k.2.2.1 == 1) = true
  ·rw [if_pos hk, w64 (by omega) (by omega)]
   have := y96 l (s + 1) (by omega) (by omega)
   unfold y0q at this
   rw [this]
   have hk' : y2z k = true := hk
   simp only [kB, List.filter_cons, hk', if_true, List.map_cons, List.length_cons]
   omega
  ·rw [if_neg hk]
   have := y96 l s h0 (by omega)
   unfold y0q at this
   rw [this]
   have hk' : y2z k = false := by simpa [y2z] using hk
   simp only [kB, List.filter_cons, hk', Bool.false_eq_true, if_false]
section
variable {ks : List y7} {l : List y9} {cs : List y8} (h : ZL ks l cs = true)
include h
theorem y97 : Yq (yce ks l cs) ks 0 = false ∧ ks.foldl y0q 0 = QA cs := by
 unfold ZL at h
 simp only [Bool.and_eq_true, Bool.not_eq_true', beq_iff_eq] at h
 exact h
theorem y1M (j : Nat) (hj : j < ks.length) (hd : y2z (ks.getD j yH) = true) : (0 ≤ (ks.getD j yH).2.2.2.1 ∧ (ks.getD j yH).2.2.2.1 < (cs.length : Int) ∧ (cs.getD (ks.getD j yH).2.2.2.1.toNat yQ).2.1 = true) ∧ ∀ i, i < j → y2z (ks.getD i yH) = true → (ks.getD i yH).2.2.2.1 ≠ (ks.getD j yH).2.2.2.1 := by
 have h1 := Ja yH ks 0 (y97 h).1 j hj
 unfold yce at h1
 have hd' : ((ks.getD j yH).2.2.1 == 1) = true := hd
 simp only [hd', Bool.or_eq_false_iff, Bool.true_and, Bool.not_eq_false'] at h1
 obtain ⟨_, h2, h3⟩ := h1
 refine ⟨?_, fun i hi hdi he => ?_⟩
 ·unfold Z5 at h2
  split at h2
  ·rename_i hh
   simp only [Bool.and_eq_true] at hh
   have := zv.1 hh.1
   exact ⟨this.1, by omega, hh.2.1⟩
  ·cases h2
 ·have hlen : (ks.take j).length = j := by simp; omega
  rw [show ((0 : Int) + (j : Int)).toNat = j by omega] at h3
  have h4 := Ja yH (ks.take j) 0 h3 i (by omega)
  unfold zm at h4
  have e : (ks.take j).getD i yH = ks.getD i yH := by
   rw [List.getD_eq_getElem?_getD, List.getD_eq_getElem?_getD, List.getElem?_take, if_pos hi]
  rw [e, show ((ks.getD i yH).2.2.1 == 1) = true from hdi, he] at h4
  simp at h4
theorem ygC : (kB ks).Nodup := by
 unfold kB List.Nodup
 rw [List.pairwise_map, List.pairwise_filter, List.pairwise_iff_getElem]
 intro i j hi hj hij h1 h2
 have ei : ks.getD i yH = ks[i] := by simp [hi]
 have ej : ks.getD j yH = ks[j] := by simp [hj]
 have := (y1M h j hj (by rw [ej]; exact h2)).2 i hij (by rw [ei]; exact h1)
 rw [ei, ej] at this
 exact this
theorem ygD (hk : ks.length ≤ 1048576) (hc : cs.length ≤ 1048576) {i : Int} (i0 : 0 ≤ i) (i1 : i < (cs.length : Int)) (hu : (cs.getD i.toNat yQ).2.1 = true) :
  ¬ zE (zm i 0) ks 0 < 0 ∧ ∀ j : Nat, j < ks.length → (j : Int) ≠ zE (zm i 0) ks 0 → zm i 0 (ks.getD j yH) = false := by
 have hmem : i ∈ kB ks := by
  refine Classical.byContradiction fun hn => ?_
  have h1 := KQ (i :: kB ks) (jA cs 0) (List.nodup_cons.2 ⟨hn, ygC h⟩) fun x hx => by
   rcases List.mem_cons.1 hx with rfl | hx
   ·have := Vo cs 0 x.toNat (by omega) hu
    rwa [show (0 : Int) + (x.toNat : Int) = x by omega] at this
   ·obtain ⟨k, hk, rfl⟩ := List.mem_map.1 hx
    obtain ⟨hk, hd⟩ := List.mem_filter.1 hk
    obtain ⟨j, hj, rfl⟩ := List.mem_iff_getElem.1 hk
    have ej : ks.getD j yH = ks[j] := by simp [hj]
    obtain ⟨⟨a1, a2, a3⟩, _⟩ := y1M h j hj (by rw [ej]; exact hd)
    rw [ej] at a1 a2 a3
    have := Vo cs 0 (ks[j].2.2.2.1).toNat (by omega) a3
    rwa [show (0 : Int) + ((ks[j].2.2.2.1).toNat : Int) = ks[j].2.2.2.1 by omega] at this
  have h2 := (y97 h).2
  unfold QA at h2
  rw [y96 ks 0 (Int.le_refl _) (by omega), y12 cs 0 0 (Int.le_refl _) (by omega)] at h2
  simp only [List.length_cons] at h1
  omega
 obtain ⟨k, hk, rfl⟩ := List.mem_map.1 hmem
 obtain ⟨hk, hd⟩ := List.mem_filter.1 hk
 obtain ⟨j, hj, rfl⟩ := List.mem_iff_getElem.1 hk
 have ej : ks.getD j yH = ks[j] := by simp [hj]
 have hdj : zm (ks[j].2.2.2.1) 0 ks[j] = true := by
  unfold zm
  rw [show (ks[j].2.2.1 == 1) = true from hd]
  simp
 have hf : ¬ zE (zm (ks[j].2.2.2.1) 0) ks 0 < 0 := fun hneg => by
  have hall : ∀ (l : List y7) (i : Int), 0 ≤ i → zE (zm (ks[j].2.2.2.1) 0) l i < 0 → ∀ a ∈ l, zm (ks[j].2.2.2.1) 0 a = false := by
   intro l
   induction l with
   | nil => intro _ _ _ a ha; simp at ha
   | cons b l ih =>
    intro i hi hl a ha
    rw [zE] at hl
    split at hl
    ·omega
    ·rename_i hb
     rcases List.mem_cons.1 ha with rfl | ha
     ·simpa using hb
     ·exact ih (i + 1) (by omega) hl a ha
  rw [hall ks 0 (Int.le_refl _) hneg _ hk] at hdj
  cases hdj
 refine ⟨hf, fun j' hj' hne => ?_⟩
 rcases Yh (zm (ks[j].2.2.2.1) 0) yH ks 0 (Int.le_refl _) with h1 | ⟨h1, h2, h3⟩
 ·omega
 ·rw [Int.sub_zero] at h3
  have hkey : ∀ k : y7, zm (ks[j].2.2.2.1) 0 k = true → y2z k = true ∧ k.2.2.2.1 = ks[j].2.2.2.1 := fun k hk => by
   unfold zm at hk
   rw [Bool.and_eq_true, beq_iff_eq (a := k.2.2.2.1)] at hk
   exact hk
  cases hdup : zm (ks[j].2.2.2.1) 0 (ks.getD j' yH) with
  | false => rfl
  | true =>
   obtain ⟨a1, a2⟩ := hkey _ hdup
   obtain ⟨b1, b2⟩ := hkey _ h3
   have hm' : (zE (zm (ks[j].2.2.2.1) 0) ks 0).toNat < ks.length := by omega
   rcases Nat.lt_or_gt_of_ne (show j' ≠ (zE (zm (ks[j].2.2.2.1) 0) ks 0).toNat by omega) with hlt | hlt
   ·exact absurd (a2.trans b2.symm) ((y1M h _ hm' b1).2 j' hlt a1)
   ·exact absurd (b2.trans a2.symm) ((y1M h j' hj' a1).2 _ hlt b1)
end
theorem y68 (q : List Int) (t : List y0) (l : List y9) (cs : List y8) (vs : List yh) (z i : Int) (ht : TOk t) : WW (q, t, l, cs, vs, z, i) = some (if zE (zm i 0) (yc t) 0 < 0 then (0, 0, 0, 0, 0) else (yc t).getD (zE (zm i 0) (yc t) 0).toNat yH) := by
 have ek : yP (q, t) = some (yc t) := YG q t (by have := ht.len; omega) ht.nodes ht.sum
 have hk := ht.keys
 unfold WW y05
 simp only [ek, Option.bind_some]
 refine (Yz (step := Ju _ _) (fun j => (i, j, 0, 0, 0, 0, 0, yc t)) (zm i 0) (fun j => some ((yc t).getD j.toNat yH)) (some (0, 0, 0, 0, 0)) yH (yc t) (by omega) ?_ ?_).trans ?_
 ·intro again j h0 h1
  have hw : Go.IntKind.wrap .i64 (j + 1) = j + 1 := w64 (by omega) (by omega)
  unfold Ju zm
  have hx : (yc t).getD j.toNat yH = y6 (yc t) j := rfl
  rw [hx]
  simp only [Bool.cond_eq_ite, decide_eq_true_eq, h0, h1, if_true, hw]
  cases ((y6 (yc t) j).2.2.1 == 1) <;> cases ((y6 (yc t) j).2.2.2.1 == i) <;> rfl
 ·intro again j hj
  unfold Ju
  simp only [Bool.cond_eq_ite, decide_eq_true_eq, if_neg hj]
 ·split <;> rfl
section
variable (q : List yb) (t : List y0) (l : List y9) (cs : List y8) (vs : List yh) (z : Int)
def y5x (i : Int) : y7 := (yc t).getD (zE (zm i 0) (yc t) 0).toNat yH
def y3c (i : Int) : List y8 := (yeA cs (cs.getD i.toNat yQ).2.2).1
def y5y (i : Int) : List Int × List y0 × Bool := yk q t ((y5x t i).1, (y5x t i).2.1, (y5x t i).2.2.1, JV cs, ((y3c cs i).getD (JV cs).toNat yQ).1)
def y0I (i : Int) : PO × Bool := (((y5y q t cs i).1, (y5y q t cs i).2.1, l, y19 (y3c cs i) i, vs, z), (y5y q t cs i).2.2)
noncomputable def ygE (i : Int) : PO × Bool :=
 if yr q t l cs vs z = true ∧ 0 ≤ i ∧ i ≤ 23 ∧ (cs.getD i.toNat yQ).2.1 = true ∧ ¬ JV cs < 0 ∧ JV cs ≤ i then yck (q, t, l, cs, vs, z) (y0I q t l cs vs z i) else ((q, t, l, cs, vs, z), false)
theorem y5z {i : Int} (h : ¬ (yr q t l cs vs z = true ∧ 0 ≤ i ∧ i ≤ 23 ∧ (cs.getD i.toNat yQ).2.1 = true ∧ ¬ JV cs < 0 ∧ JV cs ≤ i)) : ygE q t l cs vs z i = ((q, t, l, cs, vs, z), false) := if_neg h
variable {q t l cs vs} (h : SP q t l cs vs)
include h
theorem ygF (i : Int) : SP (y0I q t l cs vs z i).1.1 (y0I q t l cs vs z i).1.2.1 (y0I q t l cs vs z i).1.2.2.1 (y0I q t l cs vs z i).1.2.2.2.1 (y0I q t l cs vs z i).1.2.2.2.2.1 :=
 (Kj _ h.tq).sp h h.S.2.2.2.1 (by
  have h1 := y5n (y3c cs i) i
  have h2 := yaJ cs (cs.getD i.toNat yQ).2.2
  have h3 := h.S.2.2.2.2.1
  show (y19 (y3c cs i) i).length ≤ _
  unfold y3c at h1 ⊢
  omega)
theorem y6V (hp : yr q t l cs vs z = true) : zc cs = true ∧ ZL (yc t) l cs = true ∧ z6 q t = true := by
 unfold yr at hp
 simp only [Bool.and_eq_true] at hp
 exact ⟨hp.2.2.1, hp.2.2.2.2.2.2, hp.1⟩
omit h in
theorem yaM {cs : List y8} (hc : zc cs = true) (i : Nat) (hi : i < cs.length) : isW (cs.getD i yQ).2.2 = true := by
 unfold zc at hc
 simp only [Bool.and_eq_true, Bool.not_eq_true'] at hc
 have := Ja yQ cs 0 hc.1 i hi
 unfold y60 at this
 simp only [Bool.or_eq_false_iff, Bool.not_eq_false'] at this
 exact this.2.1
theorem yaN (i : Int) : Yx (q, t, l, cs, vs, z, i) = some (y1L (ygE q t l cs vs z i)) := by
 have hc := h.S.2.2.2.2.1
 have hq := h.tq
 have hm : Go.IntKind.wrap .i64 ((cs.length : Int) - 1) = (cs.length : Int) - 1 := w64 (by omega) (by omega)
 have ec : ym (q, t, l, cs, vs, z) = some (q, t, l, cs, vs, z) := kz q t l cs vs z h.S
 unfold Yx
 simp only [ec, ZH z h, ZG, hm, Option.bind_some]
 cases hp : yr q t l cs vs z with
 | false =>
  rw [y5z _ _ _ _ _ _ fun hh => by rw [hp] at hh; exact Bool.noConfusion hh.1]
  rfl
 | true =>
  obtain ⟨hcs, hfit, htr⟩ := y6V z h hp
  have h24 := Ki hcs
  simp only [Bool.not_true, cond_false, Option.bind_some]
  cases hi : inR i 0 ((cs.length : Int) - 1) with
  | false =>
   rw [y5z _ _ _ _ _ _ fun hh => by
    rw [zv.2 ⟨hh.2.1, by have := hh.2.2.1; omega⟩] at hi
    cases hi]
   rfl
  | true =>
   obtain ⟨i0, i1⟩ := zv.1 hi
   have i2 : i < (cs.length : Int) := by omega
   have hrd : yA cs i = cs.getD i.toNat yQ := rfl
   simp only [Bool.not_true, cond_false, if_pos i0, if_pos i2, hrd, Option.bind_some]
   cases hu : (cs.getD i.toNat yQ).2.1 with
   | false =>
    rw [y5z _ _ _ _ _ _ fun hh => by rw [hu] at hh; exact Bool.noConfusion hh.2.2.2.1]
    rfl
   | true =>
    have hw := yaM hcs i.toNat (by omega)
    obtain ⟨hf, _⟩ := ygD hfit hq.T.keys (by omega) i0 i2 hu
    simp only [Bool.not_true, cond_false, y68 q t l cs vs z i hq.T, y40 cs _ hc, Option.bind_some, if_neg hf]
    by_cases hfree : JV cs < 0
    ·rw [y5z _ _ _ _ _ _ fun hh => hh.2.2.2.2.1 hfree, ycn fun hh => hh.2.2 hfree]
     rfl
    ·obtain ⟨f0, f1, f2⟩ := yiG hfree
     have htk := ydt ⟨hcs, hw, hfree⟩
     have hcm : y3c cs i = cs.set (JV cs).toNat ((cs.getD (JV cs).toNat yQ).1, true, (cs.getD i.toNat yQ).2.2) := by
      unfold y3c
      rw [htk]
     rw [htk, ← hcm]
     have hcl : (y3c cs i).length = cs.length := by
      unfold y3c
      exact yaJ _ _
     simp only [Bool.not_true, cond_false, Option.bind_some]
     by_cases hgt : JV cs > i
     ·rw [decide_eq_true hgt, cond_true, y5z _ _ _ _ _ _ fun hh => by have := hh.2.2.2.2.2; omega]
      rfl
     ·rw [decide_eq_false hgt, cond_false, if_pos f0, if_pos (by omega)]
      have hmk : ygE q t l cs vs z i = yck (q, t, l, cs, vs, z) (y0I q t l cs vs z i) := if_pos ⟨hp, i0, by omega, hu, hfree, by omega⟩
      rw [hmk]
      have hcell : yA (y3c cs i) (JV cs) = (y3c cs i).getD (JV cs).toNat yQ := rfl
      have hput := JT q t (y5x t i).1 (y5x t i).2.1 (y5x t i).2.2.1 (JV cs) ((y3c cs i).getD (JV cs).toNat yQ).1 hq.T hq.Q hq.q
      have hSP := ygF z h i
      have hpo : yK (y0I q t l cs vs z i).1 = some (y66 (y0I q t l cs vs z i).1) := ZH z hSP
      simp only [hcell, show (yc t).getD (zE (zm i 0) (yc t) 0).toNat yH = y5x t i from rfl]
      rw [hput]
      simp only [Option.bind_some, vc (y3c cs i) i (by omega)]
      unfold yck
      cases hok : (y0I q t l cs vs z i).2 with
      | false =>
       have hok' : (y5y q t cs i).2.2 = false := hok
       unfold y5y at hok'
       rw [hok']
       rfl
      | true =>
       have hok' : (y5y q t cs i).2.2 = true := hok
       unfold y5y at hok'
       rw [hok']
       simp only [Bool.not_true, cond_false]
       refine Eq.trans (congrArg (fun o => Option.bind (Option.bind o fun r12 => some (!r12)) _) hpo) ?_
       cases hb : y66 (y0I q t l cs vs z i).1 <;> rfl
end
end Go.Proofs.YtjllpipmaejeoaaGreat.Pl
namespace Go.Proofs.YtjllpipmaejeoaaGreat.Pl
open Go.Proofs.YtjllpipmaejeoaaGreat.R Go.Proofs.YtjllpipmaejeoaaGreat.XV
section
variable {q : List yb} {t : List y0} {l : List y9} {cs : List y8} {vs : List yh} (z : Int) (h : SP q t l cs vs)
include h
end
section
variable (q : List yb) (t : List y0) (l : List y9) (cs : List y8) (vs : List yh) (z : Int)
noncomputable def yn7 (i : Int) : PO × Bool := if yr q t l cs vs z = true ∧ 0 ≤ i ∧ i ≤ (t.length : Int) - 1 then (((yaK q t i).1, (yaK q t i).2, l, cs, vs, z), true) else ((q, t, l, cs, vs, z), false)
theorem ycp {i : Int} (h : ¬ (yr q t l cs vs z = true ∧ 0 ≤ i ∧ i ≤ (t.length : Int) - 1)) : yn7 q t l cs vs z i = ((q, t, l, cs, vs, z), false) := if_neg h
theorem ydx {i : Int} (h : yr q t l cs vs z = true ∧ 0 ≤ i ∧ i ≤ (t.length : Int) - 1) : yn7 q t l cs vs z i = (((yaK q t i).1, (yaK q t i).2, l, cs, vs, z), true) := if_pos h
variable {q t l cs vs} (h : SP q t l cs vs)
include h
theorem y42 (i : Int) : Yw (q, t, l, cs, vs, z, i) = some (y1L (yn7 q t l cs vs z i)) := by
 have hq := h.tq
 have hm : Go.IntKind.wrap .i64 ((t.length : Int) - 1) = (t.length : Int) - 1 := w64 (by have := hq.T.len; omega) (by have := hq.T.len; omega)
 have ec : ym (q, t, l, cs, vs, z) = some (q, t, l, cs, vs, z) := kz q t l cs vs z h.S
 unfold Yw
 simp only [ec, ZH z h, ZG, hm, Option.bind_some]
 cases hp : yr q t l cs vs z with
 | false =>
  rw [ycp _ _ _ _ _ _ fun hh => by rw [hp] at hh; exact Bool.noConfusion hh.1]
  rfl
 | true =>
  simp only [Bool.not_true, cond_false, Option.bind_some]
  cases hi : inR i 0 ((t.length : Int) - 1) with
  | false =>
   rw [ycp _ _ _ _ _ _ fun hh => by
    rw [zv.2 hh.2] at hi
    cases hi]
   rfl
  | true =>
   obtain ⟨i0, i1⟩ := zv.1 hi
   rw [ydx _ _ _ _ _ _ ⟨hp, i0, i1⟩, yaL q t i (y2v (y6V z h hp).2.2) h.S.1 i0 (by omega)]
   rfl
end
end Go.Proofs.YtjllpipmaejeoaaGreat.Pl
namespace Go.Proofs.YtjllpipmaejeoaaGreat.Pl
open Go.Proofs.YtjllpipmaejeoaaGreat.R Go.Proofs.YtjllpipmaejeoaaGreat.XV
def yzv {A : Type} (q : List yb) (t : List y0) (l : List y9) (cs : List y8) (vs : List yh) (z : Int) (o : Option (List yb × List y0 × List y9 × List y8 × List yh × Int × A)) : Prop :=
 ∃ q' t' l' cs' vs' z' c, o = some (q', t', l', cs', vs', z', c) ∧ (Tn q' t' l' cs' vs' ∨ (q', t', l', cs', vs', z') = (q, t, l, cs, vs, z))
section
variable {q : List yb} {t : List y0} {l : List y9} {cs : List y8} {vs : List yh} {z : Int}
theorem Res.a {o : Option P7a} (h : Res q t l cs vs z o) : yzv q t l cs vs z o := by
 obtain ⟨q', t', l', cs', vs', z', c, e, hc⟩ := h
 exact ⟨q', t', l', cs', vs', z', c, e, hc.imp y3b id⟩
theorem yzv.same {A : Type} (c : A) : yzv q t l cs vs z (some (q, t, l, cs, vs, z, c)) := ⟨_, _, _, _, _, _, c, rfl, .inr rfl⟩
end
section
variable {q : List yb} {t : List y0} {l : List y9} {cs : List y8} {vs : List yh} (z : Int) (h : SP q t l cs vs)
include h
end
end Go.Proofs.YtjllpipmaejeoaaGreat.Pl
namespace Go.Proofs.YtjllpipmaejeoaaGreat.Pl
open Go.Proofs.YtjllpipmaejeoaaGreat.R Go.Proofs.YtjllpipmaejeoaaGreat.XV
theorem ykh (c : List Int) (p s : Int) (L : List ByteArray) (hL : 0 < L.length) (hL2 : L.length ≤ 1048576) (hs : ∀ t ∈ L, t.size ≤ 60) (h : qe c p) : yex (Wg (c, p, s, L)) c (fun v => v.size ≤ 60) := by
 obtain ⟨v, p1, s1, e1, h1, q1⟩ := y11 c p s (L.length : Int) h
 have := q1.2 (by omega)
 unfold Wg
 rw [e1]
 simp only [Option.bind_some]
 rw [if_pos q1.1, if_pos this]
 exact ⟨_, _, _, rfl, h1, hs _ (yW yhU L v q1.1 this)⟩
theorem yn8 (c : List Int) (p s : Int) (h : qe c p) : yex (YM (c, p, s)) c (fun v => v.size ≤ 60) := by
 obtain ⟨v, p1, s1, e1, h1, q1⟩ := ykh c p s [{ data := #[97] }, { data := #[98] }, { data := #[99] }, { data := #[100] }, { data := #[101, 53] }] (by simp) (by simp) (by decide) h
 unfold YM
 rw [e1]
 exact ⟨_, _, _, rfl, h1, q1⟩
theorem yiI (c : List Int) (p s : Int) (h : qe c p) : yex (YN (c, p, s)) c (fun _ => True) := by
 obtain ⟨v, p1, s1, e1, h1, q1⟩ := y11 c p s 200 h
 unfold YN
 rw [e1]
 simp only [Option.bind_some]
 obtain ⟨v2, p2, s2, e2, h2, q2⟩ := ydr c p1 s1 [0, 1, 2, 7, 65535, Go.IntKind.wrap .i64 (1 + v)] (by simp) (by simp) h1
 rw [e2]
 exact ⟨_, _, _, rfl, h2, trivial⟩
def y5A (o : Option (Int × ByteArray × ByteArray × Int × Int × List Int × Int × Int)) (c : List Int) : Prop := ∃ k n t a b p s, o = some (k, n, t, a, b, c, p, s) ∧ qe c p ∧ ByteArray.size n ≤ 60 ∧ ByteArray.size t ≤ 60
theorem ytT {c : List Int} {p s : Int} {L : List Int} {k b : Int} {n t : ByteArray} (hL : 0 < L.length) (hL2 : L.length ≤ 1048576) (h : qe c p) (hn : n.size ≤ 60) (ht : t.size ≤ 60) :
  y5A (Option.bind (zD (c, p, s, L)) fun r => some (k, n, t, r.1, b, r.2.1, r.2.2.1, r.2.2.2)) c := by
 obtain ⟨v, p1, s1, e1, h1, _⟩ := ydr c p s L hL hL2 h
 rw [e1]
 exact ⟨_, _, _, _, _, _, _, rfl, h1, hn, ht⟩
theorem ytU {c : List Int} {p s m : Int} {k b : Int} {n t : ByteArray} (h : qe c p) (hn : n.size ≤ 60) (ht : t.size ≤ 60) :
  y5A (Option.bind (yw (c, p, s, m)) fun r => some (k, n, t, r.1, b, r.2.1, r.2.2.1, r.2.2.2)) c := by
 obtain ⟨v, p1, s1, e1, h1, _⟩ := y11 c p s m h
 rw [e1]
 exact ⟨_, _, _, _, _, _, _, rfl, h1, hn, ht⟩
theorem ytV {c : List Int} {p s : Int} {L : List Int} {k a : Int} {n : ByteArray} (hL : 0 < L.length) (hL2 : L.length ≤ 1048576) (h : qe c p) (hn : n.size ≤ 60) :
  y5A (Option.bind (YM (c, p, s)) fun r4 => Option.bind (zD (r4.2.1, r4.2.2.1, r4.2.2.2, L)) fun r5 => some (k, n, r4.1, a, r5.1, r5.2.1, r5.2.2.1, r5.2.2.2)) c := by
 obtain ⟨v, p1, s1, e1, h1, q1⟩ := yn8 c p s h
 rw [e1]
 simp only [Option.bind_some]
 obtain ⟨v2, p2, s2, e2, h2, _⟩ := ydr c p1 s1 L hL hL2 h1
 rw [e2]
 exact ⟨_, _, _, _, _, _, _, rfl, h2, hn, q1⟩
theorem ytW {c : List Int} {p s m : Int} {k : Int} {n t : ByteArray} (h : qe c p) (hn : n.size ≤ 60) (ht : t.size ≤ 60) :
  y5A (Option.bind (yw (c, p, s, m)) fun r6 => Option.bind (YN (r6.2.1, r6.2.2.1, r6.2.2.2)) fun r7 => some (k, n, t, r6.1, r7.1, r7.2.1, r7.2.2.1, r7.2.2.2)) c := by
 obtain ⟨v, p1, s1, e1, h1, _⟩ := y11 c p s m h
 rw [e1]
 simp only [Option.bind_some]
 obtain ⟨v2, p2, s2, e2, h2, _⟩ := yiI c p1 s1 h1
 rw [e2]
 exact ⟨_, _, _, _, _, _, _, rfl, h2, hn, ht⟩
theorem ytX {c : List Int} {p s k a b : Int} {n t : ByteArray} (h : qe c p) (hn : n.size ≤ 60) (ht : t.size ≤ 60) : y5A (some (k, n, t, a, b, c, p, s)) c := ⟨_, _, _, _, _, _, _, rfl, h, hn, ht⟩
theorem yzw : (⟨#[]⟩ : ByteArray).size ≤ 60 := by decide
theorem yeB {A : Type} {P : A → Prop} (b : Bool) {x y : A} (hx : P x) (hy : P y) : P (bif b then x else y) := by cases b <;> assumption
theorem ytY (c : List Int) (p s : Int) (h : qe c p) : y5A (YS (c, p, s)) c := by
 unfold YS
 obtain ⟨v, p1, s1, e1, h1, _⟩ := ydr c p s [1, 1, 1, 2, 2, 3, 4, 4, 4, 4, 4, 4, 5, 6, 7, 7, 8, 9] (by simp) (by simp) h
 rw [e1]
 simp only [Option.bind_some]
 obtain ⟨n, p2, s2, e2, h2, hn⟩ := ykh c p1 s1 [{ data := #[97] }, { data := #[97] }, { data := #[98] }, { data := #[99] }, { data := #[100] }] (by simp) (by simp) (by decide) h1
 rw [e2]
 simp only [Option.bind_some]
 have hz := yzw
 repeat' (first
  | with_reducible refine yeB (P := fun o => y5A o c) _ ?_ ?_
  | with_reducible exact ytT (by simp) (by simp) h2 hn hz
  | with_reducible exact ytT (by simp) (by simp) h1 hz hz
  | with_reducible exact ytV (by simp) (by simp) h2 hn
  | with_reducible exact ytV (by simp) (by simp) h1 hz
  | with_reducible exact ytW h2 hn hz
  | with_reducible exact ytW h1 hz hz
  | with_reducible exact ytU h2 hn hz
  | with_reducible exact ytU h1 hz hz
  | with_reducible exact ytX h2 hn hz
  | with_reducible exact ytX h1 hz hz)
end Go.Proofs.YtjllpipmaejeoaaGreat.Pl
namespace Go.Proofs.YtjllpipmaejeoaaGreat.Pl
open Go.Proofs.YtjllpipmaejeoaaGreat.R Go.Proofs.YtjllpipmaejeoaaGreat.XV
def Nsm (n : List ya) (a : Nat) (b : Int) : Prop := n.length ≤ a ∧ kt qg n ≤ b
theorem Nsm.ns {n : List ya} {a : Nat} {b : Int} (h : Nsm n a b) (ha : a ≤ 900) (hb : b ≤ 900) : NS n := ⟨Nat.le_trans h.1 (by omega), by have := h.2; omega⟩
end Go.Proofs.YtjllpipmaejeoaaGreat.Pl
namespace Go.Proofs.YtjllpipmaejeoaaGreat.Pl
open Go.Proofs.YtjllpipmaejeoaaGreat.R Go.Proofs.YtjllpipmaejeoaaGreat.XV
theorem yn9 (x : List Int) (m : Int) (hx : x.length ≤ 1099511627776) (hm : 3 ≤ m) : ∃ n, WX (x, m) = some n ∧ 0 ≤ n ∧ n ≤ m := by
 unfold WX
 have hd : Int.tdiv ((List.length x : Nat) : Int) 12 = ((List.length x : Nat) : Int) / 12 := Int.tdiv_eq_ediv_of_nonneg (by omega)
 simp only [hd]
 rw [show Go.IntKind.wrap .i64 (((List.length x : Nat) : Int) / 12) = ((List.length x : Nat) : Int) / 12 from w64 (by omega) (by omega), show Go.IntKind.wrap .i64 (3 + ((List.length x : Nat) : Int) / 12) = 3 + ((List.length x : Nat) : Int) / 12 from w64 (by omega) (by omega)]
 by_cases h : 3 + ((List.length x : Nat) : Int) / 12 > m
 ·rw [decide_eq_true h]
  exact ⟨_, rfl, by omega, Int.le_refl _⟩
 ·rw [decide_eq_false h]
  exact ⟨_, rfl, by omega, by omega⟩
end Go.Proofs.YtjllpipmaejeoaaGreat.Pl
namespace Go.Proofs.YtjllpipmaejeoaaGreat.Pl
open Go.Proofs.YtjllpipmaejeoaaGreat.R Go.Proofs.YtjllpipmaejeoaaGreat.XV
theorem ygG {A : Type} (t : List A) (i : Nat) (h : i < t.length) (x : A) : t.set i x = t.take i ++ ([x] ++ t.drop (i + 1)) := by
 rw [List.set_eq_take_append_cons_drop, if_pos h]
 rfl
theorem yaO {A : Type} (t : List A) (i : Nat) (x d : A) (j : Nat) (h : i ≠ j) : (t.set i x).getD j d = t.getD j d := by
 rw [List.getD_eq_getElem?_getD, List.getD_eq_getElem?_getD, List.getElem?_set_ne h]
theorem yaP {A : Type} (t : List A) (i : Nat) (x d : A) (h : i < t.length) : (t.set i x).getD i d = x := by
 rw [List.getD_eq_getElem?_getD, List.getElem?_set_self h]
 rfl
theorem yaQ (t : List y0) (i : Nat) (hi : i < t.length) : yc (t.set i (yM (yz (t.getD i yf)))) = yc t := by
 have e := Zx (KN (t.getD i yf)) fun x hx => Vm hx
 conv => rhs; rw [qJ yf t i hi]
 rw [ygG t i hi, YD, YD, YD, YD, KA, KA, e]
theorem ygH {q : List Int} {t : List y0} (h : z6 q t = true) (i : Nat) (hi : i < t.length) : z6 q (t.set i (yM (yz (t.getD i yf)))) = true := by
 have hk := yaQ t i hi
 have hf := jW h
 unfold z6 at h ⊢
 rw [hk, List.length_set]
 simp only [Bool.and_eq_true, Bool.not_eq_true', decide_eq_true_eq] at h ⊢
 refine ⟨h.1, h.2.1, h.2.2.1, wS yf _ 0 fun j hj => ?_, h.2.2.2.2⟩
 rw [List.length_set] at hj
 have hb := Ja yf t 0 h.2.2.2.1 j hj
 by_cases hij : i = j
 ·subst hij
  rw [yaP t i _ _ hi]
  unfold v8 y2n at hb ⊢
  simp only [Bool.or_eq_false_iff, Bool.not_eq_false', Bool.and_eq_true, Bool.not_eq_true'] at hb ⊢
  obtain ⟨h1, h2, h3, h4⟩ := hb
  obtain ⟨f1, f2, f3⟩ := wl h2
  have hl := KK (t.getD i yf)
  have hkey : ∀ k ∈ yz (t.getD i yf), zR k = true := fun k hk => by
   obtain ⟨c, hc, hkc⟩ := y0r hk
   exact f3 c hc k hkc
  refine ⟨h1, y32 (KN _) hkey (by omega), ?_, ?_⟩
  ·unfold y6L at h3 ⊢
   rw [Zx (KN _) fun x hx => Vm hx]
   exact h3
  ·unfold yM
   split
   ·rfl
   ·show (yaZ q _ 0 (yz (t.getD i yf)) || false) = false
    rw [Bool.or_false]
    unfold yaZ
    refine wS yH _ 0 fun m hm => ?_
    have hmm : (yz (t.getD i yf)).getD m yH ∈ yz (t.getD i yf) := by
     rw [yF _ _ _ hm]
     exact List.getElem_mem _
    obtain ⟨c, hc, hkc⟩ := y0r hmm
    obtain ⟨j1, hj1⟩ := J6 _ _ 0 h4 c hc
    unfold yaZ at hj1
    obtain ⟨j2, hj2⟩ := J6 _ _ 0 hj1 _ hkc
    exact hj2
 ·rw [yaO t i _ _ j hij]
  exact hb
theorem ygI {q : List Int} {t : List y0} {l : List y9} {cs : List y8} {vs : List yh} {z : Int} (h : yr q t l cs vs z = true) (i : Int) (h0 : 0 ≤ i) (h1 : i < (t.length : Int)) : yr (yaK q t i).1 (yaK q t i).2 l cs vs z = true := by
 have hk := yaQ t i.toNat (by omega)
 rw [show yaK q t i = (q, t.set i.toNat (yM (yz (t.getD i.toNat yf)))) from rfl]
 unfold yr at *
 simp only [Bool.and_eq_true] at h ⊢
 rw [hk]
 exact ⟨ygH h.1 i.toNat (by omega), h.2⟩
def y6W {A : Type} (o : Option (List yb × List y0 × List y9 × List y8 × List yh × Int × A)) : Prop :=
 ∃ q' t' l' cs' vs' z' c, o = some (q', t', l', cs', vs', z', c) ∧ yr q' t' l' cs' vs' z' = true
section
variable {q : List yb} {t : List y0} {l : List y9} {cs : List y8} {vs : List yh} {z : Int}
theorem Res.b {o : Option P7a} (hp : yr q t l cs vs z = true) (h : Res q t l cs vs z o) : y6W o := by
 obtain ⟨q', t', l', cs', vs', z', c, e, hc⟩ := h
 refine ⟨q', t', l', cs', vs', z', c, e, ?_⟩
 rcases hc with hc | hc
 ·exact hc
 ·simp only [Prod.mk.injEq] at hc
  obtain ⟨rfl, rfl, rfl, rfl, rfl, rfl⟩ := hc
  exact hp
theorem y6W.same {A : Type} (hp : yr q t l cs vs z = true) (c : A) : y6W (some (q, t, l, cs, vs, z, c)) := ⟨_, _, _, _, _, _, c, rfl, hp⟩
variable (z) (h : SP q t l cs vs) (hp : yr q t l cs vs z = true)
include h hp
theorem yaR (r : PO × Bool) : y66 (yck (q, t, l, cs, vs, z) r).1 = true := by
 unfold yck
 split
 ·rename_i hh
  rw [Bool.and_eq_true] at hh
  exact hh.2
 ·exact hp
theorem yeC (i : Int) : y6W (Yw (q, t, l, cs, vs, z, i)) := by
 rw [y42 z h i]
 by_cases hh : yr q t l cs vs z = true ∧ 0 ≤ i ∧ i ≤ (t.length : Int) - 1
 ·rw [ydx q t l cs vs z hh]
  exact ⟨_, _, _, _, _, _, _, rfl, ygI hp i hh.2.1 (by omega)⟩
 ·rw [ycp q t l cs vs z hh]
  exact y6W.same hp _
theorem yeD (i : Int) : y6W (Yx (q, t, l, cs, vs, z, i)) := by
 rw [yaN z h i]
 have hb : y66 (ygE q t l cs vs z i).1 = true := by
  unfold ygE
  split
  ·exact yaR z h hp _
  ·exact hp
 exact ⟨_, _, _, _, _, _, _, rfl, hb⟩
theorem ycq : y6W (Yi (q, t, l, cs, vs, z)) := by
 rw [y39 z h]
 have hb : y66 (VK q t l cs vs z).1 = true := by
  unfold VK
  split
  ·split
   ·exact hp
   ·exact yaR z h hp _
  ·exact hp
 exact ⟨_, _, _, _, _, _, _, rfl, hb⟩
theorem ycr (k : Int) (n m : ByteArray) (a b : Int) (hn : n.size ≤ 60) (hm : m.size ≤ 60) : y6W (Jv (q, t, l, cs, vs, z, k, n, m, a, b)) := by
 unfold Jv Kt
 simp only [yaH k n m a b (y5w hn) (y5w hm), ZH z h, y0F z h, Option.bind_some, yn3, yzt, ykg]
 have key : ∀ u : Bool, y6W (bif u then some (q, t, l, cs, vs, z, (1 : Int)) else bif (k == (1 : Int)) then w5 (q, t, l, cs, vs, z, n, a) else bif (k == (2 : Int)) then kQ (q, t, l, cs, vs, z, n, m, (b == (1 : Int))) else bif (k == (3 : Int)) then kR (q, t, l, cs, vs, z, n) else bif (k == (4 : Int)) then Wj (q, t, l, cs, vs, z, n, a, b) else bif (k == (5 : Int)) then J1 (q, t, l, cs, vs, z, n, a) else bif (k == (6 : Int)) then wc (q, t, l, cs, vs, z, n, a) else
   Option.bind (bif (k == (7 : Int)) then Yi (q, t, l, cs, vs, z) else bif (k == (8 : Int)) then Yw (q, t, l, cs, vs, z, a) else Yx (q, t, l, cs, vs, z, a)) fun r11 => bif (!r11.2.2.2.2.2.2) then some (r11.1, r11.2.1, r11.2.2.1, r11.2.2.2.1, r11.2.2.2.2.1, r11.2.2.2.2.2.1, (2 : Int)) else some (r11.1, r11.2.1, r11.2.2.1, r11.2.2.2.1, r11.2.2.2.2.1, r11.2.2.2.2.2.1, (0 : Int))) := by
  intro u
  refine JU (P := y6W) _ (fun _ => y6W.same hp _) fun _ => JU (P := y6W) _ (fun _ => (ygx z h n a hn).b hp) fun _ => JU (P := y6W) _ (fun _ => (yn4 z h n m _ hn hm).b hp) fun _ => JU (P := y6W) _ (fun _ => (yn5 z h n hn).b hp) fun _ => JU (P := y6W) _ (fun _ => (yiE z h n a b hn).b hp) fun _ => JU (P := y6W) _ (fun _ => (yez z h n a hn).b hp) fun _ => JU (P := y6W) _ (fun _ => (ygz z h n a hn).b hp) fun _ => ?_
  have hs : y6W (bif (k == (7 : Int)) then Yi (q, t, l, cs, vs, z) else bif (k == (8 : Int)) then Yw (q, t, l, cs, vs, z, a) else Yx (q, t, l, cs, vs, z, a)) :=
   JU (P := y6W) _ (fun _ => ycq z h hp) fun _ => JU (P := y6W) _ (fun _ => yeC z h hp a) fun _ => yeD z h hp a
  obtain ⟨q', t', l', cs', vs', z', c, e, hc⟩ := hs
  rw [e]
  cases c
  ·exact ⟨_, _, _, _, _, _, _, rfl, hc⟩
  ·exact ⟨_, _, _, _, _, _, _, rfl, hc⟩
 cases yzs k n m a b
 ·exact key true
 ·exact key _
end
def ydy (o : Option (List yb × List y0 × List y9 × List y8 × List yh × Int × List Int × Int × Int)) (c : List Int) : Prop := ∃ q t l cs vs z p s, o = some (q, t, l, cs, vs, z, c, p, s) ∧ qe c p ∧ yr q t l cs vs z = true
theorem yiJ : yr [0] [[]] [] (List.replicate (Int.toNat (24 : Int)) yQ) [] 1 = true := by decide
theorem ycs (c : List Int) (p s m : Int) (h : qe c p) (m0 : 0 ≤ m) (m1 : m ≤ 1000) : ydy (wI (c, p, s, m)) c := by
 obtain ⟨v1, p1, s1, e1, h1, q1⟩ := y11 c p s (m + 1) h
 have b1 := q1.2 (by omega)
 unfold wI Qq Kq Kp Wz
 rw [if_pos (by omega), if_pos (by omega), if_pos (by decide)]
 simp only [Option.bind_some]
 rw [show Go.IntKind.wrap .i64 (m + 1) = m + 1 from w64 (by omega) (by omega), e1]
 simp only [Option.bind_some]
 refine wQ (step := jL _ _) (fun u : W0 => match u with | .inl u => u.1.toNat | .inr u => u.1.toNat) (fun u => match u with | .inl u => ∃ k y q t l cs vs z p s, u = (k, c, p, s, y, z, q, t, l, cs, vs) ∧ qe c p ∧ 0 ≤ k ∧ k ≤ 1000 ∧ yr q t l cs vs z = true | .inr u => ∃ k y q t l cs vs z p s, u = (k, c, p, s, y, q, t, l, z, cs, vs) ∧ qe c p ∧ 0 ≤ k ∧ k ≤ 1000 ∧ yr q t l cs vs z = true) (fun _ (res : Option (List yb × List y0 × List y9 × List y8 × List yh × Int × List Int × Int × Int)) => ydy res c) ?_ _ ⟨v1, 0, _, _, _, _, _, 1, p1, s1, rfl, h1, q1.1, by omega, yiJ⟩ (by simp only; omega)
 intro again u hu hag
 have step : ∀ (k y : Int) q t l cs vs (z p s : Int), qe c p → 0 ≤ k → k ≤ 1000 → yr q t l cs vs z = true → k > 0 → (∀ k' q' t' l' cs' vs' z' p' s', qe c p' → 0 ≤ k' → k' < k → yr q' t' l' cs' vs' z' = true → ydy (again (Sum.inr (k', c, p', s', y, q', t', l', z', cs', vs'))) c) → ydy (Option.bind (YS (c, p, s)) fun r3 => Option.bind (Jv (q, t, l, cs, vs, z, r3.1, r3.2.1, r3.2.2.1, r3.2.2.2.1, r3.2.2.2.2.1)) fun r4 => again (Sum.inr ((Go.IntKind.wrap .i64 (k - (1 : Int))), r3.2.2.2.2.2.1, r3.2.2.2.2.2.2.1, r3.2.2.2.2.2.2.2, y, r4.1, r4.2.1, r4.2.2.1, r4.2.2.2.2.2.1, r4.2.2.2.1, r4.2.2.2.2.1))) c := by
  intro k y q t l cs vs z p s hc k0 k1 hT hk hag2
  obtain ⟨kd, n, m, a, b, p2, s2, e2, h2, hn, hm⟩ := ytY c p s hc
  obtain ⟨q', t', l', cs', vs', z', cc, e3, h3⟩ := ycr z (y3b hT).sp hT kd n m a b hn hm
  have hw : Go.IntKind.wrap .i64 (k - 1) = k - 1 := w64 (by omega) (by omega)
  simp only [e2, e3, Option.bind_some, hw]
  exact hag2 _ _ _ _ _ _ _ _ _ h2 (by omega) (by omega) h3
 cases u with
 | inl u =>
  obtain ⟨k, y, q, t, l, cs, vs, z, p, s, rfl, hc, k0, k1, hT⟩ := hu
  unfold jL
  simp only [Bool.cond_eq_ite, decide_eq_true_eq]
  by_cases hk : k > 0
  ·simp only [if_pos hk]
   exact step k y q t l cs vs z p s hc k0 k1 hT hk fun k' q' t' l' cs' vs' z' p' s' g1 g2 g3 g4 => hag _ ⟨_, _, _, _, _, _, _, _, _, _, rfl, g1, g2, by omega, g4⟩ (by simp only; omega)
  ·simp only [if_neg hk]
   exact ⟨_, _, _, _, _, _, _, _, rfl, hc, hT⟩
 | inr u =>
  obtain ⟨k, y, q, t, l, cs, vs, z, p, s, rfl, hc, k0, k1, hT⟩ := hu
  unfold jL
  simp only [Bool.cond_eq_ite, decide_eq_true_eq]
  by_cases hk : k > 0
  ·simp only [if_pos hk]
   exact step k y q t l cs vs z p s hc k0 k1 hT hk fun k' q' t' l' cs' vs' z' p' s' g1 g2 g3 g4 => hag _ ⟨_, _, _, _, _, _, _, _, _, _, rfl, g1, g2, by omega, g4⟩ (by simp only; omega)
  ·simp only [if_neg hk]
   exact ⟨_, _, _, _, _, _, _, _, rfl, hc, hT⟩
end Go.Proofs.YtjllpipmaejeoaaGreat.Pl
namespace Go.Proofs.YtjllpipmaejeoaaGreat.Pl
open Go.Proofs.YtjllpipmaejeoaaGreat.R Go.Proofs.YtjllpipmaejeoaaGreat.XV
structure PoolR (q : List yb) (t : List y0) (l : List y9) (cs : List y8) (vs : List yh) (z : Int) : Prop where
 tree : z6 q t = true
 ages : YO l = true
 cells : zc cs = true
 fit : ZL (yc t) l cs = true
 late : ∀ a ∈ l, a.1 < z
 next : 1 ≤ z ∧ z ≤ 61
 srt : yCd vs
 name : ∀ i, i < vs.length → jV (vs.getD i Y2).1 = true
 size : ∀ i, i < vs.length → 1 ≤ (vs.getD i Y2).2.2.1 ∧ (vs.getD i Y2).2.2.1 ≤ 12
 age : ∀ i, i < vs.length → 0 ≤ yS l (vs.getD i Y2).2.1
 leaf : ∀ i, i < vs.length → (zg l (vs.getD i Y2).2.1).length = 0
 apart : ∀ i j, i < j → j < vs.length → (vs.getD i Y2).2.1 ≠ (vs.getD j Y2).2.1
 few : vs.length ≤ 6
theorem ZI {q : List yb} {t : List y0} {l : List y9} {cs : List y8} {vs : List yh} {z : Int} (h : yr q t l cs vs z = true) : PoolR q t l cs vs z := by
 unfold yr at h
 simp only [Bool.and_eq_true, Bool.not_eq_true', zv] at h
 obtain ⟨h1, h2, h3, h4, h5, h6, h7⟩ := h
 have hs := yiH h6
 unfold ji at h6
 simp only [Bool.and_eq_true, Bool.not_eq_true', decide_eq_true_eq] at h6
 have hv : ∀ i, i < vs.length → yes vs l i (vs.getD i Y2) = false := fun i hi => by
  have := Ja Y2 vs 0 h6.1 i hi
  rwa [show (0 : Int) + (i : Int) = i by omega] at this
 unfold yes at hv
 simp only [Bool.or_eq_false_iff, Bool.not_eq_false', decide_eq_false_iff_not, zv] at hv
 refine ⟨h1, h2, h3, h7, fun a ha => ?_, h4, hs, fun i hi => (hv i hi).1, fun i hi => (hv i hi).2.1, fun i hi => ?_, fun i hi => ?_, fun i j hij hj he => ?_, by omega⟩
 ·obtain ⟨j, hj⟩ := J6 _ _ 0 h5 a ha
  unfold q9 at hj
  have := of_decide_eq_false hj
  omega
 ·have := (hv i hi).2.2.1
  omega
 ·have := (hv i hi).2.2.2.1
  omega
 ·have h8 := (hv j hj).2.2.2.2.2
  rw [show ((j : Int)).toNat = j by omega] at h8
  have h9 := Ja Y2 _ 0 h8 i (by rw [List.length_take]; omega)
  have e9 : (vs.take j).getD i Y2 = vs.getD i Y2 := by
   rw [List.getD_eq_getElem?_getD, List.getElem?_take, if_pos hij, ← List.getD_eq_getElem?_getD]
  rw [e9] at h9
  unfold JQ at h9
  rw [he] at h9
  simp at h9
theorem PoolR.unlike {q : List yb} {t : List y0} {l : List y9} {cs : List y8} {vs : List yh} {z : Int} (h : PoolR q t l cs vs z) {i j : Nat} (hi : i < vs.length) (hj : j < vs.length) (hij : i ≠ j) : (vs.getD i Y2).2.1 ≠ (vs.getD j Y2).2.1 := by
 rcases Nat.lt_or_gt_of_ne hij with h1 | h1
 ·exact h.apart i j h1 hj
 ·exact fun he => h.apart j i h1 hi he.symm
theorem PoolR.off {q : List yb} {t : List y0} {l : List y9} {cs : List y8} {vs : List yh} {z : Int} (h : PoolR q t l cs vs z) {i j : Nat} (hi : i < vs.length) (hj : j < vs.length) (hij : i ≠ j) : (vs.getD i Y2).2.1 ∉ yN l (vs.getD j Y2).2.1 := fun hx => by
 rcases y6U (y0H h.ages) (h.age j hj) hx with h1 | ⟨h1, h2, a, ha, he⟩
 ·exact h.unlike hi hj hij h1
 ·have := ygB h2 ha he
  have := h.leaf i hi
  omega
section
variable {ks : List y7} {l : List y9} {cs : List y8} (h : ZL ks l cs = true)
include h
theorem y98 {c : y7} (hc : c ∈ ks) (hd : c.2.2.1 = 1) : 0 ≤ c.2.2.2.1 ∧ c.2.2.2.1 < (cs.length : Int) ∧ (cs.getD c.2.2.2.1.toNat yQ).2.1 = true := by
 obtain ⟨j, hj, rfl⟩ := List.mem_iff_getElem.1 hc
 have := (y1M h j hj (by rw [yF _ _ _ hj]; unfold y2z; rw [hd]; rfl)).1
 rwa [yF _ _ _ hj] at this
theorem qM {c d : y7} (hc : c ∈ ks) (hd : d ∈ ks) (h1 : c.2.2.1 = 1) (h2 : d.2.2.1 = 1) (he : c.2.2.2.1 = d.2.2.2.1) : c = d := by
 obtain ⟨i, hi, rfl⟩ := List.mem_iff_getElem.1 hc
 obtain ⟨j, hj, rfl⟩ := List.mem_iff_getElem.1 hd
 have di : y2z (ks.getD i yH) = true := by rw [yF _ _ _ hi]; unfold y2z; rw [h1]; rfl
 have dj : y2z (ks.getD j yH) = true := by rw [yF _ _ _ hj]; unfold y2z; rw [h2]; rfl
 rcases Nat.lt_trichotomy i j with h5 | h5 | h5
 ·have := (y1M h j hj dj).2 i h5 di
  rw [yF _ _ _ hi, yF _ _ _ hj] at this
  exact absurd he this
 ·subst h5
  rfl
 ·have := (y1M h i hi di).2 j h5 dj
  rw [yF _ _ _ hi, yF _ _ _ hj] at this
  exact absurd he.symm this
theorem yct {c : y7} (hc : c ∈ ks) : 0 ≤ yS l c.2.1 := by
 obtain ⟨j, hj⟩ := J6 _ _ 0 (y97 h).1 c hc
 unfold yce at hj
 simp only [Bool.or_eq_false_iff, decide_eq_false_iff_not] at hj
 omega
theorem y99 {c : y7} (hc : c ∈ ks) (hd : c.2.2.1 = 1) : (Z5 cs c.2.2.2.1 c.2.2.2.2).2 = true := by
 obtain ⟨j, hj⟩ := J6 _ _ 0 (y97 h).1 c hc
 unfold yce at hj
 rw [show (c.2.2.1 == 1) = true by rw [hd]; rfl, Bool.true_and] at hj
 simp only [Bool.or_eq_false_iff, Bool.not_eq_false'] at hj
 exact hj.2.1
end
theorem ycu {cs cs' : List y8} {n g : Int} (hl : cs'.length = cs.length) (he : cs'.getD n.toNat yQ = cs.getD n.toNat yQ) : Z5 cs' n g = Z5 cs n g := by
 unfold Z5
 rw [hl, he]
theorem ygJ {cs : List y8} {i : Int} {n : Nat} (hn : i.toNat ≠ n) : (y19 cs i).getD n yQ = cs.getD n yQ := by
 unfold y19
 split
 ·exact yaO _ _ _ _ _ hn
 ·rfl
section
variable {q : List yb} {t : List y0} {l : List y9} {cs cs2 : List y8} {k : y7} (ht : z6 q t = true) (hok : (yk q t k).2.2 = true)
include ht hok
theorem y6X {x : y7} : x ∈ yc (yk q t k).2.1 ↔ (x = k ∨ (x ∈ yc t ∧ Y3 x k = false)) ∧ x.2.2.1 ≠ 0 := by
 rw [(y0C hok).2.2.2, wm, qd]
end
section
variable {q : List yb} {t : List y0} {l : List y9} {cs : List y8} {vs : List yh} {z : Int} (h : PoolR q t l cs vs z) {b w : Int} {i : Nat} (hi : i < vs.length) (hw : isW w = true) (hf : ¬ JV cs < 0)
def yEC (cs : List y8) (vs : List yh) (b : Int) (i : Nat) : y7 := (b, (vs.getD i Y2).2.1, 1, JV cs, (cs.getD (JV cs).toNat yQ).1)
variable (hok : (yk q t (yEC cs vs b i)).2.2 = true)
include h hi hf hok
end
end Go.Proofs.YtjllpipmaejeoaaGreat.Pl
namespace Go.Proofs.YtjllpipmaejeoaaGreat.Pl
open Go.Proofs.YtjllpipmaejeoaaGreat.R Go.Proofs.YtjllpipmaejeoaaGreat.XV
theorem yeE {K K' : List y7} {b : Int} {path path' : List Int} (hK : srt K) (hK' : srt K') (h : ∀ c : y7, c.1 = b → (c ∈ K ∧ c.2.1 ∈ path ↔ c ∈ K' ∧ c.2.1 ∈ path')) : zB (zF K b) path = zB (zF K' b) path' := by
 rcases qL (zF K b) path with ⟨h1, h2⟩ | ⟨h1, h2, h3, h4⟩
 ·rcases qL (zF K' b) path' with ⟨g1, g2⟩ | ⟨g1, g2, g3, g4⟩
  ·rw [h1, g1]
  ·obtain ⟨g5, g6⟩ := YE.1 g2
   have := (h _ g6).2 ⟨g5, g3⟩
   exact absurd this.2 (h2 _ (YE.2 ⟨this.1, g6⟩))
 ·obtain ⟨h5, h6⟩ := YE.1 h2
  have hm := (h _ h6).1 ⟨h5, h3⟩
  rcases qL (zF K' b) path' with ⟨g1, g2⟩ | ⟨g1, g2, g3, g4⟩
  ·exact absurd hm.2 (g2 _ (YE.2 ⟨hm.1, h6⟩))
  ·obtain ⟨g5, g6⟩ := YE.1 g2
   have gm := (h _ g6).2 ⟨g5, g3⟩
   have e1 := g4 _ (YE.2 ⟨hm.1, h6⟩) hm.2
   have e2 := h4 _ (YE.2 ⟨gm.1, g6⟩) gm.2
   have e3 := Q4 hK h5 gm.1 (zx.2 ⟨h6.trans g6.symm, by omega⟩)
   exact Prod.ext (h1.trans g1.symm) e3
section
variable {q : List yb} {t : List y0} {l : List y9} {cs : List y8} {vs : List yh} (z : Int) (h : SP q t l cs vs) (hp : yr q t l cs vs z = true)
theorem ytZ (i : Nat) : yi vs (i : Int) = vs.getD i Y2 := by
 show vs.getD ((i : Int)).toNat Y2 = _
 rw [Int.toNat_natCast]
include hp in
include h
include hp
end
end Go.Proofs.YtjllpipmaejeoaaGreat.Pl
namespace Go.Proofs.YtjllpipmaejeoaaGreat.Pl
open Go.Proofs.YtjllpipmaejeoaaGreat.R Go.Proofs.YtjllpipmaejeoaaGreat.XV
def Jf {A : Type} (eq : A → A → Bool) (da : A) (a b : List A) : Bool := decide (a.length = b.length) && !Yq (fun i x => !eq x (b.getD i.toNat da)) a 0
theorem Q9 {A : Type} (eq : A → A → Bool) (da : A) {a b : List A} (h : a.length ≠ b.length) : Jf eq da a b = false := by
 unfold Jf
 rw [decide_eq_false h]
 rfl
theorem y5B {A B : Type} {a : List A} {b : List B} (h : a.length = b.length) : (((List.length a : Nat) : Int) != ((List.length b : Nat) : Int)) = false := by
 rw [h]
 simp
theorem y5C {A B : Type} {a : List A} {b : List B} (h : a.length ≠ b.length) : (((List.length a : Nat) : Int) != ((List.length b : Nat) : Int)) = true := by
 simp only [bne_iff_ne]
 omega
theorem Vp {T A : Type} {step : (T → Option Bool) → T → Option Bool} (mk : Int → T) (eq : A → A → Bool) (da : A) (a b : List A) (hl : a.length ≤ 1048576) (he : a.length = b.length)
  (h : ∀ again i, 0 ≤ i → i < ((List.length a : Nat) : Int) → i < ((List.length b : Nat) : Int) → a.getD i.toNat da ∈ a → b.getD i.toNat da ∈ b → step again (mk i) = bif (!eq (a.getD i.toNat da) (b.getD i.toNat da)) then some false else again (mk (i + 1)))
  (hd : ∀ again i, ¬ i < ((List.length a : Nat) : Int) → step again (mk i) = some true) : zS step Y4 (mk 0) = some (Jf eq da a b) := by
 refine (zQ (step := step) mk (fun i x => !eq x (b.getD i.toNat da)) (some false) (some true) da a (by omega) (fun again i h0 h1 => ?_) hd).trans ?_
 ·rw [h again i h0 h1 (by omega) (yW da a i h0 h1) (yW da b i h0 (by omega)), Bool.cond_eq_ite]
 ·unfold Jf
  rw [decide_eq_true he]
  cases Yq (fun i x => !eq x (b.getD i.toNat da)) a 0 <;> rfl
theorem Km {A : Type} {eq : A → A → Bool} (da : A) (a : List A) (h : ∀ x, eq x x = true) : Jf eq da a a = true := by
 unfold Jf
 rw [decide_eq_true rfl, wS da a 0 fun j hj => by
  rw [show (0 + (j : Int)).toNat = j by omega, h]
  rfl]
 rfl
def eqI (x y : Int) : Bool := x == y
def eqK (x y : y7) : Bool := (x.1 == y.1) && ((x.2.1 == y.2.1) && ((x.2.2.1 == y.2.2.1) && ((x.2.2.2.1 == y.2.2.2.1) && ((x.2.2.2.2 == y.2.2.2.2) && true))))
def eqA (x y : y9) : Bool := (x.1 == y.1) && ((x.2 == y.2) && true)
def eqC (x y : y8) : Bool := (x.1 == y.1) && ((x.2.1 == y.2.1) && ((x.2.2 == y.2.2) && true))
def eqV (x y : yh) : Bool := (ByteArray.toList x.1 == ByteArray.toList y.1) && ((x.2.1 == y.2.1) && ((x.2.2.1 == y.2.2.1) && ((x.2.2.2 == y.2.2.2) && true)))
def eqS (x y : ya) : Bool := Jf eqK yH x y
def eqN (x y : y0) : Bool := Jf eqS yY x y
theorem yiK (x : Int) : eqI x x = true := by simp [eqI]
theorem yiL (x : y7) : eqK x x = true := by simp [eqK]
theorem yiM (x : y9) : eqA x x = true := by simp [eqA]
theorem yiN (x : y8) : eqC x x = true := by simp [eqC]
theorem yiO (x : yh) : eqV x x = true := by simp [eqV]
theorem yiP (x : ya) : eqS x x = true := Km _ _ yiL
theorem yiQ (x : y0) : eqN x x = true := Km _ _ yiP
def y2A (q : List yb) (t : List y0) (l : List y9) (cs : List y8) (vs : List yh) (z : Int) (q' : List yb) (t' : List y0) (l' : List y9) (cs' : List y8) (vs' : List yh) (z' : Int) : Bool :=
 Jf eqI y2V q q' && (Jf eqN yf t t' && (Jf eqA yx l l' && (Jf eqC yQ cs cs' && (Jf eqV Y2 vs vs' && (z == z')))))
theorem y69 (q : List yb) (t : List y0) (l : List y9) (cs : List y8) (vs : List yh) (z : Int) : y2A q t l cs vs z q t l cs vs z = true := by
 unfold y2A
 rw [Km _ _ yiK, Km _ _ yiQ, Km _ _ yiM, Km _ _ yiN, Km _ _ yiO]
 simp
theorem y43 (a b : List yb) (hl : a.length ≤ 1048576) : Jx (a, b) = some (Jf eqI y2V a b) := by
 unfold Jx qu
 by_cases he : a.length = b.length
 ·simp only [y5B he, cond_false]
  refine Vp (step := ZU _ _) (fun i => (a, b, i)) eqI y2V a b hl he (fun again i h0 h1 h2 _ _ => ?_) fun again i hi => ?_
  ·have hw : Go.IntKind.wrap .i64 (i + 1) = i + 1 := w64 (by omega) (by omega)
   unfold ZU
   simp only [decide_eq_true h1, cond_true, if_pos h0, if_pos h1, if_pos h2, hw]
   rfl
  ·unfold ZU
   simp only [decide_eq_false hi, cond_false]
 ·simp only [y5C he, cond_true, Q9 _ _ he]
theorem y44 (a b : List y7) (hl : a.length ≤ 1048576) : Jy (a, b) = some (Jf eqK yH a b) := by
 unfold Jy qv
 by_cases he : a.length = b.length
 ·simp only [y5B he, cond_false]
  refine Vp (step := ZV _ _) (fun i => (a, b, i)) eqK yH a b hl he (fun again i h0 h1 h2 _ _ => ?_) fun again i hi => ?_
  ·have hw : Go.IntKind.wrap .i64 (i + 1) = i + 1 := w64 (by omega) (by omega)
   unfold ZV
   simp only [decide_eq_true h1, cond_true, if_pos h0, if_pos h1, if_pos h2, hw]
   rfl
  ·unfold ZV
   simp only [decide_eq_false hi, cond_false]
 ·simp only [y5C he, cond_true, Q9 _ _ he]
theorem y45 (a b : List y9) (hl : a.length ≤ 1048576) : JB (a, b) = some (Jf eqA yx a b) := by
 unfold JB qy
 by_cases he : a.length = b.length
 ·simp only [y5B he, cond_false]
  refine Vp (step := ZY _ _) (fun i => (a, b, i)) eqA yx a b hl he (fun again i h0 h1 h2 _ _ => ?_) fun again i hi => ?_
  ·have hw : Go.IntKind.wrap .i64 (i + 1) = i + 1 := w64 (by omega) (by omega)
   unfold ZY
   simp only [decide_eq_true h1, cond_true, if_pos h0, if_pos h1, if_pos h2, hw]
   rfl
  ·unfold ZY
   simp only [decide_eq_false hi, cond_false]
 ·simp only [y5C he, cond_true, Q9 _ _ he]
theorem y3d (a b : List y8) (hl : a.length ≤ 1048576) : jM (a, b) = some (Jf eqC yQ a b) := by
 unfold jM VF
 by_cases he : a.length = b.length
 ·simp only [y5B he, cond_false]
  refine Vp (step := Zk _ _) (fun i => (a, b, i)) eqC yQ a b hl he (fun again i h0 h1 h2 _ _ => ?_) fun again i hi => ?_
  ·have hw : Go.IntKind.wrap .i64 (i + 1) = i + 1 := w64 (by omega) (by omega)
   unfold Zk
   simp only [decide_eq_true h1, cond_true, if_pos h0, if_pos h1, if_pos h2, hw]
   rfl
  ·unfold Zk
   simp only [decide_eq_false hi, cond_false]
 ·simp only [y5C he, cond_true, Q9 _ _ he]
theorem y46 (a b : List ya) (hl : a.length ≤ 1048576) (hs : ∀ s ∈ a, List.length s ≤ 1048576) : Jz (a, b) = some (Jf eqS yY a b) := by
 unfold Jz qw
 by_cases he : a.length = b.length
 ·simp only [y5B he, cond_false]
  refine Vp (step := ZW _ _) (fun i => (i, a, b)) eqS yY a b hl he (fun again i h0 h1 h2 hm _ => ?_) fun again i hi => ?_
  ·have hw : Go.IntKind.wrap .i64 (i + 1) = i + 1 := w64 (by omega) (by omega)
   unfold ZW
   simp only [decide_eq_true h1, cond_true, if_pos h0, if_pos h1, if_pos h2, hw]
   rw [y44 (yn a i) (yn b i) (hs _ hm)]
   rfl
  ·unfold ZW
   simp only [decide_eq_false hi, cond_false]
 ·simp only [y5C he, cond_true, Q9 _ _ he]
theorem y47 (q q' : List yb) (t t' : List y0) (hq : q.length ≤ 1048576) (ht : t.length ≤ 1048576) (hn : ∀ n ∈ t, List.length n ≤ 1048576 ∧ ∀ s ∈ (show List ya from n), List.length s ≤ 1048576) : JA (q, t, q', t') = some (Jf eqI y2V q q' && Jf eqN yf t t') := by
 unfold JA qx
 simp only [y43 q q' hq, Option.bind_some]
 cases Jf eqI y2V q q' with
 | false => rfl
 | true =>
  simp only [Bool.not_true, cond_false, Option.bind_some, Bool.true_and]
  by_cases he : t.length = t'.length
  ·simp only [y5B he, cond_false]
   refine Vp (step := ZX _ _) (fun i => (i, q, t, q', t')) eqN yf t t' ht he (fun again i h0 h1 h2 hm _ => ?_) fun again i hi => ?_
   ·have hw : Go.IntKind.wrap .i64 (i + 1) = i + 1 := w64 (by omega) (by omega)
    unfold ZX
    simp only [decide_eq_true h1, cond_true, if_pos h0, if_pos h1, if_pos h2, hw]
    rw [y46 (ye t i) (ye t' i) (hn _ hm).1 (hn _ hm).2]
    rfl
   ·unfold ZX
    simp only [decide_eq_false hi, cond_false]
  ·simp only [y5C he, cond_true, Q9 _ _ he]
section
variable {q : List yb} {t : List y0} {l : List y9} {cs : List y8} {vs : List yh} (z : Int) (hs : small q t l cs vs) (q' : List yb) (t' : List y0) (l' : List y9) (cs' : List y8) (vs' : List yh) (z' : Int)
include hs
theorem y48 : j6 (q, t, l, cs, vs, z, q', t', l', cs', vs', z') = some (y2A q t l cs vs z q' t' l' cs' vs' z') := by
 have hv : vs.length ≤ 1048576 := hs.2.2.2.2.2
 have loop : vs.length = vs'.length → K2 (fun x8 => some x8) (fun x9 => some true) ((0 : Int), q, t, l, cs, vs, z, q', t', l', cs', vs', z') = some (Jf eqV Y2 vs vs') := by
  intro he
  unfold K2
  refine Vp (step := ZZ _ _) (fun i => (i, q, t, l, cs, vs, z, q', t', l', cs', vs', z')) eqV Y2 vs vs' hv he (fun again i h0 h1 h2 _ _ => ?_) fun again i hi => ?_
  ·have hw : Go.IntKind.wrap .i64 (i + 1) = i + 1 := w64 (by omega) (by omega)
   unfold ZZ
   simp only [decide_eq_true h1, cond_true, if_pos h0, if_pos h1, if_pos h2, hw]
   rfl
  ·unfold ZZ
   simp only [decide_eq_false hi, cond_false]
 unfold j6 y2A
 simp only [y47 q q' t t' hs.1 hs.2.1 (fun n hn => vt hs.2.2.1 hn), y45 l l' hs.2.2.2.1, y3d cs cs' hs.2.2.2.2.1, Option.bind_some]
 cases Jf eqI y2V q q' <;> cases Jf eqN yf t t' <;> try rfl
 cases Jf eqA yx l l' <;> cases Jf eqC yQ cs cs' <;> try rfl
 by_cases he : vs.length = vs'.length
 ·simp only [y5B he, loop he]
  cases hz : z == z'
  ·simp [bne, hz]
  ·simp [bne, hz]
 ·simp only [y5C he, Q9 _ _ he]
  rfl
end
end Go.Proofs.YtjllpipmaejeoaaGreat.Pl
namespace Go.Proofs.YtjllpipmaejeoaaGreat.Pl
open Go.Proofs.YtjllpipmaejeoaaGreat.R Go.Proofs.YtjllpipmaejeoaaGreat.XV
theorem y6a (x : List Int) (hx : x.length ≤ 1048576) : ∃ q t l cs vs z o, Jw x = some (q, t, l, cs, vs, z, o) ∧ yr q t l cs vs z = true := by
 obtain ⟨s0, e0⟩ := ytR x (by omega)
 obtain ⟨m, e1, m0, m1⟩ := yn9 x 30 (by omega) (by omega)
 obtain ⟨q, t, l, cs, vs, z, p3, s3, e3, h3, hp⟩ := ycs x 0 s0 (8 + m) (yEB x (by omega)) (by omega) (by omega)
 obtain ⟨k, n, y, a, b, p4, s4, e4, h4, _⟩ := ytY x p3 s3 h3
 unfold Jw
 rw [e0]
 simp only [e1, Option.bind_some]
 rw [w64 (n := 8 + m) (by omega) (by omega), e3]
 simp only [e4, Option.bind_some]
 exact ⟨_, _, _, _, _, _, _, rfl, hp⟩
section
variable {x : List Int} {i b r7 z z' : Int} {q q' : List yb} {t t' : List y0} {l l' : List y9} {cs cs' : List y8} {vs vs' : List yh} {v1 : ByteArray} {v2 v3 : Int} {v4 : Bool}
end
end Go.Proofs.YtjllpipmaejeoaaGreat.Pl
namespace Go.Proofs.YtjllpipmaejeoaaGreat.Pl
open Go.Proofs.YtjllpipmaejeoaaGreat.R Go.Proofs.YtjllpipmaejeoaaGreat.XV
def upT (u : Option Int) : List Int → Option Int
 | [] => u
 | a :: _ => some a
structure NB (a : Int) (v : Option Int) (n : y0) : Prop where
 ok : YA n = true
 ent : ∀ s ∈ (show List ya from n), ∀ x ∈ (show List y7 from s), a ≤ Jb x ∧ ∀ b, v = some b → Jb x < b
 low : ∀ b, v = some b → a < b
def Wu (u : Option Int) : List Int → List y0 → Prop
 | [], [] => True
 | a :: q, n :: t => NB a (upT u q) n ∧ Wu u q t
 | _, _ => False
theorem Wu.len {u : Option Int} : ∀ {q : List Int} {t : List y0}, Wu u q t → q.length = t.length
 | [], [], _ => rfl
 | a :: q, n :: t, h => by
  have := Wu.len h.2
  simp only [List.length_cons]
  omega
 | [], _ :: _, h => h.elim
 | _ :: _, [], h => h.elim
theorem yu0 (u : Option Int) (q1 q2 : List Int) : upT u (q1 ++ q2) = upT (upT u q2) q1 := by
 cases q1 <;> rfl
theorem y5D {u : Option Int} : ∀ {q1 : List Int} {t1 : List y0} (q2 : List Int) (t2 : List y0), q1.length = t1.length → (Wu u (q1 ++ q2) (t1 ++ t2) ↔ Wu (upT u q2) q1 t1 ∧ Wu u q2 t2)
 | [], [], q2, t2, _ => by simp [Wu]
 | a :: q1, n :: t1, q2, t2, h => by
  have ih := y5D (u := u) (q1 := q1) (t1 := t1) q2 t2 (by simpa using h)
  simp only [List.cons_append, Wu, yu0]
  rw [ih, and_assoc]
 | [], _ :: _, _, _, h => by simp at h
 | _ :: _, [], _, _, h => by simp at h
theorem NB.up {a : Int} {v v' : Option Int} {n : y0} (h : NB a v n) (hv : ∀ b', v' = some b' → ∃ b, v = some b ∧ b ≤ b') : NB a v' n :=
 ⟨h.ok, fun s hs x hx => ⟨(h.ent s hs x hx).1, fun b' e => by
  obtain ⟨b, e1, e2⟩ := hv b' e
  have := (h.ent s hs x hx).2 b e1
  omega⟩, fun b' e => by
  obtain ⟨b, e1, e2⟩ := hv b' e
  have := h.low b e1
  omega⟩
theorem Wu.up {u u' : Option Int} (hv : ∀ b', u' = some b' → ∃ b, u = some b ∧ b ≤ b') : ∀ {q : List Int} {t : List y0}, Wu u q t → Wu u' q t
 | [], [], _ => trivial
 | a :: q, n :: t, h => by
  refine ⟨h.1.up ?_, Wu.up hv h.2⟩
  cases q with
  | nil => exact hv
  | cons b q => exact fun b' e => ⟨b', e, Int.le_refl _⟩
 | [], _ :: _, h => h.elim
 | _ :: _, [], h => h.elim
theorem yna {u : Option Int} : ∀ {q : List Int} {t : List y0}, Wu u q t → ∀ j, j < t.length → NB (q.getD j 0) (if j + 1 < t.length then some (q.getD (j + 1) 0) else u) (t.getD j yf)
 | [], [], _, j, hj => by simp at hj
 | a :: q, n :: t, h, 0, _ => by
  have h1 := h.1
  have hl := Wu.len h.2
  cases q with
  | nil =>
   cases t with
   | nil => simpa [upT] using h1
   | cons m t => simp at hl
  | cons b q =>
   cases t with
   | nil => simp at hl
   | cons m t => simpa [upT] using h1
 | a :: q, n :: t, h, j + 1, hj => by
  have := yna h.2 j (by simpa using hj)
  simpa using this
 | [], _ :: _, h, _, _ => h.elim
 | _ :: _, [], h, _, _ => h.elim
theorem yu1 {u : Option Int} : ∀ {q : List Int} {t : List y0}, q.length = t.length → (∀ j, j < t.length → NB (q.getD j 0) (if j + 1 < t.length then some (q.getD (j + 1) 0) else u) (t.getD j yf)) → Wu u q t
 | [], [], _, _ => trivial
 | a :: q, n :: t, hl, h => by
  refine ⟨?_, yu1 (by simpa using hl) fun j hj => ?_⟩
  ·have h0 := h 0 (by simp)
   cases q with
   | nil =>
    cases t with
    | nil => simpa [upT] using h0
    | cons m t => simp at hl
   | cons b q =>
    cases t with
    | nil => simp at hl
    | cons m t => simpa [upT] using h0
  ·have := h (j + 1) (by simpa using hj)
   simpa using this
 | [], _ :: _, hl, _ => by simp at hl
 | _ :: _, [], hl, _ => by simp at hl
theorem y13 {A : Type} {p : Int → A → Bool} (hp : ∀ i j a, p i a = p j a) {l : List A} (h : ∀ a ∈ l, p 0 a = false) : ∀ i, Yq p l i = false := by
 induction l with
 | nil => intro i; rfl
 | cons a l ih =>
  intro i
  rw [Yq, hp i 0 a, h a (by simp), ih (fun b hb => h b (by simp [hb])) (i + 1)]
  rfl
structure Wt (q : List Int) (t : List y0) : Prop where
 w : Wu none q t
 zero : q.getD 0 0 = 0
 pos : 0 < t.length
 full : ∀ n ∈ t.drop 1, 0 < (yz n).length
theorem ynb {q : List Int} {t : List y0} (h : z6 q t = true) : Wt q t := by
 have hP := zP h
 obtain ⟨f1, f2, f3, f4⟩ := jW h
 have h0 := h
 unfold z6 at h
 simp only [Bool.and_eq_true, Bool.not_eq_true', decide_eq_true_eq, zv, beq_iff_eq] at h
 have hb : ∀ i, i < t.length → y2n q i (t.getD i yf) = true := fun i hi => by
  have := Ja yf t 0 h.2.2.2.1 i hi
  unfold v8 at this
  simp only [Bool.or_eq_false_iff, Bool.not_eq_false'] at this
  rw [show (0 : Int) + (i : Int) = i by omega] at this
  exact this.2
 have hmem : ∀ i, i < t.length → t.getD i yf ∈ t := fun i hi => by
  rw [yF _ _ _ hi]
  exact List.getElem_mem _
 refine ⟨yu1 f1 fun j hj => ⟨f4 _ (hmem j hj), fun s hs x hx => ?_, fun b e => ?_⟩, hP.zero, hP.pos, fun n hn => ?_⟩
 ·have h1 := hb j hj
  unfold y2n at h1
  simp only [Bool.and_eq_true, Bool.not_eq_true'] at h1
  obtain ⟨_, h2⟩ := J6 _ _ 0 h1.2.2 s hs
  unfold yaZ at h2
  obtain ⟨_, h3⟩ := J6 _ _ 0 h2 x hx
  unfold yhe at h3
  simp only [Bool.or_eq_false_iff, decide_eq_false_iff_not, Bool.and_eq_false_iff] at h3
  rw [show ((j : Nat) : Int).toNat = j by omega, show (((j : Nat) : Int) + 1).toNat = j + 1 by omega] at h3
  refine ⟨by omega, fun b e => ?_⟩
  split at e
  ·injection e with e
   rw [← e]
   rcases h3.2 with h5 | h5 <;> omega
  ·cases e
 ·split at e
  ·injection e with e
   rw [← e]
   exact hP.low j (by assumption)
  ·cases e
 ·obtain ⟨i, hi, rfl⟩ := List.mem_iff_getElem.1 hn
  rw [List.length_drop] at hi
  rw [List.getElem_drop, ← yF yf t (1 + i) (by omega)]
  have h1 := hb (1 + i) (by omega)
  unfold y2n y6L at h1
  simp only [Bool.and_eq_true, Bool.not_eq_true', Bool.and_eq_false_iff, decide_eq_false_iff_not, beq_eq_false_iff_ne] at h1
  rcases h1.2.1 with h2 | h2
  ·omega
  ·omega
theorem ync {q : List Int} {t : List y0} (h : Wt q t) (hl : t.length ≤ 20) (hk : (yc t).length ≤ 60) : z6 q t = true := by
 have hlen := h.w.len
 have hpos := h.pos
 unfold z6
 simp only [Bool.and_eq_true, Bool.not_eq_true', decide_eq_true_eq, zv, beq_iff_eq]
 refine ⟨by omega, hlen, h.zero, wS yf _ 0 fun j hj => ?_, by omega⟩
 have hn := yna h.w j hj
 rw [show (0 : Int) + (j : Int) = j by omega]
 unfold v8 yer y2n y6L
 simp only [Bool.or_eq_false_iff, Bool.not_eq_false', Bool.and_eq_true, Bool.not_eq_true', Bool.and_eq_false_iff, decide_eq_false_iff_not, beq_eq_false_iff_ne]
 refine ⟨?_, hn.ok, ?_, ?_⟩
 ·by_cases hj0 : j = 0
  ·exact .inl (by omega)
  ·have hp := yna h.w (j - 1) (by omega)
   rw [if_pos (by omega)] at hp
   have := hp.low _ rfl
   rw [show j - 1 + 1 = j by omega] at this
   rw [show ((j : Int) - 1).toNat = j - 1 by omega, show ((j : Int)).toNat = j by omega]
   exact .inr (by omega)
 ·by_cases hj0 : j = 0
  ·exact .inl (by omega)
  ·refine .inr ?_
   have hm : t.getD j yf ∈ t.drop 1 := by
    rw [yF _ _ _ hj]
    refine List.mem_iff_getElem.2 ⟨j - 1, by rw [List.length_drop]; omega, ?_⟩
    rw [List.getElem_drop]
    congr 1
    omega
   have := h.full _ hm
   omega
 ·refine y13 (fun _ _ _ => rfl) (fun s hs => y13 (fun _ _ _ => rfl) (fun x hx => ?_) 0) 0
  have hx := hn.ent s hs x hx
  unfold yhe
  simp only [Bool.or_eq_false_iff, decide_eq_false_iff_not, Bool.and_eq_false_iff]
  rw [show ((j : Nat) : Int).toNat = j by omega, show (((j : Nat) : Int) + 1).toNat = j + 1 by omega]
  refine ⟨by omega, ?_⟩
  by_cases hj1 : j + 1 < t.length
  ·rw [if_pos hj1] at hx
   exact .inr (by have := hx.2 _ rfl; omega)
  ·exact .inl (by omega)
theorem ycv {l : List y7} {s : ya} (h : s ∈ (show List ya from yM l)) : s = l := by
 unfold yM at h
 split at h
 ·cases h
 ·exact List.mem_singleton.1 h
theorem y6Y {a : Int} {v : Option Int} {n : y0} (h : NB a v n) {x : y7} (hx : x ∈ yz n) : zR x = true ∧ a ≤ Jb x ∧ ∀ b, v = some b → Jb x < b := by
 obtain ⟨c, hc, hxc⟩ := y0r hx
 exact ⟨(wl h.ok).2.2 c hc x hxc, h.ent c hc x hxc⟩
theorem ydz {a : Int} {v : Option Int} {l : List y7} (hs : srt l) (hl : l.length ≤ 8) (hk : ∀ x ∈ l, zR x = true ∧ a ≤ Jb x ∧ ∀ b, v = some b → Jb x < b) (hlow : ∀ b, v = some b → a < b) : NB a v (yM l) :=
 ⟨y32 hs (fun x hx => (hk x hx).1) hl, fun s hs x hx => by
  rw [ycv hs] at hx
  exact (hk x hx).2, hlow⟩
theorem yeF (t : List y0) (i : Nat) (h : i + 2 ≤ t.length) : t = t.take i ++ (t.getD i yf :: t.getD (i + 1) yf :: t.drop (i + 2)) := by
 conv => lhs; rw [← List.take_append_drop i t]
 rw [List.drop_eq_getElem_cons (by omega), List.drop_eq_getElem_cons (by omega), yF _ _ _ (by omega), yF _ _ _ (by omega)]
theorem y5E (t : List Int) (i : Nat) (h : i + 2 ≤ t.length) : t = t.take i ++ (t.getD i 0 :: t.getD (i + 1) 0 :: t.drop (i + 2)) := by
 conv => lhs; rw [← List.take_append_drop i t]
 rw [List.drop_eq_getElem_cons (by omega), List.drop_eq_getElem_cons (by omega), yF _ _ _ (by omega), yF _ _ _ (by omega)]
theorem y14 {A : Type} (d : A) (t : List A) (i : Nat) (h : i + 1 ≤ t.length) : t = t.take i ++ (t.getD i d :: t.drop (i + 1)) := by
 conv => lhs; rw [← List.take_append_drop i t]
 rw [List.drop_eq_getElem_cons (by omega), yF _ _ _ (by omega)]
theorem Qa {t : List y0} {i c : Nat} {m : List y0} (h : ∀ n ∈ t.drop 1, 0 < (yz n).length) (hic : i ≤ t.length) (hm : ∀ n ∈ (if i = 0 then m.drop 1 else m), 0 < (yz n).length) (hd : i = 0 → 0 < m.length) (hc : 0 < c) : ∀ n ∈ (yZ t i c m).drop 1, 0 < (yz n).length := by
 intro n hn
 unfold yZ at hn
 by_cases hi : i = 0
 ·subst hi
  rw [if_pos rfl] at hm
  have hd := hd rfl
  rw [List.take_zero, List.nil_append, List.drop_append] at hn
  rcases List.mem_append.1 hn with h1 | h1
  ·exact hm n h1
  ·rw [show 1 - m.length = 0 by omega, List.drop_zero, Nat.zero_add] at h1
   exact h n (by
    rw [show c = 1 + (c - 1) by omega, ← List.drop_drop] at h1
    exact List.mem_of_mem_drop h1)
 ·rw [if_neg hi] at hm
  rw [List.append_assoc, List.drop_append] at hn
  rcases List.mem_append.1 hn with h1 | h1
  ·rw [List.drop_take] at h1
   exact h n (List.mem_of_mem_take h1)
  ·rw [List.length_take, show 1 - min i t.length = 0 by omega, List.drop_zero] at h1
   rcases List.mem_append.1 h1 with h2 | h2
   ·exact hm n h2
   ·refine h n ?_
    rw [show i + c = 1 + (i + c - 1) by omega, ← List.drop_drop] at h2
    exact List.mem_of_mem_drop h2
theorem y0J {q1 q2 : List Int} : (q1 ++ q2).getD 0 0 = if q1.length = 0 then q2.getD 0 0 else q1.getD 0 0 := by
 cases q1 <;> simp
theorem ynd {q : List Int} {t : List y0} (h : Wt q t) (hp : ¬ yD t 0 < 0) : Wt (yZ q (yD t 0).toNat 2 [q.getD (yD t 0).toNat 0]) (yZ t (yD t 0).toNat 2 [yM (yz (t.getD (yD t 0).toNat yf) ++ yz (t.getD (yD t 0 + 1).toNat yf))]) := by
 obtain ⟨h1, h2, h3⟩ := y35 hp
 have hq := h.w.len
 rw [show (yD t 0 + 1).toNat = (yD t 0).toNat + 1 by omega]
 have h3' : (yz (t.getD (yD t 0).toNat yf)).length + (yz (t.getD ((yD t 0).toNat + 1) yf)).length ≤ 6 := by
  have e1 : ye t (yD t 0 + 1) = t.getD ((yD t 0).toNat + 1) yf := by
   show t.getD (yD t 0 + 1).toNat yf = _
   rw [show (yD t 0 + 1).toNat = (yD t 0).toNat + 1 by omega]
  rw [e1] at h3
  exact h3
 clear h3
 generalize hj : (yD t 0).toNat = j at *
 have hj2 : j + 2 ≤ t.length := by omega
 clear h1 h2 hp hj
 have hw := h.w
 rw [yeF t j hj2, y5E q j (by omega), y5D _ _ (by simp [hq])] at hw
 obtain ⟨w1, w2, w3, w4⟩ := hw
 have hb := w2.low _ rfl
 have hsort : srt (yz (t.getD j yf) ++ yz (t.getD (j + 1) yf)) := by
  refine List.pairwise_append.2 ⟨KN _, KN _, fun x hx y hy => ?_⟩
  obtain ⟨kx, _, ux⟩ := y6Y w2 hx
  obtain ⟨ky, ly, _⟩ := y6Y w3 hy
  rw [qK kx ky]
  have := ux _ rfl
  omega
 refine ⟨?_, ?_, ?_, ?_⟩
 ·unfold yZ
  rw [List.append_assoc, List.append_assoc, y5D _ _ (by simp [hq])]
  refine ⟨w1, ?_, w4⟩
  refine ydz hsort (by rw [List.length_append]; omega) (fun x hx => ?_) fun b e => ?_
  ·rcases List.mem_append.1 hx with hx | hx
   ·obtain ⟨kx, lx, ux⟩ := y6Y w2 hx
    refine ⟨kx, lx, fun b e => ?_⟩
    have := ux _ rfl
    have := w3.low b e
    omega
   ·obtain ⟨kx, lx, ux⟩ := y6Y w3 hx
    exact ⟨kx, by omega, ux⟩
  ·have := w3.low b e
   omega
 ·unfold yZ
  rw [List.append_assoc, y0J]
  have hz := h.zero
  rw [y5E q j (by omega), y0J] at hz
  split
  ·rename_i e
   rw [if_pos e] at hz
   exact hz
  ·rename_i e
   rw [if_neg e] at hz
   exact hz
 ·rw [YC _ _ _ _ hj2]
  simp only [List.length_cons, List.length_nil]
  omega
 ·refine Qa h.full (by omega) (fun n hn => ?_) (fun _ => by simp) (by decide)
  split at hn
  ·cases hn
  ·rename_i hj0
   obtain rfl := List.mem_singleton.1 hn
   rw [Zx hsort (fun x hx => (List.mem_append.1 hx).elim Vm Vm), List.length_append]
   have := h.full (t.getD j yf) (by
    rw [yF _ _ _ (by omega)]
    refine List.mem_iff_getElem.2 ⟨j - 1, by rw [List.length_drop]; omega, ?_⟩
    rw [List.getElem_drop]
    congr 1
    omega)
   omega
theorem ydA : ∀ (m : Nat) (q : List Int) (t : List y0), Wt q t → Wt (jk m q t).1 (jk m q t).2
 | 0, _, _, h => h
 | m + 1, q, t, h => by
  rw [jk]
  split
  ·exact h
  ·rename_i hp
   exact ydA m _ _ (ynd h hp)
theorem y6Z : ∀ (m : Nat) (q : List Int) (t : List y0), t.length ≤ m → yD (jk m q t).2 0 < 0
 | 0, q, t, h => by
  rw [jk, y1K _ _ (by simp only; omega)]
  decide
 | m + 1, q, t, h => by
  rw [jk]
  split
  ·assumption
  ·rename_i hp
   obtain ⟨h1, h2, h3⟩ := y35 hp
   exact y6Z m _ _ (by
    rw [YC _ _ _ _ (by omega)]
    simp only [List.length_cons, List.length_nil]
    omega)
theorem yaS : ∀ (t : List y0) (i : Int), 0 ≤ i → yD t i < 0 → 7 * (t.length / 2) ≤ (t.flatMap yz).length
 | [], _, _, _ => by simp
 | [_], _, _, _ => by simp
 | a :: b :: r, i, hi, h => by
  rw [yD] at h
  by_cases h6 : (yz a).length + (yz b).length ≤ 6
  ·rw [if_pos h6] at h
   omega
  ·rw [if_neg h6] at h
   have h2 : yD r (i + 2) < 0 := by
    cases r with
    | nil => show (-1 : Int) < 0; decide
    | cons c r =>
     rw [yD] at h
     split at h
     ·omega
     ·rw [show i + 1 + 1 = i + 2 by omega] at h
      exact h
   have := yaS r (i + 2) (by omega) h2
   simp only [List.flatMap_cons, List.length_append, List.length_cons]
   omega
theorem yeG {n : List ya} {k : y7} {s : ya} (hs : s ∈ JR n k) {x : y7} (hx : x ∈ (show List y7 from s)) : x = k ∨ ∃ c ∈ n, x ∈ (show List y7 from c) := by
 unfold JR at hs
 split at hs
 ·rename_i hl
  rcases List.mem_or_eq_of_mem_set hs with h1 | h1
  ·exact .inr ⟨s, h1, hx⟩
  ·rw [h1] at hx
   rcases y0Y hx with h2 | h2
   ·exact .inl h2
   ·exact .inr ⟨_, y2s hl.1, h2⟩
 ·rcases List.mem_append.1 hs with h1 | h1
  ·exact .inr ⟨s, h1, hx⟩
  ·rw [List.mem_singleton.1 h1] at hx
   exact .inl (List.mem_singleton.1 hx)
theorem ydB {n : List ya} {k x : y7} (h : x ∈ Yf n k) : x = k ∨ x ∈ yz n := y0Y (y5c h)
theorem yu2 {a : Int} {v : Option Int} {n : y0} (h : NB a v n) {k : y7} (hk : zR k = true) (ha : a ≤ Jb k) (hv : ∀ b, v = some b → Jb k < b) : NB a v (zn n k).1 := by
 unfold zn
 split
 ·rename_i h1
  refine ⟨h1, fun s hs x hx => ?_, h.low⟩
  rcases yeG hs hx with rfl | ⟨c, hc, hxc⟩
  ·exact ⟨ha, hv⟩
  ·exact h.ent c hc x hxc
 ·split
  ·exact h
  ·split
   ·rename_i h8 _
    refine ydz (y4p n k) (by omega) (fun x hx => ?_) h.low
    rcases ydB hx with rfl | hx
    ·exact ⟨hk, ha, hv⟩
    ·exact y6Y h hx
   ·exact h
theorem yeH {q : List Int} {t : List y0} {k : y7} (h : z6 q t = true) (hk : zR k = true) : Wt (yt q t k).1 (yt q t k).2 := by
 have hW := ynb h
 obtain ⟨e1, e2, e3⟩ := Q3 h hk
 have hs : jX k.1 k.2.1 = Jb k := rfl
 rw [hs] at e1
 have hhalf := y8S h hk
 obtain ⟨b1, b2, b3⟩ := y8U q (Jb k) q.length _ e1
 have hq := hW.w.len
 have hw := hW.w
 unfold yt
 generalize hj : z5 q k = j at *
 rw [y14 yf t j (by omega), y14 0 q j (by omega), y5D _ _ (by simp [hq])] at hw
 obtain ⟨w1, w2, w3⟩ := hw
 have hv : ∀ b, upT none (q.drop (j + 1)) = some b → Jb k < b := fun b e => by
  by_cases hj1 : j + 1 < q.length
  ·rw [List.drop_eq_getElem_cons hj1] at e
   have e' : q[j + 1] = b := by injection e
   have := b3 (j + 1) (by omega) hj1
   rw [yF _ _ _ hj1, e'] at this
   exact this
  ·rw [List.drop_eq_nil_of_le (by omega)] at e
   cases e
 generalize hn : t.getD j yf = n at *
 have hz := hW.zero
 rw [y14 0 q j (by omega), y0J] at hz
 have hnj : 0 < j → 0 < (yz n).length := fun h0 => hW.full n (by
  rw [← hn, yF _ _ _ (by omega)]
  refine List.mem_iff_getElem.2 ⟨j - 1, by rw [List.length_drop]; omega, ?_⟩
  rw [List.getElem_drop]
  congr 1
  omega)
 split
 ·rename_i hm
  obtain ⟨g1, g2⟩ := hhalf hm
  have hws := y4p n k
  have hkey : ∀ x ∈ Yf n k, zR x = true ∧ q.getD j 0 ≤ Jb x ∧ ∀ b, upT none (q.drop (j + 1)) = some b → Jb x < b := fun x hx => by
   rcases ydB hx with rfl | hx
   ·exact ⟨hk, b1, hv⟩
   ·exact y6Y w2 hx
  have hlive : ∀ x ∈ Yf n k, x.2.2.1 ≠ 0 := fun x hx => y2w hx
  generalize hl : Yf n k = l at *
  generalize hh : Wb l = m at *
  have hm0 : 0 < m := by
   rw [← hh]
   unfold Wb
   omega
  have hml : m ≤ 8 ∧ l.length - m ≤ 8 := by
   rw [← hh]
   unfold Wb
   omega
  have hat : l.getD m yH = l[m] := yF _ _ _ g1
  have hf := hkey l[m] (List.getElem_mem _)
  have hlt : ∀ x ∈ l.take m, Jb x < Jb l[m] := fun x hx => by
   obtain ⟨i, hi, rfl⟩ := List.mem_iff_getElem.1 hx
   rw [List.length_take] at hi
   rw [List.getElem_take]
   have := List.pairwise_iff_getElem.1 hws i m (by omega) g1 (by omega)
   exact (qK (hkey _ (List.getElem_mem _)).1 hf.1).1 this
  have hge : ∀ x ∈ l.drop m, Jb l[m] ≤ Jb x := fun x hx => by
   obtain ⟨i, hi, rfl⟩ := List.mem_iff_getElem.1 hx
   rw [List.length_drop] at hi
   rw [List.getElem_drop]
   by_cases hi0 : i = 0
   ·subst hi0
    exact Int.le_refl _
   ·have := List.pairwise_iff_getElem.1 hws m (m + i) g1 (by omega) (by omega)
    have := (qK hf.1 (hkey _ (List.getElem_mem _)).1).1 this
    omega
  have hsp : q.getD j 0 < Jb l[m] := by
   have h0 : l[0] ∈ l.take m := by
    refine List.mem_iff_getElem.2 ⟨0, by rw [List.length_take]; omega, ?_⟩
    rw [List.getElem_take]
   have := hlt _ h0
   have := (hkey l[0] (List.getElem_mem _)).2.1
   omega
  rw [hat]
  refine ⟨?_, ?_, ?_, ?_⟩
  ·unfold yZ
   rw [List.append_assoc, List.append_assoc, y5D _ _ (by simp [hq])]
   refine ⟨w1, ?_, ?_, w3⟩
   ·refine ydz (List.Pairwise.sublist (List.take_sublist _ _) hws) (by rw [List.length_take]; omega) (fun x hx => ?_) fun b e => ?_
    ·obtain ⟨x1, x2, x3⟩ := hkey x (List.mem_of_mem_take hx)
     refine ⟨x1, x2, fun b e => ?_⟩
     have e' : Jb l[m] = b := by injection e
     have := hlt x hx
     omega
    ·have e' : Jb l[m] = b := by injection e
     omega
   ·refine ydz (List.Pairwise.sublist (List.drop_sublist _ _) hws) (by rw [List.length_drop]; omega) (fun x hx => ?_) fun b e => ?_
    ·obtain ⟨x1, x2, x3⟩ := hkey x (List.mem_of_mem_drop hx)
     exact ⟨x1, hge x hx, x3⟩
    ·exact hf.2.2 b e
  ·unfold yZ
   rw [List.append_assoc, y0J]
   split
   ·rename_i e
    rw [if_pos e] at hz
    exact hz
   ·rename_i e
    rw [if_neg e] at hz
    exact hz
  ·rw [YC _ _ _ _ (by omega)]
   simp only [List.length_cons, List.length_nil]
   omega
  ·refine Qa hW.full (by omega) (fun x hx => ?_) (fun _ => by simp) (by decide)
   have e4 : 0 < (yz (yM (l.take m))).length := by
    rw [Zx (List.Pairwise.sublist (List.take_sublist _ _) hws) fun x hx => hlive x (List.mem_of_mem_take hx), List.length_take]
    omega
   have e5 : 0 < (yz (yM (l.drop m))).length := by
    rw [Zx (List.Pairwise.sublist (List.drop_sublist _ _) hws) fun x hx => hlive x (List.mem_of_mem_drop hx), List.length_drop]
    omega
   split at hx
   ·obtain rfl := List.mem_singleton.1 hx
    exact e5
   ·simp only [List.mem_cons, List.mem_nil_iff, or_false] at hx
    rcases hx with rfl | rfl
    ·exact e4
    ·exact e5
 ·split
  ·rename_i h0
   obtain ⟨h0, _⟩ := h0
   refine ⟨?_, ?_, ?_, ?_⟩
   ·unfold yZ
    simp only [List.append_nil]
    rw [y5D _ _ (by simp [hq])]
    refine ⟨Wu.up (fun b' e => ⟨q.getD j 0, rfl, ?_⟩) w1, w3⟩
    have := w2.low b' e
    omega
   ·unfold yZ
    rw [List.append_assoc, y0J, if_neg (by rw [List.length_take]; omega)]
    rw [if_neg (by rw [List.length_take]; omega)] at hz
    exact hz
   ·rw [YC _ _ _ _ (by omega)]
    simp only [List.length_nil]
    omega
   ·refine Qa hW.full (by omega) (fun x hx => ?_) (fun e => by omega) (by decide)
    split at hx <;> cases hx
  ·rename_i hm h0
   have hsp := y10 t j (zn n k).1 (by omega)
   rw [← hsp]
   refine ⟨?_, hW.zero, by rw [YC _ _ _ _ (by omega)]; simp only [List.length_cons, List.length_nil]; omega, ?_⟩
   ·unfold yZ
    conv => rw [y14 0 q j (by omega)]
    rw [List.append_assoc, y5D _ _ (by simp [hq])]
    exact ⟨w1, yu2 w2 hk b1 hv, w3⟩
   ·refine Qa hW.full (by omega) (fun x hx => ?_) (fun _ => by simp) (by decide)
    split at hx
    ·cases hx
    ·rename_i hj0
     obtain rfl := List.mem_singleton.1 hx
     have : ¬ (yz (zn n k).1).length = 0 := fun e => h0 ⟨by omega, e⟩
     omega
theorem y70 {q : List Int} {t : List y0} {k : y7} (h : z6 q t = true) (hk : zR k = true) (hn : (W8 (Y1 (yc t) k)).length ≤ 60) : (yk q t k).2.2 = true := by
 have hW := ydA (yt q t k).2.length _ _ (yeH h hk)
 have hd := y6Z (yt q t k).2.length (yt q t k).1 (yt q t k).2 (Nat.le_refl _)
 have hkeys : yc (jk (yt q t k).2.length (yt q t k).1 (yt q t k).2).2 = W8 (Y1 (yc t) k) := (y5k _ _ _ (y5l h hk)).trans (y0B h hk)
 have hm := yaS _ 0 (Int.le_refl _) hd
 rw [← KP, hkeys] at hm
 have hok := ync hW (by omega) (by rw [hkeys]; exact hn)
 unfold yk
 rw [if_pos (by rw [h, hk]; rfl), if_pos hok]
end Go.Proofs.YtjllpipmaejeoaaGreat.Pl
namespace Go.Proofs.YtjllpipmaejeoaaGreat.Pl
open Go.Proofs.YtjllpipmaejeoaaGreat.R Go.Proofs.YtjllpipmaejeoaaGreat.XV
theorem y15 : ∀ (l : List y8) (i : Int), ∀ x ∈ jA l i, i ≤ x ∧ x < i + l.length ∧ (l.getD (x - i).toNat yQ).2.1 = true
 | [], i, x, hx => by simp [jA] at hx
 | c :: l, i, x, hx => by
  rw [jA] at hx
  have hr : x ∈ jA l (i + 1) → i ≤ x ∧ x < i + ((c :: l).length : Nat) ∧ ((c :: l).getD (x - i).toNat yQ).2.1 = true := fun hx => by
   obtain ⟨h1, h2, h3⟩ := y15 l (i + 1) x hx
   refine ⟨by omega, by simp only [List.length_cons]; omega, ?_⟩
   rw [show (x - i).toNat = (x - (i + 1)).toNat + 1 by omega, List.getD_cons_succ]
   exact h3
  split at hx
  ·rename_i hc
   rcases List.mem_cons.1 hx with rfl | hx
   ·refine ⟨Int.le_refl _, by simp only [List.length_cons]; omega, ?_⟩
    rw [show (x - x).toNat = 0 by omega]
    exact hc
   ·exact hr hx
  ·exact hr hx
theorem vo : ∀ (l : List y8) (i : Int), (jA l i).Nodup
 | [], i => by simp [jA]
 | c :: l, i => by
  rw [jA]
  split
  ·refine List.nodup_cons.2 ⟨fun hm => ?_, vo l (i + 1)⟩
   have := (y15 l (i + 1) i hm).1
   omega
  ·exact vo l (i + 1)
theorem yki {ks : List y7} (h : srt ks) {i j : Nat} (hi : i < ks.length) (hj : j < ks.length) (hij : i < j) : ks[i] ≠ ks[j] := fun e => by
 have := List.pairwise_iff_getElem.1 h i j hi hj hij
 rw [e, y0y] at this
 cases this
theorem ygK {ks : List y7} {l : List y9} {cs : List y8} (hs : srt ks) (hk : ks.length ≤ 1048576) (hc : cs.length ≤ 1048576) (ha : ∀ c ∈ ks, 0 ≤ yS l c.2.1) (hg : ∀ c ∈ ks, c.2.2.1 = 1 → (Z5 cs c.2.2.2.1 c.2.2.2.2).2 = true) (hd : ∀ c ∈ ks, ∀ d ∈ ks, c.2.2.1 = 1 → d.2.2.1 = 1 → c.2.2.2.1 = d.2.2.2.1 → c = d) (hu : ∀ i : Int, 0 ≤ i → i < (cs.length : Int) → (cs.getD i.toNat yQ).2.1 = true → ∃ c ∈ ks, c.2.2.1 = 1 ∧ c.2.2.2.1 = i) : ZL ks l cs = true := by
 have hdat : ∀ c : y7, y2z c = true ↔ c.2.2.1 = 1 := fun c => by unfold y2z; exact beq_iff_eq
 have hused : ∀ c ∈ ks, c.2.2.1 = 1 → 0 ≤ c.2.2.2.1 ∧ c.2.2.2.1 < (cs.length : Int) ∧ (cs.getD c.2.2.2.1.toNat yQ).2.1 = true := fun c hcm h1 => by
  have h2 := hg c hcm h1
  unfold Z5 at h2
  split at h2
  ·rename_i hh
   simp only [Bool.and_eq_true] at hh
   have := zv.1 hh.1
   exact ⟨this.1, by omega, hh.2.1⟩
  ·cases h2
 have hnd : (kB ks).Nodup := by
  unfold kB List.Nodup
  rw [List.pairwise_map, List.pairwise_filter, List.pairwise_iff_getElem]
  intro i j hi hj hij h1 h2 he
  exact yki hs hi hj hij (hd _ (List.getElem_mem _) _ (List.getElem_mem _) ((hdat _).1 h1) ((hdat _).1 h2) he)
 have e1 : (kB ks).length = (jA cs 0).length := by
  refine Nat.le_antisymm (KQ _ _ hnd fun x hx => ?_) (KQ _ _ (vo _ _) fun x hx => ?_)
  ·obtain ⟨k, hk, rfl⟩ := List.mem_map.1 hx
   obtain ⟨hk, hd⟩ := List.mem_filter.1 hk
   obtain ⟨a1, a2, a3⟩ := hused k hk ((hdat _).1 hd)
   have := Vo cs 0 k.2.2.2.1.toNat (by omega) a3
   rwa [show (0 : Int) + (k.2.2.2.1.toNat : Int) = k.2.2.2.1 by omega] at this
  ·obtain ⟨h1, h2, h3⟩ := y15 cs 0 x hx
   rw [show x - 0 = x by omega] at h3
   obtain ⟨c, hc, hc1, hc2⟩ := hu x (by omega) (by omega) h3
   exact List.mem_map.2 ⟨c, List.mem_filter.2 ⟨hc, (hdat c).2 hc1⟩, hc2⟩
 unfold ZL
 simp only [Bool.and_eq_true, Bool.not_eq_true', beq_iff_eq]
 refine ⟨wS yH ks 0 fun j hj => ?_, ?_⟩
 ·rw [yF _ _ _ hj]
  unfold yce
  have hm : ks[j] ∈ ks := List.getElem_mem _
  have h1 := ha _ hm
  rw [decide_eq_false (show ¬ yS l ks[j].2.1 < 0 by omega), Bool.false_or, Bool.and_eq_false_iff]
  by_cases hj1 : ks[j].2.2.1 = 1
  ·refine .inr ?_
   rw [hg _ hm hj1, Bool.not_true, Bool.false_or]
   refine y13 (fun _ _ _ => rfl) (fun a ha => ?_) 0
   rw [show ((0 : Int) + (j : Int)).toNat = j by omega] at ha
   obtain ⟨i, hi, rfl⟩ := List.mem_iff_getElem.1 ha
   rw [List.length_take] at hi
   rw [List.getElem_take]
   unfold zm
   rw [Bool.and_eq_false_iff]
   by_cases hi1 : ks[i].2.2.1 = 1
   ·refine .inr (beq_eq_false_iff_ne.2 fun he => ?_)
    exact yki hs (by omega) hj (by omega) (hd _ (List.getElem_mem _) _ hm hi1 hj1 he)
   ·exact .inl (beq_eq_false_iff_ne.2 hi1)
  ·exact .inl (beq_eq_false_iff_ne.2 hj1)
 ·unfold QA
  rw [y96 ks 0 (Int.le_refl _) (by omega), y12 cs 0 0 (Int.le_refl _) (by omega), e1]
theorem y5F {ks : List y7} {l : List y9} {cs : List y8} (h : ZL ks l cs = true) (hk : ks.length ≤ 1048576) (hc : cs.length ≤ 1048576) {i : Int} (i0 : 0 ≤ i) (i1 : i < (cs.length : Int)) (hu : (cs.getD i.toNat yQ).2.1 = true) : ∃ c ∈ ks, c.2.2.1 = 1 ∧ c.2.2.2.1 = i := by
 obtain ⟨h1, _⟩ := ygD h hk hc i0 i1 hu
 rcases Yh (zm i 0) yH ks 0 (Int.le_refl _) with h2 | ⟨h2, h3, h4⟩
 ·omega
 ·rw [Int.sub_zero] at h4
  have hm : (zE (zm i 0) ks 0).toNat < ks.length := by omega
  refine ⟨ks.getD (zE (zm i 0) ks 0).toNat yH, by rw [yF _ _ _ hm]; exact List.getElem_mem _, ?_⟩
  unfold zm at h4
  rw [Bool.and_eq_true, beq_iff_eq, beq_iff_eq] at h4
  exact h4
theorem ycw {q : List yb} {t : List y0} {l : List y9} {cs : List y8} {vs : List yh} {z : Int} (ht : z6 q t = true) (hl : YO l = true) (hc : zc cs = true) (hz : 1 ≤ z ∧ z ≤ 61) (hla : ∀ a ∈ l, a.1 < z) (hv : ji vs l = true) (hf : ZL (yc t) l cs = true) : yr q t l cs vs z = true := by
 unfold yr
 rw [ht, hl, hc, zv.2 hz, hv, hf]
 have : Yq (q9 z) l 0 = false := y13 (fun _ _ _ => rfl) (fun a ha => by
  unfold q9
  have := hla a ha
  exact decide_eq_false (by omega)) 0
 rw [this]
 rfl
theorem ygL {cs : List y8} (h : zc cs = true) (i : Nat) (hi : i < cs.length) : (0 ≤ (cs.getD i yQ).1 ∧ (cs.getD i yQ).1 ≤ 999) ∧ isW (cs.getD i yQ).2.2 = true := by
 have hw := yaM h i hi
 unfold zc at h
 simp only [Bool.and_eq_true, Bool.not_eq_true'] at h
 have := Ja yQ cs 0 h.1 i hi
 unfold y60 at this
 simp only [Bool.or_eq_false_iff, Bool.not_eq_false'] at this
 exact ⟨zv.1 this.1, hw⟩
theorem ygM {cs : List y8} (h : zc cs = true) (i : Nat) (c : y8) (hg : 0 ≤ c.1 ∧ c.1 ≤ 999) (hw : isW c.2.2 = true) (hn : c.2.1 = false → c.2.2 = 0) : zc (cs.set i c) = true := by
 have h24 := Ki h
 unfold zc at h ⊢
 simp only [Bool.and_eq_true, Bool.not_eq_true'] at h ⊢
 refine ⟨y13 (fun _ _ _ => rfl) (fun a ha => ?_) 0, by rw [List.length_set]; exact h.2⟩
 rcases List.mem_or_eq_of_mem_set ha with h1 | rfl
 ·obtain ⟨j, hj⟩ := J6 _ _ 0 h.1 a h1
  exact hj
 ·unfold y60
  rw [zv.2 hg, hw]
  cases hu : a.2.1 with
  | true => rfl
  | false => rw [hn hu]; rfl
theorem yiR : isW 0 = true := by decide
theorem yiS {g : Int} (h : 0 ≤ g ∧ g ≤ 999) : 0 ≤ Int.tmod (Go.IntKind.wrap .i64 (g + 1)) 1000 ∧ Int.tmod (Go.IntKind.wrap .i64 (g + 1)) 1000 ≤ 999 := by
 rw [w64 (n := g + 1) (by omega) (by omega), Int.tmod_eq_emod_of_nonneg (by omega)]
 omega
theorem yne {cs : List y8} (h : zc cs = true) (i : Int) : zc (y19 cs i) = true := by
 unfold y19
 split
 ·rename_i hh
  have := (ygL h i.toNat (by have := Ki h; omega)).1
  exact ygM h _ _ (yiS this) yiR fun _ => rfl
 ·exact h
theorem ygN {cs : List y8} (h : zc cs = true) {i : Int} (h0 : 0 ≤ i) (h1 : i ≤ 23) : ((y19 cs i).getD i.toNat yQ).2.1 = false := by
 have h24 := Ki h
 by_cases hu : (cs.getD i.toNat yQ).2.1 = true
 ·rw [y5o ⟨h, h0, h1, hu⟩, yaP _ _ _ _ (by omega)]
 ·rw [Q5 (fun hh => hu hh.2.2.2)]
  simpa using hu
end Go.Proofs.YtjllpipmaejeoaaGreat.Pl
namespace Go.Proofs.YtjllpipmaejeoaaGreat.Pl
open Go.Proofs.YtjllpipmaejeoaaGreat.R Go.Proofs.YtjllpipmaejeoaaGreat.XV
theorem y5G {K : List y7} (hK : srt K) {b : Int} {path : List Int} {d : y7} (hd : d ∈ K) (hb : d.1 = b) (hp : d.2.1 ∈ path) (hm : ∀ c ∈ K, c.1 = b → c.2.1 ∈ path → c.2.1 ≤ d.2.1) : zB (zF K b) path = (true, d) := by
 rcases qL (zF K b) path with ⟨h1, h2⟩ | ⟨h1, h2, h3, h4⟩
 ·exact absurd hp (h2 d (YE.2 ⟨hd, hb⟩))
 ·obtain ⟨h5, h6⟩ := YE.1 h2
  have e1 := h4 d (YE.2 ⟨hd, hb⟩) hp
  have e2 := hm _ h5 h6 h3
  have e3 := Q4 hK h5 hd (zx.2 ⟨h6.trans hb.symm, by omega⟩)
  exact Prod.ext h1 e3
theorem yaT {K : List y7} {b : Int} {path : List Int} (h : ∀ c ∈ K, c.1 = b → c.2.1 ∉ path) : zB (zF K b) path = (false, (0, 0, 0, 0, 0)) := by
 rcases qL (zF K b) path with ⟨h1, h2⟩ | ⟨h1, h2, h3, h4⟩
 ·exact h1
 ·obtain ⟨h5, h6⟩ := YE.1 h2
  exact absurd h3 (h _ h5 h6)
theorem Wq (K : List y7) (b : Int) (path : List Int) : (zB (zF K b) path = (false, (0, 0, 0, 0, 0)) ∧ ∀ c ∈ K, c.1 = b → c.2.1 ∉ path) ∨ ∃ d ∈ K, d.1 = b ∧ d.2.1 ∈ path ∧ zB (zF K b) path = (true, d) ∧ ∀ c ∈ K, c.1 = b → c.2.1 ∈ path → c.2.1 ≤ d.2.1 := by
 rcases qL (zF K b) path with ⟨h1, h2⟩ | ⟨h1, h2, h3, h4⟩
 ·exact .inl ⟨h1, fun c hc hb => h2 c (YE.2 ⟨hc, hb⟩)⟩
 ·obtain ⟨h5, h6⟩ := YE.1 h2
  exact .inr ⟨_, h5, h6, h3, Prod.ext h1 rfl, fun c hc hb hp => h4 c (YE.2 ⟨hc, hb⟩) hp⟩
theorem yiT {K : List y7} {l : List y9} {cs : List y8} {b a : Int} (h : ∀ c ∈ K, c.1 = b → c.2.1 ∉ yN l a) : y9h K l cs b a = 0 := by
 unfold y9h
 rw [yaT h]
 rfl
theorem ynf {K : List y7} {l : List y9} {cs : List y8} {b a : Int} {d : y7} (h : zB (zF K b) (yN l a) = (true, d)) : y9h K l cs b a = if d.2.2.1 = 1 then (Z5 cs d.2.2.2.1 d.2.2.2.2).1 else 0 := by
 unfold y9h
 rw [h]
 by_cases hd : d.2.2.1 = 1
 ·rw [if_pos hd, if_pos (by rw [show (d.2.2.1 == 1) = true by rw [hd]; rfl]; rfl)]
 ·rw [if_neg hd, if_neg (by simp [hd])]
def y6b (l : List y7) : List (Int × Int) := l.map fun x : y7 => (x.1, x.2.1)
theorem y1N {l : List y7} (h : srt l) : (y6b l).Nodup := by
 unfold y6b List.Nodup
 rw [List.pairwise_map]
 refine List.Pairwise.imp (fun {a b} hab he => ?_) h
 injection he with e1 e2
 have := KL.1 hab
 omega
theorem y2B (l : List y7) : (y6b l).length = l.length := by unfold y6b; rw [List.length_map]
theorem KR {l : List y7} {p : Int × Int} : p ∈ y6b l ↔ ∃ x ∈ l, x.1 = p.1 ∧ x.2.1 = p.2 := by
 unfold y6b
 rw [List.mem_map]
 constructor
 ·rintro ⟨x, hx, rfl⟩
  exact ⟨x, hx, rfl, rfl⟩
 ·rintro ⟨x, hx, h1, h2⟩
  exact ⟨x, hx, Prod.ext h1 h2⟩
theorem y71 {a b : List y7} (ha : srt a) (h : ∀ x ∈ a, ∃ y ∈ b, y.1 = x.1 ∧ y.2.1 = x.2.1) : a.length ≤ b.length := by
 rw [← y2B a, ← y2B b]
 refine KQ _ _ (y1N ha) fun p hp => ?_
 obtain ⟨x, hx, h1, h2⟩ := KR.1 hp
 obtain ⟨y, hy, h3, h4⟩ := h x hx
 exact KR.2 ⟨y, hy, h3.trans h1, h4.trans h2⟩
theorem y5H {a b : List y7} (ha : srt a) (hb : srt b) {k : y7} (hk : k ∈ b) (hka : ∀ x ∈ a, Y3 x k = false) (h1 : ∀ x ∈ a, x ∈ b) (h2 : ∀ x ∈ b, Y3 x k = false → x ∈ a) : a.length + 1 = b.length := by
 rw [← y2B a, ← y2B b]
 refine Nat.le_antisymm ?_ ?_
 ·have := KQ ((k.1, k.2.1) :: y6b a) (y6b b) (List.nodup_cons.2 ⟨fun hm => ?_, y1N ha⟩) fun p hp => ?_
  ·simpa using this
  ·obtain ⟨x, hx, h3, h4⟩ := KR.1 hm
   have := hka x hx
   rw [zx.2 ⟨h3, h4⟩] at this
   cases this
  ·rcases List.mem_cons.1 hp with rfl | hp
   ·exact KR.2 ⟨k, hk, rfl, rfl⟩
   ·obtain ⟨x, hx, h3, h4⟩ := KR.1 hp
    exact KR.2 ⟨x, h1 x hx, h3, h4⟩
 ·have := KQ (y6b b) ((k.1, k.2.1) :: y6b a) (y1N hb) fun p hp => ?_
  ·simpa using this
  ·obtain ⟨x, hx, h3, h4⟩ := KR.1 hp
   cases hs : Y3 x k with
   | false => exact List.mem_cons_of_mem _ (KR.2 ⟨x, h2 x hx hs, h3, h4⟩)
   | true =>
    obtain ⟨h5, h6⟩ := zx.1 hs
    exact List.mem_cons.2 (.inl (Prod.ext (h3.symm.trans h5) (h4.symm.trans h6)))
theorem y5I {ks : List y7} (hs : srt ks) (k : y7) : srt (W8 (Y1 ks k)) := KM (wj k hs)
theorem y5J {ks : List y7} {k x : y7} : x ∈ W8 (Y1 ks k) ↔ (x = k ∨ (x ∈ ks ∧ Y3 x k = false)) ∧ x.2.2.1 ≠ 0 := by rw [wm, qd]
theorem y9a {t : List y0} {q : List Int} (h : z6 q t = true) {x : y7} (hx : x ∈ yc t) : zR x = true := by
 obtain ⟨n, hn, hx⟩ := y4q.1 hx
 obtain ⟨i, hi, rfl⟩ := List.mem_iff_getElem.1 hn
 rw [← yF yf t i hi] at hx
 exact ((zP h).key i hi x hx).1
theorem vp {t : List y0} {q : List Int} (h : z6 q t = true) : (yc t).length ≤ 60 := by
 unfold z6 at h
 simp only [Bool.and_eq_true, decide_eq_true_eq] at h
 omega
theorem y0K {k : y7} : zR k = true ↔ (0 ≤ k.1 ∧ k.1 ≤ 15) ∧ (1 ≤ k.2.1 ∧ k.2.1 ≤ 60) ∧ (0 ≤ k.2.2.1 ∧ k.2.2.1 ≤ 2) ∧ (if k.2.2.1 = 1 then (0 ≤ k.2.2.2.1 ∧ k.2.2.2.1 ≤ 23) ∧ 0 ≤ k.2.2.2.2 ∧ k.2.2.2.2 ≤ 999 else k.2.2.2.1 = 0 ∧ k.2.2.2.2 = 0) := by
 unfold zR
 split <;> simp [zv]
theorem yiU {q : List Int} {t : List y0} (h : z6 q t = true) {k k' : y7} (hk : k ∈ yc t) (hs : k'.1 = k.1 ∧ k'.2.1 = k.2.1) (hok : zR k' = true) : (yk q t k').2.2 = true := by
 have hS := (zP h).srt
 refine y70 h hok (Nat.le_trans (y71 (y5I hS k') fun x hx => ?_) (vp h))
 rcases (y5J.1 hx).1 with rfl | ⟨hx, _⟩
 ·exact ⟨k, hk, hs.1.symm, hs.2.symm⟩
 ·exact ⟨x, hx, rfl, rfl⟩
end Go.Proofs.YtjllpipmaejeoaaGreat.Pl
namespace Go.Proofs.YtjllpipmaejeoaaGreat.Pl
open Go.Proofs.YtjllpipmaejeoaaGreat.R Go.Proofs.YtjllpipmaejeoaaGreat.XV
theorem Qb {l : List y9} {id c : Int} : c ∈ zg l id ↔ id ≠ 0 ∧ ∃ a ∈ l, a.2 = id ∧ a.1 = c := by
 unfold zg
 rw [y95, List.nil_append, List.mem_map]
 constructor
 ·rintro ⟨a, ha, rfl⟩
  obtain ⟨h1, h2⟩ := List.mem_filter.1 ha
  simp only [Bool.and_eq_true, beq_iff_eq, bne_iff_ne, ne_eq] at h2
  exact ⟨h2.2, a, h1, h2.1, rfl⟩
 ·rintro ⟨h0, a, ha, h1, h2⟩
  refine ⟨a, List.mem_filter.2 ⟨ha, ?_⟩, h2⟩
  simp [h1, h0]
theorem yng {l : List y9} (hs : l.Pairwise fun a b : y9 => a.1 < b.1) (hp : ∀ a ∈ l, 1 ≤ a.1 ∧ a.1 ≤ 60) (hf : ∀ a ∈ l, a.2 ≠ 0 → ∃ b ∈ l, b.1 = a.2 ∧ b.1 < a.1) (hl : l.length ≤ 16) : YO l = true := by
 unfold YO
 simp only [Bool.and_eq_true, Bool.not_eq_true', decide_eq_true_eq]
 refine ⟨wS yx l 0 fun j hj => ?_, by omega⟩
 have hg : l.getD j yx = l[j] := yF _ _ _ hj
 have hm : l[j] ∈ l := List.getElem_mem _
 rw [show (0 : Int) + (j : Int) = j by omega, hg]
 unfold y31
 simp only [Bool.or_eq_false_iff, Bool.not_eq_false', zv, Bool.and_eq_false_iff, decide_eq_false_iff_not, bne_eq_false_iff_eq]
 refine ⟨hp _ hm, ?_, ?_⟩
 ·by_cases h0 : j = 0
  ·exact .inl (by omega)
  ·refine .inr ?_
   rw [show ((j : Int) - 1).toNat = j - 1 by omega, yF _ _ _ (by omega)]
   have := List.pairwise_iff_getElem.1 hs (j - 1) j (by omega) hj (by omega)
   omega
 ·by_cases h0 : l[j].2 = 0
  ·exact .inl h0
  ·refine .inr fun hneg => ?_
   obtain ⟨b, hb, e1, e2⟩ := hf _ hm h0
   obtain ⟨m, hm2, rfl⟩ := List.mem_iff_getElem.1 hb
   have hmj : m < j := by
    refine Decidable.byContradiction fun hge => ?_
    by_cases e : m = j
    ·subst e
     omega
    ·have := List.pairwise_iff_getElem.1 hs j m hj hm2 (by omega)
     omega
   have hf2 : ycc l (j : Int) = l.take j := by
    unfold ycc
    simp
   rw [hf2] at hneg
   have := Wp (p := fun a : y9 => a.1 == l[j].2) (l.take j) 0 (Int.le_refl _) hneg l[m] (List.mem_iff_getElem.2 ⟨m, by rw [List.length_take]; omega, by rw [List.getElem_take]⟩)
   rw [e1] at this
   simp at this
theorem ycx {l : List y9} {id : Int} (h : ∀ a ∈ l, a.1 ≠ id) : yS l id < 0 := by
 refine Decidable.byContradiction fun hn => ?_
 obtain ⟨h1, h2⟩ := wU (l := l) (id := id) (by omega)
 exact h _ (yW yx l (yS l id) (by omega) h1) h2
theorem ydC {l : List y9} {id : Int} (h : 0 ≤ yS l id) : ∃ a ∈ l, a.1 = id := by
 obtain ⟨h1, h2⟩ := wU h
 exact ⟨_, yW yx l (yS l id) h h1, h2⟩
theorem vd {l : List y9} {a : y9} (ha : a ∈ l) : 0 ≤ yS l a.1 := by
 refine Decidable.byContradiction fun hn => ?_
 have := Wp (p := fun b : y9 => b.1 == a.1) l 0 (Int.le_refl _) (by unfold yS at hn; omega) a ha
 simp at this
theorem Vq {l : List y9} {id : Int} (h : yS l id < 0) : yN l id = [] := by
 unfold yN
 rw [Kf, if_pos h]
section
variable {l : List y9} (h : AgesR l)
include h
theorem VL : l.Pairwise fun a b : y9 => a.1 < b.1 := List.pairwise_iff_getElem.2 fun i j hi hj hij => by
 have := h.lt (j - (i + 1)) i (by omega)
 rw [show i + 1 + (j - (i + 1)) = j by omega, yF _ _ _ hi, yF _ _ _ hj] at this
 exact this
theorem y1O {a : y9} (ha : a ∈ l) : 1 ≤ a.1 ∧ a.1 ≤ 60 := by
 obtain ⟨i, hi, rfl⟩ := List.mem_iff_getElem.1 ha
 have := h.pos i hi
 rwa [yF _ _ _ hi] at this
theorem ygO {a b : y9} (ha : a ∈ l) (hb : b ∈ l) (he : a.1 = b.1) : a = b := by
 obtain ⟨i, hi, rfl⟩ := List.mem_iff_getElem.1 ha
 obtain ⟨j, hj, rfl⟩ := List.mem_iff_getElem.1 hb
 rcases Nat.lt_trichotomy i j with h1 | h1 | h1
 ·have := List.pairwise_iff_getElem.1 (VL h) i j hi hj h1
  omega
 ·subst h1
  rfl
 ·have := List.pairwise_iff_getElem.1 (VL h) j i hj hi h1
  omega
theorem y4s : yS l 0 < 0 := ycx fun a ha => by
 have := y1O h ha
 omega
theorem ygP {a : y9} (ha : a ∈ l) : l.getD (yS l a.1).toNat yx = a := by
 have h0 := vd ha
 obtain ⟨h1, h2⟩ := wU h0
 exact ygO h (yW yx l (yS l a.1) h0 h1) ha h2
theorem Qc {a : y9} (ha : a ∈ l) (hf : a.2 ≠ 0) : ∃ b ∈ l, b.1 = a.2 ∧ b.1 < a.1 := by
 obtain ⟨i, hi, rfl⟩ := List.mem_iff_getElem.1 ha
 have hg : l.getD i yx = l[i] := yF _ _ _ hi
 obtain ⟨j, hj, he⟩ := h.frm i hi (by rw [hg]; exact hf)
 rw [hg, yF _ _ _ (by omega)] at he
 exact ⟨l[j], List.getElem_mem _, he, List.pairwise_iff_getElem.1 (VL h) j i (by omega) hi hj⟩
theorem ygQ : ∀ (k i : Nat), i ≤ k → i < l.length → ∀ n m : Nat, i < n → i < m → Kf l n (i : Int) = Kf l m (i : Int) := by
 intro k
 induction k with
 | zero =>
  intro i hik hi n m hn hm
  obtain ⟨n, rfl⟩ := Nat.exists_eq_succ_of_ne_zero (show n ≠ 0 by omega)
  obtain ⟨m, rfl⟩ := Nat.exists_eq_succ_of_ne_zero (show m ≠ 0 by omega)
  rw [kw _ _ _ (by omega), kw _ _ _ (by omega)]
  have hi0 : i = 0 := by omega
  subst hi0
  have h0 : (l.getD ((0 : Nat) : Int).toNat yx).2 = 0 := Decidable.byContradiction fun hne => by
   obtain ⟨j, hj, _⟩ := h.frm 0 hi hne
   omega
  have hz := y4s h
  rw [h0]
  cases n <;> cases m <;> simp [Kf, hz]
 | succ k ih =>
  intro i hik hi n m hn hm
  obtain ⟨n, rfl⟩ := Nat.exists_eq_succ_of_ne_zero (show n ≠ 0 by omega)
  obtain ⟨m, rfl⟩ := Nat.exists_eq_succ_of_ne_zero (show m ≠ 0 by omega)
  rw [kw _ _ _ (by omega), kw _ _ _ (by omega)]
  congr 1
  rw [Int.toNat_natCast]
  by_cases h0 : (l.getD i yx).2 = 0
  ·have hz := y4s h
   rw [h0]
   cases n <;> cases m <;> simp [Kf, hz]
  ·obtain ⟨j, hj, he⟩ := h.frm i hi h0
   have hjl : j < l.length := by omega
   have hmem : l.getD j yx ∈ l := by
    rw [yF _ _ _ hjl]
    exact List.getElem_mem _
   obtain ⟨a1, a2⟩ := wU (vd hmem)
   have h3 := vd hmem
   have hat : yS l (l.getD i yx).2 = (j : Int) := by
    rw [← he]
    rcases Nat.lt_trichotomy (yS l (l.getD j yx).1).toNat j with h1 | h1 | h1
    ·have := List.pairwise_iff_getElem.1 (VL h) _ j (by omega) hjl h1
     rw [yF yx l _ (show (yS l (l.getD j yx).1).toNat < l.length by omega)] at a2
     have e3 := congrArg Prod.fst (yF yx l j hjl)
     omega
    ·omega
    ·have := List.pairwise_iff_getElem.1 (VL h) j _ hjl (by omega) h1
     rw [yF yx l _ (show (yS l (l.getD j yx).1).toNat < l.length by omega)] at a2
     have e3 := congrArg Prod.fst (yF yx l j hjl)
     omega
   rw [hat]
   exact ih j (by omega) hjl n m (by omega) (by omega)
theorem kC {a : y9} (ha : a ∈ l) : yN l a.1 = a.1 :: yN l a.2 := by
 have h0 := vd ha
 have hg := ygP h ha
 have h1 : yN l a.1 = (l.getD (yS l a.1).toNat yx).1 :: Kf l l.length (yS l (l.getD (yS l a.1).toNat yx).2) := kw l l.length _ h0
 rw [h1, hg]
 congr 1
 by_cases hn : yS l a.2 < 0
 ·rw [Vq hn]
  cases hl : l.length with
  | zero => rfl
  | succ n => rw [Kf, if_pos hn]
 ·obtain ⟨a1, a2⟩ := wU (l := l) (id := a.2) (by omega)
  have := ygQ h l.length (yS l a.2).toNat (by omega) (by omega) l.length (l.length + 1) (by omega) (by omega)
  rw [show (((yS l a.2).toNat : Nat) : Int) = yS l a.2 by omega] at this
  exact this
theorem y9b {P : Int → Prop} (h0 : ∀ id, yS l id < 0 → P id) (hs : ∀ a ∈ l, P a.2 → P a.1) : ∀ id, P id := by
 have key : ∀ (n : Nat) (id : Int), id.toNat ≤ n → P id := by
  intro n
  induction n with
  | zero =>
   intro id hid
   refine h0 id (ycx fun a ha he => ?_)
   have := y1O h ha
   omega
  | succ n ih =>
   intro id hid
   by_cases hn : yS l id < 0
   ·exact h0 id hn
   ·obtain ⟨a, ha, rfl⟩ := ydC (l := l) (id := id) (by omega)
    refine hs a ha ?_
    by_cases hz : a.2 = 0
    ·rw [hz]
     exact h0 0 (y4s h)
    ·obtain ⟨b, hb, e1, e2⟩ := Qc h ha hz
     have := y1O h hb
     exact ih a.2 (by omega)
 exact fun id => key _ id (Nat.le_refl _)
theorem y5K {x v : Int} (hx : x ∈ yN l v) : x ≤ v ∧ 0 ≤ yS l v ∧ 0 ≤ yS l x := by
 have hv : 0 ≤ yS l v := Decidable.byContradiction fun hn => by
  rw [Vq (by omega)] at hx
  cases hx
 have hle : x ≤ v := by
  rcases y6U h hv hx with h1 | h1 <;> omega
 refine ⟨hle, hv, ?_⟩
 revert hx
 refine y9b h (P := fun v => x ∈ yN l v → 0 ≤ yS l x) (fun id hid hx => ?_) (fun a ha ih hx => ?_) v
 ·rw [Vq hid] at hx
  cases hx
 ·rw [kC h ha] at hx
  rcases List.mem_cons.1 hx with rfl | hx
  ·exact vd ha
  ·exact ih hx
theorem ygR {a : y9} (ha : a ∈ l) (hn : 0 ≤ yS l a.2) : a.2 < a.1 := by
 obtain ⟨b, hb, e1, e2⟩ := Qc h ha fun hz => by
  have := y4s h
  rw [hz] at hn
  omega
 omega
theorem y72 {x : Int} : ∀ v, x ∈ yN l v → ∃ pre, yN l v = pre ++ yN l x ∧ ∀ y ∈ pre, x < y := by
 refine y9b h (fun id hid hx => ?_) fun a ha ih hx => ?_
 ·rw [Vq hid] at hx
  cases hx
 ·rw [kC h ha] at hx
  rcases List.mem_cons.1 hx with rfl | hx
  ·exact ⟨[], rfl, fun y hy => by cases hy⟩
  ·obtain ⟨pre, e, hp⟩ := ih hx
   refine ⟨a.1 :: pre, by rw [kC h ha, e]; rfl, fun y hy => ?_⟩
   rcases List.mem_cons.1 hy with rfl | hy
   ·obtain ⟨h1, h2, _⟩ := y5K h hx
    have := ygR h ha h2
    omega
   ·exact hp y hy
theorem ynh {x v y : Int} (hx : x ∈ yN l v) (hy : y ∈ yN l x) : y ∈ yN l v := by
 obtain ⟨pre, e, _⟩ := y72 h v hx
 rw [e]
 exact List.mem_append_right _ hy
theorem yeI {x v y : Int} (hx : x ∈ yN l v) (hy : y ∈ yN l v) (hlt : y < x) : y ∈ (yN l x).drop 1 := by
 obtain ⟨pre, e, hp⟩ := y72 h v hx
 rw [e] at hy
 rcases List.mem_append.1 hy with h1 | h1
 ·have := hp y h1
  omega
 ·obtain ⟨_, _, h3⟩ := y5K h hx
  obtain ⟨a, ha, rfl⟩ := ydC h3
  rw [kC h ha] at h1 ⊢
  rcases List.mem_cons.1 h1 with rfl | h1
  ·omega
  ·exact h1
theorem yiV {x : Int} : ∀ v, x ∈ yN l v → x ≠ v → ∃ a ∈ l, a.2 = x ∧ a.1 ∈ yN l v ∧ ∀ y ∈ yN l v, x < y → a.1 ≤ y := by
 refine y9b h (fun id hid hx => ?_) fun a ha ih hx hne => ?_
 ·rw [Vq hid] at hx
  cases hx
 ·have hp := kC h ha
  rw [hp] at hx
  rcases List.mem_cons.1 hx with rfl | hx
  ·exact absurd rfl hne
  ·have hle := y5K h hx
   have hlt := ygR h ha hle.2.1
   by_cases he : x = a.2
   ·refine ⟨a, ha, he.symm, by rw [hp]; simp, fun y hy hxy => ?_⟩
    rw [hp] at hy
    rcases List.mem_cons.1 hy with rfl | hy
    ·exact Int.le_refl _
    ·have := (y5K h hy).1
     omega
   ·obtain ⟨b, hb, b1, b2, b3⟩ := ih hx he
    refine ⟨b, hb, b1, by rw [hp]; exact List.mem_cons_of_mem _ b2, fun y hy hxy => ?_⟩
    rw [hp] at hy
    rcases List.mem_cons.1 hy with rfl | hy
    ·have := (y5K h b2).1
     omega
    ·exact b3 y hy hxy
theorem ygS {x c : Int} (hc : c ∈ zg l x) : x < c ∧ 0 ≤ yS l c ∧ yN l c = c :: yN l x ∧ 0 ≤ yS l x := by
 obtain ⟨h0, a, ha, rfl, rfl⟩ := Qb.1 hc
 obtain ⟨b, hb, e1, e2⟩ := Qc h ha h0
 exact ⟨by omega, vd ha, kC h ha, by rw [← e1]; exact vd hb⟩
end
section
variable {l : List y9} (h : AgesR l) {i : Nat} (hi : i < l.length)
include h hi
theorem y5L {x : y9} : x ∈ y3D l i (l.getD i yx).1 ↔ ∃ y ∈ l, y.1 ≠ (l.getD i yx).1 ∧ x = wo (l.getD i yx).2 (l.getD i yx).1 y := by
 have hg : l.getD i yx = l[i] := yF _ _ _ hi
 unfold y3D
 rw [List.mem_eraseIdx_iff_getElem]
 constructor
 ·rintro ⟨j, hj, hne, e⟩
  rw [List.length_map] at hj
  rw [List.getElem_map] at e
  refine ⟨l[j], List.getElem_mem _, fun he => hne ?_, e.symm⟩
  rw [hg] at he
  rcases Nat.lt_trichotomy j i with h1 | h1 | h1
  ·have := List.pairwise_iff_getElem.1 (VL h) j i hj hi h1
   omega
  ·exact h1
  ·have := List.pairwise_iff_getElem.1 (VL h) i j hi hj h1
   omega
 ·rintro ⟨y, hy, hne, rfl⟩
  obtain ⟨j, hj, rfl⟩ := List.mem_iff_getElem.1 hy
  refine ⟨j, by rw [List.length_map]; exact hj, fun e => hne ?_, by rw [List.getElem_map]⟩
  subst e
  rw [hg]
omit h hi in
theorem Wr (fr id : Int) (y : y9) : (wo fr id y).1 = y.1 := by
 unfold wo
 split <;> rfl
omit h hi in
theorem y3e (fr id : Int) (y : y9) : (wo fr id y).2 = if y.2 = id then fr else y.2 := by
 unfold wo
 by_cases e : y.2 = id
 ·rw [if_pos e, if_pos (by simp [e])]
 ·rw [if_neg e, if_neg (by simp [e])]
omit h in
theorem ycy : (y3D l i (l.getD i yx).1).length + 1 = l.length := by
 unfold y3D
 rw [List.length_eraseIdx_of_lt (by rw [List.length_map]; exact hi), List.length_map]
 omega
omit h hi in
theorem ygT (id : Int) : ((y3D l i id).map fun a : y9 => a.1).Sublist (l.map fun a : y9 => a.1) := by
 unfold y3D
 have h1 := (List.eraseIdx_sublist (l.map (wo (l.getD i yx).2 id)) i).map fun a : y9 => a.1
 rw [List.map_map] at h1
 have e : ((fun a : y9 => a.1) ∘ wo (l.getD i yx).2 id) = fun a : y9 => a.1 := funext fun a => Wr _ _ _
 rw [e] at h1
 exact h1
theorem yiW (hl : l.length ≤ 16) : YO (y3D l i (l.getD i yx).1) = true := by
 have hmem : l.getD i yx ∈ l := by
  rw [yF _ _ _ hi]
  exact List.getElem_mem _
 have hm := fun x : y9 => y5L h hi (x := x)
 refine yng ?_ (fun x hx => ?_) (fun x hx h0 => ?_) (by have := ycy hi; omega)
 ·have h1 : (l.map fun a : y9 => a.1).Pairwise (· < ·) := List.pairwise_map.2 (VL h)
  exact List.pairwise_map.1 (List.Pairwise.sublist (ygT _) h1)
 ·obtain ⟨y, hy, hne, rfl⟩ := (hm x).1 hx
  rw [Wr]
  exact y1O h hy
 ·obtain ⟨y, hy, hne, rfl⟩ := (hm x).1 hx
  rw [y3e] at h0 ⊢
  rw [Wr]
  have hput : ∀ b ∈ l, b.1 ≠ (l.getD i yx).1 → ∃ c ∈ y3D l i (l.getD i yx).1, c.1 = b.1 := fun b hb hbn => ⟨_, (hm _).2 ⟨b, hb, hbn, rfl⟩, Wr _ _ _⟩
  by_cases e : y.2 = (l.getD i yx).1
  ·rw [if_pos e] at h0 ⊢
   obtain ⟨b, hb, e1, e2⟩ := Qc h hmem h0
   obtain ⟨c, hc, ec⟩ := hput b hb (by omega)
   have hy0 : y.2 ≠ 0 := by
    have := y1O h hmem
    omega
   obtain ⟨d, hd, d1, d2⟩ := Qc h hy hy0
   exact ⟨c, hc, by omega, by omega⟩
  ·rw [if_neg e] at h0 ⊢
   obtain ⟨b, hb, e1, e2⟩ := Qc h hy h0
   obtain ⟨c, hc, ec⟩ := hput b hb (by omega)
   exact ⟨c, hc, by omega, by omega⟩
theorem yiX (h' : AgesR (y3D l i (l.getD i yx).1)) {v : Int} (hv : v ≠ (l.getD i yx).1) {y : Int} : y ∈ yN (y3D l i (l.getD i yx).1) v ↔ y ∈ yN l v ∧ y ≠ (l.getD i yx).1 := by
 have hmem : l.getD i yx ∈ l := by
  rw [yF _ _ _ hi]
  exact List.getElem_mem _
 have hm := fun x : y9 => y5L h hi (x := x)
 generalize hA : l.getD i yx = A at *
 generalize hL : y3D l i A.1 = l' at *
 have hA1 := y1O h hmem
 have key : ∀ v, y ∈ yN l' (if v = A.1 then A.2 else v) ↔ y ∈ yN l v ∧ y ≠ A.1 := by
  refine y9b h (fun id hid => ?_) fun b hb ih => ?_
  ·have hne : id ≠ A.1 := fun e => by
    have := vd hmem
    rw [e] at hid
    omega
   rw [if_neg hne, Vq hid, Vq (ycx fun c hc e => ?_)]
   ·simp
   ·obtain ⟨d, hd, hdn, rfl⟩ := (hm c).1 hc
    rw [Wr] at e
    have := vd hd
    rw [e] at this
    omega
  ·by_cases hbA : b.1 = A.1
   ·have hbe := ygO h hb hmem hbA
    subst hbe
    rw [if_pos rfl, kC h hb]
    have hne : b.2 ≠ b.1 := fun e => by
     obtain ⟨d, hd, d1, d2⟩ := Qc h hb (by omega)
     omega
    rw [if_neg hne] at ih
    rw [ih]
    constructor
    ·rintro ⟨h1, h2⟩
     exact ⟨List.mem_cons_of_mem _ h1, h2⟩
    ·rintro ⟨h1, h2⟩
     rcases List.mem_cons.1 h1 with h3 | h3
     ·exact absurd h3 h2
     ·exact ⟨h3, h2⟩
   ·have hc := (hm _).2 ⟨b, hb, hbA, rfl⟩
    have hp := kC h' hc
    rw [Wr, y3e] at hp
    rw [if_neg hbA, hp, kC h hb, List.mem_cons, List.mem_cons, ih]
    constructor
    ·rintro (rfl | ⟨h1, h2⟩)
     ·exact ⟨.inl rfl, hbA⟩
     ·exact ⟨.inr h1, h2⟩
    ·rintro ⟨h1 | h1, h2⟩
     ·exact .inl h1
     ·exact .inr ⟨h1, h2⟩
 have := key v
 rwa [if_neg hv] at this
end
end Go.Proofs.YtjllpipmaejeoaaGreat.Pl
namespace Go.Proofs.YtjllpipmaejeoaaGreat.Pl
open Go.Proofs.YtjllpipmaejeoaaGreat.R Go.Proofs.YtjllpipmaejeoaaGreat.XV
def y3M (K : List y7) (l : List y9) (b a : Int) : Option (Int × Int) :=
 if (zB (zF K b) (yN l a)).1 = true ∧ (zB (zF K b) (yN l a)).2.2.2.1 = 1 then some ((zB (zF K b) (yN l a)).2.2.2.2.1, (zB (zF K b) (yN l a)).2.2.2.2.2) else none
theorem Qd {K : List y7} {l : List y9} {b a : Int} (h : ∀ c ∈ K, c.1 = b → c.2.1 ∉ yN l a) : y3M K l b a = none := by
 unfold y3M
 rw [yaT h, if_neg]
 rintro ⟨h1, _⟩
 cases h1
theorem Qe {K : List y7} {l : List y9} {b a : Int} {d : y7} (h : zB (zF K b) (yN l a) = (true, d)) : y3M K l b a = if d.2.2.1 = 1 then some (d.2.2.2.1, d.2.2.2.2) else none := by
 unfold y3M
 rw [h]
 by_cases hd : d.2.2.1 = 1
 ·rw [if_pos hd, if_pos ⟨rfl, hd⟩]
 ·rw [if_neg hd, if_neg fun hh => hd hh.2]
theorem yiY {K : List y7} {l : List y9} {b a : Int} {c : Int × Int} (h : y3M K l b a = some c) : ∃ d ∈ K, d.2.2.1 = 1 ∧ c = (d.2.2.2.1, d.2.2.2.2) ∧ d.1 = b ∧ d.2.1 ∈ yN l a ∧ zB (zF K b) (yN l a) = (true, d) := by
 rcases Wq K b (yN l a) with ⟨_, h2⟩ | ⟨d, hd, db, dp, h1, h2⟩
 ·rw [Qd h2] at h
  cases h
 ·rw [Qe h1] at h
  by_cases hk : d.2.2.1 = 1
  ·rw [if_pos hk] at h
   injection h with h
   exact ⟨d, hd, hk, h.symm, db, dp, h1⟩
  ·rw [if_neg hk] at h
   cases h
def yzx (cs : List y8) : Option (Int × Int) → Int
 | some c => (Z5 cs c.1 c.2).1
 | none => 0
theorem y3f (K : List y7) (l : List y9) (cs : List y8) (b a : Int) : y9h K l cs b a = yzx cs (y3M K l b a) := by
 rcases Wq K b (yN l a) with ⟨_, h2⟩ | ⟨d, hd, db, dp, h1, h2⟩
 ·rw [yiT h2, Qd h2]
  rfl
 ·rw [ynf h1, Qe h1]
  by_cases hk : d.2.2.1 = 1
  ·rw [if_pos hk, if_pos hk]
   rfl
  ·rw [if_neg hk, if_neg hk]
   rfl
section
variable {K K' : List y7} {k : y7} (hK : srt K) (hK' : srt K') (hk : k ∈ K)
include hK hK' hk
theorem ygU (hm : ∀ x, x ∈ K' ↔ x ∈ K ∧ Y3 x k = false) {l : List y9} {b a : Int} (hn : zB (zF K b) (yN l a) ≠ (true, k)) : y3M K' l b a = y3M K l b a := by
 rcases Wq K b (yN l a) with ⟨_, h2⟩ | ⟨d, hd, db, dp, h1, h2⟩
 ·rw [Qd h2, Qd fun c hc hb => h2 c ((hm c).1 hc).1 hb]
 ·have hs : Y3 d k = false := by
   cases hs : Y3 d k with
   | false => rfl
   | true =>
    have := Q4 hK hd hk hs
    subst this
    exact absurd h1 hn
  rw [Qe h1, Qe (y5G hK' ((hm d).2 ⟨hd, hs⟩) db dp fun c hc hb hp => h2 c ((hm c).1 hc).1 hb hp)]
theorem yiZ (hm : ∀ x, x ∈ K' ↔ x ∈ K ∧ Y3 x k = false) {l : List y9} (hl : AgesR l) (h2 : k.2.2.1 ≠ 1) (hab : ∀ c ∈ K, c.1 = k.1 → c.2.1 ∉ (yN l k.2.1).drop 1) (b a : Int) : y3M K' l b a = y3M K l b a := by
 by_cases hn : zB (zF K b) (yN l a) = (true, k)
 ·rcases Wq K b (yN l a) with ⟨h3, h4⟩ | ⟨d, hd, db, dp, h3, h4⟩
  ·rw [h3] at hn
   cases hn
  ·rw [h3] at hn
   injection hn with _ hn
   subst hn
   rw [Qe h3, if_neg h2, Qd fun c hc hb hp => ?_]
   obtain ⟨hc, hs⟩ := (hm c).1 hc
   have h5 := h4 c hc hb hp
   have h6 : c.2.1 ≠ d.2.1 := fun e => by
    rw [zx.2 ⟨hb.trans db.symm, e⟩] at hs
    cases hs
   exact hab c hc (hb.trans db.symm) (yeI hl dp hp (by omega))
 ·exact ygU hK hK' hk hm hn
theorem yj0 {c : Int} (hm : ∀ x, x ∈ K' ↔ x = (k.1, c, k.2.2) ∨ (x ∈ K ∧ Y3 x k = false)) {l : List y9} (hl : AgesR l) (hc : c ∈ zg l k.2.1) (hone : ∀ x ∈ zg l k.2.1, x = c) (hno : ∀ d ∈ K, ¬ (d.1 = k.1 ∧ d.2.1 = c)) {a : Int} (ha : a ≠ k.2.1) (b : Int) : y3M K' l b a = y3M K l b a := by
 obtain ⟨g1, g2, g3, g4⟩ := ygS hl hc
 have up : k.2.1 ∈ yN l a → c ∈ yN l a ∧ ∀ y ∈ yN l a, k.2.1 < y → c ≤ y := fun hp => by
  obtain ⟨e, he, e1, e2, e3⟩ := yiV hl a hp (fun h => ha h.symm)
  have h0 := (Qb.1 hc).1
  have := hone e.1 (Qb.2 ⟨h0, e, he, e1, rfl⟩)
  rw [this] at e2 e3
  exact ⟨e2, e3⟩
 have down : c ∈ yN l a → k.2.1 ∈ yN l a := fun hp => ynh hl hp (by
  rw [g3]
  exact List.mem_cons_of_mem _ (yco g4))
 rcases Wq K b (yN l a) with ⟨_, h2⟩ | ⟨d, hd, db, dp, h1, h2⟩
 ·rw [Qd h2, Qd fun x hx hb hp => ?_]
  rcases (hm x).1 hx with rfl | ⟨hx, _⟩
  ·exact h2 k hk hb (down hp)
  ·exact h2 x hx hb hp
 ·cases hs : Y3 d k with
  | true =>
   have := Q4 hK hd hk hs
   subst this
   have hn : zB (zF K' b) (yN l a) = (true, (d.1, c, d.2.2)) := by
    refine y5G hK' ((hm _).2 (.inl rfl)) db (up dp).1 fun x hx hb hp => ?_
    rcases (hm x).1 hx with rfl | ⟨hx, _⟩
    ·exact Int.le_refl _
    ·have := h2 x hx hb hp
     show x.2.1 ≤ c
     omega
   rw [Qe h1, Qe hn]
  | false =>
   have hn : zB (zF K' b) (yN l a) = (true, d) := by
    refine y5G hK' ((hm _).2 (.inr ⟨hd, hs⟩)) db dp fun x hx hb hp => ?_
    rcases (hm x).1 hx with rfl | ⟨hx, _⟩
    ·have hb' : k.1 = b := hb
     have h3 := h2 k hk hb' (down hp)
     have h4 : k.2.1 ≠ d.2.1 := fun e => by
      rw [zx.2 ⟨db.trans hb'.symm, e.symm⟩] at hs
      cases hs
     exact (up (down hp)).2 _ dp (by omega)
    ·exact h2 x hx hb hp
   rw [Qe h1, Qe hn]
end
theorem yni {K : List y7} (hK : srt K) {l : List y9} (h : AgesR l) {i : Nat} (hi : i < l.length) (h' : AgesR (y3D l i (l.getD i yx).1)) (hno : ∀ c ∈ K, c.2.1 ≠ (l.getD i yx).1) {a : Int} (ha : a ≠ (l.getD i yx).1) (b : Int) : y3M K (y3D l i (l.getD i yx).1) b a = y3M K l b a := by
 have e : zB (zF K b) (yN (y3D l i (l.getD i yx).1) a) = zB (zF K b) (yN l a) := yeE hK hK fun c _ => by
  rw [yiX h hi h' ha]
  constructor
  ·rintro ⟨h1, h2, _⟩
   exact ⟨h1, h2⟩
  ·rintro ⟨h1, h2⟩
   exact ⟨h1, h2, hno c h1⟩
 unfold y3M
 rw [e]
theorem ydD {t : List y0} {l : List y9} {k : y7} (hS : srt (yc t)) (hk : k ∈ yc t) {a : Int} : y8I t l k a = true ↔ zB (zF (yc t) k.1) (yN l a) = (true, k) := by
 unfold y8I ya7
 rw [Bool.and_eq_true, beq_iff_eq]
 constructor
 ·rintro ⟨h1, h2⟩
  rcases Wq (yc t) k.1 (yN l a) with ⟨h3, _⟩ | ⟨d, hd, db, dp, h3, _⟩
  ·rw [h3] at h1
   cases h1
  ·rw [h3] at h2 ⊢
   rw [Q4 hS hd hk (zx.2 ⟨db, h2⟩)]
 ·intro e
  rw [e]
  exact ⟨rfl, rfl⟩
theorem ycz {t : List y0} {l : List y9} {vs : List yh} {k : y7} (hS : srt (yc t)) (hk : k ∈ yc t) : y1I t l vs k = true ↔ ∃ v ∈ vs, k.1 < v.2.2.1 ∧ zB (zF (yc t) k.1) (yN l v.2.1) = (true, k) := by
 unfold y1I
 rw [decide_eq_true_eq]
 constructor
 ·intro h0
  rcases Yh (Kg t l k) Y2 vs 0 (Int.le_refl _) with h1 | ⟨h1, h2, h3⟩
  ·omega
  ·rw [Int.sub_zero] at h3
   have hm : (zE (Kg t l k) vs 0).toNat < vs.length := by omega
   refine ⟨vs.getD (zE (Kg t l k) vs 0).toNat Y2, by rw [yF _ _ _ hm]; exact List.getElem_mem _, ?_⟩
   unfold Kg at h3
   rw [Bool.and_eq_true, decide_eq_true_eq] at h3
   exact ⟨h3.1, (ydD hS hk).1 h3.2⟩
 ·rintro ⟨v, hv, h1, h2⟩
  refine Decidable.byContradiction fun hn => ?_
  have := Wp (p := Kg t l k) vs 0 (Int.le_refl _) (by omega) v hv
  unfold Kg at this
  rw [(ydD hS hk).2 h2, decide_eq_true (show v.2.2.1 > k.1 from h1)] at this
  cases this
theorem ydE {vs : List yh} {id : Int} : y0s vs id = true ↔ ∀ v ∈ vs, v.2.1 ≠ id := by
 unfold y0s
 rw [Bool.not_eq_true']
 constructor
 ·intro h v hv he
  obtain ⟨j, hj⟩ := J6 _ _ 0 h v hv
  unfold JQ at hj
  rw [he] at hj
  simp at hj
 ·intro h
  refine y13 (fun _ _ _ => rfl) (fun v hv => ?_) 0
  unfold JQ
  exact beq_eq_false_iff_ne.2 (h v hv)
theorem ynj {l : List y9} {vs : List yh} {id : Int} : y3E l vs id = true ↔ y0s vs id = true ∧ (zg l id).length = 1 := by
 unfold y3E
 rw [Bool.and_eq_true, beq_iff_eq]
 constructor
 ·rintro ⟨h1, h2⟩
  exact ⟨h1, by omega⟩
 ·rintro ⟨h1, h2⟩
  exact ⟨h1, by omega⟩
theorem ynk {l : List Int} (h : l.length = 1) : l.getD 0 0 ∈ l ∧ ∀ x ∈ l, x = l.getD 0 0 := by
 match l, h with
 | [c], _ => exact ⟨by simp, fun x hx => by simpa using hx⟩
end Go.Proofs.YtjllpipmaejeoaaGreat.Pl
namespace Go.Proofs.YtjllpipmaejeoaaGreat.Pl
open Go.Proofs.YtjllpipmaejeoaaGreat.R Go.Proofs.YtjllpipmaejeoaaGreat.XV
def gtN (l : List y9) (x : Int) : Nat := ((l.map fun a : y9 => a.1).filter fun y => decide (x < y)).length
def yeJ (l : List y9) (k : y7) : Nat := 1 + gtN l k.2.1
def ygV (l : List y9) : List y7 → Nat
 | [] => 0
 | k :: K => yeJ l k + ygV l K
def ygW (K : List y7) (l : List y9) : Nat := ygV l K + l.length
theorem y2C {l : List y9} {k : y7} : ∀ {K : List y7}, srt K → k ∈ K → ygV l K = ygV l (K.filter fun x => !Y3 x k) + yeJ l k
 | [], _, hk => by cases hk
 | a :: K, hK, hk => by
  obtain ⟨h1, h2⟩ := List.pairwise_cons.1 hK
  rcases List.mem_cons.1 hk with rfl | hk
  ·rw [List.filter_cons_of_neg (by rw [zx.2 ⟨rfl, rfl⟩]; decide), List.filter_eq_self.2 fun x hx => ?_]
   ·rw [ygV]
    omega
   ·rw [y0z, qc (h1 x hx)]
    rfl
  ·rw [List.filter_cons_of_pos (by rw [qc (h1 k hk)]; rfl), ygV, ygV, y2C h2 hk]
   omega
theorem ykj {l l' : List y9} (h : ∀ x, gtN l' x ≤ gtN l x) : ∀ K : List y7, ygV l' K ≤ ygV l K
 | [] => Nat.le_refl _
 | k :: K => by
  have h1 := ykj h K
  have h2 := h k.2.1
  rw [ygV, ygV]
  unfold yeJ
  omega
theorem yu3 : ∀ (L : List Int) (x c : Int), x < c → (L.filter fun y => decide (c < y)).length ≤ (L.filter fun y => decide (x < y)).length
 | [], _, _, _ => Nat.le_refl _
 | y :: L, x, c, h => by
  have := yu3 L x c h
  by_cases h1 : c < y
  ·rw [List.filter_cons_of_pos (by simpa using h1), List.filter_cons_of_pos (by simp; omega)]
   simpa using this
  ·rw [List.filter_cons_of_neg (by simpa using h1)]
   by_cases h2 : x < y
   ·rw [List.filter_cons_of_pos (by simpa using h2), List.length_cons]
    omega
   ·rw [List.filter_cons_of_neg (by simpa using h2)]
    exact this
theorem yu4 : ∀ (L : List Int) (x c : Int), x < c → c ∈ L → (L.filter fun y => decide (c < y)).length < (L.filter fun y => decide (x < y)).length
 | [], _, _, _, hm => by cases hm
 | y :: L, x, c, h, hm => by
  rcases List.mem_cons.1 hm with rfl | hm
  ·rw [List.filter_cons_of_neg (by simp), List.filter_cons_of_pos (by simpa using h), List.length_cons]
   have := yu3 L x c h
   omega
  ·have := yu4 L x c h hm
   by_cases h1 : c < y
   ·rw [List.filter_cons_of_pos (by simpa using h1), List.filter_cons_of_pos (by simp; omega)]
    simpa using this
   ·rw [List.filter_cons_of_neg (by simpa using h1)]
    by_cases h2 : x < y
    ·rw [List.filter_cons_of_pos (by simpa using h2), List.length_cons]
     omega
    ·rw [List.filter_cons_of_neg (by simpa using h2)]
     exact this
section
variable {q : List yb} {t : List y0} {l : List y9} {cs : List y8} {vs : List yh} {z : Int} (hp : yr q t l cs vs z = true) {k : y7} (hk : k ∈ yc t)
include hp hk
theorem y9c : (yk q t (jj k)).2.2 = true := by
 have hr := ZI hp
 refine yiU hr.tree hk ⟨rfl, rfl⟩ (y0K.2 ?_)
 have := y0K.1 (y9a hr.tree hk)
 exact ⟨this.1, this.2.1, ⟨Int.le_refl _, show (0 : Int) ≤ 2 by decide⟩, by rw [if_neg (show ¬ (jj k).2.2.1 = 1 by show ¬ (0 : Int) = 1; decide)]; exact ⟨rfl, rfl⟩⟩
theorem Vr {x : y7} : x ∈ yc (yk q t (jj k)).2.1 ↔ x ∈ yc t ∧ Y3 x k = false := by
 have hr := ZI hp
 rw [y6X hr.tree (y9c hp hk)]
 constructor
 ·rintro ⟨rfl | ⟨h1, h2⟩, h3⟩
  ·exact absurd rfl h3
  ·exact ⟨h1, h2⟩
 ·rintro ⟨h1, h2⟩
  exact ⟨.inr ⟨h1, h2⟩, y0A h1⟩
theorem y2D : z6 (yk q t (jj k)).1 (yk q t (jj k)).2.1 = true := (y0C (y9c hp hk)).2.2.1
theorem y1P : srt (yc (yk q t (jj k)).2.1) := (zP (y2D hp hk)).srt
theorem ycA : (yc (yk q t (jj k)).2.1).length + 1 = (yc t).length :=
 y5H (y1P hp hk) (zP (ZI hp).tree).srt hk (fun x hx => ((Vr hp hk).1 hx).2) (fun x hx => ((Vr hp hk).1 hx).1) fun x hx hs => (Vr hp hk).2 ⟨hx, hs⟩
theorem yu5 : yc (yk q t (jj k)).2.1 = (yc t).filter fun x => !Y3 x k := by
 refine y37 (y1P hp hk) (List.Pairwise.filter _ (zP (ZI hp).tree).srt) fun x => ?_
 rw [Vr hp hk, List.mem_filter, Bool.not_eq_true']
theorem ygX : jz q t cs k = if k.2.2.1 = 1 then y19 cs k.2.2.2.1 else cs := by
 have hr := ZI hp
 obtain ⟨_, s1, s2, s3, s4⟩ := y8T (y9a hr.tree hk)
 have hT := y5m hr.tree ⟨s1, s2⟩ ⟨s3, s4⟩
 cases hf : (YP q t k.1 k.2.1).2.2.2.2.2 with
 | false => exact absurd ⟨rfl, rfl⟩ (hT.2 hf k hk)
 | true =>
  obtain ⟨c, hc, c1, c2, e⟩ := hT.1 hf
  have := Q4 (zP hr.tree).srt hc hk (zx.2 ⟨c1, c2⟩)
  subst this
  unfold jz
  rw [e]
  by_cases hd : c.2.2.1 = 1
  ·rw [if_pos hd, if_pos ⟨rfl, hd⟩]
   rfl
  ·rw [if_neg hd, if_neg fun hh => hd hh.2]
theorem ygY : zc (jz q t cs k) = true := by
 rw [ygX hp hk]
 split
 ·exact yne (ZI hp).cells _
 ·exact (ZI hp).cells
theorem ydF {d : y7} (hd : d ∈ yc t) (h1 : d.2.2.1 = 1) (hs : Y3 d k = false) : Z5 (jz q t cs k) d.2.2.2.1 d.2.2.2.2 = Z5 cs d.2.2.2.1 d.2.2.2.2 := by
 have hr := ZI hp
 refine ycu (Q7 _ _ _ _) ?_
 rw [ygX hp hk]
 split
 ·rename_i hk1
  refine ygJ fun e => ?_
  have u1 := y98 hr.fit hd h1
  have u2 := y98 hr.fit hk hk1
  have := qM hr.fit hd hk h1 hk1 (by omega)
  subst this
  rw [zx.2 ⟨rfl, rfl⟩] at hs
  cases hs
 ·rfl
theorem ydG (j : Nat) : ((jz q t cs k).getD j yQ).2.1 = true → (cs.getD j yQ).2.1 = true ∧ (k.2.2.1 = 1 → (j : Int) ≠ k.2.2.2.1) := by
 have hr := ZI hp
 have h24 := Ki hr.cells
 rw [ygX hp hk]
 split
 ·rename_i hk1
  intro hu
  have u2 := y98 hr.fit hk hk1
  by_cases e : k.2.2.2.1.toNat = j
  ·have := ygN hr.cells u2.1 (by omega)
   rw [e, hu] at this
   cases this
  ·rw [ygJ e] at hu
   exact ⟨hu, fun _ e2 => e (by omega)⟩
 ·rename_i hk1
  exact fun hu => ⟨hu, fun h => absurd h hk1⟩
theorem yj1 : yr (yk q t (jj k)).1 (yk q t (jj k)).2.1 l (jz q t cs k) vs z = true := by
 have hr := ZI hp
 have h24 := Ki hr.cells
 have hl := Q7 q t cs k
 have hm := fun x : y7 => Vr hp hk (x := x)
 have hv : ji vs l = true := by
  unfold yr at hp
  simp only [Bool.and_eq_true] at hp
  exact hp.2.2.2.2.2.1
 refine ycw (y2D hp hk) hr.ages (ygY hp hk) hr.next hr.late hv (ygK (y1P hp hk) (by have := vp (y2D hp hk); omega) (by omega) (fun c hc => yct hr.fit ((hm c).1 hc).1) (fun c hc hd => ?_) (fun c hc d hd h1 h2 he => qM hr.fit ((hm c).1 hc).1 ((hm d).1 hd).1 h1 h2 he) fun j j0 j1 hj => ?_)
 ·obtain ⟨h1, h2⟩ := (hm c).1 hc
  rw [ydF hp hk h1 hd h2]
  exact y99 hr.fit h1 hd
 ·obtain ⟨h1, h2⟩ := ydG hp hk j.toNat hj
  obtain ⟨c, hc, c1, c2⟩ := y5F hr.fit (by have := vp hr.tree; omega) (by omega) j0 (by omega) h1
  refine ⟨c, (hm c).2 ⟨hc, ?_⟩, c1, c2⟩
  cases hs : Y3 c k with
  | false => rfl
  | true =>
   have := Q4 (zP hr.tree).srt hc hk hs
   subst this
   exact absurd (show ((j.toNat : Nat) : Int) = c.2.2.2.1 by omega) (h2 c1)
theorem ygZ : QA (jz q t cs k) ≤ QA cs := by
 have hr := ZI hp
 have h24 := Ki hr.cells
 have hl := Q7 q t cs k
 have e : (jA (jz q t cs k) 0).length ≤ (jA cs 0).length := KQ _ _ (vo _ _) fun x hx => by
  obtain ⟨g1, g2, g3⟩ := y15 _ 0 x hx
  rw [show x - 0 = x by omega] at g3
  have := Vo cs 0 x.toNat (by omega) (ydG hp hk x.toNat g3).1
  rwa [show (0 : Int) + (x.toNat : Int) = x by omega] at this
 unfold QA
 rw [y12 cs 0 0 (Int.le_refl _) (by omega), y12 _ 0 0 (Int.le_refl _) (by omega)]
 omega
theorem ynl {b a : Int} (he : y3M (yc (yk q t (jj k)).2.1) l b a = y3M (yc t) l b a) : y9h (yc (yk q t (jj k)).2.1) l (jz q t cs k) b a = y9h (yc t) l cs b a := by
 rw [y3f, y3f, ← he]
 cases hd : y3M (yc (yk q t (jj k)).2.1) l b a with
 | none => rfl
 | some c =>
  obtain ⟨d, hd1, d1, rfl, _⟩ := yiY hd
  obtain ⟨h1, h2⟩ := (Vr hp hk).1 hd1
  exact congrArg Prod.fst (ydF hp hk h1 d1 h2)
theorem ynm : ygW (yc (yk q t (jj k)).2.1) l < ygW (yc t) l := by
 have := y2C (l := l) (zP (ZI hp).tree).srt hk
 unfold ygW
 rw [yu5 hp hk]
 unfold yeJ at this
 omega
variable {c : Int} (hc : c ∈ zg l k.2.1) (hone : ∀ x ∈ zg l k.2.1, x = c) (hno : ∀ d ∈ yc t, ¬ (d.1 = k.1 ∧ d.2.1 = c))
def y1Q (q : List Int) (t : List y0) (k : y7) (c : Int) : List Int × List y0 × Bool := yk (yk q t (jj k)).1 (yk q t (jj k)).2.1 (k.1, c, k.2.2)
include hc
theorem yh0 : zR (k.1, c, k.2.2) = true := by
 have hr := ZI hp
 have h1 := y0K.1 (y9a hr.tree hk)
 obtain ⟨_, _, a, ha, _, rfl⟩ : c ∈ zg l k.2.1 ∧ k.2.1 ≠ 0 ∧ ∃ a ∈ l, a.2 = k.2.1 ∧ a.1 = c := ⟨hc, Qb.1 hc⟩
 exact y0K.2 ⟨h1.1, y1O (y0H hr.ages) ha, h1.2.2.1, h1.2.2.2⟩
theorem y9d : (y1Q q t k c).2.2 = true := by
 have hr := ZI hp
 refine y70 (y2D hp hk) (yh0 hp hk hc) (Nat.le_trans (y71 (b := (k.1, c, k.2.2) :: yc (yk q t (jj k)).2.1) (y5I (y1P hp hk) _) fun x hx => ?_) ?_)
 ·rcases (y5J.1 hx).1 with rfl | ⟨hx, _⟩
  ·exact ⟨_, List.mem_cons_self, rfl, rfl⟩
  ·exact ⟨x, List.mem_cons_of_mem _ hx, rfl, rfl⟩
 ·have h1 := ycA hp hk
  have h2 := vp hr.tree
  rw [List.length_cons]
  omega
theorem y5M : z6 (y1Q q t k c).1 (y1Q q t k c).2.1 = true := (y0C (y9d hp hk hc)).2.2.1
theorem y2E : srt (yc (y1Q q t k c).2.1) := (zP (y5M hp hk hc)).srt
include hno
theorem y4t {x : y7} : x ∈ yc (y1Q q t k c).2.1 ↔ x = (k.1, c, k.2.2) ∨ (x ∈ yc t ∧ Y3 x k = false) := by
 have hput := y9d hp hk hc
 unfold y1Q at hput ⊢
 rw [y6X (y2D hp hk) hput, Vr hp hk]
 constructor
 ·rintro ⟨h1 | ⟨⟨h1, h2⟩, h3⟩, h4⟩
  ·exact .inl h1
  ·exact .inr ⟨h1, h2⟩
 ·rintro (rfl | ⟨h1, h2⟩)
  ·exact ⟨.inl rfl, (show k.2.2.1 ≠ 0 from y0A hk)⟩
  ·refine ⟨.inr ⟨⟨h1, h2⟩, ?_⟩, y0A h1⟩
   cases hs : Y3 x (k.1, c, k.2.2) with
   | false => rfl
   | true => exact absurd (zx.1 hs) (hno x h1)
theorem yj2 : (yc (y1Q q t k c).2.1).length = (yc t).length := by
 have hr := ZI hp
 have hm := fun x : y7 => y4t hp hk hc hno (x := x)
 have h1 := y5H (y1P hp hk) (y2E hp hk hc) (k := (k.1, c, k.2.2)) ((hm _).2 (.inl rfl)) (fun x hx => by
  obtain ⟨h1, h2⟩ := (Vr hp hk).1 hx
  cases hs : Y3 x (k.1, c, k.2.2) with
  | false => rfl
  | true => exact absurd (zx.1 hs) (hno x h1)) (fun x hx => (hm x).2 (.inr ((Vr hp hk).1 hx))) fun x hx hs => by
  rcases (hm x).1 hx with rfl | h2
  ·rw [zx.2 ⟨rfl, rfl⟩] at hs
   cases hs
  ·exact (Vr hp hk).2 h2
 have h2 := ycA hp hk
 omega
theorem yh1 : yr (y1Q q t k c).1 (y1Q q t k c).2.1 l cs vs z = true := by
 have hr := ZI hp
 have h24 := Ki hr.cells
 have hm := fun x : y7 => y4t hp hk hc hno (x := x)
 have hv : ji vs l = true := by
  unfold yr at hp
  simp only [Bool.and_eq_true] at hp
  exact hp.2.2.2.2.2.1
 have hne : ∀ d : y7, Y3 d k = false → d = k → False := fun d h e => by
  rw [e, zx.2 ⟨rfl, rfl⟩] at h
  cases h
 refine ycw (y5M hp hk hc) hr.ages hr.cells hr.next hr.late hv (ygK (y2E hp hk hc) (by have := vp (y5M hp hk hc); omega) (by omega) (fun x hx => ?_) (fun x hx hd => ?_) (fun x hx d hd h1 h2 he => ?_) fun j j0 j1 hj => ?_)
 ·rcases (hm x).1 hx with rfl | ⟨hx, _⟩
  ·exact (ygS (y0H hr.ages) hc).2.1
  ·exact yct hr.fit hx
 ·rcases (hm x).1 hx with rfl | ⟨hx, _⟩
  ·exact (show (Z5 cs k.2.2.2.1 k.2.2.2.2).2 = true from y99 hr.fit hk hd)
  ·exact y99 hr.fit hx hd
 ·rcases (hm x).1 hx with rfl | ⟨hx, hxn⟩
  ·rcases (hm d).1 hd with rfl | ⟨hd, hdn⟩
   ·rfl
   ·exact (hne d hdn (qM hr.fit hd hk h2 h1 he.symm)).elim
  ·rcases (hm d).1 hd with rfl | ⟨hd, hdn⟩
   ·exact (hne x hxn (qM hr.fit hx hk h1 h2 he)).elim
   ·exact qM hr.fit hx hd h1 h2 he
 ·obtain ⟨d, hd, d1, d2⟩ := y5F hr.fit (by have := vp hr.tree; omega) (by omega) j0 (by omega) hj
  cases hs : Y3 d k with
  | false => exact ⟨d, (hm d).2 (.inr ⟨hd, hs⟩), d1, d2⟩
  | true =>
   have := Q4 (zP hr.tree).srt hd hk hs
   subst this
   exact ⟨_, (hm _).2 (.inl rfl), d1, d2⟩
theorem yj3 : ygW (yc (y1Q q t k c).2.1) l < ygW (yc t) l := by
 have hr := ZI hp
 have hm := fun x : y7 => y4t hp hk hc hno (x := x)
 have h1 := y2C (l := l) (zP hr.tree).srt hk
 have h2 := y2C (l := l) (y2E hp hk hc) ((hm (k.1, c, k.2.2)).2 (.inl rfl))
 have e : (yc (y1Q q t k c).2.1).filter (fun x => !Y3 x (k.1, c, k.2.2)) = (yc t).filter fun x => !Y3 x k := by
  refine y37 (List.Pairwise.filter _ (y2E hp hk hc)) (List.Pairwise.filter _ (zP hr.tree).srt) fun x => ?_
  rw [List.mem_filter, List.mem_filter, hm x, Bool.not_eq_true', Bool.not_eq_true']
  constructor
  ·rintro ⟨rfl | h3, h4⟩
   ·rw [zx.2 ⟨rfl, rfl⟩] at h4
    cases h4
   ·exact h3
  ·rintro ⟨h3, h4⟩
   refine ⟨.inr ⟨h3, h4⟩, ?_⟩
   cases hs : Y3 x (k.1, c, k.2.2) with
   | false => rfl
   | true => exact absurd (zx.1 hs) (hno x h3)
 rw [e] at h2
 obtain ⟨g1, g2, _⟩ := ygS (y0H hr.ages) hc
 obtain ⟨a, ha, rfl⟩ := ydC g2
 have h3 := yu4 (l.map fun a : y9 => a.1) k.2.1 a.1 g1 (List.mem_map.2 ⟨a, ha, rfl⟩)
 have t1 : yeJ l (k.1, a.1, k.2.2) = 1 + gtN l a.1 := rfl
 have t2 : yeJ l k = 1 + gtN l k.2.1 := rfl
 unfold gtN at t1 t2
 unfold ygW
 omega
end
section
variable {q : List yb} {t : List y0} {l : List y9} {cs : List y8} {vs : List yh} {z : Int} (hp : yr q t l cs vs z = true) {i : Nat} (hi : i < l.length) (hno : ∀ k ∈ yc t, k.2.1 ≠ (l.getD i yx).1) (hid : ∀ v ∈ vs, v.2.1 ≠ (l.getD i yx).1)
include hp hi
theorem yaU : YO (y3D l i (l.getD i yx).1) = true := by
 have hr := ZI hp
 have hl : l.length ≤ 16 := by
  have := hr.ages
  unfold YO at this
  simp only [Bool.and_eq_true, decide_eq_true_eq] at this
  omega
 exact yiW (y0H hr.ages) hi hl
theorem yh2 {x : Int} (hx : 0 ≤ yS l x) (hne : x ≠ (l.getD i yx).1) : 0 ≤ yS (y3D l i (l.getD i yx).1) x := by
 obtain ⟨a, ha, rfl⟩ := ydC hx
 have h1 := vd ((y5L (y0H (ZI hp).ages) hi).2 ⟨a, ha, hne, rfl⟩)
 rw [Wr] at h1
 exact h1
include hid
theorem yh3 : ji vs (y3D l i (l.getD i yx).1) = true := by
 have hr := ZI hp
 have hL := y0H hr.ages
 have hmem : l.getD i yx ∈ l := by
  rw [yF _ _ _ hi]
  exact List.getElem_mem _
 have hv : ji vs l = true := by
  unfold yr at hp
  simp only [Bool.and_eq_true] at hp
  exact hp.2.2.2.2.2.1
 unfold ji at hv ⊢
 simp only [Bool.and_eq_true, Bool.not_eq_true'] at hv ⊢
 refine ⟨wS Y2 vs 0 fun j hj => ?_, hv.2⟩
 have h1 := Ja Y2 vs 0 hv.1 j hj
 have hvm : vs.getD j Y2 ∈ vs := by
  rw [yF _ _ _ hj]
  exact List.getElem_mem _
 have ha := hr.age j hj
 have hleaf := hr.leaf j hj
 have hne := hid _ hvm
 generalize vs.getD j Y2 = v at *
 have h2 := yh2 hp hi ha hne
 have h3 : (zg (y3D l i (l.getD i yx).1) v.2.1).length = 0 := by
  have hno : ∀ x, x ∉ zg l v.2.1 := fun x hx => by
   have := List.length_pos_of_mem hx
   omega
  refine Nat.eq_zero_of_not_pos fun hpos => ?_
  obtain ⟨x, hx⟩ := List.exists_mem_of_length_pos hpos
  obtain ⟨h0, b, hb, b1, b2⟩ := Qb.1 hx
  obtain ⟨y, hy, hyn, rfl⟩ := (y5L hL hi).1 hb
  rw [y3e] at b1
  by_cases e : y.2 = (l.getD i yx).1
  ·rw [if_pos e] at b1
   exact hno _ (Qb.2 ⟨h0, _, hmem, b1, rfl⟩)
  ·rw [if_neg e] at b1
   exact hno _ (Qb.2 ⟨h0, y, hy, b1, rfl⟩)
 unfold yes at h1 ⊢
 simp only [Bool.or_eq_false_iff, decide_eq_false_iff_not] at h1 ⊢
 exact ⟨h1.1, h1.2.1, by omega, by omega, h1.2.2.2.2⟩
include hno
theorem yh4 : yr q t (y3D l i (l.getD i yx).1) cs vs z = true := by
 have hr := ZI hp
 have hL := y0H hr.ages
 have h24 := Ki hr.cells
 refine ycw hr.tree (yaU hp hi) hr.cells hr.next (fun a ha => ?_) (yh3 hp hi hid) (ygK (zP hr.tree).srt (by have := vp hr.tree; omega) (by omega) (fun c hc => yh2 hp hi (yct hr.fit hc) (hno c hc)) (fun c hc hd => y99 hr.fit hc hd) (fun c hc d hd h1 h2 he => qM hr.fit hc hd h1 h2 he) fun j j0 j1 hj => y5F hr.fit (by have := vp hr.tree; omega) (by omega) j0 j1 hj)
 obtain ⟨y, hy, _, rfl⟩ := (y5L hL hi).1 ha
 rw [Wr]
 exact hr.late y hy
theorem ydH {v : yh} (hv : v ∈ vs) (b : Int) : y3M (yc t) (y3D l i (l.getD i yx).1) b v.2.1 = y3M (yc t) l b v.2.1 :=
 yni (zP (ZI hp).tree).srt (y0H (ZI hp).ages) hi (y0H (yaU hp hi)) hno (hid v hv) b
omit hp hno hid in
theorem yj4 : ygW (yc t) (y3D l i (l.getD i yx).1) < ygW (yc t) l := by
 have h1 := ykj (l := l) (l' := y3D l i (l.getD i yx).1) (fun x => (List.Sublist.filter _ (ygT _)).length_le) (yc t)
 have h2 := ycy hi
 unfold ygW
 omega
end
end Go.Proofs.YtjllpipmaejeoaaGreat.Pl
namespace Go.Proofs.YtjllpipmaejeoaaGreat.Pl
open Go.Proofs.YtjllpipmaejeoaaGreat.R Go.Proofs.YtjllpipmaejeoaaGreat.XV
structure CalmP (q : List yb) (t : List y0) (l : List y9) (vs : List yh) : Prop where
 seen : ∀ k ∈ yc t, zk q t l vs 1 k = false
 gone : ∀ k ∈ yc t, zk q t l vs 2 k = false
 move : ∀ k ∈ yc t, zk q t l vs 3 k = false
 age : ∀ a ∈ l, ydq (yc t) l vs a = false
structure Stepped (q : List yb) (t : List y0) (l : List y9) (cs : List y8) (vs : List yh) (z : Int) (r : PO) (nK nA : Nat) : Prop where
 ok : y66 r = true
 vsE : r.2.2.2.2.1 = vs
 dat : ∀ v ∈ vs, ∀ b, 0 ≤ b → b < v.2.2.1 → y3M (yc r.2.1) r.2.2.1 b v.2.1 = y3M (yc t) l b v.2.1
 val : ∀ v ∈ vs, ∀ b, 0 ≤ b → b < v.2.2.1 → y9h (yc r.2.1) r.2.2.1 r.2.2.2.1 b v.2.1 = y9h (yc t) l cs b v.2.1
 used : QA r.2.2.2.1 ≤ QA cs
 keys : (yc r.2.1).length + nK = (yc t).length
 ages : r.2.2.1.length + nA = l.length
 mea : ygW (yc r.2.1) r.2.2.1 < ygW (yc t) l
section
variable {q : List yb} {t : List y0} {l : List y9} {cs : List y8} {vs : List yh} {z : Int} (hp : yr q t l cs vs z = true)
include hp
theorem yh5 : ∃ step i, y2y q t l cs vs z = some (step, i) ∧ ((step = 0 ∧ i = 0 ∧ CalmP q t l vs) ∨ ((step = 1 ∨ step = 2 ∨ step = 3) ∧ Yk t i ∈ yc t ∧ zk q t l vs step (Yk t i) = true) ∨ (step = 4 ∧ ∃ j : Nat, i = j ∧ j < l.length ∧ ydq (yc t) l vs (l.getD j yx) = true)) := by
 have hfind : ∀ s, ¬ zE (zk q t l vs s) (yc t) 0 < 0 → Yk t (zE (zk q t l vs s) (yc t) 0) ∈ yc t ∧ zk q t l vs s (Yk t (zE (zk q t l vs s) (yc t) 0)) = true := fun s h0 => by
  rcases Yh (zk q t l vs s) yH (yc t) 0 (Int.le_refl _) with h | ⟨h1, h2, h3⟩
  ·omega
  ·rw [Int.sub_zero] at h3
   refine ⟨?_, h3⟩
   unfold Yk
   exact yW yH (yc t) _ h1 (by omega)
 have hnone : ∀ s, zE (zk q t l vs s) (yc t) 0 < 0 → ∀ k ∈ yc t, zk q t l vs s k = false := fun s h0 => Wp (yc t) 0 (Int.le_refl _) h0
 unfold y2y
 rw [if_pos hp]
 simp only [y9f, y3F]
 by_cases h1 : zE (zk q t l vs 1) (yc t) 0 < 0
 ·simp only [if_pos h1]
  by_cases h2 : zE (zk q t l vs 2) (yc t) 0 < 0
  ·simp only [if_pos h2]
   by_cases h3 : zE (zk q t l vs 3) (yc t) 0 < 0
   ·simp only [if_pos h3]
    unfold Q6
    by_cases h4 : zE (ydq (yc t) l vs) l 0 < 0
    ·rw [if_pos h4]
     exact ⟨0, 0, rfl, .inl ⟨rfl, rfl, hnone 1 h1, hnone 2 h2, hnone 3 h3, Wp l 0 (Int.le_refl _) h4⟩⟩
    ·rw [if_neg h4]
     refine ⟨4, _, rfl, .inr (.inr ⟨rfl, (zE (ydq (yc t) l vs) l 0).toNat, by omega, ?_⟩)⟩
     rcases Yh (ydq (yc t) l vs) yx l 0 (Int.le_refl _) with h | ⟨h5, h6, h7⟩
     ·omega
     ·rw [Int.sub_zero] at h7
      exact ⟨by omega, h7⟩
   ·simp only [if_neg h3]
    exact ⟨3, _, rfl, .inr (.inl ⟨.inr (.inr rfl), hfind 3 h3⟩)⟩
  ·simp only [if_neg h2]
   exact ⟨2, _, rfl, .inr (.inl ⟨.inr (.inl rfl), hfind 2 h2⟩)⟩
 ·simp only [if_neg h1]
  exact ⟨1, _, rfl, .inr (.inl ⟨.inl rfl, hfind 1 h1⟩)⟩
omit hp in
theorem y2F {step i : Int} (hn : y2y q t l cs vs z = some (step, i)) (h0 : step ≠ 0) {r : PO} (ht : Yg q t l cs vs z step i = (r, true)) (hr : y66 r = true) : VK q t l cs vs z = (r, true) := by
 unfold VK
 rw [hn]
 simp only
 rw [if_neg h0, ht]
 unfold yck
 rw [if_pos]
 simp only [Bool.and_eq_true]
 exact ⟨trivial, hr⟩
omit hp in
theorem yeK {i : Int} (hn : y2y q t l cs vs z = some (0, i)) : VK q t l cs vs z = ((q, t, l, cs, vs, z), false) := by
 unfold VK
 rw [hn]
 exact if_pos rfl
theorem ydI {k : y7} (hk : k ∈ yc t) (hd : ∀ v ∈ vs, ∀ b, 0 ≤ b → b < v.2.2.1 → y3M (yc (yk q t (jj k)).2.1) l b v.2.1 = y3M (yc t) l b v.2.1) : Stepped q t l cs vs z ((yk q t (jj k)).1, (yk q t (jj k)).2.1, l, jz q t cs k, vs, z) 1 0 :=
 ⟨yj1 hp hk, rfl, hd, fun v hv b b0 b1 => ynl hp hk (hd v hv b b0 b1), ygZ hp hk, ycA hp hk, rfl, ynm hp hk⟩
theorem yeL : ∃ step i, y2y q t l cs vs z = some (step, i) ∧ ((step = 0 ∧ i = 0 ∧ VK q t l cs vs z = ((q, t, l, cs, vs, z), false) ∧ CalmP q t l vs) ∨ ∃ r nK nA, VK q t l cs vs z = (r, true) ∧ Stepped q t l cs vs z r nK nA ∧ ((step = 1 ∨ step = 2) ∧ nK = 1 ∧ nA = 0 ∨ step = 3 ∧ nK = 0 ∧ nA = 0 ∨ step = 4 ∧ nK = 0 ∧ nA = 1)) := by
 have hr := ZI hp
 have hS := (zP hr.tree).srt
 have hL := y0H hr.ages
 obtain ⟨step, i, hn, h⟩ := yh5 hp
 refine ⟨step, i, hn, ?_⟩
 rcases h with ⟨rfl, rfl, hc⟩ | ⟨hs, hk, hb⟩ | ⟨rfl, j, rfl, hj, hb⟩
 ·exact .inl ⟨rfl, rfl, yeK hn, hc⟩
 ·refine .inr ?_
  generalize hkk : Yk t i = k at *
  have hm := fun x : y7 => Vr hp hk (x := x)
  have htry : step = 1 ∨ step = 2 → Yg q t l cs vs z step i = (((yk q t (jj k)).1, (yk q t (jj k)).2.1, l, jz q t cs k, vs, z), true) := fun h12 => by
   unfold Yg
   rw [if_pos h12, hkk, y9c hp hk]
  rcases hs with rfl | rfl | rfl
  ·have hst := ydI hp hk fun v hv b b0 b1 => ygU hS (y1P hp hk) hk hm fun he => by
    unfold zk at hb
    rw [if_pos rfl, Bool.not_eq_true'] at hb
    have hbk : k.1 = b := by
     rcases Wq (yc t) b (yN l v.2.1) with ⟨h1, _⟩ | ⟨d, hd, db, _, h1, _⟩
     ·rw [h1] at he
      cases he
     ·rw [h1] at he
      injection he with _ he
      rw [← he]
      exact db
    rw [(ycz hS hk).2 ⟨v, hv, by omega, by rw [hbk]; exact he⟩] at hb
    cases hb
   exact ⟨_, 1, 0, y2F hn (by decide) (htry (.inl rfl)) hst.ok, hst, .inl ⟨.inl rfl, rfl, rfl⟩⟩
  ·have hb' : k.2.2.1 = 2 ∧ (y3z t l k.1 k.2.1).1 = false := by
    unfold zk at hb
    rw [if_neg (by decide), if_pos rfl, Bool.and_eq_true, beq_iff_eq, Bool.not_eq_true'] at hb
    exact hb
   have hab : ∀ c ∈ yc t, c.1 = k.1 → c.2.1 ∉ (yN l k.2.1).drop 1 := fun c hc hcb hcp => by
    have h2 := hb'.2
    unfold y3z at h2
    rcases Wq (yc t) k.1 ((yN l k.2.1).drop 1) with ⟨h3, h4⟩ | ⟨d, _, _, _, h3, _⟩
    ·exact h4 c hc hcb hcp
    ·rw [h3] at h2
     cases h2
   have hst := ydI hp hk fun v hv b b0 b1 => yiZ hS (y1P hp hk) hk hm hL (by omega) hab b v.2.1
   exact ⟨_, 1, 0, y2F hn (by decide) (htry (.inr rfl)) hst.ok, hst, .inl ⟨.inr rfl, rfl, rfl⟩⟩
  ·have hb' : y3E l vs k.2.1 = true ∧ (YP q t k.1 ((zg l k.2.1).getD 0 0)).2.2.2.2.2 = false := by
    unfold zk at hb
    rw [if_neg (by decide), if_neg (by decide), Bool.and_eq_true, Bool.not_eq_true'] at hb
    exact hb
   obtain ⟨h1, h2⟩ := ynj.1 hb'.1
   obtain ⟨hc, hone⟩ := ynk h2
   generalize hcc : (zg l k.2.1).getD 0 0 = c at *
   have hok := y0K.1 (yh0 hp hk hc)
   have hno : ∀ d ∈ yc t, ¬ (d.1 = k.1 ∧ d.2.1 = c) := (y5m hr.tree hok.1 hok.2.1).2 hb'.2
   have hd : ∀ v ∈ vs, ∀ b, y3M (yc (y1Q q t k c).2.1) l b v.2.1 = y3M (yc t) l b v.2.1 := fun v hv b => yj0 hS (y2E hp hk hc) hk (fun x => y4t hp hk hc hno) hL hc hone hno (fun e => ydE.1 h1 v hv e) b
   have hst : Stepped q t l cs vs z ((y1Q q t k c).1, (y1Q q t k c).2.1, l, cs, vs, z) 0 0 :=
    ⟨yh1 hp hk hc hno, rfl, fun v hv b _ _ => hd v hv b, fun v hv b _ _ => by rw [y3f, y3f, hd v hv b], Int.le_refl _, yj2 hp hk hc hno, rfl, yj3 hp hk hc hno⟩
   refine ⟨_, 0, 0, y2F hn (by decide) ?_ hst.ok, hst, .inr (.inl ⟨rfl, rfl, rfl⟩)⟩
   have hput := y9d hp hk hc
   unfold y1Q at hput ⊢
   unfold Yg
   rw [if_neg (by decide), if_pos rfl, hkk, hcc, y9c hp hk, hput]
   rfl
 ·refine .inr ?_
  have hmem : l.getD j yx ∈ l := by
   rw [yF _ _ _ hj]
   exact List.getElem_mem _
  obtain ⟨a1, a2⟩ := wU (vd hmem)
  have a0 := vd hmem
  have hg := ygP hL hmem
  have hb' : Yq (y5r (l.getD j yx).1) (yc t) 0 = false ∧ y0s vs (l.getD j yx).1 = true := by
   unfold ydq at hb
   rw [Bool.and_eq_true, Bool.and_eq_true, Bool.not_eq_true'] at hb
   exact ⟨hb.1, hb.2.1⟩
  have hno : ∀ k ∈ yc t, k.2.1 ≠ (l.getD j yx).1 := fun k hk he => by
   obtain ⟨m, hm⟩ := J6 _ _ 0 hb'.1 k hk
   unfold y5r at hm
   rw [he] at hm
   simp at hm
  have hid := ydE.1 hb'.2
  have htry : Yg q t l cs vs z 4 (j : Int) = ((q, t, y3D l (yS l (l.getD j yx).1).toNat (l.getD j yx).1, cs, vs, z), true) := by
   unfold Yg y0D
   rw [if_neg (by decide), if_neg (by decide), Int.toNat_natCast, if_neg (by omega), if_pos hr.ages]
  have hm : (yS l (l.getD j yx).1).toNat < l.length := by omega
  generalize (yS l (l.getD j yx).1).toNat = m at *
  rw [← hg] at hno hid htry
  have hst : Stepped q t l cs vs z (q, t, y3D l m (l.getD m yx).1, cs, vs, z) 0 1 :=
   ⟨yh4 hp hm hno hid, rfl, fun v hv b _ _ => ydH hp hm hno hid hv b, fun v hv b _ _ => by rw [y3f, y3f, ydH hp hm hno hid hv b], Int.le_refl _, rfl, ycy hm, yj4 hm⟩
  exact ⟨_, 0, 1, y2F hn (by decide) htry hst.ok, hst, .inr (.inr ⟨rfl, rfl, rfl⟩)⟩
end
end Go.Proofs.YtjllpipmaejeoaaGreat.Pl
namespace Go.Proofs.YtjllpipmaejeoaaGreat.Pl
open Go.Proofs.YtjllpipmaejeoaaGreat.R Go.Proofs.YtjllpipmaejeoaaGreat.XV
def yh6 (K : List y7) (l : List y9) (cs : List y8) (v : yh) : List yb := (List.range v.2.2.1.toNat).map fun b : Nat => y9h K l cs b v.2.1
def y3g (K : List y7) (l : List y9) (cs : List y8) (vs : List yh) : List vC := vs.map fun v : yh => (v.1, v.2.2.2, yh6 K l cs v)
theorem yh7 {K K' : List y7} {l l' : List y9} {cs cs' : List y8} {v : yh} (h : ∀ b, 0 ≤ b → b < v.2.2.1 → y9h K' l' cs' b v.2.1 = y9h K l cs b v.2.1) : yh6 K' l' cs' v = yh6 K l cs v := by
 unfold yh6
 refine List.map_congr_left fun b hb => ?_
 have := List.mem_range.1 hb
 exact h b (by omega) (by omega)
theorem yh8 {K K' : List y7} {l l' : List y9} {cs cs' : List y8} {vs : List yh} (h : ∀ v ∈ vs, ∀ b, 0 ≤ b → b < v.2.2.1 → y9h K' l' cs' b v.2.1 = y9h K l cs b v.2.1) : y3g K' l' cs' vs = y3g K l cs vs := by
 unfold y3g
 refine List.map_congr_left fun v hv => ?_
 rw [yh7 (h v hv)]
section
variable {q : List yb} {t : List y0} {l : List y9} {cs : List y8} {vs : List yh} (z : Int) (h : SP q t l cs vs)
include h
theorem yeM {R : Type} (k n : Int) (k0 : 0 ≤ k) (k1 : k < (vs.length : Int)) (hr : 1 ≤ (yi vs k).2.2.1 ∧ (yi vs k).2.2.1 ≤ 12) (out : List vC) (v1 w1 : ByteArray) (v2 v3 : Int) (v4 w4 : Bool) (hv3 : v3 = (yi vs k).2.2.1) (c0 : _ → Option R) (c1 : _ → Option R) :
  V6 c0 c1 (Sum.inl (k, 0, vs, n, k, q, t, l, cs, vs, z, v1, v2, v3, v4, w1, w4, out)) = c1 (vs, n, k, q, t, l, cs, vs, z, w1, w4, out, yh6 (yc t) l cs (yi vs k)) := by
 subst hv3
 unfold V6
 have hblk : ∀ b : Int, 0 ≤ b → b < (yi vs k).2.2.1 → ZE (q, t, l, cs, vs, z, k, b) = some (y9h (yc t) l cs b (yi vs k).2.1) := fun b b0 b1 => y41 z h k b k0 k1 hr (zv.2 ⟨b0, by rw [w64 (n := (yi vs k).2.2.1 - 1) (by omega) (by omega)]; omega⟩)
 refine wQ (step := JF c0 c1) (fun u : kb => match u with | .inl _ => 20 | .inr u => (13 - u.2.1).toNat) (fun u => u = Sum.inl (k, 0, vs, n, k, q, t, l, cs, vs, z, v1, v2, (yi vs k).2.2.1, v4, w1, w4, out) ∨ ∃ b : Nat, u = Sum.inr (k, (b : Int), vs, n, k, q, t, l, cs, vs, z, v1, v2, (yi vs k).2.2.1, v4, w1, w4, out, (List.range b).map fun b : Nat => y9h (yc t) l cs b (yi vs k).2.1) ∧ 1 ≤ b ∧ (b : Int) ≤ (yi vs k).2.2.1) (fun _ res => res = c1 (vs, n, k, q, t, l, cs, vs, z, w1, w4, out, yh6 (yc t) l cs (yi vs k))) ?_ _ (.inl rfl) (by simp only; omega)
 rintro again _ (rfl | ⟨b, rfl, b1, b2⟩) hag
 ·unfold JF
  simp only [decide_eq_true (show (0 : Int) < (yi vs k).2.2.1 by omega), cond_true, Option.bind_some, hblk 0 (Int.le_refl _) (by omega), show decide ((0 : Int) < 12) = true from rfl]
  rw [if_pos (by simp only [List.length_cons, List.length_nil]; decide)]
  exact hag _ (.inr ⟨1, rfl, Nat.le_refl _, hr.1⟩) (by simp only; decide)
 ·unfold JF
  by_cases hb : (b : Int) < (yi vs k).2.2.1
  ·have hw : Go.IntKind.wrap .i64 ((b : Int) + 1) = (b : Int) + 1 := w64 (by omega) (by omega)
   simp only [decide_eq_true hb, cond_true, Option.bind_some, hblk b (by omega) hb, decide_eq_true (show (b : Int) < 12 by omega), hw]
   rw [if_pos (by simp only [List.length_map, List.length_range, List.length_cons, List.length_nil]; omega)]
   refine hag _ (.inr ⟨b + 1, ?_, by omega, by omega⟩) (by simp only; omega)
   rw [List.range_succ, List.map_append]
   simp
  ·simp only [decide_eq_false hb, cond_false, Option.bind_some]
   have : b = (yi vs k).2.2.1.toNat := by omega
   unfold yh6
   rw [this]
theorem y6c (hr : ∀ k, 0 ≤ k → k < (vs.length : Int) → 1 ≤ (yi vs k).2.2.1 ∧ (yi vs k).2.2.1 ≤ 12) : zL (q, t, l, cs, vs, z) = some (y3g (yc t) l cs vs) := by
 have hv := h.S.2.2.2.2.2
 unfold zL y09
 refine wQ (step := ke _) (fun u : kc => vs.length + 1 - u.2.2.1.toNat) (fun u => ∃ k : Nat, u = (vs, (vs.length : Int), (k : Int), q, t, l, cs, vs, z, (vs.take k).map fun v : yh => (v.1, v.2.2.2, yh6 (yc t) l cs v)) ∧ k ≤ vs.length) (fun _ res => res = some (y3g (yc t) l cs vs)) ?_ _ ⟨0, by simp, Nat.zero_le _⟩ (by simp only; omega)
 rintro again _ ⟨k, rfl, k1⟩ hag
 unfold ke
 by_cases hk : (k : Int) < (vs.length : Int)
 ·have hw : Go.IntKind.wrap .i64 ((k : Int) + 1) = (k : Int) + 1 := w64 (by omega) (by omega)
  simp only [decide_eq_true hk, cond_true]
  rw [if_pos (by omega), if_pos hk, yeM z h (k : Int) _ (by omega) hk (hr k (by omega) hk) _ _ _ _ _ _ _ rfl]
  simp only [hw]
  rw [if_pos (by simp only [List.length_map, List.length_take, List.length_cons, List.length_nil]; omega)]
  refine hag _ ⟨k + 1, ?_, by omega⟩ (by simp only; omega)
  rw [List.take_succ_eq_append_getElem (by omega), List.map_append, ← yF Y2 vs k (by omega)]
  rfl
 ·simp only [decide_eq_false hk, cond_false]
  unfold y3g
  rw [List.take_of_length_le (by omega)]
theorem y0L (hp : yr q t l cs vs z = true) : zL (q, t, l, cs, vs, z) = some (y3g (yc t) l cs vs) :=
 y6c z h fun k k0 k1 => by
  have := (ZI hp).size k.toNat (by omega)
  rwa [← ytZ, show ((k.toNat : Nat) : Int) = k by omega] at this
end
theorem y3h (a : List Int) (ha : a.length ≤ 1048576) : Zq (a, a) = some true := by
 unfold Zq vf
 simp only [bne_self_eq_false, cond_false]
 refine wQ (step := ZK _ _) (fun u : ZJ => a.length + 1 - u.2.2.2.toNat) (fun u => ∃ k : Nat, u = (a, a, (a.length : Int), (k : Int)) ∧ k ≤ a.length) (fun _ res => res = some true) ?_ _ ⟨0, rfl, Nat.zero_le _⟩ (by simp only; omega)
 rintro again _ ⟨k, rfl, k1⟩ hag
 unfold ZK
 by_cases hk : (k : Int) < (a.length : Int)
 ·have hw : Go.IntKind.wrap .i64 ((k : Int) + 1) = (k : Int) + 1 := w64 (by omega) (by omega)
  simp only [decide_eq_true hk, cond_true, bne_self_eq_false, cond_false, hw]
  rw [if_pos (by omega), if_pos hk, if_pos (by omega), if_pos hk]
  exact hag _ ⟨k + 1, rfl, by omega⟩ (by simp only; omega)
 ·simp only [decide_eq_false hk, cond_false]
theorem yaV (n : ByteArray) (f : Bool) (a : List Int) (ha : a.length ≤ 1048576) : wL (n, f, a, n, f, a) = some true := by
 unfold wL
 simp only [beq_self_eq_true, cond_true, Option.bind_some, y3h a ha]
theorem y9e (m : List vC) (hm : m.length ≤ 1048576) (hl : ∀ x ∈ m, List.length x.2.2 ≤ 1048576) : Yb (m, m) = some true := by
 unfold Yb zA YK
 simp only [bne_self_eq_false, cond_false]
 have key : zS (@z4 Bool (fun x2 => some x2) (fun x3 => some true)) Y4 (m, m, (m.length : Int), (0 : Int)) = some true := by
  refine wQ (step := z4 _ _) (fun u : zp => m.length + 1 - u.2.2.2.toNat) (fun u => ∃ k : Nat, u = (m, m, (m.length : Int), (k : Int)) ∧ k ≤ m.length) (fun _ res => res = some true) ?_ _ ⟨0, rfl, Nat.zero_le _⟩ (by simp only; omega)
  rintro again _ ⟨k, rfl, k1⟩ hag
  unfold z4
  by_cases hk : (k : Int) < (m.length : Int)
  ·have hw : Go.IntKind.wrap .i64 ((k : Int) + 1) = (k : Int) + 1 := w64 (by omega) (by omega)
   have hx : List.length (y4X m (k : Int)).2.2 ≤ 1048576 := hl _ (yW yuN m k (by omega) hk)
   simp only [decide_eq_true hk, cond_true, hw]
   rw [if_pos (by omega), if_pos hk, if_pos (by omega), if_pos hk, yaV _ _ _ hx]
   exact hag _ ⟨k + 1, rfl, by omega⟩ (by simp only; omega)
  ·simp only [decide_eq_false hk, cond_false]
 rw [key]
 rfl
theorem yj5 (K : List y7) (l : List y9) (cs : List y8) (v : yh) : (yh6 K l cs v).length = v.2.2.1.toNat := by
 unfold yh6
 rw [List.length_map, List.length_range]
theorem vq {q : List yb} {t : List y0} {l : List y9} {cs : List y8} {vs : List yh} {z : Int} (hp : yr q t l cs vs z = true) : Yb (y3g (yc t) l cs vs, y3g (yc t) l cs vs) = some true := by
 have hr := ZI hp
 have hf := hr.few
 refine y9e _ (by unfold y3g; rw [List.length_map]; omega) fun x hx => ?_
 unfold y3g at hx
 obtain ⟨v, hv, rfl⟩ := List.mem_map.1 hx
 obtain ⟨i, hi, rfl⟩ := List.mem_iff_getElem.1 hv
 have := hr.size i hi
 rw [yF _ _ _ hi] at this
 show (yh6 (yc t) l cs vs[i]).length ≤ _
 rw [yj5]
 omega
end Go.Proofs.YtjllpipmaejeoaaGreat.Pl
namespace Go.Proofs.YtjllpipmaejeoaaGreat.Pl
open Go.Proofs.YtjllpipmaejeoaaGreat.R Go.Proofs.YtjllpipmaejeoaaGreat.XV
theorem yeN {q : List yb} {t : List y0} {l : List y9} {cs : List y8} {vs : List yh} (z : Int) (h : SP q t l cs vs) : j6 (q, t, l, cs, vs, z, q, t, l, cs, vs, z) = some true := by
 rw [y48 z h.S, y69]
theorem law_Prunes (x : List Int) (hbx : isBytes x) : Z3 x = some true := by
 unfold Z3 y0S
 simp only [Option.bind_some]
 cases hbig : decide ((List.length x : Int) > (1048576 : Int)) with
 | true => rfl
 | false =>
  have hx : x.length ≤ 1048576 := by
   have := of_decide_eq_false hbig
   omega
  obtain ⟨q, t, l, cs, vs, z, o, e, hp⟩ := y6a x hx
  have h := (y3b hp).sp
  have hr := ZI hp
  obtain ⟨step, i, hn, hs⟩ := yeL hp
  have hnext : Z1 (q, t, l, cs, vs, z) = some (step, i) := (y3G q t l cs vs z h.tq.T h.S.1 h.S.2.2.2.1 h.S.2.2.2.2.1 h.S.2.2.2.2.2 h.N).trans hn
  have keys : ∀ {q : List yb} {t : List y0}, TOk t → za (q, t) = some (yc t) := fun {q t} ht => jU q t (by have := ht.len; omega) ht.nodes ht.sum
  simp only [e, Option.bind_some, cond_false, y3a z h, hnext]
  rcases hs with ⟨rfl, rfl, hk, _⟩ | ⟨⟨q', t', l', cs', vs', z'⟩, nK, nA, hk, hst, hc⟩
  ·simp only [hk, y1L, yeN z h, Option.bind_some, yiz, beq_self_eq_true, Bool.not_true, Bool.not_false, cond_false, cond_true]
  ·have hv : vs' = vs := hst.vsE
   subst hv
   have hp' : yr q' t' l' cs' vs' z' = true := hst.ok
   have h' := (y3b hp').sp
   have hm : y3g (yc t') l' cs' vs' = y3g (yc t) l cs vs' := yh8 fun v hv b b0 b1 => hst.val v hv b b0 b1
   have hu : QA cs' ≤ QA cs := hst.used
   have hk1 : (yc t').length + nK = (yc t).length := hst.keys
   have ha1 : l'.length + nA = l.length := hst.ages
   have hf := vp hr.tree
   have hla : l.length ≤ 1048576 := h.S.2.2.2.1
   have k0 : nK = 0 → ((List.length (yc t') : Int) == Go.IntKind.wrap .i64 ((List.length (yc t) : Int) - (0 : Int))) = true := fun e => by
    rw [w64 (by omega) (by omega), beq_iff_eq]
    omega
   have k1 : nK = 1 → ((List.length (yc t') : Int) == Go.IntKind.wrap .i64 ((List.length (yc t) : Int) - (1 : Int))) = true := fun e => by
    rw [w64 (by omega) (by omega), beq_iff_eq]
    omega
   have a0 : nA = 0 → ((List.length l' : Int) == Go.IntKind.wrap .i64 ((List.length l : Int) - (0 : Int))) = true := fun e => by
    rw [w64 (by omega) (by omega), beq_iff_eq]
    omega
   have a1 : nA = 1 → ((List.length l' : Int) == Go.IntKind.wrap .i64 ((List.length l : Int) - (1 : Int))) = true := fun e => by
    rw [w64 (by omega) (by omega), beq_iff_eq]
    omega
   have u1 := y0p cs (by rw [Ki hr.cells]; decide)
   have u2 := y0p cs' (by rw [Ki (ZI hp').cells]; decide)
   have key : ∀ B : Bool, B = true → True := fun _ _ => trivial
   rcases hc with ⟨rfl | rfl, hK, hA⟩ | ⟨rfl, hK, hA⟩ | ⟨rfl, hK, hA⟩
   ·simp only [hk, y1L, yiA, y8V, y8W, beq_self_eq_true, Bool.not_true, cond_false, cond_true, keys h.tq.T, keys h'.tq.T, Option.bind_some, wT z' h', hp', y0L z h hp, y0L z' h' hp', hm, vq hp, k1 hK, a0 hA, u1, u2, decide_eq_true hu]
   ·simp only [hk, y1L, yiB, y8X, y8Y, beq_self_eq_true, Bool.not_true, cond_false, cond_true, keys h.tq.T, keys h'.tq.T, Option.bind_some, wT z' h', hp', y0L z h hp, y0L z' h' hp', hm, vq hp, k1 hK, a0 hA, u1, u2, decide_eq_true hu]
   ·simp only [hk, y1L, yiC, y8Z, y90, beq_self_eq_true, Bool.not_true, cond_false, cond_true, keys h.tq.T, keys h'.tq.T, Option.bind_some, wT z' h', hp', y0L z h hp, y0L z' h' hp', hm, vq hp, k0 hK, a0 hA, u1, u2, decide_eq_true hu]
   ·simp only [hk, y1L, yiD, y91, y92, beq_self_eq_true, Bool.not_true, cond_false, cond_true, keys h.tq.T, keys h'.tq.T, Option.bind_some, wT z' h', hp', y0L z h hp, y0L z' h' hp', hm, vq hp, k0 hK, a1 hA, u1, u2, decide_eq_true hu]
end Go.Proofs.YtjllpipmaejeoaaGreat.Pl
